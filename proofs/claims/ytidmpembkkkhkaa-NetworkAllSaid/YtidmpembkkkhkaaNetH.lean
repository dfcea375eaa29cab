/- The program's cutting. No conditions. -/
import Derived.Test.YtidmpembkkkhkaaNetG
set_option linter.unusedSimpArgs false
set_option linter.unusedVariables false
namespace Go.Proofs.Ytidmpembkkkhkaa
open Go Go.Proofs Go.Abs

theorem _root_.Go.Abs.OwnAt.cong {K K' j : AH} {m : Nat} {own : Abs.Own} (e : K.length = K'.length) (ho : OwnAt K j m own) : OwnAt K' j m own := by
  cases own with
  | free => exact ho
  | full => trivial
  | arena i => obtain ⟨i', h1, h2⟩ := ho; exact ⟨i', by rw [← e]; exact h1, h2⟩
theorem app7 {α : Type} (h j : List α) (a b c d e f g : α) : h ++ a :: b :: c :: d :: e :: f :: g :: j = (h ++ [a, b, c, d, e, f]) ++ g :: j := by simp

theorem cut_calls (Γ : Nat → Option (List AV)) (n : Nt) (a b : Int) (on : Bool) (h : AH) (hq : n.q.length ≤ 9223372036854775807) (ha : n.a.length ≤ 9223372036854775807) :
    ACalls Try.prog Γ 20 [encN n, .int .i64 a, .int .i64 b, .bool on] h fun v h' => h' = h ∧ v = encS (cutF n a b on) := by
  refine ACalls.dropL ?_
  refine acalls_code (rs := [.cell 8 25, .tmp 9]) Try.func20 rfl rfl rfl rfl Ty.mixed (by kernel_rfl) ?_
  simp (disch := omega) only [go_sem, bne_self_eq_false, beq_self_eq_true, true_and, and_true, decide_true, decide_false, wrap_i64, ↓reduceIte, Nat.reduceAdd, Nat.reduceSub, Nat.reduceMul, Nat.reduceEqDiff, Nat.reduceLeDiff, Int.reduceAdd, Int.reduceSub, Int.reduceNeg, Int.reduceLT, Int.reduceLE, Int.reduceEq, Int.reduceToNat, Nat.reduceMod]
  refine ACalls.det (check_calls Γ n _ hq ha) ?_
  simp (disch := omega) only [go_sem, bne_self_eq_false, beq_self_eq_true, true_and, and_true, decide_true, decide_false, wrap_i64, ↓reduceIte, Nat.reduceAdd, Nat.reduceSub, Nat.reduceMul, Nat.reduceEqDiff, Nat.reduceLeDiff, Int.reduceAdd, Int.reduceSub, Int.reduceNeg, Int.reduceLT, Int.reduceLE, Int.reduceEq, Int.reduceToNat, Nat.reduceMod]
  refine aIf.intro (fun h1 => ?_) (fun h1 => ?_) <;> simp (disch := omega) only [go_sem, bne_self_eq_false, beq_self_eq_true, true_and, and_true, decide_true, decide_false, wrap_i64, ↓reduceIte, Nat.reduceAdd, Nat.reduceSub, Nat.reduceMul, Nat.reduceEqDiff, Nat.reduceLeDiff, Int.reduceAdd, Int.reduceSub, Int.reduceNeg, Int.reduceLT, Int.reduceLE, Int.reduceEq, Int.reduceToNat, Nat.reduceMod]
  rotate_left
  · simp [cutF, h1, encS, encN, zN]
  refine ACalls.det (between_calls Γ a b _) ?_
  simp (disch := omega) only [go_sem, bne_self_eq_false, beq_self_eq_true, true_and, and_true, decide_true, decide_false, wrap_i64, ↓reduceIte, Nat.reduceAdd, Nat.reduceSub, Nat.reduceMul, Nat.reduceEqDiff, Nat.reduceLeDiff, Int.reduceAdd, Int.reduceSub, Int.reduceNeg, Int.reduceLT, Int.reduceLE, Int.reduceEq, Int.reduceToNat, Nat.reduceMod]
  refine ACalls.det (valid_calls Γ _ _) ?_
  simp (disch := omega) only [go_sem, bne_self_eq_false, beq_self_eq_true, true_and, and_true, decide_true, decide_false, wrap_i64, ↓reduceIte, Nat.reduceAdd, Nat.reduceSub, Nat.reduceMul, Nat.reduceEqDiff, Nat.reduceLeDiff, Int.reduceAdd, Int.reduceSub, Int.reduceNeg, Int.reduceLT, Int.reduceLE, Int.reduceEq, Int.reduceToNat, Nat.reduceMod]
  refine aBr.intro (fun hv => ?_) (fun hv => ?_) <;> simp (disch := omega) only [go_sem, bne_self_eq_false, beq_self_eq_true, true_and, and_true, decide_true, decide_false, wrap_i64, ↓reduceIte, Nat.reduceAdd, Nat.reduceSub, Nat.reduceMul, Nat.reduceEqDiff, Nat.reduceLeDiff, Int.reduceAdd, Int.reduceSub, Int.reduceNeg, Int.reduceLT, Int.reduceLE, Int.reduceEq, Int.reduceToNat, Nat.reduceMod]
  rotate_left
  · have hv : validF (betw a b) = false := by rw [hv]; rfl
    simp [cutF, h1, hv, encS, encN, zN]
  simp (disch := omega) only [go_sem, bne_self_eq_false, beq_self_eq_true, true_and, and_true, decide_true, decide_false, wrap_i64, ↓reduceIte, Nat.reduceAdd, Nat.reduceSub, Nat.reduceMul, Nat.reduceEqDiff, Nat.reduceLeDiff, Int.reduceAdd, Int.reduceSub, Int.reduceNeg, Int.reduceLT, Int.reduceLE, Int.reduceEq, Int.reduceToNat, Nat.reduceMod, encN]
  refine acalls_code (rs := [.tmp 6]) Try.func39 rfl rfl rfl rfl Ty.mixed (by kernel_rfl) ?_
  simp (disch := omega) only [go_sem, bne_self_eq_false, beq_self_eq_true, true_and, and_true, decide_true, decide_false, wrap_i64, ↓reduceIte, Nat.reduceAdd, Nat.reduceSub, Nat.reduceMul, Nat.reduceEqDiff, Nat.reduceLeDiff, Int.reduceAdd, Int.reduceSub, Int.reduceNeg, Int.reduceLT, Int.reduceLE, Int.reduceEq, Int.reduceToNat, Nat.reduceMod]
  refine AWP.keep [30, 9, 8] ?_
  simp (disch := omega) only [go_sem, bne_self_eq_false, beq_self_eq_true, true_and, and_true, decide_true, decide_false, wrap_i64, ↓reduceIte, Nat.reduceAdd, Nat.reduceSub, Nat.reduceMul, Nat.reduceEqDiff, Nat.reduceLeDiff, Int.reduceAdd, Int.reduceSub, Int.reduceNeg, Int.reduceLT, Int.reduceLE, Int.reduceEq, Int.reduceToNat, Nat.reduceMod]
  refine awp_rangeFuncL rfl (fun li hli => ?_)
  simp (disch := omega) only [go_sem, bne_self_eq_false, beq_self_eq_true, true_and, and_true, decide_true, decide_false, wrap_i64, ↓reduceIte, Nat.reduceAdd, Nat.reduceSub, Nat.reduceMul, Nat.reduceEqDiff, Nat.reduceLeDiff, Int.reduceAdd, Int.reduceSub, Int.reduceNeg, Int.reduceLT, Int.reduceLE, Int.reduceEq, Int.reduceToNat, Nat.reduceMod]
  obtain ⟨c, hc⟩ : ∃ c, c = betw a b := ⟨_, rfl⟩
  have htl := cutL_len n.a c on
  rw [← hc]
  obtain ⟨K, hK⟩ : ∃ K : List (Int × Int) → Abs.Own → AObj → AH, K = fun don own lo => h ++ [.row [.sl (n.q.map encK) .free, .sl (n.a.map encL) .free] 25, .row [.sl (n.q.map encK) .free, .sl (don.map encL) own] 25, .row (encL c).cells 58, .row [.sl (n.a.map encL) .free] 23, .row (encL c).cells 58, .row [.bool on] 4, lo] := ⟨_, rfl⟩
  have Klen : ∀ don own lo, (K don own lo).length = h.length + 7 := by subst hK; simp
  have Kx : ∀ don own lo j, (K don own lo ++ j)[h.length + 1]? = some (.row [.sl (n.q.map encK) .free, .sl (don.map encL) own] 25) := by subst hK; simp
  have Ka : ∀ don own lo j, (K don own lo ++ j)[h.length + 3]? = some (.row [.sl (n.a.map encL) .free] 23) := by subst hK; simp
  have Kc : ∀ don own lo j, (K don own lo ++ j)[h.length + 4]? = some (.row (encL c).cells 58) := by subst hK; simp
  have Ko : ∀ don own lo j, (K don own lo ++ j)[h.length + 5]? = some (.row [.bool on] 4) := by subst hK; simp
  have Kl : ∀ don own lo j, (K don own lo ++ j)[h.length + 6]? = some lo := by subst hK; simp
  have Kj : ∀ don own lo j r, (K don own lo ++ (j ++ [r]))[h.length + 7 + j.length]? = some r := by intro don own lo j r; rw [← Klen don own lo, hget_add]; simp
  have Sx : ∀ don own lo j don' own', (K don own lo ++ j).set (h.length + 1) (.row [.sl (n.q.map encK) .free, .sl (don'.map encL) own'] 25) = K don' own' lo ++ j := by subst hK; simp
  have Sl : ∀ don own lo j lo', (K don own lo ++ j).set (h.length + 6) lo' = K don own lo' ++ j := by subst hK; simp
  have Sj : ∀ don own lo j r r', (K don own lo ++ (j ++ [r])).set (h.length + 7 + j.length) r' = K don own lo ++ (j ++ [r']) := by intro don own lo j r r'; rw [← Klen don own lo, hset_add]; simp
  have Kj2 : ∀ don own lo j r r2, (K don own lo ++ (j ++ [r, r2]))[h.length + 7 + (j.length + 1)]? = some r2 := by intro don own lo j r r2; rw [← Klen don own lo, hget_add]; simp
  have Sj2 : ∀ don own lo j r r2 r', (K don own lo ++ (j ++ [r, r2])).set (h.length + 7 + (j.length + 1)) r' = K don own lo ++ (j ++ [r, r']) := by intro don own lo j r r2 r'; rw [← Klen don own lo, hset_add]; simp
  have Sx2 : ∀ don own lo j (z : Int × Int) own', (K don own lo ++ j).set (h.length + 1) (.row [.sl (n.q.map encK) .free, .sl (don.map encL ++ [.agg [.int .i64 z.1, .int .i64 z.2]]) own'] 25) = K (don ++ [z]) own' lo ++ j := by
    intro don own lo j z own'
    rw [← Sx don own lo j (don ++ [z]) own', List.map_append]; rfl
  refine ACalls.loos ?_
  refine ACalls.heap (h1 := K [] .full (.loop .ready none li) ++ []) ?_ (by subst hK; simp)
  refine acalls_code (rs := []) Try.func46 rfl rfl rfl rfl Ty.mixed (by kernel_rfl) ?_
  simp (disch := omega) only [go_sem, bne_self_eq_false, beq_self_eq_true, true_and, and_true, decide_true, decide_false, wrap_i64, ↓reduceIte, Nat.reduceAdd, Nat.reduceSub, Nat.reduceMul, Nat.reduceEqDiff, Nat.reduceLeDiff, Int.reduceAdd, Int.reduceSub, Int.reduceNeg, Int.reduceLT, Int.reduceLE, Int.reduceEq, Int.reduceToNat, Nat.reduceMod]
  refine awp_loopS (α := CutS) [8, 3, 2, 1, 0] (fun s => [(8, .int .i64 s.x), (3, .ptr (some (h.length + 3, 0))), (2, .ptr (some (h.length + 5, 0))), (1, .ptr (some (h.length + 4, 0))), (0, .yield (h.length + 6))])
    (fun s => K s.don s.own (.loop .ready none li) ++ s.j) (fun s => s.x ≤ 24 ∧ OwnAt (K [] .full (.loop .ready none li)) s.j s.don.length s.own ∧ cutL n.a c on = s.don ++ (pairsP s.x (24 - s.x)).filter (keepL n.a c on)) (fun s => 24 - s.x) ⟨0, 0, [], .full, []⟩ ?_ (by simp) ⟨by decide, trivial, rfl⟩ Ty.mixed (by kernel_rfl) ?_
  · simp (disch := omega) only [go_sem, bne_self_eq_false, beq_self_eq_true, true_and, and_true, decide_true, decide_false, wrap_i64, ↓reduceIte, Nat.reduceAdd, Nat.reduceSub, Nat.reduceMul, Nat.reduceEqDiff, Nat.reduceLeDiff, Int.reduceAdd, Int.reduceSub, Int.reduceNeg, Int.reduceLT, Int.reduceLE, Int.reduceEq, Int.reduceToNat, Nat.reduceMod]
  rintro ⟨x, y0, don, own, j⟩ ⟨hx, ho, ht⟩
  simp only at hx ho ht ⊢
  simp (disch := omega) only [go_sem, bne_self_eq_false, beq_self_eq_true, true_and, and_true, decide_true, decide_false, wrap_i64, ↓reduceIte, Nat.reduceAdd, Nat.reduceSub, Nat.reduceMul, Nat.reduceEqDiff, Nat.reduceLeDiff, Int.reduceAdd, Int.reduceSub, Int.reduceNeg, Int.reduceLT, Int.reduceLE, Int.reduceEq, Int.reduceToNat, Nat.reduceMod]
  refine aIf.intro (fun hx2 => ?_) (fun hx2 => ?_) <;> simp (disch := omega) only [go_sem, bne_self_eq_false, beq_self_eq_true, true_and, and_true, decide_true, decide_false, wrap_i64, ↓reduceIte, Nat.reduceAdd, Nat.reduceSub, Nat.reduceMul, Nat.reduceEqDiff, Nat.reduceLeDiff, Int.reduceAdd, Int.reduceSub, Int.reduceNeg, Int.reduceLT, Int.reduceLE, Int.reduceEq, Int.reduceToNat, Nat.reduceMod]
  rotate_left
  · have e3 : 24 - x = 0 := by omega
    rw [e3, pairsP, List.filter_nil, List.append_nil] at ht
    refine ⟨K don .free (.loop .ready none li) ++ j, ?_, _, .ready, none, j, by subst hK; simp only [List.append_assoc, List.cons_append, List.nil_append]; rw [app7], ?_, by simp, ?_⟩
    · have := Loos.set (Kx don own (.loop .ready none li) j)
      simp only [looseL, loose, loose_Ks, loose_Ls] at this
      rw [Sx] at this
      exact this
    · have q1 := LoopKept.set (h := h ++ [.row [.sl (n.q.map encK) .free, .sl (n.a.map encL) .free] 25, .row [.sl (n.q.map encK) .free, .sl [] .full] 25, .row (encL c).cells 58, .row [.sl (n.a.map encL) .free] 23, .row (encL c).cells 58, .row [.bool on] 4])
        (i := h.length + 1) (ob := .row [.sl (n.q.map encK) .free, .sl (don.map encL) .free] 25) (RBs.cons (rb_Ks0 _ _) (RBs.cons (rb_Ls0 _ _) (RBs.nil _))) (by simp)
      simp only [hset_add, List.set_cons_succ, List.set_cons_zero] at q1
      exact q1
    · simp (disch := omega) only [go_sem, bne_self_eq_false, beq_self_eq_true, true_and, and_true, decide_true, decide_false, wrap_i64, ↓reduceIte, Nat.reduceAdd, Nat.reduceSub, Nat.reduceMul, Nat.reduceEqDiff, Nat.reduceLeDiff, Int.reduceAdd, Int.reduceSub, Int.reduceNeg, Int.reduceLT, Int.reduceLE, Int.reduceEq, Int.reduceToNat, Nat.reduceMod]
      refine AWP.keep [9, 8] (aCode_ok Ty.mixed _ _ _ _ (by kernel_rfl) ?_)
      simp (disch := omega) only [go_sem, bne_self_eq_false, beq_self_eq_true, true_and, and_true, decide_true, decide_false, wrap_i64, ↓reduceIte, Nat.reduceAdd, Nat.reduceSub, Nat.reduceMul, Nat.reduceEqDiff, Nat.reduceLeDiff, Int.reduceAdd, Int.reduceSub, Int.reduceNeg, Int.reduceLT, Int.reduceLE, Int.reduceEq, Int.reduceToNat, Nat.reduceMod]
      rw [hc] at ht
      simp [cutF, h1, hv, ht, encS, encN]
  refine awp_loopS (α := CutS) [8, 6, 5, 3, 2, 1, 0] (fun s => [(8, .int .i64 x), (6, .int .i64 s.y), (5, .int .i64 x), (3, .ptr (some (h.length + 3, 0))), (2, .ptr (some (h.length + 5, 0))), (1, .ptr (some (h.length + 4, 0))), (0, .yield (h.length + 6))])
    (fun s => K s.don s.own (.loop .ready none li) ++ s.j) (fun s => x < s.y ∧ s.y ≤ 24 ∧ OwnAt (K [] .full (.loop .ready none li)) s.j s.don.length s.own ∧ cutL n.a c on = s.don ++ ((rowP x s.y (24 - s.y)).filter (keepL n.a c on) ++ (pairsP (x + 1) (23 - x)).filter (keepL n.a c on))) (fun s => 24 - s.y) ⟨x, x + 1, don, own, j⟩ ?_ (by simp) ⟨by simp, by simp; omega, ho, ?_⟩ Ty.mixed (by kernel_rfl) ?_
  · simp (disch := omega) only [go_sem, bne_self_eq_false, beq_self_eq_true, true_and, and_true, decide_true, decide_false, wrap_i64, ↓reduceIte, Nat.reduceAdd, Nat.reduceSub, Nat.reduceMul, Nat.reduceEqDiff, Nat.reduceLeDiff, Int.reduceAdd, Int.reduceSub, Int.reduceNeg, Int.reduceLT, Int.reduceLE, Int.reduceEq, Int.reduceToNat, Nat.reduceMod]
  · simp only
    rw [ht]
    have e1 : 24 - x = (23 - x) + 1 := by omega
    have e2 : 24 - (x + 1) = 23 - x := by omega
    rw [e1, pairsP, List.filter_append, e2]
  rintro ⟨x0, y, don, own, j⟩ ⟨hxy, hy, ho, ht⟩
  simp only at hxy hy ho ht ⊢
  simp (disch := omega) only [go_sem, bne_self_eq_false, beq_self_eq_true, true_and, and_true, decide_true, decide_false, wrap_i64, ↓reduceIte, Nat.reduceAdd, Nat.reduceSub, Nat.reduceMul, Nat.reduceEqDiff, Nat.reduceLeDiff, Int.reduceAdd, Int.reduceSub, Int.reduceNeg, Int.reduceLT, Int.reduceLE, Int.reduceEq, Int.reduceToNat, Nat.reduceMod]
  refine aIf.intro (fun hy2 => ?_) (fun hy2 => ?_) <;> simp (disch := omega) only [go_sem, bne_self_eq_false, beq_self_eq_true, true_and, and_true, decide_true, decide_false, wrap_i64, ↓reduceIte, Nat.reduceAdd, Nat.reduceSub, Nat.reduceMul, Nat.reduceEqDiff, Nat.reduceLeDiff, Int.reduceAdd, Int.reduceSub, Int.reduceNeg, Int.reduceLT, Int.reduceLE, Int.reduceEq, Int.reduceToNat, Nat.reduceMod]
  rotate_left
  · have e1 : 24 - y = 0 := by omega
    have e2 : 24 - (x + 1) = 23 - x := by omega
    refine AWP.keep [8, 3, 2, 1, 0] (aCode_ok Ty.mixed _ _ _ _ (by kernel_rfl) ?_)
    simp (disch := omega) only [go_sem, bne_self_eq_false, beq_self_eq_true, true_and, and_true, decide_true, decide_false, wrap_i64, ↓reduceIte, Nat.reduceAdd, Nat.reduceSub, Nat.reduceMul, Nat.reduceEqDiff, Nat.reduceLeDiff, Int.reduceAdd, Int.reduceSub, Int.reduceNeg, Int.reduceLT, Int.reduceLE, Int.reduceEq, Int.reduceToNat, Nat.reduceMod]
    refine roundS_next ⟨x + 1, 0, don, own, j⟩ (by simp only; omega) ⟨by simp only; omega, ho, ?_⟩ ?_ rfl
    · rw [ht, e1, rowP, List.filter_nil, List.nil_append]; simp only [e2]
    · simp (disch := omega) only [go_sem, bne_self_eq_false, beq_self_eq_true, true_and, and_true, decide_true, decide_false, wrap_i64, ↓reduceIte, Nat.reduceAdd, Nat.reduceSub, Nat.reduceMul, Nat.reduceEqDiff, Nat.reduceLeDiff, Int.reduceAdd, Int.reduceSub, Int.reduceNeg, Int.reduceLT, Int.reduceLE, Int.reduceEq, Int.reduceToNat, Nat.reduceMod]
  have e1 : 24 - y = (23 - y) + 1 := by omega
  have e2 : 24 - (y + 1) = 23 - y := by omega
  rw [e1, rowP, List.filter_cons] at ht
  have hlen : don.length ≤ 276 := by rw [ht] at htl; simp at htl; omega
  simp (disch := omega) only [go_sem, bne_self_eq_false, beq_self_eq_true, true_and, and_true, decide_true, decide_false, wrap_i64, ↓reduceIte, Nat.reduceAdd, Nat.reduceSub, Nat.reduceMul, Nat.reduceEqDiff, Nat.reduceLeDiff, Int.reduceAdd, Int.reduceSub, Int.reduceNeg, Int.reduceLT, Int.reduceLE, Int.reduceEq, Int.reduceToNat, Nat.reduceMod, Klen, Kj, Sj, Kc, Ko, Ka, encL, AV.cells]
  have hxc : (decide ((x : Int) = c.1) && decide ((y : Int) = c.2)) = decide (((x : Int), (y : Int)) = c) := by
    rw [Bool.eq_iff_iff]; simp [Prod.ext_iff]
  rw [hxc]
  simp (disch := omega) only [go_sem, bne_self_eq_false, beq_self_eq_true, true_and, and_true, decide_true, decide_false, wrap_i64, ↓reduceIte, Nat.reduceAdd, Nat.reduceSub, Nat.reduceMul, Nat.reduceEqDiff, Nat.reduceLeDiff, Int.reduceAdd, Int.reduceSub, Int.reduceNeg, Int.reduceLT, Int.reduceLE, Int.reduceEq, Int.reduceToNat, Nat.reduceMod]
  refine aIf.intro (fun hz => ?_) (fun hz => ?_) <;> simp (disch := omega) only [go_sem, bne_self_eq_false, beq_self_eq_true, true_and, and_true, decide_true, decide_false, wrap_i64, ↓reduceIte, Nat.reduceAdd, Nat.reduceSub, Nat.reduceMul, Nat.reduceEqDiff, Nat.reduceLeDiff, Int.reduceAdd, Int.reduceSub, Int.reduceNeg, Int.reduceLT, Int.reduceLE, Int.reduceEq, Int.reduceToNat, Nat.reduceMod]
  · simp (disch := omega) only [go_sem, bne_self_eq_false, beq_self_eq_true, true_and, and_true, decide_true, decide_false, wrap_i64, ↓reduceIte, Nat.reduceAdd, Nat.reduceSub, Nat.reduceMul, Nat.reduceEqDiff, Nat.reduceLeDiff, Int.reduceAdd, Int.reduceSub, Int.reduceNeg, Int.reduceLT, Int.reduceLE, Int.reduceEq, Int.reduceToNat, Nat.reduceMod, Ko]
    refine aBr.intro (fun hon => ?_) (fun hon => ?_) <;> simp (disch := omega) only [go_sem, bne_self_eq_false, beq_self_eq_true, true_and, and_true, decide_true, decide_false, wrap_i64, ↓reduceIte, Nat.reduceAdd, Nat.reduceSub, Nat.reduceMul, Nat.reduceEqDiff, Nat.reduceLeDiff, Int.reduceAdd, Int.reduceSub, Int.reduceNeg, Int.reduceLT, Int.reduceLE, Int.reduceEq, Int.reduceToNat, Nat.reduceMod, Klen, Kj, Sj, Kc, Ko, Ka, encL, AV.cells, hxc]
    · have hkeep : ¬ keepL n.a c on ((x : Int), (y : Int)) = true := by rw [keepL, if_pos hz, hon]; decide
      refine roundS_next ⟨x, y + 1, don, own, j ++ [.row [.int .i64 x, .int .i64 y] 58]⟩ (by simp only; omega) ⟨by simp only; omega, by simp only; omega, ho.app _, ?_⟩ ?_ rfl
      · rw [ht, if_neg hkeep]; simp [e2]
      · simp (disch := omega) only [go_sem, bne_self_eq_false, beq_self_eq_true, true_and, and_true, decide_true, decide_false, wrap_i64, ↓reduceIte, Nat.reduceAdd, Nat.reduceSub, Nat.reduceMul, Nat.reduceEqDiff, Nat.reduceLeDiff, Int.reduceAdd, Int.reduceSub, Int.reduceNeg, Int.reduceLT, Int.reduceLE, Int.reduceEq, Int.reduceToNat, Nat.reduceMod]
    · have hkeep : keepL n.a c on ((x : Int), (y : Int)) = true := by rw [keepL, if_pos hz, hon]; rfl
      refine aIf.pos hz ?_
      simp (disch := omega) only [go_sem, bne_self_eq_false, beq_self_eq_true, true_and, and_true, decide_true, decide_false, wrap_i64, ↓reduceIte, Nat.reduceAdd, Nat.reduceSub, Nat.reduceMul, Nat.reduceEqDiff, Nat.reduceLeDiff, Int.reduceAdd, Int.reduceSub, Int.reduceNeg, Int.reduceLT, Int.reduceLE, Int.reduceEq, Int.reduceToNat, Nat.reduceMod, Klen, Kj, Sj, Kc, Ko, Ka, encL, AV.cells, hxc]
      refine ayield_L hli (Kl _ _ _ _) rfl rfl Ty.mixed (by kernel_rfl) rfl ?_
      simp (disch := omega) only [go_sem, bne_self_eq_false, beq_self_eq_true, true_and, and_true, decide_true, decide_false, wrap_i64, ↓reduceIte, Nat.reduceAdd, Nat.reduceSub, Nat.reduceMul, Nat.reduceEqDiff, Nat.reduceLeDiff, Int.reduceAdd, Int.reduceSub, Int.reduceNeg, Int.reduceLT, Int.reduceLE, Int.reduceEq, Int.reduceToNat, Nat.reduceMod, Klen, Kl, Sl, Kx, Kj2, Sj2]
      refine aAp_sl (by rw [List.length_map]; exact (ho.app _).cong (by rw [Klen, Klen])) (rows_L _) (rows_L [((x : Int), (y : Int))]) (by simp; omega) (by simp; omega) fun j' own' ho' hg => ?_
      have Sx3 : ∀ lo, (K don own lo ++ j').set (h.length + 1) (.row [.sl (n.q.map encK) .free, .sl (don.map encL ++ [.agg [.int .i64 (x : Int), .int .i64 (y : Int)]]) own'] 25) = K (don ++ [((x : Int), (y : Int))]) own' lo ++ j' := fun lo => Sx2 don own lo j' ((x : Int), (y : Int)) own'
      simp (disch := omega) only [go_sem, bne_self_eq_false, beq_self_eq_true, true_and, and_true, decide_true, decide_false, wrap_i64, ↓reduceIte, Nat.reduceAdd, Nat.reduceSub, Nat.reduceMul, Nat.reduceEqDiff, Nat.reduceLeDiff, Int.reduceAdd, Int.reduceSub, Int.reduceNeg, Int.reduceLT, Int.reduceLE, Int.reduceEq, Int.reduceToNat, Nat.reduceMod, Klen, Kl, Sl, Kx, Sx3]
      refine roundS_next ⟨x, y + 1, don ++ [((x : Int), (y : Int))], own', j'⟩ (by simp only; omega) ⟨by simp only; omega, by simp only; omega, ?_, ?_⟩ ?_ rfl
      · have := ho'.cong (K' := K [] .full (.loop .ready none li)) (by rw [Klen, Klen])
        simpa using this
      · rw [ht, if_pos hkeep]; simp [e2]
      · simp (disch := omega) only [go_sem, bne_self_eq_false, beq_self_eq_true, true_and, and_true, decide_true, decide_false, wrap_i64, ↓reduceIte, Nat.reduceAdd, Nat.reduceSub, Nat.reduceMul, Nat.reduceEqDiff, Nat.reduceLeDiff, Int.reduceAdd, Int.reduceSub, Int.reduceNeg, Int.reduceLT, Int.reduceLE, Int.reduceEq, Int.reduceToNat, Nat.reduceMod]
  · simp (disch := omega) only [go_sem, bne_self_eq_false, beq_self_eq_true, true_and, and_true, decide_true, decide_false, wrap_i64, ↓reduceIte, Nat.reduceAdd, Nat.reduceSub, Nat.reduceMul, Nat.reduceEqDiff, Nat.reduceLeDiff, Int.reduceAdd, Int.reduceSub, Int.reduceNeg, Int.reduceLT, Int.reduceLE, Int.reduceEq, Int.reduceToNat, Nat.reduceMod, Klen, Kj, Sj, Kc, Ko, Ka, encL, AV.cells, hxc]
    refine aIf.neg hz ?_
    simp (disch := omega) only [go_sem, bne_self_eq_false, beq_self_eq_true, true_and, and_true, decide_true, decide_false, wrap_i64, ↓reduceIte, Nat.reduceAdd, Nat.reduceSub, Nat.reduceMul, Nat.reduceEqDiff, Nat.reduceLeDiff, Int.reduceAdd, Int.reduceSub, Int.reduceNeg, Int.reduceLT, Int.reduceLE, Int.reduceEq, Int.reduceToNat, Nat.reduceMod, Klen, Kj, Sj, Kc, Ko, Ka, encL, AV.cells, hxc]
    refine ACalls.det ((containsL_calls Γ n.a ((x : Int), (y : Int)) _ ha).args rfl) ?_
    simp (disch := omega) only [go_sem, bne_self_eq_false, beq_self_eq_true, true_and, and_true, decide_true, decide_false, wrap_i64, ↓reduceIte, Nat.reduceAdd, Nat.reduceSub, Nat.reduceMul, Nat.reduceEqDiff, Nat.reduceLeDiff, Int.reduceAdd, Int.reduceSub, Int.reduceNeg, Int.reduceLT, Int.reduceLE, Int.reduceEq, Int.reduceToNat, Nat.reduceMod, Klen, Kj, Sj, Kc, Ko, Ka, encL, AV.cells, hxc]
    refine aIf.intro (fun hm => ?_) (fun hm => ?_) <;> simp (disch := omega) only [go_sem, bne_self_eq_false, beq_self_eq_true, true_and, and_true, decide_true, decide_false, wrap_i64, ↓reduceIte, Nat.reduceAdd, Nat.reduceSub, Nat.reduceMul, Nat.reduceEqDiff, Nat.reduceLeDiff, Int.reduceAdd, Int.reduceSub, Int.reduceNeg, Int.reduceLT, Int.reduceLE, Int.reduceEq, Int.reduceToNat, Nat.reduceMod]
    · have hkeep : keepL n.a c on ((x : Int), (y : Int)) = true := by rw [keepL, if_neg hz]; simpa using hm
      simp (disch := omega) only [go_sem, bne_self_eq_false, beq_self_eq_true, true_and, and_true, decide_true, decide_false, wrap_i64, ↓reduceIte, Nat.reduceAdd, Nat.reduceSub, Nat.reduceMul, Nat.reduceEqDiff, Nat.reduceLeDiff, Int.reduceAdd, Int.reduceSub, Int.reduceNeg, Int.reduceLT, Int.reduceLE, Int.reduceEq, Int.reduceToNat, Nat.reduceMod, Klen, Kj, Sj, Kc, Ko, Ka, encL, AV.cells, hxc]
      refine ayield_L hli (Kl _ _ _ _) rfl rfl Ty.mixed (by kernel_rfl) rfl ?_
      simp (disch := omega) only [go_sem, bne_self_eq_false, beq_self_eq_true, true_and, and_true, decide_true, decide_false, wrap_i64, ↓reduceIte, Nat.reduceAdd, Nat.reduceSub, Nat.reduceMul, Nat.reduceEqDiff, Nat.reduceLeDiff, Int.reduceAdd, Int.reduceSub, Int.reduceNeg, Int.reduceLT, Int.reduceLE, Int.reduceEq, Int.reduceToNat, Nat.reduceMod, Klen, Kl, Sl, Kx, Kj2, Sj2]
      refine aAp_sl (by rw [List.length_map]; exact (ho.app _).cong (by rw [Klen, Klen])) (rows_L _) (rows_L [((x : Int), (y : Int))]) (by simp; omega) (by simp; omega) fun j' own' ho' hg => ?_
      have Sx3 : ∀ lo, (K don own lo ++ j').set (h.length + 1) (.row [.sl (n.q.map encK) .free, .sl (don.map encL ++ [.agg [.int .i64 (x : Int), .int .i64 (y : Int)]]) own'] 25) = K (don ++ [((x : Int), (y : Int))]) own' lo ++ j' := fun lo => Sx2 don own lo j' ((x : Int), (y : Int)) own'
      simp (disch := omega) only [go_sem, bne_self_eq_false, beq_self_eq_true, true_and, and_true, decide_true, decide_false, wrap_i64, ↓reduceIte, Nat.reduceAdd, Nat.reduceSub, Nat.reduceMul, Nat.reduceEqDiff, Nat.reduceLeDiff, Int.reduceAdd, Int.reduceSub, Int.reduceNeg, Int.reduceLT, Int.reduceLE, Int.reduceEq, Int.reduceToNat, Nat.reduceMod, Klen, Kl, Sl, Kx, Sx3]
      refine roundS_next ⟨x, y + 1, don ++ [((x : Int), (y : Int))], own', j'⟩ (by simp only; omega) ⟨by simp only; omega, by simp only; omega, ?_, ?_⟩ ?_ rfl
      · have := ho'.cong (K' := K [] .full (.loop .ready none li)) (by rw [Klen, Klen])
        simpa using this
      · rw [ht, if_pos hkeep]; simp [e2]
      · simp (disch := omega) only [go_sem, bne_self_eq_false, beq_self_eq_true, true_and, and_true, decide_true, decide_false, wrap_i64, ↓reduceIte, Nat.reduceAdd, Nat.reduceSub, Nat.reduceMul, Nat.reduceEqDiff, Nat.reduceLeDiff, Int.reduceAdd, Int.reduceSub, Int.reduceNeg, Int.reduceLT, Int.reduceLE, Int.reduceEq, Int.reduceToNat, Nat.reduceMod]
    · have hkeep : ¬ keepL n.a c on ((x : Int), (y : Int)) = true := by rw [keepL, if_neg hz]; simpa using hm
      refine roundS_next ⟨x, y + 1, don, own, j ++ [.row [.int .i64 x, .int .i64 y] 58]⟩ (by simp only; omega) ⟨by simp only; omega, by simp only; omega, ho.app _, ?_⟩ ?_ rfl
      · rw [ht, if_neg hkeep]; simp [e2]
      · simp (disch := omega) only [go_sem, bne_self_eq_false, beq_self_eq_true, true_and, and_true, decide_true, decide_false, wrap_i64, ↓reduceIte, Nat.reduceAdd, Nat.reduceSub, Nat.reduceMul, Nat.reduceEqDiff, Nat.reduceLeDiff, Int.reduceAdd, Int.reduceSub, Int.reduceNeg, Int.reduceLT, Int.reduceLE, Int.reduceEq, Int.reduceToNat, Nat.reduceMod]
end Go.Proofs.Ytidmpembkkkhkaa
