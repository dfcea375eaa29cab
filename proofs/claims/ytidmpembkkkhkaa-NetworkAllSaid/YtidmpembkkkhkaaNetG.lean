/- The reference's cutting. No conditions. -/
import Derived.Test.YtidmpembkkkhkaaNetF
set_option linter.unusedSimpArgs false
set_option linter.unusedVariables false
namespace Go.Proofs.Ytidmpembkkkhkaa
open Go Go.Proofs Go.Abs

/-- Where the loops stand: row, column, what was put down, its owner, objects behind. -/
structure CutS where
  x : Nat
  y : Nat
  don : List (Int × Int)
  own : Abs.Own
  j : AH

theorem site_betw (a b : Int) : (siteF a = true ∧ siteF b = true ∧ a ≠ b) → validF (betw a b) = true := (betw_valid a b).2

theorem refcut_calls (Γ : Nat → Option (List AV)) (n : Nt) (a b : Int) (on : Bool) (h : AH) (hq : n.q.length ≤ 9223372036854775807) (ha : n.a.length ≤ 9223372036854775807) :
    ACalls Try.prog Γ 21 [encN n, .int .i64 a, .int .i64 b, .bool on] h fun v h' => h' = h ∧ v = encS (cutF n a b on) := by
  refine ACalls.dropL ?_
  refine acalls_code (rs := [.cell 8 25, .tmp 9]) Try.func21 rfl rfl rfl rfl Ty.mixed (by kernel_rfl) ?_
  simp (disch := omega) only [go_sem, bne_self_eq_false, beq_self_eq_true, true_and, and_true, decide_true, decide_false, wrap_i64, ↓reduceIte, Nat.reduceAdd, Nat.reduceSub, Nat.reduceMul, Nat.reduceEqDiff, Nat.reduceLeDiff, Int.reduceAdd, Int.reduceSub, Int.reduceNeg, Int.reduceLT, Int.reduceLE, Int.reduceEq, Int.reduceToNat, Nat.reduceMod]
  refine ACalls.det (refcheck_calls Γ n _ hq ha) ?_
  simp (disch := omega) only [go_sem, bne_self_eq_false, beq_self_eq_true, true_and, and_true, decide_true, decide_false, wrap_i64, ↓reduceIte, Nat.reduceAdd, Nat.reduceSub, Nat.reduceMul, Nat.reduceEqDiff, Nat.reduceLeDiff, Int.reduceAdd, Int.reduceSub, Int.reduceNeg, Int.reduceLT, Int.reduceLE, Int.reduceEq, Int.reduceToNat, Nat.reduceMod]
  refine aIf.intro (fun h1 => ?_) (fun h1 => ?_) <;> simp (disch := omega) only [go_sem, bne_self_eq_false, beq_self_eq_true, true_and, and_true, decide_true, decide_false, wrap_i64, ↓reduceIte, Nat.reduceAdd, Nat.reduceSub, Nat.reduceMul, Nat.reduceEqDiff, Nat.reduceLeDiff, Int.reduceAdd, Int.reduceSub, Int.reduceNeg, Int.reduceLT, Int.reduceLE, Int.reduceEq, Int.reduceToNat, Nat.reduceMod]
  rotate_left
  · simp [cutF, h1, encS, encN, zN]
  refine ACalls.det (site_calls Γ a _) ?_
  simp (disch := omega) only [go_sem, bne_self_eq_false, beq_self_eq_true, true_and, and_true, decide_true, decide_false, wrap_i64, ↓reduceIte, Nat.reduceAdd, Nat.reduceSub, Nat.reduceMul, Nat.reduceEqDiff, Nat.reduceLeDiff, Int.reduceAdd, Int.reduceSub, Int.reduceNeg, Int.reduceLT, Int.reduceLE, Int.reduceEq, Int.reduceToNat, Nat.reduceMod]
  refine aBr.intro (fun h2 => ?_) (fun h2 => ?_) <;> simp (disch := omega) only [go_sem, bne_self_eq_false, beq_self_eq_true, true_and, and_true, decide_true, decide_false, wrap_i64, ↓reduceIte, Nat.reduceAdd, Nat.reduceSub, Nat.reduceMul, Nat.reduceEqDiff, Nat.reduceLeDiff, Int.reduceAdd, Int.reduceSub, Int.reduceNeg, Int.reduceLT, Int.reduceLE, Int.reduceEq, Int.reduceToNat, Nat.reduceMod]
  · have : validF (betw a b) = false := by
      rw [← Bool.not_eq_true, betw_valid]; intro e; rw [e.1] at h2; cases h2
    simp [cutF, h1, this, encS, encN, zN]
  refine ACalls.det (site_calls Γ b _) ?_
  simp (disch := omega) only [go_sem, bne_self_eq_false, beq_self_eq_true, true_and, and_true, decide_true, decide_false, wrap_i64, ↓reduceIte, Nat.reduceAdd, Nat.reduceSub, Nat.reduceMul, Nat.reduceEqDiff, Nat.reduceLeDiff, Int.reduceAdd, Int.reduceSub, Int.reduceNeg, Int.reduceLT, Int.reduceLE, Int.reduceEq, Int.reduceToNat, Nat.reduceMod]
  refine aBr.intro (fun h3 => ?_) (fun h3 => ?_) <;> simp (disch := omega) only [go_sem, bne_self_eq_false, beq_self_eq_true, true_and, and_true, decide_true, decide_false, wrap_i64, ↓reduceIte, Nat.reduceAdd, Nat.reduceSub, Nat.reduceMul, Nat.reduceEqDiff, Nat.reduceLeDiff, Int.reduceAdd, Int.reduceSub, Int.reduceNeg, Int.reduceLT, Int.reduceLE, Int.reduceEq, Int.reduceToNat, Nat.reduceMod]
  · have : validF (betw a b) = false := by
      rw [← Bool.not_eq_true, betw_valid]; intro e; rw [e.2.1] at h3; cases h3
    simp [cutF, h1, this, encS, encN, zN]
  refine aIf.intro (fun h4 => ?_) (fun h4 => ?_) <;> simp (disch := omega) only [go_sem, bne_self_eq_false, beq_self_eq_true, true_and, and_true, decide_true, decide_false, wrap_i64, ↓reduceIte, Nat.reduceAdd, Nat.reduceSub, Nat.reduceMul, Nat.reduceEqDiff, Nat.reduceLeDiff, Int.reduceAdd, Int.reduceSub, Int.reduceNeg, Int.reduceLT, Int.reduceLE, Int.reduceEq, Int.reduceToNat, Nat.reduceMod]
  · have : validF (betw a b) = false := by rw [← Bool.not_eq_true, betw_valid]; simp [h4]
    simp [cutF, h1, this, encS, encN, zN]
  have hv : validF (betw a b) = true := site_betw a b ⟨h2, h3, h4⟩
  simp (disch := omega) only [go_sem, bne_self_eq_false, beq_self_eq_true, true_and, and_true, decide_true, decide_false, wrap_i64, ↓reduceIte, Nat.reduceAdd, Nat.reduceSub, Nat.reduceMul, Nat.reduceEqDiff, Nat.reduceLeDiff, Int.reduceAdd, Int.reduceSub, Int.reduceNeg, Int.reduceLT, Int.reduceLE, Int.reduceEq, Int.reduceToNat, Nat.reduceMod, encN]
  obtain ⟨K, hK⟩ : ∃ K : AH, K = h ++ [.row [.sl (n.q.map encK) .free, .sl (n.a.map encL) .free] 25, .row [.sl [] .full, .sl [] .full] 25] := ⟨_, rfl⟩
  have Kn : ∀ j : AH, (K ++ j)[h.length]? = some (.row [.sl (n.q.map encK) .free, .sl (n.a.map encL) .free] 25) := by subst hK; simp
  rw [← hK]
  obtain ⟨c, hc⟩ : ∃ c, c = betw a b := ⟨_, rfl⟩
  have hc1 : c.1 = if b < a then b else a := by rw [hc]; rfl
  have hc2 : c.2 = if a < b then b else a := by rw [hc]; rfl
  have htl := cutL_len n.a c on
  refine awp_loopS (α := CutS) [11, 10, 9, 8, 4, 3, 2, 1] (fun s => [(11, .int .i64 s.x), (10, .sl (s.don.map encL) s.own), (9, .int .i64 0), (8, .ptr (some (h.length + 1, 0))), (4, .ptr (some (h.length, 0))), (3, .bool on), (2, .int .i64 b), (1, .int .i64 a)])
    (fun s => K ++ s.j) (fun s => s.x ≤ 24 ∧ OwnAt K s.j s.don.length s.own ∧ cutL n.a c on = s.don ++ (pairsP s.x (24 - s.x)).filter (keepL n.a c on)) (fun s => 24 - s.x) ⟨0, 0, [], .full, []⟩ ?_ (by simp) ⟨by decide, trivial, rfl⟩ Ty.mixed (by kernel_rfl) ?_
  · simp (disch := omega) only [go_sem, bne_self_eq_false, beq_self_eq_true, true_and, and_true, decide_true, decide_false, wrap_i64, ↓reduceIte, Nat.reduceAdd, Nat.reduceSub, Nat.reduceMul, Nat.reduceEqDiff, Nat.reduceLeDiff, Int.reduceAdd, Int.reduceSub, Int.reduceNeg, Int.reduceLT, Int.reduceLE, Int.reduceEq, Int.reduceToNat, Nat.reduceMod]
  rintro ⟨x, y0, don, own, j⟩ ⟨hx, ho, ht⟩
  simp only at hx ho ht ⊢
  simp (disch := omega) only [go_sem, bne_self_eq_false, beq_self_eq_true, true_and, and_true, decide_true, decide_false, wrap_i64, ↓reduceIte, Nat.reduceAdd, Nat.reduceSub, Nat.reduceMul, Nat.reduceEqDiff, Nat.reduceLeDiff, Int.reduceAdd, Int.reduceSub, Int.reduceNeg, Int.reduceLT, Int.reduceLE, Int.reduceEq, Int.reduceToNat, Nat.reduceMod]
  refine aIf.intro (fun hx2 => ?_) (fun hx2 => ?_) <;> simp (disch := omega) only [go_sem, bne_self_eq_false, beq_self_eq_true, true_and, and_true, decide_true, decide_false, wrap_i64, ↓reduceIte, Nat.reduceAdd, Nat.reduceSub, Nat.reduceMul, Nat.reduceEqDiff, Nat.reduceLeDiff, Int.reduceAdd, Int.reduceSub, Int.reduceNeg, Int.reduceLT, Int.reduceLE, Int.reduceEq, Int.reduceToNat, Nat.reduceMod]
  rotate_left
  · subst hK
    refine AWP.keep [10, 9, 8, 4] (aCode_ok Ty.mixed _ _ _ _ (by kernel_rfl) ?_)
    simp (disch := omega) only [go_sem, bne_self_eq_false, beq_self_eq_true, true_and, and_true, decide_true, decide_false, wrap_i64, ↓reduceIte, Nat.reduceAdd, Nat.reduceSub, Nat.reduceMul, Nat.reduceEqDiff, Nat.reduceLeDiff, Int.reduceAdd, Int.reduceSub, Int.reduceNeg, Int.reduceLT, Int.reduceLE, Int.reduceEq, Int.reduceToNat, Nat.reduceMod, List.append_assoc, List.cons_append, List.nil_append]
    have e3 : 24 - x = 0 := by omega
    rw [e3, pairsP, List.filter_nil, List.append_nil] at ht
    rw [hc] at ht; simp [cutF, h1, hv, ht, encS, encN]
  refine awp_loopS (α := CutS) [12, 11, 10, 9, 8, 4, 3, 2, 1] (fun s => [(12, .int .i64 s.y), (11, .int .i64 x), (10, .sl (s.don.map encL) s.own), (9, .int .i64 0), (8, .ptr (some (h.length + 1, 0))), (4, .ptr (some (h.length, 0))), (3, .bool on), (2, .int .i64 b), (1, .int .i64 a)])
    (fun s => K ++ s.j) (fun s => x < s.y ∧ s.y ≤ 24 ∧ OwnAt K s.j s.don.length s.own ∧ cutL n.a c on = s.don ++ ((rowP x s.y (24 - s.y)).filter (keepL n.a c on) ++ (pairsP (x + 1) (23 - x)).filter (keepL n.a c on))) (fun s => 24 - s.y) ⟨x, x + 1, don, own, j⟩ ?_ (by simp) ⟨by simp, by simp; omega, ho, ?_⟩ Ty.mixed (by kernel_rfl) ?_
  · simp (disch := omega) only [go_sem, bne_self_eq_false, beq_self_eq_true, true_and, and_true, decide_true, decide_false, wrap_i64, ↓reduceIte, Nat.reduceAdd, Nat.reduceSub, Nat.reduceMul, Nat.reduceEqDiff, Nat.reduceLeDiff, Int.reduceAdd, Int.reduceSub, Int.reduceNeg, Int.reduceLT, Int.reduceLE, Int.reduceEq, Int.reduceToNat, Nat.reduceMod]
  · simp only
    rw [ht]
    have e1 : 24 - x = (23 - x) + 1 := by omega
    have e2 : 24 - (x + 1) = 23 - x := by omega
    rw [e1, pairsP, List.filter_append, e2]
  rintro ⟨x0, y, don, own, j⟩ ⟨hxy, hy, ho, ht⟩
  simp only at hxy hy ho ht ⊢
  simp (disch := omega) only [go_sem, bne_self_eq_false, beq_self_eq_true, true_and, and_true, decide_true, decide_false, wrap_i64, ↓reduceIte, Nat.reduceAdd, Nat.reduceSub, Nat.reduceMul, Nat.reduceEqDiff, Nat.reduceLeDiff, Int.reduceAdd, Int.reduceSub, Int.reduceNeg, Int.reduceLT, Int.reduceLE, Int.reduceEq, Int.reduceToNat, Nat.reduceMod]
  refine aIf.intro (fun hy2 => ?_) (fun hy2 => ?_) <;> simp (disch := omega) only [go_sem, bne_self_eq_false, beq_self_eq_true, true_and, and_true, decide_true, decide_false, wrap_i64, ↓reduceIte, Nat.reduceAdd, Nat.reduceSub, Nat.reduceMul, Nat.reduceEqDiff, Nat.reduceLeDiff, Int.reduceAdd, Int.reduceSub, Int.reduceNeg, Int.reduceLT, Int.reduceLE, Int.reduceEq, Int.reduceToNat, Nat.reduceMod]
  rotate_left
  · have e1 : 24 - y = 0 := by omega
    have e2 : 24 - (x + 1) = 23 - x := by omega
    refine AWP.keep [11, 10, 9, 8, 4, 3, 2, 1] (aCode_ok Ty.mixed _ _ _ _ (by kernel_rfl) ?_)
    simp (disch := omega) only [go_sem, bne_self_eq_false, beq_self_eq_true, true_and, and_true, decide_true, decide_false, wrap_i64, ↓reduceIte, Nat.reduceAdd, Nat.reduceSub, Nat.reduceMul, Nat.reduceEqDiff, Nat.reduceLeDiff, Int.reduceAdd, Int.reduceSub, Int.reduceNeg, Int.reduceLT, Int.reduceLE, Int.reduceEq, Int.reduceToNat, Nat.reduceMod]
    refine roundS_next ⟨x + 1, 0, don, own, j⟩ (by simp only; omega) ⟨by simp only; omega, ho, ?_⟩ ?_ rfl
    · rw [ht, e1, rowP, List.filter_nil, List.nil_append]; simp only [e2]
    · simp (disch := omega) only [go_sem, bne_self_eq_false, beq_self_eq_true, true_and, and_true, decide_true, decide_false, wrap_i64, ↓reduceIte, Nat.reduceAdd, Nat.reduceSub, Nat.reduceMul, Nat.reduceEqDiff, Nat.reduceLeDiff, Int.reduceAdd, Int.reduceSub, Int.reduceNeg, Int.reduceLT, Int.reduceLE, Int.reduceEq, Int.reduceToNat, Nat.reduceMod]
  have e1 : 24 - y = (23 - y) + 1 := by omega
  have e2 : 24 - (y + 1) = 23 - y := by omega
  rw [e1, rowP, List.filter_cons] at ht
  have hlen : don.length ≤ 276 := by rw [ht] at htl; simp at htl; omega
  simp (disch := omega) only [go_sem, bne_self_eq_false, beq_self_eq_true, true_and, and_true, decide_true, decide_false, wrap_i64, ↓reduceIte, Nat.reduceAdd, Nat.reduceSub, Nat.reduceMul, Nat.reduceEqDiff, Nat.reduceLeDiff, Int.reduceAdd, Int.reduceSub, Int.reduceNeg, Int.reduceLT, Int.reduceLE, Int.reduceEq, Int.reduceToNat, Nat.reduceMod, Kn]
  refine ACalls.det ((iscut_calls Γ n x y _ ha).args rfl) ?_
  have hb : betw (x : Int) (y : Int) = ((x : Int), (y : Int)) := by
    unfold betw
    rw [if_neg (by omega), if_pos (by omega)]
  rw [hb]
  simp (disch := omega) only [go_sem, bne_self_eq_false, beq_self_eq_true, true_and, and_true, decide_true, decide_false, wrap_i64, ↓reduceIte, Nat.reduceAdd, Nat.reduceSub, Nat.reduceMul, Nat.reduceEqDiff, Nat.reduceLeDiff, Int.reduceAdd, Int.reduceSub, Int.reduceNeg, Int.reduceLT, Int.reduceLE, Int.reduceEq, Int.reduceToNat, Nat.reduceMod]
  refine aIf.intro (fun hx3 => ?_) (fun hx3 => ?_) <;> simp (disch := omega) only [go_sem, bne_self_eq_false, beq_self_eq_true, true_and, and_true, decide_true, decide_false, wrap_i64, ↓reduceIte, Nat.reduceAdd, Nat.reduceSub, Nat.reduceMul, Nat.reduceEqDiff, Nat.reduceLeDiff, Int.reduceAdd, Int.reduceSub, Int.reduceNeg, Int.reduceLT, Int.reduceLE, Int.reduceEq, Int.reduceToNat, Nat.reduceMod]
  · refine aIf.intro (fun hy3 => ?_) (fun hy3 => ?_) <;> simp (disch := omega) only [go_sem, bne_self_eq_false, beq_self_eq_true, true_and, and_true, decide_true, decide_false, wrap_i64, ↓reduceIte, Nat.reduceAdd, Nat.reduceSub, Nat.reduceMul, Nat.reduceEqDiff, Nat.reduceLeDiff, Int.reduceAdd, Int.reduceSub, Int.reduceNeg, Int.reduceLT, Int.reduceLE, Int.reduceEq, Int.reduceToNat, Nat.reduceMod]
    · have hxc : ((x : Int), (y : Int)) = c := Prod.ext (by rw [hc1]; exact hx3) (by rw [hc2]; exact hy3)
      refine aBr.intro (fun hon => ?_) (fun hon => ?_) <;> simp (disch := omega) only [go_sem, bne_self_eq_false, beq_self_eq_true, true_and, and_true, decide_true, decide_false, wrap_i64, ↓reduceIte, Nat.reduceAdd, Nat.reduceSub, Nat.reduceMul, Nat.reduceEqDiff, Nat.reduceLeDiff, Int.reduceAdd, Int.reduceSub, Int.reduceNeg, Int.reduceLT, Int.reduceLE, Int.reduceEq, Int.reduceToNat, Nat.reduceMod]
      · have hkeep : keepL n.a c on ((x : Int), (y : Int)) = true := by rw [keepL, if_pos hxc]; exact hon
        refine aAp_sl (by rw [List.length_map]; exact ho) (rows_L _) (rows_L [((x : Int), (y : Int))]) (by simp; omega) (by simp; omega) fun j' own' ho' hg => ?_
        simp (disch := omega) only [go_sem, bne_self_eq_false, beq_self_eq_true, true_and, and_true, decide_true, decide_false, wrap_i64, ↓reduceIte, Nat.reduceAdd, Nat.reduceSub, Nat.reduceMul, Nat.reduceEqDiff, Nat.reduceLeDiff, Int.reduceAdd, Int.reduceSub, Int.reduceNeg, Int.reduceLT, Int.reduceLE, Int.reduceEq, Int.reduceToNat, Nat.reduceMod]
        refine roundS_next ⟨x, y + 1, don ++ [((x : Int), (y : Int))], own', j'⟩ (by simp only; omega) ⟨by simp only; omega, by simp only; omega, by simpa using ho', ?_⟩ ?_ rfl
        · rw [ht, if_pos hkeep]; simp [e2]
        · simp (disch := omega) only [go_sem, bne_self_eq_false, beq_self_eq_true, true_and, and_true, decide_true, decide_false, wrap_i64, ↓reduceIte, Nat.reduceAdd, Nat.reduceSub, Nat.reduceMul, Nat.reduceEqDiff, Nat.reduceLeDiff, Int.reduceAdd, Int.reduceSub, Int.reduceNeg, Int.reduceLT, Int.reduceLE, Int.reduceEq, Int.reduceToNat, Nat.reduceMod, List.map_append, List.map_cons, List.map_nil, encL]
      · have hkeep : ¬ keepL n.a c on ((x : Int), (y : Int)) = true := by rw [keepL, if_pos hxc, hon]; decide
        refine roundS_next ⟨x, y + 1, don, own, j⟩ (by simp only; omega) ⟨by simp only; omega, by simp only; omega, ho, ?_⟩ ?_ rfl
        · rw [ht, if_neg hkeep]; simp [e2]
        · simp (disch := omega) only [go_sem, bne_self_eq_false, beq_self_eq_true, true_and, and_true, decide_true, decide_false, wrap_i64, ↓reduceIte, Nat.reduceAdd, Nat.reduceSub, Nat.reduceMul, Nat.reduceEqDiff, Nat.reduceLeDiff, Int.reduceAdd, Int.reduceSub, Int.reduceNeg, Int.reduceLT, Int.reduceLE, Int.reduceEq, Int.reduceToNat, Nat.reduceMod]
    · have hxc : ((x : Int), (y : Int)) ≠ c := fun e => hy3 (by rw [← hc2, ← e])
      refine aIf.intro (fun hm => ?_) (fun hm => ?_) <;> simp (disch := omega) only [go_sem, bne_self_eq_false, beq_self_eq_true, true_and, and_true, decide_true, decide_false, wrap_i64, ↓reduceIte, Nat.reduceAdd, Nat.reduceSub, Nat.reduceMul, Nat.reduceEqDiff, Nat.reduceLeDiff, Int.reduceAdd, Int.reduceSub, Int.reduceNeg, Int.reduceLT, Int.reduceLE, Int.reduceEq, Int.reduceToNat, Nat.reduceMod]
      · have hkeep : keepL n.a c on ((x : Int), (y : Int)) = true := by rw [keepL, if_neg hxc]; simpa using hm
        refine aAp_sl (by rw [List.length_map]; exact ho) (rows_L _) (rows_L [((x : Int), (y : Int))]) (by simp; omega) (by simp; omega) fun j' own' ho' hg => ?_
        simp (disch := omega) only [go_sem, bne_self_eq_false, beq_self_eq_true, true_and, and_true, decide_true, decide_false, wrap_i64, ↓reduceIte, Nat.reduceAdd, Nat.reduceSub, Nat.reduceMul, Nat.reduceEqDiff, Nat.reduceLeDiff, Int.reduceAdd, Int.reduceSub, Int.reduceNeg, Int.reduceLT, Int.reduceLE, Int.reduceEq, Int.reduceToNat, Nat.reduceMod]
        refine roundS_next ⟨x, y + 1, don ++ [((x : Int), (y : Int))], own', j'⟩ (by simp only; omega) ⟨by simp only; omega, by simp only; omega, by simpa using ho', ?_⟩ ?_ rfl
        · rw [ht, if_pos hkeep]; simp [e2]
        · simp (disch := omega) only [go_sem, bne_self_eq_false, beq_self_eq_true, true_and, and_true, decide_true, decide_false, wrap_i64, ↓reduceIte, Nat.reduceAdd, Nat.reduceSub, Nat.reduceMul, Nat.reduceEqDiff, Nat.reduceLeDiff, Int.reduceAdd, Int.reduceSub, Int.reduceNeg, Int.reduceLT, Int.reduceLE, Int.reduceEq, Int.reduceToNat, Nat.reduceMod, List.map_append, List.map_cons, List.map_nil, encL]
      · have hkeep : ¬ keepL n.a c on ((x : Int), (y : Int)) = true := by rw [keepL, if_neg hxc]; simpa using hm
        refine roundS_next ⟨x, y + 1, don, own, j⟩ (by simp only; omega) ⟨by simp only; omega, by simp only; omega, ho, ?_⟩ ?_ rfl
        · rw [ht, if_neg hkeep]; simp [e2]
        · simp (disch := omega) only [go_sem, bne_self_eq_false, beq_self_eq_true, true_and, and_true, decide_true, decide_false, wrap_i64, ↓reduceIte, Nat.reduceAdd, Nat.reduceSub, Nat.reduceMul, Nat.reduceEqDiff, Nat.reduceLeDiff, Int.reduceAdd, Int.reduceSub, Int.reduceNeg, Int.reduceLT, Int.reduceLE, Int.reduceEq, Int.reduceToNat, Nat.reduceMod]
  · have hxc : ((x : Int), (y : Int)) ≠ c := fun e => hx3 (by rw [← hc1, ← e])
    refine aIf.intro (fun hm => ?_) (fun hm => ?_) <;> simp (disch := omega) only [go_sem, bne_self_eq_false, beq_self_eq_true, true_and, and_true, decide_true, decide_false, wrap_i64, ↓reduceIte, Nat.reduceAdd, Nat.reduceSub, Nat.reduceMul, Nat.reduceEqDiff, Nat.reduceLeDiff, Int.reduceAdd, Int.reduceSub, Int.reduceNeg, Int.reduceLT, Int.reduceLE, Int.reduceEq, Int.reduceToNat, Nat.reduceMod]
    · have hkeep : keepL n.a c on ((x : Int), (y : Int)) = true := by rw [keepL, if_neg hxc]; simpa using hm
      refine aAp_sl (by rw [List.length_map]; exact ho) (rows_L _) (rows_L [((x : Int), (y : Int))]) (by simp; omega) (by simp; omega) fun j' own' ho' hg => ?_
      simp (disch := omega) only [go_sem, bne_self_eq_false, beq_self_eq_true, true_and, and_true, decide_true, decide_false, wrap_i64, ↓reduceIte, Nat.reduceAdd, Nat.reduceSub, Nat.reduceMul, Nat.reduceEqDiff, Nat.reduceLeDiff, Int.reduceAdd, Int.reduceSub, Int.reduceNeg, Int.reduceLT, Int.reduceLE, Int.reduceEq, Int.reduceToNat, Nat.reduceMod]
      refine roundS_next ⟨x, y + 1, don ++ [((x : Int), (y : Int))], own', j'⟩ (by simp only; omega) ⟨by simp only; omega, by simp only; omega, by simpa using ho', ?_⟩ ?_ rfl
      · rw [ht, if_pos hkeep]; simp [e2]
      · simp (disch := omega) only [go_sem, bne_self_eq_false, beq_self_eq_true, true_and, and_true, decide_true, decide_false, wrap_i64, ↓reduceIte, Nat.reduceAdd, Nat.reduceSub, Nat.reduceMul, Nat.reduceEqDiff, Nat.reduceLeDiff, Int.reduceAdd, Int.reduceSub, Int.reduceNeg, Int.reduceLT, Int.reduceLE, Int.reduceEq, Int.reduceToNat, Nat.reduceMod, List.map_append, List.map_cons, List.map_nil, encL]
    · have hkeep : ¬ keepL n.a c on ((x : Int), (y : Int)) = true := by rw [keepL, if_neg hxc]; simpa using hm
      refine roundS_next ⟨x, y + 1, don, own, j⟩ (by simp only; omega) ⟨by simp only; omega, by simp only; omega, ho, ?_⟩ ?_ rfl
      · rw [ht, if_neg hkeep]; simp [e2]
      · simp (disch := omega) only [go_sem, bne_self_eq_false, beq_self_eq_true, true_and, and_true, decide_true, decide_false, wrap_i64, ↓reduceIte, Nat.reduceAdd, Nat.reduceSub, Nat.reduceMul, Nat.reduceEqDiff, Nat.reduceLeDiff, Int.reduceAdd, Int.reduceSub, Int.reduceNeg, Int.reduceLT, Int.reduceLE, Int.reduceEq, Int.reduceToNat, Nat.reduceMod]
end Go.Proofs.Ytidmpembkkkhkaa
