/- The program's evaluation of formulas: what it hands back. No conditions. -/
import Derived.Test.YtopiamdfnaejeaaFormA
set_option linter.unusedSimpArgs false
set_option linter.unusedVariables false
namespace Go.Proofs.Ytopiamdfnaejeaa
open Go Go.Proofs Go.Abs

/-- A set of people as a map's entries. -/
def entsFrom : Nat → List Int → List (Nat × AV × AV)
  | _, [] => []
  | i, n :: r => (i, .int .i64 n, .int .i64 1) :: entsFrom (i + 1) r
theorem entsFrom_app (l r : List Int) (i : Nat) : entsFrom i (l ++ r) = entsFrom i l ++ entsFrom (i + l.length) r := by
  induction l generalizing i with
  | nil => simp [entsFrom]
  | cons a l ih => simp [entsFrom, ih, Nat.add_assoc, Nat.add_comm 1]
theorem find_ents (p : Int) (l : List Int) (i : Nat) : (p ∈ l ∧ ∃ j e, aFind (.int .i64 p) (entsFrom i l) = some (some j) ∧ (entsFrom i l)[j]? = some e ∧ e.2.2 = .int .i64 1) ∨ (p ∉ l ∧ aFind (.int .i64 p) (entsFrom i l) = some none) := by
  induction l generalizing i with
  | nil => exact .inr ⟨by simp, rfl⟩
  | cons a r ih =>
    by_cases ha : p = a
    · subst ha
      exact .inl ⟨by simp, 0, _, by simp [entsFrom, aFind], rfl, rfl⟩
    · rcases ih (i + 1) with ⟨h1, j, e, h2, h3, h4⟩ | ⟨h1, h2⟩
      · exact .inl ⟨by simp [h1], j + 1, e, by simp [entsFrom, aFind, ha, h2], by simpa [entsFrom] using h3, h4⟩
      · exact .inr ⟨by simp [ha, h1], by simp [entsFrom, aFind, ha, h2]⟩
theorem look_ents (p : Int) (l : List Int) (i c : Nat) (K : AV → Prop) : aLkO false (.int .i64 0) (.int .i64 p) (some (.map (entsFrom i l) c)) K = K (.int .i64 (if p ∈ l then 1 else 0)) := by
  unfold aLkO aLkF
  rcases find_ents p l i with ⟨h1, j, e, h2, h3, h4⟩ | ⟨h1, h2⟩
  · simp [h1, h2, h3, h4]
  · simp [h1, h2]

theorem app5 {α : Type} (h j : List α) (a b c d e f : α) : h ++ a :: b :: c :: d :: e :: f :: j = (h ++ [a, b, c, d, e]) ++ f :: j := by simp

mutual
def holdsF (W : Int → Bool) : Gt → Bool
  | .mk p n l => if 0 ≤ p then W p else cntF W l n
def cntF (W : Int → Bool) : List Gt → Int → Bool
  | [], _ => false
  | x :: r, n => if holdsF W x then (if n - 1 = 0 then true else cntF W r (n - 1)) else cntF W r n
end

set_option maxRecDepth 100000 in
theorem holds_calls_k (Γ : Nat → Option (List AV)) (who : List Int) (c : Nat) : ∀ (k : Nat) (g : Gt) (h : AH) (m : Nat), SizeOf.sizeOf g < k → Sh g → rightF g = true → h[m]? = some (.map (entsFrom 0 who) c) →
    ACalls Try.prog Γ 56 [encG g, .map (some m)] h fun v h' => h' = h ∧ v = .bool (holdsF (fun p => decide (p ∈ who)) g)
  | 0, _, _, _, hk, _, _, _ => absurd hk (Nat.not_lt_zero _)
  | k + 1, .mk p n l, h, m, hsz, hs, hr, hm => by
    have hm' := hget_of hm
    refine ACalls.drop ?_
    refine acalls_code (rs := [.cell 4 4]) Try.func56 rfl rfl rfl rfl Ty.mixed (by kernel_rfl) ?_
    simp only [encG_mk]
    simp (disch := omega) only [go_sem, bne_self_eq_false, beq_self_eq_true, true_and, and_true, decide_true, decide_false, wrap_i64, ↓reduceIte, Nat.reduceAdd, Nat.reduceSub, Nat.reduceMul, Nat.reduceEqDiff, Nat.reduceLeDiff, Int.reduceAdd, Int.reduceSub, Int.reduceNeg, Int.reduceLT, Int.reduceLE, Int.reduceEq, Int.reduceToNat, Nat.reduceMod]
    refine aIf.intro (fun h1 => ?_) (fun h1 => ?_) <;> simp (disch := omega) only [go_sem, bne_self_eq_false, beq_self_eq_true, true_and, and_true, decide_true, decide_false, wrap_i64, ↓reduceIte, Nat.reduceAdd, Nat.reduceSub, Nat.reduceMul, Nat.reduceEqDiff, Nat.reduceLeDiff, Int.reduceAdd, Int.reduceSub, Int.reduceNeg, Int.reduceLT, Int.reduceLE, Int.reduceEq, Int.reduceToNat, Nat.reduceMod]
    · simp (disch := omega) only [go_sem, bne_self_eq_false, beq_self_eq_true, true_and, and_true, decide_true, decide_false, wrap_i64, ↓reduceIte, Nat.reduceAdd, Nat.reduceSub, Nat.reduceMul, Nat.reduceEqDiff, Nat.reduceLeDiff, Int.reduceAdd, Int.reduceSub, Int.reduceNeg, Int.reduceLT, Int.reduceLE, Int.reduceEq, Int.reduceToNat, Nat.reduceMod, hget_in, hm, look_ents]
      simp only [holdsF, if_pos h1]
      congr 1
      by_cases hp : p ∈ who <;> simp [hp]
    refine acalls_code (rs := [.tmp 4]) Try.func86 rfl rfl rfl rfl Ty.mixed (by kernel_rfl) ?_
    simp (disch := omega) only [go_sem, bne_self_eq_false, beq_self_eq_true, true_and, and_true, decide_true, decide_false, wrap_i64, ↓reduceIte, Nat.reduceAdd, Nat.reduceSub, Nat.reduceMul, Nat.reduceEqDiff, Nat.reduceLeDiff, Int.reduceAdd, Int.reduceSub, Int.reduceNeg, Int.reduceLT, Int.reduceLE, Int.reduceEq, Int.reduceToNat, Nat.reduceMod]
    refine AWP.keep [18, 5, 4] ?_
    simp (disch := omega) only [go_sem, bne_self_eq_false, beq_self_eq_true, true_and, and_true, decide_true, decide_false, wrap_i64, ↓reduceIte, Nat.reduceAdd, Nat.reduceSub, Nat.reduceMul, Nat.reduceEqDiff, Nat.reduceLeDiff, Int.reduceAdd, Int.reduceSub, Int.reduceNeg, Int.reduceLT, Int.reduceLE, Int.reduceEq, Int.reduceToNat, Nat.reduceMod]
    refine awp_rangeFuncL rfl (fun li hli => ?_)
    simp (disch := omega) only [go_sem, bne_self_eq_false, beq_self_eq_true, true_and, and_true, decide_true, decide_false, wrap_i64, ↓reduceIte, Nat.reduceAdd, Nat.reduceSub, Nat.reduceMul, Nat.reduceEqDiff, Nat.reduceLeDiff, Int.reduceAdd, Int.reduceSub, Int.reduceNeg, Int.reduceLT, Int.reduceLE, Int.reduceEq, Int.reduceToNat, Nat.reduceMod]
    obtain ⟨K, hK⟩ : ∃ K : Int → Bool → AObj → AH, K = fun x b lo => h ++ [.row [.int .i64 p, .int .i64 n, .sl (l.map encG) .free] 24, .row [.bool b] 4, .row [.int .i64 x] 3, .row [.int .i64 p, .int .i64 n, .sl (l.map encG) .free] 24, .row [.map (some m)] 56, lo] := ⟨_, rfl⟩
    have Klen : ∀ x b lo, (K x b lo).length = h.length + 6 := by subst hK; simp
    have Kb : ∀ x b lo j, (K x b lo ++ j)[h.length + 1]? = some (.row [.bool b] 4) := by subst hK; simp
    have Kn : ∀ x b lo j, (K x b lo ++ j)[h.length + 2]? = some (.row [.int .i64 x] 3) := by subst hK; simp
    have Kd : ∀ x b lo j, (K x b lo ++ j)[h.length + 3]? = some (.row [.int .i64 p, .int .i64 n, .sl (l.map encG) .free] 24) := by subst hK; simp
    have Ke : ∀ x b lo j, (K x b lo ++ j)[h.length + 4]? = some (.row [.map (some m)] 56) := by subst hK; simp
    have Kl : ∀ x b lo j, (K x b lo ++ j)[h.length + 5]? = some lo := by subst hK; simp
    have Km : ∀ x b lo j, (K x b lo ++ j)[m]? = some (.map (entsFrom 0 who) c) := by subst hK; intros; rw [List.append_assoc, hget_in _ hm']; exact hm
    have Kj : ∀ x b lo j r, (K x b lo ++ (j ++ [r]))[h.length + 6 + j.length]? = some r := by intro x b lo j r; rw [← Klen x b lo, hget_add]; simp
    have Sb : ∀ x b lo j b', (K x b lo ++ j).set (h.length + 1) (.row [.bool b'] 4) = K x b' lo ++ j := by subst hK; simp
    have Sn : ∀ x b lo j x', (K x b lo ++ j).set (h.length + 2) (.row [.int .i64 x'] 3) = K x' b lo ++ j := by subst hK; simp
    have Sl : ∀ x b lo j lo', (K x b lo ++ j).set (h.length + 5) lo' = K x b lo' ++ j := by subst hK; simp
    have Sj : ∀ x b lo j r r', (K x b lo ++ (j ++ [r])).set (h.length + 6 + j.length) r' = K x b lo ++ (j ++ [r']) := by intro x b lo j r r'; rw [← Klen x b lo, hset_add]; simp
    refine ACalls.heap (h1 := K n false (.loop .ready none li) ++ []) ?_ (by subst hK; simp)
    refine acalls_code (rs := []) Try.func111 rfl rfl rfl rfl Ty.mixed (by kernel_rfl) ?_
    have HK : ∀ x b, LoopKept (h ++ [.row [.int .i64 p, .int .i64 n, .sl (l.map encG) .free] 24, .row [.bool false] 4, .row [.int .i64 n] 3, .row [.int .i64 p, .int .i64 n, .sl (l.map encG) .free] 24, .row [.map (some m)] 56])
        (h ++ [.row [.int .i64 p, .int .i64 n, .sl (l.map encG) .free] 24, .row [.bool b] 4, .row [.int .i64 x] 3, .row [.int .i64 p, .int .i64 n, .sl (l.map encG) .free] 24, .row [.map (some m)] 56]) := fun x b => by
      have q1 := LoopKept.set (h := h ++ [.row [.int .i64 p, .int .i64 n, .sl (l.map encG) .free] 24, .row [.bool false] 4, .row [.int .i64 n] 3, .row [.int .i64 p, .int .i64 n, .sl (l.map encG) .free] 24, .row [.map (some m)] 56])
        (i := h.length + 1) (ob := .row [.bool b] 4) (RBs.cons (.bool _) (RBs.nil _)) (by simp)
      have q2 := LoopKept.set (h := h ++ [.row [.int .i64 p, .int .i64 n, .sl (l.map encG) .free] 24, .row [.bool b] 4, .row [.int .i64 n] 3, .row [.int .i64 p, .int .i64 n, .sl (l.map encG) .free] 24, .row [.map (some m)] 56])
        (i := h.length + 2) (ob := .row [.int .i64 x] 3) (RBs.cons (.int _ _) (RBs.nil _)) (by simp)
      simp only [hset_add, List.set_cons_succ, List.set_cons_zero] at q1 q2
      exact q1.trans q2
    have Kd0 : ∀ x b lo, (K x b lo)[h.length + 3]? = some (.row [.int .i64 p, .int .i64 n, .sl (l.map encG) .free] 24) := fun x b lo => by simpa using Kd x b lo []
    simp (disch := omega) only [go_sem, bne_self_eq_false, beq_self_eq_true, true_and, and_true, decide_true, decide_false, wrap_i64, ↓reduceIte, Nat.reduceAdd, Nat.reduceSub, Nat.reduceMul, Nat.reduceEqDiff, Nat.reduceLeDiff, Int.reduceAdd, Int.reduceSub, Int.reduceNeg, Int.reduceLT, Int.reduceLE, Int.reduceEq, Int.reduceToNat, Nat.reduceMod, Kd0]
    have hN : 1 ≤ n ∧ n ≤ 4096 ∧ ∀ x ∈ l, rightF x = true := by
      simp [rightF, h1, rightL_all] at hr
      exact ⟨by omega, by omega, hr.2⟩
    refine awp_loopL (β := Int × AH) l [9, 8, 7, 0, 2] (fun don _ => [(9, .int .i64 don.length), (8, .int .i64 l.length), (7, .sl (l.map encG) .free), (0, .yield (h.length + 5)), (2, .ptr (some (h.length + 4, 0)))])
      (fun b => K b.1 false (.loop .ready none li) ++ b.2) (fun don rest b => 1 ≤ b.1 ∧ b.1 ≤ n ∧ cntF (fun p => decide (p ∈ who)) l n = cntF (fun p => decide (p ∈ who)) rest b.1) (n, []) ?_ (by simp) ⟨hN.1, by simp, rfl⟩ Ty.mixed (by kernel_rfl) ?_ ?_
    · simp (disch := omega) only [go_sem, bne_self_eq_false, beq_self_eq_true, true_and, and_true, decide_true, decide_false, wrap_i64, ↓reduceIte, Nat.reduceAdd, Nat.reduceSub, Nat.reduceMul, Nat.reduceEqDiff, Nat.reduceLeDiff, Int.reduceAdd, Int.reduceSub, Int.reduceNeg, Int.reduceLT, Int.reduceLE, Int.reduceEq, Int.reduceToNat, Nat.reduceMod]
    · rintro don x r ⟨b, j⟩ rfl ⟨hb1, hb2, hb⟩
      simp only at hb1 hb2 hb ⊢
      have hl3 := len_mid hs.len
      simp (disch := omega) only [go_sem, bne_self_eq_false, beq_self_eq_true, true_and, and_true, decide_true, decide_false, wrap_i64, ↓reduceIte, Nat.reduceAdd, Nat.reduceSub, Nat.reduceMul, Nat.reduceEqDiff, Nat.reduceLeDiff, Int.reduceAdd, Int.reduceSub, Int.reduceNeg, Int.reduceLT, Int.reduceLE, Int.reduceEq, Int.reduceToNat, Nat.reduceMod, List.map_append, List.map_cons, List.length_append]
      refine aIf.pos (by omega) ?_
      simp (disch := omega) only [go_sem, bne_self_eq_false, beq_self_eq_true, true_and, and_true, decide_true, decide_false, wrap_i64, ↓reduceIte, Nat.reduceAdd, Nat.reduceSub, Nat.reduceMul, Nat.reduceEqDiff, Nat.reduceLeDiff, Int.reduceAdd, Int.reduceSub, Int.reduceNeg, Int.reduceLT, Int.reduceLE, Int.reduceEq, Int.reduceToNat, Nat.reduceMod, Klen, Kj, Sj, Ke]
      refine ACalls.det (holds_calls_k Γ who c k x _ m (mem_sz (by simp) hsz) (hs.mem x (by simp)) (hN.2.2 x (by simp)) (Km _ _ _ _)) ?_
      simp (disch := omega) only [go_sem, bne_self_eq_false, beq_self_eq_true, true_and, and_true, decide_true, decide_false, wrap_i64, ↓reduceIte, Nat.reduceAdd, Nat.reduceSub, Nat.reduceMul, Nat.reduceEqDiff, Nat.reduceLeDiff, Int.reduceAdd, Int.reduceSub, Int.reduceNeg, Int.reduceLT, Int.reduceLE, Int.reduceEq, Int.reduceToNat, Nat.reduceMod]
      refine aBr.intro (fun hh => ?_) (fun hh => ?_) <;> simp (disch := omega) only [go_sem, bne_self_eq_false, beq_self_eq_true, true_and, and_true, decide_true, decide_false, wrap_i64, ↓reduceIte, Nat.reduceAdd, Nat.reduceSub, Nat.reduceMul, Nat.reduceEqDiff, Nat.reduceLeDiff, Int.reduceAdd, Int.reduceSub, Int.reduceNeg, Int.reduceLT, Int.reduceLE, Int.reduceEq, Int.reduceToNat, Nat.reduceMod, Kj]
      · refine ayield_L hli (Kl _ _ _ _) rfl rfl Ty.mixed (by kernel_rfl) rfl ?_
        simp (disch := omega) only [go_sem, bne_self_eq_false, beq_self_eq_true, true_and, and_true, decide_true, decide_false, wrap_i64, ↓reduceIte, Nat.reduceAdd, Nat.reduceSub, Nat.reduceMul, Nat.reduceEqDiff, Nat.reduceLeDiff, Int.reduceAdd, Int.reduceSub, Int.reduceNeg, Int.reduceLT, Int.reduceLE, Int.reduceEq, Int.reduceToNat, Nat.reduceMod, Kl, Kn, Sl, Sn, Kb, Sb]
        refine aIf.intro (fun hb0 => ?_) (fun hb0 => ?_) <;> simp (disch := omega) only [go_sem, bne_self_eq_false, beq_self_eq_true, true_and, and_true, decide_true, decide_false, wrap_i64, ↓reduceIte, Nat.reduceAdd, Nat.reduceSub, Nat.reduceMul, Nat.reduceEqDiff, Nat.reduceLeDiff, Int.reduceAdd, Int.reduceSub, Int.reduceNeg, Int.reduceLT, Int.reduceLE, Int.reduceEq, Int.reduceToNat, Nat.reduceMod]
        · simp (disch := omega) only [go_sem, bne_self_eq_false, beq_self_eq_true, true_and, and_true, decide_true, decide_false, wrap_i64, ↓reduceIte, Nat.reduceAdd, Nat.reduceSub, Nat.reduceMul, Nat.reduceEqDiff, Nat.reduceLeDiff, Int.reduceAdd, Int.reduceSub, Int.reduceNeg, Int.reduceLT, Int.reduceLE, Int.reduceEq, Int.reduceToNat, Nat.reduceMod, Kl, Kn, Sl, Sn, Kb, Sb]
          refine ⟨_, .done, some .ret, j ++ [.row (encG x).cells 24], by subst hK; simp only [List.append_assoc, List.cons_append, List.nil_append]; rw [app5], by simpa using HK (b - 1) true, by simp, ?_⟩
          refine afterLoop_some Ty.mixed (by kernel_rfl) ?_
          simp (disch := omega) only [go_sem, bne_self_eq_false, beq_self_eq_true, true_and, and_true, decide_true, decide_false, wrap_i64, ↓reduceIte, Nat.reduceAdd, Nat.reduceSub, Nat.reduceMul, Nat.reduceEqDiff, Nat.reduceLeDiff, Int.reduceAdd, Int.reduceSub, Int.reduceNeg, Int.reduceLT, Int.reduceLE, Int.reduceEq, Int.reduceToNat, Nat.reduceMod]
          simp only [holdsF, if_neg h1]
          rw [hb, cntF, if_pos hh, if_pos hb0]
        · simp (disch := omega) only [go_sem, bne_self_eq_false, beq_self_eq_true, true_and, and_true, decide_true, decide_false, wrap_i64, ↓reduceIte, Nat.reduceAdd, Nat.reduceSub, Nat.reduceMul, Nat.reduceEqDiff, Nat.reduceLeDiff, Int.reduceAdd, Int.reduceSub, Int.reduceNeg, Int.reduceLT, Int.reduceLE, Int.reduceEq, Int.reduceToNat, Nat.reduceMod, Kl, Kn, Sl, Sn, Kb, Sb]
          refine roundL_next (b - 1, j ++ [.row (encG x).cells 24]) ⟨by simp only; omega, by simp only; omega, ?_⟩ ?_ rfl
          · rw [hb, cntF, if_pos hh, if_neg hb0]
          · simp (disch := omega) only [go_sem, bne_self_eq_false, beq_self_eq_true, true_and, and_true, decide_true, decide_false, wrap_i64, ↓reduceIte, Nat.reduceAdd, Nat.reduceSub, Nat.reduceMul, Nat.reduceEqDiff, Nat.reduceLeDiff, Int.reduceAdd, Int.reduceSub, Int.reduceNeg, Int.reduceLT, Int.reduceLE, Int.reduceEq, Int.reduceToNat, Nat.reduceMod, List.length_append, List.map_append, List.map_cons]
      · refine roundL_next (b, j ++ [.row (encG x).cells 24]) ⟨hb1, hb2, ?_⟩ ?_ rfl
        · rw [hb, cntF, if_neg (by simp [hh])]
        · simp (disch := omega) only [go_sem, bne_self_eq_false, beq_self_eq_true, true_and, and_true, decide_true, decide_false, wrap_i64, ↓reduceIte, Nat.reduceAdd, Nat.reduceSub, Nat.reduceMul, Nat.reduceEqDiff, Nat.reduceLeDiff, Int.reduceAdd, Int.reduceSub, Int.reduceNeg, Int.reduceLT, Int.reduceLE, Int.reduceEq, Int.reduceToNat, Nat.reduceMod, List.length_append, List.map_append, List.map_cons]
    · rintro ⟨b, j⟩ ⟨hb1, hb2, hb⟩
      simp (disch := omega) only [go_sem, bne_self_eq_false, beq_self_eq_true, true_and, and_true, decide_true, decide_false, wrap_i64, ↓reduceIte, Nat.reduceAdd, Nat.reduceSub, Nat.reduceMul, Nat.reduceEqDiff, Nat.reduceLeDiff, Int.reduceAdd, Int.reduceSub, Int.reduceNeg, Int.reduceLT, Int.reduceLE, Int.reduceEq, Int.reduceToNat, Nat.reduceMod]
      refine ⟨_, .ready, none, j, by subst hK; simp only [List.append_assoc, List.cons_append, List.nil_append]; rw [app5], by simpa using HK b false, by simp, ?_⟩
      simp (disch := omega) only [go_sem, bne_self_eq_false, beq_self_eq_true, true_and, and_true, decide_true, decide_false, wrap_i64, ↓reduceIte, Nat.reduceAdd, Nat.reduceSub, Nat.reduceMul, Nat.reduceEqDiff, Nat.reduceLeDiff, Int.reduceAdd, Int.reduceSub, Int.reduceNeg, Int.reduceLT, Int.reduceLE, Int.reduceEq, Int.reduceToNat, Nat.reduceMod]
      refine AWP.keep [4] (aCode_ok Ty.mixed _ _ _ _ (by kernel_rfl) ?_)
      simp (disch := omega) only [go_sem, bne_self_eq_false, beq_self_eq_true, true_and, and_true, decide_true, decide_false, wrap_i64, ↓reduceIte, Nat.reduceAdd, Nat.reduceSub, Nat.reduceMul, Nat.reduceEqDiff, Nat.reduceLeDiff, Int.reduceAdd, Int.reduceSub, Int.reduceNeg, Int.reduceLT, Int.reduceLE, Int.reduceEq, Int.reduceToNat, Nat.reduceMod]
      simp only [holdsF, if_neg h1]
      rw [hb, cntF]
end Go.Proofs.Ytopiamdfnaejeaa
