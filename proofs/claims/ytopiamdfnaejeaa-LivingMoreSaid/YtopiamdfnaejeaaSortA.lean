/- The library's sort of few numbers: what it leaves. No conditions. -/
import Derived.Test.YtopiamdfnaejeaaTy
import Derived.Test.YtopiamdfnaejeaaAbsS
set_option linter.unusedSimpArgs false
set_option linter.unusedVariables false
namespace Go.Proofs.Ytopiamdfnaejeaa
open Go Go.Proofs Go.Abs

def encI (l : List Int) : List AV := l.map fun i => .int .i64 i
theorem encI_app (l m : List Int) : encI (l ++ m) = encI l ++ encI m := by simp [encI]
theorem encI_cons (x : Int) (l : List Int) : encI (x :: l) = .int .i64 x :: encI l := rfl
theorem encI_len (l : List Int) : (encI l).length = l.length := by simp [encI]
def insI (x : Int) : List Int → List Int
  | [] => [x]
  | y :: r => if x ≤ y then x :: y :: r else y :: insI x r
def sortI : List Int → List Int
  | [] => []
  | x :: r => insI x (sortI r)
theorem insI_perm (x : Int) (l : List Int) : (insI x l).Perm (x :: l) := by
  induction l with
  | nil => exact .refl _
  | cons y r ih =>
    simp only [insI]
    split
    · exact .refl _
    · exact (ih.cons y).trans (.swap x y r)
theorem insI_le (x : Int) (l : List Int) (h : l.Pairwise (· ≤ ·)) : (insI x l).Pairwise (· ≤ ·) := by
  induction l with
  | nil => simp [insI]
  | cons y r ih =>
    obtain ⟨h1, h2⟩ := List.pairwise_cons.1 h
    simp only [insI]
    split
    · rename_i hxy
      refine List.pairwise_cons.2 ⟨fun z hz => ?_, h⟩
      rcases List.mem_cons.1 hz with rfl | hz
      · exact hxy
      · exact Int.le_trans hxy (h1 z hz)
    · rename_i hxy
      refine List.pairwise_cons.2 ⟨fun z hz => ?_, ih h2⟩
      rcases List.mem_cons.1 ((insI_perm x r).mem_iff.1 hz) with rfl | hz
      · omega
      · exact h1 z hz
theorem sortI_perm (l : List Int) : (sortI l).Perm l := by
  induction l with
  | nil => exact .refl _
  | cons x r ih => exact (insI_perm x _).trans (ih.cons x)
theorem sortI_le (l : List Int) : (sortI l).Pairwise (· ≤ ·) := by
  induction l with
  | nil => exact .nil
  | cons x r ih => exact insI_le x _ ih
theorem sortI_of {l s : List Int} (h1 : s.Pairwise (· ≤ ·)) (h2 : s.Perm l) : s = sortI l :=
  List.Perm.eq_of_pairwise (le := (· ≤ ·)) (fun a b _ _ h1 h2 => Int.le_antisymm h1 h2) h1 (sortI_le l) (h2.trans (sortI_perm l).symm)

/-! ### Cells of a list of numbers -/
theorem drop_at (l : List Int) (x : AV) (R : List AV) : (encI l ++ x :: R).drop l.length = x :: R := by
  have := List.drop_left (l₁ := encI l) (l₂ := x :: R)
  rwa [encI_len] at this
theorem drop_at1 (l : List Int) (x y : AV) (R : List AV) : (encI l ++ x :: y :: R).drop (l.length + 1) = y :: R := by
  rw [← encI_len l, List.drop_append]
  simp
theorem set_at (l : List Int) (x z : AV) (R : List AV) : (encI l ++ x :: R).set l.length z = encI l ++ z :: R := by
  rw [← encI_len l, List.set_append_right _ _ (Nat.le_refl _)]; simp
theorem set_at1 (l : List Int) (x y z : AV) (R : List AV) : (encI l ++ x :: y :: R).set (l.length + 1) z = encI l ++ x :: z :: R := by
  rw [← encI_len l, List.set_append_right _ _ (by omega)]; simp
set_option maxRecDepth 100000 in
theorem isnan_calls (Γ : Nat → Option (List AV)) (x : Int) (h : AH) : ACalls Try.prog Γ 139 [.int .i64 x] h fun v h' => h' = h ∧ v = .bool false := by
  refine ACalls.drop ?_
  refine acalls_code (rs := [.tmp 2]) Try.func139 rfl rfl rfl rfl Ty.mixed (by kernel_rfl) ?_
  simp (disch := omega) only [go_sem, bne_self_eq_false, beq_self_eq_true, true_and, and_true, decide_true, decide_false, wrap_i64, ↓reduceIte, Nat.reduceAdd, Nat.reduceSub, Nat.reduceMul, Nat.reduceEqDiff, Nat.reduceLeDiff, Int.reduceAdd, Int.reduceSub, Int.reduceNeg, Int.reduceLT, Int.reduceLE, Int.reduceEq, Int.reduceToNat, Nat.reduceMod]
theorem less_calls (Γ : Nat → Option (List AV)) (x y : Int) (h : AH) : ACalls Try.prog Γ 117 [.int .i64 x, .int .i64 y] h fun v h' => h' = h ∧ v = .bool (decide (x < y)) := by
  refine ACalls.drop ?_
  refine acalls_code (rs := [.tmp 4]) Try.func117 rfl rfl rfl rfl Ty.mixed (by kernel_rfl) ?_
  simp (disch := omega) only [go_sem, bne_self_eq_false, beq_self_eq_true, true_and, and_true, decide_true, decide_false, wrap_i64, ↓reduceIte, Nat.reduceAdd, Nat.reduceSub, Nat.reduceMul, Nat.reduceEqDiff, Nat.reduceLeDiff, Int.reduceAdd, Int.reduceSub, Int.reduceNeg, Int.reduceLT, Int.reduceLE, Int.reduceEq, Int.reduceToNat, Nat.reduceMod]
  refine ACalls.det (isnan_calls Γ x _) ?_
  simp (disch := omega) only [go_sem, bne_self_eq_false, beq_self_eq_true, true_and, and_true, decide_true, decide_false, wrap_i64, ↓reduceIte, Nat.reduceAdd, Nat.reduceSub, Nat.reduceMul, Nat.reduceEqDiff, Nat.reduceLeDiff, Int.reduceAdd, Int.reduceSub, Int.reduceNeg, Int.reduceLT, Int.reduceLE, Int.reduceEq, Int.reduceToNat, Nat.reduceMod]
theorem isort_calls (Γ : Nat → Option (List AV)) (i c : Nat) (T : TypeId) (l : List Int) (pad : List AV) (h : AH) (hi : h[i]? = some (.row (encI l ++ pad) T)) (hl : l.length ≤ 1000000) :
    ACalls Try.prog Γ 119 [.ms i 0 l.length c 1, .int .i64 0, .int .i64 l.length] h fun v h' => h' = h.set i (.row (encI (sortI l) ++ pad) T) := by
  refine acalls_code (rs := []) Try.func119 rfl rfl rfl rfl Ty.mixed (by kernel_rfl) ?_
  simp (disch := omega) only [go_sem, bne_self_eq_false, beq_self_eq_true, true_and, and_true, decide_true, decide_false, wrap_i64, ↓reduceIte, Nat.reduceAdd, Nat.reduceSub, Nat.reduceMul, Nat.reduceEqDiff, Nat.reduceLeDiff, Int.reduceAdd, Int.reduceSub, Int.reduceNeg, Int.reduceLT, Int.reduceLE, Int.reduceEq, Int.reduceToNat, Nat.reduceMod]
  refine awp_loopL (β := List Int) l.tail [0, 1, 2, 6] (fun don s => [(0, .ms i 0 l.length c 1), (1, .int .i64 0), (2, .int .i64 l.length), (6, .int .i64 (don.length + 1))])
    (fun s => h.set i (.row (encI s ++ pad) T)) (fun don r s => ∃ s0, s = s0 ++ r ∧ s0.Pairwise (· ≤ ·) ∧ s0.length = min l.length (don.length + 1) ∧ s.Perm l) l ?_ ?_ ?_ Ty.mixed (by kernel_rfl) ?_ ?_
  · simp (disch := omega) only [go_sem, bne_self_eq_false, beq_self_eq_true, true_and, and_true, decide_true, decide_false, wrap_i64, ↓reduceIte, Nat.reduceAdd, Nat.reduceSub, Nat.reduceMul, Nat.reduceEqDiff, Nat.reduceLeDiff, Int.reduceAdd, Int.reduceSub, Int.reduceNeg, Int.reduceLT, Int.reduceLE, Int.reduceEq, Int.reduceToNat, Nat.reduceMod]
  · rw [hset_same hi]
  · cases l with
    | nil => exact ⟨[], rfl, .nil, by simp, .refl _⟩
    | cons a l => exact ⟨[a], rfl, by simp, by simp, .refl _⟩
  · rintro don x r s hx ⟨s0, rfl, h1, h2, h3⟩
    have hlx : l.length = don.length + 1 + (r.length + 1) := by
      have h4 := congrArg List.length hx
      simp at h4
      cases l with
      | nil => simp at h4
      | cons a l => simp at h4 ⊢; omega
    have h5 : s0.length = don.length + 1 := by omega
    simp (disch := omega) only [go_sem, bne_self_eq_false, beq_self_eq_true, true_and, and_true, decide_true, decide_false, wrap_i64, ↓reduceIte, Nat.reduceAdd, Nat.reduceSub, Nat.reduceMul, Nat.reduceEqDiff, Nat.reduceLeDiff, Int.reduceAdd, Int.reduceSub, Int.reduceNeg, Int.reduceLT, Int.reduceLE, Int.reduceEq, Int.reduceToNat, Nat.reduceMod]
    refine aIf.pos (by omega) ?_
    simp (disch := omega) only [go_sem, bne_self_eq_false, beq_self_eq_true, true_and, and_true, decide_true, decide_false, wrap_i64, ↓reduceIte, Nat.reduceAdd, Nat.reduceSub, Nat.reduceMul, Nat.reduceEqDiff, Nat.reduceLeDiff, Int.reduceAdd, Int.reduceSub, Int.reduceNeg, Int.reduceLT, Int.reduceLE, Int.reduceEq, Int.reduceToNat, Nat.reduceMod]
    refine awp_loopS (α := List Int × List Int) [0, 1, 2, 6, 7] (fun s => [(0, .ms i 0 l.length c 1), (1, .int .i64 0), (2, .int .i64 l.length), (6, .int .i64 (don.length + 1)), (7, .int .i64 s.1.length)])
      (fun s => h.set i (.row (encI s.1 ++ .int .i64 x :: (encI s.2 ++ (encI r ++ pad))) T)) (fun s => s0 = s.1 ++ s.2 ∧ ∀ y ∈ s.2, x ≤ y) (fun s => s.1.length) (s0, []) ?_ ?_ ⟨by simp, by simp⟩ Ty.mixed (by kernel_rfl) ?_
    · simp (disch := omega) only [go_sem, bne_self_eq_false, beq_self_eq_true, true_and, and_true, decide_true, decide_false, wrap_i64, ↓reduceIte, Nat.reduceAdd, Nat.reduceSub, Nat.reduceMul, Nat.reduceEqDiff, Nat.reduceLeDiff, Int.reduceAdd, Int.reduceSub, Int.reduceNeg, Int.reduceLT, Int.reduceLE, Int.reduceEq, Int.reduceToNat, Nat.reduceMod]
      rw [h5]
      simp
    · rw [encI_app, encI_cons]
      simp [encI]
    rintro ⟨s1, s2⟩ ⟨rfl, h6⟩
    simp only at h6 h1 h2 h3 h5 ⊢
    rcases List.eq_nil_or_concat s1 with rfl | ⟨s1, y, rfl⟩
    · simp (disch := omega) only [go_sem, bne_self_eq_false, beq_self_eq_true, true_and, and_true, decide_true, decide_false, wrap_i64, ↓reduceIte, Nat.reduceAdd, Nat.reduceSub, Nat.reduceMul, Nat.reduceEqDiff, Nat.reduceLeDiff, Int.reduceAdd, Int.reduceSub, Int.reduceNeg, Int.reduceLT, Int.reduceLE, Int.reduceEq, Int.reduceToNat, Nat.reduceMod]
      refine AWP.keep [0, 1, 2, 6] (aCode_ok Ty.mixed _ _ _ _ (by kernel_rfl) ?_)
      simp (disch := omega) only [go_sem, bne_self_eq_false, beq_self_eq_true, true_and, and_true, decide_true, decide_false, wrap_i64, ↓reduceIte, Nat.reduceAdd, Nat.reduceSub, Nat.reduceMul, Nat.reduceEqDiff, Nat.reduceLeDiff, Int.reduceAdd, Int.reduceSub, Int.reduceNeg, Int.reduceLT, Int.reduceLE, Int.reduceEq, Int.reduceToNat, Nat.reduceMod]
      refine roundL_next (x :: s2 ++ r) ⟨x :: s2, rfl, ?_, ?_, ?_⟩ ?_ ?_
      · exact List.pairwise_cons.2 ⟨fun y hy => h6 y hy, by simpa using h1⟩
      · simp at h5 ⊢; omega
      · refine List.Perm.trans ?_ h3
        simpa using (List.perm_middle (a := x) (l₁ := s2) (l₂ := r)).symm
      · simp (disch := omega) only [go_sem, bne_self_eq_false, beq_self_eq_true, true_and, and_true, decide_true, decide_false, wrap_i64, ↓reduceIte, Nat.reduceAdd, Nat.reduceSub, Nat.reduceMul, Nat.reduceEqDiff, Nat.reduceLeDiff, Int.reduceAdd, Int.reduceSub, Int.reduceNeg, Int.reduceLT, Int.reduceLE, Int.reduceEq, Int.reduceToNat, Nat.reduceMod, List.length_append]
      · rw [encI_app, encI_cons]; simp [encI]
    · rw [List.concat_eq_append] at *
      have hc : (encI (s1 ++ [y]) ++ AV.int .i64 x :: (encI s2 ++ (encI r ++ pad))) = encI s1 ++ .int .i64 y :: .int .i64 x :: (encI s2 ++ (encI r ++ pad)) := by rw [encI_app]; simp [encI]
      rw [hc]
      have hk : i < h.length := (List.getElem?_eq_some_iff.1 hi).1
      simp (disch := omega) only [go_sem, bne_self_eq_false, beq_self_eq_true, true_and, and_true, decide_true, decide_false, wrap_i64, ↓reduceIte, Nat.reduceAdd, Nat.reduceSub, Nat.reduceMul, Nat.reduceEqDiff, Nat.reduceLeDiff, Int.reduceAdd, Int.reduceSub, Int.reduceNeg, Int.reduceLT, Int.reduceLE, Int.reduceEq, Int.reduceToNat, Nat.reduceMod, List.length_append, List.getElem?_set_self hk]
      refine aIf.pos (by omega) ?_
      have ix1 : ((s1.length : Int) + 1).toNat = s1.length + 1 := by omega
      have hll : s1.length + 1 + s2.length = don.length + 1 := by simp at h5; omega
      simp (disch := omega) only [go_sem, bne_self_eq_false, beq_self_eq_true, true_and, and_true, decide_true, decide_false, wrap_i64, ↓reduceIte, Nat.reduceAdd, Nat.reduceSub, Nat.reduceMul, Nat.reduceEqDiff, Nat.reduceLeDiff, Int.reduceAdd, Int.reduceSub, Int.reduceNeg, Int.reduceLT, Int.reduceLE, Int.reduceEq, Int.reduceToNat, Nat.reduceMod, List.length_append, List.getElem?_set_self hk, ix1, Nat.zero_add, Nat.mul_one, drop_at, drop_at1]
      refine ⟨by omega, by omega, by omega, ?_⟩
      refine aCallF.intro (fun _ => less_calls Γ x y _) ?_
      simp (disch := omega) only [go_sem, bne_self_eq_false, beq_self_eq_true, true_and, and_true, decide_true, decide_false, wrap_i64, ↓reduceIte, Nat.reduceAdd, Nat.reduceSub, Nat.reduceMul, Nat.reduceEqDiff, Nat.reduceLeDiff, Int.reduceAdd, Int.reduceSub, Int.reduceNeg, Int.reduceLT, Int.reduceLE, Int.reduceEq, Int.reduceToNat, Nat.reduceMod]
      refine aIf.intro (fun h8 => ?_) (fun h8 => ?_) <;> simp (disch := omega) only [go_sem, bne_self_eq_false, beq_self_eq_true, true_and, and_true, decide_true, decide_false, wrap_i64, ↓reduceIte, Nat.reduceAdd, Nat.reduceSub, Nat.reduceMul, Nat.reduceEqDiff, Nat.reduceLeDiff, Int.reduceAdd, Int.reduceSub, Int.reduceNeg, Int.reduceLT, Int.reduceLE, Int.reduceEq, Int.reduceToNat, Nat.reduceMod]
      · simp (disch := omega) only [go_sem, bne_self_eq_false, beq_self_eq_true, true_and, and_true, decide_true, decide_false, wrap_i64, ↓reduceIte, Nat.reduceAdd, Nat.reduceSub, Nat.reduceMul, Nat.reduceEqDiff, Nat.reduceLeDiff, Int.reduceAdd, Int.reduceSub, Int.reduceNeg, Int.reduceLT, Int.reduceLE, Int.reduceEq, Int.reduceToNat, Nat.reduceMod, List.length_append, List.getElem?_set_self hk, ix1, Nat.zero_add, Nat.mul_one, drop_at, drop_at1, List.set_set, set_at, set_at1, encI_len]
        refine ⟨by omega, by omega, by omega, by omega, by omega, by omega, by omega, by omega, ?_⟩
        refine roundS_next (s1, y :: s2) (by simp) ⟨by simp, ?_⟩ ?_ ?_
        · intro z hz
          rcases List.mem_cons.1 hz with rfl | hz
          · omega
          · exact h6 z hz
        · simp (disch := omega) only [go_sem, bne_self_eq_false, beq_self_eq_true, true_and, and_true, decide_true, decide_false, wrap_i64, ↓reduceIte, Nat.reduceAdd, Nat.reduceSub, Nat.reduceMul, Nat.reduceEqDiff, Nat.reduceLeDiff, Int.reduceAdd, Int.reduceSub, Int.reduceNeg, Int.reduceLT, Int.reduceLE, Int.reduceEq, Int.reduceToNat, Nat.reduceMod, List.length_append]
        · simp [encI]
      · refine AWP.keep [0, 1, 2, 6] (aCode_ok Ty.mixed _ _ _ _ (by kernel_rfl) ?_)
        simp (disch := omega) only [go_sem, bne_self_eq_false, beq_self_eq_true, true_and, and_true, decide_true, decide_false, wrap_i64, ↓reduceIte, Nat.reduceAdd, Nat.reduceSub, Nat.reduceMul, Nat.reduceEqDiff, Nat.reduceLeDiff, Int.reduceAdd, Int.reduceSub, Int.reduceNeg, Int.reduceLT, Int.reduceLE, Int.reduceEq, Int.reduceToNat, Nat.reduceMod]
        refine roundL_next (s1 ++ y :: x :: s2 ++ r) ⟨s1 ++ y :: x :: s2, rfl, ?_, ?_, ?_⟩ ?_ ?_
        · rw [List.append_assoc, List.pairwise_append] at h1
          obtain ⟨k1, k2, k3⟩ := h1
          simp only [List.cons_append, List.nil_append, List.pairwise_cons] at k2
          rw [List.pairwise_append]
          refine ⟨k1, ?_, ?_⟩
          · simp only [List.pairwise_cons, List.mem_cons]
            refine ⟨?_, h6, k2.2⟩
            rintro z (rfl | hz)
            · omega
            · exact k2.1 z hz
          · intro a ha b hb
            have e1 := k3 a ha y (by simp)
            rcases List.mem_cons.1 hb with rfl | hb
            · exact e1
            rcases List.mem_cons.1 hb with rfl | hb
            · omega
            · exact k3 a ha b (by simp [hb])
        · simp at h5 ⊢; omega
        · refine List.Perm.trans ?_ h3
          simp only [List.append_assoc, List.cons_append, List.nil_append]
          refine List.Perm.append_left s1 (List.Perm.cons y ?_)
          exact (List.perm_middle (a := x) (l₁ := s2) (l₂ := r)).symm
        · simp (disch := omega) only [go_sem, bne_self_eq_false, beq_self_eq_true, true_and, and_true, decide_true, decide_false, wrap_i64, ↓reduceIte, Nat.reduceAdd, Nat.reduceSub, Nat.reduceMul, Nat.reduceEqDiff, Nat.reduceLeDiff, Int.reduceAdd, Int.reduceSub, Int.reduceNeg, Int.reduceLT, Int.reduceLE, Int.reduceEq, Int.reduceToNat, Nat.reduceMod, List.length_append]
        · simp [encI]
  · rintro s ⟨s0, rfl, h1, h2, h3⟩
    simp (disch := omega) only [go_sem, bne_self_eq_false, beq_self_eq_true, true_and, and_true, decide_true, decide_false, wrap_i64, ↓reduceIte, Nat.reduceAdd, Nat.reduceSub, Nat.reduceMul, Nat.reduceEqDiff, Nat.reduceLeDiff, Int.reduceAdd, Int.reduceSub, Int.reduceNeg, Int.reduceLT, Int.reduceLE, Int.reduceEq, Int.reduceToNat, Nat.reduceMod]
    refine aIf.neg (by cases l <;> simp) ?_
    simp (disch := omega) only [go_sem, bne_self_eq_false, beq_self_eq_true, true_and, and_true, decide_true, decide_false, wrap_i64, ↓reduceIte, Nat.reduceAdd, Nat.reduceSub, Nat.reduceMul, Nat.reduceEqDiff, Nat.reduceLeDiff, Int.reduceAdd, Int.reduceSub, Int.reduceNeg, Int.reduceLT, Int.reduceLE, Int.reduceEq, Int.reduceToNat, Nat.reduceMod]
    rw [List.append_nil] at h3
    rw [sortI_of h1 h3]
end Go.Proofs.Ytopiamdfnaejeaa
