/- Delivering, losing, repeating. No conditions. -/
import Derived.Test.YtidmpembkkkhkaaNetD
set_option linter.unusedSimpArgs false
set_option linter.unusedVariables false
namespace Go.Proofs.Ytidmpembkkkhkaa
open Go Go.Proofs Go.Abs

/-! ### Is a link cut? -/
theorem iscut_calls (Γ : Nat → Option (List AV)) (n : Nt) (x y : Int) (h : AH) (ha : n.a.length ≤ 9223372036854775807) :
    ACalls Try.prog Γ 40 [encN n, .int .i64 x, .int .i64 y] h fun v h' => h' = h ∧ v = .bool (decide (betw x y ∈ n.a)) := by
  refine ACalls.drop ?_
  obtain ⟨q, a⟩ := n
  simp only at ha
  refine acalls_code (rs := [.tmp 6]) Try.func40 rfl rfl rfl rfl Ty.mixed (by kernel_rfl) ?_
  simp (disch := omega) only [go_sem, bne_self_eq_false, beq_self_eq_true, true_and, and_true, decide_true, decide_false, wrap_i64, ↓reduceIte, Nat.reduceAdd, Nat.reduceSub, Nat.reduceMul, Nat.reduceEqDiff, Nat.reduceLeDiff, Int.reduceAdd, Int.reduceSub, Int.reduceNeg, Int.reduceLT, Int.reduceLE, Int.reduceEq, Int.reduceToNat, Nat.reduceMod, encN]
  refine awp_loopL (β := Unit) a [7, 3, 2, 1] (fun don _ => [(7, .int .i64 don.length), (3, .ptr (some (h.length, 0))), (2, .int .i64 y), (1, .int .i64 x)])
    (fun _ => h ++ [.row [.sl (q.map encK) .free, .sl (a.map encL) .free] 25]) (fun don rest _ => (betw x y ∈ a ↔ betw x y ∈ rest)) () ?_ rfl Iff.rfl Ty.mixed (by kernel_rfl) ?_ ?_
  · simp (disch := omega) only [go_sem, bne_self_eq_false, beq_self_eq_true, true_and, and_true, decide_true, decide_false, wrap_i64, ↓reduceIte, Nat.reduceAdd, Nat.reduceSub, Nat.reduceMul, Nat.reduceEqDiff, Nat.reduceLeDiff, Int.reduceAdd, Int.reduceSub, Int.reduceNeg, Int.reduceLT, Int.reduceLE, Int.reduceEq, Int.reduceToNat, Nat.reduceMod]
  · rintro don z r b rfl hs
    have hl3 := len_mid ha
    simp (disch := omega) only [go_sem, bne_self_eq_false, beq_self_eq_true, true_and, and_true, decide_true, decide_false, wrap_i64, ↓reduceIte, Nat.reduceAdd, Nat.reduceSub, Nat.reduceMul, Nat.reduceEqDiff, Nat.reduceLeDiff, Int.reduceAdd, Int.reduceSub, Int.reduceNeg, Int.reduceLT, Int.reduceLE, Int.reduceEq, Int.reduceToNat, Nat.reduceMod, List.map_append, List.map_cons, List.length_append]
    refine aIf.pos (by omega) ?_
    simp (disch := omega) only [go_sem, bne_self_eq_false, beq_self_eq_true, true_and, and_true, decide_true, decide_false, wrap_i64, ↓reduceIte, Nat.reduceAdd, Nat.reduceSub, Nat.reduceMul, Nat.reduceEqDiff, Nat.reduceLeDiff, Int.reduceAdd, Int.reduceSub, Int.reduceNeg, Int.reduceLT, Int.reduceLE, Int.reduceEq, Int.reduceToNat, Nat.reduceMod, encL, AV.cells]
    refine aIf.intro (fun h1 => ?_) (fun h1 => ?_) <;> simp (disch := omega) only [go_sem, bne_self_eq_false, beq_self_eq_true, true_and, and_true, decide_true, decide_false, wrap_i64, ↓reduceIte, Nat.reduceAdd, Nat.reduceSub, Nat.reduceMul, Nat.reduceEqDiff, Nat.reduceLeDiff, Int.reduceAdd, Int.reduceSub, Int.reduceNeg, Int.reduceLT, Int.reduceLE, Int.reduceEq, Int.reduceToNat, Nat.reduceMod]
    · refine aIf.intro (fun h2 => ?_) (fun h2 => ?_) <;> simp (disch := omega) only [go_sem, bne_self_eq_false, beq_self_eq_true, true_and, and_true, decide_true, decide_false, wrap_i64, ↓reduceIte, Nat.reduceAdd, Nat.reduceSub, Nat.reduceMul, Nat.reduceEqDiff, Nat.reduceLeDiff, Int.reduceAdd, Int.reduceSub, Int.reduceNeg, Int.reduceLT, Int.reduceLE, Int.reduceEq, Int.reduceToNat, Nat.reduceMod]
      · have : betw x y = z := Prod.ext h1.symm h2.symm
        simp [hs, this]
      · have : betw x y ≠ z := fun e => h2 (by rw [← e]; rfl)
        refine roundL_next () (by rw [hs]; simp [this]) ?_ (by simp [encL])
        simp (disch := omega) only [go_sem, bne_self_eq_false, beq_self_eq_true, true_and, and_true, decide_true, decide_false, wrap_i64, ↓reduceIte, Nat.reduceAdd, Nat.reduceSub, Nat.reduceMul, Nat.reduceEqDiff, Nat.reduceLeDiff, Int.reduceAdd, Int.reduceSub, Int.reduceNeg, Int.reduceLT, Int.reduceLE, Int.reduceEq, Int.reduceToNat, Nat.reduceMod, List.length_append]
    · have : betw x y ≠ z := fun e => h1 (by rw [← e]; rfl)
      refine roundL_next () (by rw [hs]; simp [this]) ?_ (by simp [encL])
      simp (disch := omega) only [go_sem, bne_self_eq_false, beq_self_eq_true, true_and, and_true, decide_true, decide_false, wrap_i64, ↓reduceIte, Nat.reduceAdd, Nat.reduceSub, Nat.reduceMul, Nat.reduceEqDiff, Nat.reduceLeDiff, Int.reduceAdd, Int.reduceSub, Int.reduceNeg, Int.reduceLT, Int.reduceLE, Int.reduceEq, Int.reduceToNat, Nat.reduceMod, List.length_append]
  · intro b hs
    simp (disch := omega) only [go_sem, bne_self_eq_false, beq_self_eq_true, true_and, and_true, decide_true, decide_false, wrap_i64, ↓reduceIte, Nat.reduceAdd, Nat.reduceSub, Nat.reduceMul, Nat.reduceEqDiff, Nat.reduceLeDiff, Int.reduceAdd, Int.reduceSub, Int.reduceNeg, Int.reduceLT, Int.reduceLE, Int.reduceEq, Int.reduceToNat, Nat.reduceMod]
    refine AWP.keep [3, 2, 1] (aCode_ok Ty.mixed _ _ _ _ (by kernel_rfl) ?_)
    simp (disch := omega) only [go_sem, bne_self_eq_false, beq_self_eq_true, true_and, and_true, decide_true, decide_false, wrap_i64, ↓reduceIte, Nat.reduceAdd, Nat.reduceSub, Nat.reduceMul, Nat.reduceEqDiff, Nat.reduceLeDiff, Int.reduceAdd, Int.reduceSub, Int.reduceNeg, Int.reduceLT, Int.reduceLE, Int.reduceEq, Int.reduceToNat, Nat.reduceMod]
    have : ¬ betw x y ∈ a := by rw [hs]; simp
    simp [this]

def idxL (x : Int × Int) : List (Int × Int) → Nat → Int
  | [], _ => -1
  | z :: r, i => if x = z then i else idxL x r (i + 1)
theorem idxL_mem (x : Int × Int) (l : List (Int × Int)) (i : Nat) : 0 ≤ idxL x l i ↔ x ∈ l := by
  induction l generalizing i with
  | nil => simp [idxL]
  | cons z r ih =>
    rw [idxL]
    split
    · rename_i e; simp [e]
    · rename_i e; rw [ih]; simp [e]
theorem indexL_calls (Γ : Nat → Option (List AV)) (a : List (Int × Int)) (x : Int × Int) (h : AH) (ha : a.length ≤ 9223372036854775807) :
    ACalls Try.prog Γ 45 [.sl (a.map encL) .free, encL x] h fun v h' => h' = h ∧ v = .int .i64 (idxL x a 0) := by
  refine ACalls.drop ?_
  refine acalls_code (rs := [.tmp 4]) Try.func45 rfl rfl rfl rfl Ty.mixed (by kernel_rfl) ?_
  simp (disch := omega) only [go_sem, bne_self_eq_false, beq_self_eq_true, true_and, and_true, decide_true, decide_false, wrap_i64, ↓reduceIte, Nat.reduceAdd, Nat.reduceSub, Nat.reduceMul, Nat.reduceEqDiff, Nat.reduceLeDiff, Int.reduceAdd, Int.reduceSub, Int.reduceNeg, Int.reduceLT, Int.reduceLE, Int.reduceEq, Int.reduceToNat, Nat.reduceMod]
  refine awp_loopL (β := Unit) a [8, 7, 3, 0] (fun don _ => [(8, .int .i64 don.length), (7, .int .i64 a.length), (3, .ptr (some (h.length, 0))), (0, .sl (a.map encL) .free)])
    (fun _ => h ++ [.row (encL x).cells 55]) (fun don rest _ => idxL x a 0 = idxL x rest don.length) () ?_ rfl rfl Ty.mixed (by kernel_rfl) ?_ ?_
  · simp (disch := omega) only [go_sem, bne_self_eq_false, beq_self_eq_true, true_and, and_true, decide_true, decide_false, wrap_i64, ↓reduceIte, Nat.reduceAdd, Nat.reduceSub, Nat.reduceMul, Nat.reduceEqDiff, Nat.reduceLeDiff, Int.reduceAdd, Int.reduceSub, Int.reduceNeg, Int.reduceLT, Int.reduceLE, Int.reduceEq, Int.reduceToNat, Nat.reduceMod]
  · rintro don z r b rfl hs
    have hl3 := len_mid ha
    simp (disch := omega) only [go_sem, bne_self_eq_false, beq_self_eq_true, true_and, and_true, decide_true, decide_false, wrap_i64, ↓reduceIte, Nat.reduceAdd, Nat.reduceSub, Nat.reduceMul, Nat.reduceEqDiff, Nat.reduceLeDiff, Int.reduceAdd, Int.reduceSub, Int.reduceNeg, Int.reduceLT, Int.reduceLE, Int.reduceEq, Int.reduceToNat, Nat.reduceMod, List.map_append, List.map_cons, List.length_append]
    refine aIf.pos (by omega) ?_
    simp (disch := omega) only [go_sem, bne_self_eq_false, beq_self_eq_true, true_and, and_true, decide_true, decide_false, wrap_i64, ↓reduceIte, Nat.reduceAdd, Nat.reduceSub, Nat.reduceMul, Nat.reduceEqDiff, Nat.reduceLeDiff, Int.reduceAdd, Int.reduceSub, Int.reduceNeg, Int.reduceLT, Int.reduceLE, Int.reduceEq, Int.reduceToNat, Nat.reduceMod, encL, AV.cells]
    have hxy : (decide (x.1 = z.1) && decide (x.2 = z.2)) = decide (x = z) := by
      rw [Bool.eq_iff_iff]; simp [Prod.ext_iff]
    rw [hxy]
    simp (disch := omega) only [go_sem, bne_self_eq_false, beq_self_eq_true, true_and, and_true, decide_true, decide_false, wrap_i64, ↓reduceIte, Nat.reduceAdd, Nat.reduceSub, Nat.reduceMul, Nat.reduceEqDiff, Nat.reduceLeDiff, Int.reduceAdd, Int.reduceSub, Int.reduceNeg, Int.reduceLT, Int.reduceLE, Int.reduceEq, Int.reduceToNat, Nat.reduceMod]
    refine aIf.intro (fun e => ?_) (fun e => ?_) <;> simp (disch := omega) only [go_sem, bne_self_eq_false, beq_self_eq_true, true_and, and_true, decide_true, decide_false, wrap_i64, ↓reduceIte, Nat.reduceAdd, Nat.reduceSub, Nat.reduceMul, Nat.reduceEqDiff, Nat.reduceLeDiff, Int.reduceAdd, Int.reduceSub, Int.reduceNeg, Int.reduceLT, Int.reduceLE, Int.reduceEq, Int.reduceToNat, Nat.reduceMod]
    · subst e
      rw [hs, idxL, if_pos rfl]
    · refine roundL_next () (by rw [hs, idxL, if_neg e]; simp) ?_ (by simp [encL, AV.cells])
      simp (disch := omega) only [go_sem, bne_self_eq_false, beq_self_eq_true, true_and, and_true, decide_true, decide_false, wrap_i64, ↓reduceIte, Nat.reduceAdd, Nat.reduceSub, Nat.reduceMul, Nat.reduceEqDiff, Nat.reduceLeDiff, Int.reduceAdd, Int.reduceSub, Int.reduceNeg, Int.reduceLT, Int.reduceLE, Int.reduceEq, Int.reduceToNat, Nat.reduceMod, List.length_append, encL, AV.cells]
  · intro b hs
    simp (disch := omega) only [go_sem, bne_self_eq_false, beq_self_eq_true, true_and, and_true, decide_true, decide_false, wrap_i64, ↓reduceIte, Nat.reduceAdd, Nat.reduceSub, Nat.reduceMul, Nat.reduceEqDiff, Nat.reduceLeDiff, Int.reduceAdd, Int.reduceSub, Int.reduceNeg, Int.reduceLT, Int.reduceLE, Int.reduceEq, Int.reduceToNat, Nat.reduceMod]
    refine AWP.keep [3, 0] (aCode_ok Ty.mixed _ _ _ _ (by kernel_rfl) ?_)
    simp (disch := omega) only [go_sem, bne_self_eq_false, beq_self_eq_true, true_and, and_true, decide_true, decide_false, wrap_i64, ↓reduceIte, Nat.reduceAdd, Nat.reduceSub, Nat.reduceMul, Nat.reduceEqDiff, Nat.reduceLeDiff, Int.reduceAdd, Int.reduceSub, Int.reduceNeg, Int.reduceLT, Int.reduceLE, Int.reduceEq, Int.reduceToNat, Nat.reduceMod]
    rw [hs]; rfl
theorem containsL_calls (Γ : Nat → Option (List AV)) (a : List (Int × Int)) (x : Int × Int) (h : AH) (ha : a.length ≤ 9223372036854775807) :
    ACalls Try.prog Γ 36 [.sl (a.map encL) .free, encL x] h fun v h' => h' = h ∧ v = .bool (decide (x ∈ a)) := by
  refine ACalls.drop ?_
  refine acalls_code (rs := [.tmp 4]) Try.func36 rfl rfl rfl rfl Ty.mixed (by kernel_rfl) ?_
  simp (disch := omega) only [go_sem, bne_self_eq_false, beq_self_eq_true, true_and, and_true, decide_true, decide_false, wrap_i64, ↓reduceIte, Nat.reduceAdd, Nat.reduceSub, Nat.reduceMul, Nat.reduceEqDiff, Nat.reduceLeDiff, Int.reduceAdd, Int.reduceSub, Int.reduceNeg, Int.reduceLT, Int.reduceLE, Int.reduceEq, Int.reduceToNat, Nat.reduceMod]
  refine ACalls.det (indexL_calls Γ a x _ ha) ?_
  simp (disch := omega) only [go_sem, bne_self_eq_false, beq_self_eq_true, true_and, and_true, decide_true, decide_false, wrap_i64, ↓reduceIte, Nat.reduceAdd, Nat.reduceSub, Nat.reduceMul, Nat.reduceEqDiff, Nat.reduceLeDiff, Int.reduceAdd, Int.reduceSub, Int.reduceNeg, Int.reduceLT, Int.reduceLE, Int.reduceEq, Int.reduceToNat, Nat.reduceMod]
  simp only [idxL_mem]

/-! ### Delivering -/
theorem encK_splice2 (p q : Pk) : splice (encK p).cells 0 (encK q).cells = (encK q).cells := rfl
attribute [go_sem] encK_splice2
def deliverF (n : Nt) (i : Int) : Pk × Nt × Int :=
  if askF n i = 0 then (if betw (pkAt n i).f (pkAt n i).t ∈ n.a then zK else pkAt n i, withoutF n i.toNat, 0) else (zK, zN, askF n i)
def encD (r : Pk × Nt × Int) : AV := .tuple [encK r.1, encN r.2.1, .int .i64 r.2.2]
theorem deliver_calls (Γ : Nat → Option (List AV)) (n : Nt) (i : Int) (h : AH) (hq : n.q.length ≤ 9223372036854775807) (ha : n.a.length ≤ 9223372036854775807) :
    ACalls Try.prog Γ 18 [encN n, .int .i64 i] h fun v h' => h' = h ∧ v = encD (deliverF n i) := by
  refine ACalls.dropL ?_
  refine acalls_code (rs := [.cell 4 28, .cell 5 25, .tmp 6]) Try.func18 rfl rfl rfl rfl Ty.mixed (by kernel_rfl) ?_
  simp (disch := omega) only [go_sem, bne_self_eq_false, beq_self_eq_true, true_and, and_true, decide_true, decide_false, wrap_i64, ↓reduceIte, Nat.reduceAdd, Nat.reduceSub, Nat.reduceMul, Nat.reduceEqDiff, Nat.reduceLeDiff, Int.reduceAdd, Int.reduceSub, Int.reduceNeg, Int.reduceLT, Int.reduceLE, Int.reduceEq, Int.reduceToNat, Nat.reduceMod]
  refine ACalls.det (at_calls Γ n i _ hq ha) ?_
  simp (disch := omega) only [go_sem, bne_self_eq_false, beq_self_eq_true, true_and, and_true, decide_true, decide_false, wrap_i64, ↓reduceIte, Nat.reduceAdd, Nat.reduceSub, Nat.reduceMul, Nat.reduceEqDiff, Nat.reduceLeDiff, Int.reduceAdd, Int.reduceSub, Int.reduceNeg, Int.reduceLT, Int.reduceLE, Int.reduceEq, Int.reduceToNat, Nat.reduceMod]
  refine aIf.intro (fun h1n => ?_) (fun h1n => ?_) <;> simp (disch := omega) only [go_sem, bne_self_eq_false, beq_self_eq_true, true_and, and_true, decide_true, decide_false, wrap_i64, ↓reduceIte, Nat.reduceAdd, Nat.reduceSub, Nat.reduceMul, Nat.reduceEqDiff, Nat.reduceLeDiff, Int.reduceAdd, Int.reduceSub, Int.reduceNeg, Int.reduceLT, Int.reduceLE, Int.reduceEq, Int.reduceToNat, Nat.reduceMod]
  rotate_left
  · simp [deliverF, h1n, pkAt, encD, encN, zN]
  obtain ⟨h2, h3, h4, h5⟩ := ask_ok h1n
  obtain ⟨k, rfl⟩ : ∃ k : Nat, i = k := ⟨i.toNat, by omega⟩
  simp (disch := omega) only [go_sem, bne_self_eq_false, beq_self_eq_true, true_and, and_true, decide_true, decide_false, wrap_i64, ↓reduceIte, Nat.reduceAdd, Nat.reduceSub, Nat.reduceMul, Nat.reduceEqDiff, Nat.reduceLeDiff, Int.reduceAdd, Int.reduceSub, Int.reduceNeg, Int.reduceLT, Int.reduceLE, Int.reduceEq, Int.reduceToNat, Nat.reduceMod, encN, encK]
  refine aCallF.intro (fun _ => between_calls Γ _ _ _) ?_
  simp (disch := omega) only [go_sem, bne_self_eq_false, beq_self_eq_true, true_and, and_true, decide_true, decide_false, wrap_i64, ↓reduceIte, Nat.reduceAdd, Nat.reduceSub, Nat.reduceMul, Nat.reduceEqDiff, Nat.reduceLeDiff, Int.reduceAdd, Int.reduceSub, Int.reduceNeg, Int.reduceLT, Int.reduceLE, Int.reduceEq, Int.reduceToNat, Nat.reduceMod]
  refine aCallF.intro (fun _ => containsL_calls Γ _ _ _ ha) ?_
  simp (disch := omega) only [go_sem, bne_self_eq_false, beq_self_eq_true, true_and, and_true, decide_true, decide_false, wrap_i64, ↓reduceIte, Nat.reduceAdd, Nat.reduceSub, Nat.reduceMul, Nat.reduceEqDiff, Nat.reduceLeDiff, Int.reduceAdd, Int.reduceSub, Int.reduceNeg, Int.reduceLT, Int.reduceLE, Int.reduceEq, Int.reduceToNat, Nat.reduceMod]
  refine aIf.intro (fun hc => ?_) (fun hc => ?_) <;> simp (disch := omega) only [go_sem, bne_self_eq_false, beq_self_eq_true, true_and, and_true, decide_true, decide_false, wrap_i64, ↓reduceIte, Nat.reduceAdd, Nat.reduceSub, Nat.reduceMul, Nat.reduceEqDiff, Nat.reduceLeDiff, Int.reduceAdd, Int.reduceSub, Int.reduceNeg, Int.reduceLT, Int.reduceLE, Int.reduceEq, Int.reduceToNat, Nat.reduceMod]
  · refine aCallF.intro (fun _ => (without_calls Γ n k _ (by omega) h5).args rfl) ?_
    simp (disch := omega) only [go_sem, bne_self_eq_false, beq_self_eq_true, true_and, and_true, decide_true, decide_false, wrap_i64, ↓reduceIte, Nat.reduceAdd, Nat.reduceSub, Nat.reduceMul, Nat.reduceEqDiff, Nat.reduceLeDiff, Int.reduceAdd, Int.reduceSub, Int.reduceNeg, Int.reduceLT, Int.reduceLE, Int.reduceEq, Int.reduceToNat, Nat.reduceMod, encN, encK]
    simp [deliverF, h1n, encD, encN, encK, zK, hc]
  · refine aCallF.intro (fun _ => (without_calls Γ n k _ (by omega) h5).args rfl) ?_
    simp (disch := omega) only [go_sem, bne_self_eq_false, beq_self_eq_true, true_and, and_true, decide_true, decide_false, wrap_i64, ↓reduceIte, Nat.reduceAdd, Nat.reduceSub, Nat.reduceMul, Nat.reduceEqDiff, Nat.reduceLeDiff, Int.reduceAdd, Int.reduceSub, Int.reduceNeg, Int.reduceLT, Int.reduceLE, Int.reduceEq, Int.reduceToNat, Nat.reduceMod, encN, encK]
    simp [deliverF, h1n, encD, encN, encK, zK, hc]
theorem refdeliver_calls (Γ : Nat → Option (List AV)) (n : Nt) (i : Int) (h : AH) (hq : n.q.length ≤ 9223372036854775807) (ha : n.a.length ≤ 9223372036854775807) :
    ACalls Try.prog Γ 22 [encN n, .int .i64 i] h fun v h' => h' = h ∧ v = encD (deliverF n i) := by
  refine ACalls.dropL ?_
  refine acalls_code (rs := [.cell 4 28, .cell 5 25, .tmp 6]) Try.func22 rfl rfl rfl rfl Ty.mixed (by kernel_rfl) ?_
  simp (disch := omega) only [go_sem, bne_self_eq_false, beq_self_eq_true, true_and, and_true, decide_true, decide_false, wrap_i64, ↓reduceIte, Nat.reduceAdd, Nat.reduceSub, Nat.reduceMul, Nat.reduceEqDiff, Nat.reduceLeDiff, Int.reduceAdd, Int.reduceSub, Int.reduceNeg, Int.reduceLT, Int.reduceLE, Int.reduceEq, Int.reduceToNat, Nat.reduceMod]
  refine ACalls.det (asked_calls Γ n i _ hq ha) ?_
  simp (disch := omega) only [go_sem, bne_self_eq_false, beq_self_eq_true, true_and, and_true, decide_true, decide_false, wrap_i64, ↓reduceIte, Nat.reduceAdd, Nat.reduceSub, Nat.reduceMul, Nat.reduceEqDiff, Nat.reduceLeDiff, Int.reduceAdd, Int.reduceSub, Int.reduceNeg, Int.reduceLT, Int.reduceLE, Int.reduceEq, Int.reduceToNat, Nat.reduceMod]
  refine aIf.intro (fun h1n => ?_) (fun h1n => ?_) <;> simp (disch := omega) only [go_sem, bne_self_eq_false, beq_self_eq_true, true_and, and_true, decide_true, decide_false, wrap_i64, ↓reduceIte, Nat.reduceAdd, Nat.reduceSub, Nat.reduceMul, Nat.reduceEqDiff, Nat.reduceLeDiff, Int.reduceAdd, Int.reduceSub, Int.reduceNeg, Int.reduceLT, Int.reduceLE, Int.reduceEq, Int.reduceToNat, Nat.reduceMod]
  rotate_left
  · simp [deliverF, h1n, encD, encN, encK, zN, zK]
  obtain ⟨h2, h3, h4, h5⟩ := ask_ok h1n
  obtain ⟨k, rfl⟩ : ∃ k : Nat, i = k := ⟨i.toNat, by omega⟩
  have he := getD_mid n.q k (by omega) zK
  have hp : pkAt n k = n.q.getD k zK := by simp [pkAt, h1n]
  simp (disch := omega) only [go_sem, bne_self_eq_false, beq_self_eq_true, true_and, and_true, decide_true, decide_false, wrap_i64, ↓reduceIte, Nat.reduceAdd, Nat.reduceSub, Nat.reduceMul, Nat.reduceEqDiff, Nat.reduceLeDiff, Int.reduceAdd, Int.reduceSub, Int.reduceNeg, Int.reduceLT, Int.reduceLE, Int.reduceEq, Int.reduceToNat, Nat.reduceMod, encN, Int.toNat_natCast, List.getElem?_map, he, Option.map_some]
  rw [← hp]
  simp (disch := omega) only [go_sem, bne_self_eq_false, beq_self_eq_true, true_and, and_true, decide_true, decide_false, wrap_i64, ↓reduceIte, Nat.reduceAdd, Nat.reduceSub, Nat.reduceMul, Nat.reduceEqDiff, Nat.reduceLeDiff, Int.reduceAdd, Int.reduceSub, Int.reduceNeg, Int.reduceLT, Int.reduceLE, Int.reduceEq, Int.reduceToNat, Nat.reduceMod, encK]
  refine ACalls.det ((iscut_calls Γ n _ _ _ ha).args rfl) ?_
  simp (disch := omega) only [go_sem, bne_self_eq_false, beq_self_eq_true, true_and, and_true, decide_true, decide_false, wrap_i64, ↓reduceIte, Nat.reduceAdd, Nat.reduceSub, Nat.reduceMul, Nat.reduceEqDiff, Nat.reduceLeDiff, Int.reduceAdd, Int.reduceSub, Int.reduceNeg, Int.reduceLT, Int.reduceLE, Int.reduceEq, Int.reduceToNat, Nat.reduceMod]
  refine aIf.intro (fun hc => ?_) (fun hc => ?_) <;> simp (disch := omega) only [go_sem, bne_self_eq_false, beq_self_eq_true, true_and, and_true, decide_true, decide_false, wrap_i64, ↓reduceIte, Nat.reduceAdd, Nat.reduceSub, Nat.reduceMul, Nat.reduceEqDiff, Nat.reduceLeDiff, Int.reduceAdd, Int.reduceSub, Int.reduceNeg, Int.reduceLT, Int.reduceLE, Int.reduceEq, Int.reduceToNat, Nat.reduceMod]
  · refine aCallF.intro (fun _ => (refwithout_calls Γ n k _ (by omega) h5).args rfl) ?_
    simp (disch := omega) only [go_sem, bne_self_eq_false, beq_self_eq_true, true_and, and_true, decide_true, decide_false, wrap_i64, ↓reduceIte, Nat.reduceAdd, Nat.reduceSub, Nat.reduceMul, Nat.reduceEqDiff, Nat.reduceLeDiff, Int.reduceAdd, Int.reduceSub, Int.reduceNeg, Int.reduceLT, Int.reduceLE, Int.reduceEq, Int.reduceToNat, Nat.reduceMod, encN, encK]
    simp [deliverF, h1n, encD, encN, encK, zK, hc]
  · refine aCallF.intro (fun _ => (refwithout_calls Γ n k _ (by omega) h5).args rfl) ?_
    simp (disch := omega) only [go_sem, bne_self_eq_false, beq_self_eq_true, true_and, and_true, decide_true, decide_false, wrap_i64, ↓reduceIte, Nat.reduceAdd, Nat.reduceSub, Nat.reduceMul, Nat.reduceEqDiff, Nat.reduceLeDiff, Int.reduceAdd, Int.reduceSub, Int.reduceNeg, Int.reduceLT, Int.reduceLE, Int.reduceEq, Int.reduceToNat, Nat.reduceMod, encN, encK]
    simp [deliverF, h1n, encD, encN, encK, zK, hc]

/-! ### Losing, repeating -/
def loseF (n : Nt) (i : Int) : Nt × Int := if askF n i = 0 then (withoutF n i.toNat, 0) else (zN, askF n i)
def repeatF (n : Nt) (i : Int) : Nt × Int := if askF n i = 0 then sendF n (pkAt n i) else (zN, askF n i)
theorem lose_calls (Γ : Nat → Option (List AV)) (n : Nt) (i : Int) (h : AH) (hq : n.q.length ≤ 9223372036854775807) (ha : n.a.length ≤ 9223372036854775807) :
    ACalls Try.prog Γ 23 [encN n, .int .i64 i] h fun v h' => h' = h ∧ v = encS (loseF n i) := by
  refine ACalls.dropL ?_
  refine acalls_code (rs := [.cell 4 25, .tmp 5]) Try.func23 rfl rfl rfl rfl Ty.mixed (by kernel_rfl) ?_
  simp (disch := omega) only [go_sem, bne_self_eq_false, beq_self_eq_true, true_and, and_true, decide_true, decide_false, wrap_i64, ↓reduceIte, Nat.reduceAdd, Nat.reduceSub, Nat.reduceMul, Nat.reduceEqDiff, Nat.reduceLeDiff, Int.reduceAdd, Int.reduceSub, Int.reduceNeg, Int.reduceLT, Int.reduceLE, Int.reduceEq, Int.reduceToNat, Nat.reduceMod]
  refine ACalls.det (at_calls Γ n i _ hq ha) ?_
  simp (disch := omega) only [go_sem, bne_self_eq_false, beq_self_eq_true, true_and, and_true, decide_true, decide_false, wrap_i64, ↓reduceIte, Nat.reduceAdd, Nat.reduceSub, Nat.reduceMul, Nat.reduceEqDiff, Nat.reduceLeDiff, Int.reduceAdd, Int.reduceSub, Int.reduceNeg, Int.reduceLT, Int.reduceLE, Int.reduceEq, Int.reduceToNat, Nat.reduceMod]
  refine aIf.intro (fun h1n => ?_) (fun h1n => ?_) <;> simp (disch := omega) only [go_sem, bne_self_eq_false, beq_self_eq_true, true_and, and_true, decide_true, decide_false, wrap_i64, ↓reduceIte, Nat.reduceAdd, Nat.reduceSub, Nat.reduceMul, Nat.reduceEqDiff, Nat.reduceLeDiff, Int.reduceAdd, Int.reduceSub, Int.reduceNeg, Int.reduceLT, Int.reduceLE, Int.reduceEq, Int.reduceToNat, Nat.reduceMod]
  rotate_left
  · simp [loseF, h1n, encS, encN, zN]
  obtain ⟨h2, h3, h4, h5⟩ := ask_ok h1n
  obtain ⟨k, rfl⟩ : ∃ k : Nat, i = k := ⟨i.toNat, by omega⟩
  refine ACalls.det (without_calls Γ n k _ (by omega) h5) ?_
  simp (disch := omega) only [go_sem, bne_self_eq_false, beq_self_eq_true, true_and, and_true, decide_true, decide_false, wrap_i64, ↓reduceIte, Nat.reduceAdd, Nat.reduceSub, Nat.reduceMul, Nat.reduceEqDiff, Nat.reduceLeDiff, Int.reduceAdd, Int.reduceSub, Int.reduceNeg, Int.reduceLT, Int.reduceLE, Int.reduceEq, Int.reduceToNat, Nat.reduceMod, encN]
  simp [loseF, h1n, encS, encN]
theorem reflose_calls (Γ : Nat → Option (List AV)) (n : Nt) (i : Int) (h : AH) (hq : n.q.length ≤ 9223372036854775807) (ha : n.a.length ≤ 9223372036854775807) :
    ACalls Try.prog Γ 24 [encN n, .int .i64 i] h fun v h' => h' = h ∧ v = encS (loseF n i) := by
  refine ACalls.dropL ?_
  refine acalls_code (rs := [.cell 4 25, .tmp 5]) Try.func24 rfl rfl rfl rfl Ty.mixed (by kernel_rfl) ?_
  simp (disch := omega) only [go_sem, bne_self_eq_false, beq_self_eq_true, true_and, and_true, decide_true, decide_false, wrap_i64, ↓reduceIte, Nat.reduceAdd, Nat.reduceSub, Nat.reduceMul, Nat.reduceEqDiff, Nat.reduceLeDiff, Int.reduceAdd, Int.reduceSub, Int.reduceNeg, Int.reduceLT, Int.reduceLE, Int.reduceEq, Int.reduceToNat, Nat.reduceMod]
  refine ACalls.det (asked_calls Γ n i _ hq ha) ?_
  simp (disch := omega) only [go_sem, bne_self_eq_false, beq_self_eq_true, true_and, and_true, decide_true, decide_false, wrap_i64, ↓reduceIte, Nat.reduceAdd, Nat.reduceSub, Nat.reduceMul, Nat.reduceEqDiff, Nat.reduceLeDiff, Int.reduceAdd, Int.reduceSub, Int.reduceNeg, Int.reduceLT, Int.reduceLE, Int.reduceEq, Int.reduceToNat, Nat.reduceMod]
  refine aIf.intro (fun h1n => ?_) (fun h1n => ?_) <;> simp (disch := omega) only [go_sem, bne_self_eq_false, beq_self_eq_true, true_and, and_true, decide_true, decide_false, wrap_i64, ↓reduceIte, Nat.reduceAdd, Nat.reduceSub, Nat.reduceMul, Nat.reduceEqDiff, Nat.reduceLeDiff, Int.reduceAdd, Int.reduceSub, Int.reduceNeg, Int.reduceLT, Int.reduceLE, Int.reduceEq, Int.reduceToNat, Nat.reduceMod]
  rotate_left
  · simp [loseF, h1n, encS, encN, zN]
  obtain ⟨h2, h3, h4, h5⟩ := ask_ok h1n
  obtain ⟨k, rfl⟩ : ∃ k : Nat, i = k := ⟨i.toNat, by omega⟩
  refine ACalls.det (refwithout_calls Γ n k _ (by omega) h5) ?_
  simp (disch := omega) only [go_sem, bne_self_eq_false, beq_self_eq_true, true_and, and_true, decide_true, decide_false, wrap_i64, ↓reduceIte, Nat.reduceAdd, Nat.reduceSub, Nat.reduceMul, Nat.reduceEqDiff, Nat.reduceLeDiff, Int.reduceAdd, Int.reduceSub, Int.reduceNeg, Int.reduceLT, Int.reduceLE, Int.reduceEq, Int.reduceToNat, Nat.reduceMod, encN]
  simp [loseF, h1n, encS, encN]
theorem repeat_calls (Γ : Nat → Option (List AV)) (n : Nt) (i : Int) (h : AH) (hq : n.q.length ≤ 9223372036854775807) (ha : n.a.length ≤ 9223372036854775807) :
    ACalls Try.prog Γ 25 [encN n, .int .i64 i] h fun v h' => h' = h ∧ v = encS (repeatF n i) := by
  refine ACalls.dropL ?_
  refine acalls_code (rs := [.cell 4 25, .tmp 5]) Try.func25 rfl rfl rfl rfl Ty.mixed (by kernel_rfl) ?_
  simp (disch := omega) only [go_sem, bne_self_eq_false, beq_self_eq_true, true_and, and_true, decide_true, decide_false, wrap_i64, ↓reduceIte, Nat.reduceAdd, Nat.reduceSub, Nat.reduceMul, Nat.reduceEqDiff, Nat.reduceLeDiff, Int.reduceAdd, Int.reduceSub, Int.reduceNeg, Int.reduceLT, Int.reduceLE, Int.reduceEq, Int.reduceToNat, Nat.reduceMod]
  refine ACalls.det (at_calls Γ n i _ hq ha) ?_
  simp (disch := omega) only [go_sem, bne_self_eq_false, beq_self_eq_true, true_and, and_true, decide_true, decide_false, wrap_i64, ↓reduceIte, Nat.reduceAdd, Nat.reduceSub, Nat.reduceMul, Nat.reduceEqDiff, Nat.reduceLeDiff, Int.reduceAdd, Int.reduceSub, Int.reduceNeg, Int.reduceLT, Int.reduceLE, Int.reduceEq, Int.reduceToNat, Nat.reduceMod]
  refine aIf.intro (fun h1n => ?_) (fun h1n => ?_) <;> simp (disch := omega) only [go_sem, bne_self_eq_false, beq_self_eq_true, true_and, and_true, decide_true, decide_false, wrap_i64, ↓reduceIte, Nat.reduceAdd, Nat.reduceSub, Nat.reduceMul, Nat.reduceEqDiff, Nat.reduceLeDiff, Int.reduceAdd, Int.reduceSub, Int.reduceNeg, Int.reduceLT, Int.reduceLE, Int.reduceEq, Int.reduceToNat, Nat.reduceMod]
  rotate_left
  · simp [repeatF, h1n, encS, encN, zN]
  refine ACalls.det (send_calls Γ n _ _ hq ha) ?_
  simp (disch := omega) only [go_sem, bne_self_eq_false, beq_self_eq_true, true_and, and_true, decide_true, decide_false, wrap_i64, ↓reduceIte, Nat.reduceAdd, Nat.reduceSub, Nat.reduceMul, Nat.reduceEqDiff, Nat.reduceLeDiff, Int.reduceAdd, Int.reduceSub, Int.reduceNeg, Int.reduceLT, Int.reduceLE, Int.reduceEq, Int.reduceToNat, Nat.reduceMod, encS, encN]
  simp [repeatF, h1n, encS, encN]
theorem refrepeat_calls (Γ : Nat → Option (List AV)) (n : Nt) (i : Int) (h : AH) (hq : n.q.length ≤ 9223372036854775807) (ha : n.a.length ≤ 9223372036854775807) :
    ACalls Try.prog Γ 26 [encN n, .int .i64 i] h fun v h' => h' = h ∧ v = encS (repeatF n i) := by
  refine ACalls.dropL ?_
  refine acalls_code (rs := [.cell 4 25, .tmp 5]) Try.func26 rfl rfl rfl rfl Ty.mixed (by kernel_rfl) ?_
  simp (disch := omega) only [go_sem, bne_self_eq_false, beq_self_eq_true, true_and, and_true, decide_true, decide_false, wrap_i64, ↓reduceIte, Nat.reduceAdd, Nat.reduceSub, Nat.reduceMul, Nat.reduceEqDiff, Nat.reduceLeDiff, Int.reduceAdd, Int.reduceSub, Int.reduceNeg, Int.reduceLT, Int.reduceLE, Int.reduceEq, Int.reduceToNat, Nat.reduceMod]
  refine ACalls.det (asked_calls Γ n i _ hq ha) ?_
  simp (disch := omega) only [go_sem, bne_self_eq_false, beq_self_eq_true, true_and, and_true, decide_true, decide_false, wrap_i64, ↓reduceIte, Nat.reduceAdd, Nat.reduceSub, Nat.reduceMul, Nat.reduceEqDiff, Nat.reduceLeDiff, Int.reduceAdd, Int.reduceSub, Int.reduceNeg, Int.reduceLT, Int.reduceLE, Int.reduceEq, Int.reduceToNat, Nat.reduceMod]
  refine aIf.intro (fun h1n => ?_) (fun h1n => ?_) <;> simp (disch := omega) only [go_sem, bne_self_eq_false, beq_self_eq_true, true_and, and_true, decide_true, decide_false, wrap_i64, ↓reduceIte, Nat.reduceAdd, Nat.reduceSub, Nat.reduceMul, Nat.reduceEqDiff, Nat.reduceLeDiff, Int.reduceAdd, Int.reduceSub, Int.reduceNeg, Int.reduceLT, Int.reduceLE, Int.reduceEq, Int.reduceToNat, Nat.reduceMod]
  rotate_left
  · simp [repeatF, h1n, encS, encN, zN]
  obtain ⟨h2, h3, h4, h5⟩ := ask_ok h1n
  obtain ⟨k, rfl⟩ : ∃ k : Nat, i = k := ⟨i.toNat, by omega⟩
  have he := getD_mid n.q k (by omega) zK
  have hp : pkAt n k = n.q.getD k zK := by simp [pkAt, h1n]
  simp (disch := omega) only [go_sem, bne_self_eq_false, beq_self_eq_true, true_and, and_true, decide_true, decide_false, wrap_i64, ↓reduceIte, Nat.reduceAdd, Nat.reduceSub, Nat.reduceMul, Nat.reduceEqDiff, Nat.reduceLeDiff, Int.reduceAdd, Int.reduceSub, Int.reduceNeg, Int.reduceLT, Int.reduceLE, Int.reduceEq, Int.reduceToNat, Nat.reduceMod, encN, Int.toNat_natCast, List.getElem?_map, he, Option.map_some]
  rw [← hp]
  refine aCallF.intro (fun _ => (refsend_calls Γ n _ _ hq ha).args rfl) ?_
  simp (disch := omega) only [go_sem, bne_self_eq_false, beq_self_eq_true, true_and, and_true, decide_true, decide_false, wrap_i64, ↓reduceIte, Nat.reduceAdd, Nat.reduceSub, Nat.reduceMul, Nat.reduceEqDiff, Nat.reduceLeDiff, Int.reduceAdd, Int.reduceSub, Int.reduceNeg, Int.reduceLT, Int.reduceLE, Int.reduceEq, Int.reduceToNat, Nat.reduceMod, encS, encN]
  simp [repeatF, h1n, encS, encN]
end Go.Proofs.Ytidmpembkkkhkaa
