/- Cutting and mending: what is left. No conditions. -/
import Derived.Test.YtidmpembkkkhkaaNetE
set_option linter.unusedSimpArgs false
set_option linter.unusedVariables false
namespace Go.Proofs.Ytidmpembkkkhkaa
open Go Go.Proofs Go.Abs

/-- (x, y), (x, y + 1), .. : k of them. -/
def rowP (x : Nat) : Nat → Nat → List (Int × Int)
  | _, 0 => []
  | y, k + 1 => ((x : Int), (y : Int)) :: rowP x (y + 1) k
/-- All links from x on, k rows. -/
def pairsP : Nat → Nat → List (Int × Int)
  | _, 0 => []
  | x, k + 1 => rowP x (x + 1) (23 - x) ++ pairsP (x + 1) k
def keepL (a : List (Int × Int)) (c : Int × Int) (on : Bool) (x : Int × Int) : Bool := if x = c then on else decide (x ∈ a)
def cutL (a : List (Int × Int)) (c : Int × Int) (on : Bool) : List (Int × Int) := (pairsP 0 24).filter (keepL a c on)
theorem pairs_len : (pairsP 0 24).length = 276 := by decide +kernel
theorem cutL_len (a : List (Int × Int)) (c : Int × Int) (on : Bool) : (cutL a c on).length ≤ 276 := by
  rw [← pairs_len]; exact List.length_filter_le _ _
def cutF (n : Nt) (a b : Int) (on : Bool) : Nt × Int :=
  if checkF n = 0 then (if validF (betw a b) then (⟨n.q, cutL n.a (betw a b) on⟩, 0) else (zN, 1)) else (zN, 60)
theorem betw_valid (a b : Int) : validF (betw a b) = true ↔ siteF a = true ∧ siteF b = true ∧ a ≠ b := by
  rw [validF_iff]
  simp only [siteF, Bool.and_eq_true, decide_eq_true_eq]
  unfold betw
  dsimp only
  split <;> split <;> omega
theorem betw_comm (a b : Int) : betw a b = betw b a := by
  unfold betw
  refine Prod.ext ?_ ?_ <;> dsimp only <;> split <;> split <;> omega
theorem mem_rowP (x : Nat) : ∀ (k y : Nat) (z : Int × Int), z ∈ rowP x y k ↔ z.1 = x ∧ (y : Int) ≤ z.2 ∧ z.2 < y + k
  | 0, y, z => by
    simp only [rowP, List.not_mem_nil, false_iff]; rintro ⟨_, h1, h2⟩; omega
  | k + 1, y, z => by
    rw [rowP, List.mem_cons, mem_rowP x k (y + 1) z]
    constructor
    · rintro (rfl | ⟨h1, h2, h3⟩)
      · exact ⟨rfl, by dsimp only; omega, by dsimp only; omega⟩
      · exact ⟨h1, by omega, by omega⟩
    · rintro ⟨h1, h2, h3⟩
      by_cases e : z.2 = y
      · exact .inl (Prod.ext h1 e)
      · exact .inr ⟨h1, by omega, by omega⟩
theorem mem_pairsP : ∀ (k x : Nat) (z : Int × Int), x + k = 24 → (z ∈ pairsP x k ↔ (x : Int) ≤ z.1 ∧ z.1 < z.2 ∧ z.2 < 24)
  | 0, x, z, hx => by
    simp only [pairsP, List.not_mem_nil, false_iff]; rintro ⟨h1, h2, h3⟩; omega
  | k + 1, x, z, hx => by
    rw [pairsP, List.mem_append, mem_rowP, mem_pairsP k (x + 1) z (by omega)]
    constructor
    · rintro (⟨h1, h2, h3⟩ | ⟨h1, h2, h3⟩)
      · exact ⟨by omega, by omega, by omega⟩
      · exact ⟨by omega, h2, h3⟩
    · rintro ⟨h1, h2, h3⟩
      by_cases e : z.1 = x
      · exact .inl ⟨e, by omega, by omega⟩
      · exact .inr ⟨by omega, h2, h3⟩
theorem mem_cutL (a : List (Int × Int)) (c : Int × Int) (on : Bool) (z : Int × Int) : z ∈ cutL a c on ↔ validF z = true ∧ keepL a c on z = true := by
  rw [cutL, List.mem_filter, mem_pairsP 24 0 z rfl, validF_iff]; simp
end Go.Proofs.Ytidmpembkkkhkaa
