/- Texts joined: PerL. No conditions. -/
import Derived.Test.YtplllkjobpjaoaaGreatDoorMrEK
/- Nobody, people without an office, weights of 1: plain; weighs. No conditions. -/
set_option linter.unusedSimpArgs false
set_option linter.unusedVariables false
namespace Go.Proofs.YtplllkjobpjaoaaGreatDoor
open Go Go.Proofs Go.Abs

theorem rowH_in {hs : List (List Hd)} {no : Int} {y : Hd} (hy : y ∈ rowH hs no) : rowH hs no ∈ hs := by
  rw [rowH, List.getD_eq_getElem?_getD] at hy ⊢
  cases e : hs[no.toNat]? with
  | none => rw [e] at hy; cases hy
  | some l => exact List.mem_of_getElem? e
def holdsF (hs : List (List Hd)) (i : Int) : Bool := hs.any fun l => l.any fun y => decide (y.person = i)
/-- Nobody may do nothing. -/
theorem any_nil (l : List Hd) : anyH [] l = false := by
  rw [anyH, List.any_eq_false]; intro y _; simp [hasP]
/-! ### Weights of 1 -/
mutual
def weighF : Ex → Bool
  | .mk k _ _ _ l => weighFs l || decide (k = 2)
def weighFs : List Ex → Bool
  | [] => false
  | x :: r => weighF x || weighFs r
end
end Go.Proofs.YtplllkjobpjaoaaGreatDoor
