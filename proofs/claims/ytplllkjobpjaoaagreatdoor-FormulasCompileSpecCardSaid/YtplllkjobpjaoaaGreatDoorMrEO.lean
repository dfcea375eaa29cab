/- Texts joined: PerO. No conditions. -/
import Derived.Test.YtplllkjobpjaoaaGreatDoorMrEN
/- PermitsParts, the law. No conditions. -/
set_option linter.unusedSimpArgs false
set_option linter.unusedVariables false
namespace Go.Proofs.YtplllkjobpjaoaaGreatDoor
open Go Go.Proofs Go.Abs

/-! ### The policy with another expression -/
theorem ShX.sub {x y : Ex} (h : ShX x) (hy : y ∈ x.l) : ShX y := by cases x; exact h.mem y hy
/-! ### The count of the parts -/
end Go.Proofs.YtplllkjobpjaoaaGreatDoor
