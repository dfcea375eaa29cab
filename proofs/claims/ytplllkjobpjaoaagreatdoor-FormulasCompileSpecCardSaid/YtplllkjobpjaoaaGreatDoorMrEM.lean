/- Texts joined: PerM. No conditions. -/
import Derived.Test.YtplllkjobpjaoaaGreatDoorMrEL
import Derived.Test.YtplllkjobpjaoaaGreatDoorMrG
/- PermitsNobody, the code. No conditions. -/
set_option linter.unusedSimpArgs false
set_option linter.unusedVariables false
namespace Go.Proofs.YtplllkjobpjaoaaGreatDoor
open Go Go.Proofs Go.Abs

theorem looseL_app (a b : List AV) : looseL (a ++ b) = looseL a ++ looseL b := by
  induction a with
  | nil => simp [looseL]
  | cons x r ih => simp only [List.cons_append, looseL, ih]
end Go.Proofs.YtplllkjobpjaoaaGreatDoor
