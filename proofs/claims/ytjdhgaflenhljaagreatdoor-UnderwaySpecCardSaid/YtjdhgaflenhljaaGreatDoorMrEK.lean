/- Texts joined: PerK. No conditions. -/
import Derived.Test.YtjdhgaflenhljaaGreatDoorMrEJ
/- Values without a border between them. No conditions. -/
set_option linter.unusedSimpArgs false
set_option linter.unusedVariables false
namespace Go.Proofs.YtjdhgaflenhljaaGreatDoor
open Go Go.Proofs Go.Abs

mutual
def betwF (v w : Int) : Ex → Bool
  | .mk k n _ _ l => betwFs v w l || (decide (k = 4) && decide (v ≤ n ∧ n < w))
def betwFs (v w : Int) : List Ex → Bool
  | [] => false
  | x :: r => betwF v w x || betwFs v w r
end
end Go.Proofs.YtjdhgaflenhljaaGreatDoor
