/- Texts joined: PerN. No conditions. -/
import Derived.Test.YtplllkjobpjaoaaGreatDoorMrEM
/- PermitsParts. No conditions. -/
set_option linter.unusedSimpArgs false
set_option linter.unusedVariables false
namespace Go.Proofs.YtplllkjobpjaoaaGreatDoor
open Go Go.Proofs Go.Abs

end Go.Proofs.YtplllkjobpjaoaaGreatDoor
