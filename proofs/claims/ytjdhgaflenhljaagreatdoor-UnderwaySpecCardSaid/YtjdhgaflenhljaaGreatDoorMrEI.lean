/- Texts joined: PerF, PerG, PerH. No conditions. -/
import Derived.Test.YtjdhgaflenhljaaGreatDoorMrEH
/- The reference's Has, People, Holders, FewHolders. No conditions. -/
set_option linter.unusedSimpArgs false
set_option linter.unusedVariables false
namespace Go.Proofs.YtjdhgaflenhljaaGreatDoor
open Go Go.Proofs Go.Abs

end Go.Proofs.YtjdhgaflenhljaaGreatDoor

/- The reference's Fulfil, Permits, Changes. No conditions. -/
set_option linter.unusedSimpArgs false
set_option linter.unusedVariables false
namespace Go.Proofs.YtjdhgaflenhljaaGreatDoor
open Go Go.Proofs Go.Abs

end Go.Proofs.YtjdhgaflenhljaaGreatDoor

/- The reference's Permits, Changes, Few. No conditions. -/
set_option linter.unusedSimpArgs false
set_option linter.unusedVariables false
namespace Go.Proofs.YtjdhgaflenhljaaGreatDoor
open Go Go.Proofs Go.Abs

end Go.Proofs.YtjdhgaflenhljaaGreatDoor
