/- Layer 14: Same walked (printed by a program of my own). -/
import Derived.Test.YtmkmmggimokagaaGreatDoorQ0
import Derived.Test.YtmkmmggimokagaaGreatDoorS1
namespace Go.Proofs.YtmkmmggimokagaaGreatDoor
set_option linter.unusedVariables false
open Go.RowKit
end Go.Proofs.YtmkmmggimokagaaGreatDoor
