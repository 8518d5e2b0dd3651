/- Bundle Q7. -/
import Derived.Test.YtghmcdfmbjabnaaGreatDoorQ6t
import Derived.Test.YtghmcdfmbjabnaaGreatDoorQ1t
import Derived.Test.YtghmcdfmbjabnaaGreatDoorQ4t
namespace Go.Proofs.YtghmcdfmbjabnaaGreatDoor
set_option linter.unusedSimpArgs false
set_option maxRecDepth 100000
set_option linter.unusedVariables false
open Go.RowKit
end Go.Proofs.YtghmcdfmbjabnaaGreatDoor
