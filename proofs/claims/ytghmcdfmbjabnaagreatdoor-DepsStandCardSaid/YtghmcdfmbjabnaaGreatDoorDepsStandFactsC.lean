/- A closed fact of the row of DepsStand. -/
import Derived.Test.YtghmcdfmbjabnaaGreatDoorCards
import Derived.Test.YtghmcdfmbjabnaaGreatDoorTie
import Derived.WalkKit
import Derived.ProofKit
import Derived.OpenShut
import Derived.ShutString
import Derived.ChangeOld
import Derived.Below
import Derived.Deep.DeepHandedRow
import Derived.Deep.DeepWitnessRowRef
import Derived.Lib.LaidTab
namespace Go.Proofs.YtghmcdfmbjabnaaGreatDoor.depsStand
open Go.ChangeShapes Go.WideShapes Go.ChangeAt Go.RowKit
open Go.ChangeMaps (open_string shut_string)
set_option linter.unusedVariables false
theorem goes : false = Rows.depsStandRow.goesBy Tryz.pinned.checked.prog := by kernel_rfl
end Go.Proofs.YtghmcdfmbjabnaaGreatDoor.depsStand
