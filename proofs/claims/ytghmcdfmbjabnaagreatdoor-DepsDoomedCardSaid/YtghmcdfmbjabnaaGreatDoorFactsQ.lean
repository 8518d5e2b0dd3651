/- A closed fact of the program, shared by all laws of the seat. -/
import Derived.Test.YtghmcdfmbjabnaaGreatDoorCards
import Derived.Test.YtghmcdfmbjabnaaGreatDoorTie
import Derived.WalkKit
import Derived.ProofKit
import Derived.OpenShut
import Derived.ShutString
import Derived.ChangeOld
import Derived.Below
import Derived.Deep.DeepHandedRow
import Derived.Deep.DeepWitnessRowRef
import Derived.Lib.LaidTab
namespace Go.Proofs.YtghmcdfmbjabnaaGreatDoor
open Go.ChangeShapes Go.WideShapes Go.ChangeAt Go.RowKit
open Go.ChangeMaps (open_string shut_string)
set_option linter.unusedVariables false
theorem pmain : Tryz.pinned.checked.prog.mainIs = some ((true, "c0dc36fd43d5d850b20f1f75659bef294f3160f33c1c3bd9e65d3f3f764dda84").fst, (true, "c0dc36fd43d5d850b20f1f75659bef294f3160f33c1c3bd9e65d3f3f764dda84").snd.toList) := by kernel_rfl
end Go.Proofs.YtghmcdfmbjabnaaGreatDoor
