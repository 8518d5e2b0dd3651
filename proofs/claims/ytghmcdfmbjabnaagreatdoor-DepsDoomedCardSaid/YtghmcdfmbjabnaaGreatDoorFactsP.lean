/- Closed facts of the program, shared by all laws of the seat. -/
import Derived.Test.YtghmcdfmbjabnaaGreatDoorCards
import Derived.Test.YtghmcdfmbjabnaaGreatDoorTie
import Derived.WalkKit
import Derived.ProofKit
import Derived.ChangeOld
import Derived.Deep.DeepHandedRow
namespace Go.Proofs.YtghmcdfmbjabnaaGreatDoor
open Go.ChangeShapes Go.WideShapes Go.ChangeAt Go.RowKit
set_option maxRecDepth 100000

theorem pk1 : (laidOutB Tryz.pinned.checked.prog) = true := by kernel_rfl
theorem pk2 : (mapsRowed Tryz.pinned.checked.prog) = true := by kernel_rfl
theorem pk6 : (Tryz.pinned.checked.prog.stops == []) = true := by kernel_rfl
theorem pk8 : (Tryz.pinned.checked.prog.stopKnobs == []) = true := by kernel_rfl
theorem pk24 : (Tryz.pinned.checked.prog.stopsHeard) = true := by kernel_rfl
theorem pk25 : (Tryz.pinned.checked.prog.mayEnter) = true := by kernel_rfl
end Go.Proofs.YtghmcdfmbjabnaaGreatDoor
