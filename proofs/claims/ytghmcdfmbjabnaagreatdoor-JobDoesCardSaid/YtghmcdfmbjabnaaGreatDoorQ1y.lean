/- Layer 8: a command as a row of cells that stays closed. Layer 8: fits at all kinds; what of a command its kind may have; whether a command may be, plainly. Layer 8: what of a command its kind may have, walked (printed by a program of my own). Regions that draw their order: whole rows read. Layer 8: Check walked at submissions (printed by a program of my own). -/
import Derived.Test.YtghmcdfmbjabnaaGreatDoorQ1t
import Derived.Test.YtghmcdfmbjabnaaGreatDoorC1t
import Derived.Test.YtghmcdfmbjabnaaGreatDoorC1y
import Derived.Test.YtghmcdfmbjabnaaGreatDoorQ0t
import Derived.Great.Ranges
import Derived.Deep.WholeRow
import Derived.Test.YtghmcdfmbjabnaaGreatDoorC2t
import Derived.Test.YtghmcdfmbjabnaaGreatDoorCdW8t
import Derived.Test.YtghmcdfmbjabnaaGreatDoorC3t
import Derived.Test.YtghmcdfmbjabnaaGreatDoorCdW4t
import Derived.BigRegion
import Derived.Test.YtghmcdfmbjabnaaGreatDoorK1t
import Derived.Test.YtghmcdfmbjabnaaGreatDoorK1y
import Derived.Laws.Rows
namespace Go.Proofs.YtghmcdfmbjabnaaGreatDoor
set_option linter.unusedVariables false
open Go.RowKit
theorem cmA_one (x : Cm) (A : Option Addr) (c : Nat) (A2 : Option Addr) (c2 : Nat) : (cmA x A c A2 c2).all (·.oneCell') = true := by unfold cmA; rw [List.all_toArray]; rfl
end Go.Proofs.YtghmcdfmbjabnaaGreatDoor
