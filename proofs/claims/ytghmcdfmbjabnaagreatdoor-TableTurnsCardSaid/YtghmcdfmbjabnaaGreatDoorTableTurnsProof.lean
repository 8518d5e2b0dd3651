/- Proved: the Go function musterlaw15.TableTurns returns true for every input and leaves its arguments as they were (statement TableTurnsCardSaid; its package-level tables are tied to the program by the given tie). -/
import Derived.Test.YtghmcdfmbjabnaaGreatDoorTableTurnsSaid
import Derived.Test.YtghmcdfmbjabnaaGreatDoorFactsQ
import Derived.Test.YtghmcdfmbjabnaaGreatDoorTableTurnsFactsC
import Derived.Test.YtghmcdfmbjabnaaGreatDoorTableTurnsFacts
import Derived.Test.YtghmcdfmbjabnaaGreatDoorT6t
import Derived.Test.YtghmcdfmbjabnaaGreatDoorCards
import Derived.Test.YtghmcdfmbjabnaaGreatDoorTie
import Derived.WalkKit
import Derived.ProofKit
import Derived.OpenShut
import Derived.ShutString
import Derived.ChangeOld
import Derived.Below
import Derived.Deep.DeepHandedRow
import Derived.Deep.DeepWitnessRowRef
import Derived.Lib.LaidTab
namespace Go.Proofs.YtghmcdfmbjabnaaGreatDoor.tableTurns
open Go.ChangeShapes Go.WideShapes Go.ChangeAt Go.RowKit
open Go.ChangeMaps (open_string shut_string)
set_option linter.unusedVariables false
theorem plain (f : FuncId) (fn : Func) (hf : Tryz.pinned.checked.prog.funcNamed "muster/musterlaw15.TableTurns" = some f) (hfn : Tryz.pinned.checked.prog.funcs[f]? = some fn) :
    true = Tryz.pinned.checked.prog.looks [] ∧ ∀ (j : Nat) t, fn.params[j]? = some t → Tryz.pinned.checked.prog.wantsStandIn t = false := by
  obtain rfl : f = 5 := Option.some.inj ((show Tryz.prog.funcNamed "muster/musterlaw15.TableTurns" = some 5 by kernel_rfl).symm.trans hf) |>.symm
  obtain rfl : fn = Tryz.f5 := (Option.some.inj (Tryz.func5.symm.trans hfn)).symm
  refine ⟨by kernel_rfl, fun j t ht => ?_⟩
  rw [Tryz.params5] at ht
  match j, ht with
  | 0, ht => exact (by obtain rfl : 43 = t := (by simpa using ht); exact (show Tryz.prog.wantsStandIn 43 = false by kernel_rfl))
  | 1, ht => exact (by obtain rfl : 28 = t := (by simpa using ht); exact (show Tryz.prog.wantsStandIn 28 = false by kernel_rfl))
  | j + 2, ht => simp at ht
theorem proved : Rows.TableTurnsCardSaid :=
  Claim7.holds_tied_plain_at .later [] _ _ _ _ said (fun _ h => by cases h) (by kernel_rfl) (fun _ h => by cases h) tableTurns_row_tie rfl ⟨rfl, rfl⟩ pmain rfl plain goes
#print axioms proved
end Go.Proofs.YtghmcdfmbjabnaaGreatDoor.tableTurns
