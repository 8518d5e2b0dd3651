/- Proved: the Go function musterlaw16.DepsStand returns true for every input and leaves its arguments as they were (statement DepsStandCardSaid; its package-level tables are tied to the program by the given tie). -/
import Derived.Test.YtghmcdfmbjabnaaGreatDoorDepsStandSaid
import Derived.Test.YtghmcdfmbjabnaaGreatDoorFactsQ
import Derived.Test.YtghmcdfmbjabnaaGreatDoorDepsStandFactsC
import Derived.Test.YtghmcdfmbjabnaaGreatDoorDepsStandFacts
import Derived.Test.YtghmcdfmbjabnaaGreatDoorDpL2x
import Derived.Test.YtghmcdfmbjabnaaGreatDoorCards
import Derived.Test.YtghmcdfmbjabnaaGreatDoorTie
import Derived.WalkKit
import Derived.ProofKit
import Derived.OpenShut
import Derived.ShutString
import Derived.ChangeOld
import Derived.Below
import Derived.Deep.DeepHandedRow
import Derived.Deep.DeepWitnessRowRef
import Derived.Lib.LaidTab
namespace Go.Proofs.YtghmcdfmbjabnaaGreatDoor.depsStand
open Go.ChangeShapes Go.WideShapes Go.ChangeAt Go.RowKit
open Go.ChangeMaps (open_string shut_string)
set_option linter.unusedVariables false
theorem plain (f : FuncId) (fn : Func) (hf : Tryz.pinned.checked.prog.funcNamed "muster/musterlaw16.DepsStand" = some f) (hfn : Tryz.pinned.checked.prog.funcs[f]? = some fn) :
    true = Tryz.pinned.checked.prog.looks [] ∧ ∀ (j : Nat) t, fn.params[j]? = some t → Tryz.pinned.checked.prog.wantsStandIn t = false := by
  obtain rfl : f = 8 := Option.some.inj ((show Tryz.prog.funcNamed "muster/musterlaw16.DepsStand" = some 8 by kernel_rfl).symm.trans hf) |>.symm
  obtain rfl : fn = Tryz.f8 := (Option.some.inj (Tryz.func8.symm.trans hfn)).symm
  refine ⟨by kernel_rfl, fun j t ht => ?_⟩
  rw [Tryz.params8] at ht
  match j, ht with
  | 0, ht => exact (by obtain rfl : 43 = t := (by simpa using ht); exact (show Tryz.prog.wantsStandIn 43 = false by kernel_rfl))
  | 1, ht => exact (by obtain rfl : 28 = t := (by simpa using ht); exact (show Tryz.prog.wantsStandIn 28 = false by kernel_rfl))
  | j + 2, ht => simp at ht
theorem proved : Rows.DepsStandCardSaid :=
  Claim7.holds_tied_plain_at .later [] _ _ _ _ said (fun _ h => by cases h) (by kernel_rfl) (fun _ h => by cases h) depsStand_row_tie rfl ⟨rfl, rfl⟩ pmain rfl plain goes
#print axioms proved
end Go.Proofs.YtghmcdfmbjabnaaGreatDoor.depsStand
