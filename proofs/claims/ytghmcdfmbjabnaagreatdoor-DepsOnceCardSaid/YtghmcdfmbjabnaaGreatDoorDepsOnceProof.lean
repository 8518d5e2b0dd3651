/- Proved: the Go function musterlaw16.DepsOnce returns true for every input and leaves its arguments as they were (statement DepsOnceCardSaid; its package-level tables are tied to the program by the given tie). -/
import Derived.Test.YtghmcdfmbjabnaaGreatDoorDepsOnceSaid
import Derived.Test.YtghmcdfmbjabnaaGreatDoorFactsQ
import Derived.Test.YtghmcdfmbjabnaaGreatDoorDepsOnceFactsC
import Derived.Test.YtghmcdfmbjabnaaGreatDoorDepsOnceFacts
import Derived.Test.YtghmcdfmbjabnaaGreatDoorDpL3x
import Derived.Test.YtghmcdfmbjabnaaGreatDoorCards
import Derived.Test.YtghmcdfmbjabnaaGreatDoorTie
import Derived.WalkKit
import Derived.ProofKit
import Derived.OpenShut
import Derived.ShutString
import Derived.ChangeOld
import Derived.Below
import Derived.Deep.DeepHandedRow
import Derived.Deep.DeepWitnessRowRef
import Derived.Lib.LaidTab
namespace Go.Proofs.YtghmcdfmbjabnaaGreatDoor.depsOnce
open Go.ChangeShapes Go.WideShapes Go.ChangeAt Go.RowKit
open Go.ChangeMaps (open_string shut_string)
set_option linter.unusedVariables false
theorem plain (f : FuncId) (fn : Func) (hf : Tryz.pinned.checked.prog.funcNamed "muster/musterlaw16.DepsOnce" = some f) (hfn : Tryz.pinned.checked.prog.funcs[f]? = some fn) :
    true = Tryz.pinned.checked.prog.looks [] ∧ ∀ (j : Nat) t, fn.params[j]? = some t → Tryz.pinned.checked.prog.wantsStandIn t = false := by
  obtain rfl : f = 10 := Option.some.inj ((show Tryz.prog.funcNamed "muster/musterlaw16.DepsOnce" = some 10 by kernel_rfl).symm.trans hf) |>.symm
  obtain rfl : fn = Tryz.f10 := (Option.some.inj (Tryz.func10.symm.trans hfn)).symm
  refine ⟨by kernel_rfl, fun j t ht => ?_⟩
  rw [Tryz.params10] at ht
  match j, ht with
  | 0, ht => exact (by obtain rfl : 43 = t := (by simpa using ht); exact (show Tryz.prog.wantsStandIn 43 = false by kernel_rfl))
  | 1, ht => exact (by obtain rfl : 28 = t := (by simpa using ht); exact (show Tryz.prog.wantsStandIn 28 = false by kernel_rfl))
  | j + 2, ht => simp at ht
theorem proved : Rows.DepsOnceCardSaid :=
  Claim7.holds_tied_plain_at .later [] _ _ _ _ said (fun _ h => by cases h) (by kernel_rfl) (fun _ h => by cases h) depsOnce_row_tie rfl ⟨rfl, rfl⟩ pmain rfl plain goes
#print axioms proved
end Go.Proofs.YtghmcdfmbjabnaaGreatDoor.depsOnce
