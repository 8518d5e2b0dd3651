/- Proved: the Go function musterlaw16.DepsDoomed returns true for every input and leaves its arguments as they were (statement DepsDoomedCardSaid; its package-level tables are tied to the program by the given tie). -/
import Derived.Test.YtghmcdfmbjabnaaGreatDoorDepsDoomedSaid
import Derived.Test.YtghmcdfmbjabnaaGreatDoorFactsQ
import Derived.Test.YtghmcdfmbjabnaaGreatDoorDepsDoomedFactsC
import Derived.Test.YtghmcdfmbjabnaaGreatDoorDepsDoomedFacts
import Derived.Test.YtghmcdfmbjabnaaGreatDoorDpL4x
import Derived.Test.YtghmcdfmbjabnaaGreatDoorCards
import Derived.Test.YtghmcdfmbjabnaaGreatDoorTie
import Derived.WalkKit
import Derived.ProofKit
import Derived.OpenShut
import Derived.ShutString
import Derived.ChangeOld
import Derived.Below
import Derived.Deep.DeepHandedRow
import Derived.Deep.DeepWitnessRowRef
import Derived.Lib.LaidTab
namespace Go.Proofs.YtghmcdfmbjabnaaGreatDoor.depsDoomed
open Go.ChangeShapes Go.WideShapes Go.ChangeAt Go.RowKit
open Go.ChangeMaps (open_string shut_string)
set_option linter.unusedVariables false
theorem plain (f : FuncId) (fn : Func) (hf : Tryz.pinned.checked.prog.funcNamed "muster/musterlaw16.DepsDoomed" = some f) (hfn : Tryz.pinned.checked.prog.funcs[f]? = some fn) :
    true = Tryz.pinned.checked.prog.looks [] ∧ ∀ (j : Nat) t, fn.params[j]? = some t → Tryz.pinned.checked.prog.wantsStandIn t = false := by
  obtain rfl : f = 11 := Option.some.inj ((show Tryz.prog.funcNamed "muster/musterlaw16.DepsDoomed" = some 11 by kernel_rfl).symm.trans hf) |>.symm
  obtain rfl : fn = Tryz.f11 := (Option.some.inj (Tryz.func11.symm.trans hfn)).symm
  refine ⟨by kernel_rfl, fun j t ht => ?_⟩
  rw [Tryz.params11] at ht
  match j, ht with
  | 0, ht => exact (by obtain rfl : 43 = t := (by simpa using ht); exact (show Tryz.prog.wantsStandIn 43 = false by kernel_rfl))
  | j + 1, ht => simp at ht
theorem proved : Rows.DepsDoomedCardSaid :=
  Claim7.holds_tied_plain_at .later [] _ _ _ _ said (fun _ h => by cases h) (by kernel_rfl) (fun _ h => by cases h) depsDoomed_row_tie rfl ⟨rfl, rfl⟩ pmain rfl plain goes
#print axioms proved
end Go.Proofs.YtghmcdfmbjabnaaGreatDoor.depsDoomed
