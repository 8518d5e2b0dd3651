/- Words for memory used by all contracts of this family: a slice that reads as a list of cells, and small closing lemmas. Slices of structs: a list of records reads as the cells of its records, one behind the other. append onto a row of the call's own: the laws that the walks below use. The call's own slices, those without room among them; append onto them. Regions that draw their order, whose operations read and whose calls make memory: one walk of the text serves, in the class of the worlds that keep all old blocks. Arguments opened: a slice of records reads as a list. Plain arithmetic for layer 1: clamped sums and products, no program in sight. Contracts of the functions of layer 1 (sat) and of its reference: what each call returns, for every input. -/
import Derived.Test.YtghmcdfmbjabnaaGreatDoorK1t
import Derived.Test.YtghmcdfmbjabnaaGreatDoorRows
import Derived.WalkKit
import Derived.WalkSpells
import Derived.WalkLawsBesides
import Derived.Lib.Hide
import Derived.Laws.OwnMore
import Derived.Deep.AppendLies
import Derived.Deep.Draws
import Derived.Maps.AppendAt
import Derived.RegionTactic
import Derived.OwnWalk
import Derived.Lib.UnsafeStr
import Derived.Lib.OthersKept
import Derived.Deep.QuietTactic
import Derived.BigQuiet
import Derived.Deep.Slices
import Derived.Deep.Fields
import Derived.ChangeArms
namespace Go.Proofs.YtghmcdfmbjabnaaGreatDoor
set_option linter.unusedVariables false
open Go.RowKit
section
variable {w w' : World} {B B' size n : Nat} {A : Option Addr} {xs : List Value}
end
section
variable {P : Program} (w : World)
end
section
variable {w w' : World} {B : Nat} {e : TypeId} {size n : Nat} {v : Value} {xs : List Value}
theorem AppKeeps.cell_low {base : Nat} (hk : AppKeeps base v w w') {p : Addr} (h1 : p.block < w.heap.size) (h2 : p.block < base) : w'.cell? p = w.cell? p := by
  obtain ⟨row, hg, hrow⟩ := hk
  exact World.cell?_of_block (hg.block p.block h1 (fun e => by have := (hrow _ e.symm).2; omega))
end
section
variable {P : Program} (w : World)
end
end Go.Proofs.YtghmcdfmbjabnaaGreatDoor
namespace Go.Proofs.YtghmcdfmbjabnaaGreatDoor
set_option linter.unusedVariables false
open Go.RowKit Go.ChangeShapes Go.WideShapes Go.Deep
section
variable {H : Type} {enc0 : TypeId × Value → H} {w : World} {base : Nat} {held : Bool}
end
end Go.Proofs.YtghmcdfmbjabnaaGreatDoor
namespace Go.Proofs.YtghmcdfmbjabnaaGreatDoor
set_option linter.unusedVariables false
theorem clamp_bd (n : Int) {E : Int} (h : 0 ≤ E) : 0 ≤ clamp n 0 E ∧ clamp n 0 E ≤ E := by unfold clamp; split <;> (try split) <;> omega
theorem clamp_cases (n : Int) {E : Int} (h : 0 ≤ E) : (n < 0 ∧ clamp n 0 E = 0) ∨ (0 ≤ n ∧ n ≤ E ∧ clamp n 0 E = n) ∨ (E < n ∧ clamp n 0 E = E) := by
  unfold clamp; split <;> (try split) <;> omega
/-- the sum of clamped numbers -/
def tot (E : Int) : List Int → Int
  | [] => 0
  | x :: r => clamp x 0 E + tot E r
theorem tot_append (E : Int) (a b : List Int) : tot E (a ++ b) = tot E a + tot E b := by
  induction a with
  | nil => simp [tot]
  | cons x r ih => simp only [List.cons_append, tot, ih]; omega
/-- what is added, held at an end -/
def addV (E : Int) (l : List Int) : Int := if tot E l ≤ E then tot E l else E
/-- half of a usage -/
def halfV (n : Int) : Int := clamp n 0 1000000000000 / 2
end Go.Proofs.YtghmcdfmbjabnaaGreatDoor
namespace Go.Proofs.YtghmcdfmbjabnaaGreatDoor
set_option linter.unusedVariables false
open Go.RowKit
end Go.Proofs.YtghmcdfmbjabnaaGreatDoor
