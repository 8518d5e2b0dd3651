/- Layer 14: lists of acts; are they few, and small, walked. Layer 14, plain: what acts leave of a job's sizes; lists that lie away from a block. Arguments of layer 14 opened: lists of acts. Layer 14: JobLife walked (printed by a program of my own). -/

import Derived.Test.YtghmcdfmbjabnaaGreatDoorQ4t
import Derived.Test.YtghmcdfmbjabnaaGreatDoorQ4x
import Derived.Test.YtghmcdfmbjabnaaGreatDoorQ9t
import Derived.Test.YtghmcdfmbjabnaaGreatDoorQ0t
import Derived.Deep.DeepCutAuto
import Derived.Deep.CutBlock
import Derived.Deep.RegionWith
namespace Go.Proofs.YtghmcdfmbjabnaaGreatDoor
set_option linter.unusedVariables false
open Go.RowKit
/-- a job's lists do not lie in block p -/
def Away (p : Nat) (A : Option Addr) (n : Nat) : Prop := 0 < n → ∀ ad, A = some ad → ad.block ≠ p
def JbAway (p : Nat) (x : Jb) (A A2 : Option Addr) : Prop := Away p A x.shape.alts.length ∧ Away p A2 x.after.length
theorem away_of_reads {w : World} {B size n p : Nat} {A : Option Addr} {xs : List Value} (h : Reads w B size A n xs) (hp : B ≤ p) : Away p A n := by
  intro hn ad e
  obtain ⟨ad', e', hlt, _⟩ := h.2 hn
  rw [e] at e'
  rw [Option.some.inj e']
  omega
theorem JbAt.away_of {w : World} {B p : Nat} {x : Jb} {A A2 : Option Addr} {c c2 : Nat} (h : JbAt w B x A c A2 c2) (hp : B ≤ p) : JbAway p x A A2 := ⟨away_of_reads h.1 hp, away_of_reads h.2.1 hp⟩
theorem CmAt.more {w : World} {B B' : Nat} {x : Cm} {A A2 : Option Addr} {c c2 : Nat} (h : CmAt w B x A c A2 c2) (hB : B ≤ B') : CmAt w B' x A c A2 c2 := ⟨h.1.more hB, h.2.1.more hB, h.2.2⟩
end Go.Proofs.YtghmcdfmbjabnaaGreatDoor
namespace Go.Proofs.YtghmcdfmbjabnaaGreatDoor
set_option linter.unusedVariables false
open Go.RowKit Go.ChangeShapes Go.WideShapes Go.Deep
section
variable {H : Type} {enc0 : TypeId × Value → H} {w : World} {base : Nat} {held : Bool}
end
end Go.Proofs.YtghmcdfmbjabnaaGreatDoor
namespace Go.Proofs.YtghmcdfmbjabnaaGreatDoor
set_option linter.unusedVariables false
open Go.RowKit
end Go.Proofs.YtghmcdfmbjabnaaGreatDoor
