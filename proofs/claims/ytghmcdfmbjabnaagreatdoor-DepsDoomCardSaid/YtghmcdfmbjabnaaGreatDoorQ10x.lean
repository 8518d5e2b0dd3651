/- Layer 14: the reference's acts walked (printed by a program of my own). Layer 14: the reference's New walked. Layer 14: the boxes that an act's walk begins with (printed by a program of my own). Layer 14: JobMakes walked (printed by a program of my own). -/
import Derived.Test.YtghmcdfmbjabnaaGreatDoorQ8t
import Derived.Test.YtghmcdfmbjabnaaGreatDoorQ7t
import Derived.Test.YtghmcdfmbjabnaaGreatDoorQ7x
import Derived.Test.YtghmcdfmbjabnaaGreatDoorS3t
import Derived.Test.YtghmcdfmbjabnaaGreatDoorQ9t
import Derived.Test.YtghmcdfmbjabnaaGreatDoorQ1t
namespace Go.Proofs.YtghmcdfmbjabnaaGreatDoor
set_option linter.unusedVariables false
open Go.RowKit
/-- a call hands back a job, and an error; nothing old was written -/
def RetJY (w : World) (q : Jb × Int) (e : Ending) (w' : World) : Prop :=
  ∃ A c A2 c2, e = .returned (.tuple #[jbV q.1 A c A2 c2, .int .i64 q.2]) ∧ JbAt w' w'.heap.size q.1 A c A2 c2 ∧ Below w.heap.size w w'
theorem RetJX.y {w : World} {q : Jb × Int} {e : Ending} {w' : World} (h : RetJX w q e w') : RetJY w q e w' := by
  obtain ⟨A, c, A2, c2, h1, h2, _, h3⟩ := h
  exact ⟨A, c, A2, c2, h1, h2, h3⟩
theorem turnJ_f {x y : Jb} {er : Int} (h : okJ x = false) : turnJ x er y = (noJ, 140) := by unfold turnJ; rw [if_neg (by rw [h]; decide)]
theorem turnJ_n {x y : Jb} {er : Int} (h : okJ x = true) (h0 : er ≠ 0) : turnJ x er y = (noJ, er) := by unfold turnJ; rw [if_pos h, if_neg h0]
theorem turnJ_y {x y : Jb} (h : okJ x = true) : turnJ x 0 y = (y, 0) := by unfold turnJ; rw [if_pos h, if_pos rfl]
theorem turnJ_e {x y : Jb} {m er : Int} (h : okJ x = true) (hm : m = er) (h0 : (er == 0) = false) : turnJ x m y = (noJ, er) := by rw [hm]; exact turnJ_n h (by simpa using h0)
theorem turnJ_g {x y : Jb} {m : Int} (h : okJ x = true) (hm : m = 0) : turnJ x m y = (y, 0) := by rw [hm]; exact turnJ_y h
end Go.Proofs.YtghmcdfmbjabnaaGreatDoor
