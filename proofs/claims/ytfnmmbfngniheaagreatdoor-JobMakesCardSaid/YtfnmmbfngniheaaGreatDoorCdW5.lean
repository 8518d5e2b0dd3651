/- Layer 8: words. -/
import Derived.Test.YtfnmmbfngniheaaGreatDoorCdW3
import Derived.Test.YtfnmmbfngniheaaGreatDoorK9
namespace Go.Proofs.YtfnmmbfngniheaaGreatDoor
set_option linter.unusedVariables false
open Go.RowKit
def wordB (s : ByteArray) : Bool := checkP ⟨1, s, 0, 0⟩ == 0
set_option maxRecDepth 100000 in
theorem word8_any (s : ByteArray) (w : World) (hs : s.size ≤ 1000000) : Calls Tryz.prog 180 #[.string s] w fun e w' => e = .returned (.bool (wordB s)) ∧ Below w.heap.size w w' := by
  have hc := Lib.hid (lexcheck_any ⟨1, s, 0, 0⟩ w ⟨hs, fun h => by cases h⟩)
  unfold wordB
  unfold tkV at hc
  obtain ⟨n, hn⟩ : ∃ n : Int, checkP ⟨1, s, 0, 0⟩ = n := ⟨_, rfl⟩
  rw [hn] at hc ⊢
  clear hn
  dsimp only at hc
  go_enter Tryz.func180, Tryz.ntmps180
  go_wp2_with (fail)
  refine hc.out.mono ?_; rintro e w1 ⟨rfl, hb1⟩
  go_wp2
  go_ret
  exact ⟨rfl, hb1⟩
end Go.Proofs.YtfnmmbfngniheaaGreatDoor
