/- Bundle K5. -/
import Derived.Test.YtghmcdfmbjabnaaGreatDoorK2t
import Derived.Test.YtghmcdfmbjabnaaGreatDoorK1t
import Derived.Test.YtghmcdfmbjabnaaGreatDoorK3t
import Derived.Deep.DeepCutAuto
import Derived.Deep.CutBlock
import Derived.Deep.Cut
import Derived.Deep.LoopGhost
import Derived.WalkMore
import Derived.Lib.AtoiErrMem
import Derived.Deep.RegionWith
import Derived.LoopTactic
namespace Go.Proofs.YtghmcdfmbjabnaaGreatDoor
set_option linter.unusedSimpArgs false
set_option maxRecDepth 100000
set_option linter.unusedVariables false
open Go.RowKit
theorem Reads.made_one {w : World} {x : Value} {t : TypeId} {b : Nat} (h : b = w.heap.size) : Reads (w.alloc (.cells #[x] t)) (b + 1) 1 (some ⟨b, 0, none⟩) 1 [x] := by
  subst h; exact Reads.made w [x] t
theorem conv_one (w : World) (x : Int) (n : UInt8) (b cap : Nat) (hb : b = w.heap.size) (h : x = (n.toNat : Int)) : (convert 191 9 (.slice (some ⟨b, 0, none⟩) 1 cap)).run Tryz.prog (w.alloc (.cells #[.int .u8 x] 5)) = .ok (.string ⟨#[n]⟩) (w.alloc (.cells #[.int .u8 x] 5)) := by
  subst hb h
  exact str_of_reads (l := [n]) (Reads.made_one rfl)
theorem conv_cell {w : World} {x : Int} {n : UInt8} {b cap : Nat} (h : x = (n.toNat : Int)) (hc : w.cell? ⟨b, 0, none⟩ = some (.int .u8 x)) : (convert 191 9 (.slice (some ⟨b, 0, none⟩) 1 cap)).run Tryz.prog w = .ok (.string ⟨#[n]⟩) w := by
  subst h
  refine str_of_reads (B := b + 1) (l := [n]) ⟨rfl, fun _ => ⟨_, rfl, by simp, fun j u hu => ?_⟩⟩
  rcases j with _ | j
  · obtain rfl : Value.int .u8 n.toNat = u := by simpa [Lib.byteCells] using hu
    exact hc
  · simp [Lib.byteCells] at hu
theorem byte_of {n : Nat} (h : n < 256) : ∃ b : UInt8, Hid (UInt8.ofNat n = b) ∧ b.toNat = n := ⟨_, rfl, by rw [UInt8.toNat_ofNat', Nat.mod_eq_of_lt h]⟩
theorem ba_of (l : List UInt8) : ∃ b : ByteArray, Hid (b.data.toList = l) ∧ Hid (⟨l.toArray⟩ = b) ∧ b.size = l.length := ⟨⟨l.toArray⟩, (by show _ = _; simp), rfl, by simp [ByteArray.size]⟩
end Go.Proofs.YtghmcdfmbjabnaaGreatDoor
