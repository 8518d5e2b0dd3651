/- Contracts of layer 17: Used, Share, Same. -/
import Derived.Test.YtmkmmggimokagaaGreatDoorLedW9
namespace Go.Proofs.YtmkmmggimokagaaGreatDoor
set_option linter.unusedVariables false
open Go.RowKit
theorem beq_str {a b : ByteArray} : (a.toList == b.toList) = decide (a = b) := by
  rw [Bool.eq_iff_iff]; simp; exact ⟨tl_inj, fun h => by rw [h]⟩
theorem share1_any (u : U) (user : ByteArray) (g : Nat) (w : World) (hc : w.cell? ⟨g, 0, none⟩ = some (.string user)) :
    Calls Tryz.prog 25 #[uv u, .pointer (some ⟨g, 0, none⟩)] w fun e w' => e = .returned (.int .i64 (shareF user u)) ∧ Below w.heap.size w w' := by
  have hg := cell_lt hc
  by_cases h : u.user = user
  · have h1 : (u.user.toList == user.toList) = true := by rw [beq_str]; simpa using h
    have HE : Hid (shareF user u = u.share) := by show _ = _; unfold shareF; rw [if_pos h]
    clear h
    go_enter Tryz.func25, Tryz.ntmps25
    go_wp2
    go_ret
    exact ⟨ret_int HE.out.symm, (Below.refl _ _).alloc (Nat.le_refl _) _⟩
  · have h1 : (u.user.toList == user.toList) = false := by rw [beq_str]; simpa using h
    have HE : Hid (shareF user u = 0) := by show _ = _; unfold shareF; rw [if_neg h]
    clear h
    go_enter Tryz.func25, Tryz.ntmps25
    go_wp2
    go_ret
    exact ⟨ret_int HE.out.symm, (Below.refl _ _).alloc (Nat.le_refl _) _⟩
theorem share_any (A : Option Addr) (n c B : Nat) (l : List U) (user : ByteArray) (w : World) (hn : n ≤ maxLen) (hr : Reads w B 4 A n (recs ucells l)) (hB : B ≤ w.heap.size) :
    Calls Tryz.prog 16 #[.slice A n c, .string user] w fun e w' => e = .returned (.int .i64 (togV l (shareF user))) ∧ Below w.heap.size w w' := by
  have hr1 := hr.alloc hB (.cells #[.string user] 9)
  go_enter Tryz.func16, Tryz.ntmps16
  go_wp2_with (go_at_call 24; refine (together_any A n c B l _ 25 #[.pointer (some ⟨w.heap.size, 0, none⟩)] (shareF user) (fun _ _ => by kernel_rfl) (fun W u hb => share1_any u user w.heap.size W (by rw [hb.cell (by simp)]; simp [go_sem])) hn hr1 (by simp; omega)).mono ?_; rintro e w' ⟨rfl, hb⟩)
  go_ret
  exact ⟨rfl, ((Below.refl w.heap.size w).alloc (Nat.le_refl _) _).trans (hb.mono (by simp))⟩
end Go.Proofs.YtmkmmggimokagaaGreatDoor
