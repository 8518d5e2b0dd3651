/- Layer 7: the reference's Same walked. -/
import Derived.Test.YtfnmmbfngniheaaGreatDoorShR4
namespace Go.Proofs.YtfnmmbfngniheaaGreatDoor
set_option linter.unusedVariables false
open Go.RowKit
set_option maxHeartbeats 1000000 in
theorem rsameS_any (a b : Sh) (A A2 : Option Addr) (c c2 B : Nat) (w : World) (hr : Reads w B 2 A a.alts.length (recs prC a.alts)) (hr2 : Reads w B 2 A2 b.alts.length (recs prC b.alts)) (hn : a.alts.length ≤ 1000000) (hm : b.alts.length ≤ 1000000) (hB : B ≤ w.heap.size) :
    Calls Tryz.prog 68 #[shV a A c, shV b A2 c2] w fun e w' => e = .returned (.bool (sameS a b)) ∧ Below w.heap.size w w' := by
  have hc := Lib.hid (fun v (hv : Below w.heap.size w v) => rsameA_any A A2 _ _ c c2 B a.alts b.alts v (hr.below (hv.mono hB)) (hr2.below (hv.mono hB)) hn hm (Nat.le_trans hB hv.size))
  unfold shV sameS
  obtain ⟨q, hq⟩ : ∃ q, decide (a.alts = b.alts) = q := ⟨_, rfl⟩
  rw [hq] at hc ⊢
  clear hq hr hr2
  obtain ⟨n, hnn⟩ : ∃ n, a.alts.length = n := ⟨_, rfl⟩
  obtain ⟨m, hmm⟩ : ∃ n, b.alts.length = n := ⟨_, rfl⟩
  rw [hnn, hmm] at hc ⊢
  obtain ⟨k1, l1, x1, y1, z1⟩ := a
  obtain ⟨k2, l2, x2, y2, z2⟩ := b
  dsimp only at hc ⊢
  clear hnn hmm hn hm
  cases t1 : k1 == k2
  · go_enter Tryz.func68, Tryz.ntmps68
    go_wp2
    go_ret
    exact ⟨rfl, ((Below.refl _ _).alloc (Nat.le_refl _) _).alloc (by simp) _⟩
  cases t2 : x1 == x2
  · go_enter Tryz.func68, Tryz.ntmps68
    go_wp2
    go_ret
    exact ⟨rfl, ((Below.refl _ _).alloc (Nat.le_refl _) _).alloc (by simp) _⟩
  cases t3 : y1 == y2
  · go_enter Tryz.func68, Tryz.ntmps68
    go_wp2
    go_ret
    exact ⟨rfl, ((Below.refl _ _).alloc (Nat.le_refl _) _).alloc (by simp) _⟩
  cases t4 : z1 == z2
  · go_enter Tryz.func68, Tryz.ntmps68
    go_wp2
    go_ret
    exact ⟨rfl, ((Below.refl _ _).alloc (Nat.le_refl _) _).alloc (by simp) _⟩
  have hbx := Lib.hid (((Below.refl w.heap.size w).alloc (Nat.le_refl _) (.cells #[.int .i64 k1, .slice A n c, .int .i64 x1, .int .i64 y1, .int .i64 z1] 24)).alloc (by simp) (.cells #[.int .i64 k2, .slice A2 m c2, .int .i64 x2, .int .i64 y2, .int .i64 z2] 24))
  go_enter Tryz.func68, Tryz.ntmps68
  go_wp2_with (fail)
  refine (hc.out _ hbx.out).mono ?_; rintro e w1 ⟨rfl, hb1⟩
  go_wp2
  go_ret
  exact ⟨rfl, bt hbx.out hb1⟩
end Go.Proofs.YtfnmmbfngniheaaGreatDoor
