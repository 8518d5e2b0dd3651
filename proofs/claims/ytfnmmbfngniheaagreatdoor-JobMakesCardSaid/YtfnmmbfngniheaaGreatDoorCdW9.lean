/- Layer 8: fits, walked: status, and what is no kind. -/
import Derived.Test.YtfnmmbfngniheaaGreatDoorCdW6
namespace Go.Proofs.YtfnmmbfngniheaaGreatDoor
set_option linter.unusedVariables false
open Go.RowKit
set_option maxHeartbeats 8000000 in
set_option maxRecDepth 100000 in
theorem fits_other (x : Cm) (A A2 : Option Addr) (c c2 : Nat) (w : World) (h : preB x = true) (hk : x.kind < 1 ∨ 11 < x.kind) :
    Calls Tryz.prog 128 #[cmV x A c A2 c2] w fun e w' => e = .returned (.bool ((x.kind == 12) && inB x.job 0 99999)) ∧ Below w.heap.size w w' := by
  have q1 := Lib.hid (fun v => within8_any x.prio 0 100 v)
  have q2 := Lib.hid (fun v => length_any x.time v)
  have q3 := Lib.hid (fun v => within8_any x.job 0 99999 v)
  unfold preB at h
  unfold cmV
  obtain ⟨n1, e1⟩ : ∃ n, x.shape.alts.length = n := ⟨_, rfl⟩
  obtain ⟨m1, e3⟩ : ∃ n, x.after.length = n := ⟨_, rfl⟩
  rw [e1, e3]
  clear e1 e3
  obtain ⟨kind, job, name, user, account, ⟨sk, sl, sm, sn, so⟩, prio, hp, time, ht, after, node, nodes, frm⟩ := x
  dsimp only at h q1 q2 q3 hk ⊢
  obtain ⟨z1, hz1⟩ : ∃ q, inB prio 0 100 = q := ⟨_, rfl⟩
  obtain ⟨z2, hz2⟩ : ∃ q, inB time 1 100000 = q := ⟨_, rfl⟩
  obtain ⟨z3, hz3⟩ : ∃ q, inB job 0 99999 = q := ⟨_, rfl⟩
  rw [hz1] at q1 h
  rw [hz2] at q2 h
  rw [hz3] at q3 ⊢
  clear hz1 hz2 hz3
  have f : ∀ j : Int, 1 ≤ j → j ≤ 11 → (kind == j) = false := fun j h1 h2 => beq_eq_false_iff_ne.2 (by omega)
  have k1 := f 1 (by omega) (by omega)
  have k2 := f 2 (by omega) (by omega)
  have k3 := f 3 (by omega) (by omega)
  have k4 := f 4 (by omega) (by omega)
  have k5 := f 5 (by omega) (by omega)
  have k6 := f 6 (by omega) (by omega)
  have k7 := f 7 (by omega) (by omega)
  have k8 := f 8 (by omega) (by omega)
  have k9 := f 9 (by omega) (by omega)
  have k10 := f 10 (by omega) (by omega)
  have k11 := f 11 (by omega) (by omega)
  clear f hk
  cases k12 : kind == 12 <;> cases z3 <;> cases hp <;> cases ht
  all_goals
    simp only [Bool.false_eq_true, if_true, if_false, Bool.and_eq_true] at h
    obtain ⟨h1, h2⟩ := h
    (try subst h1)
    (try subst h2)
    (try (have y5 : prio = 0 := by simpa using h1); subst y5)
    (try (have y6 : time = 0 := by simpa using h2); subst y6)
    go_enter Tryz.func128, Tryz.ntmps128
    go_wp2_with (first
      | (go_at_call 178; refine (q2.out _).mono ?_; rintro e w1 ⟨rfl, rfl⟩)
      | (go_at_call 177; (first | (with_reducible refine (q1.out _).mono ?_) | (with_reducible refine (q3.out _).mono ?_)); rintro e w1 ⟨rfl, rfl⟩))
    go_ret
    exact ⟨rfl, (Below.refl _ _).alloc (Nat.le_refl _) _⟩
end Go.Proofs.YtfnmmbfngniheaaGreatDoor
