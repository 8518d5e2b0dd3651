/- Layer 8: fits, walked: the other kinds (printed by a program of my own). -/
import Derived.Test.YtmkmmggimokagaaGreatDoorC2
namespace Go.Proofs.YtmkmmggimokagaaGreatDoor
set_option linter.unusedVariables false
open Go.RowKit
set_option maxHeartbeats 8000000 in
set_option maxRecDepth 100000 in
theorem fits_alter (x : Cm) (A A2 : Option Addr) (c c2 : Nat) (w : World) (h : preB x = true) (hk : x.kind = 5) :
    Calls Tryz.prog 47 #[cmV x A c A2 c2] w fun e w' => e = .returned (.bool (inB x.job 1 99999 && (x.hasPrio || x.hasTime))) ∧ Below w.heap.size w w' := by
  have q1 := Lib.hid (fun v => within8_any x.prio 0 100 v)
  have q2 := Lib.hid (fun v => length_any x.time v)
  have q3 := Lib.hid (fun v => id_any x.job v)
  unfold preB at h
  unfold cmV
  obtain ⟨n1, e1⟩ : ∃ n, x.shape.alts.length = n := ⟨_, rfl⟩
  obtain ⟨m1, e3⟩ : ∃ n, x.after.length = n := ⟨_, rfl⟩
  rw [e1, e3]
  clear e1 e3
  obtain ⟨kind, job, name, user, account, ⟨sk, sl, sm, sn, so⟩, prio, hp, time, ht, after, node, nodes, frm⟩ := x
  dsimp only at h q1 q2 q3 hk ⊢
  obtain ⟨z1, hz1⟩ : ∃ q, inB prio 0 100 = q := ⟨_, rfl⟩
  obtain ⟨z2, hz2⟩ : ∃ q, inB time 1 100000 = q := ⟨_, rfl⟩
  rw [hz1] at q1 h
  rw [hz2] at q2 h
  clear hz1 hz2
  obtain ⟨y0, hy0⟩ : ∃ q, inB job 1 99999 = q := ⟨_, rfl⟩
  rw [hy0] at q3 ⊢
  clear hy0
  subst hk
  all_goals
    cases hp <;> cases ht <;> cases y0
    all_goals
      simp only [Bool.false_eq_true, if_true, if_false, Bool.and_eq_true] at h
      obtain ⟨h1, h2⟩ := h
      (try subst h1)
      (try subst h2)
      (try (have y5 : prio = 0 := by simpa using h1); subst y5)
      (try (have y6 : time = 0 := by simpa using h2); subst y6)
      go_enter Tryz.func47, Tryz.ntmps47
      go_wp2_with (first
        | (go_at_call 63; refine (q2.out _).mono ?_; rintro e w1 ⟨rfl, rfl⟩)
        | (go_at_call 62; (first | (with_reducible refine (q1.out _).mono ?_)); rintro e w1 ⟨rfl, rfl⟩)
        | (go_at_call 68; (first | (with_reducible refine (q3.out _).mono ?_)); rintro e w1 ⟨rfl, rfl⟩))
      go_ret
      exact ⟨rfl, (Below.refl _ _).alloc (Nat.le_refl _) _⟩
set_option maxHeartbeats 8000000 in
set_option maxRecDepth 100000 in
theorem fits_resize (x : Cm) (A A2 : Option Addr) (c c2 : Nat) (w : World) (h : preB x = true) (hk : x.kind = 6) :
    Calls Tryz.prog 47 #[cmV x A c A2 c2] w fun e w' => e = .returned (.bool (inB x.job 1 99999 && inB x.nodes 1 48)) ∧ Below w.heap.size w w' := by
  have q1 := Lib.hid (fun v => within8_any x.prio 0 100 v)
  have q2 := Lib.hid (fun v => length_any x.time v)
  have q3 := Lib.hid (fun v => id_any x.job v)
  have q4 := Lib.hid (fun v => within8_any x.nodes 1 48 v)
  unfold preB at h
  unfold cmV
  obtain ⟨n1, e1⟩ : ∃ n, x.shape.alts.length = n := ⟨_, rfl⟩
  obtain ⟨m1, e3⟩ : ∃ n, x.after.length = n := ⟨_, rfl⟩
  rw [e1, e3]
  clear e1 e3
  obtain ⟨kind, job, name, user, account, ⟨sk, sl, sm, sn, so⟩, prio, hp, time, ht, after, node, nodes, frm⟩ := x
  dsimp only at h q1 q2 q3 q4 hk ⊢
  obtain ⟨z1, hz1⟩ : ∃ q, inB prio 0 100 = q := ⟨_, rfl⟩
  obtain ⟨z2, hz2⟩ : ∃ q, inB time 1 100000 = q := ⟨_, rfl⟩
  rw [hz1] at q1 h
  rw [hz2] at q2 h
  clear hz1 hz2
  obtain ⟨y0, hy0⟩ : ∃ q, inB job 1 99999 = q := ⟨_, rfl⟩
  rw [hy0] at q3 ⊢
  clear hy0
  obtain ⟨y1, hy1⟩ : ∃ q, inB nodes 1 48 = q := ⟨_, rfl⟩
  rw [hy1] at q4 ⊢
  clear hy1
  subst hk
  all_goals
    cases hp <;> cases ht <;> cases y0 <;> cases y1
    all_goals
      simp only [Bool.false_eq_true, if_true, if_false, Bool.and_eq_true] at h
      obtain ⟨h1, h2⟩ := h
      (try subst h1)
      (try subst h2)
      (try (have y5 : prio = 0 := by simpa using h1); subst y5)
      (try (have y6 : time = 0 := by simpa using h2); subst y6)
      go_enter Tryz.func47, Tryz.ntmps47
      go_wp2_with (first
        | (go_at_call 63; refine (q2.out _).mono ?_; rintro e w1 ⟨rfl, rfl⟩)
        | (go_at_call 62; (first | (with_reducible refine (q1.out _).mono ?_) | (with_reducible refine (q4.out _).mono ?_)); rintro e w1 ⟨rfl, rfl⟩)
        | (go_at_call 68; (first | (with_reducible refine (q3.out _).mono ?_)); rintro e w1 ⟨rfl, rfl⟩))
      go_ret
      exact ⟨rfl, (Below.refl _ _).alloc (Nat.le_refl _) _⟩
set_option maxHeartbeats 8000000 in
set_option maxRecDepth 100000 in
theorem fits_node (x : Cm) (A A2 : Option Addr) (c c2 : Nat) (w : World) (h : preB x = true) (hk : x.kind = 7 ∨ x.kind = 8 ∨ x.kind = 9) :
    Calls Tryz.prog 47 #[cmV x A c A2 c2] w fun e w' => e = .returned (.bool (inB x.node 0 47)) ∧ Below w.heap.size w w' := by
  have q1 := Lib.hid (fun v => within8_any x.prio 0 100 v)
  have q2 := Lib.hid (fun v => length_any x.time v)
  have q4 := Lib.hid (fun v => within8_any x.node 0 47 v)
  unfold preB at h
  unfold cmV
  obtain ⟨n1, e1⟩ : ∃ n, x.shape.alts.length = n := ⟨_, rfl⟩
  obtain ⟨m1, e3⟩ : ∃ n, x.after.length = n := ⟨_, rfl⟩
  rw [e1, e3]
  clear e1 e3
  obtain ⟨kind, job, name, user, account, ⟨sk, sl, sm, sn, so⟩, prio, hp, time, ht, after, node, nodes, frm⟩ := x
  dsimp only at h q1 q2 q4 hk ⊢
  obtain ⟨z1, hz1⟩ : ∃ q, inB prio 0 100 = q := ⟨_, rfl⟩
  obtain ⟨z2, hz2⟩ : ∃ q, inB time 1 100000 = q := ⟨_, rfl⟩
  rw [hz1] at q1 h
  rw [hz2] at q2 h
  clear hz1 hz2
  obtain ⟨y0, hy0⟩ : ∃ q, inB node 0 47 = q := ⟨_, rfl⟩
  rw [hy0] at q4 ⊢
  clear hy0
  rcases hk with rfl | rfl | rfl
  all_goals
    cases hp <;> cases ht <;> cases y0
    all_goals
      simp only [Bool.false_eq_true, if_true, if_false, Bool.and_eq_true] at h
      obtain ⟨h1, h2⟩ := h
      (try subst h1)
      (try subst h2)
      (try (have y5 : prio = 0 := by simpa using h1); subst y5)
      (try (have y6 : time = 0 := by simpa using h2); subst y6)
      go_enter Tryz.func47, Tryz.ntmps47
      go_wp2_with (first
        | (go_at_call 63; refine (q2.out _).mono ?_; rintro e w1 ⟨rfl, rfl⟩)
        | (go_at_call 62; (first | (with_reducible refine (q1.out _).mono ?_) | (with_reducible refine (q4.out _).mono ?_)); rintro e w1 ⟨rfl, rfl⟩))
      go_ret
      exact ⟨rfl, (Below.refl _ _).alloc (Nat.le_refl _) _⟩
set_option maxHeartbeats 8000000 in
set_option maxRecDepth 100000 in
theorem fits_reserve (x : Cm) (A A2 : Option Addr) (c c2 : Nat) (w : World) (h : preB x = true) (hk : x.kind = 10) :
    Calls Tryz.prog 47 #[cmV x A c A2 c2] w fun e w' => e = .returned (.bool (inB x.frm 0 1000000 && x.hasTime && inB x.nodes 1 48)) ∧ Below w.heap.size w w' := by
  have q1 := Lib.hid (fun v => within8_any x.prio 0 100 v)
  have q2 := Lib.hid (fun v => length_any x.time v)
  have q3 := Lib.hid (fun v => within8_any x.frm 0 1000000 v)
  have q4 := Lib.hid (fun v => within8_any x.nodes 1 48 v)
  unfold preB at h
  unfold cmV
  obtain ⟨n1, e1⟩ : ∃ n, x.shape.alts.length = n := ⟨_, rfl⟩
  obtain ⟨m1, e3⟩ : ∃ n, x.after.length = n := ⟨_, rfl⟩
  rw [e1, e3]
  clear e1 e3
  obtain ⟨kind, job, name, user, account, ⟨sk, sl, sm, sn, so⟩, prio, hp, time, ht, after, node, nodes, frm⟩ := x
  dsimp only at h q1 q2 q3 q4 hk ⊢
  obtain ⟨z1, hz1⟩ : ∃ q, inB prio 0 100 = q := ⟨_, rfl⟩
  obtain ⟨z2, hz2⟩ : ∃ q, inB time 1 100000 = q := ⟨_, rfl⟩
  rw [hz1] at q1 h
  rw [hz2] at q2 h
  clear hz1 hz2
  obtain ⟨y0, hy0⟩ : ∃ q, inB frm 0 1000000 = q := ⟨_, rfl⟩
  rw [hy0] at q3 ⊢
  clear hy0
  obtain ⟨y1, hy1⟩ : ∃ q, inB nodes 1 48 = q := ⟨_, rfl⟩
  rw [hy1] at q4 ⊢
  clear hy1
  subst hk
  all_goals
    cases hp <;> cases ht <;> cases y0 <;> cases y1
    all_goals
      simp only [Bool.false_eq_true, if_true, if_false, Bool.and_eq_true] at h
      obtain ⟨h1, h2⟩ := h
      (try subst h1)
      (try subst h2)
      (try (have y5 : prio = 0 := by simpa using h1); subst y5)
      (try (have y6 : time = 0 := by simpa using h2); subst y6)
      go_enter Tryz.func47, Tryz.ntmps47
      go_wp2_with (first
        | (go_at_call 63; refine (q2.out _).mono ?_; rintro e w1 ⟨rfl, rfl⟩)
        | (go_at_call 62; (first | (with_reducible refine (q1.out _).mono ?_) | (with_reducible refine (q3.out _).mono ?_) | (with_reducible refine (q4.out _).mono ?_)); rintro e w1 ⟨rfl, rfl⟩))
      go_ret
      exact ⟨rfl, (Below.refl _ _).alloc (Nat.le_refl _) _⟩
end Go.Proofs.YtmkmmggimokagaaGreatDoor
