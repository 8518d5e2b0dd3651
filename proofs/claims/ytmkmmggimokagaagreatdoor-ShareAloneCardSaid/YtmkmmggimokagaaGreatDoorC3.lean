/- Layer 8: fits, walked: status, and what is no kind. Layer 8: fits, walked: submissions. -/
import Derived.Test.YtmkmmggimokagaaGreatDoorC2
namespace Go.Proofs.YtmkmmggimokagaaGreatDoor
set_option linter.unusedVariables false
open Go.RowKit
set_option maxHeartbeats 8000000 in
set_option maxRecDepth 100000 in
theorem fits_other (x : Cm) (A A2 : Option Addr) (c c2 : Nat) (w : World) (h : preB x = true) (hk : x.kind < 1 ∨ 11 < x.kind) :
    Calls Tryz.prog 47 #[cmV x A c A2 c2] w fun e w' => e = .returned (.bool ((x.kind == 12) && inB x.job 0 99999)) ∧ Below w.heap.size w w' := by
  have q1 := Lib.hid (fun v => within8_any x.prio 0 100 v)
  have q2 := Lib.hid (fun v => length_any x.time v)
  have q3 := Lib.hid (fun v => within8_any x.job 0 99999 v)
  unfold preB at h
  unfold cmV
  obtain ⟨n1, e1⟩ : ∃ n, x.shape.alts.length = n := ⟨_, rfl⟩
  obtain ⟨m1, e3⟩ : ∃ n, x.after.length = n := ⟨_, rfl⟩
  rw [e1, e3]
  clear e1 e3
  obtain ⟨kind, job, name, user, account, ⟨sk, sl, sm, sn, so⟩, prio, hp, time, ht, after, node, nodes, frm⟩ := x
  dsimp only at h q1 q2 q3 hk ⊢
  obtain ⟨z1, hz1⟩ : ∃ q, inB prio 0 100 = q := ⟨_, rfl⟩
  obtain ⟨z2, hz2⟩ : ∃ q, inB time 1 100000 = q := ⟨_, rfl⟩
  obtain ⟨z3, hz3⟩ : ∃ q, inB job 0 99999 = q := ⟨_, rfl⟩
  rw [hz1] at q1 h
  rw [hz2] at q2 h
  rw [hz3] at q3 ⊢
  clear hz1 hz2 hz3
  have f : ∀ j : Int, 1 ≤ j → j ≤ 11 → (kind == j) = false := fun j h1 h2 => beq_eq_false_iff_ne.2 (by omega)
  have k1 := f 1 (by omega) (by omega)
  have k2 := f 2 (by omega) (by omega)
  have k3 := f 3 (by omega) (by omega)
  have k4 := f 4 (by omega) (by omega)
  have k5 := f 5 (by omega) (by omega)
  have k6 := f 6 (by omega) (by omega)
  have k7 := f 7 (by omega) (by omega)
  have k8 := f 8 (by omega) (by omega)
  have k9 := f 9 (by omega) (by omega)
  have k10 := f 10 (by omega) (by omega)
  have k11 := f 11 (by omega) (by omega)
  clear f hk
  cases k12 : kind == 12 <;> cases z3 <;> cases hp <;> cases ht
  all_goals
    simp only [Bool.false_eq_true, if_true, if_false, Bool.and_eq_true] at h
    obtain ⟨h1, h2⟩ := h
    (try subst h1)
    (try subst h2)
    (try (have y5 : prio = 0 := by simpa using h1); subst y5)
    (try (have y6 : time = 0 := by simpa using h2); subst y6)
    go_enter Tryz.func47, Tryz.ntmps47
    go_wp2_with (first
      | (go_at_call 63; refine (q2.out _).mono ?_; rintro e w1 ⟨rfl, rfl⟩)
      | (go_at_call 62; (first | (with_reducible refine (q1.out _).mono ?_) | (with_reducible refine (q3.out _).mono ?_)); rintro e w1 ⟨rfl, rfl⟩))
    go_ret
    exact ⟨rfl, (Below.refl _ _).alloc (Nat.le_refl _) _⟩
/-- what a submission wants -/
def subB (x : Cm) : Bool := nameB x.name && nameB x.user && nameB x.account && wordB x.user && wordB x.account && depsB x.after && (shE x.shape == 0)
/-- a command's texts are no longer than any may be -/
def CmSz (x : Cm) : Prop := x.name.size ≤ 1000000 ∧ x.user.size ≤ 1000000 ∧ x.account.size ≤ 1000000
theorem bx {w v : World} {o : Obj} (h : Below (w.alloc o).heap.size (w.alloc o) v) : Below w.heap.size w v := bt ((Below.refl _ _).alloc (Nat.le_refl _) _) h
theorem lt_bx {w v : World} {o : Obj} (h : Below (w.alloc o).heap.size (w.alloc o) v) : w.heap.size < v.heap.size := by
  have := h.size
  rw [World.size_alloc] at this
  omega
set_option maxHeartbeats 8000000 in
set_option maxRecDepth 100000 in
theorem fits_submit (x : Cm) (A A2 : Option Addr) (c c2 B : Nat) (w : World) (h : preB x = true) (hk : x.kind = 1) (ha : CmAt w B x A c A2 c2) (hB : B ≤ w.heap.size) (hz : CmSz x) :
    Calls Tryz.prog 47 #[cmV x A c A2 c2] w fun e w' => e = .returned (.bool (subB x)) ∧ Below w.heap.size w w' := by
  have q1 := Lib.hid (fun v => within8_any x.prio 0 100 v)
  have q2 := Lib.hid (fun v => length_any x.time v)
  have n1 := Lib.hid (fun v => name_any x.name v hz.1)
  have n2 := Lib.hid (fun v => name_any x.user v hz.2.1)
  have n3 := Lib.hid (fun v => name_any x.account v hz.2.2)
  have o2 := Lib.hid (fun v => word8_any x.user v hz.2.1)
  have o3 := Lib.hid (fun v => word8_any x.account v hz.2.2)
  have hd := Lib.hid (fun v (hv : Below w.heap.size w v) => deps_any A2 x.after.length c2 B x.after v (ha.2.1.below (hv.mono hB)) (Nat.le_trans hB hv.size) (by have := ha.2.2.2.1; omega) ha.2.2.2.2.2)
  have hs := Lib.hid (fun v (hv : Below w.heap.size w v) => shape_any x.shape A c B v (ha.1.below (hv.mono hB)) (Nat.le_trans hB hv.size) (by have := ha.2.2.1; omega) ha.2.2.2.2.1)
  unfold preB at h
  unfold shV at hs
  unfold cmV subB
  clear ha hB hz
  obtain ⟨y1, e1⟩ : ∃ q, nameB x.name = q := ⟨_, rfl⟩
  obtain ⟨y2, e2⟩ : ∃ q, nameB x.user = q := ⟨_, rfl⟩
  obtain ⟨y3, e3⟩ : ∃ q, nameB x.account = q := ⟨_, rfl⟩
  obtain ⟨y4, e4⟩ : ∃ q, wordB x.user = q := ⟨_, rfl⟩
  obtain ⟨y5, e5⟩ : ∃ q, wordB x.account = q := ⟨_, rfl⟩
  obtain ⟨y6, e6⟩ : ∃ q, depsB x.after = q := ⟨_, rfl⟩
  obtain ⟨y7, e7⟩ : ∃ q, shE x.shape = q := ⟨_, rfl⟩
  rw [e1] at n1 ⊢
  rw [e2] at n2 ⊢
  rw [e3] at n3 ⊢
  rw [e4] at o2 ⊢
  rw [e5] at o3 ⊢
  rw [e6] at hd ⊢
  rw [e7] at hs ⊢
  clear e1 e2 e3 e4 e5 e6 e7
  obtain ⟨n, e1⟩ : ∃ n, x.shape.alts.length = n := ⟨_, rfl⟩
  obtain ⟨m, e3⟩ : ∃ n, x.after.length = n := ⟨_, rfl⟩
  rw [e1] at hs ⊢
  rw [e3] at hd ⊢
  clear e1 e3
  obtain ⟨kind, job, name, user, account, ⟨sk, sl, sm, sn, so⟩, prio, hp, time, ht, after, node, nodes, frm⟩ := x
  dsimp only at h q1 q2 hk n1 n2 n3 o2 o3 hd hs ⊢
  obtain ⟨z1, hz1⟩ : ∃ q, inB prio 0 100 = q := ⟨_, rfl⟩
  obtain ⟨z2, hz2⟩ : ∃ q, inB time 1 100000 = q := ⟨_, rfl⟩
  rw [hz1] at q1 h
  rw [hz2] at q2 h
  clear hz1 hz2
  subst hk
  cases hp <;> cases ht
  all_goals
    simp only [Bool.false_eq_true, if_true, if_false, Bool.and_eq_true] at h
    obtain ⟨h1, h2⟩ := h
    (try subst h1)
    (try subst h2)
    (try (have y5 : prio = 0 := by simpa using h1); subst y5)
    (try (have y6 : time = 0 := by simpa using h2); subst y6)
    go_enter Tryz.func47, Tryz.ntmps47
    go_wp2_with (first
      | (go_at_call 62; refine (q1.out _).mono ?_; rintro e w1 ⟨rfl, rfl⟩)
      | (go_at_call 63; refine (q2.out _).mono ?_; rintro e w1 ⟨rfl, rfl⟩))
    refine (n1.out _).mono ?_; rintro e w1 ⟨rfl, hb1⟩
    have B1 := Lib.hid hb1
    have s1 := lt_bx hb1
    have m3 : w1.cell? ⟨w.heap.size, 3, none⟩ = some (.string user) := boxed_cell hb1 3
    clear hb1
    cases y1
    · go_wp2
      go_ret
      exact ⟨rfl, bx B1.out⟩
    go_wp2_with (fail)
    refine (n2.out _).mono ?_; rintro e w2 ⟨rfl, hb2⟩
    have B2 := Lib.hid (B1.out.trans (hb2.mono B1.out.size))
    have s2 := lt_bx B2.out
    have m4 : w2.cell? ⟨w.heap.size, 4, none⟩ = some (.string account) := boxed_cell B2.out 4
    clear hb2 s1 m3 B1
    cases y2
    · go_wp2
      go_ret
      exact ⟨rfl, bx B2.out⟩
    go_wp2_with (fail)
    refine (n3.out _).mono ?_; rintro e w3 ⟨rfl, hb3⟩
    have B3 := Lib.hid (B2.out.trans (hb3.mono B2.out.size))
    have s3 := lt_bx B3.out
    have m3 : w3.cell? ⟨w.heap.size, 3, none⟩ = some (.string user) := boxed_cell B3.out 3
    clear hb3 s2 m4 B2
    cases y3
    · go_wp2
      go_ret
      exact ⟨rfl, bx B3.out⟩
    go_wp2_with (fail)
    refine (o2.out _).mono ?_; rintro e w4 ⟨rfl, hb4⟩
    have B4 := Lib.hid (B3.out.trans (hb4.mono B3.out.size))
    have s4 := lt_bx B4.out
    have m4 : w4.cell? ⟨w.heap.size, 4, none⟩ = some (.string account) := boxed_cell B4.out 4
    clear hb4 s3 m3 B3
    cases y4
    · go_wp2
      go_ret
      exact ⟨rfl, bx B4.out⟩
    go_wp2_with (fail)
    refine (o3.out _).mono ?_; rintro e w5 ⟨rfl, hb5⟩
    have B5 := Lib.hid (B4.out.trans (hb5.mono B4.out.size))
    have s5 := lt_bx B5.out
    have m14 : w5.cell? ⟨w.heap.size, 14, none⟩ = some (.slice A2 m c2) := boxed_cell B5.out 14
    clear hb5 s4 m4 B4
    cases y5
    · go_wp2
      go_ret
      exact ⟨rfl, bx B5.out⟩
    go_wp2_with (fail)
    refine (hd.out _ (bx B5.out)).mono ?_; rintro e w6 ⟨rfl, hb6⟩
    have B6 := Lib.hid (B5.out.trans (hb6.mono B5.out.size))
    have s6 := lt_bx B6.out
    have m5 : w6.cell? ⟨w.heap.size, 5, none⟩ = some (.int .i64 sk) := boxed_cell B6.out 5
    have m6 : w6.cell? ⟨w.heap.size, 6, none⟩ = some (.slice A n c) := boxed_cell B6.out 6
    have m7 : w6.cell? ⟨w.heap.size, 7, none⟩ = some (.int .i64 sm) := boxed_cell B6.out 7
    have m8 : w6.cell? ⟨w.heap.size, 8, none⟩ = some (.int .i64 sn) := boxed_cell B6.out 8
    have m9 : w6.cell? ⟨w.heap.size, 9, none⟩ = some (.int .i64 so) := boxed_cell B6.out 9
    clear hb6 s5 m14 B5
    cases y6
    · go_wp2
      go_ret
      exact ⟨rfl, bx B6.out⟩
    go_wp2_with (fail)
    refine (hs.out _ (bx B6.out)).mono ?_; rintro e w7 ⟨rfl, hb7⟩
    have B7 := Lib.hid (B6.out.trans (hb7.mono B6.out.size))
    have s7 := lt_bx B7.out
    clear hb7 s6 B6
    go_wp2
    go_ret
    exact ⟨by cases y7 == 0 <;> rfl, bx B7.out⟩
end Go.Proofs.YtmkmmggimokagaaGreatDoor
