/- Layer 8: words. Layer 8: fits, walked: priorities and times. Layer 8: fits, walked: the kinds but the first. -/
import Derived.Test.YtmkmmggimokagaaGreatDoorC1
import Derived.Test.YtmkmmggimokagaaGreatDoorK9
namespace Go.Proofs.YtmkmmggimokagaaGreatDoor
set_option linter.unusedVariables false
open Go.RowKit
def wordB (s : ByteArray) : Bool := checkP ⟨1, s, 0, 0⟩ == 0
set_option maxRecDepth 100000 in
theorem word8_any (s : ByteArray) (w : World) (hs : s.size ≤ 1000000) : Calls Tryz.prog 65 #[.string s] w fun e w' => e = .returned (.bool (wordB s)) ∧ Below w.heap.size w w' := by
  have hc := Lib.hid (lexcheck_any ⟨1, s, 0, 0⟩ w ⟨hs, fun h => by cases h⟩)
  unfold wordB
  unfold tkV at hc
  obtain ⟨n, hn⟩ : ∃ n : Int, checkP ⟨1, s, 0, 0⟩ = n := ⟨_, rfl⟩
  rw [hn] at hc ⊢
  clear hn
  dsimp only at hc
  go_enter Tryz.func65, Tryz.ntmps65
  go_wp2_with (fail)
  refine hc.out.mono ?_; rintro e w1 ⟨rfl, hb1⟩
  go_wp2
  go_ret
  exact ⟨rfl, hb1⟩
/-- a priority, and a time, are there and may be, or are not there -/
def preB (x : Cm) : Bool := (if x.hasPrio = true then inB x.prio 0 100 else x.prio == 0) && (if x.hasTime = true then inB x.time 1 100000 else x.time == 0)
theorem bne_of8 {x : Int} (h : (x == 0) = false) : (x != 0) = true := by show (!(x == 0)) = true; rw [h]; rfl
set_option maxHeartbeats 4000000 in
set_option maxRecDepth 100000 in
theorem fits_pre (x : Cm) (A A2 : Option Addr) (c c2 : Nat) (w : World) (h : preB x = false) :
    Calls Tryz.prog 47 #[cmV x A c A2 c2] w fun e w' => e = .returned (.bool false) ∧ Below w.heap.size w w' := by
  have q1 := Lib.hid (fun v => within8_any x.prio 0 100 v)
  have q2 := Lib.hid (fun v => length_any x.time v)
  unfold preB at h
  unfold cmV
  obtain ⟨n1, e1⟩ : ∃ n, x.shape.alts.length = n := ⟨_, rfl⟩
  obtain ⟨m1, e3⟩ : ∃ n, x.after.length = n := ⟨_, rfl⟩
  rw [e1, e3]
  clear e1 e3
  obtain ⟨kind, job, name, user, account, ⟨sk, sl, sm, sn, so⟩, prio, hp, time, ht, after, node, nodes, frm⟩ := x
  dsimp only at h q1 q2 ⊢
  obtain ⟨z1, hz1⟩ : ∃ q, inB prio 0 100 = q := ⟨_, rfl⟩
  obtain ⟨z2, hz2⟩ : ∃ q, inB time 1 100000 = q := ⟨_, rfl⟩
  rw [hz1] at q1 h
  rw [hz2] at q2 h
  clear hz1 hz2
  cases hp <;> cases ht <;> cases z1 <;> cases z2 <;> cases y1 : prio == 0 <;> cases y2 : time == 0
  all_goals
    rw [y1, y2] at h
    simp only [Bool.false_eq_true, if_true, if_false, Bool.and_true, Bool.and_false] at h
    first
    | (exact absurd h (by decide))
    | (clear h
       (try have y3 := bne_of8 y1)
       (try have y4 := bne_of8 y2)
       (try (have y5 : prio = 0 := by simpa using y1); subst y5)
       (try (have y6 : time = 0 := by simpa using y2); subst y6)
       go_enter Tryz.func47, Tryz.ntmps47
       go_wp2_with (first
         | (go_at_call 62; refine (q1.out _).mono ?_; rintro e w1 ⟨rfl, rfl⟩)
         | (go_at_call 63; refine (q2.out _).mono ?_; rintro e w1 ⟨rfl, rfl⟩))
       go_ret
       exact ⟨rfl, (Below.refl _ _).alloc (Nat.le_refl _) _⟩)
/-- what a kind wants, but the first one -/
def kindB (x : Cm) : Bool :=
  if x.kind = 2 ∨ x.kind = 3 ∨ x.kind = 4 ∨ x.kind = 11 then inB x.job 1 99999
  else if x.kind = 5 then inB x.job 1 99999 && (x.hasPrio || x.hasTime)
  else if x.kind = 6 then inB x.job 1 99999 && inB x.nodes 1 48
  else if x.kind = 7 ∨ x.kind = 8 ∨ x.kind = 9 then inB x.node 0 47
  else if x.kind = 10 then inB x.frm 0 1000000 && x.hasTime && inB x.nodes 1 48
  else (x.kind == 12) && inB x.job 0 99999
set_option maxHeartbeats 8000000 in
set_option maxRecDepth 100000 in
theorem fits_job (x : Cm) (A A2 : Option Addr) (c c2 : Nat) (w : World) (h : preB x = true) (hk : x.kind = 2 ∨ x.kind = 3 ∨ x.kind = 4 ∨ x.kind = 11) :
    Calls Tryz.prog 47 #[cmV x A c A2 c2] w fun e w' => e = .returned (.bool (inB x.job 1 99999)) ∧ Below w.heap.size w w' := by
  have q1 := Lib.hid (fun v => within8_any x.prio 0 100 v)
  have q2 := Lib.hid (fun v => length_any x.time v)
  have q3 := Lib.hid (fun v => id_any x.job v)
  unfold preB at h
  unfold cmV
  obtain ⟨n1, e1⟩ : ∃ n, x.shape.alts.length = n := ⟨_, rfl⟩
  obtain ⟨m1, e3⟩ : ∃ n, x.after.length = n := ⟨_, rfl⟩
  rw [e1, e3]
  clear e1 e3
  obtain ⟨kind, job, name, user, account, ⟨sk, sl, sm, sn, so⟩, prio, hp, time, ht, after, node, nodes, frm⟩ := x
  dsimp only at h q1 q2 q3 hk ⊢
  obtain ⟨z1, hz1⟩ : ∃ q, inB prio 0 100 = q := ⟨_, rfl⟩
  obtain ⟨z2, hz2⟩ : ∃ q, inB time 1 100000 = q := ⟨_, rfl⟩
  obtain ⟨z3, hz3⟩ : ∃ q, inB job 1 99999 = q := ⟨_, rfl⟩
  rw [hz1] at q1 h
  rw [hz2] at q2 h
  rw [hz3] at q3 ⊢
  clear hz1 hz2 hz3
  rcases hk with rfl | rfl | rfl | rfl
  all_goals
    cases hp <;> cases ht
    all_goals
      simp only [Bool.false_eq_true, if_true, if_false, Bool.and_eq_true] at h
      obtain ⟨h1, h2⟩ := h
      (try subst h1)
      (try subst h2)
      (try (have y5 : prio = 0 := by simpa using h1); subst y5)
      (try (have y6 : time = 0 := by simpa using h2); subst y6)
      go_enter Tryz.func47, Tryz.ntmps47
      go_wp2_with (first
        | (go_at_call 62; refine (q1.out _).mono ?_; rintro e w1 ⟨rfl, rfl⟩)
        | (go_at_call 63; refine (q2.out _).mono ?_; rintro e w1 ⟨rfl, rfl⟩)
        | (go_at_call 68; refine (q3.out _).mono ?_; rintro e w1 ⟨rfl, rfl⟩))
      go_ret
      exact ⟨rfl, (Below.refl _ _).alloc (Nat.le_refl _) _⟩
end Go.Proofs.YtmkmmggimokagaaGreatDoor
