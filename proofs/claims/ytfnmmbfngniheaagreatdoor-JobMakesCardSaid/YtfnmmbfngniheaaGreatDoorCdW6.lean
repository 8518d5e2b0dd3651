/- Layer 8: fits, walked: priorities and times. -/
import Derived.Test.YtfnmmbfngniheaaGreatDoorCdW5
namespace Go.Proofs.YtfnmmbfngniheaaGreatDoor
set_option linter.unusedVariables false
open Go.RowKit
/-- a priority, and a time, are there and may be, or are not there -/
def preB (x : Cm) : Bool := (if x.hasPrio = true then inB x.prio 0 100 else x.prio == 0) && (if x.hasTime = true then inB x.time 1 100000 else x.time == 0)
theorem bne_of8 {x : Int} (h : (x == 0) = false) : (x != 0) = true := by show (!(x == 0)) = true; rw [h]; rfl
set_option maxHeartbeats 4000000 in
set_option maxRecDepth 100000 in
theorem fits_pre (x : Cm) (A A2 : Option Addr) (c c2 : Nat) (w : World) (h : preB x = false) :
    Calls Tryz.prog 128 #[cmV x A c A2 c2] w fun e w' => e = .returned (.bool false) ∧ Below w.heap.size w w' := by
  have q1 := Lib.hid (fun v => within8_any x.prio 0 100 v)
  have q2 := Lib.hid (fun v => length_any x.time v)
  unfold preB at h
  unfold cmV
  obtain ⟨n1, e1⟩ : ∃ n, x.shape.alts.length = n := ⟨_, rfl⟩
  obtain ⟨m1, e3⟩ : ∃ n, x.after.length = n := ⟨_, rfl⟩
  rw [e1, e3]
  clear e1 e3
  obtain ⟨kind, job, name, user, account, ⟨sk, sl, sm, sn, so⟩, prio, hp, time, ht, after, node, nodes, frm⟩ := x
  dsimp only at h q1 q2 ⊢
  obtain ⟨z1, hz1⟩ : ∃ q, inB prio 0 100 = q := ⟨_, rfl⟩
  obtain ⟨z2, hz2⟩ : ∃ q, inB time 1 100000 = q := ⟨_, rfl⟩
  rw [hz1] at q1 h
  rw [hz2] at q2 h
  clear hz1 hz2
  cases hp <;> cases ht <;> cases z1 <;> cases z2 <;> cases y1 : prio == 0 <;> cases y2 : time == 0
  all_goals
    rw [y1, y2] at h
    simp only [Bool.false_eq_true, if_true, if_false, Bool.and_true, Bool.and_false] at h
    first
    | (exact absurd h (by decide))
    | (clear h
       (try have y3 := bne_of8 y1)
       (try have y4 := bne_of8 y2)
       (try (have y5 : prio = 0 := by simpa using y1); subst y5)
       (try (have y6 : time = 0 := by simpa using y2); subst y6)
       go_enter Tryz.func128, Tryz.ntmps128
       go_wp2_with (first
         | (go_at_call 177; refine (q1.out _).mono ?_; rintro e w1 ⟨rfl, rfl⟩)
         | (go_at_call 178; refine (q2.out _).mono ?_; rintro e w1 ⟨rfl, rfl⟩))
       go_ret
       exact ⟨rfl, (Below.refl _ _).alloc (Nat.le_refl _) _⟩)
end Go.Proofs.YtfnmmbfngniheaaGreatDoor
