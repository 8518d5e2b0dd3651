/- Layer 8, plain: a command may be, as the program and the reference ask. -/
import Derived.Test.YtjmhaoplablmnaaGreatDoorCpR3s
import Derived.Test.YtjmhaoplablmnaaGreatDoorQ2s
namespace Go.Proofs.YtjmhaoplablmnaaGreatDoor
set_option linter.unusedVariables false
set_option linter.unusedSimpArgs false
open Go.RowKit
theorem ba_nil : (⟨#[]⟩ : ByteArray).toList = [] := by unfold ByteArray.toList; unfold ByteArray.toList.loop; rfl
theorem sh0_few {s : Sh} (h : sameS s sh0 = true) : s.alts.length ≤ 6 := by
  unfold sameS sh0 at h
  simp only [Bool.and_eq_true, decide_eq_true_eq] at h
  rw [h.2]
  exact Nat.zero_le _
theorem none_same (name user account : ByteArray) (s : Sh) (after : List Pr) (u1 u2 : Bool) :
    (decide (s.alts.length ≤ 6) && (decide (after.length ≤ 4) && (u1 && (sameS s sh0 && (decide (after = []) && ((name.toList == (⟨#[]⟩ : ByteArray).toList) && ((user.toList == (⟨#[]⟩ : ByteArray).toList) && ((account.toList == (⟨#[]⟩ : ByteArray).toList) && u2)))))))) =
      (u1 && (u2 && ((name.toList == []) && ((user.toList == []) && ((account.toList == []) && ((after.length == 0) && sameS s sh0)))))) := by
  rw [ba_nil]
  have e2 : decide (after = []) = (after.length == 0) := by cases after <;> simp
  rw [e2]
  cases h : sameS s sh0
  · simp
  · rw [decide_eq_true (sh0_few h)]
    cases h2 : (after.length == 0)
    · simp
    · have : after.length ≤ 4 := by rw [beq_iff_eq] at h2; omega
      rw [decide_eq_true this]
      simp only [Bool.true_and, Bool.and_true]
      ac_rfl
theorem none_same2 (name user account : ByteArray) (s : Sh) (after : List Pr) (u1 u2 u3 : Bool) :
    (decide (s.alts.length ≤ 6) && (decide (after.length ≤ 4) && (u1 && (sameS s sh0 && (decide (after = []) && (u3 && ((name.toList == (⟨#[]⟩ : ByteArray).toList) && ((user.toList == (⟨#[]⟩ : ByteArray).toList) && ((account.toList == (⟨#[]⟩ : ByteArray).toList) && u2))))))))) =
      (u1 && ((u2 && u3) && ((name.toList == []) && ((user.toList == []) && ((account.toList == []) && ((after.length == 0) && sameS s sh0)))))) := by
  rw [← none_same]
  ac_rfl
theorem chk_gen8 {x : Cm} (h1 : x.kind ≠ 1) : chkB x = rchkB x := by
  obtain ⟨kind, job, name, user, account, s, prio, hp, time, ht, after, node, nodes, frm⟩ := x
  dsimp only at h1
  by_cases hk : 2 ≤ kind ∧ kind ≤ 12
  case neg =>
    have e1 : fitB ⟨kind, job, name, user, account, s, prio, hp, time, ht, after, node, nodes, frm⟩ = false := by
      unfold fitB kindB
      dsimp only
      rw [if_neg h1, if_neg (by omega), if_neg (by omega), if_neg (by omega), if_neg (by omega), if_neg (by omega)]
      have : (kind == 12) = false := by simp; omega
      rw [this]; simp
    have e2 : kindR ⟨kind, job, name, user, account, s, prio, hp, time, ht, after, node, nodes, frm⟩ = false := by
      unfold kindR
      dsimp only
      rw [if_neg (by omega), if_neg (by omega), if_neg (by omega), if_neg (by omega), if_neg (by omega), if_neg (by omega)]
    unfold chkB rchkB
    rw [e1, e2]; simp
  have hor : kind = 2 ∨ kind = 3 ∨ kind = 4 ∨ kind = 5 ∨ kind = 6 ∨ kind = 7 ∨ kind = 8 ∨ kind = 9 ∨ kind = 10 ∨ kind = 11 ∨ kind = 12 := by omega
  have key := none_same name user account s after
  rcases hor with rfl | rfl | rfl | rfl | rfl | rfl | rfl | rfl | rfl | rfl | rfl
  all_goals
    unfold chkB rchkB fitB kindB kindR preB noneJ8 noneA8 noneR8 noneN8 noneV8 noneT sameC bareC
    simp only [Int.reduceEq, or_false, false_or, or_true, true_or, if_true, if_false, reduceIte, beq_self_eq_true, Bool.true_and, Bool.and_true]
  all_goals
    first | rw [none_same] | rw [none_same2]
    generalize (name.toList == []) = b1
    generalize (user.toList == []) = b2
    generalize (account.toList == []) = b3
    generalize (node == 0) = b4
    generalize (nodes == 0) = b5
    generalize (frm == 0) = b6
    generalize (job == 0) = b7
    generalize (after.length == 0) = b8
    generalize sameS s sh0 = b9
    generalize (prio == 0) = p0
    generalize (time == 0) = t0
    generalize inB prio 0 100 = i1
    generalize inB time 1 100000 = i2
    clear key hk h1
    cases p0 <;> cases t0 <;> cases hp <;> cases ht <;> simp <;> ac_rfl
theorem rcheck8_any (x : Cm) (A A2 : Option Addr) (c c2 B : Nat) (w : World) (ha : CmAt w B x A c A2 c2) (hB : B ≤ w.heap.size) (hz : CmSz x) :
    Calls Tryz.prog 12 #[cmV x A c A2 c2] w fun e w' => e = .returned (.int .i64 (cmdE x)) ∧ Below w.heap.size w w' := by
  by_cases h1 : x.kind = 1
  · rw [cmd_submit h1]
    exact rcheck_submit x A A2 c c2 B w h1 ha hB hz
  · have e : cmdE x = if rchkB x = true then 0 else 80 := by unfold cmdE; rw [chk_gen8 h1]
    rw [e]
    exact rcheck_gen x A A2 c c2 B w (by simpa using h1) ha hB
end Go.Proofs.YtjmhaoplablmnaaGreatDoor
