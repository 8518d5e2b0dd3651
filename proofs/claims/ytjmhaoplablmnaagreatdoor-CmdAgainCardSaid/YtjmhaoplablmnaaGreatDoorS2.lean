/- Layer 7: the sizes of a range, from the greatest down; a clone of nothing. Layer 7: Options walked. Layer 7: Options of a range walked. Layer 7: Options and Allows. -/
import Derived.Test.YtjmhaoplablmnaaGreatDoorS1
import Derived.RangeFuncNested
import Derived.RangeFuncBox
import Derived.RangeFuncBound
import Derived.RangeFuncCalls
import Derived.RangeFuncLeaves
import Derived.RangeFuncFrom
import Derived.Shelf.Abstract
import Derived.Shelf.RegionOpen
import Derived.WalkKit
import Derived.OwnWalkIn
import Derived.TacticsInMore
import Derived.LoopNIn
import Derived.LoopIn
import Derived.Maps.AppendAt
namespace Go.Proofs.YtjmhaoplablmnaaGreatDoor
set_option linter.unusedVariables false
open Go.RowKit Go.Shelf
attribute [local go_sem] Oper.semAt_some
/-- what comes, from the greatest down -/
def downN (hi : Int) (k : Nat) : List Int := (List.range k).map (fun (i : Nat) => hi - (i : Int))
theorem downN_succ (hi : Int) (k : Nat) : downN hi (k + 1) = downN hi k ++ [hi - (k : Int)] := by unfold downN; rw [List.range_succ]; simp
theorem downN_len (hi : Int) (k : Nat) : (downN hi k).length = k := by unfold downN; simp
theorem downN_pre (hi : Int) {j k : Nat} (h : j ≤ k) : downN hi j <+: downN hi k := by
  unfold downN
  refine List.IsPrefix.map _ ?_
  rw [List.prefix_iff_eq_take, List.length_range, List.take_range, Nat.min_eq_left h]
/-- what a round keeps for the iterator: the box of the least size -/
def KeptBox (f : Nat) (lo : Int) (W W' : World) : Prop := Boxed W f 3 (.int .i64 lo) → Boxed W' f 3 (.int .i64 lo)
end Go.Proofs.YtjmhaoplablmnaaGreatDoor
namespace Go.Proofs.YtjmhaoplablmnaaGreatDoor
set_option linter.unusedVariables false
open Go.RowKit Go.Shelf
attribute [local go_sem] Oper.semAt_some
/-- a call hands back options -/
def RetOpt (w : World) (l : List Pr) (en : Ending) (w' : World) : Prop :=
  ∃ A c, en = .returned (.slice A l.length c) ∧ l.length ≤ c ∧ Reads w' w'.heap.size 2 A l.length (recs prC l) ∧ Below w.heap.size w w'
theorem opt_no {s : Sh} (h : okS s = false) : optS s = [] := by unfold optS; rw [if_neg (by rw [h]; simp)]
theorem she_no {s : Sh} (h : okS s = false) : shE s = 70 := by unfold shE; rw [if_neg (by rw [h]; simp)]
theorem she_yes {s : Sh} (h : okS s = true) : shE s = 0 := by unfold shE; rw [if_pos h]
theorem opt_list {s : Sh} (h : okS s = true) (h3 : s.kind ≠ 3) : optS s = s.alts := by unfold optS; rw [if_pos h, if_neg h3]
theorem opt_down {s : Sh} (h : okS s = true) (h3 : s.kind = 3) : s.alts = [] ∧ 1 ≤ s.mn ∧ s.mn ≤ s.mx ∧ s.mx ≤ 48 ∧ optS s = (downN s.mx (s.mx - s.mn + 1).toNat).map (fun x => (x, s.wall)) := by
  have h2 := h
  unfold okS at h2
  rw [if_neg (show ¬ s.kind = 1 by omega), if_neg (show ¬ s.kind = 2 by omega), if_pos h3] at h2
  unfold fineA at h2
  simp only [Bool.and_eq_true, decide_eq_true_eq] at h2
  obtain ⟨⟨⟨h4, h5⟩, ⟨⟨h6, _⟩, _⟩, _⟩, h7⟩ := h2
  refine ⟨List.length_eq_zero_iff.1 h4, h6, h5, h7, ?_⟩
  unfold optS downN
  rw [if_pos h, if_pos h3, List.map_map]
  rfl
end Go.Proofs.YtjmhaoplablmnaaGreatDoor
namespace Go.Proofs.YtjmhaoplablmnaaGreatDoor
set_option linter.unusedVariables false
open Go.RowKit Go.Shelf
attribute [local go_sem] Oper.semAt_some
def wid (wall : Int) (l : List Int) : List Pr := l.map (fun x => (x, wall))
end Go.Proofs.YtjmhaoplablmnaaGreatDoor
namespace Go.Proofs.YtjmhaoplablmnaaGreatDoor
set_option linter.unusedVariables false
open Go.RowKit
theorem optS_len (s : Sh) (h : s.alts.length ≤ 100000) : (optS s).length ≤ 100000 := by
  by_cases h1 : okS s = true
  · by_cases h3 : s.kind = 3
    · obtain ⟨_, _, _, _, e⟩ := opt_down h1 h3
      rw [e, List.length_map, downN_len]; omega
    · rw [opt_list h1 h3]; exact h
  · rw [opt_no (by simpa using h1)]; simp
end Go.Proofs.YtjmhaoplablmnaaGreatDoor
