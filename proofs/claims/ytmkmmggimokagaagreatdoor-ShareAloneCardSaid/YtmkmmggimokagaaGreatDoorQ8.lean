/- Layer 14: the reference's wall and state, walked (printed by a program of my own). Layer 14: the reference's wall and state, walked (printed by a program of my own). Layer 14: the reference's wall and state, walked (printed by a program of my own). Layer 14: the reference's wall and state, walked (printed by a program of my own). Layer 14: the reference's wall and state, walked (printed by a program of my own). Layer 14: the reference's Check walked (printed by a program of my own). -/
import Derived.Test.YtmkmmggimokagaaGreatDoorQ4
import Derived.Test.YtmkmmggimokagaaGreatDoorQ3
import Derived.Test.YtmkmmggimokagaaGreatDoorS3
import Derived.Test.YtmkmmggimokagaaGreatDoorQ5
import Derived.Deep.QuietTactic
import Derived.BigQuiet
namespace Go.Proofs.YtmkmmggimokagaaGreatDoor
set_option linter.unusedVariables false
open Go.RowKit
theorem wrap_of {d : Int} (h1 : -9223372036854775808 ≤ d) (h2 : d ≤ 9223372036854775807) : IntKind.i64.wrap d = d := by
  rw [IntKind.wrap_i64]
  omega
theorem gt_zero (a : Int) (z : Bool) (h : (a == 0) = !z) (h0 : z = decide (0 < a)) : decide (0 < a) = z := h0.symm
theorem wall_le (s : Sh) (ch : Int) : 0 ≤ wallS s ch ∧ wallS s ch ≤ 100000 := by
  cases h : hasO s ch
  · unfold wallS; rw [opt_none h]; exact ⟨by decide, by decide⟩
  · have := opt_bounds h; unfold wallS; omega
theorem ne_nat (n : Nat) : ((n : Int) == 0) = (n == 0) := by rw [Bool.eq_iff_iff]; simp
theorem queuedB_is (x : Jb) : queuedB x = ((x.start == 0) && ((x.limit == 0) && ((x.nodes == 0) && (((x.promise == -1) && (x.choice == 0)) || (tickB x.promise && (hasO x.shape x.choice && !x.held)))))) := rfl
theorem runB_is (x : Jb) : runB x = (hasO x.shape x.choice && (!x.held && (tickB x.start && (tickB x.promise && (decide (x.start ≤ x.promise) && (tickB x.limit && ((x.limit == x.start + wallS x.shape x.choice) && (fewS x.nodes && allowS x.shape x.choice (memL x.nodes).length)))))))) := rfl
theorem endB_is (x : Jb) : (endedB x.state && overB x) = (endedB x.state && ((x.nodes == 0) && (tickB x.start && (tickB x.limit && ((decide (-1 ≤ x.promise) && decide (x.promise ≤ 1000000)) && (decide (0 ≤ x.choice) && decide (x.choice ≤ 48))))))) := rfl
theorem owns_slice {w : World} {b : Nat} {e : TypeId} {size n : Nat} {v : Value} {xs : List Value} (h : Owns w b e size v n xs) : ∃ A c, v = .slice A n c := by
  obtain ⟨A, c, e, _⟩ := h.slice
  exact ⟨A, c, e⟩
theorem bne_f {a b : Int} (h : (a == b) = false) : (a != b) = true := by show (!(a == b)) = true; rw [h]; rfl
theorem bne_t {a b : Int} (h : (a == b) = true) : (a != b) = false := by show (!(a == b)) = false; rw [h]; rfl
theorem rsub_subm (x : Jb) : rsubB (submC x) = subJ x := by
  unfold rsubB noneS subJ
  simp [submC]
/-- none of the first k waits for a job that is not ahead -/
def NoLate (l : List Pr) (id : Int) (k : Nat) : Prop := ∀ (j : Nat) (y : Pr), j < k → l[j]? = some y → ¬ id ≤ y.2
theorem late_hit {l : List Pr} {id : Int} {k : Nat} {y : Pr} (h : l[k]? = some y) (hy : id ≤ y.2) : l.any (fun d => decide (id ≤ d.2)) = true :=
  List.any_eq_true.2 ⟨y, List.mem_of_getElem? h, decide_eq_true hy⟩
theorem late_none {l : List Pr} {id : Int} (h : NoLate l id l.length) : l.any (fun d => decide (id ≤ d.2)) = false := by
  rw [List.any_eq_false]
  intro y hy
  obtain ⟨j, hj, rfl⟩ := List.mem_iff_getElem.1 hy
  exact fun e => h j _ hj (List.getElem?_eq_getElem hj) (of_decide_eq_true e)
end Go.Proofs.YtmkmmggimokagaaGreatDoor
