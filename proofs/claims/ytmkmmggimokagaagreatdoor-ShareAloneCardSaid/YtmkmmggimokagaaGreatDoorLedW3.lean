/- Contract of slices.BinarySearchFunc at ledgers. -/
import Derived.Test.YtmkmmggimokagaaGreatDoorLedW2
import Derived.Test.YtmkmmggimokagaaGreatDoorLedP2
import Derived.Test.YtmkmmggimokagaaGreatDoorK1
namespace Go.Proofs.YtmkmmggimokagaaGreatDoor
set_option linter.unusedVariables false
open Go.RowKit

def foundU (l : List U) (x : U) : Bool := match l[lowU l x]? with | some u => ordU u x == 0 | none => false
def BsRel (l : List U) (x : U) (i j : Nat) : Prop := i ≤ j ∧ j ≤ l.length ∧ (∀ m u, m < i → l[m]? = some u → ordU u x < 0) ∧ (∀ m u, j ≤ m → l[m]? = some u → ¬ ordU u x < 0)
theorem BsRel.low {l : List U} {x : U} {i j h : Nat} {u : U} (hg : goodB l none = true) (r : BsRel l x i j) (h1 : i ≤ h) (h2 : h < j) (hu : l[h]? = some u) (ho : ordU u x < 0) : BsRel l x (h + 1) j := by
  refine ⟨by omega, r.2.1, fun m v hm hv => ?_, r.2.2.2⟩
  rcases Nat.lt_or_ge m h with hlt | hge
  · exact ordU_trans (good_sorted hg hlt hv hu) ho
  · obtain rfl : m = h := by omega
    rw [hu] at hv; obtain rfl := Option.some.inj hv; exact ho
theorem BsRel.high {l : List U} {x : U} {i j h : Nat} {u : U} (hg : goodB l none = true) (r : BsRel l x i j) (h1 : i ≤ h) (h2 : h < j) (hu : l[h]? = some u) (ho : ¬ ordU u x < 0) : BsRel l x i h := by
  refine ⟨by omega, by have := r.2.1; omega, r.2.2.1, fun m v hm hv hc => ?_⟩
  rcases Nat.lt_or_ge h m with hlt | hge
  · exact ho (ordU_trans (good_sorted hg hlt hu hv) hc)
  · obtain rfl : m = h := by omega
    rw [hu] at hv; obtain rfl := Option.some.inj hv; exact ho hc
theorem BsRel.done {l : List U} {x : U} {i : Nat} (r : BsRel l x i i) : lowU l x = i :=
  lowU_is r.2.1 r.2.2.1 (fun u hu => r.2.2.2 i u (Nat.le_refl _) hu)

end Go.Proofs.YtmkmmggimokagaaGreatDoor
