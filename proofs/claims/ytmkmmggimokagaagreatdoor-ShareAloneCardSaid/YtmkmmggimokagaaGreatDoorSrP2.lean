/- Layer 18, plain: who stands in the order is found. -/
import Derived.Test.YtmkmmggimokagaaGreatDoorR2
import Derived.Test.YtmkmmggimokagaaGreatDoorT2
namespace Go.Proofs.YtmkmmggimokagaaGreatDoor
set_option linter.unusedVariables false
set_option linter.unusedSimpArgs false
open Go.RowKit
theorem pos_of {l : List Jb} {k : Nat} {x : Jb} (h : l.Pairwise (fun a b => a.id < b.id)) (hx : l[k]? = some x) : posP l x.id = (k : Int) := by
  refine idxG_hit hx (by unfold posQ; simp) (fun j y hj hy => ?_)
  have := asc_lt h hy hx hj
  unfold posQ; simp; omega
theorem tab_nodup {l : List Jb} (h : tabB l = true) : (l.map (·.id)).Nodup := by
  have h2 := (tab_iff.1 h).2.2
  rw [List.Nodup, List.pairwise_map]
  exact h2.imp (fun h => by omega)
/-- who stands in the order is found by its id -/
theorem find_named {sh : ByteArray → Int} {l : List Jb} {ids : List Int} {r : Rk} (ht : tabB l = true) (hr : r ∈ sortR (namedR sh l ids)) : ∃ x, findP l r.id = (x, true) ∧ rkOf sh x = r := by
  obtain ⟨j, hj, h1, h2⟩ := named_mem ((sortR_perm _).mem_iff.1 hr)
  obtain ⟨k, hk⟩ := List.getElem?_of_mem hj
  refine ⟨j, ?_, h1⟩
  rw [← h2]
  exact findP_yes ht (pos_of (tab_iff.1 ht).2.2 hk) hk
/-- the ids in order, by their ranks -/
theorem order_at {sh : ByteArray → Int} {l : List Jb} {ids : List Int} {i : Nat} {x : Int} (h : (orderP sh l ids)[i]? = some x) : ∃ r, (sortR (namedR sh l ids))[i]? = some r ∧ r.id = x := by
  unfold orderP at h
  rw [List.getElem?_map] at h
  cases hs : (sortR (namedR sh l ids))[i]? with
  | none => rw [hs] at h; cases h
  | some r => rw [hs] at h; exact ⟨r, rfl, Option.some.inj h⟩
/-- what is asked of each in the order: it is found; and who stands ahead of it does -/
theorem order_found {sh : ByteArray → Int} {l : List Jb} {ids : List Int} {i : Nat} {x : Int} (ht : tabB l = true) (h : (orderP sh l ids)[i]? = some x) : ∃ j, findP l x = (j, true) := by
  obtain ⟨r, h1, rfl⟩ := order_at h
  obtain ⟨j, h2, _⟩ := find_named ht (List.mem_of_getElem? h1)
  exact ⟨j, h2⟩
theorem order_next {sh : ByteArray → Int} {l : List Jb} {ids : List Int} {i : Nat} {x y : Int} (ht : tabB l = true) (hy : (orderP sh l ids)[i]? = some y) (hx : (orderP sh l ids)[i + 1]? = some x) : aheadP sh (findP l y).1 (findP l x).1 = true := by
  obtain ⟨r, h1, rfl⟩ := order_at hy
  obtain ⟨s, h2, rfl⟩ := order_at hx
  obtain ⟨j, h3, h4⟩ := find_named ht (List.mem_of_getElem? h1)
  obtain ⟨k, h5, h6⟩ := find_named ht (List.mem_of_getElem? h2)
  rw [h3, h5, ahead_rk, h4, h6]
  exact order_pair (tab_nodup ht) h1 h2
theorem order_bound (sh : ByteArray → Int) (l : List Jb) (ids : List Int) : (orderP sh l ids).length ≤ l.length := by
  unfold orderP
  rw [List.length_map, (sortR_perm _).length_eq]
  unfold namedR
  rw [List.length_map]
  exact List.length_filter_le _ _
end Go.Proofs.YtmkmmggimokagaaGreatDoor
