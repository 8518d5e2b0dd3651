/- Contracts of layer 17: Decay. -/
import Derived.Test.YtmkmmggimokagaaGreatDoorLedW4
namespace Go.Proofs.YtmkmmggimokagaaGreatDoor
set_option linter.unusedVariables false
open Go.RowKit
def halfU (u : U) : U := { u with share := halfV u.share }
def halfTo (k : Nat) (l : List U) : List U := (l.take k).map halfU ++ l.drop k
theorem halfTo_at {l : List U} {k : Nat} {u : U} (h : l[k]? = some u) : (halfTo k l)[k]? = some u := by
  have hk := (List.getElem?_eq_some_iff.1 h).1
  unfold halfTo
  rw [List.getElem?_append_right (by simp; omega), List.getElem?_drop]
  simp only [List.length_map, List.length_take]
  rw [show k + (k - min k l.length) = k by omega, h]
theorem halfTo_succ {l : List U} {k : Nat} {u : U} (h : l[k]? = some u) : halfTo (k + 1) l = (halfTo k l).set k (halfU u) := by
  have hk := (List.getElem?_eq_some_iff.1 h).1
  unfold halfTo
  rw [List.set_append_right _ _ (by simp; omega), dropU h]
  simp only [List.length_map, List.length_take]
  rw [show k - min k l.length = 0 by omega, List.set_cons_zero, List.take_add_one, h]
  simp
theorem Owns.u_at {w : World} {B g n c k : Nat} {l : List U} {u : U} (h : Owns w B 48 4 (.slice (some ⟨g, 0, none⟩) n c) n (recs ucells l)) (hk : k < n) (hx : l[k]? = some u) :
    B ≤ g ∧ g < w.heap.size ∧ w.cell? ⟨g, k * 4, none⟩ = some (.string u.user) ∧ w.cell? ⟨g, k * 4 + 1, none⟩ = some (.string u.acct) ∧ w.cell? ⟨g, k * 4 + 2, none⟩ = some (.int .i64 u.used) ∧ w.cell? ⟨g, k * 4 + 3, none⟩ = some (.int .i64 u.share) ∧ (∀ j, w.frozen? ⟨g, j, none⟩ = false) := by
  obtain ⟨g', c', e, hB, hg, _, _, hc, hf⟩ := h.at_ (by omega)
  have e1 : g = g' ∧ c = c' := by simpa using e
  obtain ⟨rfl, rfl⟩ := e1
  exact ⟨hB, hg, hc _ _ (by rw [show k * 4 = k * 4 + 0 by omega, recs_at ucells_len hx (by omega)]; rfl), hc _ _ (by rw [recs_at ucells_len hx (by omega)]; rfl), hc _ _ (by rw [recs_at ucells_len hx (by omega)]; rfl), hc _ _ (by rw [recs_at ucells_len hx (by omega)]; rfl), hf⟩
/-- the list that halving hands back -/
def decayL (l : List U) : List U := if ledgerV l then l.map halfU else []
def RetL (w : World) (l : List U) (en : Ending) (w' : World) : Prop := RetOwn w 48 4 l.length (recs ucells l) en w'
end Go.Proofs.YtmkmmggimokagaaGreatDoor
