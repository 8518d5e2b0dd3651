/- Structs of many cells: a row of cells stored one by one. -/
import Derived.Test.YtmkmmggimokagaaGreatDoorK1
namespace Go.Proofs.YtmkmmggimokagaaGreatDoor
set_option linter.unusedVariables false
open Go.RowKit
/-- a list's values stored into a block from cell k on -/
def setRow (v : World) (b : Nat) : Nat → List Value → World
  | _, [] => v
  | k, a :: l => setRow (v.setCell ⟨b, k, none⟩ a) b (k + 1) l
theorem setRow_size : ∀ (l : List Value) (v : World) (b k : Nat), (setRow v b k l).heap.size = v.heap.size
  | [], _, _, _ => rfl
  | a :: l, v, b, k => by unfold setRow; rw [setRow_size l]; simp [World.setCell]
theorem setRow_other : ∀ (l : List Value) (v : World) (b k j : Nat), j ≠ b → (setRow v b k l).heap[j]? = v.heap[j]?
  | [], _, _, _, _, _ => rfl
  | a :: l, v, b, k, j, h => by unfold setRow; rw [setRow_other l _ _ _ _ h, Below.heap_setCell _ _ _ _ h]
theorem setCell_blk {v : World} {b k : Nat} {a : Value} {cs : Array Value} {t : TypeId} {fr : Nat × Nat} (h : v.heap[b]? = some (.cells cs t fr)) : (v.setCell ⟨b, k, none⟩ a).heap[b]? = some (.cells (cs.setIfInBounds k a) t fr) := by
  simp [World.setCell, Array.getElem?_modify, h]
theorem setRow_from : ∀ (l pre rest : List Value) (v : World) (b : Nat) (cs : Array Value) (t : TypeId) (fr : Nat × Nat), v.heap[b]? = some (.cells cs t fr) → cs.toList = pre ++ rest → rest.length = l.length →
    (setRow v b pre.length l).heap[b]? = some (.cells (pre ++ l).toArray t fr)
  | [], pre, rest, v, b, cs, t, fr, h, hc, hl => by
    have : rest = [] := List.length_eq_zero_iff.1 hl
    subst this
    rw [List.append_nil] at hc
    unfold setRow
    rw [h, List.append_nil, ← hc]
  | a :: l, pre, [], v, b, cs, t, fr, h, hc, hl => by simp at hl
  | a :: l, pre, x :: rest, v, b, cs, t, fr, h, hc, hl => by
    unfold setRow
    have h2 : (cs.setIfInBounds pre.length a).toList = (pre ++ [a]) ++ rest := by
      rw [Array.toList_setIfInBounds, hc, List.set_append_right _ _ (Nat.le_refl _)]
      simp
    have h3 := setRow_from l (pre ++ [a]) rest (v.setCell ⟨b, pre.length, none⟩ a) b _ t fr (setCell_blk h) h2 (by simpa using hl)
    rw [List.length_append] at h3
    simpa using h3
theorem setRow_row {v : World} {b : Nat} {cs : Array Value} {t : TypeId} {fr : Nat × Nat} {l : List Value} (h : v.heap[b]? = some (.cells cs t fr)) (hl : cs.size = l.length) : (setRow v b 0 l).heap[b]? = some (.cells l.toArray t fr) :=
  setRow_from l [] cs.toList v b cs t fr h (by simp) (by simpa using hl)
theorem below_setRow {B : Nat} {a : World} : ∀ (l : List Value) (v : World) (b k : Nat), Below B a v → B ≤ b → Below B a (setRow v b k l)
  | [], _, _, _, h, _ => h
  | x :: l, v, b, k, h, hb => by unfold setRow; exact below_setRow l _ _ _ (h.setCell (p := ⟨b, k, none⟩) hb x) hb
theorem setRow_cell {v : World} {b b2 o : Nat} {l : List Value} {k : Nat} (h : b2 ≠ b) : (setRow v b k l).cell? ⟨b2, o, none⟩ = v.cell? ⟨b2, o, none⟩ := by
  unfold World.cell?
  rw [setRow_other _ _ _ _ _ h]
end Go.Proofs.YtmkmmggimokagaaGreatDoor
