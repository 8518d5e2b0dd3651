/- Drawn regions whose calls make memory, whole rows read in them and stored into new blocks: helpers. -/
import Derived.Test.YtjmhaoplablmnaaGreatDoorK1s
import Derived.Laws.Rows
import Derived.Laws.Tables
import Derived.Deep.MidRow
import Derived.OrdersHeld
namespace Go.Proofs.YtjmhaoplablmnaaGreatDoor
set_option linter.unusedVariables false
open Go.RowKit
theorem hk_mk {w3 w' : World} (h : Below w3.heap.size w3 w') : (∀ b o, b < w3.heap.size → w'.cell? ⟨b, o, none⟩ = w3.cell? ⟨b, o, none⟩) ∧ Below w3.heap.size w3 w' := ⟨fun b o hb => h.cell (p := ⟨b, o, none⟩) hb, h⟩
theorem hk_call {w3 w' w'' : World} (h : (∀ b o, b < w3.heap.size → w'.cell? ⟨b, o, none⟩ = w3.cell? ⟨b, o, none⟩) ∧ Below w3.heap.size w3 w') (hb : Below w'.heap.size w' w'') : (∀ b o, b < w3.heap.size → w''.cell? ⟨b, o, none⟩ = w3.cell? ⟨b, o, none⟩) ∧ Below w3.heap.size w3 w'' :=
  hk_mk (h.2.trans (hb.mono h.2.size))
theorem hk_drew {w3 : World} : (∀ b o, b < w3.heap.size → w3.drew.cell? ⟨b, o, none⟩ = w3.cell? ⟨b, o, none⟩) ∧ Below w3.heap.size w3 w3.drew := hk_mk (below_drew (Below.refl _ _))
theorem hk_alloc {w3 w' : World} (h : (∀ b o, b < w3.heap.size → w'.cell? ⟨b, o, none⟩ = w3.cell? ⟨b, o, none⟩) ∧ Below w3.heap.size w3 w') (ob : Obj) : (∀ b o, b < w3.heap.size → (w'.alloc ob).cell? ⟨b, o, none⟩ = w3.cell? ⟨b, o, none⟩) ∧ Below w3.heap.size w3 (w'.alloc ob) :=
  hk_mk (h.2.alloc h.2.size _)
theorem hk_set {w3 w' : World} (h : (∀ b o, b < w3.heap.size → w'.cell? ⟨b, o, none⟩ = w3.cell? ⟨b, o, none⟩) ∧ Below w3.heap.size w3 w') {g k : Nat} (hg : w3.heap.size ≤ g) (u : Value) : (∀ b o, b < w3.heap.size → (w'.setCell ⟨g, k, none⟩ u).cell? ⟨b, o, none⟩ = w3.cell? ⟨b, o, none⟩) ∧ Below w3.heap.size w3 (w'.setCell ⟨g, k, none⟩ u) :=
  hk_mk (h.2.setCell (p := ⟨g, k, none⟩) hg u)
theorem hk_row {w3 w' : World} (h : (∀ b o, b < w3.heap.size → w'.cell? ⟨b, o, none⟩ = w3.cell? ⟨b, o, none⟩) ∧ Below w3.heap.size w3 w') {g : Nat} (hg : w3.heap.size ≤ g) (cs : Array Value) : (∀ b o, b < w3.heap.size → (w'.setRow g cs).cell? ⟨b, o, none⟩ = w3.cell? ⟨b, o, none⟩) ∧ Below w3.heap.size w3 (w'.setRow g cs) :=
  hk_mk (h.2.trans ⟨rfl, rfl, rfl, by simp, fun k hk => Go.setRow_other w' g k cs (by omega)⟩)
theorem hk_size {w3 w' : World} (h : (∀ b o, b < w3.heap.size → w'.cell? ⟨b, o, none⟩ = w3.cell? ⟨b, o, none⟩) ∧ Below w3.heap.size w3 w') : w3.heap.size ≤ w'.heap.size := h.2.size
end Go.Proofs.YtjmhaoplablmnaaGreatDoor
