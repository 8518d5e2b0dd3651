/- Drawn regions whose calls make memory, whole rows read in them and stored into new blocks: helpers. -/
import Derived.Test.YtmkmmggimokagaaGreatDoorK1
import Derived.Laws.Rows
import Derived.Laws.Tables
import Derived.Deep.MidRow
import Derived.OrdersHeld
namespace Go.Proofs.YtmkmmggimokagaaGreatDoor
set_option linter.unusedVariables false
open Go.RowKit
theorem yl_row {P : Program} {S : World → Prop} {o : Oper} {a : Act} (ty : TypeId) (x : Operand) (ho : o.op = .load ty x) (g : Nat) (hx : a.eval x = .pointer (some ⟨g, 0, none⟩)) (t : TypeId) (cs : Array Value) (fr : Nat × Nat) (d : TypeDesc)
    (hS : ∀ w, S w → w.heap[g]? = some (.cells cs t fr)) (hu : P.underlying ty = some d) (hd : (match d with | .struct _ | .array _ _ => true | _ => false) = true) (hi : (P.info? ty).map (·.size) = some cs.size) :
    ∀ w, S w → (execOp a.eval o).run P w = .ok (.value (.agg cs)) w := by
  intro w hw
  unfold execOp
  simp only [ho, hx, Instr.loadAt, Instr.sureAddr, Sem.run_bind, Sem.run_pure, Result.andThen_ok, run_loadVar_row w g t ty cs fr d (hS w hw) hu hd hi]
theorem yl_mid {P : Program} {S : World → Prop} {op : Oper} {a : Act} (ty : TypeId) (x : Operand) (ho : op.op = .load ty x) (b o : Nat) (hx : a.eval x = .pointer (some ⟨b, o, none⟩)) (cs : List Value) (d : TypeDesc)
    (hS : ∀ w, S w → w.rangeAt b o cs) (hu : P.underlying ty = some d) (hd : d.isRow = true) (hi : (P.info? ty).map (·.size) = some cs.length) :
    ∀ w, S w → (execOp a.eval op).run P w = .ok (.value (.agg cs.toArray)) w := by
  intro w hw
  unfold execOp
  simp only [ho, hx, Instr.loadAt, Instr.sureAddr, Sem.run_bind, Sem.run_pure, Result.andThen_ok, run_loadVar_mid w b o ty cs d (hS w hw) hu hd hi]
/-- all old cells as they were -/
theorem hk_mk {w3 w' : World} (h : Below w3.heap.size w3 w') : (∀ b o, b < w3.heap.size → w'.cell? ⟨b, o, none⟩ = w3.cell? ⟨b, o, none⟩) ∧ Below w3.heap.size w3 w' := ⟨fun b o hb => h.cell (p := ⟨b, o, none⟩) hb, h⟩
theorem hk_call {w3 w' w'' : World} (h : (∀ b o, b < w3.heap.size → w'.cell? ⟨b, o, none⟩ = w3.cell? ⟨b, o, none⟩) ∧ Below w3.heap.size w3 w') (hb : Below w'.heap.size w' w'') : (∀ b o, b < w3.heap.size → w''.cell? ⟨b, o, none⟩ = w3.cell? ⟨b, o, none⟩) ∧ Below w3.heap.size w3 w'' :=
  hk_mk (h.2.trans (hb.mono h.2.size))
theorem hk_drew {w3 : World} : (∀ b o, b < w3.heap.size → w3.drew.cell? ⟨b, o, none⟩ = w3.cell? ⟨b, o, none⟩) ∧ Below w3.heap.size w3 w3.drew := hk_mk (below_drew (Below.refl _ _))
theorem hk_alloc {w3 w' : World} (h : (∀ b o, b < w3.heap.size → w'.cell? ⟨b, o, none⟩ = w3.cell? ⟨b, o, none⟩) ∧ Below w3.heap.size w3 w') (ob : Obj) : (∀ b o, b < w3.heap.size → (w'.alloc ob).cell? ⟨b, o, none⟩ = w3.cell? ⟨b, o, none⟩) ∧ Below w3.heap.size w3 (w'.alloc ob) :=
  hk_mk (h.2.alloc h.2.size _)
theorem hk_set {w3 w' : World} (h : (∀ b o, b < w3.heap.size → w'.cell? ⟨b, o, none⟩ = w3.cell? ⟨b, o, none⟩) ∧ Below w3.heap.size w3 w') {g k : Nat} (hg : w3.heap.size ≤ g) (u : Value) : (∀ b o, b < w3.heap.size → (w'.setCell ⟨g, k, none⟩ u).cell? ⟨b, o, none⟩ = w3.cell? ⟨b, o, none⟩) ∧ Below w3.heap.size w3 (w'.setCell ⟨g, k, none⟩ u) :=
  hk_mk (h.2.setCell (p := ⟨g, k, none⟩) hg u)
theorem hk_row {w3 w' : World} (h : (∀ b o, b < w3.heap.size → w'.cell? ⟨b, o, none⟩ = w3.cell? ⟨b, o, none⟩) ∧ Below w3.heap.size w3 w') {g : Nat} (hg : w3.heap.size ≤ g) (cs : Array Value) : (∀ b o, b < w3.heap.size → (w'.setRow g cs).cell? ⟨b, o, none⟩ = w3.cell? ⟨b, o, none⟩) ∧ Below w3.heap.size w3 (w'.setRow g cs) :=
  hk_mk (h.2.trans ⟨rfl, rfl, rfl, by simp, fun k hk => Go.setRow_other w' g k cs (by omega)⟩)
theorem hk_size {w3 w' : World} (h : (∀ b o, b < w3.heap.size → w'.cell? ⟨b, o, none⟩ = w3.cell? ⟨b, o, none⟩) ∧ Below w3.heap.size w3 w') : w3.heap.size ≤ w'.heap.size := h.2.size
theorem hk_block {w3 w' : World} (h : (∀ b o, b < w3.heap.size → w'.cell? ⟨b, o, none⟩ = w3.cell? ⟨b, o, none⟩) ∧ Below w3.heap.size w3 w') {g : Nat} {ob : Obj} (hg : w3.heap[g]? = some ob) : w'.heap[g]? = some ob := (h.2.block g (Array.getElem?_eq_some_iff.1 hg).1).trans hg
theorem hk_range {w3 w' : World} (h : (∀ b o, b < w3.heap.size → w'.cell? ⟨b, o, none⟩ = w3.cell? ⟨b, o, none⟩) ∧ Below w3.heap.size w3 w') {b o : Nat} {cs : List Value} (hr : w3.rangeAt b o cs) : w'.rangeAt b o cs := by
  intro j v hv
  have h1 := hr j v hv
  rw [h.1 b (o + j) (World.block_lt_of_cell? w3 _ h1)]
  exact h1
end Go.Proofs.YtmkmmggimokagaaGreatDoor
