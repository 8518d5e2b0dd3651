/- Bundle Q0. -/
import Derived.Test.YtghmcdfmbjabnaaGreatDoorK1t
import Derived.Test.YtghmcdfmbjabnaaGreatDoorC3t
import Derived.Test.YtghmcdfmbjabnaaGreatDoorQ3t
import Derived.Laws.Rows
import Derived.Laws.Tables
import Derived.Deep.MidRow
import Derived.OrdersHeld
namespace Go.Proofs.YtghmcdfmbjabnaaGreatDoor
set_option linter.unusedSimpArgs false
set_option maxRecDepth 100000
set_option linter.unusedVariables false
open Go.RowKit
def setRow (v : World) (b : Nat) : Nat → List Value → World
  | _, [] => v
  | k, a :: l => setRow (v.setCell ⟨b, k, none⟩ a) b (k + 1) l
theorem setRow_size : ∀ (l : List Value) (v : World) (b k : Nat), (setRow v b k l).heap.size = v.heap.size
  | [], _, _, _ => rfl
  | a :: l, v, b, k => by unfold setRow; rw [setRow_size l]; simp [World.setCell]
theorem setRow_other : ∀ (l : List Value) (v : World) (b k j : Nat), j ≠ b → (setRow v b k l).heap[j]? = v.heap[j]?
  | [], _, _, _, _, _ => rfl
  | a :: l, v, b, k, j, h => by unfold setRow; rw [setRow_other l _ _ _ _ h, Below.heap_setCell _ _ _ _ h]
theorem setCell_blk {v : World} {b k : Nat} {a : Value} {cs : Array Value} {t : TypeId} {fr : Nat × Nat} (h : v.heap[b]? = some (.cells cs t fr)) : (v.setCell ⟨b, k, none⟩ a).heap[b]? = some (.cells (cs.setIfInBounds k a) t fr) := by
  simp [World.setCell, Array.getElem?_modify, h]
theorem setRow_from : ∀ (l pre rest : List Value) (v : World) (b : Nat) (cs : Array Value) (t : TypeId) (fr : Nat × Nat), v.heap[b]? = some (.cells cs t fr) → cs.toList = pre ++ rest → rest.length = l.length →
    (setRow v b pre.length l).heap[b]? = some (.cells (pre ++ l).toArray t fr)
  | [], pre, rest, v, b, cs, t, fr, h, hc, hl => by
    have : rest = [] := List.length_eq_zero_iff.1 hl
    subst this
    rw [List.append_nil] at hc
    unfold setRow
    rw [h, List.append_nil, ← hc]
  | a :: l, pre, [], v, b, cs, t, fr, h, hc, hl => by simp at hl
  | a :: l, pre, x :: rest, v, b, cs, t, fr, h, hc, hl => by
    unfold setRow
    have h2 : (cs.setIfInBounds pre.length a).toList = (pre ++ [a]) ++ rest := by
      rw [Array.toList_setIfInBounds, hc, List.set_append_right _ _ (Nat.le_refl _)]
      simp
    have h3 := setRow_from l (pre ++ [a]) rest (v.setCell ⟨b, pre.length, none⟩ a) b _ t fr (setCell_blk h) h2 (by simpa using hl)
    rw [List.length_append] at h3
    simpa using h3
theorem setRow_row {v : World} {b : Nat} {cs : Array Value} {t : TypeId} {fr : Nat × Nat} {l : List Value} (h : v.heap[b]? = some (.cells cs t fr)) (hl : cs.size = l.length) : (setRow v b 0 l).heap[b]? = some (.cells l.toArray t fr) :=
  setRow_from l [] cs.toList v b cs t fr h (by simp) (by simpa using hl)
theorem below_setRow {B : Nat} {a : World} : ∀ (l : List Value) (v : World) (b k : Nat), Below B a v → B ≤ b → Below B a (setRow v b k l)
  | [], _, _, _, h, _ => h
  | x :: l, v, b, k, h, hb => by unfold setRow; exact below_setRow l _ _ _ (h.setCell (p := ⟨b, k, none⟩) hb x) hb
structure Jb where
  id : Int
  name : ByteArray
  user : ByteArray
  account : ByteArray
  shape : Sh
  prio : Int
  after : List Pr
  state : Int
  held : Bool
  born : Int
  promise : Int
  choice : Int
  start : Int
  limit : Int
  nodes : Nat
  used : Int
def jbV (x : Jb) (A : Option Addr) (c : Nat) (A2 : Option Addr) (c2 : Nat) : Value :=
  .agg #[.int .i64 x.id, .string x.name, .string x.user, .string x.account, .int .i64 x.shape.kind, .slice A x.shape.alts.length c, .int .i64 x.shape.mn, .int .i64 x.shape.mx, .int .i64 x.shape.wall,
    .int .i64 x.prio, .slice A2 x.after.length c2, .int .i64 x.state, .bool x.held, .int .i64 x.born, .int .i64 x.promise, .int .i64 x.choice, .int .i64 x.start, .int .i64 x.limit, .int .u64 x.nodes, .int .i64 x.used]
def submC (x : Jb) : Cm := ⟨1, 0, x.name, x.user, x.account, x.shape, x.prio, true, 0, false, x.after, 0, 0, 0⟩
def JbAt (w : World) (B : Nat) (x : Jb) (A : Option Addr) (c : Nat) (A2 : Option Addr) (c2 : Nat) : Prop :=
  Reads w B 2 A x.shape.alts.length (recs prC x.shape.alts) ∧ Reads w B 2 A2 x.after.length (recs prC x.after) ∧ x.shape.alts.length ≤ 100000 ∧ x.after.length ≤ 100000 ∧ x.shape.alts.length ≤ c ∧ x.after.length ≤ c2
theorem JbAt.below {w w' : World} {B : Nat} {x : Jb} {A A2 : Option Addr} {c c2 : Nat} (h : JbAt w B x A c A2 c2) (hb : Below B w w') : JbAt w' B x A c A2 c2 :=
  ⟨h.1.below hb, h.2.1.below hb, h.2.2⟩
theorem JbAt.subm {w : World} {B : Nat} {x : Jb} {A A2 : Option Addr} {c c2 : Nat} (h : JbAt w B x A c A2 c2) : CmAt w B (submC x) A c A2 c2 := h
def JbSz (x : Jb) : Prop := (x.name.size ≤ 1000000 ∧ x.user.size ≤ 1000000 ∧ x.account.size ≤ 1000000) ∧ x.nodes < M64
theorem JbSz.subm {x : Jb} (h : JbSz x) : CmSz (submC x) := h.1
def tickB (n : Int) : Bool := inB n 0 1000000
def fewS (s : Nat) : Bool := decide (s < 281474976710656)
def endedB (n : Int) : Bool := inB n 3 7
def optAt (s : Sh) (ch : Int) : Pr := if ch < 0 ∨ ((optS s).length : Int) ≤ ch then (0, 0) else (optS s).getD ch.toNat (0, 0)
def wallS (s : Sh) (ch : Int) : Int := (optAt s ch).2
def hasO (s : Sh) (ch : Int) : Bool := !(decide (ch < 0) || decide (((optS s).length : Int) ≤ ch))
def queuedB (x : Jb) : Bool := (x.start == 0) && ((x.limit == 0) && ((x.nodes == 0) && (((x.promise == -1) && (x.choice == 0)) || (tickB x.promise && (hasO x.shape x.choice && !x.held)))))
def runB (x : Jb) : Bool := hasO x.shape x.choice && (!x.held && (tickB x.start && (tickB x.promise && (decide (x.start ≤ x.promise) && (tickB x.limit && ((x.limit == x.start + wallS x.shape x.choice) && (fewS x.nodes && allowS x.shape x.choice (memL x.nodes).length)))))))
def overB (x : Jb) : Bool := (x.nodes == 0) && (tickB x.start && (tickB x.limit && (inB x.promise (-1) 1000000 && inB x.choice 0 48)))
def stateB (x : Jb) : Bool := if x.state = 1 then queuedB x else if x.state = 2 then runB x else endedB x.state && overB x
def usedB (n : Int) : Bool := inB n 0 1000000000000
def subJ (x : Jb) : Bool := subB (submC x) && inB x.prio 0 100
def laterB (x : Jb) : Bool := x.after.any (fun d => decide (x.id ≤ d.2))
def okJ (x : Jb) : Bool := inB x.id 1 99999 && (tickB x.born && (usedB x.used && (subJ x && (!laterB x && stateB x))))
def jobE (x : Jb) : Int := if okJ x = true then 0 else 140
theorem used_clamp (n : Int) : (n == clamp n 0 1000000000000) = usedB n := by
  unfold clamp usedB inB
  rw [Bool.eq_iff_iff]
  simp only [beq_iff_eq, Bool.and_eq_true, decide_eq_true_eq]
  constructor
  · intro h; split at h <;> (try split at h) <;> omega
  · rintro ⟨h1, h2⟩; split <;> (try split) <;> omega
theorem optS_fine {s : Sh} {a : Pr} (h : a ∈ optS s) : fineA a = true := by
  unfold optS at h
  split at h
  case isFalse => cases h
  case isTrue hk =>
    unfold okS at hk
    split at h
    case isTrue h3 =>
      rw [if_neg (by omega), if_neg (by omega), if_pos h3] at hk
      simp only [Bool.and_eq_true, decide_eq_true_eq] at hk
      obtain ⟨⟨⟨_, h5⟩, h6⟩, h7⟩ := hk
      unfold fineA at h6 ⊢
      simp only [Bool.and_eq_true, decide_eq_true_eq] at h6 ⊢
      obtain ⟨i, hi, rfl⟩ := List.mem_map.1 h
      rw [List.mem_range] at hi
      simp only
      omega
    case isFalse h3 =>
      split at hk
      · simp only [Bool.and_eq_true] at hk
        exact List.all_eq_true.1 hk.2 _ h
      · split at hk
        · simp only [Bool.and_eq_true] at hk
          exact List.all_eq_true.1 hk.2 _ h
        · cases hk
theorem opt_bounds {s : Sh} {ch : Int} (h : hasO s ch = true) : 1 ≤ (optAt s ch).1 ∧ (optAt s ch).1 ≤ 48 ∧ 1 ≤ (optAt s ch).2 ∧ (optAt s ch).2 ≤ 100000 := by
  unfold hasO at h
  simp only [Bool.not_eq_true', Bool.or_eq_false_iff, decide_eq_false_iff_not] at h
  have e : optAt s ch = (optS s).getD ch.toNat (0, 0) := by unfold optAt; rw [if_neg (by omega)]
  have hl : ch.toNat < (optS s).length := by omega
  have hm : optAt s ch ∈ optS s := by rw [e, List.getD_eq_getElem?_getD, List.getElem?_eq_getElem hl]; exact List.getElem_mem hl
  have := optS_fine hm
  unfold fineA at this
  simp only [Bool.and_eq_true, decide_eq_true_eq] at this
  obtain ⟨⟨⟨a, b⟩, c⟩, d⟩ := this
  exact ⟨a, b, c, d⟩
theorem opt_none {s : Sh} {ch : Int} (h : hasO s ch = false) : optAt s ch = (0, 0) := by
  unfold hasO at h
  simp only [Bool.not_eq_false', Bool.or_eq_true, decide_eq_true_eq] at h
  unfold optAt
  rw [if_pos h]
theorem hasO_wall (s : Sh) (ch : Int) : hasO s ch = decide (0 < wallS s ch) := by
  cases h : hasO s ch
  · rw [show wallS s ch = 0 by unfold wallS; rw [opt_none h]]; rfl
  · have := (opt_bounds h).2.2.1
    exact (decide_eq_true (show 0 < wallS s ch by unfold wallS; omega)).symm
theorem hasO_zero (s : Sh) (ch : Int) : (wallS s ch == 0) = !hasO s ch := by
  cases h : hasO s ch
  · rw [show wallS s ch = 0 by unfold wallS; rw [opt_none h]]; rfl
  · have := (opt_bounds h).2.2.1
    exact beq_eq_false_iff_ne.2 (show wallS s ch ≠ 0 by unfold wallS; omega)
def sameJ (x y : Jb) : Bool := sameS x.shape y.shape && (decide (x.after = y.after) && ((x.name.toList == y.name.toList) && ((x.user.toList == y.user.toList) && ((x.account.toList == y.account.toList) && ((x.id == y.id) && ((x.prio == y.prio) && ((x.state == y.state) && ((x.held == y.held) && ((x.born == y.born) && ((x.promise == y.promise) && ((x.choice == y.choice) && ((x.start == y.start) && ((x.limit == y.limit) && (((x.nodes : Int) == (y.nodes : Int)) && (x.used == y.used)))))))))))))))
theorem yl_row {P : Program} {S : World → Prop} {o : Oper} {a : Act} (ty : TypeId) (x : Operand) (ho : o.op = .load ty x) (g : Nat) (hx : a.eval x = .pointer (some ⟨g, 0, none⟩)) (t : TypeId) (cs : Array Value) (fr : Nat × Nat) (d : TypeDesc)
    (hS : ∀ w, S w → w.heap[g]? = some (.cells cs t fr)) (hu : P.underlying ty = some d) (hd : (match d with | .struct _ | .array _ _ => true | _ => false) = true) (hi : (P.info? ty).map (·.size) = some cs.size) :
    ∀ w, S w → (execOp a.eval o).run P w = .ok (.value (.agg cs)) w := by
  intro w hw
  unfold execOp
  simp only [ho, hx, Instr.loadAt, Instr.sureAddr, Sem.run_bind, Sem.run_pure, Result.andThen_ok, run_loadVar_row w g t ty cs fr d (hS w hw) hu hd hi]
theorem hk_mk {w3 w' : World} (h : Below w3.heap.size w3 w') : (∀ b o, b < w3.heap.size → w'.cell? ⟨b, o, none⟩ = w3.cell? ⟨b, o, none⟩) ∧ Below w3.heap.size w3 w' := ⟨fun b o hb => h.cell (p := ⟨b, o, none⟩) hb, h⟩
theorem hk_call {w3 w' w'' : World} (h : (∀ b o, b < w3.heap.size → w'.cell? ⟨b, o, none⟩ = w3.cell? ⟨b, o, none⟩) ∧ Below w3.heap.size w3 w') (hb : Below w'.heap.size w' w'') : (∀ b o, b < w3.heap.size → w''.cell? ⟨b, o, none⟩ = w3.cell? ⟨b, o, none⟩) ∧ Below w3.heap.size w3 w'' :=
  hk_mk (h.2.trans (hb.mono h.2.size))
theorem hk_drew {w3 : World} : (∀ b o, b < w3.heap.size → w3.drew.cell? ⟨b, o, none⟩ = w3.cell? ⟨b, o, none⟩) ∧ Below w3.heap.size w3 w3.drew := hk_mk (below_drew (Below.refl _ _))
theorem hk_alloc {w3 w' : World} (h : (∀ b o, b < w3.heap.size → w'.cell? ⟨b, o, none⟩ = w3.cell? ⟨b, o, none⟩) ∧ Below w3.heap.size w3 w') (ob : Obj) : (∀ b o, b < w3.heap.size → (w'.alloc ob).cell? ⟨b, o, none⟩ = w3.cell? ⟨b, o, none⟩) ∧ Below w3.heap.size w3 (w'.alloc ob) :=
  hk_mk (h.2.alloc h.2.size _)
theorem hk_set {w3 w' : World} (h : (∀ b o, b < w3.heap.size → w'.cell? ⟨b, o, none⟩ = w3.cell? ⟨b, o, none⟩) ∧ Below w3.heap.size w3 w') {g k : Nat} (hg : w3.heap.size ≤ g) (u : Value) : (∀ b o, b < w3.heap.size → (w'.setCell ⟨g, k, none⟩ u).cell? ⟨b, o, none⟩ = w3.cell? ⟨b, o, none⟩) ∧ Below w3.heap.size w3 (w'.setCell ⟨g, k, none⟩ u) :=
  hk_mk (h.2.setCell (p := ⟨g, k, none⟩) hg u)
theorem hk_row {w3 w' : World} (h : (∀ b o, b < w3.heap.size → w'.cell? ⟨b, o, none⟩ = w3.cell? ⟨b, o, none⟩) ∧ Below w3.heap.size w3 w') {g : Nat} (hg : w3.heap.size ≤ g) (cs : Array Value) : (∀ b o, b < w3.heap.size → (w'.setRow g cs).cell? ⟨b, o, none⟩ = w3.cell? ⟨b, o, none⟩) ∧ Below w3.heap.size w3 (w'.setRow g cs) :=
  hk_mk (h.2.trans ⟨rfl, rfl, rfl, by simp, fun k hk => Go.setRow_other w' g k cs (by omega)⟩)
theorem hk_size {w3 w' : World} (h : (∀ b o, b < w3.heap.size → w'.cell? ⟨b, o, none⟩ = w3.cell? ⟨b, o, none⟩) ∧ Below w3.heap.size w3 w') : w3.heap.size ≤ w'.heap.size := h.2.size
theorem hk_block {w3 w' : World} (h : (∀ b o, b < w3.heap.size → w'.cell? ⟨b, o, none⟩ = w3.cell? ⟨b, o, none⟩) ∧ Below w3.heap.size w3 w') {g : Nat} {ob : Obj} (hg : w3.heap[g]? = some ob) : w'.heap[g]? = some ob := (h.2.block g (Array.getElem?_eq_some_iff.1 hg).1).trans hg
end Go.Proofs.YtghmcdfmbjabnaaGreatDoor
