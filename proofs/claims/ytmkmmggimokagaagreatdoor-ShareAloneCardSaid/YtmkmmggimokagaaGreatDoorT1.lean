/- Layer 15, plain: tables. Layer 15: rows in the middle of a block, boxes, contracts of jobs that stand in lists (printed by a program of my own). Layer 15: Check walked (printed by a program of my own). Layer 15: the reference's Check and At walked (printed by a program of my own). Layer 15: Few and Active walked (printed by a program of my own). Layer 15: Same and the reference's walked (printed by a program of my own). Layer 15: Ids and the reference's walked (printed by a program of my own). -/
import Derived.Test.YtmkmmggimokagaaGreatDoorQ4
import Derived.Test.YtmkmmggimokagaaGreatDoorQ5
import Derived.Test.YtmkmmggimokagaaGreatDoorQ8
import Derived.Test.YtmkmmggimokagaaGreatDoorQ9
import Derived.Test.YtmkmmggimokagaaGreatDoorQ1
import Derived.Deep.MidRow
import Derived.Laws.Rows
import Derived.Test.YtmkmmggimokagaaGreatDoorJbW1
import Derived.Test.YtmkmmggimokagaaGreatDoorQ3
namespace Go.Proofs.YtmkmmggimokagaaGreatDoor
set_option linter.unusedVariables false
open Go.RowKit
/-- a job and where its lists lie -/
structure JR where
  x : Jb
  A : Option Addr
  c : Nat
  A2 : Option Addr
  c2 : Nat
def jrC (r : JR) : List Value := jbC r.x r.A r.c r.A2 r.c2
def jrA (r : JR) : Array Value := jbA r.x r.A r.c r.A2 r.c2
def jrV (r : JR) : Value := jbV r.x r.A r.c r.A2 r.c2
theorem jrC_len (r : JR) : (jrC r).length = 20 := rfl
theorem jrC_one (r : JR) : ∀ v ∈ jrC r, v.oneCell' = true := by
  have h := jbA_one r.x r.A r.c r.A2 r.c2
  unfold jbA at h
  rw [List.all_toArray, List.all_eq_true] at h
  exact h
theorem jrC_info {r : JR} : (Tryz.prog.info? 29).map (·.size) = some (jrC r).length := by show _ = some 20; kernel_rfl
/-- a job's lists lie in a world, and it is small -/
def JrAt (w : World) (B : Nat) (r : JR) : Prop := JbAt w B r.x r.A r.c r.A2 r.c2 ∧ JbSz r.x
theorem JrAt.below {w w' : World} {B : Nat} {r : JR} (h : JrAt w B r) (hb : Below B w w') : JrAt w' B r := ⟨h.1.below hb, h.2⟩
theorem JrAt.more {w : World} {B B' : Nat} {r : JR} (h : JrAt w B r) (hB : B ≤ B') : JrAt w B' r := ⟨h.1.more hB, h.2⟩
theorem JrAt.up {w w' : World} {r : JR} (h : JrAt w w.heap.size r) (hb : Below w.heap.size w w') : JrAt w' w'.heap.size r := (h.below hb).more hb.size
/-- a list of jobs lies in a world -/
def TbAt (w : World) (B : Nat) (A : Option Addr) (n : Nat) (l : List JR) : Prop := Reads w B 20 A n (recs jrC l) ∧ (∀ r ∈ l, JrAt w B r) ∧ n ≤ 1000
section
variable {w w' : World} {B B' n k : Nat} {A : Option Addr} {l : List JR}
theorem TbAt.below (h : TbAt w B A n l) (hb : Below B w w') : TbAt w' B A n l := ⟨h.1.below hb, fun r hr => (h.2.1 r hr).below hb, h.2.2⟩
theorem TbAt.more (h : TbAt w B A n l) (hB : B ≤ B') : TbAt w B' A n l := ⟨h.1.more hB, fun r hr => (h.2.1 r hr).more hB, h.2.2⟩
theorem TbAt.up (h : TbAt w w.heap.size A n l) (hb : Below w.heap.size w w') : TbAt w' w'.heap.size A n l := (h.below hb).more hb.size
theorem TbAt.len (h : TbAt w B A n l) : l.length = n := (h.1.rec_len jrC_len (by omega)).out
theorem TbAt.none_ {c : Option Addr} : TbAt w B c 0 [] := ⟨⟨by simp [recs], fun h => absurd h (by omega)⟩, (fun r hr => absurd hr (by simp)), by omega⟩
theorem TbAt.elem (h : TbAt w B A n l) (hk : k < n) : ∃ b o r, A = some ⟨b, o, none⟩ ∧ b < B ∧ Hid (l[k]? = some r) ∧ Hid (w.rangeAt b (o + k * 20) (jrC r)) ∧ Hid (JrAt w B r) := by
  obtain ⟨b, o, r, e, hb, hx, hc⟩ := Reads.rec_at jrC_len (by omega) h.1 hk
  refine ⟨b, o, r, e, hb, hx, ?_, h.2.1 r (List.mem_of_getElem? hx)⟩
  intro j u hu
  have := hc j u hu
  rwa [← Nat.add_assoc] at this
theorem range_cell {b o j : Nat} {cs : List Value} {u : Value} (h : w.rangeAt b o cs) (hj : cs[j]? = some u) : w.cell? ⟨b, o + j, none⟩ = some u := h j u hj
end
/-- the jobs alone -/
def jobs (l : List JR) : List Jb := l.map (·.x)
theorem jobs_len (l : List JR) : (jobs l).length = l.length := by simp [jobs]
theorem jobs_at {l : List JR} {k : Nat} {r : JR} (h : l[k]? = some r) : (jobs l)[k]? = some r.x := by simp [jobs, h]
theorem jobs_append (a b : List JR) : jobs (a ++ b) = jobs a ++ jobs b := by simp [jobs]
/-- who is over, of those that may be -/
def overS (x : Jb) : Bool := decide (3 ≤ x.state)
/-- those that may be, with ids that go up -/
def ascF : Int → List Jb → Bool
  | _, [] => true
  | n, x :: t => okJ x && (decide (n < x.id) && ascF x.id t)
def tabB (l : List Jb) : Bool := decide (l.length ≤ 40) && ascF 0 l
def tabE (l : List Jb) : Int := if tabB l = true then 0 else 140
theorem tabE_t {l : List Jb} (h : tabB l = true) : tabE l = 0 := by unfold tabE; rw [if_pos h]
theorem tabE_f {l : List Jb} (h : tabB l = false) : tabE l = 140 := by unfold tabE; rw [if_neg (by rw [h]; decide)]
theorem tabE_zero (l : List Jb) : (tabE l == 0) = tabB l := by unfold tabE; cases tabB l <;> rfl
theorem ascF_iff {l : List Jb} : ∀ {n : Int}, ascF n l = true ↔ (∀ x ∈ l, okJ x = true ∧ n < x.id) ∧ l.Pairwise (fun a b => a.id < b.id) := by
  induction l with
  | nil => intro n; simp [ascF]
  | cons x t ih =>
    intro n
    unfold ascF
    simp only [Bool.and_eq_true, decide_eq_true_eq, ih, List.pairwise_cons, List.mem_cons, forall_eq_or_imp]
    constructor
    · rintro ⟨h1, h2, h3, h4⟩
      exact ⟨⟨⟨h1, h2⟩, fun y hy => ⟨(h3 y hy).1, by have := (h3 y hy).2; omega⟩⟩, fun y hy => (h3 y hy).2, h4⟩
    · rintro ⟨⟨⟨h1, h2⟩, h3⟩, h4, h5⟩
      exact ⟨h1, h2, fun y hy => ⟨(h3 y hy).1, h4 y hy⟩, h5⟩
theorem tab_iff {l : List Jb} : tabB l = true ↔ l.length ≤ 40 ∧ (∀ x ∈ l, okJ x = true ∧ 0 < x.id) ∧ l.Pairwise (fun a b => a.id < b.id) := by
  unfold tabB
  rw [Bool.and_eq_true, decide_eq_true_eq, ascF_iff]
theorem asc_lt {l : List Jb} {i j : Nat} {x y : Jb} (h : l.Pairwise (fun a b => a.id < b.id)) (hi : l[i]? = some x) (hj : l[j]? = some y) (hij : i < j) : x.id < y.id := by
  obtain ⟨h1, rfl⟩ := List.getElem?_eq_some_iff.1 hi
  obtain ⟨h2, rfl⟩ := List.getElem?_eq_some_iff.1 hj
  exact List.pairwise_iff_getElem.1 h i j h1 h2 hij
theorem asc_uniq {l : List Jb} {i j : Nat} {x y : Jb} (h : l.Pairwise (fun a b => a.id < b.id)) (hi : l[i]? = some x) (hj : l[j]? = some y) (e : x.id = y.id) : i = j := by
  rcases Nat.lt_trichotomy i j with h1 | h1 | h1
  · have := asc_lt h hi hj h1; omega
  · exact h1
  · have := asc_lt h hj hi h1; omega
theorem okJ_id {x : Jb} (h : okJ x = true) : 1 ≤ x.id ∧ x.id ≤ 99999 := by
  unfold okJ inB at h
  simp only [Bool.and_eq_true, decide_eq_true_eq] at h
  exact h.1
theorem okJ_state {x : Jb} (h : okJ x = true) : 1 ≤ x.state ∧ x.state ≤ 7 := by
  unfold okJ stateB endedB inB at h
  by_cases h1 : x.state = 1
  · omega
  by_cases h2 : x.state = 2
  · omega
  rw [if_neg h1, if_neg h2] at h
  simp only [Bool.and_eq_true, decide_eq_true_eq] at h
  omega
theorem ended_over {x : Jb} (h : okJ x = true) : endedB x.state = overS x := by
  have := okJ_state h
  unfold endedB inB overS
  rw [Bool.eq_iff_iff]
  simp only [Bool.and_eq_true, decide_eq_true_eq]
  omega
/-- the place of the first of some -/
def idxG {α : Type} (p : α → Bool) (l : List α) : Int := match l.findIdx? p with | some i => (i : Int) | none => -1
theorem idxG_hit {α : Type} {p : α → Bool} {l : List α} {k : Nat} {x : α} (hx : l[k]? = some x) (hp : p x = true) (hn : ∀ j y, j < k → l[j]? = some y → p y = false) : idxG p l = (k : Int) := by
  have h : l.findIdx? p = some k := by
    rw [List.findIdx?_eq_some_iff_getElem]
    obtain ⟨hk, e⟩ := List.getElem?_eq_some_iff.1 hx
    refine ⟨hk, by rw [e]; exact hp, fun j hj => ?_⟩
    rw [hn j _ hj (List.getElem?_eq_getElem (by omega))]
    decide
  unfold idxG; rw [h]
theorem idxG_miss {α : Type} {p : α → Bool} {l : List α} (hn : ∀ j y, j < l.length → l[j]? = some y → p y = false) : idxG p l = -1 := by
  have h : l.findIdx? p = none := by
    rw [List.findIdx?_eq_none_iff]
    intro y hy
    obtain ⟨i, hi, rfl⟩ := List.mem_iff_getElem.1 hy
    exact hn i _ hi (List.getElem?_eq_getElem hi)
  unfold idxG; rw [h]
theorem idxG_cases {α : Type} (p : α → Bool) (l : List α) : (idxG p l = -1 ∧ ∀ y ∈ l, p y = false) ∨ ∃ k x, idxG p l = ((k : Nat) : Int) ∧ l[k]? = some x ∧ p x = true ∧ k < l.length := by
  unfold idxG
  cases h : l.findIdx? p with
  | none => exact .inl ⟨rfl, List.findIdx?_eq_none_iff.1 h⟩
  | some k =>
    obtain ⟨hk, e, _⟩ := List.findIdx?_eq_some_iff_getElem.1 h
    exact .inr ⟨k, l[k], rfl, List.getElem?_eq_getElem hk, e, hk⟩
theorem idxG_any {α : Type} (p : α → Bool) (l : List α) : decide (0 ≤ idxG p l) = l.any p := by
  rcases idxG_cases p l with ⟨h1, h2⟩ | ⟨k, x, h1, h2, h3, _⟩
  · rw [h1, List.any_eq_false.2 (fun y hy => by rw [h2 y hy]; decide)]; decide
  · rw [h1, List.any_eq_true.2 ⟨x, List.mem_of_getElem? h2, h3⟩]; simp
/-- the place of an id -/
def posQ (id : Int) (x : Jb) : Bool := x.id == id
def posP (l : List Jb) (id : Int) : Int := idxG (posQ id) l
def findP (l : List Jb) (id : Int) : Jb × Bool := if tabB l = true ∧ 0 ≤ posP l id then (l.getD (posP l id).toNat noJ, true) else (noJ, false)
def putP (l : List Jb) (x : Jb) : List Jb × Int := if tabB l = true ∧ okJ x = true ∧ 0 ≤ posP l x.id then (l.set (posP l x.id).toNat x, 0) else ([], 140)
def waitQ (id : Int) (x : Jb) : Bool := !overS x && x.after.any (fun d => d.2 == id)
def waitP (l : List Jb) (id : Int) : Bool := l.any (waitQ id)
def activeQ (user : ByteArray) (x : Jb) : Bool := (x.user.toList == user.toList) && !overS x
def activeC (l : List Jb) (user : ByteArray) : Nat := l.countP (activeQ user)
def activeP (l : List Jb) (user : ByteArray) : Int := if tabB l = true then (activeC l user : Int) else 0
def goneQ (l : List Jb) (y : Jb) : Bool := overS y && !waitP l y.id
def addP (l : List Jb) (x : Jb) : List Jb × Int :=
  if tabB l = true ∧ okJ x = true ∧ l.any (fun y => decide (x.id ≤ y.id)) = false then
    if overS x = false ∧ 8 ≤ activeP l x.user then ([], 151)
    else if l.length < 40 then (l ++ [x], 0)
    else if 0 ≤ idxG (goneQ (l ++ [x])) l then ((l ++ [x]).eraseIdx (idxG (goneQ (l ++ [x])) l).toNat, 0) else ([], 150)
  else ([], 140)
def idsC (l : List Jb) (s : Int) : List Int := (l.filter (fun x => x.state == s)).map (·.id)
def idsP (l : List Jb) (s : Int) : List Int := if tabB l = true then idsC l s else []
def sameLL : List Jb → List Jb → Bool
  | [], [] => true
  | x :: a, y :: b => sameJ x y && sameLL a b
  | _, _ => false
theorem sameLL_len : ∀ {a b : List Jb}, a.length ≠ b.length → sameLL a b = false
  | [], [], h => absurd rfl h
  | [], _ :: _, _ => rfl
  | _ :: _, [], _ => rfl
  | x :: a, y :: b, h => by
    unfold sameLL
    rw [sameLL_len (a := a) (b := b) (by simpa using h), Bool.and_false]
theorem sameLL_drop {a b : List Jb} {k : Nat} {x y : Jb} (hx : a[k]? = some x) (hy : b[k]? = some y) : sameLL (a.drop k) (b.drop k) = (sameJ x y && sameLL (a.drop (k + 1)) (b.drop (k + 1))) := by
  obtain ⟨h1, rfl⟩ := List.getElem?_eq_some_iff.1 hx
  obtain ⟨h2, rfl⟩ := List.getElem?_eq_some_iff.1 hy
  rw [List.drop_eq_getElem_cons h1, List.drop_eq_getElem_cons h2]
  rfl
/-- the last id ahead of a place -/
def lastI (l : List Jb) : Nat → Int
  | 0 => 0
  | k + 1 => match l[k]? with | some x => x.id | none => 0
theorem ascF_drop {l : List Jb} {k : Nat} {x : Jb} (hx : l[k]? = some x) (n : Int) : ascF n (l.drop k) = (okJ x && (decide (n < x.id) && ascF x.id (l.drop (k + 1)))) := by
  obtain ⟨h1, rfl⟩ := List.getElem?_eq_some_iff.1 hx
  rw [List.drop_eq_getElem_cons h1]
  rfl
theorem lastI_succ {l : List Jb} {k : Nat} {x : Jb} (hx : l[k]? = some x) : lastI l (k + 1) = x.id := by simp only [lastI, hx]
theorem countP_take {α : Type} {p : α → Bool} {l : List α} {k : Nat} {x : α} (hx : l[k]? = some x) : (l.take (k + 1)).countP p = (l.take k).countP p + if p x = true then 1 else 0 := by
  rw [List.take_add_one, hx, List.countP_append]
  simp [List.countP_singleton]
theorem idsC_take {l : List Jb} {k : Nat} {x : Jb} {s : Int} (hx : l[k]? = some x) : idsC (l.take (k + 1)) s = idsC (l.take k) s ++ if (x.state == s) = true then [x.id] else [] := by
  unfold idsC
  rw [List.take_add_one, hx, List.filter_append, List.map_append]
  congr 1
  cases h : x.state == s <;> simp [h]
theorem range_lower {w w' : World} {B b o : Nat} {cs : List Value} (h : w.rangeAt b o cs) (hb : b < B) (hw : Below B w w') : w'.rangeAt b o cs := fun j u hu => (hw.cell (p := ⟨b, o + j, none⟩) hb).trans (h j u hu)
theorem wpList_load_mid_h {P : Program} {ops : Array Oper} {rest : List Oper} {op : Oper} {a : Act} {w : World} {Q : Exit → Act → World → Prop} (hgd : Region.wanted op (yielded ops a.tmps) = true) (ty : TypeId) (x : Operand) (ho : op.op = .load ty x)
    (b o : Nat) (hx : a.eval x = .pointer (some ⟨b, o, none⟩)) (cs : List Value) (d : TypeDesc) (hc : w.rangeAt b o cs)
    (hu : P.underlying ty = some d) (hd : d.isRow = true) (hi : (P.info? ty).map (·.size) = some cs.length)
    (h : wpList P ops Q rest (a.put op.dst (.agg cs.toArray)) w) : wpList P ops Q (op :: rest) a w :=
  wpList_step fun _ hK => by rw [if_pos hgd]; exact wp_load_mid ty x ho b o hx cs d hc hu hd hi (hK _ _ h)
theorem quiet_load_mid {P : Program} {C : World → Prop} {op : Oper} {a : Act} {K : Act → Prop} (ty : TypeId) (x : Operand) (ho : op.op = .load ty x) (b o : Nat) (hx : a.eval x = .pointer (some ⟨b, o, none⟩)) (cs : List Value) (d : TypeDesc)
    (hc : ∀ w, C w → w.rangeAt b o cs) (hu : P.underlying ty = some d) (hd : d.isRow = true) (hi : (P.info? ty).map (·.size) = some cs.length)
    (h : K (a.put op.dst (.agg cs.toArray))) : op.quiet P a C K := by
  refine ⟨.agg cs.toArray, fun w hw => ?_, h⟩
  unfold Oper.quietAt execOp
  simp only [ho, hx, Instr.loadAt, Instr.sureAddr, Sem.run_bind, Sem.run_pure, Result.andThen_ok, run_loadVar_mid w b o ty cs d (hc w hw) hu hd hi]
  exact ⟨rfl, rfl⟩
theorem range_later {w w' : World} {b o : Nat} {cs : List Value} (h : w.rangeAt b o cs) (hb : Below w.heap.size w w') : w'.rangeAt b o cs := by
  intro j v hv
  have h1 := h j v hv
  exact (hb.cell (p := ⟨b, o + j, none⟩) (World.block_lt_of_cell? w _ h1)).trans h1
theorem later_range {w : World} {b o : Nat} {cs : List Value} (h : w.rangeAt b o cs) : ∀ w', (∃ x : Later w, w' = x.val) → w'.rangeAt b o cs := by
  rintro _ ⟨x, rfl⟩
  exact range_later h x.below
theorem jrA_info (r : JR) : (Tryz.prog.info? 29).map (·.size) = some (jrC r).toArray.size := by show _ = some 20; kernel_rfl
theorem jrA_20 (r : JR) : 20 = (jrC r).toArray.size := rfl
theorem jrA_all (r : JR) : (jrC r).toArray.all (·.oneCell') = true := jbA_one _ _ _ _ _
theorem boxed (wr : World) (cs : Array Value) : ∃ W : World, (∀ z, (wr.alloc (.cells z 29)).setRow wr.heap.size cs = W) ∧ W.heap[wr.heap.size]? = some (.cells cs 29 (0, 0)) ∧ Below wr.heap.size wr W ∧ wr.heap.size < W.heap.size :=
  ⟨_, fun z => World.setRow_alloc_new wr z cs 29, heap_alloc_new wr _, bx0, by simp⟩
theorem jcheck_r {r : JR} {B : Nat} {w : World} (h : JrAt w B r) (hB : B ≤ w.heap.size) : Calls Tryz.prog 18 #[.agg (jrC r).toArray] w fun e w' => e = .returned (.int .i64 (jobE r.x)) ∧ Below w.heap.size w w' :=
  jcheck_any r.x r.A r.A2 r.c r.c2 B w h.1 hB h.2
theorem few_r (r : JR) (w : World) : Calls Tryz.prog 6 #[.agg (jrC r).toArray] w fun e w' => e = .returned (.bool (fewJ r.x)) ∧ Below w.heap.size w w' :=
  few14_any r.x r.A r.A2 r.c r.c2 w
theorem jobE_ne {x : Jb} {z : Bool} (h : okJ x = z) : (jobE x != 0) = !z := by unfold jobE; rw [h]; cases z <;> rfl
theorem at_arr {cs : List Value} {j : Nat} {v : Value} (h : cs[j]? = some v) : cs.toArray[j]? = some v := by simpa using h
theorem box_cell {W w1 : World} {g j : Nat} {cs : List Value} {v : Value} (h : W.heap[g]? = some (.cells cs.toArray 29 (0, 0))) (hb : Below W.heap.size W w1) (hg : g < W.heap.size) (hj : cs[j]? = some v) : w1.cell? ⟨g, j, none⟩ = some v :=
  (hb.cell (p := ⟨g, j, none⟩) hg).trans ((cell_of_row W g j _ _ _ h).trans (at_arr hj))
set_option linter.unusedSimpArgs false in
set_option maxHeartbeats 4000000 in
set_option maxRecDepth 100000 in
theorem tcheck_any (l : List JR) (A : Option Addr) (n c B : Nat) (w : World) (ht : TbAt w B A n l) (hB : B ≤ w.heap.size) :
    Calls Tryz.prog 10 #[.slice A n c] w fun e w' => e = .returned (.int .i64 (tabE (jobs l))) ∧ Below w.heap.size w w' := by
  have hlj : Hid ((jobs l).length = n) := (jobs_len l).trans ht.len
  by_cases hm : n ≤ 40
  case neg =>
    have t2 : decide ((40 : Int) < (n : Int)) = true := by simp; omega
    have t2' : decide (40 < n) = true := by simp; omega
    have HR : Hid (tabE (jobs l) = 140) := by show _ = _; refine tabE_f ?_; unfold tabB; rw [hlj.out, decide_eq_false hm]; rfl
    clear hm ht
    go_enter Tryz.func10, Tryz.ntmps10
    go_wp2
    go_ret
    exact ⟨by rw [HR.out] <;> rfl, Below.refl _ _⟩
  have t2 : decide ((40 : Int) < (n : Int)) = false := by simp; omega
  have t2' : decide (40 < n) = false := by simp; omega
  have HA : Hid (tabB (jobs l) = ascF 0 (jobs l)) := by show _ = _; unfold tabB; rw [hlj.out, decide_eq_true hm, Bool.true_and]
  have HT := Lib.hid ht
  have HBW := Lib.hid hB
  have hn1 : n ≤ 1000 := ht.2.2
  clear ht hB hm
  go_enter Tryz.func10, Tryz.ntmps10
  go_wp2
  go_loopw [3, 4, 10] (fun _ _ i wr => ∃ k : Nat, k ≤ n ∧ i = .int .i64 k ∧ Hid (Below w.heap.size w wr) ∧ Hid (ascF 0 (jobs l) = ascF (lastI (jobs l) k) ((jobs l).drop k))) (fun _ _ i _ => n - (intOf i).toNat)
  case atStart => exact ⟨0, Nat.zero_le _, rfl, Below.refl _ _, rfl⟩
  case round =>
    obtain ⟨k, hk, rfl, hbw, HG⟩ := hrel
    by_cases hlt : k < n
    · have HPV : Hid (∀ p, k = p + 1 → ∃ b o lid, A = some ⟨b, o, none⟩ ∧ lastI (jobs l) k = lid ∧ b < B ∧ wr.cell? ⟨b, o + p * 20, none⟩ = some (.int .i64 lid)) := by
        intro p hp
        obtain ⟨b, o, r, e, hbb, hx, KR, JR⟩ := (HT.out.below (hbw.out.mono HBW.out)).elem (k := p) (by omega)
        exact ⟨b, o, r.x.id, e, by rw [hp]; exact lastI_succ (jobs_at hx.out), hbb, range_cell (j := 0) KR.out rfl⟩
      obtain ⟨b, o, r, rfl, hbb, hx, KR, JR⟩ := (HT.out.below (hbw.out.mono HBW.out)).elem hlt
      have hi0 : (0 : Int) ≤ (k : Int) := by omega
      have hi1 : (k : Int) < (n : Int) := by omega
      have t0 : decide ((k : Int) < (n : Int)) = true := by simp; omega
      have BW := Nat.le_trans HBW.out hbw.out.size
      have hbl : b < wr.heap.size := Nat.lt_of_lt_of_le hbb BW
      have CSZ := Lib.hid (jrC_info (r := r))
      have CSA := Lib.hid (jrA_info r)
      have C1 := Lib.hid (jrA_all r)
      have CS2 := Lib.hid (jrA_20 r)
      have q1 := Lib.hid (fun v (hv : Below wr.heap.size wr v) => jcheck_r (JR.out.below (hv.mono BW)) (Nat.le_trans BW hv.size))
      have e0 : (jrC r)[0]? = some (.int .i64 r.x.id) := rfl
      have HDR := Lib.hid (ascF_drop (jobs_at hx.out) (lastI (jobs l) k))
      have HOI := Lib.hid (fun h : okJ r.x = true => okJ_id h)
      obtain ⟨id, hid⟩ : ∃ id, r.x.id = id := ⟨_, rfl⟩
      have HLS : Hid (lastI (jobs l) (k + 1) = id) := (lastI_succ (jobs_at hx.out)).trans hid
      rw [hid] at e0 HDR HOI
      obtain ⟨cs, hcs⟩ : ∃ cs, Hid (jrC r = cs) := ⟨_, rfl⟩
      rw [hcs.out] at KR CSZ CSA C1 CS2 q1 e0
      obtain ⟨W1, hs1, j1, b1, z1w⟩ := boxed wr cs.toArray
      have hstore := Lib.hid hs1
      have J1 := Lib.hid j1
      have B1 := Lib.hid b1
      clear hs1 j1 b1
      obtain ⟨zk, hzk⟩ : ∃ z, okJ r.x = z := ⟨_, rfl⟩
      obtain ⟨E, hE⟩ : ∃ E, Hid (jobE r.x = E) := ⟨_, rfl⟩
      have t1 : (E != 0) = !zk := by rw [← hE.out]; exact jobE_ne hzk
      rw [hE.out] at q1
      rw [hzk] at HDR HOI
      clear hzk hE hx hid JR hcs
      have u0 : W1.cell? ⟨wr.heap.size, 0, none⟩ = some (.int .i64 id) := box_cell J1.out (Below.refl _ _) z1w e0
      have hbW : b < W1.heap.size := by omega
      cases zk
      case false =>
        have HR : Hid (tabE (jobs l) = 140) := by show _ = _; refine tabE_f ?_; rw [HA.out, HG.out, HDR.out]; rfl
        clear HDR HLS HPV HOI
        go_wp2_with (first | (refine wpList_load_mid rfl 29 _ rfl b (o + k * 20) rfl cs _ KR.out Tryz.underlying29 rfl CSZ.out ?_) | (refine wpList_store_row rfl 29 _ _ rfl (wr.heap.size) cs.toArray rfl rfl 29 _ (heap_alloc_new wr _) CSA.out (by show 20 = _; exact CS2.out) C1.out ?_; rw [hstore.out]))
        refine wp_region_later (by kernel_rfl) (by kernel_rfl) ?_
        have hl_ := later_cell (W1)
        try simp only [Act.put]
        repeat (first | (go_big_quiet_want; refine quiet_load_row 29 _ rfl (wr.heap.size) rfl 29 _ (0, 0) _ (later_row J1.out) Tryz.underlying29 rfl (CSA.out) ?_; go_simp; go_big_quiet_on) | go_big_quiet_step (((go_at_call 18; exact later_of (q1.out _ (bt B1.out (Later.below _)))))) | quiet_step (((go_at_call 18; exact later_of (q1.out _ (bt B1.out (Later.below _)))))))
        refine wpQuiet_nil ?_
        intro w9 hx_
        obtain ⟨⟨w_, hb9⟩, e_⟩ := hx_
        have e2_ : w9 = w_ := e_
        clear e_
        subst e2_
        clear hl_
        go_wp2
        go_ret
        exact ⟨by rw [HR.out] <;> rfl, bt hbw.out (bt B1.out hb9)⟩
      have hid2 := HOI.out rfl
      rcases Nat.eq_zero_or_pos k with h0 | h0
      · have HG2 : Hid (ascF 0 (jobs l) = ascF (lastI (jobs l) (k + 1)) ((jobs l).drop (k + 1))) := by
          show _ = _
          have e : decide (lastI (jobs l) k < id) = true := by rw [h0]; exact decide_eq_true (by show (0 : Int) < id; omega)
          rw [HG.out, HDR.out, HLS.out, e, Bool.true_and, Bool.true_and]
        have t3 : decide ((0 : Int) < (k : Int)) = false := by simp; omega
        have t3' : decide (0 < k) = false := by simp; omega
        clear HDR HLS HPV HOI hid2 h0
        go_wp2_with (first | (refine wpList_load_mid rfl 29 _ rfl b (o + k * 20) rfl cs _ KR.out Tryz.underlying29 rfl CSZ.out ?_) | (refine wpList_store_row rfl 29 _ _ rfl (wr.heap.size) cs.toArray rfl rfl 29 _ (heap_alloc_new wr _) CSA.out (by show 20 = _; exact CS2.out) C1.out ?_; rw [hstore.out]))
        refine wp_region_later (by kernel_rfl) (by kernel_rfl) ?_
        have hl_ := later_cell (W1)
        try simp only [Act.put]
        repeat (first | (go_big_quiet_want; refine quiet_load_row 29 _ rfl (wr.heap.size) rfl 29 _ (0, 0) _ (later_row J1.out) Tryz.underlying29 rfl (CSA.out) ?_; go_simp; go_big_quiet_on) | go_big_quiet_step (((go_at_call 18; exact later_of (q1.out _ (bt B1.out (Later.below _)))))) | quiet_step (((go_at_call 18; exact later_of (q1.out _ (bt B1.out (Later.below _)))))))
        refine wpQuiet_nil ?_
        intro w9 hx_
        obtain ⟨⟨w_, hb9⟩, e_⟩ := hx_
        have e2_ : w9 = w_ := e_
        clear e_
        subst e2_
        clear hl_
        go_wp2
        go_roundw
        case rel => exact ⟨k + 1, by omega, by simp, bt hbw.out (bt B1.out hb9), HG2⟩
        case measure => simp [intOf]; omega
      · obtain ⟨p, HP⟩ : ∃ p, Hid (k = p + 1) := ⟨k - 1, by show k = _; omega⟩
        obtain ⟨b2, o2, lid, eA, eL, hb2, kp⟩ := HPV.out p HP.out
        simp only [Option.some.injEq, Addr.mk.injEq, and_true] at eA
        obtain ⟨rfl, rfl⟩ := eA
        have t3 : decide ((0 : Int) < (k : Int)) = true := by simp; omega
        have t3' : decide (0 < k) = true := by simp; omega
        have hsub : (k : Int) - 1 = (p : Int) := by have := HP.out; omega
        have hp0 : (0 : Int) ≤ (p : Int) := by omega
        have hp1 : (p : Int) < (n : Int) := by have := HP.out; omega
        have u1 : W1.cell? ⟨b, o + p * 20, none⟩ = some (.int .i64 lid) := (B1.out.cell (p := ⟨b, o + p * 20, none⟩) hbl).trans kp
        have EL := Lib.hid eL
        clear kp eL HPV HOI hid2 h0
        cases zl : decide (lid < id)
        case false =>
          have t4 : decide (id ≤ lid) = true := by simp at zl ⊢; omega
          have HR : Hid (tabE (jobs l) = 140) := by
            show _ = _
            refine tabE_f ?_
            rw [HA.out, HG.out, HDR.out, EL.out, zl]; rfl
          clear HDR HLS EL zl
          go_wp2_with (first | (refine wpList_load_mid rfl 29 _ rfl b (o + k * 20) rfl cs _ KR.out Tryz.underlying29 rfl CSZ.out ?_) | (refine wpList_store_row rfl 29 _ _ rfl (wr.heap.size) cs.toArray rfl rfl 29 _ (heap_alloc_new wr _) CSA.out (by show 20 = _; exact CS2.out) C1.out ?_; rw [hstore.out]))
          refine wp_region_later (by kernel_rfl) (by kernel_rfl) ?_
          have hl_ := later_cell (W1)
          try simp only [Act.put]
          repeat (first | (go_big_quiet_want; refine quiet_load_row 29 _ rfl (wr.heap.size) rfl 29 _ (0, 0) _ (later_row J1.out) Tryz.underlying29 rfl (CSA.out) ?_; go_simp; go_big_quiet_on) | go_big_quiet_step (((go_at_call 18; exact later_of (q1.out _ (bt B1.out (Later.below _)))))) | quiet_step (((go_at_call 18; exact later_of (q1.out _ (bt B1.out (Later.below _)))))))
          refine wpQuiet_nil ?_
          intro w9 hx_
          obtain ⟨⟨w_, hb9⟩, e_⟩ := hx_
          have e2_ : w9 = w_ := e_
          clear e_
          subst e2_
          clear hl_
          go_wp2
          go_ret
          exact ⟨by rw [HR.out] <;> rfl, bt hbw.out (bt B1.out hb9)⟩
        have t4 : decide (id ≤ lid) = false := by simp at zl ⊢; omega
        have HG2 : Hid (ascF 0 (jobs l) = ascF (lastI (jobs l) (k + 1)) ((jobs l).drop (k + 1))) := by
          show _ = _
          rw [HG.out, HDR.out, HLS.out, EL.out, zl, Bool.true_and, Bool.true_and]
        clear HDR HLS EL zl
        go_wp2_with (first | (refine wpList_load_mid rfl 29 _ rfl b (o + k * 20) rfl cs _ KR.out Tryz.underlying29 rfl CSZ.out ?_) | (refine wpList_store_row rfl 29 _ _ rfl (wr.heap.size) cs.toArray rfl rfl 29 _ (heap_alloc_new wr _) CSA.out (by show 20 = _; exact CS2.out) C1.out ?_; rw [hstore.out]))
        refine wp_region_later (by kernel_rfl) (by kernel_rfl) ?_
        have hl_ := later_cell (W1)
        try simp only [Act.put]
        repeat (first | (go_big_quiet_want; refine quiet_load_row 29 _ rfl (wr.heap.size) rfl 29 _ (0, 0) _ (later_row J1.out) Tryz.underlying29 rfl (CSA.out) ?_; go_simp; go_big_quiet_on) | go_big_quiet_step (((go_at_call 18; exact later_of (q1.out _ (bt B1.out (Later.below _)))))) | quiet_step (((go_at_call 18; exact later_of (q1.out _ (bt B1.out (Later.below _)))))))
        refine wpQuiet_nil ?_
        intro w9 hx_
        obtain ⟨⟨w_, hb9⟩, e_⟩ := hx_
        have e2_ : w9 = w_ := e_
        clear e_
        subst e2_
        clear hl_
        go_wp2
        go_roundw
        case rel => exact ⟨k + 1, by omega, by simp, bt hbw.out (bt B1.out hb9), HG2⟩
        case measure => simp [intOf]; omega
    · obtain rfl : k = n := by omega
      have t0 : decide ((k : Int) < (k : Int)) = false := by simp
      have HR : Hid (tabE (jobs l) = 0) := by
        show _ = _
        refine tabE_t ?_
        rw [HA.out, HG.out, List.drop_of_length_le (Nat.le_of_eq hlj.out)]
        rfl
      go_wp2
      go_ret
      exact ⟨by rw [HR.out] <;> rfl, hbw.out⟩
def fewT15 (l : List Jb) : Bool := decide (l.length ≤ 60) && l.all fewJ
set_option linter.unusedSimpArgs false in
set_option maxHeartbeats 4000000 in
set_option maxRecDepth 100000 in
theorem few15_any (l : List JR) (A : Option Addr) (n c B : Nat) (w : World) (hr : Reads w B 20 A n (recs jrC l)) (hB : B ≤ w.heap.size) :
    Calls Tryz.prog 17 #[.slice A n c] w fun e w' => e = .returned (.bool (fewT15 (jobs l))) ∧ Below w.heap.size w w' := by
  have hlj : Hid ((jobs l).length = n) := (jobs_len l).trans (hr.rec_len jrC_len (by omega)).out
  by_cases hm : n ≤ 60
  case neg =>
    have t2 : decide ((60 : Int) < (n : Int)) = true := by simp; omega
    have t2' : decide (60 < n) = true := by simp; omega
    have HR : Hid (fewT15 (jobs l) = false) := by show _ = _; unfold fewT15; rw [hlj.out, decide_eq_false hm]; rfl
    clear hm hr
    go_enter Tryz.func17, Tryz.ntmps17
    go_wp2
    go_ret
    exact ⟨by rw [HR.out] <;> rfl, Below.refl _ _⟩
  have t2 : decide ((60 : Int) < (n : Int)) = false := by simp; omega
  have t2' : decide (60 < n) = false := by simp; omega
  have HA : Hid (fewT15 (jobs l) = (jobs l).all fewJ) := by show _ = _; unfold fewT15; rw [hlj.out, decide_eq_true hm]; rfl
  have HRd := Lib.hid hr
  have HBW := Lib.hid hB
  have hn1 : n ≤ 1000 := by omega
  clear hr hB hm
  go_enter Tryz.func17, Tryz.ntmps17
  go_wp2
  go_loopw [3] (fun i wr => ∃ k : Nat, k ≤ n ∧ i = .int .i64 k ∧ Hid (Below w.heap.size w wr) ∧ Hid ((jobs l).all fewJ = ((jobs l).drop k).all fewJ)) (fun i _ => n - (intOf i).toNat)
  case atStart => exact ⟨0, Nat.zero_le _, rfl, Below.refl _ _, rfl⟩
  case round =>
    obtain ⟨k, hk, rfl, hbw, HG⟩ := hrel
    by_cases hlt : k < n
    · obtain ⟨b, o, r, rfl, hbb, hx, hc⟩ := Reads.rec_at jrC_len (by omega) (HRd.out.below (hbw.out.mono HBW.out)) hlt
      have KR : Hid (wr.rangeAt b (o + k * 20) (jrC r)) := fun j u hu => by have := hc j u hu; rwa [← Nat.add_assoc] at this
      clear hc
      have hi0 : (0 : Int) ≤ (k : Int) := by omega
      have hi1 : (k : Int) < (n : Int) := by omega
      have t0 : decide ((k : Int) < (n : Int)) = true := by simp; omega
      have CSZ := Lib.hid (jrC_info (r := r))
      have q1 := Lib.hid (fun v => few_r r v)
      have HDR : Hid (((jobs l).drop k).all fewJ = (fewJ r.x && ((jobs l).drop (k + 1)).all fewJ)) := by
        show _ = _
        obtain ⟨h1, h2⟩ := List.getElem?_eq_some_iff.1 (jobs_at hx.out)
        rw [List.drop_eq_getElem_cons h1, List.all_cons, h2]
      obtain ⟨cs, hcs⟩ : ∃ cs, Hid (jrC r = cs) := ⟨_, rfl⟩
      rw [hcs.out] at KR CSZ q1
      clear hcs hx
      cases z1 : fewJ r.x
      case false =>
        rw [z1] at q1 HDR
        have HR : Hid (fewT15 (jobs l) = false) := by show _ = _; rw [HA.out, HG.out, HDR.out]; rfl
        clear HDR z1
        go_wp2_with (first | (refine wpList_load_mid rfl 29 _ rfl b (o + k * 20) rfl cs _ KR.out Tryz.underlying29 rfl CSZ.out ?_) | (go_at_call 6; refine (q1.out _).mono ?_; rintro e w1 ⟨rfl, hw1⟩))
        go_ret
        exact ⟨by rw [HR.out] <;> rfl, bt hbw.out hw1⟩
      rw [z1] at q1 HDR
      have HG2 : Hid ((jobs l).all fewJ = ((jobs l).drop (k + 1)).all fewJ) := by show _ = _; rw [HG.out, HDR.out, Bool.true_and]
      clear HDR z1
      go_wp2_with (first | (refine wpList_load_mid rfl 29 _ rfl b (o + k * 20) rfl cs _ KR.out Tryz.underlying29 rfl CSZ.out ?_) | (go_at_call 6; refine (q1.out _).mono ?_; rintro e w1 ⟨rfl, hw1⟩))
      go_roundw
      case rel => exact ⟨k + 1, by omega, by simp, bt hbw.out hw1, HG2⟩
      case measure => simp [intOf]; omega
    · obtain rfl : k = n := by omega
      have t0 : decide ((k : Int) < (k : Int)) = false := by simp
      have HR : Hid (fewT15 (jobs l) = true) := by
        show _ = _
        rw [HA.out, HG.out, List.drop_of_length_le (Nat.le_of_eq hlj.out)]
        rfl
      go_wp2
      go_ret
      exact ⟨by rw [HR.out] <;> rfl, hbw.out⟩
theorem sameLL_refl : ∀ l : List Jb, sameLL l l = true
  | [] => rfl
  | x :: t => by unfold sameLL; rw [sameJ_refl, sameLL_refl t]; rfl
/-- a call hands back a list of numbers in new memory -/
def RetIs (w : World) (l : List Int) (e : Ending) (w' : World) : Prop := ∃ v, e = .returned v ∧ Owns w' w.heap.size 3 1 v l.length (ints l) ∧ Below w.heap.size w w'
theorem idsC_len (l : List Jb) (s : Int) : (idsC l s).length ≤ l.length := by unfold idsC; rw [List.length_map]; exact List.length_filter_le _ _
end Go.Proofs.YtmkmmggimokagaaGreatDoor
