/- Layer 14: a view made of a job's closed row. Layer 14: a job as a row of cells that stays closed; words for rows. Layer 14, plain: what is done to a job. Layer 14, plain: a job to which something was done may be; what it keeps. Layer 14, plain: a job's life: what an act keeps. Layer 14: a job's lists laid anew: copied, walked. Layer 14: a job's small parts, walked: ticks, sets, options, the submission, what is later. Layer 14: a job's states, walked (printed by a program of my own). -/
import Derived.Test.YtmkmmggimokagaaGreatDoorK1
import Derived.Great.Ranges
import Derived.Test.YtmkmmggimokagaaGreatDoorQ0
import Derived.Test.YtmkmmggimokagaaGreatDoorJbB
import Derived.Test.YtmkmmggimokagaaGreatDoorQ1
import Derived.Test.YtmkmmggimokagaaGreatDoorC1
import Derived.Test.YtmkmmggimokagaaGreatDoorQ3
import Derived.Test.YtmkmmggimokagaaGreatDoorS2
namespace Go.Proofs.YtmkmmggimokagaaGreatDoor
set_option linter.unusedVariables false
open Go.RowKit
theorem info88 {cs : Array Value} (h : cs.size = 20) : (Tryz.prog.info? 70).map (·.size) = some cs.size := by rw [h]; kernel_rfl
theorem twenty {l : List Value} (h : l.length = 20) : ∃ a0 a1 a2 a3 a4 a5 a6 a7 a8 a9 b0 b1 b2 b3 b4 b5 b6 b7 b8 b9, l = [a0, a1, a2, a3, a4, a5, a6, a7, a8, a9, b0, b1, b2, b3, b4, b5, b6, b7, b8, b9] := by
  match l, h with
  | [a0, a1, a2, a3, a4, a5, a6, a7, a8, a9, b0, b1, b2, b3, b4, b5, b6, b7, b8, b9], _ => exact ⟨_, _, _, _, _, _, _, _, _, _, _, _, _, _, _, _, _, _, _, _, rfl⟩
theorem built88 {cs : Array Value} (h : cs.size = 20) : Tryz.prog.built 70 [(0, .agg cs)] = some cs := by
  obtain ⟨l⟩ := cs
  obtain ⟨a0, a1, a2, a3, a4, a5, a6, a7, a8, a9, b0, b1, b2, b3, b4, b5, b6, b7, b8, b9, rfl⟩ := twenty (by simpa using h)
  kernel_rfl
theorem results_cell2 {P : Program} {fn : Func} {p t : Tmp} {ty : TypeId} (h : fn.results = #[.cell p ty, .tmp t]) (tmps : Array Value) (w : World) (g : Nat) (tt : TypeId) (cs : Array Value) (fr : Nat × Nat) (d : TypeDesc)
    (hp : tmps.getD p undef = .pointer (some ⟨g, 0, none⟩)) (hg : w.heap[g]? = some (.cells cs tt fr))
    (hu : P.underlying ty = some d) (hd : (match d with | .struct _ | .array _ _ => true | _ => false) = true) (hi : (P.info? ty).map (·.size) = some cs.size) :
    (results fn tmps).run P w = .ok (.tuple #[.agg cs, tmps.getD t undef]) w := by
  have hp' : tmps[p]?.getD undef = .pointer (some ⟨g, 0, none⟩) := by simpa using hp
  simp [results, h, hp', asAddr, run_loadVar_row w g tt ty cs fr d hg hu hd hi]
theorem alloc2 (w : World) (a b : Obj) : ((w.alloc a).alloc b).heap[w.heap.size + 1]? = some b := by
  have h := heap_alloc_new (w.alloc a) b
  rwa [World.size_alloc] at h
def jbC (x : Jb) (A : Option Addr) (c : Nat) (A2 : Option Addr) (c2 : Nat) : List Value :=
  [.int .i64 x.id, .string x.name, .string x.user, .string x.account, .int .i64 x.shape.kind, .slice A x.shape.alts.length c, .int .i64 x.shape.mn, .int .i64 x.shape.mx, .int .i64 x.shape.wall,
    .int .i64 x.prio, .slice A2 x.after.length c2, .int .i64 x.state, .bool x.held, .int .i64 x.born, .int .i64 x.promise, .int .i64 x.choice, .int .i64 x.start, .int .i64 x.limit, .int .u64 x.nodes, .int .i64 x.used]
def jbA (x : Jb) (A : Option Addr) (c : Nat) (A2 : Option Addr) (c2 : Nat) : Array Value := (jbC x A c A2 c2).toArray
theorem jbV_is (x : Jb) (A : Option Addr) (c : Nat) (A2 : Option Addr) (c2 : Nat) : jbV x A c A2 c2 = .agg (jbA x A c A2 c2) := rfl
theorem jbA_size (x : Jb) (A : Option Addr) (c : Nat) (A2 : Option Addr) (c2 : Nat) : (jbA x A c A2 c2).size = 20 := rfl
theorem jbA_one (x : Jb) (A : Option Addr) (c : Nat) (A2 : Option Addr) (c2 : Nat) : (jbA x A c A2 c2).all (·.oneCell') = true := by unfold jbA; rw [List.all_toArray]; rfl
theorem info30 {cs : Array Value} (h : cs.size = 20) : (Tryz.prog.info? 29).map (·.size) = some cs.size := by rw [h]; kernel_rfl
/-- a list lies from a block on -/
def Off (lo : Nat) (A : Option Addr) (n : Nat) : Prop := 0 < n → ∀ ad, A = some ad → lo ≤ ad.block
def JbOff (lo : Nat) (x : Jb) (A A2 : Option Addr) : Prop := Off lo A x.shape.alts.length ∧ Off lo A2 x.after.length
theorem Owns.off {w : World} {B : Nat} {e : TypeId} {size n : Nat} {A : Option Addr} {c : Nat} {xs : List Value} (h : Owns w B e size (.slice A n c) n xs) : Off B A n := by
  intro hn ad hA
  obtain ⟨g, c2, hv, hb, _⟩ := h.at_ hn
  injection hv with h1
  subst hA
  injection h1 with h1
  subst h1
  exact hb
theorem Off.mono {lo lo2 n : Nat} {A : Option Addr} (h : Off lo A n) (hl : lo2 ≤ lo) : Off lo2 A n := fun hn ad hA => Nat.le_trans hl (h hn ad hA)
theorem set_size {w : World} {a : Addr} {v : Value} : (w.setCell a v).heap.size = w.heap.size := by simp [World.setCell]
theorem two_block {w w1 : World} {a b : Obj} (h : Below ((w.alloc a).alloc b).heap.size ((w.alloc a).alloc b) w1) : w1.heap[w.heap.size]? = some a ∧ w1.heap[w.heap.size + 1]? = some b ∧ w.heap.size + 1 < w1.heap.size := by
  have h2 : w1.heap[w.heap.size + 1]? = some b := (h.block _ (by simp)).trans (alloc2 _ _ _)
  exact ⟨(h.block _ (by simp; omega)).trans ((Below.heap_alloc _ _ _ (by simp)).trans (heap_alloc_new w _)), h2, (Array.getElem?_eq_some_iff.1 h2).1⟩
theorem two_below {w w1 : World} {a b : Obj} (h : Below ((w.alloc a).alloc b).heap.size ((w.alloc a).alloc b) w1) : Below w.heap.size w w1 :=
  (((Below.refl _ _).alloc (Nat.le_refl _) _).alloc (by simp) _ : Below w.heap.size w _).trans (h.mono (by simp; omega))
/-- a world with one row laid anew -/
theorem Owns.row {w : World} {B : Nat} {e : TypeId} {size n : Nat} {v : Value} {xs : List Value} (h : Owns w B e size v n xs) {b : Nat} (hb : b < B) (cs : Array Value) : Owns (w.setRow b cs) B e size v n xs :=
  h.keep fun g _ hg _ => Go.setRow_other w b g cs (by omega)
/-- only block p was written -/
structure Only (p : Nat) (v v' : World) : Prop where
  os : v'.os = v.os
  tape : v'.tape = v.tape
  output : v'.output = v.output
  size : v'.heap.size = v.heap.size
  block : ∀ k, k ≠ p → v'.heap[k]? = v.heap[k]?
theorem Only.refl {p : Nat} {v : World} : Only p v v := ⟨rfl, rfl, rfl, rfl, fun _ _ => rfl⟩
theorem Only.set {p k : Nat} {v v' : World} {u : Value} (h : Only p v v') : Only p v (v'.setCell ⟨p, k, none⟩ u) :=
  ⟨h.os, h.tape, h.output, by rw [set_size]; exact h.size, fun j hj => (Below.heap_setCell _ _ _ _ hj).trans (h.block j hj)⟩
theorem Only.row {p : Nat} {v v' : World} {cs : Array Value} (h : Only p v v') : Only p v (v'.setRow p cs) :=
  ⟨h.os, h.tape, h.output, by rw [Go.setRow_size]; exact h.size, fun j hj => (Go.setRow_other v' p j cs hj).trans (h.block j hj)⟩
theorem Only.drew {p : Nat} {v v' : World} (h : Only p v v') : Only p v v'.drew := ⟨h.os, h.tape, h.output, h.size, h.block⟩
theorem Only.below {p : Nat} {v v' : World} (h : Only p v v') : Below p v v' := ⟨h.os, h.tape, h.output, Nat.le_of_eq h.size.symm, fun k hk => h.block k (by omega)⟩
theorem Reads.only {w w' : World} {lo B size n p : Nat} {A : Option Addr} {xs : List Value} (h : Reads w B size A n xs) (ho : Off lo A n) (hp : p < lo) (hw : Only p w w') : Reads w' B size A n xs := by
  refine ⟨h.1, fun hn => ?_⟩
  obtain ⟨ad, e, hlt, hc⟩ := h.2 hn
  have hlo := ho hn ad e
  refine ⟨ad, e, hlt, fun j u hu => ?_⟩
  rw [← hc j u hu]
  exact World.cell?_of_block (hw.block _ (by rw [block_of_add]; omega))
theorem JbAt.only {w w' : World} {lo B p : Nat} {x : Jb} {A A2 : Option Addr} {c c2 : Nat} (h : JbAt w B x A c A2 c2) (ho : JbOff lo x A A2) (hp : p < lo) (hw : Only p w w') : JbAt w' B x A c A2 c2 :=
  ⟨h.1.only ho.1 hp hw, h.2.1.only ho.2 hp hw, h.2.2⟩
theorem JbAt.as {w : World} {B : Nat} {x y : Jb} {A A2 : Option Addr} {c c2 : Nat} (h : JbAt w B x A c A2 c2) (hs : y.shape = x.shape) (ha : y.after = x.after) : JbAt w B y A c A2 c2 := by
  unfold JbAt at h ⊢; rw [hs, ha]; exact h
theorem JbOff.as {lo : Nat} {x y : Jb} {A A2 : Option Addr} (h : JbOff lo x A A2) (hs : y.shape = x.shape) (ha : y.after = x.after) : JbOff lo y A A2 := by
  unfold JbOff at h ⊢; rw [hs, ha]; exact h
theorem JbAt.more {w : World} {B B' : Nat} {x : Jb} {A A2 : Option Addr} {c c2 : Nat} (h : JbAt w B x A c A2 c2) (hB : B ≤ B') : JbAt w B' x A c A2 c2 := ⟨h.1.more hB, h.2.1.more hB, h.2.2⟩
theorem jobE_t {x : Jb} (h : okJ x = true) : jobE x = 0 := by unfold jobE; rw [if_pos h]
theorem jobE_f {x : Jb} (h : okJ x = false) : jobE x = 140 := by unfold jobE; rw [if_neg (by rw [h]; decide)]
theorem bne_or {a b : Int} {z : Bool} (h : (a == b) = z) : (a != b) = !z := by show (!(a == b)) = _; rw [h]
theorem bne_of_false {a b : Int} (h : (a == b) = false) : (a != b) = true := bne_or h
theorem bne_of_true {a b : Int} (h : (a == b) = true) : (a != b) = false := bne_or h
/-- something that is done to a job -/
structure Ac where
  kind : Int
  a : Int
  b : Int
  set : Nat
  cmd : Cm
/-- no job -/
def noJ : Jb := ⟨0, ⟨#[]⟩, ⟨#[]⟩, ⟨#[]⟩, sh0, 0, [], 0, false, 0, 0, 0, 0, 0, 0, 0⟩
/-- a job's change: the job may be, and something is so of it -/
def turnJ (x : Jb) (m : Int) (y : Jb) : Jb × Int := if okJ x = true then (if m = 0 then (y, 0) else (noJ, m)) else (noJ, 140)
def whenE (b : Bool) : Int := if b = true then 0 else 141
def dropM (x : Jb) : Int := whenE (x.state == 1)
def dropD (x : Jb) : Jb := { x with promise := -1, choice := 0 }
def dropJ (x : Jb) : Jb × Int := turnJ x (dropM x) (dropD x)
def holdM (x : Jb) (h : Bool) : Int := whenE ((x.state == 1) && (x.held != h))
def holdD (x : Jb) (h : Bool) : Jb := if h = true then { x with held := true, promise := -1, choice := 0 } else { x with held := false }
def holdJ (x : Jb) (h : Bool) : Jb × Int := turnJ x (holdM x h) (holdD x h)
def promM (x : Jb) (at_ ch : Int) : Int := if ((x.state == 1) && !x.held) = true then (if (hasO x.shape ch && tickB at_) = true then 0 else 2) else 141
def promD (x : Jb) (at_ ch : Int) : Jb := { x with promise := at_, choice := ch }
def promJ (x : Jb) (at_ ch : Int) : Jb × Int := turnJ x (promM x at_ ch) (promD x at_ ch)
/-- two times are too much together -/
def overT (a b : Int) : Bool := !fitsV 1000000 [a, b]
def startM (x : Jb) (now : Int) (s : Nat) : Int :=
  if ((x.state == 1) && (decide (0 ≤ x.promise) && decide (now ≤ x.promise))) = true then
    (if (fewS s && (((memL s).length : Int) == (optAt x.shape x.choice).1)) = true then
      (if (tickB now && !overT now (optAt x.shape x.choice).2) = true then 0 else 153) else 152) else 141
def startD (x : Jb) (now : Int) (s : Nat) : Jb := { x with state := 2, start := now, limit := now + (optAt x.shape x.choice).2, nodes := s }
def startJ (x : Jb) (now : Int) (s : Nat) : Jb × Int := turnJ x (startM x now s) (startD x now s)
def sizeM (x : Jb) (s : Nat) : Int := if x.state = 2 then (if (fewS s && allowS x.shape x.choice (memL s).length) = true then 0 else 152) else 141
def sizedD (x : Jb) (s : Nat) : Jb := { x with nodes := s }
def sizeJ (x : Jb) (s : Nat) : Jb × Int := turnJ x (sizeM x s) (sizedD x s)
def endM (x : Jb) (st : Int) : Int := if endedB st = true then whenE ((x.state == 2) || ((x.state == 1) && (st == 6))) else 2
def finD (x : Jb) (st : Int) : Jb := if x.state = 1 then { x with held := false, promise := -1, choice := 0, state := st, nodes := 0 } else { x with state := st, nodes := 0 }
def endJ (x : Jb) (st : Int) : Jb × Int := turnJ x (endM x st) (finD x st)
/-- a shape with another time -/
def wallsS (s : Sh) (t : Int) : Sh := { s with alts := s.alts.map (fun a => (a.1, t)), wall := if s.kind = 3 then t else s.wall }
def altM (x : Jb) (c : Cm) : Int := if ((c.kind == 5) && (cmdE c == 0)) = true then whenE (x.state == 1) else 80
def altP (x : Jb) (c : Cm) : Jb := if c.hasPrio = true then { x with prio := c.prio } else x
def altD (x : Jb) (c : Cm) : Jb := if c.hasTime = true then { altP x c with shape := wallsS x.shape c.time, promise := -1, choice := 0 } else altP x c
def altJ (x : Jb) (c : Cm) : Jb × Int := turnJ x (altM x c) (altD x c)
def plusU (a b : Int) : Int := addV 1000000000000 [a, b]
def chargeM (x : Jb) : Int := whenE (x.state == 2)
def chargeD (x : Jb) (n : Int) : Jb := { x with used := plusU x.used n }
def chargeJ (x : Jb) (n : Int) : Jb × Int := turnJ x (chargeM x) (chargeD x n)
/-- an act -/
def doJ (x : Jb) (a : Ac) : Jb × Int :=
  if a.kind = 0 ∨ a.kind = 1 then holdJ x (a.kind == 0)
  else if a.kind = 2 then promJ x a.a a.b
  else if a.kind = 3 then dropJ x
  else if a.kind = 4 then startJ x a.a a.set
  else if a.kind = 5 then sizeJ x a.set
  else if a.kind = 6 then endJ x a.a
  else if a.kind = 7 then altJ x a.cmd
  else chargeJ x a.a
/-- a new job -/
def newD (id : Int) (c : Cm) (now : Int) : Jb := ⟨id, c.name, c.user, c.account, c.shape, c.prio, c.after, 1, false, now, -1, 0, 0, 0, 0, 0⟩
def newJ (id : Int) (c : Cm) (now : Int) : Jb × Int := if ((c.kind == 1) && (cmdE c == 0)) = true then (if okJ (newD id c now) = true then (newD id c now, 0) else (noJ, 140)) else (noJ, 80)
theorem okJ_iff (x : Jb) : okJ x = true ↔ inB x.id 1 99999 = true ∧ tickB x.born = true ∧ usedB x.used = true ∧ subB (submC x) = true ∧ inB x.prio 0 100 = true ∧ laterB x = false ∧ stateB x = true := by
  unfold okJ subJ
  simp only [Bool.and_eq_true, Bool.not_eq_true', and_assoc]
theorem tick_of {n : Int} (h1 : 0 ≤ n) (h2 : n ≤ 1000000) : tickB n = true := by unfold tickB inB; simp [h1, h2]
theorem of_tick {n : Int} (h : tickB n = true) : 0 ≤ n ∧ n ≤ 1000000 := by unfold tickB inB at h; simpa using h
theorem inB_of {n a b : Int} (h1 : a ≤ n) (h2 : n ≤ b) : inB n a b = true := by unfold inB; simp [h1, h2]
theorem of_inB {n a b : Int} (h : inB n a b = true) : a ≤ n ∧ n ≤ b := by unfold inB at h; simpa using h
theorem subB_same {x y : Jb} (h1 : y.name = x.name) (h2 : y.user = x.user) (h3 : y.account = x.account) (h4 : y.after = x.after) (h5 : y.shape = x.shape) : subB (submC y) = subB (submC x) := by
  unfold subB submC; simp only [h1, h2, h3, h4, h5]
theorem later_same_ {x y : Jb} (h1 : y.id = x.id) (h4 : y.after = x.after) : laterB y = laterB x := by unfold laterB; rw [h1, h4]
theorem turnJ_ok {x y : Jb} {m : Int} (h : (turnJ x m y).2 = 0) : okJ x = true ∧ m = 0 ∧ (turnJ x m y).1 = y := by
  unfold turnJ at h ⊢
  cases h1 : okJ x
  · rw [h1] at h; simp at h
  · rw [h1] at h
    by_cases h2 : m = 0
    · simp [h2]
    · simp [h2] at h
theorem turnJ_no {x y : Jb} {m : Int} (h : (turnJ x m y).2 ≠ 0) : (turnJ x m y).1 = noJ := by
  unfold turnJ at h ⊢
  cases h1 : okJ x
  · simp
  · rw [h1] at h
    by_cases h2 : m = 0
    · simp [h2] at h
    · simp [h2]
theorem whenE_zero {b : Bool} (h : whenE b = 0) : b = true := by cases b <;> simp_all [whenE]
theorem st_q {x : Jb} (h : x.state = 1) (h2 : stateB x = true) : queuedB x = true := by unfold stateB at h2; rwa [if_pos h] at h2
theorem st_r {x : Jb} (h : x.state = 2) (h2 : stateB x = true) : runB x = true := by unfold stateB at h2; rwa [if_neg (by omega), if_pos h] at h2
theorem optS_len48 {s : Sh} : (optS s).length ≤ 48 := by
  unfold optS
  split
  case isFalse => simp
  case isTrue hk =>
    unfold okS at hk
    split
    case isTrue h3 =>
      rw [if_neg (by omega), if_neg (by omega), if_pos h3] at hk
      unfold fineA at hk
      simp only [Bool.and_eq_true, decide_eq_true_eq] at hk
      simp only [List.length_map, List.length_range]
      omega
    case isFalse h3 =>
      split at hk
      · simp only [Bool.and_eq_true, decide_eq_true_eq] at hk; omega
      · split at hk
        · simp only [Bool.and_eq_true, decide_eq_true_eq] at hk; omega
        · cases hk
theorem hasO_bd {s : Sh} {ch : Int} (h : hasO s ch = true) : 0 ≤ ch ∧ ch < 48 := by
  unfold hasO at h
  simp only [Bool.not_eq_true', Bool.or_eq_false_iff, decide_eq_false_iff_not] at h
  have := @optS_len48 s
  omega
theorem mem48 {s : Nat} (h : fewS s = true) : True := trivial
/-- what a change keeps -/
def Keeps (x y : Jb) : Prop := y.id = x.id ∧ y.born = x.born ∧ x.used ≤ y.used
theorem okJ_change {x y : Jb} (hx : okJ x = true) (h0 : y.id = x.id) (hb : y.born = x.born) (hu : y.used = x.used) (h1 : y.name = x.name) (h2 : y.user = x.user) (h3 : y.account = x.account) (h4 : y.after = x.after) (h5 : y.shape = x.shape) (h6 : y.prio = x.prio) (hs : stateB y = true) : okJ y = true := by
  rw [okJ_iff] at hx ⊢
  obtain ⟨a, b, c, d, e, f, g⟩ := hx
  refine ⟨by rwa [h0], by rwa [hb], by rwa [hu], by rw [subB_same h1 h2 h3 h4 h5]; exact d, by rwa [h6], by rw [later_same_ h0 h4]; exact f, hs⟩
theorem queued_mk {y : Jb} (h : y.state = 1) (h1 : y.start = 0) (h2 : y.limit = 0) (h3 : y.nodes = 0) (h4 : y.promise = -1) (h5 : y.choice = 0) : stateB y = true := by
  unfold stateB queuedB; rw [if_pos h, h1, h2, h3, h4, h5]; rfl
theorem of_queued {x : Jb} (h : queuedB x = true) : x.start = 0 ∧ x.limit = 0 ∧ x.nodes = 0 ∧ ((x.promise = -1 ∧ x.choice = 0) ∨ (tickB x.promise = true ∧ hasO x.shape x.choice = true ∧ x.held = false)) := by
  unfold queuedB at h
  simpa using h
theorem of_run {x : Jb} (h : runB x = true) : hasO x.shape x.choice = true ∧ x.held = false ∧ tickB x.start = true ∧ tickB x.promise = true ∧ x.start ≤ x.promise ∧ tickB x.limit = true ∧ x.limit = x.start + wallS x.shape x.choice ∧ fewS x.nodes = true ∧ allowS x.shape x.choice (memL x.nodes).length = true := by
  unfold runB at h
  simpa using h
theorem drop_ok {x : Jb} (hx : okJ x = true) (hm : dropM x = 0) : okJ (dropD x) = true := by
  have hs : x.state = 1 := by have := whenE_zero hm; simpa using this
  have hq := of_queued (st_q hs ((okJ_iff x).1 hx).2.2.2.2.2.2)
  exact okJ_change hx rfl rfl rfl rfl rfl rfl rfl rfl rfl (queued_mk hs hq.1 hq.2.1 hq.2.2.1 rfl rfl)
theorem hold_ok {x : Jb} {h : Bool} (hx : okJ x = true) (hm : holdM x h = 0) : okJ (holdD x h) = true := by
  have h0 := whenE_zero hm
  simp only [Bool.and_eq_true, beq_iff_eq, bne_iff_ne, ne_eq] at h0
  obtain ⟨hs, hh⟩ := h0
  have hq := of_queued (st_q hs ((okJ_iff x).1 hx).2.2.2.2.2.2)
  unfold holdD
  split
  · exact okJ_change hx rfl rfl rfl rfl rfl rfl rfl rfl rfl (queued_mk hs hq.1 hq.2.1 hq.2.2.1 rfl rfl)
  · refine okJ_change hx rfl rfl rfl rfl rfl rfl rfl rfl rfl ?_
    unfold stateB queuedB
    rw [if_pos (show ({ x with held := false } : Jb).state = 1 from hs)]
    obtain ⟨a, b, c, d⟩ := hq
    dsimp only
    rw [a, b, c]
    rcases d with ⟨d, e⟩ | ⟨d, e, f⟩
    · rw [d, e]; rfl
    · rw [d, e]; (try simp)
theorem prom_ok {x : Jb} {p ch : Int} (hx : okJ x = true) (hm : promM x p ch = 0) : okJ (promD x p ch) = true := by
  unfold promM at hm
  split at hm
  case isFalse => omega
  case isTrue h1 =>
    split at hm
    case isFalse => omega
    case isTrue h2 =>
      simp only [Bool.and_eq_true, beq_iff_eq, Bool.not_eq_true'] at h1 h2
      have hq := of_queued (st_q h1.1 ((okJ_iff x).1 hx).2.2.2.2.2.2)
      refine okJ_change hx rfl rfl rfl rfl rfl rfl rfl rfl rfl ?_
      unfold stateB queuedB promD
      rw [if_pos (show ({ x with promise := p, choice := ch } : Jb).state = 1 from h1.1)]
      obtain ⟨a, b, c, d⟩ := hq
      dsimp only
      rw [a, b, c, h2.1, h2.2, h1.2]; (try simp)
theorem fits_two {a b : Int} (h1 : 0 ≤ a) (h2 : a ≤ 1000000) (h3 : 0 ≤ b) (h4 : b ≤ 1000000) : overT a b = decide (1000000 < a + b) := by
  unfold overT fitsV
  simp only [tot, clamp_in (show ¬ a < 0 by omega) (show ¬ (1000000 : Int) < a by omega), clamp_in (show ¬ b < 0 by omega) (show ¬ (1000000 : Int) < b by omega)]
  rw [Bool.eq_iff_iff]; simp
theorem start_ok {x : Jb} {now : Int} {s : Nat} (hx : okJ x = true) (hm : startM x now s = 0) : okJ (startD x now s) = true := by
  unfold startM at hm
  split at hm
  case isFalse => omega
  case isTrue h1 =>
    split at hm
    case isFalse => omega
    case isTrue h2 =>
      split at hm
      case isFalse => omega
      case isTrue h3 =>
        simp only [Bool.and_eq_true, beq_iff_eq, Bool.not_eq_true', decide_eq_true_eq] at h1 h2 h3
        obtain ⟨hs, hp1, hp2⟩ := h1
        have hq := of_queued (st_q hs ((okJ_iff x).1 hx).2.2.2.2.2.2)
        obtain ⟨a, b, c, d⟩ := hq
        obtain ⟨d, e, f⟩ : tickB x.promise = true ∧ hasO x.shape x.choice = true ∧ x.held = false := by
          rcases d with ⟨d, _⟩ | d
          · omega
          · exact d
        have ob := opt_bounds e
        have ht := of_tick h3.1
        have hov := h3.2
        rw [fits_two ht.1 ht.2 (by omega) (by omega), decide_eq_false_iff_not] at hov
        refine okJ_change hx rfl rfl rfl rfl rfl rfl rfl rfl rfl ?_
        unfold stateB startD
        rw [if_neg (show ¬ (2 : Int) = 1 by omega), if_pos rfl]
        unfold runB
        dsimp only
        rw [e, f, h3.1, d, h2.1, tick_of (show 0 ≤ now + (optAt x.shape x.choice).2 by omega) (by omega), decide_eq_true hp2]
        simp only [wallS, Bool.true_and, Bool.not_false, beq_self_eq_true]
        have hall : allowS x.shape x.choice (memL s).length = true := by
          unfold allowS
          unfold hasO at e
          simp only [Bool.not_eq_true', Bool.or_eq_false_iff, decide_eq_false_iff_not] at e
          rw [if_neg (by omega)]
          have eo : optAt x.shape x.choice = (optS x.shape).getD x.choice.toNat (0, 0) := by unfold optAt; rw [if_neg (by omega)]
          split
          case isTrue hk =>
            have hl : x.choice.toNat < (optS x.shape).length := by omega
            have hmem : optAt x.shape x.choice ∈ optS x.shape := by rw [eo, List.getD_eq_getElem?_getD, List.getElem?_eq_getElem hl]; exact List.getElem_mem hl
            cases hok : okS x.shape
            · unfold optS at hmem; rw [if_neg (by rw [hok]; decide)] at hmem; cases hmem
            · unfold optS at hmem
              rw [if_pos hok, if_pos hk] at hmem
              obtain ⟨i, hi, hie⟩ := List.mem_map.1 hmem
              rw [List.mem_range] at hi
              have e1 : (optAt x.shape x.choice).1 = x.shape.mx - i := by rw [← hie]
              have e2 := h2.2
              simp only [Bool.and_eq_true, decide_eq_true_eq]
              omega
          case isFalse hk =>
            have e2 := h2.2
            rw [eo] at e2
            simp only [beq_iff_eq]
            omega
        rw [hall]
theorem size_ok {x : Jb} {s : Nat} (hx : okJ x = true) (hm : sizeM x s = 0) : okJ (sizedD x s) = true := by
  unfold sizeM at hm
  split at hm
  case isFalse => omega
  case isTrue hs =>
    split at hm
    case isFalse => omega
    case isTrue h2 =>
      simp only [Bool.and_eq_true] at h2
      obtain ⟨a, b, c, d, e, f, g, h, i⟩ := of_run (st_r hs ((okJ_iff x).1 hx).2.2.2.2.2.2)
      refine okJ_change hx rfl rfl rfl rfl rfl rfl rfl rfl rfl ?_
      unfold stateB sizedD
      rw [if_neg (show ¬ ({ x with nodes := s } : Jb).state = 1 by dsimp only; omega), if_pos hs]
      unfold runB
      dsimp only
      rw [a, b, c, d, decide_eq_true e, f, g, h2.1, h2.2]
      simp
theorem end_ok {x : Jb} {st : Int} (hx : okJ x = true) (hm : endM x st = 0) : okJ (finD x st) = true := by
  unfold endM at hm
  split at hm
  case isFalse => omega
  case isTrue he =>
    have h0 := whenE_zero hm
    simp only [Bool.or_eq_true, Bool.and_eq_true, beq_iff_eq] at h0
    have hst := of_inB he
    have hsx := ((okJ_iff x).1 hx).2.2.2.2.2.2
    unfold finD
    split
    case isTrue hs =>
      obtain ⟨a, b, c, d⟩ := of_queued (st_q hs hsx)
      refine okJ_change hx rfl rfl rfl rfl rfl rfl rfl rfl rfl ?_
      unfold stateB overB
      dsimp only
      rw [if_neg (by omega), if_neg (by omega), he, a, b]; rfl
    case isFalse hs =>
      have hs2 : x.state = 2 := by omega
      obtain ⟨a, b, c, d, e, f, g, h, i⟩ := of_run (st_r hs2 hsx)
      refine okJ_change hx rfl rfl rfl rfl rfl rfl rfl rfl rfl ?_
      have hd := of_tick d
      have hc := hasO_bd a
      unfold stateB overB
      dsimp only
      rw [if_neg (by omega), if_neg (by omega), he, c, f, inB_of (show -1 ≤ x.promise by omega) hd.2, inB_of hc.1 (show x.choice ≤ 48 by omega)]; rfl
theorem okS_walls {s : Sh} {t : Int} (h : okS s = true) (h1 : 1 ≤ t) (h2 : t ≤ 100000) : okS (wallsS s t) = true := by
  have hf : ∀ a ∈ s.alts, fineA a = true → fineA (a.1, t) = true := by
    intro a _ ha
    unfold fineA at ha ⊢
    simp only [Bool.and_eq_true, decide_eq_true_eq] at ha ⊢
    omega
  have hall : s.alts.all fineA = true → (s.alts.map (fun a => (a.1, t))).all fineA = true := by
    intro ha
    rw [List.all_eq_true] at ha ⊢
    intro b hb
    obtain ⟨a, ha2, rfl⟩ := List.mem_map.1 hb
    exact hf a ha2 (ha a ha2)
  unfold okS bareS at h
  unfold okS wallsS bareS
  dsimp only
  split at h
  case isTrue hk =>
    rw [if_pos hk, if_neg (by omega)]
    simp only [Bool.and_eq_true, decide_eq_true_eq, List.length_map] at h ⊢
    exact ⟨h.1, hall h.2⟩
  case isFalse hk =>
    rw [if_neg hk]
    split at h
    case isTrue hk2 =>
      rw [if_pos hk2, if_neg (by omega)]
      simp only [Bool.and_eq_true, decide_eq_true_eq, List.length_map] at h ⊢
      refine ⟨⟨h.1.1, ?_⟩, hall h.2⟩
      have := h.1.2
      unfold apartL at this ⊢
      rw [List.map_map, show ((Prod.fst : Pr → Int) ∘ fun a : Pr => (a.fst, t)) = Prod.fst from rfl]
      simpa using this
    case isFalse hk2 =>
      rw [if_neg hk2]
      split at h
      case isTrue hk3 =>
        rw [if_pos hk3, if_pos hk3]
        simp only [Bool.and_eq_true, decide_eq_true_eq, List.length_map] at h ⊢
        refine ⟨⟨h.1.1, ?_⟩, h.2⟩
        have := h.1.2
        unfold fineA at this ⊢
        simp only [Bool.and_eq_true, decide_eq_true_eq] at this ⊢
        omega
      case isFalse => cases h
theorem cmdE_pre {c : Cm} (h : cmdE c = 0) : preB c = true := by
  unfold cmdE at h
  split at h
  case isFalse => omega
  case isTrue hc =>
    unfold chkB fitB at hc
    simp only [Bool.and_eq_true] at hc
    exact hc.2.2.1.1
theorem pre_prio {c : Cm} (h : preB c = true) (hp : c.hasPrio = true) : inB c.prio 0 100 = true := by
  unfold preB at h
  rw [if_pos hp] at h
  simp only [Bool.and_eq_true] at h
  exact h.1
theorem pre_time {c : Cm} (h : preB c = true) (hp : c.hasTime = true) : inB c.time 1 100000 = true := by
  unfold preB at h
  rw [if_pos hp] at h
  simp only [Bool.and_eq_true] at h
  exact h.2
theorem shE_walls {s : Sh} {t : Int} (h : shE s = 0) (h1 : 1 ≤ t) (h2 : t ≤ 100000) : shE (wallsS s t) = 0 := by
  unfold shE at h ⊢
  split at h
  case isTrue hk => rw [if_pos (okS_walls hk h1 h2)]
  case isFalse => omega
theorem alt_ok {x : Jb} {c : Cm} (hx : okJ x = true) (hm : altM x c = 0) : okJ (altD x c) = true := by
  unfold altM at hm
  split at hm
  case isFalse => omega
  case isTrue hc =>
    have hs : x.state = 1 := by simpa using whenE_zero hm
    simp only [Bool.and_eq_true, beq_iff_eq] at hc
    have hp := cmdE_pre hc.2
    have hq := of_queued (st_q hs ((okJ_iff x).1 hx).2.2.2.2.2.2)
    have hP : okJ (altP x c) = true ∧ (altP x c).state = 1 ∧ (altP x c).start = 0 ∧ (altP x c).limit = 0 ∧ (altP x c).nodes = 0 ∧ (altP x c).shape = x.shape := by
      unfold altP
      split
      case isTrue hpr =>
        refine ⟨?_, hs, hq.1, hq.2.1, hq.2.2.1, rfl⟩
        have hx2 := (okJ_iff x).1 hx
        rw [okJ_iff]
        obtain ⟨a, b, c1, d, e, f, g⟩ := hx2
        refine ⟨a, b, c1, d, pre_prio hp hpr, f, ?_⟩
        unfold stateB at g ⊢
        rw [if_pos hs] at g
        dsimp only
        rw [if_pos hs]
        exact g
      case isFalse => exact ⟨hx, hs, hq.1, hq.2.1, hq.2.2.1, rfl⟩
    obtain ⟨h1, h2, h3, h4, h5, h6⟩ := hP
    unfold altD
    split
    case isFalse => exact h1
    case isTrue htm =>
      have ht := of_inB (pre_time hp htm)
      have hx2 := (okJ_iff _).1 h1
      rw [okJ_iff]
      obtain ⟨a, b, c1, d, e, f, g⟩ := hx2
      refine ⟨a, b, c1, ?_, e, f, queued_mk h2 h3 h4 h5 rfl rfl⟩
      unfold subB submC at d ⊢
      dsimp only at d ⊢
      rw [h6] at d
      simp only [Bool.and_eq_true, beq_iff_eq] at d ⊢
      exact ⟨d.1, shE_walls d.2 ht.1 ht.2⟩
theorem plusU_bd (a b : Int) : 0 ≤ plusU a b ∧ plusU a b ≤ 1000000000000 := addV_bd _ (by omega) _
theorem plusU_ge {a b : Int} (h : 0 ≤ a) (h2 : a ≤ 1000000000000) : a ≤ plusU a b := by
  have e : tot 1000000000000 [a, b] = a + (clamp b 0 1000000000000 + 0) := by
    unfold tot tot tot
    rw [clamp_in (show ¬ a < 0 by omega) (show ¬ (1000000000000 : Int) < a by omega)]
  have := clamp_bd b (show (0 : Int) ≤ 1000000000000 by omega)
  unfold plusU addV
  split <;> omega
theorem charge_ok {x : Jb} {n : Int} (hx : okJ x = true) (hm : chargeM x = 0) : okJ (chargeD x n) = true := by
  have hs : x.state = 2 := by simpa using whenE_zero hm
  rw [okJ_iff] at hx ⊢
  obtain ⟨a, b, c1, d, e, f, g⟩ := hx
  refine ⟨a, b, inB_of (plusU_bd _ _).1 (plusU_bd _ _).2, d, e, f, ?_⟩
  unfold stateB at g ⊢
  rw [if_neg (by omega), if_pos hs] at g
  rw [if_neg (show ¬ (chargeD x n).state = 1 by unfold chargeD; dsimp only; omega), if_pos (show (chargeD x n).state = 2 from hs)]
  exact g
/-- an act as what it asks, and what it does -/
def actM (x : Jb) (a : Ac) : Int :=
  if a.kind = 0 ∨ a.kind = 1 then holdM x (a.kind == 0) else if a.kind = 2 then promM x a.a a.b else if a.kind = 3 then dropM x else if a.kind = 4 then startM x a.a a.set
  else if a.kind = 5 then sizeM x a.set else if a.kind = 6 then endM x a.a else if a.kind = 7 then altM x a.cmd else chargeM x
def actD (x : Jb) (a : Ac) : Jb :=
  if a.kind = 0 ∨ a.kind = 1 then holdD x (a.kind == 0) else if a.kind = 2 then promD x a.a a.b else if a.kind = 3 then dropD x else if a.kind = 4 then startD x a.a a.set
  else if a.kind = 5 then sizedD x a.set else if a.kind = 6 then finD x a.a else if a.kind = 7 then altD x a.cmd else chargeD x a.a
theorem doJ_is (x : Jb) (a : Ac) : doJ x a = turnJ x (actM x a) (actD x a) := by
  unfold doJ actM actD
  repeat' split
  all_goals rfl
theorem act_ok {x : Jb} {a : Ac} (hx : okJ x = true) (hm : actM x a = 0) : okJ (actD x a) = true := by
  unfold actM at hm
  unfold actD
  split
  case isTrue h => rw [if_pos h] at hm; exact hold_ok hx hm
  case isFalse h =>
    rw [if_neg h] at hm
    split
    case isTrue h => rw [if_pos h] at hm; exact prom_ok hx hm
    case isFalse h =>
      rw [if_neg h] at hm
      split
      case isTrue h => rw [if_pos h] at hm; exact drop_ok hx hm
      case isFalse h =>
        rw [if_neg h] at hm
        split
        case isTrue h => rw [if_pos h] at hm; exact start_ok hx hm
        case isFalse h =>
          rw [if_neg h] at hm
          split
          case isTrue h => rw [if_pos h] at hm; exact size_ok hx hm
          case isFalse h =>
            rw [if_neg h] at hm
            split
            case isTrue h => rw [if_pos h] at hm; exact end_ok hx hm
            case isFalse h =>
              rw [if_neg h] at hm
              split
              case isTrue h => rw [if_pos h] at hm; exact alt_ok hx hm
              case isFalse h => rw [if_neg h] at hm; exact charge_ok hx hm
/-- what is kept, state by state -/
def LifeP (x y : Jb) : Prop := (x.state = 1 ∨ x.state = 2) ∧ y.id = x.id ∧ y.born = x.born ∧ x.used ≤ y.used ∧ (y.state = 2 → x.state = 2 ∨ (x.state = 1 ∧ y.start ≤ x.promise ∧ x.held = false)) ∧ (y.state = 1 → x.state = 1)
theorem altP_same (x : Jb) (c : Cm) : (altP x c).id = x.id ∧ (altP x c).born = x.born ∧ (altP x c).used = x.used ∧ (altP x c).state = x.state := by
  unfold altP; split <;> exact ⟨rfl, rfl, rfl, rfl⟩
theorem altD_same (x : Jb) (c : Cm) : (altD x c).id = x.id ∧ (altD x c).born = x.born ∧ (altD x c).used = x.used ∧ (altD x c).state = x.state := by
  have h := altP_same x c
  unfold altD; split
  · exact ⟨h.1, h.2.1, h.2.2.1, h.2.2.2⟩
  · exact h
theorem act_life {x : Jb} {a : Ac} (hx : okJ x = true) (hm : actM x a = 0) : LifeP x (actD x a) := by
  have hu := of_inB ((okJ_iff x).1 hx).2.2.1
  unfold actM at hm
  unfold actD
  split
  case isTrue h =>
    rw [if_pos h] at hm
    have h0 := whenE_zero hm
    simp only [Bool.and_eq_true, beq_iff_eq] at h0
    unfold holdD LifeP
    split
    · exact ⟨.inl h0.1, rfl, rfl, Int.le_refl _, fun e => by dsimp only at e; omega, fun _ => h0.1⟩
    · exact ⟨.inl h0.1, rfl, rfl, Int.le_refl _, fun e => by dsimp only at e; omega, fun _ => h0.1⟩
  case isFalse h =>
    rw [if_neg h] at hm
    split
    case isTrue h =>
      rw [if_pos h] at hm
      unfold promM at hm
      split at hm
      case isFalse => omega
      case isTrue h1 =>
        simp only [Bool.and_eq_true, beq_iff_eq, Bool.not_eq_true'] at h1
        exact ⟨.inl h1.1, rfl, rfl, Int.le_refl _, fun e => by unfold promD at e; dsimp only at e; omega, fun _ => h1.1⟩
    case isFalse h =>
      rw [if_neg h] at hm
      split
      case isTrue h =>
        rw [if_pos h] at hm
        have hs : x.state = 1 := by simpa using whenE_zero hm
        exact ⟨.inl hs, rfl, rfl, Int.le_refl _, fun e => by unfold dropD at e; dsimp only at e; omega, fun _ => hs⟩
      case isFalse h =>
        rw [if_neg h] at hm
        split
        case isTrue h =>
          rw [if_pos h] at hm
          unfold startM at hm
          split at hm
          case isFalse => omega
          case isTrue h1 =>
            simp only [Bool.and_eq_true, beq_iff_eq, decide_eq_true_eq] at h1
            obtain ⟨hs, hp1, hp2⟩ := h1
            obtain ⟨_, _, _, d⟩ := of_queued (st_q hs ((okJ_iff x).1 hx).2.2.2.2.2.2)
            have hh : x.held = false := by
              rcases d with ⟨d, _⟩ | d
              · omega
              · exact d.2.2
            exact ⟨.inl hs, rfl, rfl, Int.le_refl _, fun _ => .inr ⟨hs, hp2, hh⟩, fun _ => hs⟩
        case isFalse h =>
          rw [if_neg h] at hm
          split
          case isTrue h =>
            rw [if_pos h] at hm
            unfold sizeM at hm
            split at hm
            case isFalse => omega
            case isTrue hs => exact ⟨.inr hs, rfl, rfl, Int.le_refl _, fun _ => .inl hs, fun e => by unfold sizedD at e; dsimp only at e; omega⟩
          case isFalse h =>
            rw [if_neg h] at hm
            split
            case isTrue h =>
              rw [if_pos h] at hm
              unfold endM at hm
              split at hm
              case isFalse => omega
              case isTrue he =>
                have h0 := whenE_zero hm
                simp only [Bool.or_eq_true, Bool.and_eq_true, beq_iff_eq] at h0
                have hst := of_inB he
                unfold finD LifeP
                split
                · exact ⟨by omega, rfl, rfl, Int.le_refl _, fun e => by dsimp only at e; omega, fun e => by dsimp only at e; omega⟩
                · exact ⟨by omega, rfl, rfl, Int.le_refl _, fun e => by dsimp only at e; omega, fun e => by dsimp only at e; omega⟩
            case isFalse h =>
              rw [if_neg h] at hm
              split
              case isTrue h =>
                rw [if_pos h] at hm
                unfold altM at hm
                split at hm
                case isFalse => omega
                case isTrue =>
                  have hs : x.state = 1 := by simpa using whenE_zero hm
                  obtain ⟨e1, e2, e3, e4⟩ := altD_same x a.cmd
                  exact ⟨.inl hs, e1, e2, by omega, fun e => by omega, fun _ => hs⟩
              case isFalse h =>
                rw [if_neg h] at hm
                have hs : x.state = 2 := by simpa using whenE_zero hm
                exact ⟨.inr hs, rfl, rfl, plusU_ge hu.1 hu.2, fun _ => .inl hs, fun e => by unfold chargeD at e; dsimp only at e; omega⟩
/-- a shape's least and greatest size -/
def leastS (s : Sh) : Int := (optS s).foldl (fun n a => if n = 0 ∨ a.1 < n then a.1 else n) 0
def mostS (s : Sh) : Int := (optS s).foldl (fun n a => if n < a.1 then a.1 else n) 0
theorem most_fold (l : List Pr) : ∀ n : Int, n ≤ l.foldl (fun n (a : Pr) => if n < a.1 then a.1 else n) n ∧ ∀ a ∈ l, a.1 ≤ l.foldl (fun n (a : Pr) => if n < a.1 then a.1 else n) n := by
  induction l with
  | nil => intro n; exact ⟨Int.le_refl _, fun a h => by cases h⟩
  | cons b l ih =>
    intro n
    simp only [List.foldl_cons]
    have h := ih (if n < b.1 then b.1 else n)
    refine ⟨by have := h.1; split at this <;> omega, fun a ha => ?_⟩
    rcases List.mem_cons.1 ha with rfl | ha
    · have := h.1; split at this <;> omega
    · exact h.2 a ha
theorem least_fold (l : List Pr) (hp : ∀ a ∈ l, 1 ≤ a.1) : ∀ n : Int, 1 ≤ n → l.foldl (fun n (a : Pr) => if n = 0 ∨ a.1 < n then a.1 else n) n ≤ n ∧ 1 ≤ l.foldl (fun n (a : Pr) => if n = 0 ∨ a.1 < n then a.1 else n) n ∧ ∀ a ∈ l, l.foldl (fun n (a : Pr) => if n = 0 ∨ a.1 < n then a.1 else n) n ≤ a.1 := by
  induction l with
  | nil => intro n hn; exact ⟨Int.le_refl _, hn, fun a h => by cases h⟩
  | cons b l ih =>
    intro n hn
    simp only [List.foldl_cons]
    have hb := hp b (List.mem_cons_self ..)
    have h := ih (fun a ha => hp a (List.mem_cons_of_mem _ ha)) (if n = 0 ∨ b.1 < n then b.1 else n) (by split <;> omega)
    refine ⟨by have := h.1; split at this <;> omega, h.2.1, fun a ha => ?_⟩
    rcases List.mem_cons.1 ha with rfl | ha
    · have := h.1; split at this <;> omega
    · exact h.2.2 a ha
theorem allow_sizes {s : Sh} {ch n : Int} (h : allowS s ch n = true) : leastS s ≤ n ∧ n ≤ mostS s := by
  have key : ∀ m : Int, (∃ a ∈ optS s, a.1 = m) → leastS s ≤ m ∧ m ≤ mostS s := by
    rintro m ⟨a, ha, rfl⟩
    refine ⟨?_, (most_fold _ 0).2 a ha⟩
    have hp : ∀ a ∈ optS s, 1 ≤ a.1 := fun a ha => by
      have := optS_fine ha
      unfold fineA at this
      simp only [Bool.and_eq_true, decide_eq_true_eq] at this
      omega
    unfold leastS
    match hl : optS s with
    | [] => rw [hl] at ha; cases ha
    | b :: l =>
      rw [hl] at ha hp
      simp only [List.foldl_cons, true_or, if_true]
      have h := least_fold l (fun a ha => hp a (List.mem_cons_of_mem _ ha)) b.1 (hp b (List.mem_cons_self ..))
      rcases List.mem_cons.1 ha with rfl | ha
      · exact h.1
      · exact h.2.2 a ha
  unfold allowS at h
  split at h
  case isTrue => cases h
  case isFalse h0 =>
    split at h
    case isTrue hk =>
      simp only [Bool.and_eq_true, decide_eq_true_eq] at h
      refine key n ?_
      have hok : okS s = true := by
        cases e : okS s
        · unfold optS at h0; rw [e] at h0; simp at h0; omega
        · rfl
      refine ⟨(n, s.wall), ?_, rfl⟩
      unfold optS
      rw [if_pos hok, if_pos hk]
      refine List.mem_map.2 ⟨(s.mx - n).toNat, List.mem_range.2 (by omega), ?_⟩
      have : s.mx - ((s.mx - n).toNat : Int) = n := by omega
      rw [this]
    case isFalse hk =>
      simp only [beq_iff_eq] at h
      refine key n ⟨(optS s).getD ch.toNat (0, 0), ?_, h⟩
      have hl : ch.toNat < (optS s).length := by omega
      rw [List.getD_eq_getElem?_getD, List.getElem?_eq_getElem hl]
      exact List.getElem_mem hl
/-- who runs has a size that its shape allows, and a time -/
theorem run_sizes {x : Jb} (hx : okJ x = true) (hs : x.state = 2) : leastS x.shape ≤ (memL x.nodes).length ∧ ((memL x.nodes).length : Int) ≤ mostS x.shape ∧ 1 ≤ x.limit - x.start ∧ allowS x.shape x.choice (memL x.nodes).length = true := by
  obtain ⟨a, b, c, d, e, f, g, h, i⟩ := of_run (st_r hs ((okJ_iff x).1 hx).2.2.2.2.2.2)
  have o := opt_bounds a
  have := allow_sizes i
  unfold wallS at g
  exact ⟨this.1, this.2, by omega, i⟩
theorem allow_one {s : Sh} {ch n m : Int} (hk : s.kind ≠ 3) (h1 : allowS s ch n = true) (h2 : allowS s ch m = true) : n = m := by
  unfold allowS at h1 h2
  by_cases h0 : ch < 0 ∨ ((optS s).length : Int) ≤ ch
  · rw [if_pos h0] at h1; cases h1
  · rw [if_neg h0, if_neg hk, beq_iff_eq] at h1 h2
    omega
theorem act_shape {x : Jb} {a : Ac} (hm : actM x a = 0) (hs : x.state = 2) (hy : (actD x a).state = 2) : (actD x a).shape = x.shape ∧ (actD x a).choice = x.choice := by
  unfold actM at hm
  unfold actD at hy ⊢
  split
  case isTrue h =>
    rw [if_pos h] at hm
    have h0 := whenE_zero hm
    simp only [Bool.and_eq_true, beq_iff_eq] at h0
    omega
  case isFalse h =>
    rw [if_neg h] at hm hy
    split
    case isTrue h =>
      rw [if_pos h] at hm
      unfold promM at hm
      split at hm
      case isFalse => omega
      case isTrue h1 =>
        simp only [Bool.and_eq_true, beq_iff_eq, Bool.not_eq_true'] at h1
        omega
    case isFalse h =>
      rw [if_neg h] at hm hy
      split
      case isTrue h =>
        rw [if_pos h] at hm
        have : x.state = 1 := by simpa using whenE_zero hm
        omega
      case isFalse h =>
        rw [if_neg h] at hm hy
        split
        case isTrue h =>
          rw [if_pos h] at hm
          unfold startM at hm
          split at hm
          case isFalse => omega
          case isTrue h1 =>
            simp only [Bool.and_eq_true, beq_iff_eq, decide_eq_true_eq] at h1
            omega
        case isFalse h =>
          rw [if_neg h] at hm hy
          split
          case isTrue h => exact ⟨rfl, rfl⟩
          case isFalse h =>
            rw [if_neg h] at hm hy
            split
            case isTrue h =>
              rw [if_pos h] at hm hy
              unfold endM at hm
              split at hm
              case isFalse => omega
              case isTrue he =>
                have hst := of_inB he
                unfold finD at hy
                rw [if_neg (by omega)] at hy
                dsimp only at hy
                omega
            case isFalse h =>
              rw [if_neg h] at hm hy
              split
              case isTrue h =>
                rw [if_pos h] at hm
                unfold altM at hm
                split at hm
                case isFalse => omega
                case isTrue =>
                  have : x.state = 1 := by simpa using whenE_zero hm
                  omega
              case isFalse h => exact ⟨rfl, rfl⟩
/-- a rigid or moldable job that runs on keeps its size -/
theorem act_size {x : Jb} {a : Ac} (hx : okJ x = true) (hm : actM x a = 0) (hs : x.state = 2) (hy : (actD x a).state = 2) (hk : x.shape.kind ≠ 3) : (memL x.nodes).length = (memL (actD x a).nodes).length := by
  have h1 := (run_sizes hx hs).2.2.2
  have h2 := (run_sizes (act_ok hx hm) hy).2.2.2
  obtain ⟨e1, e2⟩ := act_shape hm hs hy
  rw [e1, e2] at h2
  have := allow_one hk h1 h2
  omega
/-- a call hands back a job, whose lists lie in new memory -/
def RetJb (w : World) (x : Jb) (e : Ending) (w' : World) : Prop := ∃ A c A2 c2, e = .returned (jbV x A c A2 c2) ∧ JbAt w' w'.heap.size x A c A2 c2 ∧ JbOff w.heap.size x A A2 ∧ Below w.heap.size w w'
theorem tick_any (n : Int) (w : World) : Calls Tryz.prog 27 #[.int .i64 n] w fun e w' => e = .returned (.bool (tickB n)) ∧ w = w' := by
  unfold tickB inB
  cases h1 : decide (0 ≤ n) <;> cases h2 : decide (n ≤ 1000000)
  all_goals
    go_enter Tryz.func27, Tryz.ntmps27
    go_wp2
    go_ret
    exact ⟨rfl, rfl⟩
theorem ended_any (n : Int) (w : World) : Calls Tryz.prog 35 #[.int .i64 n] w fun e w' => e = .returned (.bool (endedB n)) ∧ w = w' := by
  unfold endedB inB
  cases h1 : decide (3 ≤ n) <;> cases h2 : decide (n ≤ 7)
  all_goals
    go_enter Tryz.func35, Tryz.ntmps35
    go_wp2
    go_ret
    exact ⟨rfl, rfl⟩
theorem few_diff {s : Nat} (hs : s < M64) : (((diff s (allS 48) : Nat) : Int) == 0) = fewS s := by
  unfold fewS
  rw [Bool.eq_iff_iff]
  simp only [beq_iff_eq, decide_eq_true_eq]
  constructor
  · intro h
    have h0 : diff s (allS 48) = 0 := by omega
    refine Nat.lt_pow_two_of_testBit (n := 48) _ (fun i hi => ?_)
    have := congrArg (fun x => Nat.testBit x i) h0
    simp only [diff_bit hs (allS_lt 48), Nat.zero_testBit, allS_bit] at this
    have e : decide ((i : Int) < 48) = false := decide_eq_false (by omega)
    rw [e] at this
    simpa using this
  · intro h
    have : diff s (allS 48) = 0 := by
      apply Nat.eq_of_testBit_eq
      intro i
      rw [diff_bit hs (allS_lt 48), Nat.zero_testBit, allS_bit]
      by_cases hi : i < 48
      · rw [decide_eq_true (show (i : Int) < 48 by omega), decide_eq_true (show i < 64 by omega)]; simp
      · have : s < 2 ^ i := Nat.lt_of_lt_of_le (show s < 2 ^ 48 from h) (Nat.pow_le_pow_right (by omega) (by omega))
        rw [Nat.testBit_lt_two_pow this]; rfl
    rw [this]; rfl
theorem nodes_any (s : Nat) (w : World) (hs : s < M64) : Calls Tryz.prog 52 #[.int .u64 s] w fun e w' => e = .returned (.bool (fewS s)) ∧ w = w' := by
  have hc := Lib.hid (fun v => all_any 48 v (by decide))
  have k1 := andNot64 hs (allS_lt 48)
  have h := few_diff hs
  obtain ⟨q, hq⟩ : ∃ q : Nat, diff s (allS 48) = q := ⟨_, rfl⟩
  rw [hq] at k1 h
  obtain ⟨a, ha⟩ : ∃ a : Int, (allS 48 : Int) = a := ⟨_, rfl⟩
  rw [ha] at k1 hc
  obtain ⟨z, hz⟩ : ∃ z, fewS s = z := ⟨_, rfl⟩
  rw [hz] at h ⊢
  clear hq ha hz
  go_enter Tryz.func52, Tryz.ntmps52
  go_wp2_with (fail)
  refine (hc.out _).mono ?_; rintro e w1 ⟨rfl, rfl⟩
  go_wp2
  go_ret
  exact ⟨rfl, rfl⟩
set_option maxHeartbeats 2000000 in
set_option maxRecDepth 100000 in
theorem subm_any (x : Jb) (A A2 : Option Addr) (c c2 : Nat) (w : World) :
    Calls Tryz.prog 30 #[jbV x A c A2 c2] w fun e w' => e = .returned (cmV (submC x) A c A2 c2) ∧ Below w.heap.size w w' := by
  rw [jbV_is]
  unfold cmV submC
  dsimp only
  have e1 : (jbA x A c A2 c2)[1]? = some (.string x.name) := rfl
  have e2 : (jbA x A c A2 c2)[2]? = some (.string x.user) := rfl
  have e3 : (jbA x A c A2 c2)[3]? = some (.string x.account) := rfl
  have e4 : (jbA x A c A2 c2)[4]? = some (.int .i64 x.shape.kind) := rfl
  have e5 : (jbA x A c A2 c2)[5]? = some (.slice A x.shape.alts.length c) := rfl
  have e6 : (jbA x A c A2 c2)[6]? = some (.int .i64 x.shape.mn) := rfl
  have e7 : (jbA x A c A2 c2)[7]? = some (.int .i64 x.shape.mx) := rfl
  have e8 : (jbA x A c A2 c2)[8]? = some (.int .i64 x.shape.wall) := rfl
  have e9 : (jbA x A c A2 c2)[9]? = some (.int .i64 x.prio) := rfl
  have e10 : (jbA x A c A2 c2)[10]? = some (.slice A2 x.after.length c2) := rfl
  obtain ⟨cs, hcs⟩ : ∃ cs, jbA x A c A2 c2 = cs := ⟨_, rfl⟩
  rw [hcs] at e1 e2 e3 e4 e5 e6 e7 e8 e9 e10 ⊢
  obtain ⟨n1, hn⟩ : ∃ n, x.shape.alts.length = n := ⟨_, rfl⟩
  obtain ⟨m1, hm⟩ : ∃ n, x.after.length = n := ⟨_, rfl⟩
  rw [hn] at e5 ⊢
  rw [hm] at e10 ⊢
  clear hcs hn hm
  go_enter Tryz.func30, Tryz.ntmps30
  go_wp2_with (refine wpList_store_row rfl 77 _ _ rfl (w.heap.size + 1) _ rfl rfl 77 _ (alloc2 _ _ _) (by kernel_rfl) rfl (by rw [List.all_toArray]; rfl) ?_)
  (try simp only [Exit.inBlock, Exit.then])
  refine bodyPost_ret (results_cell_row rfl _ _ (w.heap.size + 1) _ _ _ _ rfl (setRow_heap _ _ _ _ _ _ (alloc2 _ _ _)) Tryz.underlying77 rfl (by kernel_rfl)) rfl ?_
  exact ⟨rfl, below_row (((Below.refl _ _).alloc (Nat.le_refl _) _).alloc (by simp) _) (by omega) _⟩
set_option maxHeartbeats 2000000 in
set_option maxRecDepth 100000 in
theorem option_any (x : Jb) (A A2 : Option Addr) (c c2 B : Nat) (ch : Int) (w : World) (hx : JbAt w B x A c A2 c2) (hB : B ≤ w.heap.size) :
    Calls Tryz.prog 51 #[jbV x A c A2 c2, .int .i64 ch] w fun e w' => e = .returned (.tuple #[.agg #[.int .i64 (optAt x.shape ch).1, .int .i64 (optAt x.shape ch).2], .bool (hasO x.shape ch)]) ∧ Below w.heap.size w w' := by
  have hc := Lib.hid (fun v (hv : Below w.heap.size w v) => opts_any x.shape A c B v (hx.1.below (hv.mono hB)) (Nat.le_trans hB hv.size) hx.2.2.1 hx.2.2.2.2.1)
  have hol := optS_len x.shape hx.2.2.1
  have HO : Hid (optAt x.shape ch = if ch < 0 ∨ ((optS x.shape).length : Int) ≤ ch then (0, 0) else (optS x.shape).getD ch.toNat (0, 0)) := rfl
  have HH : Hid (hasO x.shape ch = !(decide (ch < 0) || decide (((optS x.shape).length : Int) ≤ ch))) := rfl
  obtain ⟨p, hp⟩ : ∃ p, optAt x.shape ch = p := ⟨_, rfl⟩
  obtain ⟨q, hq⟩ : ∃ q, hasO x.shape ch = q := ⟨_, rfl⟩
  rw [hp] at HO ⊢
  rw [hq] at HH ⊢
  clear hp hq
  obtain ⟨l, hl⟩ : ∃ l, optS x.shape = l := ⟨_, rfl⟩
  rw [hl] at hc hol HO HH
  clear hl hx hB
  unfold shV at hc
  rw [jbV_is]
  have e4 : (jbA x A c A2 c2)[4]? = some (.int .i64 x.shape.kind) := rfl
  have e5 : (jbA x A c A2 c2)[5]? = some (.slice A x.shape.alts.length c) := rfl
  have e6 : (jbA x A c A2 c2)[6]? = some (.int .i64 x.shape.mn) := rfl
  have e7 : (jbA x A c A2 c2)[7]? = some (.int .i64 x.shape.mx) := rfl
  have e8 : (jbA x A c A2 c2)[8]? = some (.int .i64 x.shape.wall) := rfl
  obtain ⟨cs, hcs⟩ : ∃ cs, jbA x A c A2 c2 = cs := ⟨_, rfl⟩
  rw [hcs] at e4 e5 e6 e7 e8 ⊢
  obtain ⟨n1, hn⟩ : ∃ n, x.shape.alts.length = n := ⟨_, rfl⟩
  rw [hn] at hc e5
  clear hcs hn
  go_enter Tryz.func51, Tryz.ntmps51
  go_wp2_with (fail)
  refine (hc.out _ (((Below.refl _ _).alloc (Nat.le_refl _) _).alloc (by simp) _)).mono ?_; rintro e w1 ⟨A3, c3, rfl, hl3, hr3, hb1⟩
  have B1 := Lib.hid ((((Below.refl _ _).alloc (Nat.le_refl _) _).alloc (by simp) _ : Below w.heap.size w _).trans (hb1.mono (by simp; omega)))
  have hres := Lib.hid ((hb1.block (w.heap.size + 1) (by simp)).trans (alloc2 _ _ _))
  have hs1 : w.heap.size + 1 < w1.heap.size := (Array.getElem?_eq_some_iff.1 hres.out).1
  have hf : ∀ j, w1.frozen? ⟨w.heap.size + 1, j, none⟩ = false := fun j => by simp [World.frozen?, hres.out]
  have r0 : w1.cell? ⟨w.heap.size + 1, 0, none⟩ = some (.int .i64 0) := cell_of_row w1 _ 0 _ _ _ hres.out
  have r1 : w1.cell? ⟨w.heap.size + 1, 1, none⟩ = some (.int .i64 0) := cell_of_row w1 _ 1 _ _ _ hres.out
  clear hb1
  by_cases h0 : ch < 0
  · have t0 : decide (ch < 0) = true := decide_eq_true h0
    have HP : Hid (p = (0, 0)) := by show _ = _; rw [HO.out, if_pos (Or.inl h0)]
    have HQ : Hid (q = false) := by show _ = _; rw [HH.out, t0]; rfl
    clear h0
    go_wp2
    (try simp only [Exit.inBlock, Exit.then])
    refine bodyPost_ret (results_cell2 rfl _ _ (w.heap.size + 1) _ _ _ _ rfl (setRow_row hres.out (l := [.int .i64 0, .int .i64 0]) rfl) Tryz.underlying66 rfl (by kernel_rfl)) rfl ?_
    rw [HP.out, HQ.out]
    exact ⟨rfl, below_setRow [.int .i64 0, .int .i64 0] w1 (w.heap.size + 1) 0 B1.out (by omega)⟩
  have t0 : decide (ch < 0) = false := decide_eq_false h0
  by_cases h1 : (l.length : Int) ≤ ch
  · have t1 : decide ((l.length : Int) ≤ ch) = true := decide_eq_true h1
    have HP : Hid (p = (0, 0)) := by show _ = _; rw [HO.out, if_pos (Or.inr h1)]
    have HQ : Hid (q = false) := by show _ = _; rw [HH.out, t0, t1]; rfl
    clear h0 h1
    go_wp2
    (try simp only [Exit.inBlock, Exit.then])
    refine bodyPost_ret (results_cell2 rfl _ _ (w.heap.size + 1) _ _ _ _ rfl (setRow_row hres.out (l := [.int .i64 0, .int .i64 0]) rfl) Tryz.underlying66 rfl (by kernel_rfl)) rfl ?_
    rw [HP.out, HQ.out]
    exact ⟨rfl, below_setRow [.int .i64 0, .int .i64 0] w1 (w.heap.size + 1) 0 B1.out (by omega)⟩
  · have t1 : decide ((l.length : Int) ≤ ch) = false := decide_eq_false h1
    have HQ : Hid (q = true) := by show _ = _; rw [HH.out, t0, t1]; rfl
    obtain ⟨k, hk⟩ : ∃ k : Nat, ch = k := ⟨ch.toNat, by omega⟩
    subst hk
    obtain ⟨b, o, a, rfl, hbb, hx, c0, c1⟩ := hr3.pr_at (show k < l.length by omega)
    have HP : Hid (p = a) := by
      show _ = _
      rw [HO.out, if_neg (by omega), List.getD_eq_getElem?_getD, Int.toNat_natCast, hx.out]; rfl
    have hj0 : (0 : Int) ≤ (k : Int) := by omega
    have hj1 : (k : Int) < (l.length : Int) := by omega
    clear h0 h1 hol
    go_wp2
    (try simp only [Exit.inBlock, Exit.then])
    refine bodyPost_ret (results_cell2 rfl _ _ (w.heap.size + 1) _ _ _ _ rfl (setRow_row hres.out (l := [.int .i64 a.1, .int .i64 a.2]) rfl) Tryz.underlying66 rfl (by kernel_rfl)) rfl ?_
    rw [HP.out, HQ.out]
    exact ⟨rfl, below_setRow [.int .i64 a.1, .int .i64 a.2] w1 (w.heap.size + 1) 0 B1.out (by omega)⟩
theorem later_any (id : Int) (b : Nat) (w : World) (hb : b < w.heap.size) (hc : w.cell? ⟨b, 0, none⟩ = some (.int .i64 id)) : PredB 26 #[.pointer (some ⟨b, 0, none⟩)] (fun x => decide (id ≤ x.2)) w := by
  intro W x hw
  obtain ⟨x, y⟩ := x
  have hc2 : W.cell? ⟨b, 0, none⟩ = some (.int .i64 id) := by rw [(bcell hw).1 _ _ hb]; exact hc
  have hg2 : b < W.heap.size := Nat.lt_of_lt_of_le hb hw.size
  have hB := Lib.hid hw
  clear hc hw hb
  show Calls Tryz.prog 26 #[.agg #[.int .i64 x, .int .i64 y], .pointer (some ⟨b, 0, none⟩)] W _
  go_enter Tryz.func26, Tryz.ntmps26
  go_wp2
  go_ret
  exact ⟨rfl, hB.out.alloc hB.out.size _⟩
theorem bx0 {w : World} {o : Obj} : Below w.heap.size w (w.alloc o) := (Below.refl _ _).alloc (Nat.le_refl _) _
theorem wrap_small {d : Int} (h1 : -9223372036854775808 ≤ d) (h2 : d ≤ 9223372036854775807) : IntKind.i64.wrap d = d := by
  rw [IntKind.wrap_i64]
  omega
theorem box_row {w w1 : World} {cs : Array Value} {t : TypeId} (h : Below (w.alloc (.cells cs t)).heap.size (w.alloc (.cells cs t)) w1) : w1.heap[w.heap.size]? = some (.cells cs t (0, 0)) ∧ Below w.heap.size w w1 ∧ w.heap.size < w1.heap.size := by
  have h2 : w1.heap[w.heap.size]? = some (.cells cs t (0, 0)) := (h.block _ (by simp)).trans (heap_alloc_new w _)
  exact ⟨h2, bt bx0 h, (Array.getElem?_eq_some_iff.1 h2).1⟩
set_option linter.unusedSimpArgs false in
set_option maxHeartbeats 4000000 in
set_option maxRecDepth 100000 in
theorem jover_any (x : Jb) (A A2 : Option Addr) (c c2 : Nat) (w : World) :
    Calls Tryz.prog 32 #[jbV x A c A2 c2] w fun e w' => e = .returned (.bool (overB x)) ∧ Below w.heap.size w w' := by
  have q1 := Lib.hid (fun v => tick_any x.start v)
  have q2 := Lib.hid (fun v => tick_any x.limit v)
  unfold overB inB
  rw [jbV_is]
  have e14 : (jbA x A c A2 c2)[14]? = some (.int .i64 x.promise) := rfl
  have e15 : (jbA x A c A2 c2)[15]? = some (.int .i64 x.choice) := rfl
  have e16 : (jbA x A c A2 c2)[16]? = some (.int .i64 x.start) := rfl
  have e17 : (jbA x A c A2 c2)[17]? = some (.int .i64 x.limit) := rfl
  have e18 : (jbA x A c A2 c2)[18]? = some (.int .u64 x.nodes) := rfl
  have HS := Lib.hid (jbA_size x A c A2 c2)
  have H1 := Lib.hid (jbA_one x A c A2 c2)
  obtain ⟨cs, hcs⟩ : ∃ cs, Hid (jbA x A c A2 c2 = cs) := ⟨_, rfl⟩
  rw [hcs.out] at HS H1 e14 e15 e16 e17 e18 ⊢
  have hu : ((x.nodes : Int) == 0) = (x.nodes == 0) := by rw [Bool.eq_iff_iff]; simp
  obtain ⟨u, HU⟩ : ∃ u : Int, Hid ((x.nodes : Int) = u) := ⟨_, rfl⟩
  rw [HU.out] at e18
  rw [HU.out] at hu
  obtain ⟨z1, hz1⟩ : ∃ q, tickB x.start = q := ⟨_, rfl⟩
  obtain ⟨z2, hz2⟩ : ∃ q, tickB x.limit = q := ⟨_, rfl⟩
  rw [hz1] at q1 ⊢
  rw [hz2] at q2 ⊢
  obtain ⟨z3, hz3⟩ : ∃ q, (x.nodes == 0) = q := ⟨_, rfl⟩
  rw [hz3] at hu ⊢
  clear hz1 hz2 hz3
  cases z3
  case false =>
    go_enter Tryz.func32, Tryz.ntmps32
    go_wp2_with (first | (go_at_call 27; (first | (with_reducible refine (q1.out _).mono ?_) | (with_reducible refine (q2.out _).mono ?_)); rintro e w1 ⟨rfl, rfl⟩))
    go_ret
    exact ⟨by first | rfl | (rw [rfl] <;> rfl) | (simp []; done), bx0⟩
  cases z1
  case false =>
    go_enter Tryz.func32, Tryz.ntmps32
    go_wp2_with (first | (go_at_call 27; (first | (with_reducible refine (q1.out _).mono ?_) | (with_reducible refine (q2.out _).mono ?_)); rintro e w1 ⟨rfl, rfl⟩))
    go_ret
    exact ⟨by first | rfl | (rw [rfl] <;> rfl) | (simp []; done), bx0⟩
  cases z2
  case false =>
    go_enter Tryz.func32, Tryz.ntmps32
    go_wp2_with (first | (go_at_call 27; (first | (with_reducible refine (q1.out _).mono ?_) | (with_reducible refine (q2.out _).mono ?_)); rintro e w1 ⟨rfl, rfl⟩))
    go_ret
    exact ⟨by first | rfl | (rw [rfl] <;> rfl) | (simp []; done), bx0⟩
  cases p1 : decide (-1 ≤ x.promise)
  case false =>
    go_enter Tryz.func32, Tryz.ntmps32
    go_wp2_with (first | (go_at_call 27; (first | (with_reducible refine (q1.out _).mono ?_) | (with_reducible refine (q2.out _).mono ?_)); rintro e w1 ⟨rfl, rfl⟩))
    go_ret
    exact ⟨by first | rfl | (rw [p1] <;> rfl) | (simp [p1]; done), bx0⟩
  cases p2 : decide (x.promise ≤ 1000000)
  case false =>
    go_enter Tryz.func32, Tryz.ntmps32
    go_wp2_with (first | (go_at_call 27; (first | (with_reducible refine (q1.out _).mono ?_) | (with_reducible refine (q2.out _).mono ?_)); rintro e w1 ⟨rfl, rfl⟩))
    go_ret
    exact ⟨by first | rfl | (rw [p1, p2] <;> rfl) | (simp [p1, p2]; done), bx0⟩
  cases p3 : decide (0 ≤ x.choice)
  case false =>
    go_enter Tryz.func32, Tryz.ntmps32
    go_wp2_with (first | (go_at_call 27; (first | (with_reducible refine (q1.out _).mono ?_) | (with_reducible refine (q2.out _).mono ?_)); rintro e w1 ⟨rfl, rfl⟩))
    go_ret
    exact ⟨by first | rfl | (rw [p1, p2, p3] <;> rfl) | (simp [p1, p2, p3]; done), bx0⟩
  cases p4 : decide (x.choice ≤ 48)
  case false =>
    go_enter Tryz.func32, Tryz.ntmps32
    go_wp2_with (first | (go_at_call 27; (first | (with_reducible refine (q1.out _).mono ?_) | (with_reducible refine (q2.out _).mono ?_)); rintro e w1 ⟨rfl, rfl⟩))
    go_ret
    exact ⟨by first | rfl | (rw [p1, p2, p3, p4] <;> rfl) | (simp [p1, p2, p3, p4]; done), bx0⟩
  go_enter Tryz.func32, Tryz.ntmps32
  go_wp2_with (first | (go_at_call 27; (first | (with_reducible refine (q1.out _).mono ?_) | (with_reducible refine (q2.out _).mono ?_)); rintro e w1 ⟨rfl, rfl⟩))
  go_ret
  exact ⟨by first | rfl | (rw [p1, p2, p3, p4] <;> rfl) | (simp [p1, p2, p3, p4]; done), bx0⟩
end Go.Proofs.YtmkmmggimokagaaGreatDoor
