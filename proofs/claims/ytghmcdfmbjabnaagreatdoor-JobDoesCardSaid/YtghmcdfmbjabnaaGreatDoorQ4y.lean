/- Layer 14: a view made of a job's closed row. Layer 14: a job as a row of cells that stays closed; words for rows. Layer 14, plain: what is done to a job. Layer 14, plain: a job to which something was done may be; what it keeps. Layer 14, plain: a job's life: what an act keeps. Layer 14: a job's lists laid anew: copied, walked. Layer 14: a job's small parts, walked: ticks, sets, options, the submission, what is later. Layer 14: a job's states, walked (printed by a program of my own). -/
import Derived.Test.YtghmcdfmbjabnaaGreatDoorQ4t
import Derived.Test.YtghmcdfmbjabnaaGreatDoorK1t
import Derived.Test.YtghmcdfmbjabnaaGreatDoorK1y
import Derived.Great.Ranges
import Derived.Test.YtghmcdfmbjabnaaGreatDoorQ0t
import Derived.Test.YtghmcdfmbjabnaaGreatDoorQ1t
import Derived.Test.YtghmcdfmbjabnaaGreatDoorQ1y
import Derived.Test.YtghmcdfmbjabnaaGreatDoorC1t
import Derived.Test.YtghmcdfmbjabnaaGreatDoorC1y
import Derived.Test.YtghmcdfmbjabnaaGreatDoorQ3t
import Derived.Test.YtghmcdfmbjabnaaGreatDoorS2t
namespace Go.Proofs.YtghmcdfmbjabnaaGreatDoor
set_option linter.unusedVariables false
open Go.RowKit
theorem two_block {w w1 : World} {a b : Obj} (h : Below ((w.alloc a).alloc b).heap.size ((w.alloc a).alloc b) w1) : w1.heap[w.heap.size]? = some a ∧ w1.heap[w.heap.size + 1]? = some b ∧ w.heap.size + 1 < w1.heap.size := by
  have h2 : w1.heap[w.heap.size + 1]? = some b := (h.block _ (by simp)).trans (alloc2 _ _ _)
  exact ⟨(h.block _ (by simp; omega)).trans ((Below.heap_alloc _ _ _ (by simp)).trans (heap_alloc_new w _)), h2, (Array.getElem?_eq_some_iff.1 h2).1⟩
theorem two_below {w w1 : World} {a b : Obj} (h : Below ((w.alloc a).alloc b).heap.size ((w.alloc a).alloc b) w1) : Below w.heap.size w w1 :=
  (((Below.refl _ _).alloc (Nat.le_refl _) _).alloc (by simp) _ : Below w.heap.size w _).trans (h.mono (by simp; omega))
/-- something that is done to a job -/
structure Ac where
  kind : Int
  a : Int
  b : Int
  set : Nat
  cmd : Cm
/-- a job's change: the job may be, and something is so of it -/
def turnJ (x : Jb) (m : Int) (y : Jb) : Jb × Int := if okJ x = true then (if m = 0 then (y, 0) else (noJ, m)) else (noJ, 140)
def whenE (b : Bool) : Int := if b = true then 0 else 141
def dropM (x : Jb) : Int := whenE (x.state == 1)
def dropD (x : Jb) : Jb := { x with promise := -1, choice := 0 }
def dropJ (x : Jb) : Jb × Int := turnJ x (dropM x) (dropD x)
def holdM (x : Jb) (h : Bool) : Int := whenE ((x.state == 1) && (x.held != h))
def holdD (x : Jb) (h : Bool) : Jb := if h = true then { x with held := true, promise := -1, choice := 0 } else { x with held := false }
def holdJ (x : Jb) (h : Bool) : Jb × Int := turnJ x (holdM x h) (holdD x h)
def promM (x : Jb) (at_ ch : Int) : Int := if ((x.state == 1) && !x.held) = true then (if (hasO x.shape ch && tickB at_) = true then 0 else 2) else 141
def promD (x : Jb) (at_ ch : Int) : Jb := { x with promise := at_, choice := ch }
def promJ (x : Jb) (at_ ch : Int) : Jb × Int := turnJ x (promM x at_ ch) (promD x at_ ch)
/-- two times are too much together -/
def overT (a b : Int) : Bool := !fitsV 1000000 [a, b]
def startM (x : Jb) (now : Int) (s : Nat) : Int :=
  if ((x.state == 1) && (decide (0 ≤ x.promise) && decide (now ≤ x.promise))) = true then
    (if (fewS s && (((memL s).length : Int) == (optAt x.shape x.choice).1)) = true then
      (if (tickB now && !overT now (optAt x.shape x.choice).2) = true then 0 else 153) else 152) else 141
def startD (x : Jb) (now : Int) (s : Nat) : Jb := { x with state := 2, start := now, limit := now + (optAt x.shape x.choice).2, nodes := s }
def startJ (x : Jb) (now : Int) (s : Nat) : Jb × Int := turnJ x (startM x now s) (startD x now s)
def sizeM (x : Jb) (s : Nat) : Int := if x.state = 2 then (if (fewS s && allowS x.shape x.choice (memL s).length) = true then 0 else 152) else 141
def sizedD (x : Jb) (s : Nat) : Jb := { x with nodes := s }
def sizeJ (x : Jb) (s : Nat) : Jb × Int := turnJ x (sizeM x s) (sizedD x s)
def endM (x : Jb) (st : Int) : Int := if endedB st = true then whenE ((x.state == 2) || ((x.state == 1) && (st == 6))) else 2
def finD (x : Jb) (st : Int) : Jb := if x.state = 1 then { x with held := false, promise := -1, choice := 0, state := st, nodes := 0 } else { x with state := st, nodes := 0 }
def endJ (x : Jb) (st : Int) : Jb × Int := turnJ x (endM x st) (finD x st)
/-- a shape with another time -/
def wallsS (s : Sh) (t : Int) : Sh := { s with alts := s.alts.map (fun a => (a.1, t)), wall := if s.kind = 3 then t else s.wall }
def altM (x : Jb) (c : Cm) : Int := if ((c.kind == 5) && (cmdE c == 0)) = true then whenE (x.state == 1) else 80
def altP (x : Jb) (c : Cm) : Jb := if c.hasPrio = true then { x with prio := c.prio } else x
def altD (x : Jb) (c : Cm) : Jb := if c.hasTime = true then { altP x c with shape := wallsS x.shape c.time, promise := -1, choice := 0 } else altP x c
def altJ (x : Jb) (c : Cm) : Jb × Int := turnJ x (altM x c) (altD x c)
def plusU (a b : Int) : Int := addV 1000000000000 [a, b]
def chargeM (x : Jb) : Int := whenE (x.state == 2)
def chargeD (x : Jb) (n : Int) : Jb := { x with used := plusU x.used n }
def chargeJ (x : Jb) (n : Int) : Jb × Int := turnJ x (chargeM x) (chargeD x n)
/-- an act -/
def doJ (x : Jb) (a : Ac) : Jb × Int :=
  if a.kind = 0 ∨ a.kind = 1 then holdJ x (a.kind == 0)
  else if a.kind = 2 then promJ x a.a a.b
  else if a.kind = 3 then dropJ x
  else if a.kind = 4 then startJ x a.a a.set
  else if a.kind = 5 then sizeJ x a.set
  else if a.kind = 6 then endJ x a.a
  else if a.kind = 7 then altJ x a.cmd
  else chargeJ x a.a
/-- a new job -/
def newD (id : Int) (c : Cm) (now : Int) : Jb := ⟨id, c.name, c.user, c.account, c.shape, c.prio, c.after, 1, false, now, -1, 0, 0, 0, 0, 0⟩
def newJ (id : Int) (c : Cm) (now : Int) : Jb × Int := if ((c.kind == 1) && (cmdE c == 0)) = true then (if okJ (newD id c now) = true then (newD id c now, 0) else (noJ, 140)) else (noJ, 80)
theorem okJ_iff (x : Jb) : okJ x = true ↔ inB x.id 1 99999 = true ∧ tickB x.born = true ∧ usedB x.used = true ∧ subB (submC x) = true ∧ inB x.prio 0 100 = true ∧ laterB x = false ∧ stateB x = true := by
  unfold okJ subJ
  simp only [Bool.and_eq_true, Bool.not_eq_true', and_assoc]
theorem of_tick {n : Int} (h : tickB n = true) : 0 ≤ n ∧ n ≤ 1000000 := by unfold tickB inB at h; simpa using h
theorem of_inB {n a b : Int} (h : inB n a b = true) : a ≤ n ∧ n ≤ b := by unfold inB at h; simpa using h
theorem st_q {x : Jb} (h : x.state = 1) (h2 : stateB x = true) : queuedB x = true := by unfold stateB at h2; rwa [if_pos h] at h2
theorem of_queued {x : Jb} (h : queuedB x = true) : x.start = 0 ∧ x.limit = 0 ∧ x.nodes = 0 ∧ ((x.promise = -1 ∧ x.choice = 0) ∨ (tickB x.promise = true ∧ hasO x.shape x.choice = true ∧ x.held = false)) := by
  unfold queuedB at h
  simpa using h
theorem fits_two {a b : Int} (h1 : 0 ≤ a) (h2 : a ≤ 1000000) (h3 : 0 ≤ b) (h4 : b ≤ 1000000) : overT a b = decide (1000000 < a + b) := by
  unfold overT fitsV
  simp only [tot, clamp_in (show ¬ a < 0 by omega) (show ¬ (1000000 : Int) < a by omega), clamp_in (show ¬ b < 0 by omega) (show ¬ (1000000 : Int) < b by omega)]
  rw [Bool.eq_iff_iff]; simp
/-- a call hands back a job, whose lists lie in new memory -/
def RetJb (w : World) (x : Jb) (e : Ending) (w' : World) : Prop := ∃ A c A2 c2, e = .returned (jbV x A c A2 c2) ∧ JbAt w' w'.heap.size x A c A2 c2 ∧ JbOff w.heap.size x A A2 ∧ Below w.heap.size w w'
set_option maxHeartbeats 4000000 in
set_option maxRecDepth 100000 in
theorem copied_any (x : Jb) (A A2 : Option Addr) (c c2 B : Nat) (w : World) (hx : JbAt w B x A c A2 c2) (hB : B ≤ w.heap.size) :
    Calls Tryz.prog 92 #[jbV x A c A2 c2] w (RetJb w x) := by
  have h1 := Lib.hid (fun v (hv : Below w.heap.size w v) => cloneA_any A x.shape.alts.length c B x.shape.alts v (hx.1.below (hv.mono hB)) (Nat.le_trans hB hv.size) hx.2.2.1)
  have h2 := Lib.hid (fun v (hv : Below w.heap.size w v) => cloneD_any A2 x.after.length c2 B x.after v (hx.2.1.below (hv.mono hB)) (Nat.le_trans hB hv.size) hx.2.2.2.1)
  have hl1 := hx.2.2.1
  have hl2 := hx.2.2.2.1
  clear hx hB
  unfold RetOwn at h1 h2
  rw [jbV_is]
  have e5 : (jbA x A c A2 c2)[5]? = some (.slice A x.shape.alts.length c) := rfl
  have e10 : (jbA x A c A2 c2)[10]? = some (.slice A2 x.after.length c2) := rfl
  have HJ : Hid (∀ A3 c3 A4 c4, ((jbA x A c A2 c2).setIfInBounds 5 (.slice A3 x.shape.alts.length c3)).setIfInBounds 10 (.slice A4 x.after.length c4) = jbA x A3 c3 A4 c4) := Lib.hid (fun _ _ _ _ => rfl)
  have HS := Lib.hid (jbA_size x A c A2 c2)
  obtain ⟨cs, hcs⟩ : ∃ cs, jbA x A c A2 c2 = cs := ⟨_, rfl⟩
  rw [hcs] at e5 e10 HJ HS ⊢
  clear hcs
  obtain ⟨n, HN⟩ : ∃ n, Hid (x.shape.alts.length = n) := ⟨_, rfl⟩
  obtain ⟨m, HM⟩ : ∃ m, Hid (x.after.length = m) := ⟨_, rfl⟩
  rw [HN.out] at h1 hl1 e5 HJ
  rw [HM.out] at h2 hl2 e10 HJ
  go_enter Tryz.func92, Tryz.ntmps92
  go_wp2_with (fail)
  refine (h1.out _ (((Below.refl _ _).alloc (Nat.le_refl _) _).alloc (by simp) _)).mono ?_; rintro e w1 ⟨v1, rfl, o1, b1⟩
  obtain ⟨A3, c3, rfl, hn3, _⟩ := o1.slice
  obtain ⟨g1, g2, s1⟩ := two_block b1
  have B1 := Lib.hid (two_below b1)
  have O1 := Lib.hid o1
  have hf1 : ∀ j, w1.frozen? ⟨w.heap.size, j, none⟩ = false := fun j => by simp [World.frozen?, g1]
  have c10 : w1.cell? ⟨w.heap.size, 10, none⟩ = some (.slice A2 m c2) := (cell_of_row w1 _ 10 _ _ _ g1).trans e10
  have c5 : w1.cell? ⟨w.heap.size, 5, none⟩ = some (.slice A n c) := (cell_of_row w1 _ 5 _ _ _ g1).trans e5
  have G1 := Lib.hid g1
  have G2 := Lib.hid g2
  clear o1 b1 g1 g2
  go_wp2_with (fail)
  refine (h2.out _ (B1.out.setCell (Nat.le_refl _) _)).mono ?_; rintro e w2 ⟨v2, rfl, o2, b2⟩
  obtain ⟨A4, c4, rfl, hn4, _⟩ := o2.slice
  have k1 : w2.heap[w.heap.size]? = some (.cells (cs.setIfInBounds 5 (.slice A3 n c3)) 28 (0, 0)) := (b2.block w.heap.size (by rw [set_size]; omega)).trans (setCell_blk (k := 5) (a := .slice A3 n c3) G1.out)
  have k2 := (b2.block (w.heap.size + 1) (by rw [set_size]; omega)).trans ((Below.heap_setCell _ _ _ _ (by simp)).trans G2.out)
  have B2 := Lib.hid ((B1.out.setCell (Nat.le_refl _) _ : Below w.heap.size w (w1.setCell ⟨w.heap.size, 5, none⟩ (.slice A3 n c3))).trans (b2.mono (by rw [set_size]; omega)))
  have s2 : w.heap.size + 1 < w2.heap.size := (Array.getElem?_eq_some_iff.1 k2).1
  have O1' := Lib.hid ((O1.out.setBelow (p := ⟨w.heap.size, 5, none⟩) (by simp; omega) (.slice A3 n c3)).below b2)
  have O2 := Lib.hid o2
  have hf2 : ∀ j, w2.frozen? ⟨w.heap.size, j, none⟩ = false := fun j => by simp [World.frozen?, k1]
  have z10 : w2.cell? ⟨w.heap.size, 10, none⟩ = some (.slice A2 m c2) := by rw [cell_of_row w2 _ 10 _ _ _ k1, Array.getElem?_setIfInBounds_ne (by decide)]; exact e10
  have K1 := Lib.hid k1
  have K2 := Lib.hid k2
  have HG : Hid ((w2.setCell ⟨w.heap.size, 10, none⟩ (.slice A4 m c4)).heap[w.heap.size]? = some (.cells (jbA x A3 c3 A4 c4) 28 (0, 0))) := by
    show _ = _
    rw [setCell_blk (k := 10) (a := .slice A4 m c4) K1.out, HJ.out]
  have HG2 : Hid ((w2.setCell ⟨w.heap.size, 10, none⟩ (.slice A4 m c4)).heap[w.heap.size + 1]? = _) := (Below.heap_setCell _ _ _ _ (by simp)).trans K2.out
  clear k1 k2 o2 b2 c5 c10 hf1
  go_wp2_with (first
    | (refine wpList_load_row rfl 28 _ rfl w.heap.size rfl 28 _ (0, 0) _ HG.out Tryz.underlying28 rfl (info30 (jbA_size _ _ _ _ _)) ?_)
    | (refine wpList_store_row rfl 28 _ _ rfl (w.heap.size + 1) _ rfl rfl 28 _ HG2.out (info30 (jbA_size _ _ _ _ _)) rfl (jbA_one _ _ _ _ _) ?_))
  (try simp only [Exit.inBlock, Exit.then])
  refine bodyPost_ret (results_cell_row rfl _ _ (w.heap.size + 1) _ _ _ _ rfl (setRow_heap _ _ _ _ _ _ HG2.out) Tryz.underlying28 rfl (info30 (jbA_size _ _ _ _ _))) rfl ?_
  refine ⟨A3, c3, A4, c4, rfl, ⟨?_, ?_, ?_, ?_, ?_, ?_⟩, ⟨?_, ?_⟩, ?_⟩
  · rw [HN.out]
    exact ((O1'.out.setBelow (p := ⟨w.heap.size, 10, none⟩) (by simp; omega) _).row (by simp) _).reads
  · rw [HM.out]
    exact ((O2.out.setBelow (p := ⟨w.heap.size, 10, none⟩) (by simp [World.setCell]; omega) _).row (by simp [World.setCell]; omega) _).reads
  · rw [HN.out]; exact hl1
  · rw [HM.out]; exact hl2
  · rw [HN.out]; exact hn3
  · rw [HM.out]; exact hn4
  · rw [HN.out]; exact O1'.out.off.mono (by simp; omega)
  · rw [HM.out]; exact O2.out.off.mono (by simp [World.setCell]; omega)
  · exact below_row (B2.out.setCell (p := ⟨w.heap.size, 10, none⟩) (Nat.le_refl _) _) (by omega) _
end Go.Proofs.YtghmcdfmbjabnaaGreatDoor
