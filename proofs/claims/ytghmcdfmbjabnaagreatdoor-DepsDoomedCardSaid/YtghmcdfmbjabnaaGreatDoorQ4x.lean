/- Layer 14: a view made of a job's closed row. Layer 14: a job as a row of cells that stays closed; words for rows. Layer 14, plain: what is done to a job. Layer 14, plain: a job to which something was done may be; what it keeps. Layer 14, plain: a job's life: what an act keeps. Layer 14: a job's lists laid anew: copied, walked. Layer 14: a job's small parts, walked: ticks, sets, options, the submission, what is later. Layer 14: a job's states, walked (printed by a program of my own). -/
import Derived.Test.YtghmcdfmbjabnaaGreatDoorQ4t
import Derived.Test.YtghmcdfmbjabnaaGreatDoorK1t
import Derived.Test.YtghmcdfmbjabnaaGreatDoorK1x
import Derived.Great.Ranges
import Derived.Test.YtghmcdfmbjabnaaGreatDoorQ0t
import Derived.Test.YtghmcdfmbjabnaaGreatDoorQ1t
import Derived.Test.YtghmcdfmbjabnaaGreatDoorC1t
import Derived.Test.YtghmcdfmbjabnaaGreatDoorC1x
import Derived.Test.YtghmcdfmbjabnaaGreatDoorQ3t
import Derived.Test.YtghmcdfmbjabnaaGreatDoorQ3x
import Derived.Test.YtghmcdfmbjabnaaGreatDoorS2t
namespace Go.Proofs.YtghmcdfmbjabnaaGreatDoor
set_option linter.unusedVariables false
open Go.RowKit
theorem two_block {w w1 : World} {a b : Obj} (h : Below ((w.alloc a).alloc b).heap.size ((w.alloc a).alloc b) w1) : w1.heap[w.heap.size]? = some a ∧ w1.heap[w.heap.size + 1]? = some b ∧ w.heap.size + 1 < w1.heap.size := by
  have h2 : w1.heap[w.heap.size + 1]? = some b := (h.block _ (by simp)).trans (alloc2 _ _ _)
  exact ⟨(h.block _ (by simp; omega)).trans ((Below.heap_alloc _ _ _ (by simp)).trans (heap_alloc_new w _)), h2, (Array.getElem?_eq_some_iff.1 h2).1⟩
theorem two_below {w w1 : World} {a b : Obj} (h : Below ((w.alloc a).alloc b).heap.size ((w.alloc a).alloc b) w1) : Below w.heap.size w w1 :=
  (((Below.refl _ _).alloc (Nat.le_refl _) _).alloc (by simp) _ : Below w.heap.size w _).trans (h.mono (by simp; omega))
/-- a job's change: the job may be, and something is so of it -/
def turnJ (x : Jb) (m : Int) (y : Jb) : Jb × Int := if okJ x = true then (if m = 0 then (y, 0) else (noJ, m)) else (noJ, 140)
def whenE (b : Bool) : Int := if b = true then 0 else 141
def endM (x : Jb) (st : Int) : Int := if endedB st = true then whenE ((x.state == 2) || ((x.state == 1) && (st == 6))) else 2
def finD (x : Jb) (st : Int) : Jb := if x.state = 1 then { x with held := false, promise := -1, choice := 0, state := st, nodes := 0 } else { x with state := st, nodes := 0 }
def endJ (x : Jb) (st : Int) : Jb × Int := turnJ x (endM x st) (finD x st)
theorem okJ_iff (x : Jb) : okJ x = true ↔ inB x.id 1 99999 = true ∧ tickB x.born = true ∧ usedB x.used = true ∧ subB (submC x) = true ∧ inB x.prio 0 100 = true ∧ laterB x = false ∧ stateB x = true := by
  unfold okJ subJ
  simp only [Bool.and_eq_true, Bool.not_eq_true', and_assoc]
theorem of_tick {n : Int} (h : tickB n = true) : 0 ≤ n ∧ n ≤ 1000000 := by unfold tickB inB at h; simpa using h
theorem inB_of {n a b : Int} (h1 : a ≤ n) (h2 : n ≤ b) : inB n a b = true := by unfold inB; simp [h1, h2]
theorem of_inB {n a b : Int} (h : inB n a b = true) : a ≤ n ∧ n ≤ b := by unfold inB at h; simpa using h
theorem subB_same {x y : Jb} (h1 : y.name = x.name) (h2 : y.user = x.user) (h3 : y.account = x.account) (h4 : y.after = x.after) (h5 : y.shape = x.shape) : subB (submC y) = subB (submC x) := by
  unfold subB submC; simp only [h1, h2, h3, h4, h5]
theorem later_same_ {x y : Jb} (h1 : y.id = x.id) (h4 : y.after = x.after) : laterB y = laterB x := by unfold laterB; rw [h1, h4]
theorem whenE_zero {b : Bool} (h : whenE b = 0) : b = true := by cases b <;> simp_all [whenE]
theorem st_q {x : Jb} (h : x.state = 1) (h2 : stateB x = true) : queuedB x = true := by unfold stateB at h2; rwa [if_pos h] at h2
theorem st_r {x : Jb} (h : x.state = 2) (h2 : stateB x = true) : runB x = true := by unfold stateB at h2; rwa [if_neg (by omega), if_pos h] at h2
theorem optS_len48 {s : Sh} : (optS s).length ≤ 48 := by
  unfold optS
  split
  case isFalse => simp
  case isTrue hk =>
    unfold okS at hk
    split
    case isTrue h3 =>
      rw [if_neg (by omega), if_neg (by omega), if_pos h3] at hk
      unfold fineA at hk
      simp only [Bool.and_eq_true, decide_eq_true_eq] at hk
      simp only [List.length_map, List.length_range]
      omega
    case isFalse h3 =>
      split at hk
      · simp only [Bool.and_eq_true, decide_eq_true_eq] at hk; omega
      · split at hk
        · simp only [Bool.and_eq_true, decide_eq_true_eq] at hk; omega
        · cases hk
theorem hasO_bd {s : Sh} {ch : Int} (h : hasO s ch = true) : 0 ≤ ch ∧ ch < 48 := by
  unfold hasO at h
  simp only [Bool.not_eq_true', Bool.or_eq_false_iff, decide_eq_false_iff_not] at h
  have := @optS_len48 s
  omega
theorem okJ_change {x y : Jb} (hx : okJ x = true) (h0 : y.id = x.id) (hb : y.born = x.born) (hu : y.used = x.used) (h1 : y.name = x.name) (h2 : y.user = x.user) (h3 : y.account = x.account) (h4 : y.after = x.after) (h5 : y.shape = x.shape) (h6 : y.prio = x.prio) (hs : stateB y = true) : okJ y = true := by
  rw [okJ_iff] at hx ⊢
  obtain ⟨a, b, c, d, e, f, g⟩ := hx
  refine ⟨by rwa [h0], by rwa [hb], by rwa [hu], by rw [subB_same h1 h2 h3 h4 h5]; exact d, by rwa [h6], by rw [later_same_ h0 h4]; exact f, hs⟩
theorem of_queued {x : Jb} (h : queuedB x = true) : x.start = 0 ∧ x.limit = 0 ∧ x.nodes = 0 ∧ ((x.promise = -1 ∧ x.choice = 0) ∨ (tickB x.promise = true ∧ hasO x.shape x.choice = true ∧ x.held = false)) := by
  unfold queuedB at h
  simpa using h
theorem of_run {x : Jb} (h : runB x = true) : hasO x.shape x.choice = true ∧ x.held = false ∧ tickB x.start = true ∧ tickB x.promise = true ∧ x.start ≤ x.promise ∧ tickB x.limit = true ∧ x.limit = x.start + wallS x.shape x.choice ∧ fewS x.nodes = true ∧ allowS x.shape x.choice (memL x.nodes).length = true := by
  unfold runB at h
  simpa using h
theorem end_ok {x : Jb} {st : Int} (hx : okJ x = true) (hm : endM x st = 0) : okJ (finD x st) = true := by
  unfold endM at hm
  split at hm
  case isFalse => omega
  case isTrue he =>
    have h0 := whenE_zero hm
    simp only [Bool.or_eq_true, Bool.and_eq_true, beq_iff_eq] at h0
    have hst := of_inB he
    have hsx := ((okJ_iff x).1 hx).2.2.2.2.2.2
    unfold finD
    split
    case isTrue hs =>
      obtain ⟨a, b, c, d⟩ := of_queued (st_q hs hsx)
      refine okJ_change hx rfl rfl rfl rfl rfl rfl rfl rfl rfl ?_
      unfold stateB overB
      dsimp only
      rw [if_neg (by omega), if_neg (by omega), he, a, b]; rfl
    case isFalse hs =>
      have hs2 : x.state = 2 := by omega
      obtain ⟨a, b, c, d, e, f, g, h, i⟩ := of_run (st_r hs2 hsx)
      refine okJ_change hx rfl rfl rfl rfl rfl rfl rfl rfl rfl ?_
      have hd := of_tick d
      have hc := hasO_bd a
      unfold stateB overB
      dsimp only
      rw [if_neg (by omega), if_neg (by omega), he, c, f, inB_of (show -1 ≤ x.promise by omega) hd.2, inB_of hc.1 (show x.choice ≤ 48 by omega)]; rfl
/-- a call hands back a job, whose lists lie in new memory -/
def RetJb (w : World) (x : Jb) (e : Ending) (w' : World) : Prop := ∃ A c A2 c2, e = .returned (jbV x A c A2 c2) ∧ JbAt w' w'.heap.size x A c A2 c2 ∧ JbOff w.heap.size x A A2 ∧ Below w.heap.size w w'
set_option maxHeartbeats 4000000 in
set_option maxRecDepth 100000 in
theorem copied_any (x : Jb) (A A2 : Option Addr) (c c2 B : Nat) (w : World) (hx : JbAt w B x A c A2 c2) (hB : B ≤ w.heap.size) :
    Calls Tryz.prog 92 #[jbV x A c A2 c2] w (RetJb w x) := by
  have h1 := Lib.hid (fun v (hv : Below w.heap.size w v) => cloneA_any A x.shape.alts.length c B x.shape.alts v (hx.1.below (hv.mono hB)) (Nat.le_trans hB hv.size) hx.2.2.1)
  have h2 := Lib.hid (fun v (hv : Below w.heap.size w v) => cloneD_any A2 x.after.length c2 B x.after v (hx.2.1.below (hv.mono hB)) (Nat.le_trans hB hv.size) hx.2.2.2.1)
  have hl1 := hx.2.2.1
  have hl2 := hx.2.2.2.1
  clear hx hB
  unfold RetOwn at h1 h2
  rw [jbV_is]
  have e5 : (jbA x A c A2 c2)[5]? = some (.slice A x.shape.alts.length c) := rfl
  have e10 : (jbA x A c A2 c2)[10]? = some (.slice A2 x.after.length c2) := rfl
  have HJ : Hid (∀ A3 c3 A4 c4, ((jbA x A c A2 c2).setIfInBounds 5 (.slice A3 x.shape.alts.length c3)).setIfInBounds 10 (.slice A4 x.after.length c4) = jbA x A3 c3 A4 c4) := Lib.hid (fun _ _ _ _ => rfl)
  have HS := Lib.hid (jbA_size x A c A2 c2)
  obtain ⟨cs, hcs⟩ : ∃ cs, jbA x A c A2 c2 = cs := ⟨_, rfl⟩
  rw [hcs] at e5 e10 HJ HS ⊢
  clear hcs
  obtain ⟨n, HN⟩ : ∃ n, Hid (x.shape.alts.length = n) := ⟨_, rfl⟩
  obtain ⟨m, HM⟩ : ∃ m, Hid (x.after.length = m) := ⟨_, rfl⟩
  rw [HN.out] at h1 hl1 e5 HJ
  rw [HM.out] at h2 hl2 e10 HJ
  go_enter Tryz.func92, Tryz.ntmps92
  go_wp2_with (fail)
  refine (h1.out _ (((Below.refl _ _).alloc (Nat.le_refl _) _).alloc (by simp) _)).mono ?_; rintro e w1 ⟨v1, rfl, o1, b1⟩
  obtain ⟨A3, c3, rfl, hn3, _⟩ := o1.slice
  obtain ⟨g1, g2, s1⟩ := two_block b1
  have B1 := Lib.hid (two_below b1)
  have O1 := Lib.hid o1
  have hf1 : ∀ j, w1.frozen? ⟨w.heap.size, j, none⟩ = false := fun j => by simp [World.frozen?, g1]
  have c10 : w1.cell? ⟨w.heap.size, 10, none⟩ = some (.slice A2 m c2) := (cell_of_row w1 _ 10 _ _ _ g1).trans e10
  have c5 : w1.cell? ⟨w.heap.size, 5, none⟩ = some (.slice A n c) := (cell_of_row w1 _ 5 _ _ _ g1).trans e5
  have G1 := Lib.hid g1
  have G2 := Lib.hid g2
  clear o1 b1 g1 g2
  go_wp2_with (fail)
  refine (h2.out _ (B1.out.setCell (Nat.le_refl _) _)).mono ?_; rintro e w2 ⟨v2, rfl, o2, b2⟩
  obtain ⟨A4, c4, rfl, hn4, _⟩ := o2.slice
  have k1 : w2.heap[w.heap.size]? = some (.cells (cs.setIfInBounds 5 (.slice A3 n c3)) 28 (0, 0)) := (b2.block w.heap.size (by rw [set_size]; omega)).trans (setCell_blk (k := 5) (a := .slice A3 n c3) G1.out)
  have k2 := (b2.block (w.heap.size + 1) (by rw [set_size]; omega)).trans ((Below.heap_setCell _ _ _ _ (by simp)).trans G2.out)
  have B2 := Lib.hid ((B1.out.setCell (Nat.le_refl _) _ : Below w.heap.size w (w1.setCell ⟨w.heap.size, 5, none⟩ (.slice A3 n c3))).trans (b2.mono (by rw [set_size]; omega)))
  have s2 : w.heap.size + 1 < w2.heap.size := (Array.getElem?_eq_some_iff.1 k2).1
  have O1' := Lib.hid ((O1.out.setBelow (p := ⟨w.heap.size, 5, none⟩) (by simp; omega) (.slice A3 n c3)).below b2)
  have O2 := Lib.hid o2
  have hf2 : ∀ j, w2.frozen? ⟨w.heap.size, j, none⟩ = false := fun j => by simp [World.frozen?, k1]
  have z10 : w2.cell? ⟨w.heap.size, 10, none⟩ = some (.slice A2 m c2) := by rw [cell_of_row w2 _ 10 _ _ _ k1, Array.getElem?_setIfInBounds_ne (by decide)]; exact e10
  have K1 := Lib.hid k1
  have K2 := Lib.hid k2
  have HG : Hid ((w2.setCell ⟨w.heap.size, 10, none⟩ (.slice A4 m c4)).heap[w.heap.size]? = some (.cells (jbA x A3 c3 A4 c4) 28 (0, 0))) := by
    show _ = _
    rw [setCell_blk (k := 10) (a := .slice A4 m c4) K1.out, HJ.out]
  have HG2 : Hid ((w2.setCell ⟨w.heap.size, 10, none⟩ (.slice A4 m c4)).heap[w.heap.size + 1]? = _) := (Below.heap_setCell _ _ _ _ (by simp)).trans K2.out
  clear k1 k2 o2 b2 c5 c10 hf1
  go_wp2_with (first
    | (refine wpList_load_row rfl 28 _ rfl w.heap.size rfl 28 _ (0, 0) _ HG.out Tryz.underlying28 rfl (info30 (jbA_size _ _ _ _ _)) ?_)
    | (refine wpList_store_row rfl 28 _ _ rfl (w.heap.size + 1) _ rfl rfl 28 _ HG2.out (info30 (jbA_size _ _ _ _ _)) rfl (jbA_one _ _ _ _ _) ?_))
  (try simp only [Exit.inBlock, Exit.then])
  refine bodyPost_ret (results_cell_row rfl _ _ (w.heap.size + 1) _ _ _ _ rfl (setRow_heap _ _ _ _ _ _ HG2.out) Tryz.underlying28 rfl (info30 (jbA_size _ _ _ _ _))) rfl ?_
  refine ⟨A3, c3, A4, c4, rfl, ⟨?_, ?_, ?_, ?_, ?_, ?_⟩, ⟨?_, ?_⟩, ?_⟩
  · rw [HN.out]
    exact ((O1'.out.setBelow (p := ⟨w.heap.size, 10, none⟩) (by simp; omega) _).row (by simp) _).reads
  · rw [HM.out]
    exact ((O2.out.setBelow (p := ⟨w.heap.size, 10, none⟩) (by simp [World.setCell]; omega) _).row (by simp [World.setCell]; omega) _).reads
  · rw [HN.out]; exact hl1
  · rw [HM.out]; exact hl2
  · rw [HN.out]; exact hn3
  · rw [HM.out]; exact hn4
  · rw [HN.out]; exact O1'.out.off.mono (by simp; omega)
  · rw [HM.out]; exact O2.out.off.mono (by simp [World.setCell]; omega)
  · exact below_row (B2.out.setCell (p := ⟨w.heap.size, 10, none⟩) (Nat.le_refl _) _) (by omega) _
end Go.Proofs.YtghmcdfmbjabnaaGreatDoor
