/- Layer 16: DepsOnce walked (printed by a program of my own). -/
import Derived.Test.YtghmcdfmbjabnaaGreatDoorDp4x
import Derived.Test.YtghmcdfmbjabnaaGreatDoorQ0t
import Derived.Test.YtghmcdfmbjabnaaGreatDoorT2t
import Derived.Test.YtghmcdfmbjabnaaGreatDoorQ9t
import Derived.Deep.DeepCutAuto
import Derived.Deep.CutBlock
namespace Go.Proofs.YtghmcdfmbjabnaaGreatDoor
set_option linter.unusedVariables false
open Go.RowKit
theorem elig_at {l : List Jb} {i : Nat} {id : Int} (h : tabB l = true) (hi : (eligP l)[i]? = some id) : ∃ x, findP l id = (x, true) ∧ x.state = 1 ∧ x.held = false ∧ metP l x = true ∧ okJ x = true ∧ x.id = id := by
  have he : eligP l = eligC (stQ l) l := by unfold eligP; rw [h]; rfl
  rw [he] at hi
  obtain ⟨x, hx, hid⟩ := List.mem_map.1 (List.mem_of_getElem? hi)
  rw [List.mem_filter] at hx
  obtain ⟨hm, hq⟩ := hx
  unfold eligQ at hq
  simp only [Bool.and_eq_true, beq_iff_eq, Bool.not_eq_true'] at hq
  obtain ⟨k, hk⟩ := List.getElem?_of_mem hm
  refine ⟨x, ?_, hq.1, hq.2.1, ?_, ((tab_iff.1 h).2.1 x hm).1, hid⟩
  · rw [← hid]; exact findP_yes h (pos_of (tab_iff.1 h).2.2 hk) hk
  · unfold metP; rw [h, Bool.true_and]; exact hq.2.2
theorem elig_asc {l : List Jb} {i j : Nat} {a b : Int} (h : tabB l = true) (ha : (eligP l)[i]? = some a) (hb : (eligP l)[j]? = some b) (hij : i < j) : a < b := by
  have he : eligP l = eligC (stQ l) l := by unfold eligP; rw [h]; rfl
  rw [he] at ha hb
  have hp : (eligC (stQ l) l).Pairwise (· < ·) := by
    unfold eligC
    rw [List.pairwise_map]
    exact (List.Pairwise.filter _ (tab_iff.1 h).2.2)
  obtain ⟨h1, rfl⟩ := List.getElem?_eq_some_iff.1 ha
  obtain ⟨h2, rfl⟩ := List.getElem?_eq_some_iff.1 hb
  exact List.pairwise_iff_getElem.1 hp i j h1 h2 hij
theorem over16_r {r : JR} {B : Nat} {w : World} (h : JrAt w B r) (hB : B ≤ w.heap.size) : Calls Tryz.prog 35 #[.agg (jrC r).toArray] w fun e w' => e = .returned (.bool (okJ r.x && endedB r.x.state)) ∧ Below w.heap.size w w' :=
  over14_any r.x r.A r.A2 r.c r.c2 B w h.1 hB h.2
theorem over_q {x : Jb} (h : x.state = 1) : (okJ x && endedB x.state) = false := by
  rw [h]
  have : endedB 1 = false := rfl
  rw [this, Bool.and_false]
set_option linter.unusedSimpArgs false in
set_option maxHeartbeats 8000000 in
set_option maxRecDepth 100000 in
theorem depsOnce_walk (l : List JR) (r0 : JR) (A : Option Addr) (n c : Nat) (w : World) (hr : Reads w w.heap.size 20 A n (recs jrC l)) (hl : ∀ r ∈ l, JbIn w r.x r.A r.c r.A2 r.c2) (h0 : JbIn w r0.x r0.A r0.c r0.A2 r0.c2) (hwd : ∀ d ∈ r0.x.after, wfI d.2) (hnc : n ≤ c) (hcm : c ≤ maxLen) :
    Calls Tryz.prog 10 #[.slice A n c, .agg (jrC r0).toArray] w fun e w' => e = .returned (.bool true) ∧ Below w.heap.size w w' := by
  have f1 := Lib.hid (fun v (hv : Below w.heap.size w v) => few15_any l A n c w.heap.size v (hr.below hv) hv.size)
  have f2 := Lib.hid (fun v => few_r r0 v)
  have HAT := Lib.hid (fun h : fewJ r0.x = true => jrD_in h0 h)
  have HT0 := Lib.hid (fun h : fewT15 (jobs l) = true => tabD_in hr hl h)
  have CSA := Lib.hid (jrA_info r0)
  have HM := Lib.hid (fun (h1 : fewT15 (jobs l) = true) (h2 : fewJ r0.x = true) v (hv : Below w.heap.size w v) => dmet_any l A n c r0 v.heap.size v ((tabD_in hr hl h1).up hv) ((jrD_in h0 h2).up hv) (Nat.le_refl _) hwd)
  have HD := Lib.hid (fun (h1 : fewT15 (jobs l) = true) (h2 : fewJ r0.x = true) v (hv : Below w.heap.size w v) => ddoomed_any l A n c r0 v.heap.size v ((tabD_in hr hl h1).up hv) ((jrD_in h0 h2).up hv) (Nat.le_refl _) hwd)
  obtain ⟨cs, hcs⟩ : ∃ cs, Hid (jrC r0 = cs) := ⟨_, rfl⟩
  obtain ⟨P1, hP1⟩ : ∃ P, Hid (metP (jobs l) r0.x = P) := ⟨_, rfl⟩
  obtain ⟨P2, hP2⟩ : ∃ P, Hid (doomedP (jobs l) r0.x = P) := ⟨_, rfl⟩
  have HONE : Hid ((P1 && P2) = false) := by
    show _ = _
    rw [← hP1.out, ← hP2.out]
    unfold metP doomedP
    cases tabB (jobs l)
    · rfl
    · rw [Bool.true_and, Bool.true_and]; exact once_f _ _
  rw [hP1.out] at HM
  rw [hP2.out] at HD
  rw [hcs.out] at f2 CSA HM HD  ⊢
  obtain ⟨x, hx⟩ : ∃ x, r0.x = x := ⟨_, rfl⟩
  rw [hx] at f2 HAT HM HD 
  have J0 : Hid ((w.alloc (.cells cs.toArray 28)).heap[w.heap.size]? = some (.cells cs.toArray 28 (0, 0))) := heap_alloc_new w _
  clear hr hl h0 hwd hx hcs hP1 hP2
  cases z1 : fewT15 (jobs l)
  case false =>
    rw [z1] at f1
    clear f2 HAT HT0 HM HD 
    go_enter Tryz.func10, Tryz.ntmps10
    go_wp2_with (fail)
    refine (f1.out _ bx0).mono ?_; rintro e w1 ⟨rfl, hw1⟩
    go_wp2_with (fail)
    refine (awake16_any _).mono ?_; rintro e wz ⟨rfl, hwz⟩
    go_wp2
    go_ret
    exact ⟨rfl, bt (bt bx0 hw1) hwz⟩
  rw [z1] at f1
  cases z2 : fewJ x
  case false =>
    rw [z2] at f2
    clear HAT HT0 HM HD 
    go_enter Tryz.func10, Tryz.ntmps10
    go_wp2_with (fail)
    refine (f1.out _ bx0).mono ?_; rintro e w1 ⟨rfl, hw1⟩
    obtain ⟨g1, hb1, s1⟩ := box_row hw1
    have G1 := Lib.hid g1
    clear g1 hw1
    go_wp2_with (refine wpList_load_row_g (by kernel_rfl) 28 _ rfl (w.heap.size) rfl 28 _ (0, 0) _ G1.out Tryz.underlying28 rfl CSA.out ?_)
    refine (f2.out _).mono ?_; rintro e w2 ⟨rfl, hw2⟩
    go_wp2_with (fail)
    refine (awake16_any _).mono ?_; rintro e wz ⟨rfl, hwz⟩
    go_wp2
    go_ret
    exact ⟨rfl, bt (bt hb1 hw2) hwz⟩
  rw [z2] at f2
  have HT := Lib.hid (HT0.out z1)
  have HM1 := Lib.hid (HM.out z1 z2)
  have HD1 := Lib.hid (HD.out z1 z2)
  skip
  have hlj : Hid ((jobs l).length = n) := (jobs_len l).trans HT.out.len
  have hn1 : n ≤ 1000 := HT.out.2.2
  clear HAT HT0 HM HD  z1 z2
  go_enter Tryz.func10, Tryz.ntmps10
  go_wp2_with (fail)
  refine (f1.out _ bx0).mono ?_; rintro e w1 ⟨rfl, hw1⟩
  obtain ⟨g1, hb1, s1⟩ := box_row hw1
  have G1 := Lib.hid g1
  have B1 := Lib.hid hb1
  clear g1 hw1
  go_wp2_with (refine wpList_load_row_g (by kernel_rfl) 28 _ rfl (w.heap.size) rfl 28 _ (0, 0) _ G1.out Tryz.underlying28 rfl CSA.out ?_)
  refine (f2.out _).mono ?_; rintro e w2 ⟨rfl, hw2⟩
  have G2 := Lib.hid ((hw2.block _ s1).trans G1.out)
  have s2 : w.heap.size < w2.heap.size := Nat.lt_of_lt_of_le s1 hw2.size
  have B2 := Lib.hid (bt B1.out hw2)
  clear hw2 hb1 f1 f2 G1 s1
  have qM := Lib.hid (HM1.out w2 B2.out)
  have HM2 := Lib.hid HM1.out
  clear HM1
  go_upto_region 3 with (fail)
  go_cut [25] (fun v w4 => v = .bool false ∧ Hid (Below w.heap.size w w4))
  case first =>
    go_wp2_with (refine wpList_load_row rfl 28 _ rfl (w.heap.size) rfl 28 _ (0, 0) _ G2.out Tryz.underlying28 rfl CSA.out ?_)
    refine qM.out.mono ?_; rintro e w3 ⟨rfl, hw3⟩
    have G3 := Lib.hid ((hw3.block _ s2).trans G2.out)
    have B3 := Lib.hid (bt B2.out hw3)
    have qD := Lib.hid (HD1.out w3 B3.out)
    clear hw3 HD1 qM
    cases P1
    case false =>
      go_wp2_with (fail)
      go_meet
      exact ⟨rfl, B3⟩
    have hp2 : P2 = false := HONE.out
    subst hp2
    go_wp2_with (refine wpList_load_row_g (by kernel_rfl) 28 _ rfl (w.heap.size) rfl 28 _ (0, 0) _ G3.out Tryz.underlying28 rfl CSA.out ?_)
    refine qD.out.mono ?_; rintro e w4 ⟨rfl, hw4⟩
    go_wp2_with (fail)
    go_meet
    exact ⟨rfl, Lib.hid (bt B3.out hw4)⟩
  case rest =>
    obtain ⟨rfl, B3⟩ := hcut
    have qe := Lib.hid (delig_any l A n c wc.heap.size wc (HT.out.up B3.out) (Nat.le_refl _))
    have qf := Lib.hid (fun id v (hv : Below w.heap.size w v) => find_any l A n c v.heap.size id v (HT.out.up hv) (Nat.le_refl _) hnc hcm)
    have qc := Lib.hid (fun (r : JR) v (hv : Below w.heap.size w v) (hr : JrAt v v.heap.size r) (hw : ∀ d ∈ r.x.after, wfI d.2) => dmet_any l A n c r v.heap.size v (HT.out.up hv) hr (Nat.le_refl _) hw)
    have HL : Hid ((eligP (jobs l)).length ≤ 1000) := by have := eligP_len (jobs l); rw [hlj.out] at this; show _ ≤ _; omega
    have HZE : Hid (tabB (jobs l) = false → (eligP (jobs l)).length = 0) := Lib.hid (fun h => by unfold eligP; rw [h]; rfl)
    clear HD1 HONE qM G2 HT hlj B2 s2 HM2
    go_wp2_with (fail)
    refine qe.out.mono ?_; rintro e w5 ⟨v5, rfl, o5, hw5⟩
    obtain ⟨A6, c6, rfl, hc6, _⟩ := o5.slice
    have O5 := Lib.hid o5
    have B4 := Lib.hid (bt B3.out hw5)
    obtain ⟨ids, hids⟩ : ∃ i, Hid (eligP (jobs l) = i) := ⟨_, rfl⟩
    rw [hids.out] at O5 HL HZE ⊢
    obtain ⟨m, hm⟩ : ∃ m, ids.length = m := ⟨_, rfl⟩
    rw [hm] at O5 HL HZE ⊢
    have HMM := Lib.hid hm
    have hm1 : m ≤ 1000 := HL.out
    clear hw5 o5 qe hm HL
    go_wp2
    go_loopw [6] (fun i wr => ∃ k : Nat, k ≤ m ∧ i = .int .i64 k ∧ Hid (Below w5.heap.size w5 wr)) (fun i _ => m - (intOf i).toNat)
    case atStart => exact ⟨0, Nat.zero_le _, rfl, Below.refl _ _⟩
    case round =>
      obtain ⟨k, hk, rfl, hbw⟩ := hrel
      by_cases hlt : k < m
      · have zt : tabB (jobs l) = true := by
          cases h : tabB (jobs l)
          · have := HZE.out h; omega
          · rfl
        have hlm : k < ids.length := by rw [HMM.out]; exact hlt
        have hidk : ids[k]? = some ids[k] := List.getElem?_eq_getElem hlm
        obtain ⟨id, hid⟩ : ∃ id, ids[k] = id := ⟨_, rfl⟩
        rw [hid] at hidk
        obtain ⟨x, x1, x2, x3, x4, x5, x6⟩ := elig_at zt (by rw [hids.out]; exact hidk)
        have HASC := Lib.hid (fun p a (ha : ids[p]? = some a) (hp : p < k) => elig_asc zt (by rw [hids.out]; exact ha) (by rw [hids.out]; exact hidk) hp)
        obtain ⟨g6, cg, e6, _, hg6, _, _, hcell, _⟩ := (O5.out.below hbw.out).at_ (by omega)
        simp only [Value.slice.injEq, true_and] at e6
        obtain ⟨rfl, rfl⟩ := e6
        have HC := Lib.hid (fun p a (ha : ids[p]? = some a) => hcell p (.int .i64 a) (by unfold ints; rw [List.getElem?_map, ha]; rfl))
        have y0 := HC.out k id hidk
        have hi0 : (0 : Int) ≤ (k : Int) := by omega
        have hi1 : (k : Int) < (m : Int) := by omega
        have t0 : decide ((k : Int) < (m : Int)) = true := by simp; omega
        have Q0 := qf.out id wr (bt B4.out hbw.out)
        rw [x1] at Q0
        have Q := Lib.hid Q0
        clear Q0 hcell hid
        go_wp2_with (fail)
        refine Q.out.mono ?_; rintro e w7 ⟨r5, hx5, rfl, A5, OF5, hb5⟩
        obtain ⟨W7, hs7, j7, b7, z7⟩ := boxed w7 (jrC r5).toArray
        have hstore := Lib.hid hs7
        have J7 := Lib.hid j7
        have hbA := hb5
        have B7 := Lib.hid (bt hb5 b7)
        have DSI := Lib.hid (jrA_info r5)
        have DS2 := Lib.hid (jrA_20 r5)
        have DS1 := Lib.hid (jrA_all r5)
        have hx5' : r5.x = x := hx5
        have A7 := Lib.hid (A5.up b7)
        have qm0 := Lib.hid (fun v (hv : Below W7.heap.size W7 v) => qc.out r5 v (bt B4.out (bt hbw.out (bt B7.out hv))) (A7.out.up hv) (by rw [hx5']; exact ok_wf x5))
        have qo0 := Lib.hid (fun v (hv : Below W7.heap.size W7 v) => over16_r (r := r5) (A7.out.up hv) (Nat.le_refl _))
        rw [hx5', x4] at qm0
        rw [hx5', over_q x2] at qo0
        have qm := qm0
        have qo := qo0
        have e11 : (jrC r5).toArray[11]? = some (.int .i64 1) := by
          have h : (jrC r5).toArray[11]? = some (.int .i64 r5.x.state) := rfl
          rw [h, hx5', x2]
        have e12 : (jrC r5).toArray[12]? = some (.bool false) := by
          have h : (jrC r5).toArray[12]? = some (.bool r5.x.held) := rfl
          rw [h, hx5', x3]
        obtain ⟨ds, hds⟩ : ∃ ds, Hid ((jrC r5).toArray = ds) := ⟨_, rfl⟩
        rw [hds.out] at hstore J7 DSI DS2 DS1 qm qo e11 e12 ⊢
        have u11 : W7.cell? ⟨w7.heap.size, 11, none⟩ = some (.int .i64 1) := (cell_of_row W7 _ 11 _ _ _ J7.out).trans e11
        have u12 : W7.cell? ⟨w7.heap.size, 12, none⟩ = some (.bool false) := (cell_of_row W7 _ 12 _ _ _ J7.out).trans e12
        have HC7 := Lib.hid (fun p a (ha : ids[p]? = some a) => ((B7.out.cell (p := ⟨g6, p, none⟩) hg6).trans (HC.out p a ha) : W7.cell? ⟨g6, p, none⟩ = some (.int .i64 a)))
        have y7 := HC7.out k id hidk
        have hg7 : g6 < W7.heap.size := Nat.lt_of_lt_of_le hg6 B7.out.size
        clear hs7 j7 b7 hb5 hbA qm0 qo0 Q hx5 hx5' A5 A7 OF5 x1 x2 x3 x4 x5 x6 y0 e11 e12 hds
        go_upto_region 10 with (refine wpList_store_row rfl 28 _ _ rfl (w7.heap.size) ds rfl rfl 28 _ (heap_alloc_new w7 _) DSI.out (by show 20 = _; exact DS2.out) DS1.out ?_; rw [hstore.out])
        rcases Nat.eq_zero_or_pos k with hk0 | hk0
        · have t3 : decide ((0 : Int) < (k : Int)) = false := by simp; omega
          have t3' : decide (0 < k) = false := by simp; omega
          clear hk0
          refine wp_region_held_drew (S := (fun w' => (∀ b o, b < W7.heap.size → w'.cell? ⟨b, o, none⟩ = W7.cell? ⟨b, o, none⟩) ∧ Below W7.heap.size W7 w')) (by kernel_rfl) ?_ (fun hHeld => ?_)
          · (try dsimp only); (first | assumption | exact hk_drew | exact hk_call (by assumption) (by assumption) | exact hk_mk (by assumption) | (refine hk_alloc (by assumption) _) | (refine hk_row (by assumption) (by first | exact Nat.le_refl _ | exact hk_size (by assumption) | omega | (simp; done) | (simp; omega)) _) | (refine hk_set (by assumption) (by first | exact Nat.le_refl _ | exact hk_size (by assumption) | omega | (simp; done) | (simp; omega)) _))
          refine wpAnyH_take (i := 0) (oi := ⟨_, _, _, _, _, _⟩) (v := ?v_1) rfl (by kernel_rfl) (by kernel_rfl) (by kernel_rfl) (fun _ _ _ h => h) (Or.inl ⟨by rfl, ?hy_1⟩) (by assumption) ?r_1
          case hy_1 => (intro w_ hS_; (try dsimp only at hS_); go_simp; try with_reducible rfl)
          try simp only [Act.put, List.setIfInBounds_toArray, List.set_cons_zero, List.set_cons_succ]
          refine wpAnyH_take (i := 1) (oi := ⟨_, _, _, _, _, _⟩) (v := ?v_2) rfl (by kernel_rfl) (by kernel_rfl) (by kernel_rfl) (fun _ _ _ h => h) (Or.inl ⟨by rfl, ?hy_2⟩) (by assumption) ?r_2
          case hy_2 => (intro w_ hS_; (try dsimp only at hS_); go_simp; try with_reducible rfl)
          try simp only [Act.put, List.setIfInBounds_toArray, List.set_cons_zero, List.set_cons_succ]
          refine wpAnyH_take (i := 2) (oi := ⟨_, _, _, _, _, _⟩) (v := ?v_3) rfl (by kernel_rfl) (by kernel_rfl) (by kernel_rfl) (fun _ _ _ h => h) (Or.inl ⟨by rfl, ?hy_3⟩) (by assumption) ?r_3
          case hy_3 => (intro w_ hS_; (try dsimp only at hS_); go_simp; try with_reducible rfl)
          try simp only [Act.put, List.setIfInBounds_toArray, List.set_cons_zero, List.set_cons_succ]
          refine wpAnyH_take (i := 3) (oi := ⟨_, _, _, _, _, _⟩) (v := ?v_4) rfl (by kernel_rfl) (by kernel_rfl) (by kernel_rfl) (fun _ _ _ h => h) (Or.inl ⟨by rfl, ?hy_4⟩) (by assumption) ?r_4
          case hy_4 => (intro w_ hS_; (try dsimp only at hS_); go_simp; try with_reducible rfl)
          try simp only [Act.put, List.setIfInBounds_toArray, List.set_cons_zero, List.set_cons_succ]
          first
            | (refine wpAnyH_take (i := 4) (oi := ⟨_, _, _, _, _, _⟩) (v := (.agg ds)) rfl (by kernel_rfl) (by kernel_rfl) (by kernel_rfl) (fun _ _ _ h => h) (Or.inl ⟨by rfl, yl_row 28 _ (by rfl) (w7.heap.size) (by rfl) 28 _ (0, 0) _ (fun w_ h_ => hk_block h_ J7.out) Tryz.underlying28 rfl (DSI.out)⟩) (by assumption) ?_)
            | (refine wpAnyH_take (i := 4) (oi := ⟨_, _, _, _, _, _⟩) (v := ?v_5) rfl (by kernel_rfl) (by kernel_rfl) (by kernel_rfl) (fun _ _ _ h => h) (Or.inl ⟨by rfl, ?hy_5⟩) (by assumption) ?r_5; case hy_5 => (intro w_ hS_; (try dsimp only at hS_); go_simp; try with_reducible rfl))
          try simp only [Act.put, List.setIfInBounds_toArray, List.set_cons_zero, List.set_cons_succ]
          refine wpAnyH_take (i := 5) (oi := ⟨_, _, _, _, _, _⟩) (v := ?v_6) rfl (by kernel_rfl) (by kernel_rfl) (by kernel_rfl) (fun _ _ _ h => h) (Or.inl ⟨by rfl, ?hy_6⟩) (by assumption) ?r_6
          case hy_6 => (intro w_ hS_; (try dsimp only at hS_); go_simp; try with_reducible rfl)
          try simp only [Act.put, List.setIfInBounds_toArray, List.set_cons_zero, List.set_cons_succ]
          refine wpAnyH_take (i := 6) (oi := ⟨_, _, _, _, _, _⟩) (v := ?v_7) rfl (by kernel_rfl) (by kernel_rfl) (by kernel_rfl) (fun _ _ _ h => h) (Or.inl ⟨by rfl, ?hy_7⟩) (by assumption) ?r_7
          case hy_7 => (intro w_ hS_; (try dsimp only at hS_); go_simp; try with_reducible rfl)
          try simp only [Act.put, List.setIfInBounds_toArray, List.set_cons_zero, List.set_cons_succ]
          refine wpAnyH_take (i := 7) (oi := ⟨_, _, _, _, _, _⟩) (v := ?v_8) rfl (by kernel_rfl) (by kernel_rfl) (by kernel_rfl) (fun _ _ _ h => h) (Or.inl ⟨by rfl, ?hy_8⟩) (by assumption) ?r_8
          case hy_8 => (intro w_ hS_; (try dsimp only at hS_); go_simp; try with_reducible rfl)
          try simp only [Act.put, List.setIfInBounds_toArray, List.set_cons_zero, List.set_cons_succ]
          refine wpAnyH_take (i := 8) (oi := ⟨_, _, _, _, _, _⟩) (v := ?v_9) rfl (by kernel_rfl) (by kernel_rfl) (by kernel_rfl) (fun _ _ _ h => h) (Or.inl ⟨by rfl, ?hy_9⟩) (by assumption) ?r_9
          case hy_9 => (intro w_ hS_; (try dsimp only at hS_); go_simp; try with_reducible rfl)
          try simp only [Act.put, List.setIfInBounds_toArray, List.set_cons_zero, List.set_cons_succ]
          first
            | (refine wpAnyH_take (i := 9) (oi := ⟨_, _, _, _, _, _⟩) (v := (.agg ds)) rfl (by kernel_rfl) (by kernel_rfl) (by kernel_rfl) (fun _ _ _ h => h) (Or.inl ⟨by rfl, yl_row 28 _ (by rfl) (w7.heap.size) (by rfl) 28 _ (0, 0) _ (fun w_ h_ => hk_block h_ J7.out) Tryz.underlying28 rfl (DSI.out)⟩) (by assumption) ?_)
            | (refine wpAnyH_take (i := 9) (oi := ⟨_, _, _, _, _, _⟩) (v := ?v_10) rfl (by kernel_rfl) (by kernel_rfl) (by kernel_rfl) (fun _ _ _ h => h) (Or.inl ⟨by rfl, ?hy_10⟩) (by assumption) ?r_10; case hy_10 => (intro w_ hS_; (try dsimp only at hS_); go_simp; try with_reducible rfl))
          try simp only [Act.put, List.setIfInBounds_toArray, List.set_cons_zero, List.set_cons_succ]
          refine wpAnyH_take (i := 10) (oi := ⟨_, _, _, _, _, _⟩) (v := ?v_11) rfl (by kernel_rfl) (by kernel_rfl) (by kernel_rfl) (fun _ _ _ h => h) (Or.inl ⟨by rfl, ?hy_11⟩) (by assumption) ?r_11
          case hy_11 => (intro w_ hS_; (try dsimp only at hS_); go_simp; try with_reducible rfl)
          try simp only [Act.put, List.setIfInBounds_toArray, List.set_cons_zero, List.set_cons_succ]
          refine wpAnyH_take (i := 11) (oi := ⟨_, _, _, _, _, _⟩) (v := ?v_12) rfl (by kernel_rfl) (by kernel_rfl) (by kernel_rfl) (fun _ _ _ h => h) (Or.inl ⟨by rfl, ?hy_12⟩) (by assumption) ?r_12
          case hy_12 => (intro w_ hS_; (try dsimp only at hS_); go_simp; try with_reducible rfl)
          try simp only [Act.put, List.setIfInBounds_toArray, List.set_cons_zero, List.set_cons_succ]
          refine wpAnyH_take (i := 12) (oi := ⟨_, _, _, _, _, _⟩) (v := ?v_13) rfl (by kernel_rfl) (by kernel_rfl) (by kernel_rfl) (fun _ _ _ h => h) (Or.inl ⟨by rfl, ?hy_13⟩) (by assumption) ?r_13
          case hy_13 => (intro w_ hS_; (try dsimp only at hS_); go_simp; try with_reducible rfl)
          try simp only [Act.put, List.setIfInBounds_toArray, List.set_cons_zero, List.set_cons_succ]
          first
            | (refine wpAnyH_take (i := 13) (oi := ⟨_, _, _, _, _, _⟩) (v := (.agg ds)) rfl (by kernel_rfl) (by kernel_rfl) (by kernel_rfl) (fun _ _ _ h => h) (Or.inl ⟨by rfl, yl_row 28 _ (by rfl) (w7.heap.size) (by rfl) 28 _ (0, 0) _ (fun w_ h_ => hk_block h_ J7.out) Tryz.underlying28 rfl (DSI.out)⟩) (by assumption) ?_)
            | (refine wpAnyH_take (i := 13) (oi := ⟨_, _, _, _, _, _⟩) (v := ?v_14) rfl (by kernel_rfl) (by kernel_rfl) (by kernel_rfl) (fun _ _ _ h => h) (Or.inl ⟨by rfl, ?hy_14⟩) (by assumption) ?r_14; case hy_14 => (intro w_ hS_; (try dsimp only at hS_); go_simp; try with_reducible rfl))
          try simp only [Act.put, List.setIfInBounds_toArray, List.set_cons_zero, List.set_cons_succ]
          refine wpAnyH_ready (rs := [14]) (by kernel_rfl) (by simp) ?_
          refine AllReadyH.cons (o := ⟨_, _, _, _, _, _⟩) rfl (fun K hK => ?_) AllReadyH.nil
          go_simp
          (first | (go_at_call 38; refine (qm.out _ (And.right (by assumption))).mono ?_; rintro e wa ⟨rfl, ha⟩) | (go_at_call 35; refine (qo.out _ (And.right (by assumption))).mono ?_; rintro e wa ⟨rfl, ha⟩))
          try go_wp2_with (fail)
          refine hK.out _ _ ?_ (fun hHeld => ?_)
          · (try dsimp only); (first | exact hk_call (by assumption) (by assumption) | assumption | exact hk_mk (by assumption))
          clear hK K
          try simp only [Act.put, List.setIfInBounds_toArray, List.set_cons_zero, List.set_cons_succ]
          refine wpAnyH_take (i := 15) (oi := ⟨_, _, _, _, _, _⟩) (v := ?v_15) rfl (by kernel_rfl) (by kernel_rfl) (by kernel_rfl) (fun _ _ _ h => h) (Or.inl ⟨by rfl, ?hy_15⟩) (by assumption) ?r_15
          case hy_15 => (intro w_ hS_; (try dsimp only at hS_); go_simp; try with_reducible rfl)
          try simp only [Act.put, List.setIfInBounds_toArray, List.set_cons_zero, List.set_cons_succ]
          refine wpAnyH_take (i := 16) (oi := ⟨_, _, _, _, _, _⟩) (v := ?v_16) rfl (by kernel_rfl) (by kernel_rfl) (by kernel_rfl) (fun _ _ _ h => h) (Or.inl ⟨by rfl, ?hy_16⟩) (by assumption) ?r_16
          case hy_16 => (intro w_ hS_; (try dsimp only at hS_); go_simp; try with_reducible rfl)
          try simp only [Act.put, List.setIfInBounds_toArray, List.set_cons_zero, List.set_cons_succ]
          refine wpAnyH_take (i := 17) (oi := ⟨_, _, _, _, _, _⟩) (v := ?v_17) rfl (by kernel_rfl) (by kernel_rfl) (by kernel_rfl) (fun _ _ _ h => h) (Or.inl ⟨by rfl, ?hy_17⟩) (by assumption) ?r_17
          case hy_17 => (intro w_ hS_; (try dsimp only at hS_); go_simp; try with_reducible rfl)
          try simp only [Act.put, List.setIfInBounds_toArray, List.set_cons_zero, List.set_cons_succ]
          refine wpAnyH_take (i := 18) (oi := ⟨_, _, _, _, _, _⟩) (v := ?v_18) rfl (by kernel_rfl) (by kernel_rfl) (by kernel_rfl) (fun _ _ _ h => h) (Or.inl ⟨by rfl, ?hy_18⟩) (by assumption) ?r_18
          case hy_18 => (intro w_ hS_; (try dsimp only at hS_); go_simp; try with_reducible rfl)
          try simp only [Act.put, List.setIfInBounds_toArray, List.set_cons_zero, List.set_cons_succ]
          refine wpAnyH_take (i := 19) (oi := ⟨_, _, _, _, _, _⟩) (v := ?v_19) rfl (by kernel_rfl) (by kernel_rfl) (by kernel_rfl) (fun _ _ _ h => h) (Or.inl ⟨by rfl, ?hy_19⟩) (by assumption) ?r_19
          case hy_19 => (intro w_ hS_; (try dsimp only at hS_); go_simp; try with_reducible rfl)
          try simp only [Act.put, List.setIfInBounds_toArray, List.set_cons_zero, List.set_cons_succ]
          refine wpAnyH_take (i := 20) (oi := ⟨_, _, _, _, _, _⟩) (v := ?v_20) rfl (by kernel_rfl) (by kernel_rfl) (by kernel_rfl) (fun _ _ _ h => h) (Or.inl ⟨by rfl, ?hy_20⟩) (by assumption) ?r_20
          case hy_20 => (intro w_ hS_; (try dsimp only at hS_); go_simp; try with_reducible rfl)
          try simp only [Act.put, List.setIfInBounds_toArray, List.set_cons_zero, List.set_cons_succ]
          refine wpAnyH_take (i := 21) (oi := ⟨_, _, _, _, _, _⟩) (v := undef) rfl (by kernel_rfl) (by kernel_rfl) (by kernel_rfl) (fun _ _ _ h => h) (Or.inr ⟨by rfl, rfl⟩) (by assumption) ?_
          try simp only [Act.put, List.setIfInBounds_toArray, List.set_cons_zero, List.set_cons_succ]
          refine wpAnyH_take (i := 22) (oi := ⟨_, _, _, _, _, _⟩) (v := undef) rfl (by kernel_rfl) (by kernel_rfl) (by kernel_rfl) (fun _ _ _ h => h) (Or.inr ⟨by rfl, rfl⟩) (by assumption) ?_
          try simp only [Act.put, List.setIfInBounds_toArray, List.set_cons_zero, List.set_cons_succ]
          refine wpAnyH_take (i := 23) (oi := ⟨_, _, _, _, _, _⟩) (v := undef) rfl (by kernel_rfl) (by kernel_rfl) (by kernel_rfl) (fun _ _ _ h => h) (Or.inr ⟨by rfl, rfl⟩) (by assumption) ?_
          try simp only [Act.put, List.setIfInBounds_toArray, List.set_cons_zero, List.set_cons_succ]
          refine wpAnyH_take (i := 24) (oi := ⟨_, _, _, _, _, _⟩) (v := undef) rfl (by kernel_rfl) (by kernel_rfl) (by kernel_rfl) (fun _ _ _ h => h) (Or.inr ⟨by rfl, rfl⟩) (by assumption) ?_
          try simp only [Act.put, List.setIfInBounds_toArray, List.set_cons_zero, List.set_cons_succ]
          refine wpAnyH_take (i := 25) (oi := ⟨_, _, _, _, _, _⟩) (v := undef) rfl (by kernel_rfl) (by kernel_rfl) (by kernel_rfl) (fun _ _ _ h => h) (Or.inr ⟨by rfl, rfl⟩) (by assumption) ?_
          try simp only [Act.put, List.setIfInBounds_toArray, List.set_cons_zero, List.set_cons_succ]
          refine wpAnyH_take (i := 26) (oi := ⟨_, _, _, _, _, _⟩) (v := undef) rfl (by kernel_rfl) (by kernel_rfl) (by kernel_rfl) (fun _ _ _ h => h) (Or.inr ⟨by rfl, rfl⟩) (by assumption) ?_
          try simp only [Act.put, List.setIfInBounds_toArray, List.set_cons_zero, List.set_cons_succ]
          refine wpAnyH_take (i := 27) (oi := ⟨_, _, _, _, _, _⟩) (v := undef) rfl (by kernel_rfl) (by kernel_rfl) (by kernel_rfl) (fun _ _ _ h => h) (Or.inr ⟨by rfl, rfl⟩) (by assumption) ?_
          try simp only [Act.put, List.setIfInBounds_toArray, List.set_cons_zero, List.set_cons_succ]
          refine wpAnyH_take (i := 28) (oi := ⟨_, _, _, _, _, _⟩) (v := undef) rfl (by kernel_rfl) (by kernel_rfl) (by kernel_rfl) (fun _ _ _ h => h) (Or.inr ⟨by rfl, rfl⟩) (by assumption) ?_
          try simp only [Act.put, List.setIfInBounds_toArray, List.set_cons_zero, List.set_cons_succ]
          refine wpAnyH_take (i := 29) (oi := ⟨_, _, _, _, _, _⟩) (v := undef) rfl (by kernel_rfl) (by kernel_rfl) (by kernel_rfl) (fun _ _ _ h => h) (Or.inr ⟨by rfl, rfl⟩) (by assumption) ?_
          try simp only [Act.put, List.setIfInBounds_toArray, List.set_cons_zero, List.set_cons_succ]
          refine wpAnyH_take (i := 30) (oi := ⟨_, _, _, _, _, _⟩) (v := undef) rfl (by kernel_rfl) (by kernel_rfl) (by kernel_rfl) (fun _ _ _ h => h) (Or.inr ⟨by rfl, rfl⟩) (by assumption) ?_
          try simp only [Act.put, List.setIfInBounds_toArray, List.set_cons_zero, List.set_cons_succ]
          refine wpAnyH_take (i := 31) (oi := ⟨_, _, _, _, _, _⟩) (v := ?v_31) rfl (by kernel_rfl) (by kernel_rfl) (by kernel_rfl) (fun _ _ _ h => h) (Or.inl ⟨by rfl, ?hy_31⟩) (by assumption) ?r_31
          case hy_31 => (intro w_ hS_; (try dsimp only at hS_); go_simp; try with_reducible rfl)
          try simp only [Act.put, List.setIfInBounds_toArray, List.set_cons_zero, List.set_cons_succ]
          refine wpAnyH_take (i := 32) (oi := ⟨_, _, _, _, _, _⟩) (v := ?v_32) rfl (by kernel_rfl) (by kernel_rfl) (by kernel_rfl) (fun _ _ _ h => h) (Or.inl ⟨by rfl, ?hy_32⟩) (by assumption) ?r_32
          case hy_32 => (intro w_ hS_; (try dsimp only at hS_); go_simp; try with_reducible rfl)
          try simp only [Act.put, List.setIfInBounds_toArray, List.set_cons_zero, List.set_cons_succ]
          refine wpAnyH_take (i := 33) (oi := ⟨_, _, _, _, _, _⟩) (v := ?v_33) rfl (by kernel_rfl) (by kernel_rfl) (by kernel_rfl) (fun _ _ _ h => h) (Or.inl ⟨by rfl, ?hy_33⟩) (by assumption) ?r_33
          case hy_33 => (intro w_ hS_; (try dsimp only at hS_); go_simp; try with_reducible rfl)
          try simp only [Act.put, List.setIfInBounds_toArray, List.set_cons_zero, List.set_cons_succ]
          first
            | (refine wpAnyH_take (i := 34) (oi := ⟨_, _, _, _, _, _⟩) (v := (.agg ds)) rfl (by kernel_rfl) (by kernel_rfl) (by kernel_rfl) (fun _ _ _ h => h) (Or.inl ⟨by rfl, yl_row 28 _ (by rfl) (w7.heap.size) (by rfl) 28 _ (0, 0) _ (fun w_ h_ => hk_block h_ J7.out) Tryz.underlying28 rfl (DSI.out)⟩) (by assumption) ?_)
            | (refine wpAnyH_take (i := 34) (oi := ⟨_, _, _, _, _, _⟩) (v := ?v_34) rfl (by kernel_rfl) (by kernel_rfl) (by kernel_rfl) (fun _ _ _ h => h) (Or.inl ⟨by rfl, ?hy_34⟩) (by assumption) ?r_34; case hy_34 => (intro w_ hS_; (try dsimp only at hS_); go_simp; try with_reducible rfl))
          try simp only [Act.put, List.setIfInBounds_toArray, List.set_cons_zero, List.set_cons_succ]
          refine wpAnyH_ready (rs := [35]) (by kernel_rfl) (by simp) ?_
          refine AllReadyH.cons (o := ⟨_, _, _, _, _, _⟩) rfl (fun K hK => ?_) AllReadyH.nil
          go_simp
          (first | (go_at_call 38; refine (qm.out _ (And.right (by assumption))).mono ?_; rintro e wa ⟨rfl, ha⟩) | (go_at_call 35; refine (qo.out _ (And.right (by assumption))).mono ?_; rintro e wa ⟨rfl, ha⟩))
          try go_wp2_with (fail)
          refine hK.out _ _ ?_ (fun hHeld => ?_)
          · (try dsimp only); (first | exact hk_call (by assumption) (by assumption) | assumption | exact hk_mk (by assumption))
          clear hK K
          try simp only [Act.put, List.setIfInBounds_toArray, List.set_cons_zero, List.set_cons_succ]
          refine wpAnyH_take (i := 36) (oi := ⟨_, _, _, _, _, _⟩) (v := ?v_35) rfl (by kernel_rfl) (by kernel_rfl) (by kernel_rfl) (fun _ _ _ h => h) (Or.inl ⟨by rfl, ?hy_35⟩) (by assumption) ?r_35
          case hy_35 => (intro w_ hS_; (try dsimp only at hS_); go_simp; try with_reducible rfl)
          try simp only [Act.put, List.setIfInBounds_toArray, List.set_cons_zero, List.set_cons_succ]
          refine wpAnyH_done (by kernel_rfl) ?_ _
          (have bf := And.right (by assumption : (∀ b o, b < W7.heap.size → World.cell? _ ⟨b, o, none⟩ = W7.cell? ⟨b, o, none⟩) ∧ Below W7.heap.size W7 _); have bz := Lib.hid (bt B7.out bf); clear bf; go_wp2; go_roundw; (case rel => (exact ⟨k + 1, by omega, by simp, Lib.hid (hbw.out.trans (bz.out.mono hbw.out.size))⟩)); (case measure => (simp [intOf]; omega)))
        · obtain ⟨p, HP⟩ : ∃ p, Hid (k = p + 1) := ⟨k - 1, by show k = _; omega⟩
          have t3 : decide ((0 : Int) < (k : Int)) = true := by simp; omega
          have t3' : decide (0 < k) = true := by simp; omega
          have hsub : (k : Int) - 1 = (p : Int) := by have := HP.out; omega
          have hwp : IntKind.i64.wrap (p : Int) = (p : Int) := by rw [IntKind.wrap_i64]; have := HP.out; omega
          have hp0 : (0 : Int) ≤ (p : Int) := by omega
          have hp1 : (p : Int) < (m : Int) := by have := HP.out; omega
          have hpl : p < ids.length := by have := HP.out; omega
          have hidp : ids[p]? = some ids[p] := List.getElem?_eq_getElem hpl
          obtain ⟨ip, hip⟩ : ∃ ip, ids[p] = ip := ⟨_, rfl⟩
          rw [hip] at hidp
          have y8 := HC7.out p ip hidp
          have t5 : decide (id ≤ ip) = false := by
            have := HASC.out p ip hidp (by have := HP.out; omega)
            simp; omega
          clear hk0 hidp hip hpl hidk HASC HC HC7
          refine wp_region_held_drew (S := (fun w' => (∀ b o, b < W7.heap.size → w'.cell? ⟨b, o, none⟩ = W7.cell? ⟨b, o, none⟩) ∧ Below W7.heap.size W7 w')) (by kernel_rfl) ?_ (fun hHeld => ?_)
          · (try dsimp only); (first | assumption | exact hk_drew | exact hk_call (by assumption) (by assumption) | exact hk_mk (by assumption) | (refine hk_alloc (by assumption) _) | (refine hk_row (by assumption) (by first | exact Nat.le_refl _ | exact hk_size (by assumption) | omega | (simp; done) | (simp; omega)) _) | (refine hk_set (by assumption) (by first | exact Nat.le_refl _ | exact hk_size (by assumption) | omega | (simp; done) | (simp; omega)) _))
          refine wpAnyH_take (i := 0) (oi := ⟨_, _, _, _, _, _⟩) (v := ?v_36) rfl (by kernel_rfl) (by kernel_rfl) (by kernel_rfl) (fun _ _ _ h => h) (Or.inl ⟨by rfl, ?hy_36⟩) (by assumption) ?r_36
          case hy_36 => (intro w_ hS_; (try dsimp only at hS_); go_simp; try with_reducible rfl)
          try simp only [Act.put, List.setIfInBounds_toArray, List.set_cons_zero, List.set_cons_succ]
          refine wpAnyH_take (i := 1) (oi := ⟨_, _, _, _, _, _⟩) (v := ?v_37) rfl (by kernel_rfl) (by kernel_rfl) (by kernel_rfl) (fun _ _ _ h => h) (Or.inl ⟨by rfl, ?hy_37⟩) (by assumption) ?r_37
          case hy_37 => (intro w_ hS_; (try dsimp only at hS_); go_simp; try with_reducible rfl)
          try simp only [Act.put, List.setIfInBounds_toArray, List.set_cons_zero, List.set_cons_succ]
          refine wpAnyH_take (i := 2) (oi := ⟨_, _, _, _, _, _⟩) (v := ?v_38) rfl (by kernel_rfl) (by kernel_rfl) (by kernel_rfl) (fun _ _ _ h => h) (Or.inl ⟨by rfl, ?hy_38⟩) (by assumption) ?r_38
          case hy_38 => (intro w_ hS_; (try dsimp only at hS_); go_simp; try with_reducible rfl)
          try simp only [Act.put, List.setIfInBounds_toArray, List.set_cons_zero, List.set_cons_succ]
          refine wpAnyH_take (i := 3) (oi := ⟨_, _, _, _, _, _⟩) (v := ?v_39) rfl (by kernel_rfl) (by kernel_rfl) (by kernel_rfl) (fun _ _ _ h => h) (Or.inl ⟨by rfl, ?hy_39⟩) (by assumption) ?r_39
          case hy_39 => (intro w_ hS_; (try dsimp only at hS_); go_simp; try with_reducible rfl)
          try simp only [Act.put, List.setIfInBounds_toArray, List.set_cons_zero, List.set_cons_succ]
          first
            | (refine wpAnyH_take (i := 4) (oi := ⟨_, _, _, _, _, _⟩) (v := (.agg ds)) rfl (by kernel_rfl) (by kernel_rfl) (by kernel_rfl) (fun _ _ _ h => h) (Or.inl ⟨by rfl, yl_row 28 _ (by rfl) (w7.heap.size) (by rfl) 28 _ (0, 0) _ (fun w_ h_ => hk_block h_ J7.out) Tryz.underlying28 rfl (DSI.out)⟩) (by assumption) ?_)
            | (refine wpAnyH_take (i := 4) (oi := ⟨_, _, _, _, _, _⟩) (v := ?v_40) rfl (by kernel_rfl) (by kernel_rfl) (by kernel_rfl) (fun _ _ _ h => h) (Or.inl ⟨by rfl, ?hy_40⟩) (by assumption) ?r_40; case hy_40 => (intro w_ hS_; (try dsimp only at hS_); go_simp; try with_reducible rfl))
          try simp only [Act.put, List.setIfInBounds_toArray, List.set_cons_zero, List.set_cons_succ]
          refine wpAnyH_take (i := 5) (oi := ⟨_, _, _, _, _, _⟩) (v := ?v_41) rfl (by kernel_rfl) (by kernel_rfl) (by kernel_rfl) (fun _ _ _ h => h) (Or.inl ⟨by rfl, ?hy_41⟩) (by assumption) ?r_41
          case hy_41 => (intro w_ hS_; (try dsimp only at hS_); go_simp; try with_reducible rfl)
          try simp only [Act.put, List.setIfInBounds_toArray, List.set_cons_zero, List.set_cons_succ]
          refine wpAnyH_take (i := 6) (oi := ⟨_, _, _, _, _, _⟩) (v := ?v_42) rfl (by kernel_rfl) (by kernel_rfl) (by kernel_rfl) (fun _ _ _ h => h) (Or.inl ⟨by rfl, ?hy_42⟩) (by assumption) ?r_42
          case hy_42 => (intro w_ hS_; (try dsimp only at hS_); go_simp; try with_reducible rfl)
          try simp only [Act.put, List.setIfInBounds_toArray, List.set_cons_zero, List.set_cons_succ]
          refine wpAnyH_take (i := 7) (oi := ⟨_, _, _, _, _, _⟩) (v := ?v_43) rfl (by kernel_rfl) (by kernel_rfl) (by kernel_rfl) (fun _ _ _ h => h) (Or.inl ⟨by rfl, ?hy_43⟩) (by assumption) ?r_43
          case hy_43 => (intro w_ hS_; (try dsimp only at hS_); go_simp; try with_reducible rfl)
          try simp only [Act.put, List.setIfInBounds_toArray, List.set_cons_zero, List.set_cons_succ]
          refine wpAnyH_take (i := 8) (oi := ⟨_, _, _, _, _, _⟩) (v := ?v_44) rfl (by kernel_rfl) (by kernel_rfl) (by kernel_rfl) (fun _ _ _ h => h) (Or.inl ⟨by rfl, ?hy_44⟩) (by assumption) ?r_44
          case hy_44 => (intro w_ hS_; (try dsimp only at hS_); go_simp; try with_reducible rfl)
          try simp only [Act.put, List.setIfInBounds_toArray, List.set_cons_zero, List.set_cons_succ]
          first
            | (refine wpAnyH_take (i := 9) (oi := ⟨_, _, _, _, _, _⟩) (v := (.agg ds)) rfl (by kernel_rfl) (by kernel_rfl) (by kernel_rfl) (fun _ _ _ h => h) (Or.inl ⟨by rfl, yl_row 28 _ (by rfl) (w7.heap.size) (by rfl) 28 _ (0, 0) _ (fun w_ h_ => hk_block h_ J7.out) Tryz.underlying28 rfl (DSI.out)⟩) (by assumption) ?_)
            | (refine wpAnyH_take (i := 9) (oi := ⟨_, _, _, _, _, _⟩) (v := ?v_45) rfl (by kernel_rfl) (by kernel_rfl) (by kernel_rfl) (fun _ _ _ h => h) (Or.inl ⟨by rfl, ?hy_45⟩) (by assumption) ?r_45; case hy_45 => (intro w_ hS_; (try dsimp only at hS_); go_simp; try with_reducible rfl))
          try simp only [Act.put, List.setIfInBounds_toArray, List.set_cons_zero, List.set_cons_succ]
          refine wpAnyH_take (i := 10) (oi := ⟨_, _, _, _, _, _⟩) (v := ?v_46) rfl (by kernel_rfl) (by kernel_rfl) (by kernel_rfl) (fun _ _ _ h => h) (Or.inl ⟨by rfl, ?hy_46⟩) (by assumption) ?r_46
          case hy_46 => (intro w_ hS_; (try dsimp only at hS_); go_simp; try with_reducible rfl)
          try simp only [Act.put, List.setIfInBounds_toArray, List.set_cons_zero, List.set_cons_succ]
          refine wpAnyH_take (i := 11) (oi := ⟨_, _, _, _, _, _⟩) (v := ?v_47) rfl (by kernel_rfl) (by kernel_rfl) (by kernel_rfl) (fun _ _ _ h => h) (Or.inl ⟨by rfl, ?hy_47⟩) (by assumption) ?r_47
          case hy_47 => (intro w_ hS_; (try dsimp only at hS_); go_simp; try with_reducible rfl)
          try simp only [Act.put, List.setIfInBounds_toArray, List.set_cons_zero, List.set_cons_succ]
          refine wpAnyH_take (i := 12) (oi := ⟨_, _, _, _, _, _⟩) (v := ?v_48) rfl (by kernel_rfl) (by kernel_rfl) (by kernel_rfl) (fun _ _ _ h => h) (Or.inl ⟨by rfl, ?hy_48⟩) (by assumption) ?r_48
          case hy_48 => (intro w_ hS_; (try dsimp only at hS_); go_simp; try with_reducible rfl)
          try simp only [Act.put, List.setIfInBounds_toArray, List.set_cons_zero, List.set_cons_succ]
          first
            | (refine wpAnyH_take (i := 13) (oi := ⟨_, _, _, _, _, _⟩) (v := (.agg ds)) rfl (by kernel_rfl) (by kernel_rfl) (by kernel_rfl) (fun _ _ _ h => h) (Or.inl ⟨by rfl, yl_row 28 _ (by rfl) (w7.heap.size) (by rfl) 28 _ (0, 0) _ (fun w_ h_ => hk_block h_ J7.out) Tryz.underlying28 rfl (DSI.out)⟩) (by assumption) ?_)
            | (refine wpAnyH_take (i := 13) (oi := ⟨_, _, _, _, _, _⟩) (v := ?v_49) rfl (by kernel_rfl) (by kernel_rfl) (by kernel_rfl) (fun _ _ _ h => h) (Or.inl ⟨by rfl, ?hy_49⟩) (by assumption) ?r_49; case hy_49 => (intro w_ hS_; (try dsimp only at hS_); go_simp; try with_reducible rfl))
          try simp only [Act.put, List.setIfInBounds_toArray, List.set_cons_zero, List.set_cons_succ]
          refine wpAnyH_ready (rs := [14]) (by kernel_rfl) (by simp) ?_
          refine AllReadyH.cons (o := ⟨_, _, _, _, _, _⟩) rfl (fun K hK => ?_) AllReadyH.nil
          go_simp
          (first | (go_at_call 38; refine (qm.out _ (And.right (by assumption))).mono ?_; rintro e wa ⟨rfl, ha⟩) | (go_at_call 35; refine (qo.out _ (And.right (by assumption))).mono ?_; rintro e wa ⟨rfl, ha⟩))
          try go_wp2_with (fail)
          refine hK.out _ _ ?_ (fun hHeld => ?_)
          · (try dsimp only); (first | exact hk_call (by assumption) (by assumption) | assumption | exact hk_mk (by assumption))
          clear hK K
          try simp only [Act.put, List.setIfInBounds_toArray, List.set_cons_zero, List.set_cons_succ]
          refine wpAnyH_take (i := 15) (oi := ⟨_, _, _, _, _, _⟩) (v := ?v_50) rfl (by kernel_rfl) (by kernel_rfl) (by kernel_rfl) (fun _ _ _ h => h) (Or.inl ⟨by rfl, ?hy_50⟩) (by assumption) ?r_50
          case hy_50 => (intro w_ hS_; (try dsimp only at hS_); go_simp; try with_reducible rfl)
          try simp only [Act.put, List.setIfInBounds_toArray, List.set_cons_zero, List.set_cons_succ]
          refine wpAnyH_take (i := 16) (oi := ⟨_, _, _, _, _, _⟩) (v := ?v_51) rfl (by kernel_rfl) (by kernel_rfl) (by kernel_rfl) (fun _ _ _ h => h) (Or.inl ⟨by rfl, ?hy_51⟩) (by assumption) ?r_51
          case hy_51 => (intro w_ hS_; (try dsimp only at hS_); go_simp; try with_reducible rfl)
          try simp only [Act.put, List.setIfInBounds_toArray, List.set_cons_zero, List.set_cons_succ]
          refine wpAnyH_take (i := 17) (oi := ⟨_, _, _, _, _, _⟩) (v := ?v_52) rfl (by kernel_rfl) (by kernel_rfl) (by kernel_rfl) (fun _ _ _ h => h) (Or.inl ⟨by rfl, ?hy_52⟩) (by assumption) ?r_52
          case hy_52 => (intro w_ hS_; (try dsimp only at hS_); go_simp; try with_reducible rfl)
          try simp only [Act.put, List.setIfInBounds_toArray, List.set_cons_zero, List.set_cons_succ]
          refine wpAnyH_take (i := 18) (oi := ⟨_, _, _, _, _, _⟩) (v := ?v_53) rfl (by kernel_rfl) (by kernel_rfl) (by kernel_rfl) (fun _ _ _ h => h) (Or.inl ⟨by rfl, ?hy_53⟩) (by assumption) ?r_53
          case hy_53 => (intro w_ hS_; (try dsimp only at hS_); go_simp; try with_reducible rfl)
          try simp only [Act.put, List.setIfInBounds_toArray, List.set_cons_zero, List.set_cons_succ]
          refine wpAnyH_take (i := 19) (oi := ⟨_, _, _, _, _, _⟩) (v := ?v_54) rfl (by kernel_rfl) (by kernel_rfl) (by kernel_rfl) (fun _ _ _ h => h) (Or.inl ⟨by rfl, ?hy_54⟩) (by assumption) ?r_54
          case hy_54 => (intro w_ hS_; (try dsimp only at hS_); go_simp; try with_reducible rfl)
          try simp only [Act.put, List.setIfInBounds_toArray, List.set_cons_zero, List.set_cons_succ]
          refine wpAnyH_take (i := 20) (oi := ⟨_, _, _, _, _, _⟩) (v := ?v_55) rfl (by kernel_rfl) (by kernel_rfl) (by kernel_rfl) (fun _ _ _ h => h) (Or.inl ⟨by rfl, ?hy_55⟩) (by assumption) ?r_55
          case hy_55 => (intro w_ hS_; (try dsimp only at hS_); go_simp; try with_reducible rfl)
          try simp only [Act.put, List.setIfInBounds_toArray, List.set_cons_zero, List.set_cons_succ]
          refine wpAnyH_take (i := 21) (oi := ⟨_, _, _, _, _, _⟩) (v := ?v_56) rfl (by kernel_rfl) (by kernel_rfl) (by kernel_rfl) (fun _ _ _ h => h) (Or.inl ⟨by rfl, ?hy_56⟩) (by assumption) ?r_56
          case hy_56 => (intro w_ hS_; (try dsimp only at hS_); go_simp; try with_reducible rfl)
          try simp only [Act.put, List.setIfInBounds_toArray, List.set_cons_zero, List.set_cons_succ]
          refine wpAnyH_take (i := 22) (oi := ⟨_, _, _, _, _, _⟩) (v := ?v_57) rfl (by kernel_rfl) (by kernel_rfl) (by kernel_rfl) (fun _ _ _ h => h) (Or.inl ⟨by rfl, ?hy_57⟩) (by assumption) ?r_57
          case hy_57 => (intro w_ hS_; (try dsimp only at hS_); go_simp; try with_reducible rfl)
          try simp only [Act.put, List.setIfInBounds_toArray, List.set_cons_zero, List.set_cons_succ]
          refine wpAnyH_take (i := 23) (oi := ⟨_, _, _, _, _, _⟩) (v := ?v_58) rfl (by kernel_rfl) (by kernel_rfl) (by kernel_rfl) (fun _ _ _ h => h) (Or.inl ⟨by rfl, ?hy_58⟩) (by assumption) ?r_58
          case hy_58 => (intro w_ hS_; (try dsimp only at hS_); go_simp; try with_reducible rfl)
          try simp only [Act.put, List.setIfInBounds_toArray, List.set_cons_zero, List.set_cons_succ]
          refine wpAnyH_take (i := 24) (oi := ⟨_, _, _, _, _, _⟩) (v := ?v_59) rfl (by kernel_rfl) (by kernel_rfl) (by kernel_rfl) (fun _ _ _ h => h) (Or.inl ⟨by rfl, ?hy_59⟩) (by assumption) ?r_59
          case hy_59 => (intro w_ hS_; (try dsimp only at hS_); go_simp; try with_reducible rfl)
          try simp only [Act.put, List.setIfInBounds_toArray, List.set_cons_zero, List.set_cons_succ]
          first
            | (refine wpAnyH_take (i := 25) (oi := ⟨_, _, _, _, _, _⟩) (v := (.agg ds)) rfl (by kernel_rfl) (by kernel_rfl) (by kernel_rfl) (fun _ _ _ h => h) (Or.inl ⟨by rfl, yl_row 28 _ (by rfl) (w7.heap.size) (by rfl) 28 _ (0, 0) _ (fun w_ h_ => hk_block h_ J7.out) Tryz.underlying28 rfl (DSI.out)⟩) (by assumption) ?_)
            | (refine wpAnyH_take (i := 25) (oi := ⟨_, _, _, _, _, _⟩) (v := ?v_60) rfl (by kernel_rfl) (by kernel_rfl) (by kernel_rfl) (fun _ _ _ h => h) (Or.inl ⟨by rfl, ?hy_60⟩) (by assumption) ?r_60; case hy_60 => (intro w_ hS_; (try dsimp only at hS_); go_simp; try with_reducible rfl))
          try simp only [Act.put, List.setIfInBounds_toArray, List.set_cons_zero, List.set_cons_succ]
          refine wpAnyH_take (i := 26) (oi := ⟨_, _, _, _, _, _⟩) (v := ?v_61) rfl (by kernel_rfl) (by kernel_rfl) (by kernel_rfl) (fun _ _ _ h => h) (Or.inl ⟨by rfl, ?hy_61⟩) (by assumption) ?r_61
          case hy_61 => (intro w_ hS_; (try dsimp only at hS_); go_simp; try with_reducible rfl)
          try simp only [Act.put, List.setIfInBounds_toArray, List.set_cons_zero, List.set_cons_succ]
          refine wpAnyH_take (i := 27) (oi := ⟨_, _, _, _, _, _⟩) (v := ?v_62) rfl (by kernel_rfl) (by kernel_rfl) (by kernel_rfl) (fun _ _ _ h => h) (Or.inl ⟨by rfl, ?hy_62⟩) (by assumption) ?r_62
          case hy_62 => (intro w_ hS_; (try dsimp only at hS_); go_simp; try with_reducible rfl)
          try simp only [Act.put, List.setIfInBounds_toArray, List.set_cons_zero, List.set_cons_succ]
          refine wpAnyH_take (i := 28) (oi := ⟨_, _, _, _, _, _⟩) (v := ?v_63) rfl (by kernel_rfl) (by kernel_rfl) (by kernel_rfl) (fun _ _ _ h => h) (Or.inl ⟨by rfl, ?hy_63⟩) (by assumption) ?r_63
          case hy_63 => (intro w_ hS_; (try dsimp only at hS_); go_simp; try with_reducible rfl)
          try simp only [Act.put, List.setIfInBounds_toArray, List.set_cons_zero, List.set_cons_succ]
          first
            | (refine wpAnyH_take (i := 29) (oi := ⟨_, _, _, _, _, _⟩) (v := (.agg ds)) rfl (by kernel_rfl) (by kernel_rfl) (by kernel_rfl) (fun _ _ _ h => h) (Or.inl ⟨by rfl, yl_row 28 _ (by rfl) (w7.heap.size) (by rfl) 28 _ (0, 0) _ (fun w_ h_ => hk_block h_ J7.out) Tryz.underlying28 rfl (DSI.out)⟩) (by assumption) ?_)
            | (refine wpAnyH_take (i := 29) (oi := ⟨_, _, _, _, _, _⟩) (v := ?v_64) rfl (by kernel_rfl) (by kernel_rfl) (by kernel_rfl) (fun _ _ _ h => h) (Or.inl ⟨by rfl, ?hy_64⟩) (by assumption) ?r_64; case hy_64 => (intro w_ hS_; (try dsimp only at hS_); go_simp; try with_reducible rfl))
          try simp only [Act.put, List.setIfInBounds_toArray, List.set_cons_zero, List.set_cons_succ]
          refine wpAnyH_take (i := 30) (oi := ⟨_, _, _, _, _, _⟩) (v := ?v_65) rfl (by kernel_rfl) (by kernel_rfl) (by kernel_rfl) (fun _ _ _ h => h) (Or.inl ⟨by rfl, ?hy_65⟩) (by assumption) ?r_65
          case hy_65 => (intro w_ hS_; (try dsimp only at hS_); go_simp; try with_reducible rfl)
          try simp only [Act.put, List.setIfInBounds_toArray, List.set_cons_zero, List.set_cons_succ]
          refine wpAnyH_take (i := 31) (oi := ⟨_, _, _, _, _, _⟩) (v := ?v_66) rfl (by kernel_rfl) (by kernel_rfl) (by kernel_rfl) (fun _ _ _ h => h) (Or.inl ⟨by rfl, ?hy_66⟩) (by assumption) ?r_66
          case hy_66 => (intro w_ hS_; (try dsimp only at hS_); go_simp; try with_reducible rfl)
          try simp only [Act.put, List.setIfInBounds_toArray, List.set_cons_zero, List.set_cons_succ]
          refine wpAnyH_take (i := 32) (oi := ⟨_, _, _, _, _, _⟩) (v := ?v_67) rfl (by kernel_rfl) (by kernel_rfl) (by kernel_rfl) (fun _ _ _ h => h) (Or.inl ⟨by rfl, ?hy_67⟩) (by assumption) ?r_67
          case hy_67 => (intro w_ hS_; (try dsimp only at hS_); go_simp; try with_reducible rfl)
          try simp only [Act.put, List.setIfInBounds_toArray, List.set_cons_zero, List.set_cons_succ]
          refine wpAnyH_take (i := 33) (oi := ⟨_, _, _, _, _, _⟩) (v := ?v_68) rfl (by kernel_rfl) (by kernel_rfl) (by kernel_rfl) (fun _ _ _ h => h) (Or.inl ⟨by rfl, ?hy_68⟩) (by assumption) ?r_68
          case hy_68 => (intro w_ hS_; (try dsimp only at hS_); go_simp; try with_reducible rfl)
          try simp only [Act.put, List.setIfInBounds_toArray, List.set_cons_zero, List.set_cons_succ]
          first
            | (refine wpAnyH_take (i := 34) (oi := ⟨_, _, _, _, _, _⟩) (v := (.agg ds)) rfl (by kernel_rfl) (by kernel_rfl) (by kernel_rfl) (fun _ _ _ h => h) (Or.inl ⟨by rfl, yl_row 28 _ (by rfl) (w7.heap.size) (by rfl) 28 _ (0, 0) _ (fun w_ h_ => hk_block h_ J7.out) Tryz.underlying28 rfl (DSI.out)⟩) (by assumption) ?_)
            | (refine wpAnyH_take (i := 34) (oi := ⟨_, _, _, _, _, _⟩) (v := ?v_69) rfl (by kernel_rfl) (by kernel_rfl) (by kernel_rfl) (fun _ _ _ h => h) (Or.inl ⟨by rfl, ?hy_69⟩) (by assumption) ?r_69; case hy_69 => (intro w_ hS_; (try dsimp only at hS_); go_simp; try with_reducible rfl))
          try simp only [Act.put, List.setIfInBounds_toArray, List.set_cons_zero, List.set_cons_succ]
          refine wpAnyH_ready (rs := [35]) (by kernel_rfl) (by simp) ?_
          refine AllReadyH.cons (o := ⟨_, _, _, _, _, _⟩) rfl (fun K hK => ?_) AllReadyH.nil
          go_simp
          (first | (go_at_call 38; refine (qm.out _ (And.right (by assumption))).mono ?_; rintro e wa ⟨rfl, ha⟩) | (go_at_call 35; refine (qo.out _ (And.right (by assumption))).mono ?_; rintro e wa ⟨rfl, ha⟩))
          try go_wp2_with (fail)
          refine hK.out _ _ ?_ (fun hHeld => ?_)
          · (try dsimp only); (first | exact hk_call (by assumption) (by assumption) | assumption | exact hk_mk (by assumption))
          clear hK K
          try simp only [Act.put, List.setIfInBounds_toArray, List.set_cons_zero, List.set_cons_succ]
          refine wpAnyH_take (i := 36) (oi := ⟨_, _, _, _, _, _⟩) (v := ?v_70) rfl (by kernel_rfl) (by kernel_rfl) (by kernel_rfl) (fun _ _ _ h => h) (Or.inl ⟨by rfl, ?hy_70⟩) (by assumption) ?r_70
          case hy_70 => (intro w_ hS_; (try dsimp only at hS_); go_simp; try with_reducible rfl)
          try simp only [Act.put, List.setIfInBounds_toArray, List.set_cons_zero, List.set_cons_succ]
          refine wpAnyH_done (by kernel_rfl) ?_ _
          (have bf := And.right (by assumption : (∀ b o, b < W7.heap.size → World.cell? _ ⟨b, o, none⟩ = W7.cell? ⟨b, o, none⟩) ∧ Below W7.heap.size W7 _); have bz := Lib.hid (bt B7.out bf); clear bf; go_wp2; go_roundw; (case rel => (exact ⟨k + 1, by omega, by simp, Lib.hid (hbw.out.trans (bz.out.mono hbw.out.size))⟩)); (case measure => (simp [intOf]; omega)))
      · obtain rfl : k = m := by omega
        have t0 : decide ((k : Int) < (k : Int)) = false := by simp
        go_wp2_with (fail)
        refine (awake16_any _).mono ?_; rintro e wz ⟨rfl, hwz⟩
        go_wp2
        go_ret
        exact ⟨rfl, bt B4.out (bt hbw.out hwz)⟩
end Go.Proofs.YtghmcdfmbjabnaaGreatDoor
