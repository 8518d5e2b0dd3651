/- Layer 16: DepsStand walked (printed by a program of my own). -/
import Derived.Test.YtghmcdfmbjabnaaGreatDoorDp4x
import Derived.Test.YtghmcdfmbjabnaaGreatDoorQ0t
namespace Go.Proofs.YtghmcdfmbjabnaaGreatDoor
set_option linter.unusedVariables false
open Go.RowKit
set_option linter.unusedSimpArgs false in
set_option maxHeartbeats 8000000 in
set_option maxRecDepth 100000 in
theorem depsStand_walk (l : List JR) (r0 : JR) (A : Option Addr) (n c : Nat) (w : World) (hr : Reads w w.heap.size 20 A n (recs jrC l)) (hl : ∀ r ∈ l, JbIn w r.x r.A r.c r.A2 r.c2) (h0 : JbIn w r0.x r0.A r0.c r0.A2 r0.c2) (hwd : ∀ d ∈ r0.x.after, wfI d.2) :
    Calls Tryz.prog 8 #[.slice A n c, .agg (jrC r0).toArray] w fun e w' => e = .returned (.bool true) ∧ Below w.heap.size w w' := by
  have f1 := Lib.hid (fun v (hv : Below w.heap.size w v) => few15_any l A n c w.heap.size v (hr.below hv) hv.size)
  have f2 := Lib.hid (fun v => few_r r0 v)
  have HAT := Lib.hid (fun h : fewJ r0.x = true => jrD_in h0 h)
  have HT0 := Lib.hid (fun h : fewT15 (jobs l) = true => tabD_in hr hl h)
  have CSA := Lib.hid (jrA_info r0)
  have HM := Lib.hid (fun (h1 : fewT15 (jobs l) = true) (h2 : fewJ r0.x = true) v (hv : Below w.heap.size w v) => dmet_any l A n c r0 v.heap.size v ((tabD_in hr hl h1).up hv) ((jrD_in h0 h2).up hv) (Nat.le_refl _) hwd)
  have HD := Lib.hid (fun (h1 : fewT15 (jobs l) = true) (h2 : fewJ r0.x = true) v (hv : Below w.heap.size w v) => ddoomed_any l A n c r0 v.heap.size v ((tabD_in hr hl h1).up hv) ((jrD_in h0 h2).up hv) (Nat.le_refl _) hwd)
  have HRM := Lib.hid (fun (h1 : fewT15 (jobs l) = true) (h2 : fewJ r0.x = true) v (hv : Below w.heap.size w v) => rmetT_any l A n c r0 v.heap.size v ((tabD_in hr hl h1).up hv) ((jrD_in h0 h2).up hv) (Nat.le_refl _))
  have HRD := Lib.hid (fun (h1 : fewT15 (jobs l) = true) (h2 : fewJ r0.x = true) v (hv : Below w.heap.size w v) => rdoomedT_any l A n c r0 v.heap.size v ((tabD_in hr hl h1).up hv) ((jrD_in h0 h2).up hv) (Nat.le_refl _))
  obtain ⟨cs, hcs⟩ : ∃ cs, Hid (jrC r0 = cs) := ⟨_, rfl⟩
  obtain ⟨P1, hP1⟩ : ∃ P, Hid (metP (jobs l) r0.x = P) := ⟨_, rfl⟩
  obtain ⟨P2, hP2⟩ : ∃ P, Hid (doomedP (jobs l) r0.x = P) := ⟨_, rfl⟩
  have HONE : Hid ((P1 && P2) = false) := by
    show _ = _
    rw [← hP1.out, ← hP2.out]
    unfold metP doomedP
    cases tabB (jobs l)
    · rfl
    · rw [Bool.true_and, Bool.true_and]; exact once_f _ _
  rw [hP1.out] at HM
  rw [hP2.out] at HD
  rw [hP1.out] at HRM
  rw [hP2.out] at HRD
  rw [hcs.out] at f2 CSA HM HD HRM HRD ⊢
  obtain ⟨x, hx⟩ : ∃ x, r0.x = x := ⟨_, rfl⟩
  rw [hx] at f2 HAT HM HD HRM HRD
  have J0 : Hid ((w.alloc (.cells cs.toArray 28)).heap[w.heap.size]? = some (.cells cs.toArray 28 (0, 0))) := heap_alloc_new w _
  clear hr hl h0 hwd hx hcs hP1 hP2
  cases z1 : fewT15 (jobs l)
  case false =>
    rw [z1] at f1
    clear f2 HAT HT0 HM HD HRM HRD
    go_enter Tryz.func8, Tryz.ntmps8
    go_wp2_with (fail)
    refine (f1.out _ bx0).mono ?_; rintro e w1 ⟨rfl, hw1⟩
    go_wp2_with (fail)
    refine (awake16_any _).mono ?_; rintro e wz ⟨rfl, hwz⟩
    go_wp2
    go_ret
    exact ⟨rfl, bt (bt bx0 hw1) hwz⟩
  rw [z1] at f1
  cases z2 : fewJ x
  case false =>
    rw [z2] at f2
    clear HAT HT0 HM HD HRM HRD
    go_enter Tryz.func8, Tryz.ntmps8
    go_wp2_with (fail)
    refine (f1.out _ bx0).mono ?_; rintro e w1 ⟨rfl, hw1⟩
    obtain ⟨g1, hb1, s1⟩ := box_row hw1
    have G1 := Lib.hid g1
    clear g1 hw1
    go_wp2_with (refine wpList_load_row_g (by kernel_rfl) 28 _ rfl (w.heap.size) rfl 28 _ (0, 0) _ G1.out Tryz.underlying28 rfl CSA.out ?_)
    refine (f2.out _).mono ?_; rintro e w2 ⟨rfl, hw2⟩
    go_wp2_with (fail)
    refine (awake16_any _).mono ?_; rintro e wz ⟨rfl, hwz⟩
    go_wp2
    go_ret
    exact ⟨rfl, bt (bt hb1 hw2) hwz⟩
  rw [z2] at f2
  have HT := Lib.hid (HT0.out z1)
  have HM1 := Lib.hid (HM.out z1 z2)
  have HD1 := Lib.hid (HD.out z1 z2)
  have HRM1 := Lib.hid (HRM.out z1 z2)
  have HRD1 := Lib.hid (HRD.out z1 z2)
  have hlj : Hid ((jobs l).length = n) := (jobs_len l).trans HT.out.len
  have hn1 : n ≤ 1000 := HT.out.2.2
  clear HAT HT0 HM HD HRM HRD z1 z2
  have HL : Hid ((eligP (jobs l)).length ≤ 1000) := by have := eligP_len (jobs l); rw [hlj.out] at this; show _ ≤ _; omega
  go_enter Tryz.func8, Tryz.ntmps8
  go_wp2_with (fail)
  refine (f1.out _ bx0).mono ?_; rintro e w1 ⟨rfl, hw1⟩
  obtain ⟨g1, hb1, s1⟩ := box_row hw1
  have G1 := Lib.hid g1
  have B1 := Lib.hid hb1
  clear g1 hw1
  go_wp2_with (refine wpList_load_row_g (by kernel_rfl) 28 _ rfl (w.heap.size) rfl 28 _ (0, 0) _ G1.out Tryz.underlying28 rfl CSA.out ?_)
  refine (f2.out _).mono ?_; rintro e w2 ⟨rfl, hw2⟩
  have G2 := Lib.hid ((hw2.block _ s1).trans G1.out)
  have s2 : w.heap.size < w2.heap.size := Nat.lt_of_lt_of_le s1 hw2.size
  have B2 := Lib.hid (bt B1.out hw2)
  clear hw2 hb1 f1 f2 G1 s1
  have qm := Lib.hid (fun v (hv : Below w2.heap.size w2 v) => HM1.out v (bt B2.out hv))
  have qrm := Lib.hid (fun v (hv : Below w2.heap.size w2 v) => HRM1.out v (bt B2.out hv))
  have qd := Lib.hid (fun v (hv : Below w2.heap.size w2 v) => HD1.out v (bt B2.out hv))
  have qrd := Lib.hid (fun v (hv : Below w2.heap.size w2 v) => HRD1.out v (bt B2.out hv))
  have qc := Lib.hid (fun v (hv : Below w2.heap.size w2 v) => rcheck15_any l A n c v.heap.size v (HT.out.up (bt B2.out hv)) (Nat.le_refl _))
  have qe := Lib.hid (fun v (hv : Below w2.heap.size w2 v) => delig_any l A n c v.heap.size v (HT.out.up (bt B2.out hv)) (Nat.le_refl _))
  have qre := Lib.hid (fun v (hv : Below w2.heap.size w2 v) => relig_any l A n c v.heap.size v (HT.out.up (bt B2.out hv)) (Nat.le_refl _))
  clear HM1 HRM1 HD1 HRD1 HONE hlj
  cases zt : tabB (jobs l)
  case false =>
    have he : eligP (jobs l) = [] := by unfold eligP; rw [zt]; rfl
    rw [tabE_f zt] at qc
    rw [he] at qe
    clear he zt HT HL qre
    go_upto_region 3 with (fail)
    refine wp_region_held_drew (S := (fun w' => (∀ b o, b < w2.heap.size → w'.cell? ⟨b, o, none⟩ = w2.cell? ⟨b, o, none⟩) ∧ Below w2.heap.size w2 w')) (by kernel_rfl) ?_ (fun hHeld => ?_)
    · (try dsimp only); (first | assumption | exact hk_drew | exact hk_call (by assumption) (by assumption) | exact hk_mk (by assumption) | (refine hk_alloc (by assumption) _) | (refine hk_row (by assumption) (by first | exact Nat.le_refl _ | exact hk_size (by assumption) | omega | (simp; done) | (simp; omega)) _) | (refine hk_set (by assumption) (by first | exact Nat.le_refl _ | exact hk_size (by assumption) | omega | (simp; done) | (simp; omega)) _))
    refine wpAnyH_take (i := 0) (oi := ⟨_, _, _, _, _, _⟩) (v := ?v_1) rfl (by kernel_rfl) (by kernel_rfl) (by kernel_rfl) (fun _ _ _ h => h) (Or.inl ⟨by rfl, ?hy_1⟩) (by assumption) ?r_1
    case hy_1 => (intro w_ hS_; (try dsimp only at hS_); go_simp; try with_reducible rfl)
    try simp only [Act.put, List.setIfInBounds_toArray, List.set_cons_zero, List.set_cons_succ]
    first
      | (refine wpAnyH_take (i := 1) (oi := ⟨_, _, _, _, _, _⟩) (v := (.agg cs.toArray)) rfl (by kernel_rfl) (by kernel_rfl) (by kernel_rfl) (fun _ _ _ h => h) (Or.inl ⟨by rfl, yl_row 28 _ (by rfl) (w.heap.size) (by rfl) 28 _ (0, 0) _ (fun w_ h_ => hk_block h_ G2.out) Tryz.underlying28 rfl (CSA.out)⟩) (by assumption) ?_)
      | (refine wpAnyH_take (i := 1) (oi := ⟨_, _, _, _, _, _⟩) (v := ?v_2) rfl (by kernel_rfl) (by kernel_rfl) (by kernel_rfl) (fun _ _ _ h => h) (Or.inl ⟨by rfl, ?hy_2⟩) (by assumption) ?r_2; case hy_2 => (intro w_ hS_; (try dsimp only at hS_); go_simp; try with_reducible rfl))
    try simp only [Act.put, List.setIfInBounds_toArray, List.set_cons_zero, List.set_cons_succ]
    refine wpAnyH_take (i := 3) (oi := ⟨_, _, _, _, _, _⟩) (v := ?v_3) rfl (by kernel_rfl) (by kernel_rfl) (by kernel_rfl) (fun _ _ _ h => h) (Or.inl ⟨by rfl, ?hy_3⟩) (by assumption) ?r_3
    case hy_3 => (intro w_ hS_; (try dsimp only at hS_); go_simp; try with_reducible rfl)
    try simp only [Act.put, List.setIfInBounds_toArray, List.set_cons_zero, List.set_cons_succ]
    first
      | (refine wpAnyH_take (i := 4) (oi := ⟨_, _, _, _, _, _⟩) (v := (.agg cs.toArray)) rfl (by kernel_rfl) (by kernel_rfl) (by kernel_rfl) (fun _ _ _ h => h) (Or.inl ⟨by rfl, yl_row 28 _ (by rfl) (w.heap.size) (by rfl) 28 _ (0, 0) _ (fun w_ h_ => hk_block h_ G2.out) Tryz.underlying28 rfl (CSA.out)⟩) (by assumption) ?_)
      | (refine wpAnyH_take (i := 4) (oi := ⟨_, _, _, _, _, _⟩) (v := ?v_4) rfl (by kernel_rfl) (by kernel_rfl) (by kernel_rfl) (fun _ _ _ h => h) (Or.inl ⟨by rfl, ?hy_4⟩) (by assumption) ?r_4; case hy_4 => (intro w_ hS_; (try dsimp only at hS_); go_simp; try with_reducible rfl))
    try simp only [Act.put, List.setIfInBounds_toArray, List.set_cons_zero, List.set_cons_succ]
    refine wpAnyH_ready (rs := [2]) (by kernel_rfl) (by simp) ?_
    refine AllReadyH.cons (o := ⟨_, _, _, _, _, _⟩) rfl (fun K hK => ?_) AllReadyH.nil
    go_simp
    (first | (go_at_call 38; refine (qm.out _ (And.right (by assumption))).mono ?_; rintro e wa ⟨rfl, ha⟩) | (go_at_call 39; refine (qrm.out _ (And.right (by assumption))).mono ?_; rintro e wa ⟨rfl, ha⟩) | (go_at_call 40; refine (qd.out _ (And.right (by assumption))).mono ?_; rintro e wa ⟨rfl, ha⟩) | (go_at_call 41; refine (qrd.out _ (And.right (by assumption))).mono ?_; rintro e wa ⟨rfl, ha⟩) | (go_at_call 23; refine (qc.out _ (And.right (by assumption))).mono ?_; rintro e wa ⟨rfl, ha⟩) | (go_at_call 42; refine (qe.out _ (And.right (by assumption))).mono ?_; rintro e w6 ⟨v6, rfl, o6, hb6⟩; obtain ⟨A6, c6, rfl, hc6, _⟩ := o6.slice) | (go_at_call 43; refine (qre.out _ (And.right (by assumption))).mono ?_; rintro e w7 ⟨v7, rfl, o7, hb7⟩; obtain ⟨A7, c7, rfl, hc7, _⟩ := o7.slice) | (go_at_call 26; refine (sameI_yes ((o6.reads.below hb7).more hb7.size) o7.reads (by omega)).mono ?_; rintro e w8 ⟨rfl, h8⟩) | (go_at_call 37; refine (awake16_any _).mono ?_; rintro e wz ⟨rfl, hz⟩))
    try go_wp2_with (fail)
    refine hK.out _ _ ?_ (fun hHeld => ?_)
    · (try dsimp only); (first | exact hk_call (by assumption) (by assumption) | assumption | exact hk_mk (by assumption))
    clear hK K
    try simp only [Act.put, List.setIfInBounds_toArray, List.set_cons_zero, List.set_cons_succ]
    refine wpAnyH_ready (rs := [5]) (by kernel_rfl) (by simp) ?_
    refine AllReadyH.cons (o := ⟨_, _, _, _, _, _⟩) rfl (fun K hK => ?_) AllReadyH.nil
    go_simp
    (first | (go_at_call 38; refine (qm.out _ (And.right (by assumption))).mono ?_; rintro e wa ⟨rfl, ha⟩) | (go_at_call 39; refine (qrm.out _ (And.right (by assumption))).mono ?_; rintro e wa ⟨rfl, ha⟩) | (go_at_call 40; refine (qd.out _ (And.right (by assumption))).mono ?_; rintro e wa ⟨rfl, ha⟩) | (go_at_call 41; refine (qrd.out _ (And.right (by assumption))).mono ?_; rintro e wa ⟨rfl, ha⟩) | (go_at_call 23; refine (qc.out _ (And.right (by assumption))).mono ?_; rintro e wa ⟨rfl, ha⟩) | (go_at_call 42; refine (qe.out _ (And.right (by assumption))).mono ?_; rintro e w6 ⟨v6, rfl, o6, hb6⟩; obtain ⟨A6, c6, rfl, hc6, _⟩ := o6.slice) | (go_at_call 43; refine (qre.out _ (And.right (by assumption))).mono ?_; rintro e w7 ⟨v7, rfl, o7, hb7⟩; obtain ⟨A7, c7, rfl, hc7, _⟩ := o7.slice) | (go_at_call 26; refine (sameI_yes ((o6.reads.below hb7).more hb7.size) o7.reads (by omega)).mono ?_; rintro e w8 ⟨rfl, h8⟩) | (go_at_call 37; refine (awake16_any _).mono ?_; rintro e wz ⟨rfl, hz⟩))
    try go_wp2_with (fail)
    refine hK.out _ _ ?_ (fun hHeld => ?_)
    · (try dsimp only); (first | exact hk_call (by assumption) (by assumption) | assumption | exact hk_mk (by assumption))
    clear hK K
    try simp only [Act.put, List.setIfInBounds_toArray, List.set_cons_zero, List.set_cons_succ]
    refine wpAnyH_take (i := 6) (oi := ⟨_, _, _, _, _, _⟩) (v := ?v_5) rfl (by kernel_rfl) (by kernel_rfl) (by kernel_rfl) (fun _ _ _ h => h) (Or.inl ⟨by rfl, ?hy_5⟩) (by assumption) ?r_5
    case hy_5 => (intro w_ hS_; (try dsimp only at hS_); go_simp; try with_reducible rfl)
    try simp only [Act.put, List.setIfInBounds_toArray, List.set_cons_zero, List.set_cons_succ]
    refine wpAnyH_take (i := 7) (oi := ⟨_, _, _, _, _, _⟩) (v := ?v_6) rfl (by kernel_rfl) (by kernel_rfl) (by kernel_rfl) (fun _ _ _ h => h) (Or.inl ⟨by rfl, ?hy_6⟩) (by assumption) ?r_6
    case hy_6 => (intro w_ hS_; (try dsimp only at hS_); go_simp; try with_reducible rfl)
    try simp only [Act.put, List.setIfInBounds_toArray, List.set_cons_zero, List.set_cons_succ]
    refine wpAnyH_take (i := 8) (oi := ⟨_, _, _, _, _, _⟩) (v := ?v_7) rfl (by kernel_rfl) (by kernel_rfl) (by kernel_rfl) (fun _ _ _ h => h) (Or.inl ⟨by rfl, ?hy_7⟩) (by assumption) ?r_7
    case hy_7 => (intro w_ hS_; (try dsimp only at hS_); go_simp; try with_reducible rfl)
    try simp only [Act.put, List.setIfInBounds_toArray, List.set_cons_zero, List.set_cons_succ]
    first
      | (refine wpAnyH_take (i := 9) (oi := ⟨_, _, _, _, _, _⟩) (v := (.agg cs.toArray)) rfl (by kernel_rfl) (by kernel_rfl) (by kernel_rfl) (fun _ _ _ h => h) (Or.inl ⟨by rfl, yl_row 28 _ (by rfl) (w.heap.size) (by rfl) 28 _ (0, 0) _ (fun w_ h_ => hk_block h_ G2.out) Tryz.underlying28 rfl (CSA.out)⟩) (by assumption) ?_)
      | (refine wpAnyH_take (i := 9) (oi := ⟨_, _, _, _, _, _⟩) (v := ?v_8) rfl (by kernel_rfl) (by kernel_rfl) (by kernel_rfl) (fun _ _ _ h => h) (Or.inl ⟨by rfl, ?hy_8⟩) (by assumption) ?r_8; case hy_8 => (intro w_ hS_; (try dsimp only at hS_); go_simp; try with_reducible rfl))
    try simp only [Act.put, List.setIfInBounds_toArray, List.set_cons_zero, List.set_cons_succ]
    refine wpAnyH_take (i := 11) (oi := ⟨_, _, _, _, _, _⟩) (v := ?v_9) rfl (by kernel_rfl) (by kernel_rfl) (by kernel_rfl) (fun _ _ _ h => h) (Or.inl ⟨by rfl, ?hy_9⟩) (by assumption) ?r_9
    case hy_9 => (intro w_ hS_; (try dsimp only at hS_); go_simp; try with_reducible rfl)
    try simp only [Act.put, List.setIfInBounds_toArray, List.set_cons_zero, List.set_cons_succ]
    first
      | (refine wpAnyH_take (i := 12) (oi := ⟨_, _, _, _, _, _⟩) (v := (.agg cs.toArray)) rfl (by kernel_rfl) (by kernel_rfl) (by kernel_rfl) (fun _ _ _ h => h) (Or.inl ⟨by rfl, yl_row 28 _ (by rfl) (w.heap.size) (by rfl) 28 _ (0, 0) _ (fun w_ h_ => hk_block h_ G2.out) Tryz.underlying28 rfl (CSA.out)⟩) (by assumption) ?_)
      | (refine wpAnyH_take (i := 12) (oi := ⟨_, _, _, _, _, _⟩) (v := ?v_10) rfl (by kernel_rfl) (by kernel_rfl) (by kernel_rfl) (fun _ _ _ h => h) (Or.inl ⟨by rfl, ?hy_10⟩) (by assumption) ?r_10; case hy_10 => (intro w_ hS_; (try dsimp only at hS_); go_simp; try with_reducible rfl))
    try simp only [Act.put, List.setIfInBounds_toArray, List.set_cons_zero, List.set_cons_succ]
    refine wpAnyH_ready (rs := [10]) (by kernel_rfl) (by simp) ?_
    refine AllReadyH.cons (o := ⟨_, _, _, _, _, _⟩) rfl (fun K hK => ?_) AllReadyH.nil
    go_simp
    (first | (go_at_call 38; refine (qm.out _ (And.right (by assumption))).mono ?_; rintro e wa ⟨rfl, ha⟩) | (go_at_call 39; refine (qrm.out _ (And.right (by assumption))).mono ?_; rintro e wa ⟨rfl, ha⟩) | (go_at_call 40; refine (qd.out _ (And.right (by assumption))).mono ?_; rintro e wa ⟨rfl, ha⟩) | (go_at_call 41; refine (qrd.out _ (And.right (by assumption))).mono ?_; rintro e wa ⟨rfl, ha⟩) | (go_at_call 23; refine (qc.out _ (And.right (by assumption))).mono ?_; rintro e wa ⟨rfl, ha⟩) | (go_at_call 42; refine (qe.out _ (And.right (by assumption))).mono ?_; rintro e w6 ⟨v6, rfl, o6, hb6⟩; obtain ⟨A6, c6, rfl, hc6, _⟩ := o6.slice) | (go_at_call 43; refine (qre.out _ (And.right (by assumption))).mono ?_; rintro e w7 ⟨v7, rfl, o7, hb7⟩; obtain ⟨A7, c7, rfl, hc7, _⟩ := o7.slice) | (go_at_call 26; refine (sameI_yes ((o6.reads.below hb7).more hb7.size) o7.reads (by omega)).mono ?_; rintro e w8 ⟨rfl, h8⟩) | (go_at_call 37; refine (awake16_any _).mono ?_; rintro e wz ⟨rfl, hz⟩))
    try go_wp2_with (fail)
    refine hK.out _ _ ?_ (fun hHeld => ?_)
    · (try dsimp only); (first | exact hk_call (by assumption) (by assumption) | assumption | exact hk_mk (by assumption))
    clear hK K
    try simp only [Act.put, List.setIfInBounds_toArray, List.set_cons_zero, List.set_cons_succ]
    refine wpAnyH_ready (rs := [13]) (by kernel_rfl) (by simp) ?_
    refine AllReadyH.cons (o := ⟨_, _, _, _, _, _⟩) rfl (fun K hK => ?_) AllReadyH.nil
    go_simp
    (first | (go_at_call 38; refine (qm.out _ (And.right (by assumption))).mono ?_; rintro e wa ⟨rfl, ha⟩) | (go_at_call 39; refine (qrm.out _ (And.right (by assumption))).mono ?_; rintro e wa ⟨rfl, ha⟩) | (go_at_call 40; refine (qd.out _ (And.right (by assumption))).mono ?_; rintro e wa ⟨rfl, ha⟩) | (go_at_call 41; refine (qrd.out _ (And.right (by assumption))).mono ?_; rintro e wa ⟨rfl, ha⟩) | (go_at_call 23; refine (qc.out _ (And.right (by assumption))).mono ?_; rintro e wa ⟨rfl, ha⟩) | (go_at_call 42; refine (qe.out _ (And.right (by assumption))).mono ?_; rintro e w6 ⟨v6, rfl, o6, hb6⟩; obtain ⟨A6, c6, rfl, hc6, _⟩ := o6.slice) | (go_at_call 43; refine (qre.out _ (And.right (by assumption))).mono ?_; rintro e w7 ⟨v7, rfl, o7, hb7⟩; obtain ⟨A7, c7, rfl, hc7, _⟩ := o7.slice) | (go_at_call 26; refine (sameI_yes ((o6.reads.below hb7).more hb7.size) o7.reads (by omega)).mono ?_; rintro e w8 ⟨rfl, h8⟩) | (go_at_call 37; refine (awake16_any _).mono ?_; rintro e wz ⟨rfl, hz⟩))
    try go_wp2_with (fail)
    refine hK.out _ _ ?_ (fun hHeld => ?_)
    · (try dsimp only); (first | exact hk_call (by assumption) (by assumption) | assumption | exact hk_mk (by assumption))
    clear hK K
    try simp only [Act.put, List.setIfInBounds_toArray, List.set_cons_zero, List.set_cons_succ]
    refine wpAnyH_take (i := 14) (oi := ⟨_, _, _, _, _, _⟩) (v := ?v_11) rfl (by kernel_rfl) (by kernel_rfl) (by kernel_rfl) (fun _ _ _ h => h) (Or.inl ⟨by rfl, ?hy_11⟩) (by assumption) ?r_11
    case hy_11 => (intro w_ hS_; (try dsimp only at hS_); go_simp; try with_reducible rfl)
    try simp only [Act.put, List.setIfInBounds_toArray, List.set_cons_zero, List.set_cons_succ]
    refine wpAnyH_take (i := 15) (oi := ⟨_, _, _, _, _, _⟩) (v := ?v_12) rfl (by kernel_rfl) (by kernel_rfl) (by kernel_rfl) (fun _ _ _ h => h) (Or.inl ⟨by rfl, ?hy_12⟩) (by assumption) ?r_12
    case hy_12 => (intro w_ hS_; (try dsimp only at hS_); go_simp; try with_reducible rfl)
    try simp only [Act.put, List.setIfInBounds_toArray, List.set_cons_zero, List.set_cons_succ]
    refine wpAnyH_take (i := 16) (oi := ⟨_, _, _, _, _, _⟩) (v := ?v_13) rfl (by kernel_rfl) (by kernel_rfl) (by kernel_rfl) (fun _ _ _ h => h) (Or.inl ⟨by rfl, ?hy_13⟩) (by assumption) ?r_13
    case hy_13 => (intro w_ hS_; (try dsimp only at hS_); go_simp; try with_reducible rfl)
    try simp only [Act.put, List.setIfInBounds_toArray, List.set_cons_zero, List.set_cons_succ]
    refine wpAnyH_take (i := 17) (oi := ⟨_, _, _, _, _, _⟩) (v := ?v_14) rfl (by kernel_rfl) (by kernel_rfl) (by kernel_rfl) (fun _ _ _ h => h) (Or.inl ⟨by rfl, ?hy_14⟩) (by assumption) ?r_14
    case hy_14 => (intro w_ hS_; (try dsimp only at hS_); go_simp; try with_reducible rfl)
    try simp only [Act.put, List.setIfInBounds_toArray, List.set_cons_zero, List.set_cons_succ]
    refine wpAnyH_ready (rs := [18]) (by kernel_rfl) (by simp) ?_
    refine AllReadyH.cons (o := ⟨_, _, _, _, _, _⟩) rfl (fun K hK => ?_) AllReadyH.nil
    go_simp
    (first | (go_at_call 38; refine (qm.out _ (And.right (by assumption))).mono ?_; rintro e wa ⟨rfl, ha⟩) | (go_at_call 39; refine (qrm.out _ (And.right (by assumption))).mono ?_; rintro e wa ⟨rfl, ha⟩) | (go_at_call 40; refine (qd.out _ (And.right (by assumption))).mono ?_; rintro e wa ⟨rfl, ha⟩) | (go_at_call 41; refine (qrd.out _ (And.right (by assumption))).mono ?_; rintro e wa ⟨rfl, ha⟩) | (go_at_call 23; refine (qc.out _ (And.right (by assumption))).mono ?_; rintro e wa ⟨rfl, ha⟩) | (go_at_call 42; refine (qe.out _ (And.right (by assumption))).mono ?_; rintro e w6 ⟨v6, rfl, o6, hb6⟩; obtain ⟨A6, c6, rfl, hc6, _⟩ := o6.slice) | (go_at_call 43; refine (qre.out _ (And.right (by assumption))).mono ?_; rintro e w7 ⟨v7, rfl, o7, hb7⟩; obtain ⟨A7, c7, rfl, hc7, _⟩ := o7.slice) | (go_at_call 26; refine (sameI_yes ((o6.reads.below hb7).more hb7.size) o7.reads (by omega)).mono ?_; rintro e w8 ⟨rfl, h8⟩) | (go_at_call 37; refine (awake16_any _).mono ?_; rintro e wz ⟨rfl, hz⟩))
    try go_wp2_with (fail)
    refine hK.out _ _ ?_ (fun hHeld => ?_)
    · (try dsimp only); (first | exact hk_call (by assumption) (by assumption) | assumption | exact hk_mk (by assumption))
    clear hK K
    try simp only [Act.put, List.setIfInBounds_toArray, List.set_cons_zero, List.set_cons_succ]
    refine wpAnyH_take (i := 19) (oi := ⟨_, _, _, _, _, _⟩) (v := ?v_15) rfl (by kernel_rfl) (by kernel_rfl) (by kernel_rfl) (fun _ _ _ h => h) (Or.inl ⟨by rfl, ?hy_15⟩) (by assumption) ?r_15
    case hy_15 => (intro w_ hS_; (try dsimp only at hS_); go_simp; try with_reducible rfl)
    try simp only [Act.put, List.setIfInBounds_toArray, List.set_cons_zero, List.set_cons_succ]
    refine wpAnyH_take (i := 20) (oi := ⟨_, _, _, _, _, _⟩) (v := ?v_16) rfl (by kernel_rfl) (by kernel_rfl) (by kernel_rfl) (fun _ _ _ h => h) (Or.inl ⟨by rfl, ?hy_16⟩) (by assumption) ?r_16
    case hy_16 => (intro w_ hS_; (try dsimp only at hS_); go_simp; try with_reducible rfl)
    try simp only [Act.put, List.setIfInBounds_toArray, List.set_cons_zero, List.set_cons_succ]
    refine wpAnyH_take (i := 21) (oi := ⟨_, _, _, _, _, _⟩) (v := ?v_17) rfl (by kernel_rfl) (by kernel_rfl) (by kernel_rfl) (fun _ _ _ h => h) (Or.inl ⟨by rfl, ?hy_17⟩) (by assumption) ?r_17
    case hy_17 => (intro w_ hS_; (try dsimp only at hS_); go_simp; try with_reducible rfl)
    try simp only [Act.put, List.setIfInBounds_toArray, List.set_cons_zero, List.set_cons_succ]
    refine wpAnyH_ready (rs := [22]) (by kernel_rfl) (by simp) ?_
    refine AllReadyH.cons (o := ⟨_, _, _, _, _, _⟩) rfl (fun K hK => ?_) AllReadyH.nil
    go_simp
    (first | (go_at_call 38; refine (qm.out _ (And.right (by assumption))).mono ?_; rintro e wa ⟨rfl, ha⟩) | (go_at_call 39; refine (qrm.out _ (And.right (by assumption))).mono ?_; rintro e wa ⟨rfl, ha⟩) | (go_at_call 40; refine (qd.out _ (And.right (by assumption))).mono ?_; rintro e wa ⟨rfl, ha⟩) | (go_at_call 41; refine (qrd.out _ (And.right (by assumption))).mono ?_; rintro e wa ⟨rfl, ha⟩) | (go_at_call 23; refine (qc.out _ (And.right (by assumption))).mono ?_; rintro e wa ⟨rfl, ha⟩) | (go_at_call 42; refine (qe.out _ (And.right (by assumption))).mono ?_; rintro e w6 ⟨v6, rfl, o6, hb6⟩; obtain ⟨A6, c6, rfl, hc6, _⟩ := o6.slice) | (go_at_call 43; refine (qre.out _ (And.right (by assumption))).mono ?_; rintro e w7 ⟨v7, rfl, o7, hb7⟩; obtain ⟨A7, c7, rfl, hc7, _⟩ := o7.slice) | (go_at_call 26; refine (sameI_yes ((o6.reads.below hb7).more hb7.size) o7.reads (by omega)).mono ?_; rintro e w8 ⟨rfl, h8⟩) | (go_at_call 37; refine (awake16_any _).mono ?_; rintro e wz ⟨rfl, hz⟩))
    try go_wp2_with (fail)
    refine hK.out _ _ ?_ (fun hHeld => ?_)
    · (try dsimp only); (first | exact hk_call (by assumption) (by assumption) | assumption | exact hk_mk (by assumption))
    clear hK K
    try simp only [Act.put, List.setIfInBounds_toArray, List.set_cons_zero, List.set_cons_succ]
    refine wpAnyH_take (i := 23) (oi := ⟨_, _, _, _, _, _⟩) (v := ?v_18) rfl (by kernel_rfl) (by kernel_rfl) (by kernel_rfl) (fun _ _ _ h => h) (Or.inl ⟨by rfl, ?hy_18⟩) (by assumption) ?r_18
    case hy_18 => (intro w_ hS_; (try dsimp only at hS_); go_simp; try with_reducible rfl)
    try simp only [Act.put, List.setIfInBounds_toArray, List.set_cons_zero, List.set_cons_succ]
    refine wpAnyH_take (i := 24) (oi := ⟨_, _, _, _, _, _⟩) (v := ?v_19) rfl (by kernel_rfl) (by kernel_rfl) (by kernel_rfl) (fun _ _ _ h => h) (Or.inl ⟨by rfl, ?hy_19⟩) (by assumption) ?r_19
    case hy_19 => (intro w_ hS_; (try dsimp only at hS_); go_simp; try with_reducible rfl)
    try simp only [Act.put, List.setIfInBounds_toArray, List.set_cons_zero, List.set_cons_succ]
    refine wpAnyH_take (i := 25) (oi := ⟨_, _, _, _, _, _⟩) (v := ?v_20) rfl (by kernel_rfl) (by kernel_rfl) (by kernel_rfl) (fun _ _ _ h => h) (Or.inl ⟨by rfl, ?hy_20⟩) (by assumption) ?r_20
    case hy_20 => (intro w_ hS_; (try dsimp only at hS_); go_simp; try with_reducible rfl)
    try simp only [Act.put, List.setIfInBounds_toArray, List.set_cons_zero, List.set_cons_succ]
    refine wpAnyH_take (i := 26) (oi := ⟨_, _, _, _, _, _⟩) (v := ?v_21) rfl (by kernel_rfl) (by kernel_rfl) (by kernel_rfl) (fun _ _ _ h => h) (Or.inl ⟨by rfl, ?hy_21⟩) (by assumption) ?r_21
    case hy_21 => (intro w_ hS_; (try dsimp only at hS_); go_simp; try with_reducible rfl)
    try simp only [Act.put, List.setIfInBounds_toArray, List.set_cons_zero, List.set_cons_succ]
    refine wpAnyH_take (i := 27) (oi := ⟨_, _, _, _, _, _⟩) (v := undef) rfl (by kernel_rfl) (by kernel_rfl) (by kernel_rfl) (fun _ _ _ h => h) (Or.inr ⟨by rfl, rfl⟩) (by assumption) ?_
    try simp only [Act.put, List.setIfInBounds_toArray, List.set_cons_zero, List.set_cons_succ]
    refine wpAnyH_take (i := 28) (oi := ⟨_, _, _, _, _, _⟩) (v := undef) rfl (by kernel_rfl) (by kernel_rfl) (by kernel_rfl) (fun _ _ _ h => h) (Or.inr ⟨by rfl, rfl⟩) (by assumption) ?_
    try simp only [Act.put, List.setIfInBounds_toArray, List.set_cons_zero, List.set_cons_succ]
    refine wpAnyH_take (i := 29) (oi := ⟨_, _, _, _, _, _⟩) (v := undef) rfl (by kernel_rfl) (by kernel_rfl) (by kernel_rfl) (fun _ _ _ h => h) (Or.inr ⟨by rfl, rfl⟩) (by assumption) ?_
    try simp only [Act.put, List.setIfInBounds_toArray, List.set_cons_zero, List.set_cons_succ]
    refine wpAnyH_take (i := 30) (oi := ⟨_, _, _, _, _, _⟩) (v := undef) rfl (by kernel_rfl) (by kernel_rfl) (by kernel_rfl) (fun _ _ _ h => h) (Or.inr ⟨by rfl, rfl⟩) (by assumption) ?_
    try simp only [Act.put, List.setIfInBounds_toArray, List.set_cons_zero, List.set_cons_succ]
    refine wpAnyH_take (i := 31) (oi := ⟨_, _, _, _, _, _⟩) (v := undef) rfl (by kernel_rfl) (by kernel_rfl) (by kernel_rfl) (fun _ _ _ h => h) (Or.inr ⟨by rfl, rfl⟩) (by assumption) ?_
    try simp only [Act.put, List.setIfInBounds_toArray, List.set_cons_zero, List.set_cons_succ]
    refine wpAnyH_take (i := 32) (oi := ⟨_, _, _, _, _, _⟩) (v := ?v_27) rfl (by kernel_rfl) (by kernel_rfl) (by kernel_rfl) (fun _ _ _ h => h) (Or.inl ⟨by rfl, ?hy_27⟩) (by assumption) ?r_27
    case hy_27 => (intro w_ hS_; (try dsimp only at hS_); go_simp; try with_reducible rfl)
    try simp only [Act.put, List.setIfInBounds_toArray, List.set_cons_zero, List.set_cons_succ]
    refine wpAnyH_take (i := 33) (oi := ⟨_, _, _, _, _, _⟩) (v := ?v_28) rfl (by kernel_rfl) (by kernel_rfl) (by kernel_rfl) (fun _ _ _ h => h) (Or.inl ⟨by rfl, ?hy_28⟩) (by assumption) ?r_28
    case hy_28 => (intro w_ hS_; (try dsimp only at hS_); go_simp; try with_reducible rfl)
    try simp only [Act.put, List.setIfInBounds_toArray, List.set_cons_zero, List.set_cons_succ]
    refine wpAnyH_take (i := 34) (oi := ⟨_, _, _, _, _, _⟩) (v := ?v_29) rfl (by kernel_rfl) (by kernel_rfl) (by kernel_rfl) (fun _ _ _ h => h) (Or.inl ⟨by rfl, ?hy_29⟩) (by assumption) ?r_29
    case hy_29 => (intro w_ hS_; (try dsimp only at hS_); go_simp; try with_reducible rfl)
    try simp only [Act.put, List.setIfInBounds_toArray, List.set_cons_zero, List.set_cons_succ]
    refine wpAnyH_ready (rs := [35]) (by kernel_rfl) (by simp) ?_
    refine AllReadyH.cons (o := ⟨_, _, _, _, _, _⟩) rfl (fun K hK => ?_) AllReadyH.nil
    go_simp
    (first | (go_at_call 38; refine (qm.out _ (And.right (by assumption))).mono ?_; rintro e wa ⟨rfl, ha⟩) | (go_at_call 39; refine (qrm.out _ (And.right (by assumption))).mono ?_; rintro e wa ⟨rfl, ha⟩) | (go_at_call 40; refine (qd.out _ (And.right (by assumption))).mono ?_; rintro e wa ⟨rfl, ha⟩) | (go_at_call 41; refine (qrd.out _ (And.right (by assumption))).mono ?_; rintro e wa ⟨rfl, ha⟩) | (go_at_call 23; refine (qc.out _ (And.right (by assumption))).mono ?_; rintro e wa ⟨rfl, ha⟩) | (go_at_call 42; refine (qe.out _ (And.right (by assumption))).mono ?_; rintro e w6 ⟨v6, rfl, o6, hb6⟩; obtain ⟨A6, c6, rfl, hc6, _⟩ := o6.slice) | (go_at_call 43; refine (qre.out _ (And.right (by assumption))).mono ?_; rintro e w7 ⟨v7, rfl, o7, hb7⟩; obtain ⟨A7, c7, rfl, hc7, _⟩ := o7.slice) | (go_at_call 26; refine (sameI_yes ((o6.reads.below hb7).more hb7.size) o7.reads (by omega)).mono ?_; rintro e w8 ⟨rfl, h8⟩) | (go_at_call 37; refine (awake16_any _).mono ?_; rintro e wz ⟨rfl, hz⟩))
    try go_wp2_with (fail)
    refine hK.out _ _ ?_ (fun hHeld => ?_)
    · (try dsimp only); (first | exact hk_call (by assumption) (by assumption) | assumption | exact hk_mk (by assumption))
    clear hK K
    try simp only [Act.put, List.setIfInBounds_toArray, List.set_cons_zero, List.set_cons_succ]
    refine wpAnyH_take (i := 36) (oi := ⟨_, _, _, _, _, _⟩) (v := ?v_30) rfl (by kernel_rfl) (by kernel_rfl) (by kernel_rfl) (fun _ _ _ h => h) (Or.inl ⟨by rfl, ?hy_30⟩) (by assumption) ?r_30
    case hy_30 => (intro w_ hS_; (try dsimp only at hS_); go_simp; try with_reducible rfl)
    try simp only [Act.put, List.setIfInBounds_toArray, List.set_cons_zero, List.set_cons_succ]
    refine wpAnyH_take (i := 37) (oi := ⟨_, _, _, _, _, _⟩) (v := ?v_31) rfl (by kernel_rfl) (by kernel_rfl) (by kernel_rfl) (fun _ _ _ h => h) (Or.inl ⟨by rfl, ?hy_31⟩) (by assumption) ?r_31
    case hy_31 => (intro w_ hS_; (try dsimp only at hS_); go_simp; try with_reducible rfl)
    try simp only [Act.put, List.setIfInBounds_toArray, List.set_cons_zero, List.set_cons_succ]
    refine wpAnyH_done (by kernel_rfl) ?_ _
    (have bf := And.right (by assumption : (∀ b o, b < w2.heap.size → World.cell? _ ⟨b, o, none⟩ = w2.cell? ⟨b, o, none⟩) ∧ Below w2.heap.size w2 _); go_wp2; go_ret; exact ⟨rfl, bt B2.out bf⟩)
  obtain ⟨ids, hids⟩ : ∃ i, eligP (jobs l) = i := ⟨_, rfl⟩
  rw [hids] at qe qre HL
  have hl1 : ids.length ≤ 1000 := HL.out
  rw [tabE_t zt] at qc
  clear hids zt HT HL
  go_upto_region 3 with (fail)
  refine wp_region_held_drew (S := (fun w' => (∀ b o, b < w2.heap.size → w'.cell? ⟨b, o, none⟩ = w2.cell? ⟨b, o, none⟩) ∧ Below w2.heap.size w2 w')) (by kernel_rfl) ?_ (fun hHeld => ?_)
  · (try dsimp only); (first | assumption | exact hk_drew | exact hk_call (by assumption) (by assumption) | exact hk_mk (by assumption) | (refine hk_alloc (by assumption) _) | (refine hk_row (by assumption) (by first | exact Nat.le_refl _ | exact hk_size (by assumption) | omega | (simp; done) | (simp; omega)) _) | (refine hk_set (by assumption) (by first | exact Nat.le_refl _ | exact hk_size (by assumption) | omega | (simp; done) | (simp; omega)) _))
  refine wpAnyH_take (i := 0) (oi := ⟨_, _, _, _, _, _⟩) (v := ?v_32) rfl (by kernel_rfl) (by kernel_rfl) (by kernel_rfl) (fun _ _ _ h => h) (Or.inl ⟨by rfl, ?hy_32⟩) (by assumption) ?r_32
  case hy_32 => (intro w_ hS_; (try dsimp only at hS_); go_simp; try with_reducible rfl)
  try simp only [Act.put, List.setIfInBounds_toArray, List.set_cons_zero, List.set_cons_succ]
  first
    | (refine wpAnyH_take (i := 1) (oi := ⟨_, _, _, _, _, _⟩) (v := (.agg cs.toArray)) rfl (by kernel_rfl) (by kernel_rfl) (by kernel_rfl) (fun _ _ _ h => h) (Or.inl ⟨by rfl, yl_row 28 _ (by rfl) (w.heap.size) (by rfl) 28 _ (0, 0) _ (fun w_ h_ => hk_block h_ G2.out) Tryz.underlying28 rfl (CSA.out)⟩) (by assumption) ?_)
    | (refine wpAnyH_take (i := 1) (oi := ⟨_, _, _, _, _, _⟩) (v := ?v_33) rfl (by kernel_rfl) (by kernel_rfl) (by kernel_rfl) (fun _ _ _ h => h) (Or.inl ⟨by rfl, ?hy_33⟩) (by assumption) ?r_33; case hy_33 => (intro w_ hS_; (try dsimp only at hS_); go_simp; try with_reducible rfl))
  try simp only [Act.put, List.setIfInBounds_toArray, List.set_cons_zero, List.set_cons_succ]
  refine wpAnyH_take (i := 3) (oi := ⟨_, _, _, _, _, _⟩) (v := ?v_34) rfl (by kernel_rfl) (by kernel_rfl) (by kernel_rfl) (fun _ _ _ h => h) (Or.inl ⟨by rfl, ?hy_34⟩) (by assumption) ?r_34
  case hy_34 => (intro w_ hS_; (try dsimp only at hS_); go_simp; try with_reducible rfl)
  try simp only [Act.put, List.setIfInBounds_toArray, List.set_cons_zero, List.set_cons_succ]
  first
    | (refine wpAnyH_take (i := 4) (oi := ⟨_, _, _, _, _, _⟩) (v := (.agg cs.toArray)) rfl (by kernel_rfl) (by kernel_rfl) (by kernel_rfl) (fun _ _ _ h => h) (Or.inl ⟨by rfl, yl_row 28 _ (by rfl) (w.heap.size) (by rfl) 28 _ (0, 0) _ (fun w_ h_ => hk_block h_ G2.out) Tryz.underlying28 rfl (CSA.out)⟩) (by assumption) ?_)
    | (refine wpAnyH_take (i := 4) (oi := ⟨_, _, _, _, _, _⟩) (v := ?v_35) rfl (by kernel_rfl) (by kernel_rfl) (by kernel_rfl) (fun _ _ _ h => h) (Or.inl ⟨by rfl, ?hy_35⟩) (by assumption) ?r_35; case hy_35 => (intro w_ hS_; (try dsimp only at hS_); go_simp; try with_reducible rfl))
  try simp only [Act.put, List.setIfInBounds_toArray, List.set_cons_zero, List.set_cons_succ]
  refine wpAnyH_ready (rs := [2]) (by kernel_rfl) (by simp) ?_
  refine AllReadyH.cons (o := ⟨_, _, _, _, _, _⟩) rfl (fun K hK => ?_) AllReadyH.nil
  go_simp
  (first | (go_at_call 38; refine (qm.out _ (And.right (by assumption))).mono ?_; rintro e wa ⟨rfl, ha⟩) | (go_at_call 39; refine (qrm.out _ (And.right (by assumption))).mono ?_; rintro e wa ⟨rfl, ha⟩) | (go_at_call 40; refine (qd.out _ (And.right (by assumption))).mono ?_; rintro e wa ⟨rfl, ha⟩) | (go_at_call 41; refine (qrd.out _ (And.right (by assumption))).mono ?_; rintro e wa ⟨rfl, ha⟩) | (go_at_call 23; refine (qc.out _ (And.right (by assumption))).mono ?_; rintro e wa ⟨rfl, ha⟩) | (go_at_call 42; refine (qe.out _ (And.right (by assumption))).mono ?_; rintro e w6 ⟨v6, rfl, o6, hb6⟩; obtain ⟨A6, c6, rfl, hc6, _⟩ := o6.slice) | (go_at_call 43; refine (qre.out _ (And.right (by assumption))).mono ?_; rintro e w7 ⟨v7, rfl, o7, hb7⟩; obtain ⟨A7, c7, rfl, hc7, _⟩ := o7.slice) | (go_at_call 26; refine (sameI_yes ((o6.reads.below hb7).more hb7.size) o7.reads (by omega)).mono ?_; rintro e w8 ⟨rfl, h8⟩) | (go_at_call 37; refine (awake16_any _).mono ?_; rintro e wz ⟨rfl, hz⟩))
  try go_wp2_with (fail)
  refine hK.out _ _ ?_ (fun hHeld => ?_)
  · (try dsimp only); (first | exact hk_call (by assumption) (by assumption) | assumption | exact hk_mk (by assumption))
  clear hK K
  try simp only [Act.put, List.setIfInBounds_toArray, List.set_cons_zero, List.set_cons_succ]
  refine wpAnyH_ready (rs := [5]) (by kernel_rfl) (by simp) ?_
  refine AllReadyH.cons (o := ⟨_, _, _, _, _, _⟩) rfl (fun K hK => ?_) AllReadyH.nil
  go_simp
  (first | (go_at_call 38; refine (qm.out _ (And.right (by assumption))).mono ?_; rintro e wa ⟨rfl, ha⟩) | (go_at_call 39; refine (qrm.out _ (And.right (by assumption))).mono ?_; rintro e wa ⟨rfl, ha⟩) | (go_at_call 40; refine (qd.out _ (And.right (by assumption))).mono ?_; rintro e wa ⟨rfl, ha⟩) | (go_at_call 41; refine (qrd.out _ (And.right (by assumption))).mono ?_; rintro e wa ⟨rfl, ha⟩) | (go_at_call 23; refine (qc.out _ (And.right (by assumption))).mono ?_; rintro e wa ⟨rfl, ha⟩) | (go_at_call 42; refine (qe.out _ (And.right (by assumption))).mono ?_; rintro e w6 ⟨v6, rfl, o6, hb6⟩; obtain ⟨A6, c6, rfl, hc6, _⟩ := o6.slice) | (go_at_call 43; refine (qre.out _ (And.right (by assumption))).mono ?_; rintro e w7 ⟨v7, rfl, o7, hb7⟩; obtain ⟨A7, c7, rfl, hc7, _⟩ := o7.slice) | (go_at_call 26; refine (sameI_yes ((o6.reads.below hb7).more hb7.size) o7.reads (by omega)).mono ?_; rintro e w8 ⟨rfl, h8⟩) | (go_at_call 37; refine (awake16_any _).mono ?_; rintro e wz ⟨rfl, hz⟩))
  try go_wp2_with (fail)
  refine hK.out _ _ ?_ (fun hHeld => ?_)
  · (try dsimp only); (first | exact hk_call (by assumption) (by assumption) | assumption | exact hk_mk (by assumption))
  clear hK K
  try simp only [Act.put, List.setIfInBounds_toArray, List.set_cons_zero, List.set_cons_succ]
  refine wpAnyH_take (i := 6) (oi := ⟨_, _, _, _, _, _⟩) (v := ?v_36) rfl (by kernel_rfl) (by kernel_rfl) (by kernel_rfl) (fun _ _ _ h => h) (Or.inl ⟨by rfl, ?hy_36⟩) (by assumption) ?r_36
  case hy_36 => (intro w_ hS_; (try dsimp only at hS_); go_simp; try with_reducible rfl)
  try simp only [Act.put, List.setIfInBounds_toArray, List.set_cons_zero, List.set_cons_succ]
  refine wpAnyH_take (i := 7) (oi := ⟨_, _, _, _, _, _⟩) (v := ?v_37) rfl (by kernel_rfl) (by kernel_rfl) (by kernel_rfl) (fun _ _ _ h => h) (Or.inl ⟨by rfl, ?hy_37⟩) (by assumption) ?r_37
  case hy_37 => (intro w_ hS_; (try dsimp only at hS_); go_simp; try with_reducible rfl)
  try simp only [Act.put, List.setIfInBounds_toArray, List.set_cons_zero, List.set_cons_succ]
  refine wpAnyH_take (i := 8) (oi := ⟨_, _, _, _, _, _⟩) (v := ?v_38) rfl (by kernel_rfl) (by kernel_rfl) (by kernel_rfl) (fun _ _ _ h => h) (Or.inl ⟨by rfl, ?hy_38⟩) (by assumption) ?r_38
  case hy_38 => (intro w_ hS_; (try dsimp only at hS_); go_simp; try with_reducible rfl)
  try simp only [Act.put, List.setIfInBounds_toArray, List.set_cons_zero, List.set_cons_succ]
  first
    | (refine wpAnyH_take (i := 9) (oi := ⟨_, _, _, _, _, _⟩) (v := (.agg cs.toArray)) rfl (by kernel_rfl) (by kernel_rfl) (by kernel_rfl) (fun _ _ _ h => h) (Or.inl ⟨by rfl, yl_row 28 _ (by rfl) (w.heap.size) (by rfl) 28 _ (0, 0) _ (fun w_ h_ => hk_block h_ G2.out) Tryz.underlying28 rfl (CSA.out)⟩) (by assumption) ?_)
    | (refine wpAnyH_take (i := 9) (oi := ⟨_, _, _, _, _, _⟩) (v := ?v_39) rfl (by kernel_rfl) (by kernel_rfl) (by kernel_rfl) (fun _ _ _ h => h) (Or.inl ⟨by rfl, ?hy_39⟩) (by assumption) ?r_39; case hy_39 => (intro w_ hS_; (try dsimp only at hS_); go_simp; try with_reducible rfl))
  try simp only [Act.put, List.setIfInBounds_toArray, List.set_cons_zero, List.set_cons_succ]
  refine wpAnyH_take (i := 11) (oi := ⟨_, _, _, _, _, _⟩) (v := ?v_40) rfl (by kernel_rfl) (by kernel_rfl) (by kernel_rfl) (fun _ _ _ h => h) (Or.inl ⟨by rfl, ?hy_40⟩) (by assumption) ?r_40
  case hy_40 => (intro w_ hS_; (try dsimp only at hS_); go_simp; try with_reducible rfl)
  try simp only [Act.put, List.setIfInBounds_toArray, List.set_cons_zero, List.set_cons_succ]
  first
    | (refine wpAnyH_take (i := 12) (oi := ⟨_, _, _, _, _, _⟩) (v := (.agg cs.toArray)) rfl (by kernel_rfl) (by kernel_rfl) (by kernel_rfl) (fun _ _ _ h => h) (Or.inl ⟨by rfl, yl_row 28 _ (by rfl) (w.heap.size) (by rfl) 28 _ (0, 0) _ (fun w_ h_ => hk_block h_ G2.out) Tryz.underlying28 rfl (CSA.out)⟩) (by assumption) ?_)
    | (refine wpAnyH_take (i := 12) (oi := ⟨_, _, _, _, _, _⟩) (v := ?v_41) rfl (by kernel_rfl) (by kernel_rfl) (by kernel_rfl) (fun _ _ _ h => h) (Or.inl ⟨by rfl, ?hy_41⟩) (by assumption) ?r_41; case hy_41 => (intro w_ hS_; (try dsimp only at hS_); go_simp; try with_reducible rfl))
  try simp only [Act.put, List.setIfInBounds_toArray, List.set_cons_zero, List.set_cons_succ]
  refine wpAnyH_ready (rs := [10]) (by kernel_rfl) (by simp) ?_
  refine AllReadyH.cons (o := ⟨_, _, _, _, _, _⟩) rfl (fun K hK => ?_) AllReadyH.nil
  go_simp
  (first | (go_at_call 38; refine (qm.out _ (And.right (by assumption))).mono ?_; rintro e wa ⟨rfl, ha⟩) | (go_at_call 39; refine (qrm.out _ (And.right (by assumption))).mono ?_; rintro e wa ⟨rfl, ha⟩) | (go_at_call 40; refine (qd.out _ (And.right (by assumption))).mono ?_; rintro e wa ⟨rfl, ha⟩) | (go_at_call 41; refine (qrd.out _ (And.right (by assumption))).mono ?_; rintro e wa ⟨rfl, ha⟩) | (go_at_call 23; refine (qc.out _ (And.right (by assumption))).mono ?_; rintro e wa ⟨rfl, ha⟩) | (go_at_call 42; refine (qe.out _ (And.right (by assumption))).mono ?_; rintro e w6 ⟨v6, rfl, o6, hb6⟩; obtain ⟨A6, c6, rfl, hc6, _⟩ := o6.slice) | (go_at_call 43; refine (qre.out _ (And.right (by assumption))).mono ?_; rintro e w7 ⟨v7, rfl, o7, hb7⟩; obtain ⟨A7, c7, rfl, hc7, _⟩ := o7.slice) | (go_at_call 26; refine (sameI_yes ((o6.reads.below hb7).more hb7.size) o7.reads (by omega)).mono ?_; rintro e w8 ⟨rfl, h8⟩) | (go_at_call 37; refine (awake16_any _).mono ?_; rintro e wz ⟨rfl, hz⟩))
  try go_wp2_with (fail)
  refine hK.out _ _ ?_ (fun hHeld => ?_)
  · (try dsimp only); (first | exact hk_call (by assumption) (by assumption) | assumption | exact hk_mk (by assumption))
  clear hK K
  try simp only [Act.put, List.setIfInBounds_toArray, List.set_cons_zero, List.set_cons_succ]
  refine wpAnyH_ready (rs := [13]) (by kernel_rfl) (by simp) ?_
  refine AllReadyH.cons (o := ⟨_, _, _, _, _, _⟩) rfl (fun K hK => ?_) AllReadyH.nil
  go_simp
  (first | (go_at_call 38; refine (qm.out _ (And.right (by assumption))).mono ?_; rintro e wa ⟨rfl, ha⟩) | (go_at_call 39; refine (qrm.out _ (And.right (by assumption))).mono ?_; rintro e wa ⟨rfl, ha⟩) | (go_at_call 40; refine (qd.out _ (And.right (by assumption))).mono ?_; rintro e wa ⟨rfl, ha⟩) | (go_at_call 41; refine (qrd.out _ (And.right (by assumption))).mono ?_; rintro e wa ⟨rfl, ha⟩) | (go_at_call 23; refine (qc.out _ (And.right (by assumption))).mono ?_; rintro e wa ⟨rfl, ha⟩) | (go_at_call 42; refine (qe.out _ (And.right (by assumption))).mono ?_; rintro e w6 ⟨v6, rfl, o6, hb6⟩; obtain ⟨A6, c6, rfl, hc6, _⟩ := o6.slice) | (go_at_call 43; refine (qre.out _ (And.right (by assumption))).mono ?_; rintro e w7 ⟨v7, rfl, o7, hb7⟩; obtain ⟨A7, c7, rfl, hc7, _⟩ := o7.slice) | (go_at_call 26; refine (sameI_yes ((o6.reads.below hb7).more hb7.size) o7.reads (by omega)).mono ?_; rintro e w8 ⟨rfl, h8⟩) | (go_at_call 37; refine (awake16_any _).mono ?_; rintro e wz ⟨rfl, hz⟩))
  try go_wp2_with (fail)
  refine hK.out _ _ ?_ (fun hHeld => ?_)
  · (try dsimp only); (first | exact hk_call (by assumption) (by assumption) | assumption | exact hk_mk (by assumption))
  clear hK K
  try simp only [Act.put, List.setIfInBounds_toArray, List.set_cons_zero, List.set_cons_succ]
  refine wpAnyH_take (i := 14) (oi := ⟨_, _, _, _, _, _⟩) (v := ?v_42) rfl (by kernel_rfl) (by kernel_rfl) (by kernel_rfl) (fun _ _ _ h => h) (Or.inl ⟨by rfl, ?hy_42⟩) (by assumption) ?r_42
  case hy_42 => (intro w_ hS_; (try dsimp only at hS_); go_simp; try with_reducible rfl)
  try simp only [Act.put, List.setIfInBounds_toArray, List.set_cons_zero, List.set_cons_succ]
  refine wpAnyH_take (i := 15) (oi := ⟨_, _, _, _, _, _⟩) (v := ?v_43) rfl (by kernel_rfl) (by kernel_rfl) (by kernel_rfl) (fun _ _ _ h => h) (Or.inl ⟨by rfl, ?hy_43⟩) (by assumption) ?r_43
  case hy_43 => (intro w_ hS_; (try dsimp only at hS_); go_simp; try with_reducible rfl)
  try simp only [Act.put, List.setIfInBounds_toArray, List.set_cons_zero, List.set_cons_succ]
  refine wpAnyH_take (i := 16) (oi := ⟨_, _, _, _, _, _⟩) (v := ?v_44) rfl (by kernel_rfl) (by kernel_rfl) (by kernel_rfl) (fun _ _ _ h => h) (Or.inl ⟨by rfl, ?hy_44⟩) (by assumption) ?r_44
  case hy_44 => (intro w_ hS_; (try dsimp only at hS_); go_simp; try with_reducible rfl)
  try simp only [Act.put, List.setIfInBounds_toArray, List.set_cons_zero, List.set_cons_succ]
  refine wpAnyH_take (i := 17) (oi := ⟨_, _, _, _, _, _⟩) (v := ?v_45) rfl (by kernel_rfl) (by kernel_rfl) (by kernel_rfl) (fun _ _ _ h => h) (Or.inl ⟨by rfl, ?hy_45⟩) (by assumption) ?r_45
  case hy_45 => (intro w_ hS_; (try dsimp only at hS_); go_simp; try with_reducible rfl)
  try simp only [Act.put, List.setIfInBounds_toArray, List.set_cons_zero, List.set_cons_succ]
  refine wpAnyH_ready (rs := [18]) (by kernel_rfl) (by simp) ?_
  refine AllReadyH.cons (o := ⟨_, _, _, _, _, _⟩) rfl (fun K hK => ?_) AllReadyH.nil
  go_simp
  (first | (go_at_call 38; refine (qm.out _ (And.right (by assumption))).mono ?_; rintro e wa ⟨rfl, ha⟩) | (go_at_call 39; refine (qrm.out _ (And.right (by assumption))).mono ?_; rintro e wa ⟨rfl, ha⟩) | (go_at_call 40; refine (qd.out _ (And.right (by assumption))).mono ?_; rintro e wa ⟨rfl, ha⟩) | (go_at_call 41; refine (qrd.out _ (And.right (by assumption))).mono ?_; rintro e wa ⟨rfl, ha⟩) | (go_at_call 23; refine (qc.out _ (And.right (by assumption))).mono ?_; rintro e wa ⟨rfl, ha⟩) | (go_at_call 42; refine (qe.out _ (And.right (by assumption))).mono ?_; rintro e w6 ⟨v6, rfl, o6, hb6⟩; obtain ⟨A6, c6, rfl, hc6, _⟩ := o6.slice) | (go_at_call 43; refine (qre.out _ (And.right (by assumption))).mono ?_; rintro e w7 ⟨v7, rfl, o7, hb7⟩; obtain ⟨A7, c7, rfl, hc7, _⟩ := o7.slice) | (go_at_call 26; refine (sameI_yes ((o6.reads.below hb7).more hb7.size) o7.reads (by omega)).mono ?_; rintro e w8 ⟨rfl, h8⟩) | (go_at_call 37; refine (awake16_any _).mono ?_; rintro e wz ⟨rfl, hz⟩))
  try go_wp2_with (fail)
  refine hK.out _ _ ?_ (fun hHeld => ?_)
  · (try dsimp only); (first | exact hk_call (by assumption) (by assumption) | assumption | exact hk_mk (by assumption))
  clear hK K
  try simp only [Act.put, List.setIfInBounds_toArray, List.set_cons_zero, List.set_cons_succ]
  refine wpAnyH_take (i := 19) (oi := ⟨_, _, _, _, _, _⟩) (v := ?v_46) rfl (by kernel_rfl) (by kernel_rfl) (by kernel_rfl) (fun _ _ _ h => h) (Or.inl ⟨by rfl, ?hy_46⟩) (by assumption) ?r_46
  case hy_46 => (intro w_ hS_; (try dsimp only at hS_); go_simp; try with_reducible rfl)
  try simp only [Act.put, List.setIfInBounds_toArray, List.set_cons_zero, List.set_cons_succ]
  refine wpAnyH_take (i := 20) (oi := ⟨_, _, _, _, _, _⟩) (v := ?v_47) rfl (by kernel_rfl) (by kernel_rfl) (by kernel_rfl) (fun _ _ _ h => h) (Or.inl ⟨by rfl, ?hy_47⟩) (by assumption) ?r_47
  case hy_47 => (intro w_ hS_; (try dsimp only at hS_); go_simp; try with_reducible rfl)
  try simp only [Act.put, List.setIfInBounds_toArray, List.set_cons_zero, List.set_cons_succ]
  refine wpAnyH_take (i := 21) (oi := ⟨_, _, _, _, _, _⟩) (v := undef) rfl (by kernel_rfl) (by kernel_rfl) (by kernel_rfl) (fun _ _ _ h => h) (Or.inr ⟨by rfl, rfl⟩) (by assumption) ?_
  try simp only [Act.put, List.setIfInBounds_toArray, List.set_cons_zero, List.set_cons_succ]
  refine wpAnyH_take (i := 22) (oi := ⟨_, _, _, _, _, _⟩) (v := undef) rfl (by kernel_rfl) (by kernel_rfl) (by kernel_rfl) (fun _ _ _ h => h) (Or.inr ⟨by rfl, rfl⟩) (by assumption) ?_
  try simp only [Act.put, List.setIfInBounds_toArray, List.set_cons_zero, List.set_cons_succ]
  refine wpAnyH_take (i := 23) (oi := ⟨_, _, _, _, _, _⟩) (v := undef) rfl (by kernel_rfl) (by kernel_rfl) (by kernel_rfl) (fun _ _ _ h => h) (Or.inr ⟨by rfl, rfl⟩) (by assumption) ?_
  try simp only [Act.put, List.setIfInBounds_toArray, List.set_cons_zero, List.set_cons_succ]
  refine wpAnyH_take (i := 24) (oi := ⟨_, _, _, _, _, _⟩) (v := undef) rfl (by kernel_rfl) (by kernel_rfl) (by kernel_rfl) (fun _ _ _ h => h) (Or.inr ⟨by rfl, rfl⟩) (by assumption) ?_
  try simp only [Act.put, List.setIfInBounds_toArray, List.set_cons_zero, List.set_cons_succ]
  refine wpAnyH_take (i := 25) (oi := ⟨_, _, _, _, _, _⟩) (v := ?v_52) rfl (by kernel_rfl) (by kernel_rfl) (by kernel_rfl) (fun _ _ _ h => h) (Or.inl ⟨by rfl, ?hy_52⟩) (by assumption) ?r_52
  case hy_52 => (intro w_ hS_; (try dsimp only at hS_); go_simp; try with_reducible rfl)
  try simp only [Act.put, List.setIfInBounds_toArray, List.set_cons_zero, List.set_cons_succ]
  refine wpAnyH_take (i := 26) (oi := ⟨_, _, _, _, _, _⟩) (v := ?v_53) rfl (by kernel_rfl) (by kernel_rfl) (by kernel_rfl) (fun _ _ _ h => h) (Or.inl ⟨by rfl, ?hy_53⟩) (by assumption) ?r_53
  case hy_53 => (intro w_ hS_; (try dsimp only at hS_); go_simp; try with_reducible rfl)
  try simp only [Act.put, List.setIfInBounds_toArray, List.set_cons_zero, List.set_cons_succ]
  refine wpAnyH_take (i := 27) (oi := ⟨_, _, _, _, _, _⟩) (v := ?v_54) rfl (by kernel_rfl) (by kernel_rfl) (by kernel_rfl) (fun _ _ _ h => h) (Or.inl ⟨by rfl, ?hy_54⟩) (by assumption) ?r_54
  case hy_54 => (intro w_ hS_; (try dsimp only at hS_); go_simp; try with_reducible rfl)
  try simp only [Act.put, List.setIfInBounds_toArray, List.set_cons_zero, List.set_cons_succ]
  refine wpAnyH_take (i := 29) (oi := ⟨_, _, _, _, _, _⟩) (v := ?v_55) rfl (by kernel_rfl) (by kernel_rfl) (by kernel_rfl) (fun _ _ _ h => h) (Or.inl ⟨by rfl, ?hy_55⟩) (by assumption) ?r_55
  case hy_55 => (intro w_ hS_; (try dsimp only at hS_); go_simp; try with_reducible rfl)
  try simp only [Act.put, List.setIfInBounds_toArray, List.set_cons_zero, List.set_cons_succ]
  refine wpAnyH_ready (rs := [28]) (by kernel_rfl) (by simp) ?_
  refine AllReadyH.cons (o := ⟨_, _, _, _, _, _⟩) rfl (fun K hK => ?_) AllReadyH.nil
  go_simp
  (first | (go_at_call 38; refine (qm.out _ (And.right (by assumption))).mono ?_; rintro e wa ⟨rfl, ha⟩) | (go_at_call 39; refine (qrm.out _ (And.right (by assumption))).mono ?_; rintro e wa ⟨rfl, ha⟩) | (go_at_call 40; refine (qd.out _ (And.right (by assumption))).mono ?_; rintro e wa ⟨rfl, ha⟩) | (go_at_call 41; refine (qrd.out _ (And.right (by assumption))).mono ?_; rintro e wa ⟨rfl, ha⟩) | (go_at_call 23; refine (qc.out _ (And.right (by assumption))).mono ?_; rintro e wa ⟨rfl, ha⟩) | (go_at_call 42; refine (qe.out _ (And.right (by assumption))).mono ?_; rintro e w6 ⟨v6, rfl, o6, hb6⟩; obtain ⟨A6, c6, rfl, hc6, _⟩ := o6.slice) | (go_at_call 43; refine (qre.out _ (And.right (by assumption))).mono ?_; rintro e w7 ⟨v7, rfl, o7, hb7⟩; obtain ⟨A7, c7, rfl, hc7, _⟩ := o7.slice) | (go_at_call 26; refine (sameI_yes ((o6.reads.below hb7).more hb7.size) o7.reads (by omega)).mono ?_; rintro e w8 ⟨rfl, h8⟩) | (go_at_call 37; refine (awake16_any _).mono ?_; rintro e wz ⟨rfl, hz⟩))
  try go_wp2_with (fail)
  refine hK.out _ _ ?_ (fun hHeld => ?_)
  · (try dsimp only); (first | exact hk_call (by assumption) (by assumption) | assumption | exact hk_mk (by assumption))
  clear hK K
  try simp only [Act.put, List.setIfInBounds_toArray, List.set_cons_zero, List.set_cons_succ]
  refine wpAnyH_ready (rs := [30]) (by kernel_rfl) (by simp) ?_
  refine AllReadyH.cons (o := ⟨_, _, _, _, _, _⟩) rfl (fun K hK => ?_) AllReadyH.nil
  go_simp
  (first | (go_at_call 38; refine (qm.out _ (And.right (by assumption))).mono ?_; rintro e wa ⟨rfl, ha⟩) | (go_at_call 39; refine (qrm.out _ (And.right (by assumption))).mono ?_; rintro e wa ⟨rfl, ha⟩) | (go_at_call 40; refine (qd.out _ (And.right (by assumption))).mono ?_; rintro e wa ⟨rfl, ha⟩) | (go_at_call 41; refine (qrd.out _ (And.right (by assumption))).mono ?_; rintro e wa ⟨rfl, ha⟩) | (go_at_call 23; refine (qc.out _ (And.right (by assumption))).mono ?_; rintro e wa ⟨rfl, ha⟩) | (go_at_call 42; refine (qe.out _ (And.right (by assumption))).mono ?_; rintro e w6 ⟨v6, rfl, o6, hb6⟩; obtain ⟨A6, c6, rfl, hc6, _⟩ := o6.slice) | (go_at_call 43; refine (qre.out _ (And.right (by assumption))).mono ?_; rintro e w7 ⟨v7, rfl, o7, hb7⟩; obtain ⟨A7, c7, rfl, hc7, _⟩ := o7.slice) | (go_at_call 26; refine (sameI_yes ((o6.reads.below hb7).more hb7.size) o7.reads (by omega)).mono ?_; rintro e w8 ⟨rfl, h8⟩) | (go_at_call 37; refine (awake16_any _).mono ?_; rintro e wz ⟨rfl, hz⟩))
  try go_wp2_with (fail)
  refine hK.out _ _ ?_ (fun hHeld => ?_)
  · (try dsimp only); (first | exact hk_call (by assumption) (by assumption) | assumption | exact hk_mk (by assumption))
  clear hK K
  try simp only [Act.put, List.setIfInBounds_toArray, List.set_cons_zero, List.set_cons_succ]
  refine wpAnyH_ready (rs := [31]) (by kernel_rfl) (by simp) ?_
  refine AllReadyH.cons (o := ⟨_, _, _, _, _, _⟩) rfl (fun K hK => ?_) AllReadyH.nil
  go_simp
  (first | (go_at_call 38; refine (qm.out _ (And.right (by assumption))).mono ?_; rintro e wa ⟨rfl, ha⟩) | (go_at_call 39; refine (qrm.out _ (And.right (by assumption))).mono ?_; rintro e wa ⟨rfl, ha⟩) | (go_at_call 40; refine (qd.out _ (And.right (by assumption))).mono ?_; rintro e wa ⟨rfl, ha⟩) | (go_at_call 41; refine (qrd.out _ (And.right (by assumption))).mono ?_; rintro e wa ⟨rfl, ha⟩) | (go_at_call 23; refine (qc.out _ (And.right (by assumption))).mono ?_; rintro e wa ⟨rfl, ha⟩) | (go_at_call 42; refine (qe.out _ (And.right (by assumption))).mono ?_; rintro e w6 ⟨v6, rfl, o6, hb6⟩; obtain ⟨A6, c6, rfl, hc6, _⟩ := o6.slice) | (go_at_call 43; refine (qre.out _ (And.right (by assumption))).mono ?_; rintro e w7 ⟨v7, rfl, o7, hb7⟩; obtain ⟨A7, c7, rfl, hc7, _⟩ := o7.slice) | (go_at_call 26; refine (sameI_yes ((o6.reads.below hb7).more hb7.size) o7.reads (by omega)).mono ?_; rintro e w8 ⟨rfl, h8⟩) | (go_at_call 37; refine (awake16_any _).mono ?_; rintro e wz ⟨rfl, hz⟩))
  try go_wp2_with (fail)
  refine hK.out _ _ ?_ (fun hHeld => ?_)
  · (try dsimp only); (first | exact hk_call (by assumption) (by assumption) | assumption | exact hk_mk (by assumption))
  clear hK K
  try simp only [Act.put, List.setIfInBounds_toArray, List.set_cons_zero, List.set_cons_succ]
  refine wpAnyH_take (i := 32) (oi := ⟨_, _, _, _, _, _⟩) (v := ?v_56) rfl (by kernel_rfl) (by kernel_rfl) (by kernel_rfl) (fun _ _ _ h => h) (Or.inl ⟨by rfl, ?hy_56⟩) (by assumption) ?r_56
  case hy_56 => (intro w_ hS_; (try dsimp only at hS_); go_simp; try with_reducible rfl)
  try simp only [Act.put, List.setIfInBounds_toArray, List.set_cons_zero, List.set_cons_succ]
  refine wpAnyH_take (i := 33) (oi := ⟨_, _, _, _, _, _⟩) (v := ?v_57) rfl (by kernel_rfl) (by kernel_rfl) (by kernel_rfl) (fun _ _ _ h => h) (Or.inl ⟨by rfl, ?hy_57⟩) (by assumption) ?r_57
  case hy_57 => (intro w_ hS_; (try dsimp only at hS_); go_simp; try with_reducible rfl)
  try simp only [Act.put, List.setIfInBounds_toArray, List.set_cons_zero, List.set_cons_succ]
  refine wpAnyH_take (i := 34) (oi := ⟨_, _, _, _, _, _⟩) (v := ?v_58) rfl (by kernel_rfl) (by kernel_rfl) (by kernel_rfl) (fun _ _ _ h => h) (Or.inl ⟨by rfl, ?hy_58⟩) (by assumption) ?r_58
  case hy_58 => (intro w_ hS_; (try dsimp only at hS_); go_simp; try with_reducible rfl)
  try simp only [Act.put, List.setIfInBounds_toArray, List.set_cons_zero, List.set_cons_succ]
  refine wpAnyH_ready (rs := [35]) (by kernel_rfl) (by simp) ?_
  refine AllReadyH.cons (o := ⟨_, _, _, _, _, _⟩) rfl (fun K hK => ?_) AllReadyH.nil
  go_simp
  (first | (go_at_call 38; refine (qm.out _ (And.right (by assumption))).mono ?_; rintro e wa ⟨rfl, ha⟩) | (go_at_call 39; refine (qrm.out _ (And.right (by assumption))).mono ?_; rintro e wa ⟨rfl, ha⟩) | (go_at_call 40; refine (qd.out _ (And.right (by assumption))).mono ?_; rintro e wa ⟨rfl, ha⟩) | (go_at_call 41; refine (qrd.out _ (And.right (by assumption))).mono ?_; rintro e wa ⟨rfl, ha⟩) | (go_at_call 23; refine (qc.out _ (And.right (by assumption))).mono ?_; rintro e wa ⟨rfl, ha⟩) | (go_at_call 42; refine (qe.out _ (And.right (by assumption))).mono ?_; rintro e w6 ⟨v6, rfl, o6, hb6⟩; obtain ⟨A6, c6, rfl, hc6, _⟩ := o6.slice) | (go_at_call 43; refine (qre.out _ (And.right (by assumption))).mono ?_; rintro e w7 ⟨v7, rfl, o7, hb7⟩; obtain ⟨A7, c7, rfl, hc7, _⟩ := o7.slice) | (go_at_call 26; refine (sameI_yes ((o6.reads.below hb7).more hb7.size) o7.reads (by omega)).mono ?_; rintro e w8 ⟨rfl, h8⟩) | (go_at_call 37; refine (awake16_any _).mono ?_; rintro e wz ⟨rfl, hz⟩))
  try go_wp2_with (fail)
  refine hK.out _ _ ?_ (fun hHeld => ?_)
  · (try dsimp only); (first | exact hk_call (by assumption) (by assumption) | assumption | exact hk_mk (by assumption))
  clear hK K
  try simp only [Act.put, List.setIfInBounds_toArray, List.set_cons_zero, List.set_cons_succ]
  refine wpAnyH_take (i := 36) (oi := ⟨_, _, _, _, _, _⟩) (v := ?v_59) rfl (by kernel_rfl) (by kernel_rfl) (by kernel_rfl) (fun _ _ _ h => h) (Or.inl ⟨by rfl, ?hy_59⟩) (by assumption) ?r_59
  case hy_59 => (intro w_ hS_; (try dsimp only at hS_); go_simp; try with_reducible rfl)
  try simp only [Act.put, List.setIfInBounds_toArray, List.set_cons_zero, List.set_cons_succ]
  refine wpAnyH_take (i := 37) (oi := ⟨_, _, _, _, _, _⟩) (v := ?v_60) rfl (by kernel_rfl) (by kernel_rfl) (by kernel_rfl) (fun _ _ _ h => h) (Or.inl ⟨by rfl, ?hy_60⟩) (by assumption) ?r_60
  case hy_60 => (intro w_ hS_; (try dsimp only at hS_); go_simp; try with_reducible rfl)
  try simp only [Act.put, List.setIfInBounds_toArray, List.set_cons_zero, List.set_cons_succ]
  refine wpAnyH_done (by kernel_rfl) ?_ _
  (have bf := And.right (by assumption : (∀ b o, b < w2.heap.size → World.cell? _ ⟨b, o, none⟩ = w2.cell? ⟨b, o, none⟩) ∧ Below w2.heap.size w2 _); go_wp2; go_ret; exact ⟨rfl, bt B2.out bf⟩)
end Go.Proofs.YtghmcdfmbjabnaaGreatDoor
