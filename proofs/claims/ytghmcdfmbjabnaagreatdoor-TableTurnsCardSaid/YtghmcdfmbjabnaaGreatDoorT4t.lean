/- Bundle T4. -/
import Derived.Test.YtghmcdfmbjabnaaGreatDoorT3t
import Derived.Deep.DeepCutAuto
import Derived.Deep.CutBlock
import Derived.Deep.RegionWith
namespace Go.Proofs.YtghmcdfmbjabnaaGreatDoor
set_option linter.unusedSimpArgs false
set_option maxRecDepth 100000
set_option linter.unusedVariables false
open Go.RowKit
theorem addP_tab {l : List Jb} {x : Jb} (h : tabB l = false) : addP l x = ([], 140) := by unfold addP; rw [if_neg (by rw [h]; rintro ⟨h, _⟩; cases h)]
theorem addP_job {l : List Jb} {x : Jb} (h : okJ x = false) : addP l x = ([], 140) := by unfold addP; rw [if_neg (by rw [h]; rintro ⟨_, h, _⟩; cases h)]
theorem addP_late {l : List Jb} {x : Jb} (h : l.any (fun y => decide (x.id ≤ y.id)) = true) : addP l x = ([], 140) := by unfold addP; rw [if_neg (by rw [h]; rintro ⟨_, _, h⟩; cases h)]
theorem addP_user {l : List Jb} {x : Jb} (h1 : tabB l = true) (h2 : okJ x = true) (h3 : l.any (fun y => decide (x.id ≤ y.id)) = false) (h4 : overS x = false) (h5 : 8 ≤ activeP l x.user) : addP l x = ([], 151) := by
  unfold addP; rw [if_pos ⟨h1, h2, h3⟩, if_pos ⟨h4, h5⟩]
theorem addP_room {l : List Jb} {x : Jb} (h1 : tabB l = true) (h2 : okJ x = true) (h3 : l.any (fun y => decide (x.id ≤ y.id)) = false) (h4 : overS x = true ∨ ¬ 8 ≤ activeP l x.user) (h5 : l.length < 40) : addP l x = (l ++ [x], 0) := by
  unfold addP
  rw [if_pos ⟨h1, h2, h3⟩, if_neg (fun hh => h4.elim (fun h => by rw [h] at hh; exact absurd hh.1 (by decide)) (fun h => h hh.2)), if_pos h5]
theorem addP_full {l : List Jb} {x : Jb} (h1 : tabB l = true) (h2 : okJ x = true) (h3 : l.any (fun y => decide (x.id ≤ y.id)) = false) (h4 : overS x = true ∨ ¬ 8 ≤ activeP l x.user) (h5 : ¬ l.length < 40) :
    addP l x = if 0 ≤ idxG (goneQ (l ++ [x])) l then ((l ++ [x]).eraseIdx (idxG (goneQ (l ++ [x])) l).toNat, 0) else ([], 150) := by
  unfold addP
  rw [if_pos ⟨h1, h2, h3⟩, if_neg (fun hh => h4.elim (fun h => by rw [h] at hh; exact absurd hh.1 (by decide)) (fun h => h hh.2)), if_neg h5]
theorem any_last {l : List Jb} {x y : Jb} {p : Nat} (h : tabB l = true) (hl : l.length = p + 1) (hy : l[p]? = some y) : l.any (fun y => decide (x.id ≤ y.id)) = decide (x.id ≤ y.id) := by
  cases hc : decide (x.id ≤ y.id)
  · refine List.any_eq_false.2 (fun z hz => ?_)
    obtain ⟨j, hj⟩ := List.getElem?_of_mem hz
    have hjl := (List.getElem?_eq_some_iff.1 hj).1
    simp at hc ⊢
    by_cases e : j = p
    · subst e; rw [hy] at hj; rw [← Option.some.inj hj]; exact hc
    · have := tab_lt h j p z y hj hy (by omega); omega
  · exact List.any_eq_true.2 ⟨y, List.mem_of_getElem? hy, hc⟩
theorem jobs_erase (l : List JR) (k : Nat) : jobs (l.eraseIdx k) = (jobs l).eraseIdx k := by
  unfold jobs
  induction l generalizing k with
  | nil => simp
  | cons a t ih =>
    cases k with
    | zero => simp
    | succ j => simp [ih]
set_option maxHeartbeats 8000000 in
theorem addT_any (l : List JR) (r0 : JR) (A : Option Addr) (n c B : Nat) (w : World) (ht : TbAt w B A n l) (hr : JrAt w B r0) (hB : B ≤ w.heap.size) :
    Calls Tryz.prog 33 #[.slice A n c, .agg (jrC r0).toArray] w (RetTb w (addP (jobs l) r0.x)) := by
  have hlj : Hid ((jobs l).length = n) := (jobs_len l).trans ht.len
  have q1 := Lib.hid (fun v (hv : Below w.heap.size w v) => tcheck_any l A n c B v (ht.below (hv.mono hB)) (Nat.le_trans hB hv.size))
  have q2 := Lib.hid (fun v (hv : Below w.heap.size w v) => jcheck_r (hr.below (hv.mono hB)) (Nat.le_trans hB hv.size))
  have q3 := Lib.hid (fun v => over_r r0 v)
  have q4 := Lib.hid (fun v (hv : Below w.heap.size w v) => active_any l A n c B r0.x.user v (ht.below (hv.mono hB)) (Nat.le_trans hB hv.size))
  have HCP := Lib.hid (fun (W6 : World) (h6 : Below w.heap.size w W6) v (hv : Below W6.heap.size W6 v) => (copJ_any A n c B l v (ht.1.below ((bt h6 hv).mono hB)) (Nat.le_trans hB (bt h6 hv).size) (by have := ht.2.2; omega)).mono (R' := fun e w' => ∃ v7, e = .returned v7 ∧ Owns w' W6.heap.size 28 20 v7 n (recs jrC l) ∧ Below v.heap.size v w' ∧ W6.heap.size ≤ w'.heap.size) (fun e w' ⟨v7, he, ho, hb⟩ => ⟨v7, he, ho.mono hv.size, hb, Nat.le_trans hv.size hb.size⟩))
  have HT := Lib.hid ht
  have HR0 := Lib.hid hr
  have HBW := Lib.hid hB
  have hn1 : n ≤ 1000 := ht.2.2
  have e0 : (jrC r0)[0]? = some (.int .i64 r0.x.id) := rfl
  have e2 : (jrC r0)[2]? = some (.string r0.x.user) := rfl
  have CSA := Lib.hid (jrA_info r0)
  have C1 := Lib.hid (jrA_all r0)
  have CS2 := Lib.hid (jrA_20 r0)
  obtain ⟨P, hP⟩ : ∃ P, Hid (addP (jobs l) r0.x = P) := ⟨_, rfl⟩
  rw [hP.out]
  obtain ⟨E, hE⟩ : ∃ E, Hid (jobE r0.x = E) := ⟨_, rfl⟩
  have t1 := Lib.hid (fun z (h : okJ r0.x = z) => (by rw [← hE.out]; exact jobE_ne h : (E != 0) = !z))
  rw [hE.out] at q2
  obtain ⟨x, hx⟩ : ∃ x, r0.x = x := ⟨_, rfl⟩
  obtain ⟨id, hid⟩ : ∃ i, x.id = i := ⟨_, rfl⟩
  obtain ⟨us, hus⟩ : ∃ i, x.user = i := ⟨_, rfl⟩
  have HX := Lib.hid hx
  have HID := Lib.hid hid
  have HUS := Lib.hid hus
  rw [hx] at q3 q4 e0 e2 t1 hP
  rw [hus] at q4 e2
  rw [hid] at e0
  obtain ⟨cs, hcs⟩ : ∃ cs, Hid (jrC r0 = cs) := ⟨_, rfl⟩
  rw [hcs.out] at q2 q3 e0 e2 CSA C1 CS2 ⊢
  clear ht hr hB hE hx hid hus
  cases zt : tabB (jobs l)
  case false =>
    have HR : Hid (P = ([], 140)) := hP.out.symm.trans (addP_tab zt)
    rw [tabE_f zt] at q1
    clear q2 q3 q4 HCP t1 hP
    go_enter Tryz.func33, Tryz.ntmps33
    go_wp2_with (fail)
    refine (q1.out _ bx0).mono ?_; rintro e w1 ⟨rfl, hw1⟩
    have B1 := Lib.hid (bt bx0 hw1)
    clear hw1
    go_wp2
    go_ret2
    rw [HR.out]
    exact retTb_no B1.out
  have HTB := Lib.hid zt
  have h40 : n ≤ 40 := by rw [← hlj.out]; exact (tab_iff.1 zt).1
  rw [tabE_t zt] at q1
  obtain ⟨zk, hzk⟩ : ∃ z, okJ x = z := ⟨_, rfl⟩
  have t2 : (E != 0) = !zk := t1.out zk hzk
  have HZK := Lib.hid hzk
  obtain ⟨za, hza⟩ : ∃ z, Hid ((jobs l).any (fun y => decide (x.id ≤ y.id)) = z) := ⟨_, rfl⟩
  have hlast : (n = 0 ∧ za = false) ∨ ∃ p b o lid, n = p + 1 ∧ A = some ⟨b, o, none⟩ ∧ b < B ∧ Hid (∀ v, Below w.heap.size w v → v.cell? ⟨b, o + p * 20, none⟩ = some (.int .i64 lid)) ∧ za = decide (id ≤ lid) := by
    rcases Nat.eq_zero_or_pos n with h | h
    · refine .inl ⟨h, ?_⟩
      rw [← hza.out, List.length_eq_zero_iff.1 (by rw [hlj.out]; exact h : (jobs l).length = 0)]; rfl
    · obtain ⟨b, o, r, e, hbb, hxr, KR, JQ⟩ := HT.out.elem (k := n - 1) (by omega)
      refine .inr ⟨n - 1, b, o, r.x.id, by omega, e, hbb, ?_, ?_⟩
      · show ∀ _, _
        intro v hv
        exact range_cell (j := 0) (range_lower KR.out hbb (hv.mono HBW.out)) rfl
      · rw [← hza.out, any_last HTB.out (by rw [hlj.out]; omega) (jobs_at hxr.out), HID.out]
  clear t1 hzk zt
  go_enter Tryz.func33, Tryz.ntmps33
  go_wp2_with (fail)
  refine (q1.out _ bx0).mono ?_; rintro e w1 ⟨rfl, hw1⟩
  obtain ⟨g1, hb1, s1⟩ := box_row hw1
  have G1 := Lib.hid g1
  have B1 := Lib.hid hb1
  have u0 : w1.cell? ⟨w.heap.size, 0, none⟩ = some (.int .i64 id) := (cell_of_row w1 _ 0 _ _ _ g1).trans (at_arr e0)
  clear hw1 g1 hb1
  go_upto_region 4 with (fail)
  go_cut [14] (fun v wx => v = .bool (!zk || za) ∧ Hid (Below w1.heap.size w1 wx))
  case first =>
    cases zk
    case false =>
      refine wp_region_later (by kernel_rfl) (by kernel_rfl) ?_
      have hl_ := later_cell (w1)
      try simp only [Act.put]
      repeat (first | (go_big_quiet_want; refine quiet_load_row 28 _ rfl (w.heap.size) rfl 28 _ (0, 0) _ (later_row G1.out) Tryz.underlying28 rfl (CSA.out) ?_; go_simp; go_big_quiet_on) | go_big_quiet_step (((go_at_call 53; exact later_of (q2.out _ (bt B1.out (Later.below _)))))) | quiet_step (((go_at_call 53; exact later_of (q2.out _ (bt B1.out (Later.below _)))))))
      refine wpQuiet_nil ?_
      intro w9 hx_
      obtain ⟨⟨w_, hb9⟩, e_⟩ := hx_
      have e2_ : w9 = w_ := e_
      clear e_
      subst e2_
      clear hl_
      (try go_wp2_with (fail))
      go_meet
      exact ⟨rfl, hb9⟩
    rcases hlast with ⟨h0, hz⟩ | ⟨p, b, o, lid, hp, rfl, hbb, HLC, hz⟩
    · have t3 : decide ((0 : Int) < (n : Int)) = false := by simp; omega
      have t3' : decide (0 < n) = false := by simp; omega
      clear h0
      refine wp_region_later (by kernel_rfl) (by kernel_rfl) ?_
      have hl_ := later_cell (w1)
      try simp only [Act.put]
      repeat (first | (go_big_quiet_want; refine quiet_load_row 28 _ rfl (w.heap.size) rfl 28 _ (0, 0) _ (later_row G1.out) Tryz.underlying28 rfl (CSA.out) ?_; go_simp; go_big_quiet_on) | go_big_quiet_step (((go_at_call 53; exact later_of (q2.out _ (bt B1.out (Later.below _)))))) | quiet_step (((go_at_call 53; exact later_of (q2.out _ (bt B1.out (Later.below _)))))))
      refine wpQuiet_nil ?_
      intro w9 hx_
      obtain ⟨⟨w_, hb9⟩, e_⟩ := hx_
      have e2_ : w9 = w_ := e_
      clear e_
      subst e2_
      clear hl_
      (try go_wp2_with (fail))
      go_meet
      exact ⟨by rw [hz] <;> rfl, hb9⟩
    have t3 : decide ((0 : Int) < (n : Int)) = true := by simp; omega
    have t3' : decide (0 < n) = true := by simp; omega
    have hsub : (n : Int) - 1 = (p : Int) := by omega
    have hp0 : (0 : Int) ≤ (p : Int) := by omega
    have hp1 : (p : Int) < (n : Int) := by omega
    have u1 := HLC.out _ B1.out
    have hb1l : b < w1.heap.size := Nat.lt_of_lt_of_le (Nat.lt_of_lt_of_le hbb HBW.out) B1.out.size
    have HZ := Lib.hid hz
    cases zl : decide (id ≤ lid)
    all_goals
      rw [zl] at HZ
      clear hz hp
      refine wp_region_later (by kernel_rfl) (by kernel_rfl) ?_
      have hl_ := later_cell (w1)
      try simp only [Act.put]
      repeat (first | (go_big_quiet_want; refine quiet_load_row 28 _ rfl (w.heap.size) rfl 28 _ (0, 0) _ (later_row G1.out) Tryz.underlying28 rfl (CSA.out) ?_; go_simp; go_big_quiet_on) | go_big_quiet_step (((go_at_call 53; exact later_of (q2.out _ (bt B1.out (Later.below _)))))) | quiet_step (((go_at_call 53; exact later_of (q2.out _ (bt B1.out (Later.below _)))))))
      refine wpQuiet_nil ?_
      intro w9 hx_
      obtain ⟨⟨w_, hb9⟩, e_⟩ := hx_
      have e2_ : w9 = w_ := e_
      clear e_
      subst e2_
      clear hl_
      (try go_wp2_with (fail))
      go_meet
      exact ⟨by rw [HZ.out] <;> rfl, hb9⟩
  case rest =>
    obtain ⟨rfl, hb9⟩ := hcut
    obtain ⟨w9, hw9⟩ : ∃ w9 : World, w9 = wc := ⟨_, rfl⟩
    subst hw9
    cases zz : (!zk || za)
    case true =>
      have HR : Hid (P = ([], 140)) := by
        show _ = _
        cases zk
        · exact hP.out.symm.trans (addP_job HZK.out)
        · exact hP.out.symm.trans (addP_late (hza.out.trans (by simpa using zz)))
      clear q3 q4 HCP hP
      go_wp2
      go_ret2
      rw [HR.out]
      exact retTb_no (bt B1.out hb9.out)
    obtain ⟨rfl, rfl⟩ : zk = true ∧ za = false := by simpa using zz
    have HOJ := HZK
    have HLA := hza
    have hs9 : w.heap.size < w9.heap.size := Nat.lt_of_lt_of_le s1 hb9.out.size
    have G9 := Lib.hid ((hb9.out.block _ s1).trans G1.out)
    have BW9 := Lib.hid (bt B1.out hb9.out)
    obtain ⟨na, hna⟩ : ∃ na, Hid (activeP (jobs l) us = na) := ⟨_, rfl⟩
    rw [hna.out] at q4
    have HNA : Hid (activeP (jobs l) x.user = na) := by show _ = _; rw [HUS.out]; exact hna.out
    obtain ⟨zo, hzo⟩ : ∃ z, Hid (overS x = z) := ⟨_, rfl⟩
    rw [hzo.out] at q3
    clear u0 zz t2 q1 q2
    go_upto_region 6 with (fail)
    go_cut [35] (fun v wx => v = .bool (!zo && decide (8 ≤ na)) ∧ Hid (Below w9.heap.size w9 wx))
    case first =>
      cases zo
      case true =>
        go_wp2_with (first | (refine wpList_load_row rfl 28 _ rfl (w.heap.size) rfl 28 _ (0, 0) _ G9.out Tryz.underlying28 rfl CSA.out ?_) | (go_at_call 75; refine (q3.out _).mono ?_; rintro e w6 ⟨rfl, hw6⟩))
        go_meet
        exact ⟨rfl, hw6⟩
      go_wp2_with (refine wpList_load_row rfl 28 _ rfl (w.heap.size) rfl 28 _ (0, 0) _ G9.out Tryz.underlying28 rfl CSA.out ?_)
      refine (q3.out _).mono ?_; rintro e w5 ⟨rfl, hw5⟩
      have G5 := Lib.hid ((hw5.block _ hs9).trans G9.out)
      have BW5 := Lib.hid (bt BW9.out hw5)
      have u2 : w5.cell? ⟨w.heap.size, 2, none⟩ = some (.string us) := (cell_of_row w5 _ 2 _ _ _ G5.out).trans (at_arr e2)
      cases z8 : decide (8 ≤ na)
      all_goals
        go_wp2_with (fail)
        refine (q4.out _ BW5.out).mono ?_; rintro e w6 ⟨rfl, hw6⟩
        go_wp2_with (fail)
        go_meet
        exact ⟨by rw [z8] <;> rfl, bt hw5 hw6⟩
    case rest =>
      obtain ⟨rfl, hb6⟩ := hcut
      obtain ⟨W6, hw6⟩ : ∃ w9 : World, w9 = wc := ⟨_, rfl⟩
      subst hw6
      have G6 := Lib.hid ((hb6.out.block _ hs9).trans G9.out)
      have B6 := Lib.hid (bt BW9.out hb6.out)
      cases z8 : (!zo && decide (8 ≤ na))
      case true =>
        have hz2 : zo = false ∧ 8 ≤ na := by simpa using z8
        have HR : Hid (P = ([], 151)) := hP.out.symm.trans (addP_user HTB.out HOJ.out HLA.out (hzo.out.trans hz2.1) (by rw [HNA.out]; exact hz2.2))
        clear hP HCP
        go_wp2
        go_ret2
        rw [HR.out]
        exact retTb_no B6.out
      have H4 : overS x = true ∨ ¬ 8 ≤ activeP (jobs l) x.user := by
        rw [hzo.out, HNA.out]
        cases zo
        · exact .inr (by simpa using z8)
        · exact .inl rfl
      have HNT := Lib.hid (And.intro (fun h5 : n < 40 => hP.out.symm.trans (addP_room HTB.out HOJ.out HLA.out H4 (by rw [hlj.out]; exact h5))) (fun h5 : ¬ n < 40 => hP.out.symm.trans (addP_full HTB.out HOJ.out HLA.out H4 (by rw [hlj.out]; exact h5))))
      clear hP z8 H4 hlast
      have hcp := Lib.hid (HCP.out W6 B6.out)
      go_upto_region 8 with (fail)
      go_cut [7] (fun p wx => AddRel W6 n (l ++ [r0]) p wx)
      case first =>
        refine wp_region_held_drew (S := (fun w' => (∀ b o, b < W6.heap.size → w'.cell? ⟨b, o, none⟩ = W6.cell? ⟨b, o, none⟩) ∧ Below W6.heap.size W6 w')) (by kernel_rfl) ?_ (fun hHeld => ?_)
        · (try dsimp only); (first | assumption | exact hk_drew | exact hk_call (by assumption) (by assumption) | exact hk_mk (by assumption) | (refine hk_alloc (by assumption) _) | (refine hk_row (by assumption) (by first | exact Nat.le_refl _ | exact hk_size (by assumption) | omega | (simp; done) | (simp; omega)) _) | (refine hk_set (by assumption) (by first | exact Nat.le_refl _ | exact hk_size (by assumption) | omega | (simp; done) | (simp; omega)) _))
        refine wpAnyH_take (i := 0) (oi := ⟨_, _, _, _, _, _⟩) (v := ?v_47) rfl (by kernel_rfl) (by kernel_rfl) (by kernel_rfl) (fun _ _ _ h => h) (Or.inl ⟨by rfl, ?hy_47⟩) (by assumption) ?r_47
        case hy_47 => (intro w_ hS_; (try dsimp only at hS_); go_simp; try with_reducible rfl)
        try simp only [Act.put, List.setIfInBounds_toArray, List.set_cons_zero, List.set_cons_succ]
        first
          | (refine wpAnyH_take (i := 2) (oi := ⟨_, _, _, _, _, _⟩) (v := (.agg cs.toArray)) rfl (by kernel_rfl) (by kernel_rfl) (by kernel_rfl) (fun _ _ _ h => h) (Or.inl ⟨by rfl, yl_row 28 _ (by rfl) (w.heap.size) (by rfl) 28 _ (0, 0) _ (fun w_ h_ => hk_block h_ G6.out) Tryz.underlying28 rfl (CSA.out)⟩) (by assumption) ?_)
          | (refine wpAnyH_take (i := 2) (oi := ⟨_, _, _, _, _, _⟩) (v := ?v_48) rfl (by kernel_rfl) (by kernel_rfl) (by kernel_rfl) (fun _ _ _ h => h) (Or.inl ⟨by rfl, ?hy_48⟩) (by assumption) ?r_48; case hy_48 => (intro w_ hS_; (try dsimp only at hS_); go_simp; try with_reducible rfl))
        try simp only [Act.put, List.setIfInBounds_toArray, List.set_cons_zero, List.set_cons_succ]
        refine wpAnyH_ready (rs := [1, 3, 5]) (by kernel_rfl) (by simp) ?_
        refine AllReadyH.cons (o := ⟨_, _, _, _, _, _⟩) rfl (fun K hK => ?_) ?_
        · go_simp
          (first | (go_at_call 78; refine (hcp.out _ (And.right (by assumption))).mono ?_; rintro e w7 ⟨v7, rfl, ho7, hb7, z7⟩))
          try go_wp2_with (fail)
          refine hK.out _ _ ?_ (fun hHeld => ?_)
          · (try dsimp only); (first | exact hk_call (by assumption) (by assumption) | assumption | exact hk_mk (by assumption))
          clear hK K
          try simp only [Act.put, List.setIfInBounds_toArray, List.set_cons_zero, List.set_cons_succ]
          refine wpAnyH_ready (rs := [3, 5]) (by kernel_rfl) (by simp) ?_
          refine AllReadyH.cons (o := ⟨_, _, _, _, _, _⟩) rfl (fun K hK => ?_) ?_
          · (first | (refine step_bs rfl rfl (cs := cs.toArray) rfl CS2.out ?_) | go_simp)
            refine hK.out _ _ ?_ (fun hHeld => ?_)
            · (try dsimp only); (first | assumption | (refine hk_alloc (by assumption) _))
            clear hK K
            try simp only [Act.put, List.setIfInBounds_toArray, List.set_cons_zero, List.set_cons_succ]
            refine wpAnyH_ready (rs := [4, 5]) (by kernel_rfl) (by simp) ?_
            refine AllReadyH.cons (o := ⟨_, _, _, _, _, _⟩) rfl (fun K hK => ?_) ?_
            · (first | (refine step_j rfl rfl W6.heap.size rfl (by first | exact ho7 | exact ho7.alloc _ | exact (ho7.alloc _).alloc _) rfl (row_reads (r := r0) (by rw [hcs.out]; exact (by first | exact hnew (by first | rfl | (simp; done) | (simp; omega)) | exact (hold (by first | (simp; done) | (simp; omega) | (have hz7 := hb7.size; simp at hz7 ⊢; omega))).trans (hnew (by first | rfl | (simp; done) | (simp; omega))) | exact (hcallb hb7 (by first | (simp; done) | (simp; omega) | (have hz7 := hb7.size; simp at hz7 ⊢; omega))).trans (hnew (by first | rfl | (simp; done) | (simp; omega))) | exact (hcallb hb7 (by first | (simp; done) | (simp; omega) | (have hz7 := hb7.size; simp at hz7 ⊢; omega))).trans ((hold (by first | (simp; done) | (simp; omega) | (have hz7 := hb7.size; simp at hz7 ⊢; omega))).trans (hnew (by first | rfl | (simp; done) | (simp; omega)))) | exact (hold (by first | (simp; done) | (simp; omega) | (have hz7 := hb7.size; simp at hz7 ⊢; omega))).trans ((hcallb hb7 (by first | (simp; done) | (simp; omega) | (have hz7 := hb7.size; simp at hz7 ⊢; omega))).trans (hnew (by first | rfl | (simp; done) | (simp; omega))))))) (by omega) (by omega) (hk_size (by assumption)) ?_; intro v9 wa o9 k9; obtain ⟨R9, c9, rfl, hc9, hm9⟩ := o9.slice; have B9 := k9.below (And.right (by assumption)) (Nat.le_refl _)))
              refine hK.out _ _ ?_ (fun hHeld => ?_)
              · (try dsimp only); (first | exact hk_mk (by assumption) | assumption)
              clear hK K
              try simp only [Act.put, List.setIfInBounds_toArray, List.set_cons_zero, List.set_cons_succ]
              refine wpAnyH_ready (rs := [5]) (by kernel_rfl) (by simp) ?_
              refine AllReadyH.cons (o := ⟨_, _, _, _, _, _⟩) rfl (fun K hK => ?_) AllReadyH.nil
              go_simp
              refine hK.out _ _ ?_ (fun hHeld => ?_)
              · (try dsimp only); (first | assumption | (refine hk_alloc (by assumption) _))
              clear hK K
              try simp only [Act.put, List.setIfInBounds_toArray, List.set_cons_zero, List.set_cons_succ]
              refine wpAnyH_ready (rs := [6]) (by kernel_rfl) (by simp) ?_
              refine AllReadyH.cons (o := ⟨_, _, _, _, _, _⟩) rfl (fun K hK => ?_) AllReadyH.nil
              first | (rw [if_pos (by rfl)]; first | (refine wp_store_one 43 _ _ rfl _ (.slice R9 (n + 1) c9) rfl rfl rfl 43 _ (by first | exact hnew (by first | rfl | (simp; done) | (simp; omega)) | exact k9.block (hnew (by first | rfl | (simp; done) | (simp; omega))) | exact k9.block ((hold (by first | (simp; done) | (simp; omega) | (have hz7 := hb7.size; simp at hz7 ⊢; omega))).trans (hnew (by first | rfl | (simp; done) | (simp; omega)))) | exact k9.block ((hcallb hb7 (by first | (simp; done) | (simp; omega) | (have hz7 := hb7.size; simp at hz7 ⊢; omega))).trans (hnew (by first | rfl | (simp; done) | (simp; omega)))) | exact k9.block ((hcallb hb7 (by first | (simp; done) | (simp; omega) | (have hz7 := hb7.size; simp at hz7 ⊢; omega))).trans ((hold (by first | (simp; done) | (simp; omega) | (have hz7 := hb7.size; simp at hz7 ⊢; omega))).trans (hnew (by first | rfl | (simp; done) | (simp; omega))))) | exact k9.block ((hold (by first | (simp; done) | (simp; omega) | (have hz7 := hb7.size; simp at hz7 ⊢; omega))).trans ((hcallb hb7 (by first | (simp; done) | (simp; omega) | (have hz7 := hb7.size; simp at hz7 ⊢; omega))).trans (hnew (by first | rfl | (simp; done) | (simp; omega)))))) (by kernel_rfl) ?_)) | go_simp
              refine hK.out _ _ ?_ (fun hHeld => ?_)
              · (try dsimp only); (first | assumption | (refine hk_row (by assumption) (by first | exact Nat.le_refl _ | exact hk_size (by assumption) | omega | (simp; done) | (simp; omega)) _) | (refine hk_set (by assumption) (by first | exact Nat.le_refl _ | exact hk_size (by assumption) | omega | (simp; done) | (simp; omega)) _))
              clear hK K
              try simp only [Act.put, List.setIfInBounds_toArray, List.set_cons_zero, List.set_cons_succ]
              refine wpAnyH_done (by kernel_rfl) ?_ _
              (go_wp2_with (fail); go_meet; first | exact add_late B9 o9 | exact add_rel B9 o9 (by first | exact hnew (by first | rfl | (simp; done) | (simp; omega)) | exact k9.block (hnew (by first | rfl | (simp; done) | (simp; omega))) | exact k9.block ((hold (by first | (simp; done) | (simp; omega) | (have hz7 := hb7.size; simp at hz7 ⊢; omega))).trans (hnew (by first | rfl | (simp; done) | (simp; omega)))) | exact k9.block ((hcallb hb7 (by first | (simp; done) | (simp; omega) | (have hz7 := hb7.size; simp at hz7 ⊢; omega))).trans (hnew (by first | rfl | (simp; done) | (simp; omega)))) | exact k9.block ((hcallb hb7 (by first | (simp; done) | (simp; omega) | (have hz7 := hb7.size; simp at hz7 ⊢; omega))).trans ((hold (by first | (simp; done) | (simp; omega) | (have hz7 := hb7.size; simp at hz7 ⊢; omega))).trans (hnew (by first | rfl | (simp; done) | (simp; omega))))) | exact k9.block ((hold (by first | (simp; done) | (simp; omega) | (have hz7 := hb7.size; simp at hz7 ⊢; omega))).trans ((hcallb hb7 (by first | (simp; done) | (simp; omega) | (have hz7 := hb7.size; simp at hz7 ⊢; omega))).trans (hnew (by first | rfl | (simp; done) | (simp; omega)))))) (by first | exact Nat.le_refl _ | (simp; done) | (simp; omega) | (have hz7 := hb7.size; simp at hz7 ⊢; omega)))
            refine AllReadyH.cons (o := ⟨_, _, _, _, _, _⟩) rfl (fun K hK => ?_) AllReadyH.nil
            go_simp
            refine hK.out _ _ ?_ (fun hHeld => ?_)
            · (try dsimp only); (first | assumption | (refine hk_alloc (by assumption) _))
            clear hK K
            try simp only [Act.put, List.setIfInBounds_toArray, List.set_cons_zero, List.set_cons_succ]
            refine wpAnyH_ready (rs := [4]) (by kernel_rfl) (by simp) ?_
            refine AllReadyH.cons (o := ⟨_, _, _, _, _, _⟩) rfl (fun K hK => ?_) AllReadyH.nil
            (first | (refine step_j rfl rfl W6.heap.size rfl (by first | exact ho7 | exact ho7.alloc _ | exact (ho7.alloc _).alloc _) rfl (row_reads (r := r0) (by rw [hcs.out]; exact (by first | exact hnew (by first | rfl | (simp; done) | (simp; omega)) | exact (hold (by first | (simp; done) | (simp; omega) | (have hz7 := hb7.size; simp at hz7 ⊢; omega))).trans (hnew (by first | rfl | (simp; done) | (simp; omega))) | exact (hcallb hb7 (by first | (simp; done) | (simp; omega) | (have hz7 := hb7.size; simp at hz7 ⊢; omega))).trans (hnew (by first | rfl | (simp; done) | (simp; omega))) | exact (hcallb hb7 (by first | (simp; done) | (simp; omega) | (have hz7 := hb7.size; simp at hz7 ⊢; omega))).trans ((hold (by first | (simp; done) | (simp; omega) | (have hz7 := hb7.size; simp at hz7 ⊢; omega))).trans (hnew (by first | rfl | (simp; done) | (simp; omega)))) | exact (hold (by first | (simp; done) | (simp; omega) | (have hz7 := hb7.size; simp at hz7 ⊢; omega))).trans ((hcallb hb7 (by first | (simp; done) | (simp; omega) | (have hz7 := hb7.size; simp at hz7 ⊢; omega))).trans (hnew (by first | rfl | (simp; done) | (simp; omega))))))) (by omega) (by omega) (hk_size (by assumption)) ?_; intro v9 wa o9 k9; obtain ⟨R9, c9, rfl, hc9, hm9⟩ := o9.slice; have B9 := k9.below (And.right (by assumption)) (Nat.le_refl _)))
            refine hK.out _ _ ?_ (fun hHeld => ?_)
            · (try dsimp only); (first | exact hk_mk (by assumption) | assumption)
            clear hK K
            try simp only [Act.put, List.setIfInBounds_toArray, List.set_cons_zero, List.set_cons_succ]
            refine wpAnyH_ready (rs := [6]) (by kernel_rfl) (by simp) ?_
            refine AllReadyH.cons (o := ⟨_, _, _, _, _, _⟩) rfl (fun K hK => ?_) AllReadyH.nil
            first | (rw [if_pos (by rfl)]; first | (refine wp_store_one 43 _ _ rfl _ (.slice R9 (n + 1) c9) rfl rfl rfl 43 _ (by first | exact hnew (by first | rfl | (simp; done) | (simp; omega)) | exact k9.block (hnew (by first | rfl | (simp; done) | (simp; omega))) | exact k9.block ((hold (by first | (simp; done) | (simp; omega) | (have hz7 := hb7.size; simp at hz7 ⊢; omega))).trans (hnew (by first | rfl | (simp; done) | (simp; omega)))) | exact k9.block ((hcallb hb7 (by first | (simp; done) | (simp; omega) | (have hz7 := hb7.size; simp at hz7 ⊢; omega))).trans (hnew (by first | rfl | (simp; done) | (simp; omega)))) | exact k9.block ((hcallb hb7 (by first | (simp; done) | (simp; omega) | (have hz7 := hb7.size; simp at hz7 ⊢; omega))).trans ((hold (by first | (simp; done) | (simp; omega) | (have hz7 := hb7.size; simp at hz7 ⊢; omega))).trans (hnew (by first | rfl | (simp; done) | (simp; omega))))) | exact k9.block ((hold (by first | (simp; done) | (simp; omega) | (have hz7 := hb7.size; simp at hz7 ⊢; omega))).trans ((hcallb hb7 (by first | (simp; done) | (simp; omega) | (have hz7 := hb7.size; simp at hz7 ⊢; omega))).trans (hnew (by first | rfl | (simp; done) | (simp; omega)))))) (by kernel_rfl) ?_)) | go_simp
            refine hK.out _ _ ?_ (fun hHeld => ?_)
            · (try dsimp only); (first | assumption | (refine hk_row (by assumption) (by first | exact Nat.le_refl _ | exact hk_size (by assumption) | omega | (simp; done) | (simp; omega)) _) | (refine hk_set (by assumption) (by first | exact Nat.le_refl _ | exact hk_size (by assumption) | omega | (simp; done) | (simp; omega)) _))
            clear hK K
            try simp only [Act.put, List.setIfInBounds_toArray, List.set_cons_zero, List.set_cons_succ]
            refine wpAnyH_done (by kernel_rfl) ?_ _
            (go_wp2_with (fail); go_meet; first | exact add_late B9 o9 | exact add_rel B9 o9 (by first | exact hnew (by first | rfl | (simp; done) | (simp; omega)) | exact k9.block (hnew (by first | rfl | (simp; done) | (simp; omega))) | exact k9.block ((hold (by first | (simp; done) | (simp; omega) | (have hz7 := hb7.size; simp at hz7 ⊢; omega))).trans (hnew (by first | rfl | (simp; done) | (simp; omega)))) | exact k9.block ((hcallb hb7 (by first | (simp; done) | (simp; omega) | (have hz7 := hb7.size; simp at hz7 ⊢; omega))).trans (hnew (by first | rfl | (simp; done) | (simp; omega)))) | exact k9.block ((hcallb hb7 (by first | (simp; done) | (simp; omega) | (have hz7 := hb7.size; simp at hz7 ⊢; omega))).trans ((hold (by first | (simp; done) | (simp; omega) | (have hz7 := hb7.size; simp at hz7 ⊢; omega))).trans (hnew (by first | rfl | (simp; done) | (simp; omega))))) | exact k9.block ((hold (by first | (simp; done) | (simp; omega) | (have hz7 := hb7.size; simp at hz7 ⊢; omega))).trans ((hcallb hb7 (by first | (simp; done) | (simp; omega) | (have hz7 := hb7.size; simp at hz7 ⊢; omega))).trans (hnew (by first | rfl | (simp; done) | (simp; omega)))))) (by first | exact Nat.le_refl _ | (simp; done) | (simp; omega) | (have hz7 := hb7.size; simp at hz7 ⊢; omega)))
          refine AllReadyH.cons (o := ⟨_, _, _, _, _, _⟩) rfl (fun K hK => ?_) AllReadyH.nil
          go_simp
          refine hK.out _ _ ?_ (fun hHeld => ?_)
          · (try dsimp only); (first | assumption | (refine hk_alloc (by assumption) _))
          clear hK K
          try simp only [Act.put, List.setIfInBounds_toArray, List.set_cons_zero, List.set_cons_succ]
          refine wpAnyH_ready (rs := [3]) (by kernel_rfl) (by simp) ?_
          refine AllReadyH.cons (o := ⟨_, _, _, _, _, _⟩) rfl (fun K hK => ?_) AllReadyH.nil
          (first | (refine step_bs rfl rfl (cs := cs.toArray) rfl CS2.out ?_) | go_simp)
          refine hK.out _ _ ?_ (fun hHeld => ?_)
          · (try dsimp only); (first | assumption | (refine hk_alloc (by assumption) _))
          clear hK K
          try simp only [Act.put, List.setIfInBounds_toArray, List.set_cons_zero, List.set_cons_succ]
          refine wpAnyH_ready (rs := [4]) (by kernel_rfl) (by simp) ?_
          refine AllReadyH.cons (o := ⟨_, _, _, _, _, _⟩) rfl (fun K hK => ?_) AllReadyH.nil
          (first | (refine step_j rfl rfl W6.heap.size rfl (by first | exact ho7 | exact ho7.alloc _ | exact (ho7.alloc _).alloc _) rfl (row_reads (r := r0) (by rw [hcs.out]; exact (by first | exact hnew (by first | rfl | (simp; done) | (simp; omega)) | exact (hold (by first | (simp; done) | (simp; omega) | (have hz7 := hb7.size; simp at hz7 ⊢; omega))).trans (hnew (by first | rfl | (simp; done) | (simp; omega))) | exact (hcallb hb7 (by first | (simp; done) | (simp; omega) | (have hz7 := hb7.size; simp at hz7 ⊢; omega))).trans (hnew (by first | rfl | (simp; done) | (simp; omega))) | exact (hcallb hb7 (by first | (simp; done) | (simp; omega) | (have hz7 := hb7.size; simp at hz7 ⊢; omega))).trans ((hold (by first | (simp; done) | (simp; omega) | (have hz7 := hb7.size; simp at hz7 ⊢; omega))).trans (hnew (by first | rfl | (simp; done) | (simp; omega)))) | exact (hold (by first | (simp; done) | (simp; omega) | (have hz7 := hb7.size; simp at hz7 ⊢; omega))).trans ((hcallb hb7 (by first | (simp; done) | (simp; omega) | (have hz7 := hb7.size; simp at hz7 ⊢; omega))).trans (hnew (by first | rfl | (simp; done) | (simp; omega))))))) (by omega) (by omega) (hk_size (by assumption)) ?_; intro v9 wa o9 k9; obtain ⟨R9, c9, rfl, hc9, hm9⟩ := o9.slice; have B9 := k9.below (And.right (by assumption)) (Nat.le_refl _)))
          refine hK.out _ _ ?_ (fun hHeld => ?_)
          · (try dsimp only); (first | exact hk_mk (by assumption) | assumption)
          clear hK K
          try simp only [Act.put, List.setIfInBounds_toArray, List.set_cons_zero, List.set_cons_succ]
          refine wpAnyH_ready (rs := [6]) (by kernel_rfl) (by simp) ?_
          refine AllReadyH.cons (o := ⟨_, _, _, _, _, _⟩) rfl (fun K hK => ?_) AllReadyH.nil
          first | (rw [if_pos (by rfl)]; first | (refine wp_store_one 43 _ _ rfl _ (.slice R9 (n + 1) c9) rfl rfl rfl 43 _ (by first | exact hnew (by first | rfl | (simp; done) | (simp; omega)) | exact k9.block (hnew (by first | rfl | (simp; done) | (simp; omega))) | exact k9.block ((hold (by first | (simp; done) | (simp; omega) | (have hz7 := hb7.size; simp at hz7 ⊢; omega))).trans (hnew (by first | rfl | (simp; done) | (simp; omega)))) | exact k9.block ((hcallb hb7 (by first | (simp; done) | (simp; omega) | (have hz7 := hb7.size; simp at hz7 ⊢; omega))).trans (hnew (by first | rfl | (simp; done) | (simp; omega)))) | exact k9.block ((hcallb hb7 (by first | (simp; done) | (simp; omega) | (have hz7 := hb7.size; simp at hz7 ⊢; omega))).trans ((hold (by first | (simp; done) | (simp; omega) | (have hz7 := hb7.size; simp at hz7 ⊢; omega))).trans (hnew (by first | rfl | (simp; done) | (simp; omega))))) | exact k9.block ((hold (by first | (simp; done) | (simp; omega) | (have hz7 := hb7.size; simp at hz7 ⊢; omega))).trans ((hcallb hb7 (by first | (simp; done) | (simp; omega) | (have hz7 := hb7.size; simp at hz7 ⊢; omega))).trans (hnew (by first | rfl | (simp; done) | (simp; omega)))))) (by kernel_rfl) ?_)) | go_simp
          refine hK.out _ _ ?_ (fun hHeld => ?_)
          · (try dsimp only); (first | assumption | (refine hk_row (by assumption) (by first | exact Nat.le_refl _ | exact hk_size (by assumption) | omega | (simp; done) | (simp; omega)) _) | (refine hk_set (by assumption) (by first | exact Nat.le_refl _ | exact hk_size (by assumption) | omega | (simp; done) | (simp; omega)) _))
          clear hK K
          try simp only [Act.put, List.setIfInBounds_toArray, List.set_cons_zero, List.set_cons_succ]
          refine wpAnyH_done (by kernel_rfl) ?_ _
          (go_wp2_with (fail); go_meet; first | exact add_late B9 o9 | exact add_rel B9 o9 (by first | exact hnew (by first | rfl | (simp; done) | (simp; omega)) | exact k9.block (hnew (by first | rfl | (simp; done) | (simp; omega))) | exact k9.block ((hold (by first | (simp; done) | (simp; omega) | (have hz7 := hb7.size; simp at hz7 ⊢; omega))).trans (hnew (by first | rfl | (simp; done) | (simp; omega)))) | exact k9.block ((hcallb hb7 (by first | (simp; done) | (simp; omega) | (have hz7 := hb7.size; simp at hz7 ⊢; omega))).trans (hnew (by first | rfl | (simp; done) | (simp; omega)))) | exact k9.block ((hcallb hb7 (by first | (simp; done) | (simp; omega) | (have hz7 := hb7.size; simp at hz7 ⊢; omega))).trans ((hold (by first | (simp; done) | (simp; omega) | (have hz7 := hb7.size; simp at hz7 ⊢; omega))).trans (hnew (by first | rfl | (simp; done) | (simp; omega))))) | exact k9.block ((hold (by first | (simp; done) | (simp; omega) | (have hz7 := hb7.size; simp at hz7 ⊢; omega))).trans ((hcallb hb7 (by first | (simp; done) | (simp; omega) | (have hz7 := hb7.size; simp at hz7 ⊢; omega))).trans (hnew (by first | rfl | (simp; done) | (simp; omega)))))) (by first | exact Nat.le_refl _ | (simp; done) | (simp; omega) | (have hz7 := hb7.size; simp at hz7 ⊢; omega)))
        refine AllReadyH.cons (o := ⟨_, _, _, _, _, _⟩) rfl (fun K hK => ?_) ?_
        · (first | (refine step_bs rfl rfl (cs := cs.toArray) rfl CS2.out ?_) | go_simp)
          refine hK.out _ _ ?_ (fun hHeld => ?_)
          · (try dsimp only); (first | assumption | (refine hk_alloc (by assumption) _))
          clear hK K
          try simp only [Act.put, List.setIfInBounds_toArray, List.set_cons_zero, List.set_cons_succ]
          refine wpAnyH_ready (rs := [1, 5]) (by kernel_rfl) (by simp) ?_
          refine AllReadyH.cons (o := ⟨_, _, _, _, _, _⟩) rfl (fun K hK => ?_) ?_
          · go_simp
            (first | (go_at_call 78; refine (hcp.out _ (And.right (by assumption))).mono ?_; rintro e w7 ⟨v7, rfl, ho7, hb7, z7⟩))
            try go_wp2_with (fail)
            refine hK.out _ _ ?_ (fun hHeld => ?_)
            · (try dsimp only); (first | exact hk_call (by assumption) (by assumption) | assumption | exact hk_mk (by assumption))
            clear hK K
            try simp only [Act.put, List.setIfInBounds_toArray, List.set_cons_zero, List.set_cons_succ]
            refine wpAnyH_ready (rs := [4, 5]) (by kernel_rfl) (by simp) ?_
            refine AllReadyH.cons (o := ⟨_, _, _, _, _, _⟩) rfl (fun K hK => ?_) ?_
            · (first | (refine step_j rfl rfl W6.heap.size rfl (by first | exact ho7 | exact ho7.alloc _ | exact (ho7.alloc _).alloc _) rfl (row_reads (r := r0) (by rw [hcs.out]; exact (by first | exact hnew (by first | rfl | (simp; done) | (simp; omega)) | exact (hold (by first | (simp; done) | (simp; omega) | (have hz7 := hb7.size; simp at hz7 ⊢; omega))).trans (hnew (by first | rfl | (simp; done) | (simp; omega))) | exact (hcallb hb7 (by first | (simp; done) | (simp; omega) | (have hz7 := hb7.size; simp at hz7 ⊢; omega))).trans (hnew (by first | rfl | (simp; done) | (simp; omega))) | exact (hcallb hb7 (by first | (simp; done) | (simp; omega) | (have hz7 := hb7.size; simp at hz7 ⊢; omega))).trans ((hold (by first | (simp; done) | (simp; omega) | (have hz7 := hb7.size; simp at hz7 ⊢; omega))).trans (hnew (by first | rfl | (simp; done) | (simp; omega)))) | exact (hold (by first | (simp; done) | (simp; omega) | (have hz7 := hb7.size; simp at hz7 ⊢; omega))).trans ((hcallb hb7 (by first | (simp; done) | (simp; omega) | (have hz7 := hb7.size; simp at hz7 ⊢; omega))).trans (hnew (by first | rfl | (simp; done) | (simp; omega))))))) (by omega) (by omega) (hk_size (by assumption)) ?_; intro v9 wa o9 k9; obtain ⟨R9, c9, rfl, hc9, hm9⟩ := o9.slice; have B9 := k9.below (And.right (by assumption)) (Nat.le_refl _)))
              refine hK.out _ _ ?_ (fun hHeld => ?_)
              · (try dsimp only); (first | exact hk_mk (by assumption) | assumption)
              clear hK K
              try simp only [Act.put, List.setIfInBounds_toArray, List.set_cons_zero, List.set_cons_succ]
              refine wpAnyH_ready (rs := [5]) (by kernel_rfl) (by simp) ?_
              refine AllReadyH.cons (o := ⟨_, _, _, _, _, _⟩) rfl (fun K hK => ?_) AllReadyH.nil
              go_simp
              refine hK.out _ _ ?_ (fun hHeld => ?_)
              · (try dsimp only); (first | assumption | (refine hk_alloc (by assumption) _))
              clear hK K
              try simp only [Act.put, List.setIfInBounds_toArray, List.set_cons_zero, List.set_cons_succ]
              refine wpAnyH_ready (rs := [6]) (by kernel_rfl) (by simp) ?_
              refine AllReadyH.cons (o := ⟨_, _, _, _, _, _⟩) rfl (fun K hK => ?_) AllReadyH.nil
              first | (rw [if_pos (by rfl)]; first | (refine wp_store_one 43 _ _ rfl _ (.slice R9 (n + 1) c9) rfl rfl rfl 43 _ (by first | exact hnew (by first | rfl | (simp; done) | (simp; omega)) | exact k9.block (hnew (by first | rfl | (simp; done) | (simp; omega))) | exact k9.block ((hold (by first | (simp; done) | (simp; omega) | (have hz7 := hb7.size; simp at hz7 ⊢; omega))).trans (hnew (by first | rfl | (simp; done) | (simp; omega)))) | exact k9.block ((hcallb hb7 (by first | (simp; done) | (simp; omega) | (have hz7 := hb7.size; simp at hz7 ⊢; omega))).trans (hnew (by first | rfl | (simp; done) | (simp; omega)))) | exact k9.block ((hcallb hb7 (by first | (simp; done) | (simp; omega) | (have hz7 := hb7.size; simp at hz7 ⊢; omega))).trans ((hold (by first | (simp; done) | (simp; omega) | (have hz7 := hb7.size; simp at hz7 ⊢; omega))).trans (hnew (by first | rfl | (simp; done) | (simp; omega))))) | exact k9.block ((hold (by first | (simp; done) | (simp; omega) | (have hz7 := hb7.size; simp at hz7 ⊢; omega))).trans ((hcallb hb7 (by first | (simp; done) | (simp; omega) | (have hz7 := hb7.size; simp at hz7 ⊢; omega))).trans (hnew (by first | rfl | (simp; done) | (simp; omega)))))) (by kernel_rfl) ?_)) | go_simp
              refine hK.out _ _ ?_ (fun hHeld => ?_)
              · (try dsimp only); (first | assumption | (refine hk_row (by assumption) (by first | exact Nat.le_refl _ | exact hk_size (by assumption) | omega | (simp; done) | (simp; omega)) _) | (refine hk_set (by assumption) (by first | exact Nat.le_refl _ | exact hk_size (by assumption) | omega | (simp; done) | (simp; omega)) _))
              clear hK K
              try simp only [Act.put, List.setIfInBounds_toArray, List.set_cons_zero, List.set_cons_succ]
              refine wpAnyH_done (by kernel_rfl) ?_ _
              (go_wp2_with (fail); go_meet; first | exact add_late B9 o9 | exact add_rel B9 o9 (by first | exact hnew (by first | rfl | (simp; done) | (simp; omega)) | exact k9.block (hnew (by first | rfl | (simp; done) | (simp; omega))) | exact k9.block ((hold (by first | (simp; done) | (simp; omega) | (have hz7 := hb7.size; simp at hz7 ⊢; omega))).trans (hnew (by first | rfl | (simp; done) | (simp; omega)))) | exact k9.block ((hcallb hb7 (by first | (simp; done) | (simp; omega) | (have hz7 := hb7.size; simp at hz7 ⊢; omega))).trans (hnew (by first | rfl | (simp; done) | (simp; omega)))) | exact k9.block ((hcallb hb7 (by first | (simp; done) | (simp; omega) | (have hz7 := hb7.size; simp at hz7 ⊢; omega))).trans ((hold (by first | (simp; done) | (simp; omega) | (have hz7 := hb7.size; simp at hz7 ⊢; omega))).trans (hnew (by first | rfl | (simp; done) | (simp; omega))))) | exact k9.block ((hold (by first | (simp; done) | (simp; omega) | (have hz7 := hb7.size; simp at hz7 ⊢; omega))).trans ((hcallb hb7 (by first | (simp; done) | (simp; omega) | (have hz7 := hb7.size; simp at hz7 ⊢; omega))).trans (hnew (by first | rfl | (simp; done) | (simp; omega)))))) (by first | exact Nat.le_refl _ | (simp; done) | (simp; omega) | (have hz7 := hb7.size; simp at hz7 ⊢; omega)))
            refine AllReadyH.cons (o := ⟨_, _, _, _, _, _⟩) rfl (fun K hK => ?_) AllReadyH.nil
            go_simp
            refine hK.out _ _ ?_ (fun hHeld => ?_)
            · (try dsimp only); (first | assumption | (refine hk_alloc (by assumption) _))
            clear hK K
            try simp only [Act.put, List.setIfInBounds_toArray, List.set_cons_zero, List.set_cons_succ]
            refine wpAnyH_ready (rs := [4]) (by kernel_rfl) (by simp) ?_
            refine AllReadyH.cons (o := ⟨_, _, _, _, _, _⟩) rfl (fun K hK => ?_) AllReadyH.nil
            (first | (refine step_j rfl rfl W6.heap.size rfl (by first | exact ho7 | exact ho7.alloc _ | exact (ho7.alloc _).alloc _) rfl (row_reads (r := r0) (by rw [hcs.out]; exact (by first | exact hnew (by first | rfl | (simp; done) | (simp; omega)) | exact (hold (by first | (simp; done) | (simp; omega) | (have hz7 := hb7.size; simp at hz7 ⊢; omega))).trans (hnew (by first | rfl | (simp; done) | (simp; omega))) | exact (hcallb hb7 (by first | (simp; done) | (simp; omega) | (have hz7 := hb7.size; simp at hz7 ⊢; omega))).trans (hnew (by first | rfl | (simp; done) | (simp; omega))) | exact (hcallb hb7 (by first | (simp; done) | (simp; omega) | (have hz7 := hb7.size; simp at hz7 ⊢; omega))).trans ((hold (by first | (simp; done) | (simp; omega) | (have hz7 := hb7.size; simp at hz7 ⊢; omega))).trans (hnew (by first | rfl | (simp; done) | (simp; omega)))) | exact (hold (by first | (simp; done) | (simp; omega) | (have hz7 := hb7.size; simp at hz7 ⊢; omega))).trans ((hcallb hb7 (by first | (simp; done) | (simp; omega) | (have hz7 := hb7.size; simp at hz7 ⊢; omega))).trans (hnew (by first | rfl | (simp; done) | (simp; omega))))))) (by omega) (by omega) (hk_size (by assumption)) ?_; intro v9 wa o9 k9; obtain ⟨R9, c9, rfl, hc9, hm9⟩ := o9.slice; have B9 := k9.below (And.right (by assumption)) (Nat.le_refl _)))
            refine hK.out _ _ ?_ (fun hHeld => ?_)
            · (try dsimp only); (first | exact hk_mk (by assumption) | assumption)
            clear hK K
            try simp only [Act.put, List.setIfInBounds_toArray, List.set_cons_zero, List.set_cons_succ]
            refine wpAnyH_ready (rs := [6]) (by kernel_rfl) (by simp) ?_
            refine AllReadyH.cons (o := ⟨_, _, _, _, _, _⟩) rfl (fun K hK => ?_) AllReadyH.nil
            first | (rw [if_pos (by rfl)]; first | (refine wp_store_one 43 _ _ rfl _ (.slice R9 (n + 1) c9) rfl rfl rfl 43 _ (by first | exact hnew (by first | rfl | (simp; done) | (simp; omega)) | exact k9.block (hnew (by first | rfl | (simp; done) | (simp; omega))) | exact k9.block ((hold (by first | (simp; done) | (simp; omega) | (have hz7 := hb7.size; simp at hz7 ⊢; omega))).trans (hnew (by first | rfl | (simp; done) | (simp; omega)))) | exact k9.block ((hcallb hb7 (by first | (simp; done) | (simp; omega) | (have hz7 := hb7.size; simp at hz7 ⊢; omega))).trans (hnew (by first | rfl | (simp; done) | (simp; omega)))) | exact k9.block ((hcallb hb7 (by first | (simp; done) | (simp; omega) | (have hz7 := hb7.size; simp at hz7 ⊢; omega))).trans ((hold (by first | (simp; done) | (simp; omega) | (have hz7 := hb7.size; simp at hz7 ⊢; omega))).trans (hnew (by first | rfl | (simp; done) | (simp; omega))))) | exact k9.block ((hold (by first | (simp; done) | (simp; omega) | (have hz7 := hb7.size; simp at hz7 ⊢; omega))).trans ((hcallb hb7 (by first | (simp; done) | (simp; omega) | (have hz7 := hb7.size; simp at hz7 ⊢; omega))).trans (hnew (by first | rfl | (simp; done) | (simp; omega)))))) (by kernel_rfl) ?_)) | go_simp
            refine hK.out _ _ ?_ (fun hHeld => ?_)
            · (try dsimp only); (first | assumption | (refine hk_row (by assumption) (by first | exact Nat.le_refl _ | exact hk_size (by assumption) | omega | (simp; done) | (simp; omega)) _) | (refine hk_set (by assumption) (by first | exact Nat.le_refl _ | exact hk_size (by assumption) | omega | (simp; done) | (simp; omega)) _))
            clear hK K
            try simp only [Act.put, List.setIfInBounds_toArray, List.set_cons_zero, List.set_cons_succ]
            refine wpAnyH_done (by kernel_rfl) ?_ _
            (go_wp2_with (fail); go_meet; first | exact add_late B9 o9 | exact add_rel B9 o9 (by first | exact hnew (by first | rfl | (simp; done) | (simp; omega)) | exact k9.block (hnew (by first | rfl | (simp; done) | (simp; omega))) | exact k9.block ((hold (by first | (simp; done) | (simp; omega) | (have hz7 := hb7.size; simp at hz7 ⊢; omega))).trans (hnew (by first | rfl | (simp; done) | (simp; omega)))) | exact k9.block ((hcallb hb7 (by first | (simp; done) | (simp; omega) | (have hz7 := hb7.size; simp at hz7 ⊢; omega))).trans (hnew (by first | rfl | (simp; done) | (simp; omega)))) | exact k9.block ((hcallb hb7 (by first | (simp; done) | (simp; omega) | (have hz7 := hb7.size; simp at hz7 ⊢; omega))).trans ((hold (by first | (simp; done) | (simp; omega) | (have hz7 := hb7.size; simp at hz7 ⊢; omega))).trans (hnew (by first | rfl | (simp; done) | (simp; omega))))) | exact k9.block ((hold (by first | (simp; done) | (simp; omega) | (have hz7 := hb7.size; simp at hz7 ⊢; omega))).trans ((hcallb hb7 (by first | (simp; done) | (simp; omega) | (have hz7 := hb7.size; simp at hz7 ⊢; omega))).trans (hnew (by first | rfl | (simp; done) | (simp; omega)))))) (by first | exact Nat.le_refl _ | (simp; done) | (simp; omega) | (have hz7 := hb7.size; simp at hz7 ⊢; omega)))
          refine AllReadyH.cons (o := ⟨_, _, _, _, _, _⟩) rfl (fun K hK => ?_) AllReadyH.nil
          go_simp
          refine hK.out _ _ ?_ (fun hHeld => ?_)
          · (try dsimp only); (first | assumption | (refine hk_alloc (by assumption) _))
          clear hK K
          try simp only [Act.put, List.setIfInBounds_toArray, List.set_cons_zero, List.set_cons_succ]
          refine wpAnyH_ready (rs := [1]) (by kernel_rfl) (by simp) ?_
          refine AllReadyH.cons (o := ⟨_, _, _, _, _, _⟩) rfl (fun K hK => ?_) AllReadyH.nil
          go_simp
          (first | (go_at_call 78; refine (hcp.out _ (And.right (by assumption))).mono ?_; rintro e w7 ⟨v7, rfl, ho7, hb7, z7⟩))
          try go_wp2_with (fail)
          refine hK.out _ _ ?_ (fun hHeld => ?_)
          · (try dsimp only); (first | exact hk_call (by assumption) (by assumption) | assumption | exact hk_mk (by assumption))
          clear hK K
          try simp only [Act.put, List.setIfInBounds_toArray, List.set_cons_zero, List.set_cons_succ]
          refine wpAnyH_ready (rs := [4]) (by kernel_rfl) (by simp) ?_
          refine AllReadyH.cons (o := ⟨_, _, _, _, _, _⟩) rfl (fun K hK => ?_) AllReadyH.nil
          (first | (refine step_j rfl rfl W6.heap.size rfl (by first | exact ho7 | exact ho7.alloc _ | exact (ho7.alloc _).alloc _) rfl (row_reads (r := r0) (by rw [hcs.out]; exact (by first | exact hnew (by first | rfl | (simp; done) | (simp; omega)) | exact (hold (by first | (simp; done) | (simp; omega) | (have hz7 := hb7.size; simp at hz7 ⊢; omega))).trans (hnew (by first | rfl | (simp; done) | (simp; omega))) | exact (hcallb hb7 (by first | (simp; done) | (simp; omega) | (have hz7 := hb7.size; simp at hz7 ⊢; omega))).trans (hnew (by first | rfl | (simp; done) | (simp; omega))) | exact (hcallb hb7 (by first | (simp; done) | (simp; omega) | (have hz7 := hb7.size; simp at hz7 ⊢; omega))).trans ((hold (by first | (simp; done) | (simp; omega) | (have hz7 := hb7.size; simp at hz7 ⊢; omega))).trans (hnew (by first | rfl | (simp; done) | (simp; omega)))) | exact (hold (by first | (simp; done) | (simp; omega) | (have hz7 := hb7.size; simp at hz7 ⊢; omega))).trans ((hcallb hb7 (by first | (simp; done) | (simp; omega) | (have hz7 := hb7.size; simp at hz7 ⊢; omega))).trans (hnew (by first | rfl | (simp; done) | (simp; omega))))))) (by omega) (by omega) (hk_size (by assumption)) ?_; intro v9 wa o9 k9; obtain ⟨R9, c9, rfl, hc9, hm9⟩ := o9.slice; have B9 := k9.below (And.right (by assumption)) (Nat.le_refl _)))
          refine hK.out _ _ ?_ (fun hHeld => ?_)
          · (try dsimp only); (first | exact hk_mk (by assumption) | assumption)
          clear hK K
          try simp only [Act.put, List.setIfInBounds_toArray, List.set_cons_zero, List.set_cons_succ]
          refine wpAnyH_ready (rs := [6]) (by kernel_rfl) (by simp) ?_
          refine AllReadyH.cons (o := ⟨_, _, _, _, _, _⟩) rfl (fun K hK => ?_) AllReadyH.nil
          first | (rw [if_pos (by rfl)]; first | (refine wp_store_one 43 _ _ rfl _ (.slice R9 (n + 1) c9) rfl rfl rfl 43 _ (by first | exact hnew (by first | rfl | (simp; done) | (simp; omega)) | exact k9.block (hnew (by first | rfl | (simp; done) | (simp; omega))) | exact k9.block ((hold (by first | (simp; done) | (simp; omega) | (have hz7 := hb7.size; simp at hz7 ⊢; omega))).trans (hnew (by first | rfl | (simp; done) | (simp; omega)))) | exact k9.block ((hcallb hb7 (by first | (simp; done) | (simp; omega) | (have hz7 := hb7.size; simp at hz7 ⊢; omega))).trans (hnew (by first | rfl | (simp; done) | (simp; omega)))) | exact k9.block ((hcallb hb7 (by first | (simp; done) | (simp; omega) | (have hz7 := hb7.size; simp at hz7 ⊢; omega))).trans ((hold (by first | (simp; done) | (simp; omega) | (have hz7 := hb7.size; simp at hz7 ⊢; omega))).trans (hnew (by first | rfl | (simp; done) | (simp; omega))))) | exact k9.block ((hold (by first | (simp; done) | (simp; omega) | (have hz7 := hb7.size; simp at hz7 ⊢; omega))).trans ((hcallb hb7 (by first | (simp; done) | (simp; omega) | (have hz7 := hb7.size; simp at hz7 ⊢; omega))).trans (hnew (by first | rfl | (simp; done) | (simp; omega)))))) (by kernel_rfl) ?_)) | go_simp
          refine hK.out _ _ ?_ (fun hHeld => ?_)
          · (try dsimp only); (first | assumption | (refine hk_row (by assumption) (by first | exact Nat.le_refl _ | exact hk_size (by assumption) | omega | (simp; done) | (simp; omega)) _) | (refine hk_set (by assumption) (by first | exact Nat.le_refl _ | exact hk_size (by assumption) | omega | (simp; done) | (simp; omega)) _))
          clear hK K
          try simp only [Act.put, List.setIfInBounds_toArray, List.set_cons_zero, List.set_cons_succ]
          refine wpAnyH_done (by kernel_rfl) ?_ _
          (go_wp2_with (fail); go_meet; first | exact add_late B9 o9 | exact add_rel B9 o9 (by first | exact hnew (by first | rfl | (simp; done) | (simp; omega)) | exact k9.block (hnew (by first | rfl | (simp; done) | (simp; omega))) | exact k9.block ((hold (by first | (simp; done) | (simp; omega) | (have hz7 := hb7.size; simp at hz7 ⊢; omega))).trans (hnew (by first | rfl | (simp; done) | (simp; omega)))) | exact k9.block ((hcallb hb7 (by first | (simp; done) | (simp; omega) | (have hz7 := hb7.size; simp at hz7 ⊢; omega))).trans (hnew (by first | rfl | (simp; done) | (simp; omega)))) | exact k9.block ((hcallb hb7 (by first | (simp; done) | (simp; omega) | (have hz7 := hb7.size; simp at hz7 ⊢; omega))).trans ((hold (by first | (simp; done) | (simp; omega) | (have hz7 := hb7.size; simp at hz7 ⊢; omega))).trans (hnew (by first | rfl | (simp; done) | (simp; omega))))) | exact k9.block ((hold (by first | (simp; done) | (simp; omega) | (have hz7 := hb7.size; simp at hz7 ⊢; omega))).trans ((hcallb hb7 (by first | (simp; done) | (simp; omega) | (have hz7 := hb7.size; simp at hz7 ⊢; omega))).trans (hnew (by first | rfl | (simp; done) | (simp; omega)))))) (by first | exact Nat.le_refl _ | (simp; done) | (simp; omega) | (have hz7 := hb7.size; simp at hz7 ⊢; omega)))
        refine AllReadyH.cons (o := ⟨_, _, _, _, _, _⟩) rfl (fun K hK => ?_) AllReadyH.nil
        go_simp
        refine hK.out _ _ ?_ (fun hHeld => ?_)
        · (try dsimp only); (first | assumption | (refine hk_alloc (by assumption) _))
        clear hK K
        try simp only [Act.put, List.setIfInBounds_toArray, List.set_cons_zero, List.set_cons_succ]
        refine wpAnyH_ready (rs := [1, 3]) (by kernel_rfl) (by simp) ?_
        refine AllReadyH.cons (o := ⟨_, _, _, _, _, _⟩) rfl (fun K hK => ?_) ?_
        · go_simp
          (first | (go_at_call 78; refine (hcp.out _ (And.right (by assumption))).mono ?_; rintro e w7 ⟨v7, rfl, ho7, hb7, z7⟩))
          try go_wp2_with (fail)
          refine hK.out _ _ ?_ (fun hHeld => ?_)
          · (try dsimp only); (first | exact hk_call (by assumption) (by assumption) | assumption | exact hk_mk (by assumption))
          clear hK K
          try simp only [Act.put, List.setIfInBounds_toArray, List.set_cons_zero, List.set_cons_succ]
          refine wpAnyH_ready (rs := [3]) (by kernel_rfl) (by simp) ?_
          refine AllReadyH.cons (o := ⟨_, _, _, _, _, _⟩) rfl (fun K hK => ?_) AllReadyH.nil
          (first | (refine step_bs rfl rfl (cs := cs.toArray) rfl CS2.out ?_) | go_simp)
          refine hK.out _ _ ?_ (fun hHeld => ?_)
          · (try dsimp only); (first | assumption | (refine hk_alloc (by assumption) _))
          clear hK K
          try simp only [Act.put, List.setIfInBounds_toArray, List.set_cons_zero, List.set_cons_succ]
          refine wpAnyH_ready (rs := [4]) (by kernel_rfl) (by simp) ?_
          refine AllReadyH.cons (o := ⟨_, _, _, _, _, _⟩) rfl (fun K hK => ?_) AllReadyH.nil
          (first | (refine step_j rfl rfl W6.heap.size rfl (by first | exact ho7 | exact ho7.alloc _ | exact (ho7.alloc _).alloc _) rfl (row_reads (r := r0) (by rw [hcs.out]; exact (by first | exact hnew (by first | rfl | (simp; done) | (simp; omega)) | exact (hold (by first | (simp; done) | (simp; omega) | (have hz7 := hb7.size; simp at hz7 ⊢; omega))).trans (hnew (by first | rfl | (simp; done) | (simp; omega))) | exact (hcallb hb7 (by first | (simp; done) | (simp; omega) | (have hz7 := hb7.size; simp at hz7 ⊢; omega))).trans (hnew (by first | rfl | (simp; done) | (simp; omega))) | exact (hcallb hb7 (by first | (simp; done) | (simp; omega) | (have hz7 := hb7.size; simp at hz7 ⊢; omega))).trans ((hold (by first | (simp; done) | (simp; omega) | (have hz7 := hb7.size; simp at hz7 ⊢; omega))).trans (hnew (by first | rfl | (simp; done) | (simp; omega)))) | exact (hold (by first | (simp; done) | (simp; omega) | (have hz7 := hb7.size; simp at hz7 ⊢; omega))).trans ((hcallb hb7 (by first | (simp; done) | (simp; omega) | (have hz7 := hb7.size; simp at hz7 ⊢; omega))).trans (hnew (by first | rfl | (simp; done) | (simp; omega))))))) (by omega) (by omega) (hk_size (by assumption)) ?_; intro v9 wa o9 k9; obtain ⟨R9, c9, rfl, hc9, hm9⟩ := o9.slice; have B9 := k9.below (And.right (by assumption)) (Nat.le_refl _)))
          refine hK.out _ _ ?_ (fun hHeld => ?_)
          · (try dsimp only); (first | exact hk_mk (by assumption) | assumption)
          clear hK K
          try simp only [Act.put, List.setIfInBounds_toArray, List.set_cons_zero, List.set_cons_succ]
          refine wpAnyH_ready (rs := [6]) (by kernel_rfl) (by simp) ?_
          refine AllReadyH.cons (o := ⟨_, _, _, _, _, _⟩) rfl (fun K hK => ?_) AllReadyH.nil
          first | (rw [if_pos (by rfl)]; first | (refine wp_store_one 43 _ _ rfl _ (.slice R9 (n + 1) c9) rfl rfl rfl 43 _ (by first | exact hnew (by first | rfl | (simp; done) | (simp; omega)) | exact k9.block (hnew (by first | rfl | (simp; done) | (simp; omega))) | exact k9.block ((hold (by first | (simp; done) | (simp; omega) | (have hz7 := hb7.size; simp at hz7 ⊢; omega))).trans (hnew (by first | rfl | (simp; done) | (simp; omega)))) | exact k9.block ((hcallb hb7 (by first | (simp; done) | (simp; omega) | (have hz7 := hb7.size; simp at hz7 ⊢; omega))).trans (hnew (by first | rfl | (simp; done) | (simp; omega)))) | exact k9.block ((hcallb hb7 (by first | (simp; done) | (simp; omega) | (have hz7 := hb7.size; simp at hz7 ⊢; omega))).trans ((hold (by first | (simp; done) | (simp; omega) | (have hz7 := hb7.size; simp at hz7 ⊢; omega))).trans (hnew (by first | rfl | (simp; done) | (simp; omega))))) | exact k9.block ((hold (by first | (simp; done) | (simp; omega) | (have hz7 := hb7.size; simp at hz7 ⊢; omega))).trans ((hcallb hb7 (by first | (simp; done) | (simp; omega) | (have hz7 := hb7.size; simp at hz7 ⊢; omega))).trans (hnew (by first | rfl | (simp; done) | (simp; omega)))))) (by kernel_rfl) ?_)) | go_simp
          refine hK.out _ _ ?_ (fun hHeld => ?_)
          · (try dsimp only); (first | assumption | (refine hk_row (by assumption) (by first | exact Nat.le_refl _ | exact hk_size (by assumption) | omega | (simp; done) | (simp; omega)) _) | (refine hk_set (by assumption) (by first | exact Nat.le_refl _ | exact hk_size (by assumption) | omega | (simp; done) | (simp; omega)) _))
          clear hK K
          try simp only [Act.put, List.setIfInBounds_toArray, List.set_cons_zero, List.set_cons_succ]
          refine wpAnyH_done (by kernel_rfl) ?_ _
          (go_wp2_with (fail); go_meet; first | exact add_late B9 o9 | exact add_rel B9 o9 (by first | exact hnew (by first | rfl | (simp; done) | (simp; omega)) | exact k9.block (hnew (by first | rfl | (simp; done) | (simp; omega))) | exact k9.block ((hold (by first | (simp; done) | (simp; omega) | (have hz7 := hb7.size; simp at hz7 ⊢; omega))).trans (hnew (by first | rfl | (simp; done) | (simp; omega)))) | exact k9.block ((hcallb hb7 (by first | (simp; done) | (simp; omega) | (have hz7 := hb7.size; simp at hz7 ⊢; omega))).trans (hnew (by first | rfl | (simp; done) | (simp; omega)))) | exact k9.block ((hcallb hb7 (by first | (simp; done) | (simp; omega) | (have hz7 := hb7.size; simp at hz7 ⊢; omega))).trans ((hold (by first | (simp; done) | (simp; omega) | (have hz7 := hb7.size; simp at hz7 ⊢; omega))).trans (hnew (by first | rfl | (simp; done) | (simp; omega))))) | exact k9.block ((hold (by first | (simp; done) | (simp; omega) | (have hz7 := hb7.size; simp at hz7 ⊢; omega))).trans ((hcallb hb7 (by first | (simp; done) | (simp; omega) | (have hz7 := hb7.size; simp at hz7 ⊢; omega))).trans (hnew (by first | rfl | (simp; done) | (simp; omega)))))) (by first | exact Nat.le_refl _ | (simp; done) | (simp; omega) | (have hz7 := hb7.size; simp at hz7 ⊢; omega)))
        refine AllReadyH.cons (o := ⟨_, _, _, _, _, _⟩) rfl (fun K hK => ?_) AllReadyH.nil
        (first | (refine step_bs rfl rfl (cs := cs.toArray) rfl CS2.out ?_) | go_simp)
        refine hK.out _ _ ?_ (fun hHeld => ?_)
        · (try dsimp only); (first | assumption | (refine hk_alloc (by assumption) _))
        clear hK K
        try simp only [Act.put, List.setIfInBounds_toArray, List.set_cons_zero, List.set_cons_succ]
        refine wpAnyH_ready (rs := [1]) (by kernel_rfl) (by simp) ?_
        refine AllReadyH.cons (o := ⟨_, _, _, _, _, _⟩) rfl (fun K hK => ?_) AllReadyH.nil
        go_simp
        (first | (go_at_call 78; refine (hcp.out _ (And.right (by assumption))).mono ?_; rintro e w7 ⟨v7, rfl, ho7, hb7, z7⟩))
        try go_wp2_with (fail)
        refine hK.out _ _ ?_ (fun hHeld => ?_)
        · (try dsimp only); (first | exact hk_call (by assumption) (by assumption) | assumption | exact hk_mk (by assumption))
        clear hK K
        try simp only [Act.put, List.setIfInBounds_toArray, List.set_cons_zero, List.set_cons_succ]
        refine wpAnyH_ready (rs := [4]) (by kernel_rfl) (by simp) ?_
        refine AllReadyH.cons (o := ⟨_, _, _, _, _, _⟩) rfl (fun K hK => ?_) AllReadyH.nil
        (first | (refine step_j rfl rfl W6.heap.size rfl (by first | exact ho7 | exact ho7.alloc _ | exact (ho7.alloc _).alloc _) rfl (row_reads (r := r0) (by rw [hcs.out]; exact (by first | exact hnew (by first | rfl | (simp; done) | (simp; omega)) | exact (hold (by first | (simp; done) | (simp; omega) | (have hz7 := hb7.size; simp at hz7 ⊢; omega))).trans (hnew (by first | rfl | (simp; done) | (simp; omega))) | exact (hcallb hb7 (by first | (simp; done) | (simp; omega) | (have hz7 := hb7.size; simp at hz7 ⊢; omega))).trans (hnew (by first | rfl | (simp; done) | (simp; omega))) | exact (hcallb hb7 (by first | (simp; done) | (simp; omega) | (have hz7 := hb7.size; simp at hz7 ⊢; omega))).trans ((hold (by first | (simp; done) | (simp; omega) | (have hz7 := hb7.size; simp at hz7 ⊢; omega))).trans (hnew (by first | rfl | (simp; done) | (simp; omega)))) | exact (hold (by first | (simp; done) | (simp; omega) | (have hz7 := hb7.size; simp at hz7 ⊢; omega))).trans ((hcallb hb7 (by first | (simp; done) | (simp; omega) | (have hz7 := hb7.size; simp at hz7 ⊢; omega))).trans (hnew (by first | rfl | (simp; done) | (simp; omega))))))) (by omega) (by omega) (hk_size (by assumption)) ?_; intro v9 wa o9 k9; obtain ⟨R9, c9, rfl, hc9, hm9⟩ := o9.slice; have B9 := k9.below (And.right (by assumption)) (Nat.le_refl _)))
        refine hK.out _ _ ?_ (fun hHeld => ?_)
        · (try dsimp only); (first | exact hk_mk (by assumption) | assumption)
        clear hK K
        try simp only [Act.put, List.setIfInBounds_toArray, List.set_cons_zero, List.set_cons_succ]
        refine wpAnyH_ready (rs := [6]) (by kernel_rfl) (by simp) ?_
        refine AllReadyH.cons (o := ⟨_, _, _, _, _, _⟩) rfl (fun K hK => ?_) AllReadyH.nil
        first | (rw [if_pos (by rfl)]; first | (refine wp_store_one 43 _ _ rfl _ (.slice R9 (n + 1) c9) rfl rfl rfl 43 _ (by first | exact hnew (by first | rfl | (simp; done) | (simp; omega)) | exact k9.block (hnew (by first | rfl | (simp; done) | (simp; omega))) | exact k9.block ((hold (by first | (simp; done) | (simp; omega) | (have hz7 := hb7.size; simp at hz7 ⊢; omega))).trans (hnew (by first | rfl | (simp; done) | (simp; omega)))) | exact k9.block ((hcallb hb7 (by first | (simp; done) | (simp; omega) | (have hz7 := hb7.size; simp at hz7 ⊢; omega))).trans (hnew (by first | rfl | (simp; done) | (simp; omega)))) | exact k9.block ((hcallb hb7 (by first | (simp; done) | (simp; omega) | (have hz7 := hb7.size; simp at hz7 ⊢; omega))).trans ((hold (by first | (simp; done) | (simp; omega) | (have hz7 := hb7.size; simp at hz7 ⊢; omega))).trans (hnew (by first | rfl | (simp; done) | (simp; omega))))) | exact k9.block ((hold (by first | (simp; done) | (simp; omega) | (have hz7 := hb7.size; simp at hz7 ⊢; omega))).trans ((hcallb hb7 (by first | (simp; done) | (simp; omega) | (have hz7 := hb7.size; simp at hz7 ⊢; omega))).trans (hnew (by first | rfl | (simp; done) | (simp; omega)))))) (by kernel_rfl) ?_)) | go_simp
        refine hK.out _ _ ?_ (fun hHeld => ?_)
        · (try dsimp only); (first | assumption | (refine hk_row (by assumption) (by first | exact Nat.le_refl _ | exact hk_size (by assumption) | omega | (simp; done) | (simp; omega)) _) | (refine hk_set (by assumption) (by first | exact Nat.le_refl _ | exact hk_size (by assumption) | omega | (simp; done) | (simp; omega)) _))
        clear hK K
        try simp only [Act.put, List.setIfInBounds_toArray, List.set_cons_zero, List.set_cons_succ]
        refine wpAnyH_done (by kernel_rfl) ?_ _
        (go_wp2_with (fail); go_meet; first | exact add_late B9 o9 | exact add_rel B9 o9 (by first | exact hnew (by first | rfl | (simp; done) | (simp; omega)) | exact k9.block (hnew (by first | rfl | (simp; done) | (simp; omega))) | exact k9.block ((hold (by first | (simp; done) | (simp; omega) | (have hz7 := hb7.size; simp at hz7 ⊢; omega))).trans (hnew (by first | rfl | (simp; done) | (simp; omega)))) | exact k9.block ((hcallb hb7 (by first | (simp; done) | (simp; omega) | (have hz7 := hb7.size; simp at hz7 ⊢; omega))).trans (hnew (by first | rfl | (simp; done) | (simp; omega)))) | exact k9.block ((hcallb hb7 (by first | (simp; done) | (simp; omega) | (have hz7 := hb7.size; simp at hz7 ⊢; omega))).trans ((hold (by first | (simp; done) | (simp; omega) | (have hz7 := hb7.size; simp at hz7 ⊢; omega))).trans (hnew (by first | rfl | (simp; done) | (simp; omega))))) | exact k9.block ((hold (by first | (simp; done) | (simp; omega) | (have hz7 := hb7.size; simp at hz7 ⊢; omega))).trans ((hcallb hb7 (by first | (simp; done) | (simp; omega) | (have hz7 := hb7.size; simp at hz7 ⊢; omega))).trans (hnew (by first | rfl | (simp; done) | (simp; omega)))))) (by first | exact Nat.le_refl _ | (simp; done) | (simp; omega) | (have hz7 := hb7.size; simp at hz7 ⊢; omega)))
      case rest =>
        obtain ⟨g, R, c2, rfl, HG8, HO8, HC8, B8⟩ := hcut
        obtain ⟨w8, hw8⟩ : ∃ w8 : World, w8 = wc := ⟨_, rfl⟩
        subst hw8
        have BW8 := Lib.hid (bt B6.out B8.out)
        have HT8 : Hid (TbAt w8 w8.heap.size R (n + 1) (l ++ [r0])) := by
          refine ⟨HO8.out.reads, fun q hq => ?_, by omega⟩
          rcases List.mem_append.1 hq with h | h
          · exact ((HT.out.2.1 q h).below (BW8.out.mono HBW.out)).more (Nat.le_trans HBW.out BW8.out.size)
          · rw [List.mem_singleton.1 h]; exact (HR0.out.below (BW8.out.mono HBW.out)).more (Nat.le_trans HBW.out BW8.out.size)
        have HJ8 : Hid (jobs (l ++ [r0]) = jobs l ++ [x]) := by show _ = _; rw [jobs_append, ← HX.out]; rfl
        have hl8 : Hid ((jobs l ++ [x]).length = n + 1) := by show _ = _; rw [List.length_append, hlj.out]; rfl
        have u8 : w8.cell? ⟨g, 0, none⟩ = some (.slice R (n + 1) c2) := (cell_of_row w8 _ 0 _ _ _ HG8.out).trans rfl
        (try clear q1 q2)
        clear hcp q3 q4 HCP
        by_cases hlt : n < 40
        · have HLT := Lib.hid hlt
          clear hlt
          have HR := Lib.hid (HNT.out.1 HLT.out)
          have t9 : decide ((40 : Int) < (n : Int) + 1) = false := by have := HLT.out; simp; omega
          have t9' : decide (40 < n + 1) = false := by have := HLT.out; simp; omega
          have t9'' : decide ((40 : Int) < ((n + 1 : Nat) : Int)) = false := by have := HLT.out; simp; omega
          have q6 := Lib.hid (whole_any (l ++ [r0]) R (n + 1) c2 _ _ HT8.out (Nat.le_refl _))
          rw [HJ8.out] at q6
          go_wp2_with (fail)
          refine q6.out.mono ?_; rintro e w9 ⟨A6, c6, fr, rfl, hj, hc6, ho6, ha6, hb6⟩
          rw [hl8.out] at hc6 ho6 ⊢
          have B9 := Lib.hid (bt BW8.out hb6)
          have HO6 := Lib.hid ho6
          have HA6 := Lib.hid ha6
          have HJ6 := Lib.hid hj
          clear hj ho6 ha6 hb6 u8
          go_wp2
          go_ret2
          rw [HR.out]
          exact retTb_of BW8.out.size hl8.out HJ6.out hc6 (by omega) HO6.out HA6.out B9.out
        · have HLT := Lib.hid hlt
          clear hlt
          have h40n : Hid (n = 40) := by have := HLT.out; show n = 40; omega
          have HR := Lib.hid (HNT.out.2 HLT.out)
          have t9 : decide ((40 : Int) < (n : Int) + 1) = true := by have := h40n.out; simp; omega
          have t9' : decide (40 < n + 1) = true := by have := h40n.out; simp; omega
          have t9'' : decide ((40 : Int) < ((n + 1 : Nat) : Int)) = true := by have := h40n.out; simp; omega
          have eg : ∀ args w, (callFunc 80 args).run Tryz.prog w = .ok (.enter 80 args) w := enters_of Tryz.func80 (by kernel_rfl) rfl
          have hg8 : g < w8.heap.size := (Array.getElem?_eq_some_iff.1 HG8.out).1
          have q7 := Lib.hid (idxJ_any (goneQ (jobs (l ++ [r0]))) 80 #[.pointer (some ⟨g, 0, none⟩)] eg _ n c B l w8 (HT.out.below (BW8.out.mono HBW.out)) (Nat.le_trans HBW.out BW8.out.size)
            (fun W r hv hr => (add1_r r (l ++ [r0]) R (n + 1) c2 g w8.heap.size W (((HT.out.2.1 r hr).below (BW8.out.mono HBW.out)).below (hv.mono (Nat.le_trans HBW.out BW8.out.size)) |>.more (Nat.le_trans HBW.out BW8.out.size)) (HT8.out.below hv) hv.size (Nat.lt_of_lt_of_le hg8 hv.size) ((hv.cell (p := ⟨g, 0, none⟩) hg8).trans u8)).mono fun e w' ⟨he, hb⟩ => ⟨he, bt hv hb⟩))
          rw [HJ8.out] at q7
          clear eg
          rcases idxG_cases (goneQ (jobs l ++ [x])) (jobs l) with ⟨hi, _⟩ | ⟨k, y, hi, _, _, hkl⟩
          · rw [hi] at q7
            have HRI : Hid (P = ([], 150)) := by show _ = _; rw [HR.out, hi]; rfl
            clear HR hi
            go_wp2_with (fail)
            refine q7.out.mono ?_; rintro e w10 ⟨rfl, hb10⟩
            have B10 := Lib.hid (bt BW8.out hb10)
            clear hb10 u8
            go_wp2
            go_ret2
            rw [HRI.out]
            exact retTb_no B10.out
          rw [hi] at q7
          have HRI : Hid (P = ((jobs l ++ [x]).eraseIdx k, 0)) := by show _ = _; rw [HR.out, hi, if_pos (by omega)]; rfl
          rw [hlj.out] at hkl
          clear HR hi
          have tk : decide ((k : Int) < 0) = false := by simp
          obtain ⟨gb, cb, ev, hgb, _⟩ := HO8.out.at_ (by omega)
          simp only [Value.slice.injEq, true_and] at ev
          obtain ⟨rfl, rfl⟩ := ev
          have hne : g ≠ gb := fun e => by subst e; exact HO8.out.ne_var (by omega) HG8.out rfl
          have q8 := Lib.hid (fun v (hv : Below w8.heap.size w8 v) => delete_any (l ++ [r0]) gb (n + 1) c2 k W6.heap.size v (HO8.out.below hv) (by omega) (by omega))
          obtain ⟨N1, hN1⟩ : ∃ m, Hid (k + (n + 1 - (k + 1)) = m) := ⟨_, rfl⟩
          simp only [hN1.out] at q8
          have hN2 := hN1.out
          go_wp2_with (fail)
          refine q7.out.mono ?_; rintro e w10 ⟨rfl, hb10⟩
          have HG10 := Lib.hid ((hb10.block _ hg8).trans HG8.out)
          have u10 : w10.cell? ⟨g, 0, none⟩ = some (.slice (some ⟨gb, 0, none⟩) (n + 1) c2) := (cell_of_row w10 _ 0 _ _ _ HG10.out).trans rfl
          have hg10 : g < w10.heap.size := Nat.lt_of_lt_of_le hg8 hb10.size
          have B10 := Lib.hid hb10
          clear hb10 u8
          go_wp2_with (fail)
          refine (q8.out _ B10.out).mono ?_; rintro e w11 ⟨rfl, ho11, hk11⟩
          have HG11 := Lib.hid ((hk11.block _ hg10 (fun e => hne (Option.some.inj e))).trans HG10.out)
          have u11 : w11.cell? ⟨g, 0, none⟩ = some (.slice (some ⟨gb, 0, none⟩) (n + 1) c2) := (cell_of_row w11 _ 0 _ _ _ HG11.out).trans rfl
          have f11 : w11.frozen? ⟨g, 0, none⟩ = false := by simp [World.frozen?, HG11.out]
          have hB11 : Below w.heap.size w (w11.setCell ⟨g, 0, none⟩ (.slice (some ⟨gb, 0, none⟩) N1 c2)) :=
            (((bt BW8.out B10.out).trans (hk11.below (bt BW8.out B10.out).size (fun j h => by rw [← Option.some.inj h]; exact Nat.le_trans B6.out.size hgb)))).setCell (p := ⟨g, 0, none⟩) (Nat.le_trans B6.out.size HC8.out.1) _
          have BW11 := Lib.hid hB11
          have HT11 : Hid (TbAt (w11.setCell ⟨g, 0, none⟩ (.slice (some ⟨gb, 0, none⟩) N1 c2)) (w11.setCell ⟨g, 0, none⟩ (.slice (some ⟨gb, 0, none⟩) N1 c2)).heap.size (some ⟨gb, 0, none⟩) N1 ((l ++ [r0]).eraseIdx k)) := by
            refine ⟨(ho11.setCell (p := ⟨g, 0, none⟩) (fun e => hne (Option.some.inj e).symm) _).reads, fun q hq => ?_, by omega⟩
            rcases List.mem_append.1 (List.mem_of_mem_eraseIdx hq) with h | h
            · exact ((HT.out.2.1 q h).below (BW11.out.mono HBW.out)).more (Nat.le_trans HBW.out BW11.out.size)
            · rw [List.mem_singleton.1 h]; exact (HR0.out.below (BW11.out.mono HBW.out)).more (Nat.le_trans HBW.out BW11.out.size)
          have q9 := Lib.hid (whole_any ((l ++ [r0]).eraseIdx k) (some ⟨gb, 0, none⟩) N1 c2 _ _ HT11.out (Nat.le_refl _))
          rw [jobs_erase, HJ8.out] at q9
          have hl11 : Hid (((jobs l ++ [x]).eraseIdx k).length = N1) := by show _ = _; rw [List.length_eraseIdx, if_pos (by rw [hl8.out]; omega), hl8.out]; omega
          clear ho11 hk11 hB11 u10
          go_wp2_with (fail)
          refine q9.out.mono ?_; rintro e w12 ⟨A6, c6, fr, rfl, hj, hc6, ho6, ha6, hb6⟩
          rw [hl11.out] at hc6 ho6 ⊢
          have B12 := Lib.hid (bt BW11.out hb6)
          have HO6 := Lib.hid ho6
          have HA6 := Lib.hid ha6
          have HJ6 := Lib.hid hj
          clear hj ho6 ha6 hb6 u11 f11
          go_wp2
          go_ret2
          rw [HRI.out]
          exact retTb_of BW11.out.size hl11.out HJ6.out hc6 (by omega) HO6.out HA6.out B12.out
end Go.Proofs.YtghmcdfmbjabnaaGreatDoor
