/- Layer 16: DepsDoomed walked (printed by a program of my own). -/
import Derived.Test.YtghmcdfmbjabnaaGreatDoorDp4x
import Derived.Test.YtghmcdfmbjabnaaGreatDoorT1t
import Derived.Test.YtghmcdfmbjabnaaGreatDoorQ9t
import Derived.Test.YtghmcdfmbjabnaaGreatDoorQ1t
namespace Go.Proofs.YtghmcdfmbjabnaaGreatDoor
set_option linter.unusedVariables false
open Go.RowKit
set_option linter.unusedSimpArgs false in
set_option maxHeartbeats 4000000 in
set_option maxRecDepth 100000 in
theorem has16_any (A : Option Addr) (n c B : Nat) (l : List Int) (id : Int) (w : World) (hr : Reads w B 1 A n (ints l)) (hB : B ≤ w.heap.size) (hn : n ≤ 1000000) :
    Calls Tryz.prog 46 #[.slice A n c, .int .i64 id] w fun e w' => e = .returned (.bool (decide (id ∈ l))) ∧ Below w.heap.size w w' := by
  have hlen : Hid (l.length = n) := hr.len
  have HR := Lib.hid hr
  obtain ⟨R, hR⟩ : ∃ R, Hid (decide (id ∈ l) = R) := ⟨_, rfl⟩
  rw [hR.out]
  clear hr
  go_enter Tryz.func46, Tryz.ntmps46
  go_wp2
  go_loopw [5] (fun i wr => ∃ k : Nat, k ≤ n ∧ i = .int .i64 k ∧ Hid (Below w.heap.size w wr) ∧ Hid (∀ (j : Nat) (z : Int), j < k → l[j]? = some z → z ≠ id)) (fun i _ => n - (intOf i).toNat)
  case atStart => exact ⟨0, Nat.zero_le _, rfl, Below.refl _ _, fun j z h => by omega⟩
  case round =>
    obtain ⟨k, hk, rfl, hbw, HN⟩ := hrel
    by_cases hlt : k < n
    · obtain ⟨a, ea, hab, hcell⟩ := (HR.out.below (hbw.out.mono hB)).2 (by omega)
      subst ea
      have hlm : k < l.length := by rw [hlen.out]; exact hlt
      have hz1 : l[k]? = some l[k] := List.getElem?_eq_getElem hlm
      obtain ⟨z, hz⟩ : ∃ z, l[k] = z := ⟨_, rfl⟩
      rw [hz] at hz1
      have y0 := hcell k (.int .i64 z) (by unfold ints; rw [List.getElem?_map, hz1]; rfl)
      have hi0 : (0 : Int) ≤ (k : Int) := by omega
      have hi1 : (k : Int) < (n : Int) := by omega
      have t0 : decide ((k : Int) < (n : Int)) = true := by simp; omega
      obtain ⟨ab, ao, ap⟩ := a
      clear hcell hz
      by_cases hq : z = id
      · have t1 : (z == id) = true := by simpa using hq
        have HR2 : Hid (R = true) := by show _ = _; rw [← hR.out]; exact decide_eq_true (by rw [← hq]; exact List.mem_of_getElem? hz1)
        clear hq hz1
        go_wp2
        go_ret
        exact ⟨by rw [HR2.out] <;> rfl, hbw.out⟩
      · have t1 : (z == id) = false := by simpa using hq
        have HN2 : Hid (∀ (j : Nat) (u : Int), j < k + 1 → l[j]? = some u → u ≠ id) := Lib.hid (fun j u hj hu => by
          by_cases e : j = k
          · subst e; rw [hz1] at hu; rw [← Option.some.inj hu]; exact hq
          · exact HN.out j u (by omega) hu)
        clear hq hz1
        go_wp2
        go_roundw
        case rel => exact ⟨k + 1, by omega, by simp, hbw, HN2⟩
        case measure => simp [intOf]; omega
    · obtain rfl : k = n := by omega
      have t0 : decide ((k : Int) < (k : Int)) = false := by simp
      have HR2 : Hid (R = false) := by
        show _ = _
        rw [← hR.out]
        refine decide_eq_false (fun hm => ?_)
        obtain ⟨j, hj⟩ := List.getElem?_of_mem hm
        exact HN.out j id (by have := (List.getElem?_eq_some_iff.1 hj).1; have := hlen.out; omega) hj rfl
      go_wp2
      go_ret
      exact ⟨by rw [HR2.out] <;> rfl, hbw.out⟩
theorem sameJ_own (x : Jb) : sameJ x x = true := by
  have h := sameLL_refl [x]
  unfold sameLL at h
  rw [Bool.and_eq_true] at h
  exact h.1
theorem doomed_round {l : List Jb} {k : Nat} {x y : Jb} (h : tabB l = true) (hx : l[k]? = some x) (hy : (dmC l l.length)[k]? = some y) :
    (decide (y.id ∈ dmI l l.length) = true ∧ y.state = 6 ∧ x.state = 1 ∧ doomedP (dmC l l.length) x = true) ∨
    (decide (y.id ∈ dmI l l.length) = false ∧ y = x ∧ (y.state = 1 → doomedP (dmC l l.length) y = false)) := by
  have hk : k < l.length := (List.getElem?_eq_some_iff.1 hx).1
  have h1 := dm_at h hx l.length hk
  have h2 := dm_has h hx l.length hk
  rw [hy, Option.some.injEq] at h1
  have ht := dmC_tab h l.length
  cases hv : vainQ (dmC l l.length) x
  · rw [hv, if_neg (by decide)] at h1
    subst h1
    rw [hv] at h2
    refine .inr ⟨h2, rfl, fun hs => ?_⟩
    unfold vainQ at hv
    unfold doomedP
    rw [hs] at hv
    rw [ht, Bool.true_and]
    simpa using hv
  · rw [hv, if_pos rfl] at h1
    rw [hv] at h2
    have hid : y.id = x.id := by rw [h1]; exact fin_id x 6
    refine .inl ⟨by rw [hid]; exact h2, by rw [h1]; exact fin_state x 6, (vain_state hv).1, ?_⟩
    unfold doomedP
    rw [ht, Bool.true_and]
    exact (vain_state hv).2
set_option linter.unusedSimpArgs false in
set_option maxHeartbeats 8000000 in
set_option maxRecDepth 100000 in
theorem depsDoomed_walk (l : List JR) (A : Option Addr) (n c : Nat) (w : World) (hr : Reads w w.heap.size 20 A n (recs jrC l)) (hl : ∀ r ∈ l, JbIn w r.x r.A r.c r.A2 r.c2) :
    Calls Tryz.prog 11 #[.slice A n c] w fun e w' => e = .returned (.bool true) ∧ Below w.heap.size w w' := by
  have f1 := Lib.hid (few15_any l A n c w.heap.size w hr (Nat.le_refl _))
  cases z1 : fewT15 (jobs l)
  case false =>
    rw [z1] at f1
    clear hr hl
    go_enter Tryz.func11, Tryz.ntmps11
    go_wp2_with (fail)
    refine f1.out.mono ?_; rintro e w1 ⟨rfl, hw1⟩
    go_wp2_with (fail)
    refine (awake16_any _).mono ?_; rintro e wz ⟨rfl, hwz⟩
    go_wp2
    go_ret
    exact ⟨rfl, bt hw1 hwz⟩
  rw [z1] at f1
  have HT := Lib.hid (tabD_in hr hl z1)
  have hn1 : n ≤ 1000 := HT.out.2.2
  have hlj : Hid ((jobs l).length = n) := (jobs_len l).trans HT.out.len
  clear hr hl z1
  have q0 := Lib.hid (fun v (hv : Below w.heap.size w v) => tcheck_any l A n c v.heap.size v (HT.out.up hv) (Nat.le_refl _))
  cases zt : tabB (jobs l)
  case false =>
    rw [tabE_f zt] at q0
    clear HT
    go_enter Tryz.func11, Tryz.ntmps11
    go_wp2_with (fail)
    refine f1.out.mono ?_; rintro e w1 ⟨rfl, hw1⟩
    go_wp2_with (fail)
    refine (q0.out _ hw1).mono ?_; rintro e w2 ⟨rfl, hw2⟩
    go_wp2_with (fail)
    refine (awake16_any _).mono ?_; rintro e wz ⟨rfl, hwz⟩
    go_wp2
    go_ret
    exact ⟨rfl, bt (bt hw1 hw2) hwz⟩
  rw [tabE_t zt] at q0
  have HZ := Lib.hid zt
  have q1 := Lib.hid (fun v (hv : Below w.heap.size w v) => doom_any l A n c v.heap.size v (HT.out.up hv) (Nat.le_refl _))
  have HP : doomP (jobs l) = (dmC (jobs l) (jobs l).length, dmI (jobs l) (jobs l).length) := by unfold doomP; rw [zt]; rfl
  rw [HP] at q1
  have HRND := Lib.hid (fun k x y hx hy => doomed_round (k := k) (x := x) (y := y) zt hx hy)
  have HMT : Hid (tabB (dmC (jobs l) (jobs l).length) = true) := dmC_tab zt _
  have HSTILL : Hid (doomP (dmC (jobs l) (jobs l).length) = (dmC (jobs l) (jobs l).length, [])) := by
    show _ = _
    unfold doomP
    rw [HMT.out, if_pos rfl]
    obtain ⟨s1, s2⟩ := dm_still (m := dmC (jobs l) (jobs l).length) (fun i y hy => dm_done zt hy) (dmC (jobs l) (jobs l).length).length
    rw [s1, s2]
  have HLM : Hid ((dmC (jobs l) (jobs l).length).length = n) := by show _ = _; rw [dmC_len]; exact hlj.out
  have HLI : Hid ((dmI (jobs l) (jobs l).length).length ≤ n) := by show _ ≤ _; rw [← hlj.out]; exact dmI_len _ _
  obtain ⟨M, hM⟩ : ∃ M, dmC (jobs l) (jobs l).length = M := ⟨_, rfl⟩
  obtain ⟨ids, hids⟩ : ∃ i, dmI (jobs l) (jobs l).length = i := ⟨_, rfl⟩
  rw [hM] at q1 HRND HMT HSTILL HLM
  rw [hids] at q1 HRND HLI
  clear HP zt hM hids
  go_enter Tryz.func11, Tryz.ntmps11
  go_wp2_with (fail)
  refine f1.out.mono ?_; rintro e w1 ⟨rfl, hw1⟩
  have B1 := Lib.hid hw1
  clear hw1 f1
  go_wp2_with (fail)
  refine (q0.out _ B1.out).mono ?_; rintro e w2 ⟨rfl, hw2⟩
  have B2 := Lib.hid (bt B1.out hw2)
  clear hw2 q0
  go_wp2_with (fail)
  refine (q1.out _ B2.out).mono ?_; rintro e w3 ⟨R, m, cc, rs, v, rfl, hj, T3, hmc, hcm, O3, hw3⟩
  have HJ : Hid (jobs rs = M) := hj
  have B3 := Lib.hid (bt B2.out hw3)
  obtain rfl : m = n := by
    have h1 := T3.out.len
    have h2 := congrArg List.length HJ.out
    rw [jobs_len, HLM.out] at h2
    omega
  obtain ⟨q, hq⟩ : ∃ q, ids.length = q := ⟨_, rfl⟩
  have hqn : q ≤ m := by rw [← hq]; exact HLI.out
  have I3 : Hid (Owns w3 w2.heap.size 3 1 v q (ints ids)) := by have := O3.out; rw [show (M, ids).2.length = q from hq] at this; exact this
  obtain ⟨A6, c6, rfl, hc6, _⟩ := I3.out.slice
  have RI := Lib.hid I3.out.reads
  have qk := Lib.hid (tcheck_any rs R m cc w3.heap.size w3 T3.out (Nat.le_refl _))
  rw [HJ.out, tabE_t HMT.out] at qk
  clear hw3 q1 hj O3 hq I3 HLI
  go_wp2_with (fail)
  refine qk.out.mono ?_; rintro e w4 ⟨rfl, hw4⟩
  have B4 := Lib.hid (bt B3.out hw4)
  have TM := Lib.hid (T3.out.up hw4)
  have TL := Lib.hid (HT.out.up B4.out)
  have RI4 := Lib.hid (RI.out.below hw4)
  have S34 := Lib.hid hw4.size
  clear hw4 qk T3 HT RI
  go_wp2
  go_loopw [5] (fun i wr => ∃ k : Nat, k ≤ m ∧ i = .int .i64 k ∧ Hid (Below w4.heap.size w4 wr)) (fun i _ => m - (intOf i).toNat)
  case atStart => exact ⟨0, Nat.zero_le _, rfl, Below.refl _ _⟩
  case round =>
    obtain ⟨k, hk, rfl, hbw⟩ := hrel
    by_cases hlt : k < m
    · obtain ⟨b, o, r, rfl, hbb, hx, KR0, JR0⟩ := TM.out.elem hlt
      obtain ⟨b2, o2, r2, rfl, hbb2, hx2, KR2, JR2⟩ := TL.out.elem hlt
      have hi0 : (0 : Int) ≤ (k : Int) := by omega
      have hi1 : (k : Int) < (m : Int) := by omega
      have t0 : decide ((k : Int) < (m : Int)) = true := by simp; omega
      have CS := Lib.hid (jrC_info (r := r))
      have CD := Lib.hid (jrC_info (r := r2))
      have HJX : M[k]? = some r.x := by rw [← HJ.out]; exact jobs_at hx.out
      have HJX2 := jobs_at hx2.out
      have hrnd := HRND.out k r2.x r.x HJX2 HJX
      have okM := ((tab_iff.1 HMT.out).2.1 _ (List.mem_of_getElem? HJX)).1
      have okL := ((tab_iff.1 HZ.out).2.1 _ (List.mem_of_getElem? HJX2)).1
      have KM := Lib.hid (fun v (hv : Below w4.heap.size w4 v) => range_lower KR0.out hbb hv)
      have KL := Lib.hid (fun v (hv : Below w4.heap.size w4 v) => range_lower KR2.out hbb2 hv)
      have qdm := Lib.hid (fun v (hv : Below w4.heap.size w4 v) => ddoomed_any rs (some ⟨b, o, none⟩) m cc r v.heap.size v (TM.out.up hv) (JR0.out.up hv) (Nat.le_refl _) (ok_wf okM))
      have qdl := Lib.hid (fun v (hv : Below w4.heap.size w4 v) => ddoomed_any rs (some ⟨b, o, none⟩) m cc r2 v.heap.size v (TM.out.up hv) (JR2.out.up hv) (Nat.le_refl _) (ok_wf okL))
      have qh := Lib.hid (fun id v (hv : Below w4.heap.size w4 v) => has16_any A6 q c6 w3.heap.size ids id v (RI4.out.below (hv.mono S34.out)) (Nat.le_trans S34.out hv.size) (by omega))
      have qs := Lib.hid (fun v (hv : Below w4.heap.size w4 v) => rsameJ_r (r := r) (s := r2) (JR0.out.up hv) (JR2.out.up hv) (Nat.le_refl _))
      have e0 : (jrC r)[0]? = some (.int .i64 r.x.id) := rfl
      have e11 : (jrC r)[11]? = some (.int .i64 r.x.state) := rfl
      have d11 : (jrC r2)[11]? = some (.int .i64 r2.x.state) := rfl
      rw [HJ.out] at qdm qdl
      obtain ⟨cs, hcs⟩ : ∃ cs, Hid (jrC r = cs) := ⟨_, rfl⟩
      obtain ⟨ds, hds⟩ : ∃ cs, Hid (jrC r2 = cs) := ⟨_, rfl⟩
      rw [hcs.out] at KM CS e0 e11 qdm qs
      rw [hds.out] at KL CD d11 qdl qs
      obtain ⟨y, hy⟩ : ∃ y, r.x = y := ⟨_, rfl⟩
      obtain ⟨x, hxx⟩ : ∃ x, r2.x = x := ⟨_, rfl⟩
      rw [hy] at e0 e11 qdm qs hrnd
      rw [hxx] at d11 qdl qs hrnd
      obtain ⟨id, hid⟩ : ∃ u, y.id = u := ⟨_, rfl⟩
      obtain ⟨sy, hsy⟩ : ∃ u, y.state = u := ⟨_, rfl⟩
      rw [hid] at e0 hrnd
      rw [hsy] at e11 hrnd
      have qh1 := Lib.hid (qh.out id)
      have hbr : b < wr.heap.size := Nat.lt_of_lt_of_le hbb hbw.out.size
      have hbr2 : b2 < wr.heap.size := Nat.lt_of_lt_of_le hbb2 hbw.out.size
      have k0 : wr.cell? ⟨b, o + k * 20, none⟩ = some (.int .i64 id) := range_cell (j := 0) (KM.out _ hbw.out) e0
      have k11 : wr.cell? ⟨b, o + k * 20 + 11, none⟩ = some (.int .i64 sy) := range_cell (KM.out _ hbw.out) e11
      clear qh hcs hds hx hx2 HJX HJX2 okM okL KR0 KR2 JR0 JR2
      rcases hrnd with ⟨h1, h2, h3, h4⟩ | ⟨h1, h2, h3⟩
      · rw [h1] at qh1
        rw [h4] at qdl
        rw [h3] at d11
        subst h2
        clear h1 h3 h4 hy hxx hid hsy qdm qs
        go_wp2_with (fail)
        refine (qh1.out _ hbw.out).mono ?_; rintro e w5 ⟨rfl, hw5⟩
        have B5 := Lib.hid (hbw.out.trans (hw5.mono hbw.out.size))
        have c11 := range_cell (KM.out _ B5.out) e11
        have f11 := range_cell (KL.out _ B5.out) d11
        clear hw5 k0 k11 hbr hbr2 qh1
        go_wp2_with (refine wpList_load_mid_h (by kernel_rfl) 28 _ rfl b2 (o2 + k * 20) rfl ds _ (KL.out _ B5.out) Tryz.underlying28 rfl CD.out ?_)
        refine (qdl.out _ B5.out).mono ?_; rintro e w6 ⟨rfl, hw6⟩
        have B6 := Lib.hid (B5.out.trans (hw6.mono B5.out.size))
        clear hw6
        go_wp2
        go_roundw
        case rel => exact ⟨k + 1, by omega, by simp, B6⟩
        case measure => simp [intOf]; omega
      · rw [h1] at qh1
        subst h2
        rw [sameJ_own] at qs
        clear h1 hy hxx hid d11 qdl
        by_cases hs1 : sy = 1
        case pos =>
          rw [h3 hs1] at qdm
          subst hs1
          clear h3 hsy
          go_wp2_with (refine wpList_load_mid_h (by kernel_rfl) 28 _ rfl b (o + k * 20) rfl cs _ (KM.out _ hbw.out) Tryz.underlying28 rfl CS.out ?_)
          refine (qdm.out _ hbw.out).mono ?_; rintro e w5 ⟨rfl, hw5⟩
          have B5 := Lib.hid (hbw.out.trans (hw5.mono hbw.out.size))
          have k0' : w5.cell? ⟨b, o + k * 20, none⟩ = some (.int .i64 id) := range_cell (j := 0) (KM.out _ B5.out) e0
          clear hw5
          go_wp2_with (fail)
          refine (qh1.out _ B5.out).mono ?_; rintro e w6 ⟨rfl, hw6⟩
          have B6 := Lib.hid (B5.out.trans (hw6.mono B5.out.size))
          have qs6 := Lib.hid (fun v (hv : Below w6.heap.size w6 v) => qs.out v (B6.out.trans (hv.mono B6.out.size)))
          have rm6 := Lib.hid (KM.out _ B6.out)
          have rl6 := Lib.hid (KL.out _ B6.out)
          clear hw6 k0 k11 hbr hbr2 qh1 qs KM KL hbb hbb2 qdm
          go_upto_region 12 with (fail)
          refine wp_region_later (by kernel_rfl) (by kernel_rfl) ?_
          have hl_ := later_cell (w6)
          try simp only [Act.put]
          repeat (first | (go_big_quiet_want; refine quiet_load_mid 28 _ rfl b (o + k * 20) rfl _ _ (later_range rm6.out) Tryz.underlying28 rfl (CS.out) ?_; go_simp; go_big_quiet_on) | (go_big_quiet_want; refine quiet_load_mid 28 _ rfl b2 (o2 + k * 20) rfl _ _ (later_range rl6.out) Tryz.underlying28 rfl (CD.out) ?_; go_simp; go_big_quiet_on) | go_big_quiet_step (((go_at_call 17; exact later_of (qs6.out _ (Later.below _))))) | quiet_step (((go_at_call 17; exact later_of (qs6.out _ (Later.below _))))))
          refine wpQuiet_nil ?_
          intro w9 hx_
          obtain ⟨⟨w_, hb9⟩, e_⟩ := hx_
          have e2_ : w9 = w_ := e_
          clear e_
          subst e2_
          clear hl_
          go_wp2
          go_roundw
          case rel => exact ⟨k + 1, by omega, by simp, Lib.hid (B6.out.trans (hb9.mono B6.out.size))⟩
          case measure => simp [intOf]; omega
        case neg =>
          have t1 : (sy == 1) = false := by simpa using hs1
          clear h3 hsy hs1
          go_wp2_with (fail)
          refine (qh1.out _ hbw.out).mono ?_; rintro e w6 ⟨rfl, hw6⟩
          have B6 := Lib.hid (hbw.out.trans (hw6.mono hbw.out.size))
          have qs6 := Lib.hid (fun v (hv : Below w6.heap.size w6 v) => qs.out v (B6.out.trans (hv.mono B6.out.size)))
          have rm6 := Lib.hid (KM.out _ B6.out)
          have rl6 := Lib.hid (KL.out _ B6.out)
          clear hw6 k0 k11 hbr hbr2 qh1 qs KM KL hbb hbb2 qdm
          go_upto_region 12 with (fail)
          refine wp_region_later (by kernel_rfl) (by kernel_rfl) ?_
          have hl_ := later_cell (w6)
          try simp only [Act.put]
          repeat (first | (go_big_quiet_want; refine quiet_load_mid 28 _ rfl b (o + k * 20) rfl _ _ (later_range rm6.out) Tryz.underlying28 rfl (CS.out) ?_; go_simp; go_big_quiet_on) | (go_big_quiet_want; refine quiet_load_mid 28 _ rfl b2 (o2 + k * 20) rfl _ _ (later_range rl6.out) Tryz.underlying28 rfl (CD.out) ?_; go_simp; go_big_quiet_on) | go_big_quiet_step (((go_at_call 17; exact later_of (qs6.out _ (Later.below _))))) | quiet_step (((go_at_call 17; exact later_of (qs6.out _ (Later.below _))))))
          refine wpQuiet_nil ?_
          intro w9 hx_
          obtain ⟨⟨w_, hb9⟩, e_⟩ := hx_
          have e2_ : w9 = w_ := e_
          clear e_
          subst e2_
          clear hl_
          go_wp2
          go_roundw
          case rel => exact ⟨k + 1, by omega, by simp, Lib.hid (B6.out.trans (hb9.mono B6.out.size))⟩
          case measure => simp [intOf]; omega
    · obtain rfl : k = m := by omega
      have t0 : decide ((k : Int) < (k : Int)) = false := by simp
      have qd9 := doom_any rs R k cc wr.heap.size wr (TM.out.up hbw.out) (Nat.le_refl _)
      rw [HJ.out, HSTILL.out] at qd9
      have Q9 := Lib.hid qd9
      clear qd9 HRND
      go_wp2_with (fail)
      refine Q9.out.mono ?_; rintro e w9 ⟨R9, m9, cc9, rs9, v9, rfl, hj9, T9, _, _, O9, hw9⟩
      obtain ⟨A9, c9, rfl, _, _⟩ := O9.out.slice
      have hj9' : jobs rs9 = jobs rs := (show jobs rs9 = M from hj9).trans HJ.out.symm
      have B9 := Lib.hid (bt hbw.out hw9)
      have qs9 := sameT_any rs9 rs R9 R m9 k cc9 cc w9.heap.size w9 T9.out (TM.out.up B9.out) (Nat.le_refl _)
      rw [hj9', sameLL_refl] at qs9
      have QS := Lib.hid qs9
      clear qs9 hj9 hj9' T9 hw9 Q9 O9
      go_wp2_with (fail)
      refine QS.out.mono ?_; rintro e w10 ⟨rfl, hw10⟩
      go_wp2_with (fail)
      refine (awake16_any _).mono ?_; rintro e wz ⟨rfl, hwz⟩
      go_wp2
      go_ret
      exact ⟨rfl, bt B4.out (bt B9.out (bt hw10 hwz))⟩
end Go.Proofs.YtghmcdfmbjabnaaGreatDoor
