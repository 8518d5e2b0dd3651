/- Layer 16: Eligible and the reference's (printed by a program of my own). Layer 16: what the rounds of Doom keep; the reference's first (printed by a program of my own). Layer 16: Doom walked (printed by a program of my own). -/
import Derived.Test.YtghmcdfmbjabnaaGreatDoorDp1x
import Derived.Test.YtghmcdfmbjabnaaGreatDoorT1t
import Derived.Test.YtghmcdfmbjabnaaGreatDoorC3t
import Derived.Test.YtghmcdfmbjabnaaGreatDoorT2t
import Derived.Test.YtghmcdfmbjabnaaGreatDoorQ7t
import Derived.Test.YtghmcdfmbjabnaaGreatDoorQ7x
namespace Go.Proofs.YtghmcdfmbjabnaaGreatDoor
set_option linter.unusedVariables false
open Go.RowKit
theorem eligC_len (f : Int → Option Int) (l : List Jb) : (eligC f l).length ≤ l.length := by unfold eligC; rw [List.length_map]; exact List.length_filter_le _ _
theorem ok_wf {x : Jb} (h : okJ x = true) : ∀ d ∈ x.after, wfI d.2 := by
  have hs := ((okJ_iff x).1 h).2.2.2.1
  intro d hd
  have h2 : okDep d = true := by
    unfold subB depsB submC at hs
    simp only [Bool.and_eq_true] at hs
    exact List.all_eq_true.1 hs.1.2.1.1 d hd
  unfold okDep inB at h2
  simp only [Bool.and_eq_true, decide_eq_true_eq] at h2
  exact wfI_of (by omega) (by omega)
set_option linter.unusedSimpArgs false in
set_option maxHeartbeats 4000000 in
set_option maxRecDepth 100000 in
theorem delig_any (l : List JR) (A : Option Addr) (n c B : Nat) (w : World) (ht0 : TbAt w B A n l) (hB0 : B ≤ w.heap.size) :
    Calls Tryz.prog 42 #[.slice A n c] w (RetIs w (eligP (jobs l))) := by
  have hlj : Hid ((jobs l).length = n) := (jobs_len l).trans ht0.len
  have hnn := fun v r => run_eql_map_nil (P := Tryz.prog) v 98 3 3 r Tryz.underlying98
  have q0 := Lib.hid (fun hz => of_no l A n c B w ht0 hB0 hz)
  have q1 := Lib.hid (fun hz => of_yes l A n c B w ht0 hB0 hz)
  have HT0 := Lib.hid (fun v (hv : Below w.heap.size w v) => (ht0.below (hv.mono hB0)).more (Nat.le_trans hB0 hv.size))
  have hn1 : n ≤ 1000 := ht0.2.2
  clear ht0 hB0
  cases zt : tabB (jobs l)
  case false =>
    have HR : Hid (eligP (jobs l) = []) := by show _ = _; unfold eligP; rw [zt]; rfl
    clear q1
    go_enter Tryz.func42, Tryz.ntmps42
    go_wp2_with (fail)
    go_step3
    go_wp2_with (fail)
    refine (q0.out zt).mono ?_; rintro e w0 ⟨rfl, hw0⟩
    have B0 := Lib.hid hw0
    have HT := Lib.hid (HT0.out w0 hw0)
    have HBW := Lib.hid (Nat.le_refl w0.heap.size)
    clear hw0 q0 HT0
    go_wp2
    go_step3
    go_wp2
    go_loopw [4, 6, 11] (fun v _ i wr => ∃ k : Nat, k ≤ n ∧ i = .int .i64 k ∧ v = .slice none 0 0 ∧ Hid (Below w0.heap.size w0 wr)) (fun _ _ i _ => n - (intOf i).toNat)
    case atStart => exact ⟨0, Nat.zero_le _, rfl, rfl, Below.refl _ _⟩
    case round =>
      obtain ⟨k, hk, rfl, rfl, hbw⟩ := hrel
      by_cases hlt : k < n
      · obtain ⟨b, o, r, rfl, hbb, hx, KR, JR⟩ := (HT.out.below (hbw.out.mono HBW.out)).elem hlt
        have hi0 : (0 : Int) ≤ (k : Int) := by omega
        have hi1 : (k : Int) < (n : Int) := by omega
        have t0 : decide ((k : Int) < (n : Int)) = true := by simp; omega
        have BW := Nat.le_trans HBW.out hbw.out.size
        have hbl : b < wr.heap.size := Nat.lt_of_lt_of_le hbb BW
        have CSZ := Lib.hid (jrC_info (r := r))
        have CSA := Lib.hid (jrA_info r)
        have C1 := Lib.hid (jrA_all r)
        have CS2 := Lib.hid (jrA_20 r)
        obtain ⟨cs, hcs⟩ : ∃ cs, Hid (jrC r = cs) := ⟨_, rfl⟩
        rw [hcs.out] at KR CSZ CSA C1 CS2 
        obtain ⟨W1, hs1, j1, b1, z1w⟩ := boxed wr cs.toArray
        have hstore := Lib.hid hs1
        have J1 := Lib.hid j1
        have B1 := Lib.hid b1
        clear hs1 j1 b1
        clear hcs hx JR
        go_wp2_with (first | (refine wpList_load_mid rfl 28 _ rfl b (o + k * 20) rfl cs _ KR.out Tryz.underlying28 rfl CSZ.out ?_) | (refine wpList_store_row rfl 28 _ _ rfl (wr.heap.size) cs.toArray rfl rfl 28 _ (heap_alloc_new wr _) CSA.out (by show 20 = _; exact CS2.out) C1.out ?_; rw [hstore.out]))
        go_roundw
        case rel => exact ⟨k + 1, by omega, by simp, rfl, bt hbw.out B1.out⟩
        case measure => simp [intOf]; omega
      · obtain rfl : k = n := by omega
        have t0 : decide ((k : Int) < (k : Int)) = false := by simp
        go_wp2
        go_ret
        rw [HR.out]
        exact ⟨_, rfl, Owns.nil, bt B0.out hbw.out⟩
  have HR : Hid (eligP (jobs l) = eligC (stQ (jobs l)) (jobs l)) := by show _ = _; unfold eligP; rw [zt]; rfl
  have HOK := Lib.hid (fun x (hx : x ∈ jobs l) => ((tab_iff.1 zt).2.1 x hx).1)
  clear q0
  go_enter Tryz.func42, Tryz.ntmps42
  go_wp2_with (fail)
  go_step3
  go_wp2_with (fail)
  refine (q1.out zt).mono ?_; rintro e w0 ⟨g, hg, rfl, hs0, hw0⟩
  have HS := Lib.hid hs0
  have HG := Lib.hid hs0.lt
  have B0 := Lib.hid hw0
  have HT := Lib.hid (HT0.out w0 hw0)
  have HBW := Lib.hid (Nat.le_refl w0.heap.size)
  have qa0 := Lib.hid (fun (r : JR) v (hv : Below w0.heap.size w0 v) (hr : JrAt v v.heap.size r) (ho : okJ r.x = true) => dall_any g n (stQ (jobs l)) r v.heap.size v (HS.out.below hv HG.out) hr (Nat.le_refl _) (ok_wf ho))
  clear hw0 hs0 q1 zt HT0
  go_wp2
  go_step3
  go_wp2
  go_loopw [4, 6, 11] (fun v _ i wr => ∃ k : Nat, k ≤ n ∧ i = .int .i64 k ∧ Hid (Below w0.heap.size w0 wr) ∧ Hid (Owns wr w0.heap.size 3 1 v (eligC (stQ (jobs l)) ((jobs l).take k)).length (ints (eligC (stQ (jobs l)) ((jobs l).take k))))) (fun _ _ i _ => n - (intOf i).toNat)
  case atStart => exact ⟨0, Nat.zero_le _, rfl, Below.refl _ _, Owns.nil⟩
  case round =>
    obtain ⟨k, hk, rfl, hbw, hO⟩ := hrel
    have hsz := hbw.out.size
    by_cases hlt : k < n
    · obtain ⟨b, o, r, rfl, hbb, hx, KR, JR⟩ := (HT.out.below (hbw.out.mono HBW.out)).elem hlt
      have hi0 : (0 : Int) ≤ (k : Int) := by omega
      have hi1 : (k : Int) < (n : Int) := by omega
      have t0 : decide ((k : Int) < (n : Int)) = true := by simp; omega
      have BW := Nat.le_trans HBW.out hbw.out.size
      have hbl : b < wr.heap.size := Nat.lt_of_lt_of_le hbb BW
      have CSZ := Lib.hid (jrC_info (r := r))
      have CSA := Lib.hid (jrA_info r)
      have C1 := Lib.hid (jrA_all r)
      have CS2 := Lib.hid (jrA_20 r)
      have HJX := Lib.hid (jobs_at hx.out)
      have hokx := HOK.out _ (List.mem_of_getElem? HJX.out)
      have e0 : (jrC r)[0]? = some (.int .i64 r.x.id) := rfl
      have e11 : (jrC r)[11]? = some (.int .i64 r.x.state) := rfl
      have e12 : (jrC r)[12]? = some (.bool r.x.held) := rfl
      have HST := Lib.hid (eligC_take (f := stQ (jobs l)) HJX.out)
      have HLE := Lib.hid (Nat.le_trans (eligC_len (stQ (jobs l)) ((jobs l).take k)) (Nat.le_trans (List.length_take_le k (jobs l)) hk))
      have HEQ : Hid (eligQ (stQ (jobs l)) r.x = ((r.x.state == 1) && (!r.x.held && allF (stQ (jobs l)) r.x.after))) := rfl
      have qa := Lib.hid (fun v (hv : Below wr.heap.size wr v) => qa0.out r v (bt hbw.out hv) ((JR.out.more hbw.out.size).up hv) hokx)
      obtain ⟨L, hL⟩ : ∃ L, Hid (eligC (stQ (jobs l)) ((jobs l).take k) = L) := ⟨_, rfl⟩
      rw [hL.out] at hO HST HLE
      obtain ⟨qq, hqq⟩ : ∃ q, eligQ (stQ (jobs l)) r.x = q := ⟨_, rfl⟩
      rw [hqq] at HST HEQ
      obtain ⟨za, hza⟩ : ∃ z, allF (stQ (jobs l)) r.x.after = z := ⟨_, rfl⟩
      rw [hza] at HEQ qa
      obtain ⟨id, hid⟩ : ∃ id, r.x.id = id := ⟨_, rfl⟩
      obtain ⟨sx, hsx⟩ : ∃ id, r.x.state = id := ⟨_, rfl⟩
      obtain ⟨hh, hhh⟩ : ∃ id, r.x.held = id := ⟨_, rfl⟩
      rw [hid] at e0 HST
      rw [hsx] at e11 HEQ
      rw [hhh] at e12 HEQ
      obtain ⟨cs, hcs⟩ : ∃ cs, Hid (jrC r = cs) := ⟨_, rfl⟩
      rw [hcs.out] at KR CSZ CSA C1 CS2 e0 e11 e12 qa
      obtain ⟨W1, hs1, j1, b1, z1w⟩ := boxed wr cs.toArray
      have hstore := Lib.hid hs1
      have J1 := Lib.hid j1
      have B1 := Lib.hid b1
      clear hs1 j1 b1
      have k0 : W1.cell? ⟨wr.heap.size, 0, none⟩ = some (.int .i64 id) := box_cell J1.out (Below.refl _ _) z1w e0
      have k11 : W1.cell? ⟨wr.heap.size, 11, none⟩ = some (.int .i64 sx) := box_cell J1.out (Below.refl _ _) z1w e11
      have k12 : W1.cell? ⟨wr.heap.size, 12, none⟩ = some (.bool hh) := box_cell J1.out (Below.refl _ _) z1w e12
      have HO1 := Lib.hid (hO.out.below B1.out)
      have HB1 := Lib.hid (bt hbw.out B1.out)
      clear hcs hx JR hid hsx hhh hza hqq hokx HJX
      have hle := HLE.out
      have HE0 : Hid (qq = false → eligC (stQ (jobs l)) ((jobs l).take (k + 1)) = L) := Lib.hid (fun h => by rw [HST.out, h]; simp)
      have HE1 : Hid (qq = true → eligC (stQ (jobs l)) ((jobs l).take (k + 1)) = L ++ [id]) := Lib.hid (fun h => by rw [HST.out, h]; simp)
      clear HST HLE
      by_cases hs1 : sx = 1
      case neg =>
        have t1 : (sx == 1) = false := by simpa using hs1
        have t1' : (sx != 1) = true := by simpa using hs1
        have HE := Lib.hid (HE0.out (by rw [HEQ.out, t1]; rfl))
        clear HE0 HE1 HEQ qa hs1
        go_wp2_with (first | (refine wpList_load_mid rfl 28 _ rfl b (o + k * 20) rfl cs _ KR.out Tryz.underlying28 rfl CSZ.out ?_) | (refine wpList_store_row rfl 28 _ _ rfl (wr.heap.size) cs.toArray rfl rfl 28 _ (heap_alloc_new wr _) CSA.out (by show 20 = _; exact CS2.out) C1.out ?_; rw [hstore.out]))
        go_roundw
        case rel => exact ⟨k + 1, by omega, by simp, HB1, by rw [HE.out]; exact HO1.out⟩
        case measure => simp [intOf]; omega
      subst hs1
      cases hh
      case true =>
        have HE := Lib.hid (HE0.out (by rw [HEQ.out]; simp))
        clear HE0 HE1 HEQ qa
        go_wp2_with (first | (refine wpList_load_mid rfl 28 _ rfl b (o + k * 20) rfl cs _ KR.out Tryz.underlying28 rfl CSZ.out ?_) | (refine wpList_store_row rfl 28 _ _ rfl (wr.heap.size) cs.toArray rfl rfl 28 _ (heap_alloc_new wr _) CSA.out (by show 20 = _; exact CS2.out) C1.out ?_; rw [hstore.out]))
        go_roundw
        case rel => exact ⟨k + 1, by omega, by simp, HB1, by rw [HE.out]; exact HO1.out⟩
        case measure => simp [intOf]; omega
      go_wp2_with (first | (refine wpList_load_mid rfl 28 _ rfl b (o + k * 20) rfl cs _ KR.out Tryz.underlying28 rfl CSZ.out ?_) | (refine wpList_store_row rfl 28 _ _ rfl (wr.heap.size) cs.toArray rfl rfl 28 _ (heap_alloc_new wr _) CSA.out (by show 20 = _; exact CS2.out) C1.out ?_; rw [hstore.out]) | (refine wpList_load_row_g (by kernel_rfl) 28 _ rfl (wr.heap.size) rfl 28 _ (0, 0) _ J1.out Tryz.underlying28 rfl CSA.out ?_))
      refine (qa.out _ B1.out).mono ?_; rintro e w2 ⟨rfl, hw2⟩
      have BW2 := Lib.hid (bt HB1.out hw2)
      have OW2 := Lib.hid (HO1.out.below hw2)
      have k0' : w2.cell? ⟨wr.heap.size, 0, none⟩ = some (.int .i64 id) := (hw2.cell (p := ⟨wr.heap.size, 0, none⟩) z1w).trans k0
      clear k0 k11 k12
      cases za
      case false =>
        have HE := Lib.hid (HE0.out (by rw [HEQ.out]; simp))
        clear HE0 HE1 HEQ qa hw2
        go_wp2
        go_roundw
        case rel => exact ⟨k + 1, by omega, by simp, BW2, by rw [HE.out]; exact OW2.out⟩
        case measure => simp [intOf]; omega
      have HE := Lib.hid (HE1.out (by rw [HEQ.out]; rfl))
      have s2 := BW2.out.size
      clear HE0 HE1 HEQ qa hw2
      go_wp2_with (at_builtin; refine app_i rfl rfl w0.heap.size rfl (OW2.out.alloc _) (news := [id]) rfl (Reads.made w2 [Value.int .i64 id] _) (by omega) (by simp only [World.size_alloc]; omega) ?_)
      intro v4 w4 o4 k4 _
      have kb4 := k4.below (BW2.out.alloc s2 _) (Nat.le_refl _) (by simp only [World.size_alloc]; omega)
      have KB := Lib.hid kb4
      have o5 : Owns w4 w0.heap.size 3 1 v4 (L ++ [id]).length (ints (L ++ [id])) := by rw [List.length_append]; exact o4
      have O5 := Lib.hid o5
      clear k4 o4 o5 kb4
      go_wp2
      go_roundw
      case rel => exact ⟨k + 1, by omega, by simp, KB.out, by rw [HE.out]; exact O5.out⟩
      case measure => simp [intOf]; omega
    · obtain rfl : k = n := by omega
      have t0 : decide ((k : Int) < (k : Int)) = false := by simp
      have HC : Hid (eligP (jobs l) = eligC (stQ (jobs l)) ((jobs l).take k)) := by show _ = _; rw [HR.out, List.take_of_length_le (Nat.le_of_eq hlj.out)]
      go_wp2
      go_ret
      rw [HC.out]
      exact ⟨_, rfl, hO.out.mono B0.out.size, bt B0.out hbw.out⟩
set_option linter.unusedSimpArgs false in
set_option maxHeartbeats 4000000 in
set_option maxRecDepth 100000 in
theorem relig_any (l : List JR) (A : Option Addr) (n c B : Nat) (w : World) (ht0 : TbAt w B A n l) (hB0 : B ≤ w.heap.size) :
    Calls Tryz.prog 43 #[.slice A n c] w (RetIs w (eligP (jobs l))) := by
  have hlj : Hid ((jobs l).length = n) := (jobs_len l).trans ht0.len
  have q0 := Lib.hid (rcheck15_any l A n c B w ht0 hB0)
  have HT0 := Lib.hid (fun v (hv : Below w.heap.size w v) => (ht0.below (hv.mono hB0)).more (Nat.le_trans hB0 hv.size))
  have hn1 : n ≤ 1000 := ht0.2.2
  clear ht0 hB0
  cases zt : tabB (jobs l)
  case false =>
    have HR : Hid (eligP (jobs l) = []) := by show _ = _; unfold eligP; rw [zt]; rfl
    rw [tabE_f zt] at q0
    go_enter Tryz.func43, Tryz.ntmps43
    go_wp2_with (fail)
    refine q0.out.mono ?_; rintro e w1 ⟨rfl, hw1⟩
    go_wp2
    go_ret
    rw [HR.out]
    exact ⟨_, rfl, Owns.nil, hw1⟩
  have HR : Hid (eligP (jobs l) = eligC (stQ (jobs l)) (jobs l)) := by show _ = _; unfold eligP; rw [zt]; rfl
  have HOK := Lib.hid (fun x (hx : x ∈ jobs l) => ((tab_iff.1 zt).2.1 x hx).1)
  rw [tabE_t zt] at q0
  clear zt
  go_enter Tryz.func43, Tryz.ntmps43
  go_wp2_with (fail)
  refine q0.out.mono ?_; rintro e w0 ⟨rfl, hw0⟩
  have B0 := Lib.hid hw0
  have HT := Lib.hid (HT0.out w0 hw0)
  have HBW := Lib.hid (Nat.le_refl w0.heap.size)
  have qa0 := Lib.hid (fun (r : JR) v (hv : Below w0.heap.size w0 v) (hr : JrAt v v.heap.size r) => rall_any l A n c r v.heap.size v ((HT.out.below hv).more hv.size) hr (Nat.le_refl _) HOK.out)
  clear hw0 q0 HT0
  go_wp2
  go_loopw [3, 4] (fun v i wr => ∃ k : Nat, k ≤ n ∧ i = .int .i64 k ∧ Hid (Below w0.heap.size w0 wr) ∧ Hid (Owns wr w0.heap.size 3 1 v (eligC (stQ (jobs l)) ((jobs l).take k)).length (ints (eligC (stQ (jobs l)) ((jobs l).take k))))) (fun _ i _ => n - (intOf i).toNat)
  case atStart => exact ⟨0, Nat.zero_le _, rfl, Below.refl _ _, Owns.nil⟩
  case round =>
    obtain ⟨k, hk, rfl, hbw, hO⟩ := hrel
    have hsz := hbw.out.size
    by_cases hlt : k < n
    · obtain ⟨b, o, r, rfl, hbb, hx, KR, JR⟩ := (HT.out.below (hbw.out.mono HBW.out)).elem hlt
      have hi0 : (0 : Int) ≤ (k : Int) := by omega
      have hi1 : (k : Int) < (n : Int) := by omega
      have t0 : decide ((k : Int) < (n : Int)) = true := by simp; omega
      have BW := Nat.le_trans HBW.out hbw.out.size
      have hbl : b < wr.heap.size := Nat.lt_of_lt_of_le hbb BW
      have CSZ := Lib.hid (jrC_info (r := r))
      have CSA := Lib.hid (jrA_info r)
      have C1 := Lib.hid (jrA_all r)
      have CS2 := Lib.hid (jrA_20 r)
      have HJX := Lib.hid (jobs_at hx.out)
      have hokx := HOK.out _ (List.mem_of_getElem? HJX.out)
      have e0 : (jrC r)[0]? = some (.int .i64 r.x.id) := rfl
      have e11 : (jrC r)[11]? = some (.int .i64 r.x.state) := rfl
      have e12 : (jrC r)[12]? = some (.bool r.x.held) := rfl
      have HST := Lib.hid (eligC_take (f := stQ (jobs l)) HJX.out)
      have HLE := Lib.hid (Nat.le_trans (eligC_len (stQ (jobs l)) ((jobs l).take k)) (Nat.le_trans (List.length_take_le k (jobs l)) hk))
      have HEQ : Hid (eligQ (stQ (jobs l)) r.x = ((r.x.state == 1) && (!r.x.held && allF (stQ (jobs l)) r.x.after))) := rfl
      have qa := Lib.hid (fun v (hv : Below wr.heap.size wr v) => qa0.out r v (bt hbw.out hv) ((JR.out.more hbw.out.size).up hv))
      obtain ⟨L, hL⟩ : ∃ L, Hid (eligC (stQ (jobs l)) ((jobs l).take k) = L) := ⟨_, rfl⟩
      rw [hL.out] at hO HST HLE
      obtain ⟨qq, hqq⟩ : ∃ q, eligQ (stQ (jobs l)) r.x = q := ⟨_, rfl⟩
      rw [hqq] at HST HEQ
      obtain ⟨za, hza⟩ : ∃ z, allF (stQ (jobs l)) r.x.after = z := ⟨_, rfl⟩
      rw [hza] at HEQ qa
      obtain ⟨id, hid⟩ : ∃ id, r.x.id = id := ⟨_, rfl⟩
      obtain ⟨sx, hsx⟩ : ∃ id, r.x.state = id := ⟨_, rfl⟩
      obtain ⟨hh, hhh⟩ : ∃ id, r.x.held = id := ⟨_, rfl⟩
      rw [hid] at e0 HST
      rw [hsx] at e11 HEQ
      rw [hhh] at e12 HEQ
      obtain ⟨cs, hcs⟩ : ∃ cs, Hid (jrC r = cs) := ⟨_, rfl⟩
      rw [hcs.out] at KR CSZ CSA C1 CS2 e0 e11 e12 qa
      have k0 : wr.cell? ⟨b, o + k * 20, none⟩ = some (.int .i64 id) := range_cell (j := 0) KR.out e0
      have k11 : wr.cell? ⟨b, o + k * 20 + 11, none⟩ = some (.int .i64 sx) := range_cell KR.out e11
      have k12 : wr.cell? ⟨b, o + k * 20 + 12, none⟩ = some (.bool hh) := range_cell KR.out e12
      clear hcs hx JR hid hsx hhh hza hqq hokx HJX
      have hle := HLE.out
      have HE0 : Hid (qq = false → eligC (stQ (jobs l)) ((jobs l).take (k + 1)) = L) := Lib.hid (fun h => by rw [HST.out, h]; simp)
      have HE1 : Hid (qq = true → eligC (stQ (jobs l)) ((jobs l).take (k + 1)) = L ++ [id]) := Lib.hid (fun h => by rw [HST.out, h]; simp)
      clear HST HLE
      by_cases hs1 : sx = 1
      case neg =>
        have t1 : (sx == 1) = false := by simpa using hs1
        have t1' : (sx != 1) = true := by simpa using hs1
        have HE := Lib.hid (HE0.out (by rw [HEQ.out, t1]; rfl))
        clear HE0 HE1 HEQ qa hs1
        go_wp2
        go_roundw
        case rel => exact ⟨k + 1, by omega, by simp, hbw, by rw [HE.out]; exact hO.out⟩
        case measure => simp [intOf]; omega
      subst hs1
      cases hh
      case true =>
        have HE := Lib.hid (HE0.out (by rw [HEQ.out]; simp))
        clear HE0 HE1 HEQ qa
        go_wp2
        go_roundw
        case rel => exact ⟨k + 1, by omega, by simp, hbw, by rw [HE.out]; exact hO.out⟩
        case measure => simp [intOf]; omega
      go_wp2_with (refine wpList_load_mid_h (by kernel_rfl) 28 _ rfl b (o + k * 20) rfl cs _ KR.out Tryz.underlying28 rfl CSZ.out ?_)
      refine (qa.out _ (Below.refl _ _)).mono ?_; rintro e w2 ⟨rfl, hw2⟩
      have BW2 := Lib.hid (bt hbw.out hw2)
      have OW2 := Lib.hid (hO.out.below hw2)
      have k0' : w2.cell? ⟨b, o + k * 20, none⟩ = some (.int .i64 id) := (hw2.cell (p := ⟨b, o + k * 20, none⟩) hbl).trans k0
      clear k0 k11 k12
      cases za
      case false =>
        have HE := Lib.hid (HE0.out (by rw [HEQ.out]; simp))
        clear HE0 HE1 HEQ qa hw2
        go_wp2
        go_roundw
        case rel => exact ⟨k + 1, by omega, by simp, BW2, by rw [HE.out]; exact OW2.out⟩
        case measure => simp [intOf]; omega
      have HE := Lib.hid (HE1.out (by rw [HEQ.out]; rfl))
      have s2 := BW2.out.size
      clear HE0 HE1 HEQ qa hw2
      go_wp2_with (at_builtin; refine app_i rfl rfl w0.heap.size rfl (OW2.out.alloc _) (news := [id]) rfl (Reads.made w2 [Value.int .i64 id] _) (by omega) (by simp only [World.size_alloc]; omega) ?_)
      intro v4 w4 o4 k4 _
      have kb4 := k4.below (BW2.out.alloc s2 _) (Nat.le_refl _) (by simp only [World.size_alloc]; omega)
      have KB := Lib.hid kb4
      have o5 : Owns w4 w0.heap.size 3 1 v4 (L ++ [id]).length (ints (L ++ [id])) := by rw [List.length_append]; exact o4
      have O5 := Lib.hid o5
      clear k4 o4 o5 kb4
      go_wp2
      go_roundw
      case rel => exact ⟨k + 1, by omega, by simp, KB.out, by rw [HE.out]; exact O5.out⟩
      case measure => simp [intOf]; omega
    · obtain rfl : k = n := by omega
      have t0 : decide ((k : Int) < (k : Int)) = false := by simp
      have HC : Hid (eligP (jobs l) = eligC (stQ (jobs l)) ((jobs l).take k)) := by show _ = _; rw [HR.out, List.take_of_length_le (Nat.le_of_eq hlj.out)]
      go_wp2
      go_ret
      rw [HC.out]
      exact ⟨_, rfl, hO.out.mono B0.out.size, bt B0.out hbw.out⟩
theorem StM.mono {w : World} {b n n' : Nat} {f : Int → Option Int} (h : StM w b n f) (hn : n ≤ n') : StM w b n' f := by
  obtain ⟨D, h1, h2⟩ := h
  exact ⟨D, h1.mono hn, h2⟩
def OffG (g : Nat) (A : Option Addr) (n : Nat) : Prop := 0 < n → ∀ ad, A = some ad → ad.block ≠ g
/-- a list of jobs, and all of their lists, lie apart from a block -/
def TbNe (g : Nat) (A : Option Addr) (n : Nat) (l : List JR) : Prop := OffG g A n ∧ ∀ r ∈ l, OffG g r.A r.x.shape.alts.length ∧ OffG g r.A2 r.x.after.length
theorem Reads.offg {w : World} {B size n g : Nat} {A : Option Addr} {xs : List Value} (h : Reads w B size A n xs) (hg : B ≤ g) : OffG g A n := by
  intro hn ad e
  obtain ⟨a2, e2, hlt, _⟩ := h.2 hn
  rw [e] at e2; cases e2
  omega
theorem Off.offg {lo n g : Nat} {A : Option Addr} (h : Off lo A n) (hg : g < lo) : OffG g A n := fun hn ad e => by have := h hn ad e; omega
theorem TbAt.ne {w : World} {B n g : Nat} {A : Option Addr} {l : List JR} (h : TbAt w B A n l) (hg : B ≤ g) : TbNe g A n l :=
  ⟨h.1.offg hg, fun r hr => ⟨(h.2.1 r hr).1.1.offg hg, (h.2.1 r hr).1.2.1.offg hg⟩⟩
theorem ne_off {lo n g : Nat} {A : Option Addr} {l : List JR} (h : Off lo A n ∧ ∀ r ∈ l, JrOff lo r) (hg : g < lo) : TbNe g A n l :=
  ⟨h.1.offg hg, fun r hr => ⟨(h.2 r hr).1.offg hg, (h.2 r hr).2.offg hg⟩⟩
theorem Reads.kpg {w w' : World} {B N size n : Nat} {row : Option Nat} {A : Option Addr} {xs : List Value} (h : Reads w B size A n xs) (ho : ∀ q, row = some q → OffG q A n) (hB : B ≤ N) (hw : Kp N row w w') : Reads w' B size A n xs := by
  refine ⟨h.1, fun hn => ?_⟩
  obtain ⟨ad, e, hlt, hc⟩ := h.2 hn
  refine ⟨ad, e, hlt, fun j u hu => ?_⟩
  rw [← hc j u hu]
  exact World.cell?_of_block (hw.block _ (by rw [block_of_add]; omega) (by rw [block_of_add]; intro e2; exact ho _ e2.symm hn ad e rfl))
theorem TbAt.kpg {w w' : World} {n : Nat} {row : Option Nat} {A : Option Addr} {l : List JR} (h : TbAt w w.heap.size A n l) (ho : ∀ q, row = some q → TbNe q A n l) (hw : Kp w.heap.size row w w') : TbAt w' w'.heap.size A n l :=
  TbAt.more ⟨h.1.kpg (fun q e => (ho q e).1) (Nat.le_refl _) hw, fun r hr => ⟨⟨(h.2.1 r hr).1.1.kpg (fun q e => ((ho q e).2 r hr).1) (Nat.le_refl _) hw, (h.2.1 r hr).1.2.1.kpg (fun q e => ((ho q e).2 r hr).2) (Nat.le_refl _) hw, (h.2.1 r hr).1.2.2⟩, (h.2.1 r hr).2⟩, h.2.2⟩ hw.size
theorem TbAt.appk {w w' : World} {n base : Nat} {v : Value} {A : Option Addr} {l : List JR} (h : TbAt w w.heap.size A n l) (hk : AppKeeps base v w w') (ho : ∀ q, v.ownBlock = some q → TbNe q A n l) : TbAt w' w'.heap.size A n l := by
  obtain ⟨row, hg, hrow⟩ := hk
  exact h.kpg (fun q e => ho q (hrow q e).1) (Kp.of_grown hg (Nat.le_refl _))
theorem Owns.own_lt {w : World} {B size n : Nat} {e : TypeId} {v : Value} {xs : List Value} (h : Owns w B e size v n xs) (hn : 0 < n) : ∀ q, v.ownBlock = some q → q < w.heap.size := by
  obtain ⟨g, c, rfl, _, hg, _⟩ := h.at_ hn
  intro q hq
  have : g = q := Option.some.inj hq
  omega
theorem fin_sz {x : Jb} (h : JbSz x) (s : Int) : JbSz (finD x s) := by
  unfold finD JbSz at *
  split <;> exact ⟨h.1, by rw [M64_is]; show (0 : Nat) < _; decide⟩
/-- a call hands back jobs, and numbers -/
def RetDm (w : World) (q : List Jb × List Int) (e : Ending) (w' : World) : Prop :=
  ∃ R m cc rs v, e = .returned (.tuple #[.slice R m cc, v]) ∧ jobs rs = q.1 ∧ Hid (TbAt w' w'.heap.size R m rs) ∧ m ≤ cc ∧ cc ≤ maxLen ∧ Hid (Owns w' w.heap.size 3 1 v q.2.length (ints q.2)) ∧ Below w.heap.size w w'
theorem retDm_no {w w' : World} (h : Below w.heap.size w w') : RetDm w ([], []) (.returned (.tuple #[.slice none 0 0, .slice none 0 0])) w' :=
  ⟨none, 0, 0, [], _, rfl, rfl, TbAt.none_, by omega, by simp [maxLen], Owns.nil, h⟩
theorem dmI_len (l : List Jb) : ∀ k, (dmI l k).length ≤ k
  | 0 => Nat.le_refl _
  | k + 1 => by
    have := dmI_len l k
    unfold dmI
    split
    · split
      · rw [List.length_append]; simp; omega
      · omega
    · omega
/-- in another order -/
theorem whole_cells2 {fr l : List JR} {k : Nat} {r : JR} {A5 A6 : Option Addr} {c5 c6 : Nat} (hf : fr.length = k) (hx : l[k]? = some r) :
    ((recs jrC (fr ++ l.drop k)).set (k * 20 + 10) (.slice A6 r.x.after.length c6)).set (k * 20 + 5) (.slice A5 r.x.shape.alts.length c5) = recs jrC ((fr ++ [⟨r.x, A5, c5, A6, c6⟩]) ++ l.drop (k + 1)) := by
  rw [← whole_cells hf hx, List.set_comm]
  omega
set_option linter.unusedSimpArgs false in
set_option maxHeartbeats 4000000 in
set_option maxRecDepth 100000 in
theorem rfirst_any (l : List JR) (A : Option Addr) (n c B : Nat) (w : World) (ht : TbAt w B A n l) (hB : B ≤ w.heap.size) (hok : ∀ x ∈ jobs l, okJ x = true) :
    Calls Tryz.prog 90 #[.slice A n c] w fun e w' => e = .returned (.int .i64 (firstV (jobs l))) ∧ Below w.heap.size w w' := by
  have hlj : Hid ((jobs l).length = n) := (jobs_len l).trans ht.len
  have HT := Lib.hid ht
  have HBW := Lib.hid hB
  have hn1 : n ≤ 1000 := ht.2.2
  have qa0 := Lib.hid (fun (r : JR) v (hv : Below w.heap.size w v) (hr : JrAt v v.heap.size r) => rsome_any l A n c r v.heap.size v ((HT.out.below (hv.mono hB)).more (Nat.le_trans hB hv.size)) hr (Nat.le_refl _) hok)
  obtain ⟨R, hR⟩ : ∃ R, Hid (firstV (jobs l) = R) := ⟨_, rfl⟩
  rw [hR.out]
  clear ht hB hok
  go_enter Tryz.func90, Tryz.ntmps90
  go_wp2
  go_loopw [3] (fun i wr => ∃ k : Nat, k ≤ n ∧ i = .int .i64 k ∧ Hid (Below w.heap.size w wr) ∧ Hid (∀ (j : Nat) (y : Jb), j < k → (jobs l)[j]? = some y → vainQ (jobs l) y = false)) (fun i _ => n - (intOf i).toNat)
  case atStart => exact ⟨0, Nat.zero_le _, rfl, Below.refl _ _, fun j y h => by omega⟩
  case round =>
    obtain ⟨k, hk, rfl, hbw, HN⟩ := hrel
    by_cases hlt : k < n
    · obtain ⟨b, o, r, rfl, hbb, hx, KR, JR⟩ := (HT.out.below (hbw.out.mono HBW.out)).elem hlt
      have hi0 : (0 : Int) ≤ (k : Int) := by omega
      have hi1 : (k : Int) < (n : Int) := by omega
      have t0 : decide ((k : Int) < (n : Int)) = true := by simp; omega
      have BW := Nat.le_trans HBW.out hbw.out.size
      have hbl : b < wr.heap.size := Nat.lt_of_lt_of_le hbb BW
      have CSZ := Lib.hid (jrC_info (r := r))
      have CSA := Lib.hid (jrA_info r)
      have C1 := Lib.hid (jrA_all r)
      have CS2 := Lib.hid (jrA_20 r)
      have HJX := Lib.hid (jobs_at hx.out)
      have e11 : (jrC r)[11]? = some (.int .i64 r.x.state) := rfl
      have HV : Hid (vainQ (jobs l) r.x = ((r.x.state == 1) && someF (stQ (jobs l)) r.x.after)) := rfl
      have qa := Lib.hid (fun v (hv : Below wr.heap.size wr v) => qa0.out r v (bt hbw.out hv) ((JR.out.more BW).up hv))
      have HN2 : Hid (vainQ (jobs l) r.x = false → ∀ (j : Nat) (y : Jb), j < k + 1 → (jobs l)[j]? = some y → vainQ (jobs l) y = false) := Lib.hid (fun hw j y hj hy => by
        by_cases e : j = k
        · subst e; rw [HJX.out] at hy; rw [← Option.some.inj hy]; exact hw
        · exact HN.out j y (by omega) hy)
      have HYES : Hid (vainQ (jobs l) r.x = true → R = (k : Int)) := Lib.hid (fun hw => by rw [← hR.out]; exact idxG_hit HJX.out hw HN.out)
      obtain ⟨qq, hqq⟩ : ∃ q, vainQ (jobs l) r.x = q := ⟨_, rfl⟩
      rw [hqq] at HV HN2 HYES
      obtain ⟨za, hza⟩ : ∃ z, someF (stQ (jobs l)) r.x.after = z := ⟨_, rfl⟩
      rw [hza] at HV qa
      obtain ⟨sx, hsx⟩ : ∃ id, r.x.state = id := ⟨_, rfl⟩
      rw [hsx] at e11 HV
      obtain ⟨cs, hcs⟩ : ∃ cs, Hid (jrC r = cs) := ⟨_, rfl⟩
      rw [hcs.out] at KR CSZ CSA C1 CS2 e11 qa
      have k11 : wr.cell? ⟨b, o + k * 20 + 11, none⟩ = some (.int .i64 sx) := range_cell KR.out e11
      clear hcs hx JR hsx hza hqq HJX
      by_cases hs1 : sx = 1
      case neg =>
        have t1 : (sx == 1) = false := by simpa using hs1
        have HN3 := Lib.hid (HN2.out (by rw [HV.out, t1]; rfl))
        clear HN2 HYES HV qa hs1
        go_wp2
        go_roundw
        case rel => exact ⟨k + 1, by omega, by simp, hbw, HN3⟩
        case measure => simp [intOf]; omega
      subst hs1
      go_wp2_with (refine wpList_load_mid_h (by kernel_rfl) 28 _ rfl b (o + k * 20) rfl cs _ KR.out Tryz.underlying28 rfl CSZ.out ?_)
      refine (qa.out _ (Below.refl _ _)).mono ?_; rintro e w2 ⟨rfl, hw2⟩
      have BW2 := Lib.hid (bt hbw.out hw2)
      cases za
      case false =>
        have HN3 := Lib.hid (HN2.out (by rw [HV.out]; rfl))
        clear HN2 HYES HV qa hw2
        go_wp2
        go_roundw
        case rel => exact ⟨k + 1, by omega, by simp, BW2, HN3⟩
        case measure => simp [intOf]; omega
      have HR := Lib.hid (HYES.out (by rw [HV.out]; rfl))
      clear HN2 HYES HV qa hw2
      go_wp2
      go_ret
      exact ⟨by rw [HR.out] <;> rfl, BW2.out⟩
    · obtain rfl : k = n := by omega
      have t0 : decide ((k : Int) < (k : Int)) = false := by simp
      have HR : Hid (R = -1) := by
        show _ = _
        rw [← hR.out]
        exact idxG_miss (fun j y hj hy => HN.out j y (by have := hlj.out; omega) hy)
      go_wp2
      go_ret
      exact ⟨by rw [HR.out] <;> rfl, hbw.out⟩
set_option linter.unusedSimpArgs false in
set_option maxHeartbeats 8000000 in
set_option maxRecDepth 100000 in
theorem doom_any (l : List JR) (A : Option Addr) (n c B : Nat) (w : World) (ht0 : TbAt w B A n l) (hB0 : B ≤ w.heap.size) :
    Calls Tryz.prog 44 #[.slice A n c] w (RetDm w (doomP (jobs l))) := by
  have hnn := fun v r => run_eql_map_nil (P := Tryz.prog) v 98 3 3 r Tryz.underlying98
  have hlj : Hid ((jobs l).length = n) := (jobs_len l).trans ht0.len
  have q0 := Lib.hid (fun hz => of_no l A n c B w ht0 hB0 hz)
  have q1 := Lib.hid (fun hz => of_yes l A n c B w ht0 hB0 hz)
  have HT := Lib.hid ht0
  have HBW := Lib.hid hB0
  have hn1 : n ≤ 1000 := ht0.2.2
  cases zt : tabB (jobs l)
  case false =>
    have HR : Hid (doomP (jobs l) = ([], [])) := by show _ = _; unfold doomP; rw [zt]; rfl
    clear q1 ht0 hB0
    go_enter Tryz.func44, Tryz.ntmps44
    go_wp2_with (fail)
    refine (q0.out zt).mono ?_; rintro e w0 ⟨rfl, hw0⟩
    go_wp2
    go_ret2
    rw [HR.out]
    exact retDm_no hw0
  have HR : Hid (doomP (jobs l) = (dmC (jobs l) n, dmI (jobs l) n)) := by show _ = _; unfold doomP; rw [zt, hlj.out]; rfl
  have HZ := Lib.hid zt
  have HOK := Lib.hid (fun x (hx : x ∈ jobs l) => ((tab_iff.1 zt).2.1 x hx).1)
  clear q0
  go_enter Tryz.func44, Tryz.ntmps44
  go_wp2_with (fail)
  refine (q1.out zt).mono ?_; rintro e w0 ⟨g, hg, rfl, hs0, hw0⟩
  have B0 := Lib.hid hw0
  have S0 := Lib.hid hs0
  have HG := Lib.hid hs0.lt
  have T0 := Lib.hid ((ht0.below (hw0.mono hB0)).more (Nat.le_trans hB0 hw0.size))
  have N0 := Lib.hid (ht0.ne (Nat.le_trans hB0 hg))
  have HWG := Lib.hid hg
  have HW0 := Lib.hid hw0.size
  clear hw0 hs0 q1 zt ht0 hB0 hg
  go_wp2
  go_loopw [0, 5, 18] (fun cur v i wr => ∃ (k cc : Nat) (R : Option Addr) (rs : List JR), k ≤ n ∧ i = .int .i64 k ∧ cur = .slice R n cc ∧ Hid (jobs rs = dmC (jobs l) k) ∧ Hid (TbAt wr wr.heap.size R n rs ∧ TbNe g R n rs) ∧ Hid (StM wr g (n + k) (stQ (dmC (jobs l) k))) ∧ Hid (Owns wr w0.heap.size 3 1 v (dmI (jobs l) k).length (ints (dmI (jobs l) k)) ∧ ∀ q, v.ownBlock = some q → q < wr.heap.size) ∧ Hid (Below w.heap.size w wr) ∧ Hid (w0.heap.size ≤ wr.heap.size)) (fun _ _ i _ => n - (intOf i).toNat)
  case atStart => exact ⟨0, c, A, l, Nat.zero_le _, rfl, rfl, rfl, ⟨T0.out, N0.out⟩, S0.out, ⟨Owns.nil, fun q h => by cases h⟩, B0.out, Nat.le_refl _⟩
  case round =>
    obtain ⟨k, cc, R, rs, hk, rfl, rfl, HJ, HTR, HS, hO, hbw, HW⟩ := hrel
    have hsz := hbw.out.size
    by_cases hlt : k < n
    · obtain ⟨b, o, r, rfl, hbb, hx, KR, JR⟩ := (HT.out.below (hbw.out.mono HBW.out)).elem hlt
      have hi0 : (0 : Int) ≤ (k : Int) := by omega
      have hi1 : (k : Int) < (n : Int) := by omega
      have t0 : decide ((k : Int) < (n : Int)) = true := by simp; omega
      have BW := Nat.le_trans HBW.out hbw.out.size
      have hbl : b < wr.heap.size := Nat.lt_of_lt_of_le hbb BW
      have CSZ := Lib.hid (jrC_info (r := r))
      have CSA := Lib.hid (jrA_info r)
      have C1 := Lib.hid (jrA_all r)
      have CS2 := Lib.hid (jrA_20 r)
      have HJX := Lib.hid (jobs_at hx.out)
      have HOKX := Lib.hid (HOK.out _ (List.mem_of_getElem? HJX.out))
      have e0 : (jrC r)[0]? = some (.int .i64 r.x.id) := rfl
      have e11 : (jrC r)[11]? = some (.int .i64 r.x.state) := rfl
      have HDC := Lib.hid (dmC_some HJX.out)
      have HDI := Lib.hid (dmI_some HJX.out)
      have HDL := Lib.hid (dmI_len (jobs l) k)
      have HV : Hid (vainQ (dmC (jobs l) k) r.x = ((r.x.state == 1) && someF (stQ (dmC (jobs l) k)) r.x.after)) := rfl
      have HPUT := Lib.hid (fun hs => dm_put HZ.out HJX.out hs)
      have HDS := Lib.hid (fun id => dm_st HZ.out HJX.out id)
      have qs := Lib.hid (fun v (hv : Below wr.heap.size wr v) => dsome_any g (n + k) (stQ (dmC (jobs l) k)) r wr.heap.size v (HS.out.up hv) ((JR.out.more BW).below hv) hv.size (ok_wf HOKX.out))
      have qe := Lib.hid (fun v (hv : Below wr.heap.size wr v) => end_any r.x 6 r.A r.A2 r.c r.c2 wr.heap.size v ((JR.out.more BW).below hv).1 hv.size JR.out.2)
      have HEV := Lib.hid (fun hs => end_vain HOKX.out (x := r.x) hs)
      have HFS := Lib.hid (fin_sz JR.out.2 6)
      have HYI := Lib.hid (fin_id r.x 6)
      have HYS := Lib.hid (fin_state r.x 6)
      have HWI := Lib.hid (okJ_id HOKX.out)
      obtain ⟨C, hC⟩ : ∃ C, Hid (dmC (jobs l) k = C) := ⟨_, rfl⟩
      obtain ⟨L, hL⟩ : ∃ L, Hid (dmI (jobs l) k = L) := ⟨_, rfl⟩
      rw [hC.out] at HJ HS HDC HDI HV HPUT HDS qs
      rw [hL.out] at hO HDI HDL
      obtain ⟨qq, hqq⟩ : ∃ q, vainQ C r.x = q := ⟨_, rfl⟩
      rw [hqq] at HV HDC HDI
      obtain ⟨za, hza⟩ : ∃ z, someF (stQ C) r.x.after = z := ⟨_, rfl⟩
      rw [hza] at HV qs
      obtain ⟨y, hy⟩ : ∃ y, finD r.x 6 = y := ⟨_, rfl⟩
      rw [hy] at HDC HPUT HDS HEV HFS HYI HYS
      rw [show (Value.agg (jrC r).toArray : Value) = jbV r.x r.A r.c r.A2 r.c2 from rfl] at qs
      obtain ⟨x, hxx⟩ : ∃ x, r.x = x := ⟨_, rfl⟩
      rw [hxx] at HV HDI HPUT HDS qe HEV HYI e0 e11 HWI
      obtain ⟨id, hid⟩ : ∃ id, x.id = id := ⟨_, rfl⟩
      rw [hid] at HDI HDS HYI e0 HWI
      obtain ⟨sx, hsx⟩ : ∃ id, x.state = id := ⟨_, rfl⟩
      rw [hsx] at e11 HV HPUT HEV
      rw [show jbV r.x r.A r.c r.A2 r.c2 = .agg (jrC r).toArray from rfl] at qs
      rw [← hxx, show jbV r.x r.A r.c r.A2 r.c2 = .agg (jrC r).toArray from rfl, hxx] at qe
      obtain ⟨cs, hcs⟩ : ∃ cs, Hid (jrC r = cs) := ⟨_, rfl⟩
      rw [hcs.out] at KR CSZ CSA C1 CS2 e0 e11 qs qe
      obtain ⟨W1, hs1, j1, b1, z1w⟩ := boxed wr cs.toArray
      have hstore := Lib.hid hs1
      have J1 := Lib.hid j1
      have B1 := Lib.hid b1
      clear hs1 j1 b1
      have HO1 := Lib.hid (hO.out.1.below B1.out)
      have HB1 := Lib.hid (bt hbw.out B1.out)
      have k0 : W1.cell? ⟨wr.heap.size, 0, none⟩ = some (.int .i64 id) := box_cell J1.out (Below.refl _ _) z1w e0
      have k11 : W1.cell? ⟨wr.heap.size, 11, none⟩ = some (.int .i64 sx) := box_cell J1.out (Below.refl _ _) z1w e11
      clear hcs hx JR hid hsx hza hqq hy hxx HOKX HJX
      have STAY : Hid (qq = false → ∀ v : World, Below wr.heap.size wr v → ∃ (k' cc' : Nat) (R' : Option Addr) (rs' : List JR), k' = k + 1 ∧ R' = R ∧ cc' = cc ∧ Hid (jobs rs' = dmC (jobs l) (k + 1)) ∧ Hid (TbAt v v.heap.size R n rs' ∧ TbNe g R n rs') ∧ Hid (StM v g (n + (k + 1)) (stQ (dmC (jobs l) (k + 1)))) ∧ dmI (jobs l) (k + 1) = L ∧ Hid (Below w.heap.size w v) ∧ Hid (w0.heap.size ≤ v.heap.size)) := Lib.hid (fun h v hv => by
        subst h
        have e1 : dmC (jobs l) (k + 1) = C := by rw [HDC.out]; rfl
        have e2 : dmI (jobs l) (k + 1) = L := by rw [HDI.out]; rfl
        exact ⟨k + 1, cc, R, rs, rfl, rfl, rfl, by rw [e1]; exact HJ, ⟨HTR.out.1.up hv, HTR.out.2⟩, by rw [e1]; exact (HS.out.up hv).mono (by omega), e2, bt hbw.out hv, Nat.le_trans HW.out hv.size⟩)
      have hdl := HDL.out
      by_cases hs1 : sx = 1
      case neg =>
        have t1 : (sx == 1) = false := by simpa using hs1
        have t1' : (sx != 1) = true := by simpa using hs1
        obtain ⟨_, _, _, rs', rfl, rfl, rfl, h1, h2, h3, h4, h5, h6⟩ := STAY.out (by rw [HV.out, t1]; rfl) W1 B1.out
        clear STAY HV HDC HDI HPUT HDS qs qe HEV hs1
        go_wp2_with (first | (refine wpList_load_mid rfl 28 _ rfl b (o + k * 20) rfl cs _ KR.out Tryz.underlying28 rfl CSZ.out ?_) | (refine wpList_store_row rfl 28 _ _ rfl (wr.heap.size) cs.toArray rfl rfl 28 _ (heap_alloc_new wr _) CSA.out (by show 20 = _; exact CS2.out) C1.out ?_; rw [hstore.out]))
        go_roundw
        case rel => exact ⟨k + 1, _, _, rs', by omega, by simp, rfl, h1, h2, h3, ⟨by rw [h4]; exact HO1.out, fun q h => Nat.lt_of_lt_of_le (hO.out.2 q h) B1.out.size⟩, h5, h6⟩
        case measure => simp [intOf]; omega
      subst hs1
      go_wp2_with (first | (refine wpList_load_mid rfl 28 _ rfl b (o + k * 20) rfl cs _ KR.out Tryz.underlying28 rfl CSZ.out ?_) | (refine wpList_store_row rfl 28 _ _ rfl (wr.heap.size) cs.toArray rfl rfl 28 _ (heap_alloc_new wr _) CSA.out (by show 20 = _; exact CS2.out) C1.out ?_; rw [hstore.out]) | (refine wpList_load_row_g (by kernel_rfl) 28 _ rfl (wr.heap.size) rfl 28 _ (0, 0) _ J1.out Tryz.underlying28 rfl CSA.out ?_))
      refine (qs.out _ B1.out).mono ?_; rintro e w2 ⟨rfl, hw2⟩
      have J2 := Lib.hid ((hw2.block _ z1w).trans J1.out)
      have B2 := Lib.hid (bt B1.out hw2)
      have z2w := Nat.lt_of_lt_of_le z1w hw2.size
      clear k0 k11
      cases za
      case false =>
        obtain ⟨_, _, _, rs', rfl, rfl, rfl, h1, h2, h3, h4, h5, h6⟩ := STAY.out (by rw [HV.out]; rfl) w2 B2.out
        clear STAY HV HDC HDI HPUT HDS qs qe HEV hw2
        go_wp2
        go_roundw
        case rel => exact ⟨k + 1, _, _, rs', by omega, by simp, rfl, h1, h2, h3, ⟨by rw [h4]; exact hO.out.1.below B2.out, fun q h => Nat.lt_of_lt_of_le (hO.out.2 q h) B2.out.size⟩, h5, h6⟩
        case measure => simp [intOf]; omega
      have hq1 : qq = true := by rw [HV.out]; rfl
      subst hq1
      rw [if_pos rfl] at HDC HDI
      rw [HEV.out (by trivial)] at qe
      clear STAY HV qs HEV hw2
      go_wp2_with (refine wpList_load_row rfl 28 _ rfl (wr.heap.size) rfl 28 _ (0, 0) _ J2.out Tryz.underlying28 rfl CSA.out ?_)
      refine (qe.out _ B2.out).mono ?_; rintro e w3 ⟨A5, c5, A6, c6, rfl, hat3, hoff3, hw3⟩
      have B3 := Lib.hid (bt B2.out hw3)
      have J3 := Lib.hid ((hw3.block _ z2w).trans J2.out)
      have z3w := Nat.lt_of_lt_of_le z2w hw3.size
      obtain ⟨r3, hr3⟩ : ∃ r3 : JR, Hid (r3 = ⟨y, A5, c5, A6, c6⟩) := ⟨_, rfl⟩
      have HR3 : Hid (JrAt w3 w3.heap.size r3) := by show JrAt _ _ _; rw [hr3.out]; exact ⟨hat3, HFS.out⟩
      have HX3 : Hid (r3.x = y) := by show _ = _; rw [hr3.out]
      have hv3 : jbV y A5 c5 A6 c6 = .agg (jrC r3).toArray := by rw [hr3.out]; rfl
      have d11 : (jrC r3)[11]? = some (.int .i64 6) := by rw [← HYS.out, hr3.out]; rfl
      have DSA := Lib.hid (jrA_info r3)
      have D1 := Lib.hid (jrA_all r3)
      have DS2 := Lib.hid (jrA_20 r3)
      rw [show ((y, (0 : Int)).1) = y from rfl, show ((y, (0 : Int)).2) = 0 from rfl, hv3]
      have qp0 := Lib.hid (fun v (hv : Below w3.heap.size w3 v) => put_any rs r3 R n cc v.heap.size v (HTR.out.1.up (bt B3.out hv)) (HR3.out.up hv) (Nat.le_refl _))
      rw [HJ.out, HX3.out, HPUT.out (by trivial)] at qp0
      obtain ⟨ds, hds⟩ : ∃ ds, Hid (jrC r3 = ds) := ⟨_, rfl⟩
      rw [hds.out] at qp0 d11 DSA D1 DS2 ⊢
      clear hv3 hat3 hoff3 hw3 qe HPUT hr3 hds
      obtain ⟨W4, hs4, j4, b4, z4w⟩ := boxed w3 ds.toArray
      have hstore2 := Lib.hid hs4
      have K4 := Lib.hid j4
      have B4 := Lib.hid b4
      clear hs4 j4 b4
      go_wp2_with (first | (refine wpList_store_row rfl 28 _ _ rfl (w3.heap.size) ds.toArray rfl rfl 28 _ (heap_alloc_new w3 _) DSA.out (by show 20 = _; exact DS2.out) D1.out ?_; rw [hstore2.out]) | (refine wpList_load_row rfl 28 _ rfl (w3.heap.size) rfl 28 _ (0, 0) _ K4.out Tryz.underlying28 rfl DSA.out ?_))
      refine (qp0.out _ B4.out).mono ?_; rintro e w5 ⟨R5, m5, cc5, rs5, rfl, hj5, T5, hmc5, hcm5, O5, hw5⟩
      have hm5 : n = m5 := by
        have h1 := T5.out.len
        have h2 := congrArg List.length hj5
        rw [jobs_len, List.length_set, ← hC.out, dmC_len, hlj.out] at h2
        omega
      subst hm5
      have B5 := Lib.hid (bt (bt B3.out B4.out) hw5)
      have K5 := Lib.hid ((hw5.block _ z4w).trans K4.out)
      have z5w := Nat.lt_of_lt_of_le z4w hw5.size
      have hge : wr.heap.size ≤ w3.heap.size := B3.out.size
      have h34 : w3.heap.size ≤ W4.heap.size := B4.out.size
      have hgr : g < wr.heap.size := Nat.lt_of_lt_of_le HG.out HW.out
      have J5 := Lib.hid ((hw5.block _ (by omega)).trans ((B4.out.block _ z3w).trans J3.out))
      have u0 : w5.cell? ⟨wr.heap.size, 0, none⟩ = some (.int .i64 id) := (cell_of_row w5 _ 0 _ _ _ J5.out).trans (at_arr e0)
      have u11 : w5.cell? ⟨w3.heap.size, 11, none⟩ = some (.int .i64 6) := (cell_of_row w5 _ 11 _ _ _ K5.out).trans (at_arr d11)
      have HS5 := Lib.hid (HS.out.up B5.out)
      have HO5 := Lib.hid (hO.out.1.below B5.out)
      clear J2 J3 J1 K4 hw5 qp0
      have g5 : g < w5.heap.size := by have := B5.out.size; omega
      have s05 := B5.out.size
      have hw0 := HW.out
      have hgw0 := HG.out
      have v0f : Hid (∀ w6 : World, Kp w5.heap.size (some g) w5 w6 → w6.cell? ⟨wr.heap.size, 0, none⟩ = some (.int .i64 id)) := Lib.hid (fun w6 K6 => (World.cell?_of_block (K6.block _ (show wr.heap.size < w5.heap.size by omega) (by intro e; have h : wr.heap.size = g := Option.some.inj e; omega))).trans u0)
      go_wp2_with (first | (refine st_put rfl _ _ _ rfl g _ _ rfl HS5.out (by omega) id 6 rfl rfl (wfI_of (by have := HWI.out; omega) (by have := HWI.out; omega)) (wfI_of (by omega) (by omega)) ?_; intro w6 h6 k6; have K6 := Lib.hid k6; have H6 := Lib.hid h6; have v0 := v0f.out w6 k6; have s56 := k6.size; clear h6 k6 u0 u11) | (at_builtin; refine app_i rfl rfl w0.heap.size rfl ((HO5.out.keep (fun q _ hq1 hq2 => K6.out.block q hq2 (by intro e; have h : q = g := Option.some.inj e; omega))).alloc _) (news := [id]) rfl (Reads.made w6 [Value.int .i64 id] _) (by omega) (by simp only [World.size_alloc]; omega) ?_))
      intro v7 w7 o7 k7 _
      have S6 : Hid (StM w6 g (n + (k + 1)) (stQ (dmC (jobs l) (k + 1)))) := by
        show StM _ _ _ _
        rw [HDC.out]
        exact (H6.out.congr (fun i => (HDS.out i).symm)).mono (by omega)
      have T6 : Hid (TbAt w6 w6.heap.size R5 n rs5) := T5.out.kpg (fun q e => by rw [← Option.some.inj e]; exact ne_off O5.out (by omega)) K6.out
      have B6 : Hid (Below w.heap.size w w6) := (bt hbw.out B5.out).trans (K6.out.below (by omega) (fun j h => by rw [← Option.some.inj h]; exact HWG.out))
      have B7 := Lib.hid (k7.below (B6.out.alloc (by omega) _) (by have := HW0.out; omega) (by simp only [World.size_alloc]; omega))
      have S7 := Lib.hid ((S6.out.up bx0).below (k7.below (Below.refl w0.heap.size _) (Nat.le_refl _) (by simp only [World.size_alloc]; omega)) HG.out)
      have T7 := Lib.hid ((T6.out.up bx0).appk k7 (fun q hq => ne_off O5.out (by have := hO.out.2 q hq; omega)))
      have s67 := k7.hsize
      simp only [World.size_alloc] at s67
      have o8 : Owns w7 w0.heap.size 3 1 v7 (dmI (jobs l) (k + 1)).length (ints (dmI (jobs l) (k + 1))) := by rw [HDI.out, List.length_append]; exact o7
      have O8 := Lib.hid o8
      have OL := Lib.hid (o8.own_lt (by rw [HDI.out, List.length_append]; simp))
      have HJ7 : Hid (jobs rs5 = dmC (jobs l) (k + 1)) := by show _ = _; rw [HDC.out]; exact hj5
      have HN7 := Lib.hid (ne_off (g := g) O5.out (by omega))
      clear k7 o7 o8 hj5 T6 B6 S6 K6 v0f
      go_wp2
      go_roundw
      case rel => exact ⟨k + 1, _, _, rs5, by omega, by simp, rfl, HJ7, ⟨T7.out, HN7.out⟩, S7, ⟨O8.out, OL.out⟩, B7, Lib.hid (by omega)⟩
      case measure => simp [intOf]; omega
    · obtain rfl : k = n := by omega
      have t0 : decide ((k : Int) < (k : Int)) = false := by simp
      have HJN : Hid (jobs rs = dmC (jobs l) k) := HJ
      have T1 := Lib.hid HTR.out.1
      have hsz := hbw.out.size
      obtain ⟨D, hD⟩ : ∃ D, Hid (dmI (jobs l) k = D) := ⟨_, rfl⟩
      rw [hD.out] at hO HR
      have HI := Lib.hid (hO.out.1.mono (Nat.le_trans HW0.out (Nat.le_refl _)))
      have HBB := Lib.hid hbw.out
      obtain ⟨C, hC⟩ : ∃ C, Hid (dmC (jobs l) k = C) := ⟨_, rfl⟩
      rw [hC.out] at HJN HR
      have HW2 := Lib.hid (Nat.le_trans HW0.out HW.out)
      clear HJ HTR HS HT S0 T0 N0 HOK HZ hlj HW HW0 HWG HG B0 HBW hD hC hsz hbw
      go_wp2_with (at_builtin; refine app_j (xs := []) rfl rfl wr.heap.size rfl Owns.nil rfl (T1.out.1.below bx0) (by omega) (by simp) ?_)
      intro v1 w1 o1 k1 _
      have B1 := Lib.hid (k1.below (bx0 (w := wr) (o := .cells #[] 28)) (Nat.le_refl _) (by simp))
      obtain ⟨A5, c5, rfl, hc5, hm5⟩ := o1.slice
      have HO1 := Lib.hid o1
      clear k1 o1
      have hll : Hid (rs.length = k) := T1.out.len
      obtain ⟨wo, hwo⟩ : ∃ v, v = wr := ⟨_, rfl⟩
      subst hwo
      go_wp2
      go_loopw [60] (fun i wr => ∃ (j : Nat) (fr : List JR), j ≤ k ∧ i = .int .i64 j ∧ Hid (Below wo.heap.size wo wr) ∧ Hid (fr.length = j) ∧ Hid (jobs fr = (jobs rs).take j) ∧ Hid (Owns wr wo.heap.size 28 20 (.slice A5 k c5) k (recs jrC (fr ++ rs.drop j))) ∧ Hid (∀ r ∈ fr, JrAt wr wr.heap.size r ∧ JrOff w1.heap.size r) ∧ Hid (w1.heap.size ≤ wr.heap.size)) (fun i _ => k - (intOf i).toNat)
      case atStart => exact ⟨0, [], Nat.zero_le _, rfl, B1.out, rfl, rfl, HO1.out, (fun r h => absurd h (by simp)), Nat.le_refl _⟩
      case round =>
        obtain ⟨j, fr, hj, rfl, hbw, HF, HJ, HO, HA, HS⟩ := hrel
        by_cases hlt2 : j < k
        · obtain ⟨g2, cg, eg, hgB, hg1, _⟩ := HO1.out.at_ (by omega)
          simp only [Value.slice.injEq, true_and] at eg
          obtain ⟨rfl, rfl⟩ := eg
          have hxe : rs[j]? = some (rs[j]'(by rw [hll.out]; exact hlt2)) := List.getElem?_eq_getElem _
          obtain ⟨r, hr⟩ : ∃ r, rs[j]'(by rw [hll.out]; exact hlt2) = r := ⟨_, rfl⟩
          rw [hr] at hxe
          have hx := Lib.hid hxe
          have JR0 := Lib.hid (T1.out.2.1 r (List.mem_of_getElem? hxe))
          clear hr hxe
          have hi0 : (0 : Int) ≤ (j : Int) := by omega
          have hi1 : (j : Int) < (k : Int) := by omega
          have t0 : decide ((j : Int) < (k : Int)) = true := by simp; omega
          have hgr : g2 < wr.heap.size := Nat.lt_of_lt_of_le hg1 HS.out
          have hsw := hbw.out.size
          obtain ⟨k5, f5⟩ := mid_cell (j := 5) (u := .slice r.A r.x.shape.alts.length r.c) HO.out (by omega) HF.out hx.out (by omega) rfl
          obtain ⟨k10, f10⟩ := mid_cell (j := 10) (u := .slice r.A2 r.x.after.length r.c2) HO.out (by omega) HF.out hx.out (by omega) rfl
          have q1 := Lib.hid (fun v (hv : Below wo.heap.size wo v) => (JR0.out.1.1.below hv : Reads v _ 2 r.A r.x.shape.alts.length (recs prC r.x.shape.alts)))
          have q2 := Lib.hid (fun v (hv : Below wo.heap.size wo v) => (JR0.out.1.2.1.below hv : Reads v _ 2 r.A2 r.x.after.length (recs prC r.x.after)))
          have hma1 := JR0.out.1.2.2.1
          have hmd1 := JR0.out.1.2.2.2.1
          obtain ⟨ma, hma⟩ : ∃ m, Hid (r.x.shape.alts.length = m) := ⟨_, rfl⟩
          obtain ⟨md, hmd⟩ : ∃ m, Hid (r.x.after.length = m) := ⟨_, rfl⟩
          rw [hma.out] at k5 q1 hma1
          rw [hmd.out] at k10 q2 hmd1
          go_wp2_with (at_builtin; refine app_d (xs := []) rfl rfl wr.heap.size rfl Owns.nil rfl (q2.out _ (hbw.out.alloc hsw _)) (by omega) (by simp) ?_)
          intro v2 w2 ho2 kk2 _
          have hb2 := kk2.below (bx0 (w := wr) (o := .cells #[] 85)) (Nat.le_refl _) (by simp)
          obtain ⟨A7, c7, rfl, hc7, _⟩ := ho2.slice
          have k10' : w2.cell? ⟨g2, j * 20 + 10, none⟩ = some (.slice r.A2 md r.c2) := (hb2.cell (p := ⟨g2, j * 20 + 10, none⟩) hgr).trans k10
          have f10' : w2.frozen? ⟨g2, j * 20 + 10, none⟩ = false := (hb2.frozen (p := ⟨g2, j * 20 + 10, none⟩) hgr).trans f10
          obtain ⟨W3, hW3⟩ : ∃ W, W = w2.setCell ⟨g2, j * 20 + 10, none⟩ (.slice A7 md c7) := ⟨_, rfl⟩
          have KP3 : Hid (Kp wr.heap.size (some g2) wr W3) := by show Kp _ _ _ _; rw [hW3]; exact (Kp.of_below hb2).set15
          have OD3 : Hid (Owns W3 wr.heap.size 85 2 (.slice A7 md c7) md (recs prC r.x.after)) := by show Owns _ _ _ _ _ _ _; rw [hW3]; exact ho2.setBelow hgr _
          have OW3 : Hid (Owns W3 wo.heap.size 28 20 (.slice (some ⟨g2, 0, none⟩) k c5) k ((recs jrC (fr ++ rs.drop j)).set (j * 20 + 10) (.slice A7 md c7))) := by show Owns _ _ _ _ _ _ _; rw [hW3]; exact ((HO.out.below hb2).stored (by omega) _ _)
          have hg3 : g2 < W3.heap.size := by have := KP3.out.size; omega
          have BW3 : Hid (Below wo.heap.size wo W3) := KP3.out.below hbw.out.size (fun k h => by rw [← Option.some.inj h]; exact hgB) |> fun h => hbw.out.trans h
          have k5' : W3.cell? ⟨g2, j * 20 + 5, none⟩ = some (.slice r.A ma r.c) := by
            rw [hW3, World.cell?_setCell_other _ _ _ _ (by intro e; simp at e)]
            exact (hb2.cell (p := ⟨g2, j * 20 + 5, none⟩) hgr).trans k5
          have f5' : W3.frozen? ⟨g2, j * 20 + 5, none⟩ = false := by
            obtain ⟨_, _, e, _, _, _, _, _, hz⟩ := OW3.out.at_ (by omega)
            simp only [Value.slice.injEq, Option.some.injEq, Addr.mk.injEq, and_true, true_and] at e
            obtain ⟨rfl, _⟩ := e
            exact hz _
          have k5a : ∀ T, (W3.alloc (.cells #[] T)).cell? ⟨g2, j * 20 + 4 + 1, none⟩ = some (.slice r.A ma r.c) := fun T => ((bx0 (w := W3)).cell (p := ⟨g2, j * 20 + 5, none⟩) hg3).trans k5'
          clear k5 f5 k10 f10 ho2 hb2 kk2 q2
          subst hW3
          have h2w : wr.heap.size ≤ w2.heap.size := by have := KP3.out.size; rwa [set_size] at this
          have hg2w : g2 < w2.heap.size := by omega
          go_wp2_with (at_builtin; refine app_a (xs := []) rfl rfl w2.heap.size rfl Owns.nil rfl (q1.out _ (BW3.out.alloc (by have := BW3.out.size; omega) _)) (by omega) (by simp) ?_)
          intro v4 w4 ho4 kk4 _
          have hb4 : Below w2.heap.size (w2.setCell ⟨g2, j * 20 + 10, none⟩ (.slice A7 md c7)) w4 := kk4.below ((Below.refl _ _).alloc (Nat.le_of_eq (set_size).symm) _) (Nat.le_refl _) (by simp)
          have hb4' : Below (w2.setCell ⟨g2, j * 20 + 10, none⟩ (.slice A7 md c7)).heap.size (w2.setCell ⟨g2, j * 20 + 10, none⟩ (.slice A7 md c7)) w4 := by rw [set_size]; exact hb4
          obtain ⟨A6, c6, rfl, hc6, _⟩ := ho4.slice
          have c5b : w4.cell? ⟨g2, j * 20 + 4 + 1, none⟩ = some (.slice r.A ma r.c) := (hb4.cell (p := ⟨g2, j * 20 + 5, none⟩) hg2w).trans k5'
          have f5b : w4.frozen? ⟨g2, j * 20 + 4 + 1, none⟩ = false := (hb4.frozen (p := ⟨g2, j * 20 + 5, none⟩) hg2w).trans f5'
          have f5c : w4.frozen? ⟨g2, j * 20 + 5, none⟩ = false := f5b
          have c5c : w4.cell? ⟨g2, j * 20 + 5, none⟩ = some (.slice r.A ma r.c) := c5b
          obtain ⟨W5, hW5⟩ : ∃ W, W = w4.setCell ⟨g2, j * 20 + 4 + 1, none⟩ (.slice A6 ma c6) := ⟨_, rfl⟩
          have KP5 : Hid (Kp wr.heap.size (some g2) wr W5) := by show Kp _ _ _ _; rw [hW5]; exact (KP3.out.trans (Kp.of_below (hb4.mono h2w))).set15
          have OD5 : Hid (Owns W5 wr.heap.size 85 2 (.slice A7 md c7) md (recs prC r.x.after)) := by show Owns _ _ _ _ _ _ _; rw [hW5]; exact (OD3.out.below hb4').setBelow hgr _
          have OA5 : Hid (Owns W5 wr.heap.size 103 2 (.slice A6 ma c6) ma (recs prC r.x.shape.alts)) := by show Owns _ _ _ _ _ _ _; rw [hW5]; exact (ho4.mono h2w).setBelow hgr _
          have OW5 : Hid (Owns W5 wo.heap.size 28 20 (.slice (some ⟨g2, 0, none⟩) k c5) k (recs jrC ((fr ++ [⟨r.x, A6, c6, A7, c7⟩]) ++ rs.drop (j + 1)))) := by
            show Owns _ _ _ _ _ _ _
            rw [← whole_cells2 HF.out hx.out, hW5, hma.out, hmd.out]
            exact (OW3.out.below hb4').stored (by omega) _ _
          have BW5 : Hid (Below wo.heap.size wo W5) := hbw.out.trans (KP5.out.below hbw.out.size (fun k h => by rw [← Option.some.inj h]; exact hgB))
          have HA5 : Hid (∀ q ∈ fr ++ [(⟨r.x, A6, c6, A7, c7⟩ : JR)], JrAt W5 W5.heap.size q ∧ JrOff w1.heap.size q) := by
            show ∀ q ∈ _, _
            intro q hq
            rcases List.mem_append.1 hq with h | h
            · exact ⟨(HA.out q h).1.kp (HA.out q h).2 hg1 KP5.out, (HA.out q h).2⟩
            · have e := List.mem_singleton.1 h
              subst e
              refine ⟨⟨⟨?_, ?_, JR0.out.1.2.2.1, JR0.out.1.2.2.2.1, ?_, ?_⟩, JR0.out.2⟩, ?_, ?_⟩
              · show Reads _ _ _ _ r.x.shape.alts.length _; rw [hma.out]; exact OA5.out.reads
              · show Reads _ _ _ _ r.x.after.length _; rw [hmd.out]; exact OD5.out.reads
              · show r.x.shape.alts.length ≤ c6; rw [hma.out]; exact hc6
              · show r.x.after.length ≤ c7; rw [hmd.out]; exact hc7
              · show Off _ _ r.x.shape.alts.length; rw [hma.out]; exact (Owns.off OA5.out).mono HS.out
              · show Off _ _ r.x.after.length; rw [hmd.out]; exact (Owns.off OD5.out).mono HS.out
          have HJ5 : Hid (jobs (fr ++ [(⟨r.x, A6, c6, A7, c7⟩ : JR)]) = (jobs rs).take (j + 1)) := by
            show _ = _
            rw [jobs_append, HJ.out, List.take_add_one, jobs_at hx.out]; rfl
          have HS5 : Hid (w1.heap.size ≤ W5.heap.size) := Nat.le_trans HS.out KP5.out.size
          have HF5 : Hid ((fr ++ [(⟨r.x, A6, c6, A7, c7⟩ : JR)]).length = j + 1) := by show _ = _; rw [List.length_append, HF.out]; rfl
          subst hW5
          clear ho4 kk4 hb4 hb4' KP3 OD3 OW3 BW3 k5' f5' k5a q1
          go_wp2
          go_roundw
          case rel => exact ⟨j + 1, _, by omega, by simp, BW5, HF5, HJ5, OW5, HA5, HS5⟩
          case measure => simp [intOf]; omega
        · obtain rfl : j = k := by omega
          have t0 : decide ((j : Int) < (j : Int)) = false := by simp
          have hfr : Hid (jobs fr = C) := by show _ = _; rw [HJ.out, List.take_of_length_le (by rw [jobs_len, hll.out]; omega), HJN.out]
          have HO2 : Hid (Owns wr wo.heap.size 28 20 (.slice A5 j c5) j (recs jrC fr)) := by
            show Owns _ _ _ _ _ _ _
            have h := HO.out
            rwa [List.drop_of_length_le (Nat.le_of_eq hll.out), List.append_nil] at h
          have HI2 := Lib.hid (HI.out.below hbw.out)
          have HBF := Lib.hid (bt HBB.out hbw.out)
          go_wp2
          go_ret2
          rw [HR.out]
          exact ⟨A5, j, c5, fr, _, rfl, hfr.out, Lib.hid ⟨HO2.out.reads, fun r hr => (HA.out r hr).1, hn1⟩, hc5, hm5, HI2, HBF.out⟩
end Go.Proofs.YtghmcdfmbjabnaaGreatDoor
