/- Layer 8: CmdAgain walked. -/
import Derived.Test.YtjmhaoplablmnaaGreatDoorCpA3
namespace Go.Proofs.YtjmhaoplablmnaaGreatDoor
set_option linter.unusedVariables false
set_option linter.unusedSimpArgs false
open Go.RowKit
theorem parsed_any (s : ByteArray) (w : World) (x : Cm) (n er : Int) (h : cparseP s = (x, n, er)) : Calls Tryz.prog 15 #[.string s] w (RetCp w (x, n, er)) := by rw [← h]; exact cparse_any s w
theorem rsame0_any (A A2 : Option Addr) (c c2 : Nat) (w : World) (B : Nat) (h : CmAt w B cm0 A c A2 c2) (hB : B ≤ w.heap.size) : Calls Tryz.prog 14 #[cmV cm0 A c A2 c2, cmV cm0 none 0 none 0] w fun e w' => e = .returned (.bool true) ∧ Below w.heap.size w w' := by
  have := rsame8_any cm0 cm0 A A2 none none c c2 0 0 B w h (cm0_at w B) hB
  rwa [sameC_refl] at this
set_option maxHeartbeats 8000000 in
set_option maxRecDepth 100000 in
theorem cmdAgain_walk (s : ByteArray) (w : World) (hs : s.size ≤ maxLen) (hT : Lib.TabIs Tryz.prog w "internal/strconv.uint64pow10" .u64 Lib.pow10Tab) :
    Calls Tryz.prog 6 #[.string s] w fun e w' => e = .returned (.bool true) ∧ Below w.heap.size w w' := by
  have haw := Lib.hid (fun v (hv : Below w.heap.size w v) => awake08_any v (tab_below hT hv))
  obtain ⟨x, n, er, hX⟩ : ∃ x n er, cparseP s = (x, n, er) := ⟨_, _, _, rfl⟩
  have hpr := Lib.hid (fun v => parsed_any s v x n er hX)
  by_cases h0 : er = 0
  case neg =>
    obtain ⟨hc, hn0, hn1⟩ := parse_fail (s := s) (by rw [hX]; exact h0)
    rw [hX] at hc hn0 hn1
    dsimp only at hc hn0 hn1
    subst hc
    have hct := Lib.hid (fun v => count_any s v hs)
    obtain ⟨m, hm⟩ : ∃ q : Int, ((runes (bl s)).length : Int) = q := ⟨_, rfl⟩
    rw [hm] at hct hn1
    have t0 : (er != 0) = true := by simpa using h0
    have t1 : decide (n ≥ 0) = true := by simpa using hn0
    have t1' : decide (0 ≤ n) = true := by simpa using hn0
    have t2 : decide (n ≤ m) = true := by simpa using hn1
    have t3 : decide (m ≥ n) = true := by simpa using hn1
    clear hX h0 hm hn0 hn1 hT hs
    go_enter Tryz.func6, Tryz.ntmps6
    go_wp2_with (fail)
    refine (hpr.out _).mono ?_; rintro e w1 ⟨A, c, A2, c2, rfl, ha, hz, hb1⟩
    dsimp only at ha hz ⊢
    have q3 := Lib.hid (fun v (hv : Below w1.heap.size w1 v) => rsame0_any A A2 c c2 v w1.heap.size (ha.below hv) hv.size)
    have e18 := Lib.hid (info27 (cmA_size cm0 A c A2 c2))
    have hzl : cmV cm0 none 0 none 0 = .agg #[.int .i64 0, .int .i64 0, .string ⟨#[]⟩, .string ⟨#[]⟩, .string ⟨#[]⟩, .int .i64 0, .slice none 0 0, .int .i64 0, .int .i64 0, .int .i64 0, .int .i64 0, .bool false, .int .i64 0, .bool false, .slice none 0 0, .int .i64 0, .int .i64 0, .int .i64 0] := rfl
    rw [hzl] at q3
    rw [cmV_is] at q3 ⊢
    go_upto_region 2 with (refine wpList_store_row rfl 27 _ _ rfl w1.heap.size (cmA cm0 A c A2 c2) rfl rfl 27 _ (heap_alloc_new _ _) (by kernel_rfl) rfl (cmA_one _ _ _ _ _) ?_; rw [World.setRow_alloc_new])
    have hbx : Below w1.heap.size w1 (w1.alloc (.cells (cmA cm0 A c A2 c2) 27)) := (Below.refl _ _).alloc (Nat.le_refl _) _
    have hr := heap_alloc_new w1 (.cells (cmA cm0 A c A2 c2) 27)
    obtain ⟨W1, hW1⟩ : ∃ q, w1.alloc (.cells (cmA cm0 A c A2 c2) 27) = q := ⟨_, rfl⟩
    obtain ⟨cs, hcs⟩ : ∃ q, cmA cm0 A c A2 c2 = q := ⟨_, rfl⟩
    rw [hW1] at hbx hr ⊢
    rw [hcs] at hr q3 e18 ⊢
    have HR := Lib.hid hr
    have BX := Lib.hid hbx
    have B1 := Lib.hid (bt hb1 hbx)
    clear hzl hW1 hcs ha hz hb1 hbx hr hpr
    go_wp2_with (refine wpList_load_row rfl 27 _ rfl (w1.heap.size) rfl 27 _ (0, 0) _ HR.out Tryz.underlying27 rfl e18.out ?_)
    refine (q3.out _ BX.out).mono ?_; rintro e w2 ⟨rfl, hb2⟩
    have B2 := Lib.hid (bt B1.out hb2); clear hb2
    go_wp2_with (fail)
    refine (hct.out _).mono ?_; rintro e w3 ⟨rfl, hb3⟩
    have B3 := Lib.hid (bt B2.out hb3); clear hb3
    go_wp2_with (fail)
    refine (haw.out _ B3.out).mono ?_; rintro e w4 ⟨rfl, hb4⟩
    have B4 := Lib.hid (bt B3.out hb4); clear hb4
    go_wp2
    go_ret
    exact ⟨rfl, B4.out⟩
  subst h0
  have hE : cmdE x = 0 := by have := parse_fit (s := s) (by rw [hX]); rwa [hX] at this
  have HX : Hid (cshowP x = if (lineP x).length ≤ 400 then (⟨(lineP x).toArray⟩, 0) else (⟨#[]⟩, 3)) := by show _ = _; unfold cshowP; rw [if_pos hE]
  have hsw := Lib.hid (fun A c A2 c2 B v (h1 : CmAt v B x A c A2 c2) (h2 : B ≤ v.heap.size) (h3 : CmSz x) (hv : Below w.heap.size w v) => show_any8 x A A2 c c2 B v h1 h2 h3 (tab_below hT hv))
  have hck := Lib.hid (fun A c A2 c2 B v (h1 : CmAt v B x A c A2 c2) (h2 : B ≤ v.heap.size) (h3 : CmSz x) => chk_any8 x A A2 c c2 B v h1 h2 h3)
  have hrs := Lib.hid (fun A c A2 c2 D d D2 d2 B v (h1 : CmAt v B x A c A2 c2) (hy : CmAt v B x D d D2 d2) (h2 : B ≤ v.heap.size) => rsame8_any x x A A2 D D2 c c2 d d2 B v h1 hy h2)
  rw [hE] at hck
  rw [sameC_refl] at hrs
  have HPB := Lib.hid (parse_back hE)
  clear hX hT hs hE
  go_enter Tryz.func6, Tryz.ntmps6
  go_wp2_with (fail)
  refine (hpr.out _).mono ?_; rintro e w1 ⟨A, c, A2, c2, rfl, ha, hz, hb1⟩
  dsimp only at ha hz ⊢
  have HSZ := Lib.hid hz
  have e18 := Lib.hid (info27 (cmA_size x A c A2 c2))
  have q1 := Lib.hid (fun v => hsw.out A c A2 c2 w1.heap.size v)
  have q2 := Lib.hid (fun v => hck.out A c A2 c2 w1.heap.size v)
  have q3 := Lib.hid (fun D d D2 d2 v => hrs.out A c A2 c2 D d D2 d2 v.heap.size v)
  rw [cmV_is] at q1 q2 q3 ⊢
  go_upto_region 2 with (refine wpList_store_row rfl 27 _ _ rfl w1.heap.size (cmA x A c A2 c2) rfl rfl 27 _ (heap_alloc_new _ _) (by kernel_rfl) rfl (cmA_one _ _ _ _ _) ?_; rw [World.setRow_alloc_new])
  have hbx : Below w1.heap.size w1 (w1.alloc (.cells (cmA x A c A2 c2) 27)) := (Below.refl _ _).alloc (Nat.le_refl _) _
  have hr := heap_alloc_new w1 (.cells (cmA x A c A2 c2) 27)
  obtain ⟨W1, hW1⟩ : ∃ q, w1.alloc (.cells (cmA x A c A2 c2) 27) = q := ⟨_, rfl⟩
  obtain ⟨cs, hcs⟩ : ∃ q, cmA x A c A2 c2 = q := ⟨_, rfl⟩
  obtain ⟨b, hbn⟩ : ∃ q, Hid (w1.heap.size = q) := ⟨_, Lib.hid rfl⟩
  rw [hW1] at hbx hr ⊢
  rw [hcs] at hr q1 q2 q3 e18 ⊢
  have HA1 := Lib.hid (ha.below hbx)
  have BS := Lib.hid hbx.size
  have B1 := Lib.hid (bt hb1 hbx)
  rw [hbn.out] at hr q1 q2 HA1 BS ⊢
  have HR := Lib.hid hr
  have hbl := lt_of_block hr
  clear hW1 hcs ha hz hb1 hbx hr hpr hsw hck hrs
  by_cases hL : (lineP x).length ≤ 400
  case neg =>
    rw [HX.out, if_neg hL] at q1
    clear hL HX HPB
    go_wp2_with (refine wpList_load_row rfl 27 _ rfl b rfl 27 _ (0, 0) _ HR.out Tryz.underlying27 rfl e18.out ?_)
    refine (q1.out _ HA1.out BS.out HSZ.out B1.out).mono ?_; rintro e w2 ⟨rfl, hb2⟩
    have B2 := Lib.hid (bt B1.out hb2)
    have HR2 := Lib.hid ((hb2.block b hbl).trans HR.out)
    have HA2 := Lib.hid (HA1.out.below (hb2.mono BS.out))
    have BS2 := Lib.hid (Nat.le_trans BS.out hb2.size)
    clear hb2
    go_wp2_with (refine wpList_load_row_g (by kernel_rfl) 27 _ rfl b rfl 27 _ (0, 0) _ HR2.out Tryz.underlying27 rfl e18.out ?_)
    refine (q2.out _ HA2.out BS2.out HSZ.out).mono ?_; rintro e w3 ⟨rfl, hb3⟩
    have B3 := Lib.hid (bt B2.out hb3); clear hb3
    go_wp2_with (fail)
    refine (haw.out _ B3.out).mono ?_; rintro e w4 ⟨rfl, hb4⟩
    have B4 := Lib.hid (bt B3.out hb4); clear hb4
    go_wp2
    go_ret
    exact ⟨rfl, B4.out⟩
  rw [HX.out, if_pos hL] at q1
  have hpb := HPB.out hL
  have hlb : bl (⟨(lineP x).toArray⟩ : ByteArray) = lineP x := by simp [bl]
  rw [← hlb] at hpb
  obtain ⟨S, hS⟩ : ∃ q : ByteArray, ⟨(lineP x).toArray⟩ = q := ⟨_, rfl⟩
  rw [hS] at q1 hpb
  obtain ⟨m, hm⟩ : ∃ q : Int, ((runes (bl S)).length : Int) = q := ⟨_, rfl⟩
  rw [hm] at hpb
  have hpr := Lib.hid (fun v => parsed_any S v x m 0 hpb)
  clear hL HX HPB hpb hS hm hlb
  go_wp2_with (refine wpList_load_row rfl 27 _ rfl b rfl 27 _ (0, 0) _ HR.out Tryz.underlying27 rfl e18.out ?_)
  refine (q1.out _ HA1.out BS.out HSZ.out B1.out).mono ?_; rintro e w2 ⟨rfl, hb2⟩
  have B2 := Lib.hid (bt B1.out hb2)
  have HR2 := Lib.hid ((hb2.block b hbl).trans HR.out)
  have HA2 := Lib.hid (HA1.out.below (hb2.mono BS.out))
  have BS2 := Lib.hid (Nat.le_trans BS.out hb2.size)
  have hl2 := hb2.size
  clear hb2
  go_wp2_with (fail)
  refine (hpr.out _).mono ?_; rintro e w3 ⟨D, d, D2, d2, rfl, hy, hz, hb3⟩
  dsimp only at hy hz ⊢
  have q4 := Lib.hid (fun v => q3.out D d D2 d2 v)
  have e19 := Lib.hid (info27 (cmA_size x D d D2 d2))
  rw [cmV_is] at q4 ⊢
  go_upto_region 8 with (refine wpList_store_row rfl 27 _ _ rfl w3.heap.size (cmA x D d D2 d2) rfl rfl 27 _ (heap_alloc_new _ _) (by kernel_rfl) rfl (cmA_one _ _ _ _ _) ?_; rw [World.setRow_alloc_new])
  have hbx : Below w3.heap.size w3 (w3.alloc (.cells (cmA x D d D2 d2) 27)) := (Below.refl _ _).alloc (Nat.le_refl _) _
  have hr := heap_alloc_new w3 (.cells (cmA x D d D2 d2) 27)
  have hl3 := hb3.size
  have HR3 := Lib.hid ((hb3.block b (by omega)).trans HR2.out)
  have hlb3 := lt_of_block HR3.out
  have HA3 := Lib.hid (HA2.out.below (hb3.mono BS2.out))
  obtain ⟨W3, hW3⟩ : ∃ q, w3.alloc (.cells (cmA x D d D2 d2) 27) = q := ⟨_, rfl⟩
  obtain ⟨ds, hds⟩ : ∃ q, cmA x D d D2 d2 = q := ⟨_, rfl⟩
  rw [hW3] at hbx hr ⊢
  rw [hds] at hr q4 e19 ⊢
  have hl4 := hbx.size
  have HR4 := Lib.hid ((hbx.block b hlb3).trans HR3.out)
  have HY4 := Lib.hid hr
  have hly := lt_of_block hr
  have hlb4 := lt_of_block HR4.out
  have HA4 := Lib.hid (HA3.out.below (hbx.mono (Nat.le_trans BS2.out hl3)))
  have HD4 := Lib.hid (hy.below hbx)
  have BS4 := Lib.hid (Nat.le_trans (Nat.le_trans BS2.out hl3) hl4)
  have B4 := Lib.hid (bt (bt B2.out hb3) hbx)
  clear hW3 hds hy hz hb3 hbx hr hpr hlb3
  go_wp2_with (refine wpList_load_row rfl 27 _ rfl b rfl 27 _ (0, 0) _ HR4.out Tryz.underlying27 rfl e18.out ?_)
  refine (q2.out _ HA4.out BS4.out HSZ.out).mono ?_; rintro e w5 ⟨rfl, hb5⟩
  have hl5 := hb5.size
  have HR5 := Lib.hid ((hb5.block b hlb4).trans HR4.out)
  have HY5 := Lib.hid ((hb5.block _ hly).trans HY4.out)
  have HA5 := Lib.hid (cm_up (HA4.out.below (hb5.mono BS4.out)) (Nat.le_trans BS4.out hl5))
  have HD5 := Lib.hid (cm_up (HD4.out.below (hb5.mono hl4)) (Nat.le_trans hl4 hl5))
  have B5 := Lib.hid (bt B4.out hb5)
  clear hb5
  go_wp2_with (first
    | (refine wpList_load_row_g (by kernel_rfl) 27 _ rfl b rfl 27 _ (0, 0) _ HR5.out Tryz.underlying27 rfl e18.out ?_)
    | (refine wpList_load_row_g (by kernel_rfl) 27 _ rfl (w3.heap.size) rfl 27 _ (0, 0) _ HY5.out Tryz.underlying27 rfl e19.out ?_))
  refine (q4.out _ HA5.out HD5.out (Nat.le_refl _)).mono ?_; rintro e w6 ⟨rfl, hb6⟩
  have B6 := Lib.hid (bt B5.out hb6); clear hb6
  go_wp2_with (fail)
  refine (haw.out _ B6.out).mono ?_; rintro e w7 ⟨rfl, hb7⟩
  have B7 := Lib.hid (bt B6.out hb7); clear hb7
  go_wp2
  go_ret
  exact ⟨rfl, B7.out⟩
end Go.Proofs.YtjmhaoplablmnaaGreatDoor
