/- Layer 8: CmdBack walked. -/
import Derived.Test.YtjmhaoplablmnaaGreatDoorCpA2
import Derived.Test.YtjmhaoplablmnaaGreatDoorP8
namespace Go.Proofs.YtjmhaoplablmnaaGreatDoor
set_option linter.unusedVariables false
set_option linter.unusedSimpArgs false
open Go.RowKit
theorem sameC_refl (x : Cm) : sameC x x = true := by unfold sameC sameS; simp
theorem E_cases (x : Cm) : cmdE x = 0 ∨ cmdE x = 80 := by unfold cmdE; split <;> simp
theorem cm_up {w : World} {B B' : Nat} {x : Cm} {A A2 : Option Addr} {c c2 : Nat} (h : CmAt w B x A c A2 c2) (hB : B ≤ B') : CmAt w B' x A c A2 c2 := ⟨h.1.upR hB, h.2.1.upR hB, h.2.2⟩
set_option maxHeartbeats 8000000 in
set_option maxRecDepth 100000 in
theorem cmdBack_walk (x : Cm) (A A2 : Option Addr) (c c2 : Nat) (w : World) (hx : CmIn w x A c A2 c2) (hT : Lib.TabIs Tryz.prog w "internal/strconv.uint64pow10" .u64 Lib.pow10Tab) :
    Calls Tryz.prog 5 #[cmV x A c A2 c2] w fun e w' => e = .returned (.bool true) ∧ Below w.heap.size w w' := by
  have f1 := Lib.hid (fun v => few08_any x A A2 c c2 v)
  have X := fun h => Lib.hid (hx.at_ h)
  clear hx
  have haw := Lib.hid (fun v (hv : Below w.heap.size w v) => awake08_any v (tab_below hT hv))
  have hsw := fun (h1 : fewC x = true) => Lib.hid (fun v (hv : Below w.heap.size w v) => show_any8 x A A2 c c2 w.heap.size v ((X h1).out.1.below hv) hv.size (X h1).out.2 (tab_below hT hv))
  have hck := fun (h1 : fewC x = true) => Lib.hid (fun v (hv : Below w.heap.size w v) => chk_any8 x A A2 c c2 w.heap.size v ((X h1).out.1.below hv) hv.size (X h1).out.2)
  have hrs := fun (h1 : fewC x = true) => Lib.hid (fun (D D2 : Option Addr) (d d2 : Nat) v (hv : Below w.heap.size w v) (hy : CmAt v v.heap.size x D d D2 d2) => rsame8_any x x A A2 D D2 c c2 d d2 v.heap.size v (cm_up ((X h1).out.1.below hv) hv.size) hy (Nat.le_refl _))
  clear X hT
  rw [cmV_is] at f1 hsw hck hrs ⊢
  have IX := Lib.hid (info27 (cmA_size x A c A2 c2))
  obtain ⟨cs, hcs⟩ : ∃ q, cmA x A c A2 c2 = q := ⟨_, rfl⟩
  rw [hcs] at f1 hsw hck hrs IX ⊢
  clear hcs
  obtain ⟨W0, hW0⟩ : ∃ W0, Hid (w.alloc (.cells cs 27) = W0) := ⟨_, Lib.hid rfl⟩
  have hz0 : W0.heap.size = w.heap.size + 1 := by rw [← hW0.out]; simp
  have HBX : Hid (Below w.heap.size w W0) := by rw [← hW0.out]; exact (Below.refl _ _).alloc (Nat.le_refl _) _
  have HCX : Hid (W0.heap[w.heap.size]? = some (.cells cs 27 (0, 0))) := by show _ = _; rw [← hW0.out]; exact heap_alloc_new w _
  cases b1 : fewC x
  case false =>
    rw [b1] at f1
    clear b1 hsw hck hrs
    go_enter Tryz.func5, Tryz.ntmps5
    go_upto_region 1 with (fail)
    rw [hW0.out]
    go_wp2_with (refine wpList_load_row rfl 27 _ rfl (w.heap.size) rfl 27 _ (0, 0) _ HCX.out Tryz.underlying27 rfl IX.out ?_)
    refine (f1.out _).mono ?_; rintro e w1 ⟨rfl, hb1⟩
    have B1 := Lib.hid (bt HBX.out hb1); clear hb1
    go_wp2_with (fail)
    refine (haw.out _ B1.out).mono ?_; rintro e w2 ⟨rfl, hb2⟩
    have B2 := Lib.hid (bt B1.out hb2); clear hb2
    go_wp2
    go_ret
    exact ⟨rfl, B2.out⟩
  rw [b1] at f1
  have q1 := Lib.hid (hsw b1).out
  have q2 := Lib.hid (hck b1).out
  have q3 := Lib.hid (hrs b1).out
  clear hsw hck hrs b1
  have HX : Hid (cshowP x = if cmdE x = 0 then (if (lineP x).length ≤ 400 then (⟨(lineP x).toArray⟩, 0) else (⟨#[]⟩, 3)) else (⟨#[]⟩, 80)) := rfl
  go_enter Tryz.func5, Tryz.ntmps5
  go_upto_region 1 with (fail)
  rw [hW0.out]
  go_wp2_with (refine wpList_load_row rfl 27 _ rfl (w.heap.size) rfl 27 _ (0, 0) _ HCX.out Tryz.underlying27 rfl IX.out ?_)
  refine (f1.out _).mono ?_; rintro e w1 ⟨rfl, hb1⟩
  have B1 := Lib.hid (bt HBX.out hb1)
  have hl1 := hb1.size
  have HX1 := Lib.hid ((hb1.block (w.heap.size) (by omega)).trans HCX.out)
  clear hb1
  by_cases hE : cmdE x = 0
  case neg =>
    have hE8 : cmdE x = 80 := (E_cases x).resolve_left hE
    rw [HX.out, if_neg hE] at q1
    rw [hE8] at q2
    clear HX hE hE8 q3
    go_wp2_with (refine wpList_load_row rfl 27 _ rfl (w.heap.size) rfl 27 _ (0, 0) _ HX1.out Tryz.underlying27 rfl IX.out ?_)
    refine (q1.out _ B1.out).mono ?_; rintro e w2 ⟨rfl, hb2⟩
    have B2 := Lib.hid (bt B1.out hb2)
    have HX2 := Lib.hid ((hb2.block (w.heap.size) (by omega)).trans HX1.out)
    have hl2 := hb2.size
    clear hb2
    go_wp2_with (first
      | (refine wpList_load_row_g (by kernel_rfl) 27 _ rfl (w.heap.size) rfl 27 _ (0, 0) _ HX2.out Tryz.underlying27 rfl IX.out ?_))
    refine (q2.out _ B2.out).mono ?_; rintro e w3 ⟨rfl, hb3⟩
    have B3 := Lib.hid (bt B2.out hb3); clear hb3
    go_wp2_with (fail)
    refine (haw.out _ B3.out).mono ?_; rintro e w4 ⟨rfl, hb4⟩
    have B4 := Lib.hid (bt B3.out hb4); clear hb4
    go_wp2
    go_ret
    exact ⟨rfl, B4.out⟩
  by_cases hL : (lineP x).length ≤ 400
  case neg =>
    rw [HX.out, if_pos hE, if_neg hL] at q1
    clear HX hE hL q3 q2
    go_wp2_with (refine wpList_load_row rfl 27 _ rfl (w.heap.size) rfl 27 _ (0, 0) _ HX1.out Tryz.underlying27 rfl IX.out ?_)
    refine (q1.out _ B1.out).mono ?_; rintro e w2 ⟨rfl, hb2⟩
    have B2 := Lib.hid (bt B1.out hb2); clear hb2
    go_wp2_with (fail)
    refine (haw.out _ B2.out).mono ?_; rintro e w4 ⟨rfl, hb4⟩
    have B4 := Lib.hid (bt B2.out hb4); clear hb4
    go_wp2
    go_ret
    exact ⟨rfl, B4.out⟩
  rw [HX.out, if_pos hE, if_pos hL] at q1
  have hpb := parse_back hE hL
  have hsz : (⟨(lineP x).toArray⟩ : ByteArray).size ≤ 400 := by show (lineP x).toArray.size ≤ 400; rw [List.size_toArray]; exact hL
  have hbl : bl (⟨(lineP x).toArray⟩ : ByteArray) = lineP x := by simp [bl]
  rw [← hbl] at hpb
  obtain ⟨S, hS⟩ : ∃ q : ByteArray, ⟨(lineP x).toArray⟩ = q := ⟨_, rfl⟩
  rw [hS] at q1 hpb hsz
  have hpr := Lib.hid (fun v => cparse_any S v)
  have hct := Lib.hid (fun v => count_any S v (by unfold maxLen; omega))
  rw [hpb] at hpr
  obtain ⟨n, hn⟩ : ∃ q : Int, ((runes (bl S)).length : Int) = q := ⟨_, rfl⟩
  rw [hn] at hpr hct
  rw [sameC_refl] at q3
  have tn : (n == n) = true := by simp
  clear HX hE hL hpb hsz hbl hS hn q2
  go_wp2_with (refine wpList_load_row rfl 27 _ rfl (w.heap.size) rfl 27 _ (0, 0) _ HX1.out Tryz.underlying27 rfl IX.out ?_)
  refine (q1.out _ B1.out).mono ?_; rintro e w2 ⟨rfl, hb2⟩
  have B2 := Lib.hid (bt B1.out hb2)
  have HX2 := Lib.hid ((hb2.block (w.heap.size) (by omega)).trans HX1.out)
  have hl2 := hb2.size
  clear hb2
  go_wp2_with (fail)
  refine (hpr.out _).mono ?_; rintro e w3 ⟨D, d, D2, d2, rfl, hy, hz, hb3⟩
  dsimp only at hy hz ⊢
  rw [cmV_is x D]
  have q4 := Lib.hid (fun v => q3.out D D2 d d2 v)
  rw [cmV_is x D] at q4
  have ID := Lib.hid (info27 (cmA_size x D d D2 d2))
  have OD := Lib.hid (cmA_one x D d D2 d2)
  have E6 : Hid ((cmA x D d D2 d2).size = 18) := Lib.hid rfl
  go_upto_region 7 with (refine wpList_store_row rfl 27 _ _ rfl w3.heap.size (cmA x D d D2 d2) rfl rfl 27 _ (heap_alloc_new _ _) (by kernel_rfl) rfl (cmA_one _ _ _ _ _) ?_; rw [World.setRow_alloc_new])
  have B3 := Lib.hid (bt B2.out hb3)
  have HX3 := Lib.hid ((hb3.block (w.heap.size) (by omega)).trans HX2.out)
  have hl3 := hb3.size
  have hbx : Below w3.heap.size w3 (w3.alloc (.cells (cmA x D d D2 d2) 27)) := (Below.refl _ _).alloc (Nat.le_refl _) _
  have B4 := Lib.hid (bt B3.out hbx)
  have HX4 := Lib.hid ((hbx.block (w.heap.size) (by omega)).trans HX3.out)
  have HY4 := Lib.hid (heap_alloc_new w3 (.cells (cmA x D d D2 d2) 27))
  have HD4 := Lib.hid (hy.below hbx)
  have hl4 : w3.heap.size < (w3.alloc (.cells (cmA x D d D2 d2) 27)).heap.size := by simp
  obtain ⟨W4, hW4⟩ : ∃ q, w3.alloc (.cells (cmA x D d D2 d2) 27) = q := ⟨_, rfl⟩
  obtain ⟨ds, hds⟩ : ∃ q, cmA x D d D2 d2 = q := ⟨_, rfl⟩
  rw [hW4] at B4 HX4 HY4 HD4 hl4 ⊢
  rw [hds] at q4 ID OD E6 HY4 ⊢
  clear hbx hb3 hy hz hW4 hds q3
  go_wp2_with (fail)
  refine (hct.out _).mono ?_; rintro e w5 ⟨rfl, hb5⟩
  have B5 := Lib.hid (bt B4.out hb5)
  have HX5 := Lib.hid ((hb5.block (w.heap.size) (by omega)).trans HX4.out)
  have HY5 := Lib.hid ((hb5.block (w3.heap.size) (by omega)).trans HY4.out)
  have HD5 := Lib.hid (cm_up (B' := w5.heap.size) (HD4.out.below (hb5.mono (by omega))) (by have := hb5.size; omega))
  clear hb5
  go_wp2_with (first
    | (refine wpList_load_row_g (by kernel_rfl) 27 _ rfl (w.heap.size) rfl 27 _ (0, 0) _ HX5.out Tryz.underlying27 rfl IX.out ?_)
    | (refine wpList_load_row_g (by kernel_rfl) 27 _ rfl (w3.heap.size) rfl 27 _ (0, 0) _ HY5.out Tryz.underlying27 rfl ID.out ?_))
  refine (q4.out _ B5.out HD5.out).mono ?_; rintro e w6 ⟨rfl, hb6⟩
  have B6 := Lib.hid (bt B5.out hb6); clear hb6
  go_wp2_with (fail)
  refine (haw.out _ B6.out).mono ?_; rintro e w7 ⟨rfl, hb7⟩
  have B7 := Lib.hid (bt B6.out hb7); clear hb7
  go_wp2
  go_ret
  exact ⟨rfl, B7.out⟩
end Go.Proofs.YtjmhaoplablmnaaGreatDoor
