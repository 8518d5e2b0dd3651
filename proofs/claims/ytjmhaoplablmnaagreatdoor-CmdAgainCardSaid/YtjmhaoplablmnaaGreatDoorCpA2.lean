/- Layer 8: CmdSame walked. -/
import Derived.Test.YtjmhaoplablmnaaGreatDoorCpA1
import Derived.Test.YtjmhaoplablmnaaGreatDoorCpR1
import Derived.Test.YtjmhaoplablmnaaGreatDoorQ1
import Derived.Test.YtjmhaoplablmnaaGreatDoorK10
namespace Go.Proofs.YtjmhaoplablmnaaGreatDoor
set_option linter.unusedVariables false
set_option linter.unusedSimpArgs false
open Go.RowKit
set_option maxHeartbeats 8000000 in
set_option maxRecDepth 100000 in
theorem cmdSame_walk (x y : Cm) (A A2 D D2 : Option Addr) (c c2 d d2 : Nat) (w : World) (hx : CmIn w x A c A2 c2) (hy : CmIn w y D d D2 d2) (hT : Lib.TabIs Tryz.prog w "internal/strconv.uint64pow10" .u64 Lib.pow10Tab) :
    Calls Tryz.prog 4 #[cmV x A c A2 c2, cmV y D d D2 d2] w fun e w' => e = .returned (.bool true) ∧ Below w.heap.size w w' := by
  have f1 := Lib.hid (fun v => few08_any x A A2 c c2 v)
  have f2 := Lib.hid (fun v => few08_any y D D2 d d2 v)
  have X := fun h => Lib.hid (hx.at_ h)
  have Y := fun h => Lib.hid (hy.at_ h)
  clear hx hy
  have hsm := fun (h1 : fewC x = true) (h2 : fewC y = true) => Lib.hid (fun v (hv : Below w.heap.size w v) => sameC_any x y A A2 D D2 c c2 d d2 w.heap.size v ((X h1).out.1.below hv) ((Y h2).out.1.below hv) hv.size)
  have hrs := fun (h1 : fewC x = true) (h2 : fewC y = true) => Lib.hid (fun v (hv : Below w.heap.size w v) => rsame8_any x y A A2 D D2 c c2 d d2 w.heap.size v ((X h1).out.1.below hv) ((Y h2).out.1.below hv) hv.size)
  clear X Y
  have haw := Lib.hid (fun v (hv : Below w.heap.size w v) => awake08_any v (tab_below hT hv))
  rw [cmV_is] at f1 f2 hsm hrs ⊢
  rw [cmV_is y] at hsm hrs ⊢
  have IX := Lib.hid (info27 (cmA_size x A c A2 c2))
  have IY := Lib.hid (info27 (cmA_size y D d D2 d2))
  obtain ⟨cs, hcs⟩ : ∃ q, cmA x A c A2 c2 = q := ⟨_, rfl⟩
  obtain ⟨ds, hds⟩ : ∃ q, cmA y D d D2 d2 = q := ⟨_, rfl⟩
  rw [hcs] at f1 hsm hrs IX ⊢
  rw [hds] at f2 hsm hrs IY ⊢
  clear hcs hds hT
  obtain ⟨W0, hW0⟩ : ∃ W0, Hid ((w.alloc (.cells cs 27)).alloc (.cells ds 27) = W0) := ⟨_, Lib.hid rfl⟩
  have hz0 : W0.heap.size = w.heap.size + 2 := by rw [← hW0.out]; simp
  have HBX : Hid (Below w.heap.size w W0) := by rw [← hW0.out]; exact ((Below.refl _ _).alloc (Nat.le_refl _) _).alloc (by simp) _
  have HCX : Hid (W0.heap[w.heap.size]? = some (.cells cs 27 (0, 0))) := by show _ = _; rw [← hW0.out]; exact (Below.heap_alloc _ _ _ (by simp)).trans (heap_alloc_new w _)
  have HCY : Hid (W0.heap[w.heap.size + 1]? = some (.cells ds 27 (0, 0))) := by
    show _ = _
    rw [← hW0.out]
    have h := heap_alloc_new (w.alloc (.cells cs 27)) (.cells ds 27)
    rwa [World.size_alloc] at h
  cases b1 : fewC x
  case false =>
    rw [b1] at f1
    clear b1 hsm hrs
    go_enter Tryz.func4, Tryz.ntmps4
    go_upto_region 1 with (fail)
    rw [hW0.out]
    go_wp2_with (refine wpList_load_row rfl 27 _ rfl (w.heap.size) rfl 27 _ (0, 0) _ HCX.out Tryz.underlying27 rfl IX.out ?_)
    refine (f1.out _).mono ?_; rintro e w1 ⟨rfl, hb1⟩
    have B1 := Lib.hid (bt HBX.out hb1); clear hb1
    go_wp2_with (fail)
    refine (haw.out _ B1.out).mono ?_; rintro e w2 ⟨rfl, hb2⟩
    have B2 := Lib.hid (bt B1.out hb2); clear hb2
    go_wp2
    go_ret
    exact ⟨rfl, B2.out⟩
  rw [b1] at f1
  cases b2 : fewC y
  case false =>
    rw [b2] at f2
    clear hsm hrs b1 b2
    go_enter Tryz.func4, Tryz.ntmps4
    go_upto_region 1 with (fail)
    rw [hW0.out]
    go_wp2_with (refine wpList_load_row rfl 27 _ rfl (w.heap.size) rfl 27 _ (0, 0) _ HCX.out Tryz.underlying27 rfl IX.out ?_)
    refine (f1.out _).mono ?_; rintro e w1 ⟨rfl, hb1⟩
    have B1 := Lib.hid (bt HBX.out hb1)
    have HC1 := Lib.hid ((hb1.block (w.heap.size + 1) (by omega)).trans HCY.out); clear hb1
    go_wp2_with (refine wpList_load_row_g (by kernel_rfl) 27 _ rfl (w.heap.size + 1) rfl 27 _ (0, 0) _ HC1.out Tryz.underlying27 rfl IY.out ?_)
    refine (f2.out _).mono ?_; rintro e w2 ⟨rfl, hb2⟩
    have B2 := Lib.hid (bt B1.out hb2); clear hb2
    go_wp2_with (fail)
    refine (haw.out _ B2.out).mono ?_; rintro e w3 ⟨rfl, hb3⟩
    have B3 := Lib.hid (bt B2.out hb3); clear hb3
    go_wp2
    go_ret
    exact ⟨rfl, B3.out⟩
  rw [b2] at f2
  have q1 := Lib.hid (hsm b1 b2).out
  have q2 := Lib.hid (hrs b1 b2).out
  clear hsm hrs b1 b2
  obtain ⟨R, hR⟩ : ∃ q, sameC x y = q := ⟨_, rfl⟩
  rw [hR] at q1 q2
  clear hR
  cases R
  all_goals
    go_enter Tryz.func4, Tryz.ntmps4
    go_upto_region 1 with (fail)
    rw [hW0.out]
    go_wp2_with (refine wpList_load_row rfl 27 _ rfl (w.heap.size) rfl 27 _ (0, 0) _ HCX.out Tryz.underlying27 rfl IX.out ?_)
    refine (f1.out _).mono ?_; rintro e w1 ⟨rfl, hb1⟩
    have B1 := Lib.hid (bt HBX.out hb1)
    have hl1 := hb1.size
    have HX1 := Lib.hid ((hb1.block (w.heap.size) (by omega)).trans HCX.out)
    have HC1 := Lib.hid ((hb1.block (w.heap.size + 1) (by omega)).trans HCY.out); clear hb1
    go_wp2_with (refine wpList_load_row_g (by kernel_rfl) 27 _ rfl (w.heap.size + 1) rfl 27 _ (0, 0) _ HC1.out Tryz.underlying27 rfl IY.out ?_)
    refine (f2.out _).mono ?_; rintro e w2 ⟨rfl, hb2⟩
    have B2 := Lib.hid (bt B1.out hb2)
    have hl2 := hb2.size
    have HX2 := Lib.hid ((hb2.block (w.heap.size) (by omega)).trans HX1.out)
    have HC2 := Lib.hid ((hb2.block (w.heap.size + 1) (by omega)).trans HC1.out); clear hb2
    have hlw : w.heap.size + 1 < w2.heap.size := by omega
    go_upto_region 3 with (fail)
    refine wp_region_later (by kernel_rfl) (by kernel_rfl) ?_
    have hl_ := later_cell (w2)
    try simp only [Act.put]
    repeat (first | (go_big_quiet_want; refine quiet_load_row 27 _ rfl (w.heap.size) rfl 27 _ (0, 0) _ (later_row HX2.out) Tryz.underlying27 rfl (IX.out) ?_; go_simp; go_big_quiet_on) | (go_big_quiet_want; refine quiet_load_row 27 _ rfl ((w.heap.size + 1)) rfl 27 _ (0, 0) _ (later_row HC2.out) Tryz.underlying27 rfl (IY.out) ?_; go_simp; go_big_quiet_on) | go_big_quiet_step (((first | (go_at_call 13; exact later_of (q1.out _ (B2.out.trans ((Later.below _).mono (by omega))))) | (go_at_call 14; exact later_of (q2.out _ (B2.out.trans ((Later.below _).mono (by omega))))) | (go_at_call 8; exact later_of (haw.out _ (B2.out.trans ((Later.below _).mono (by omega)))))))) | quiet_step (((first | (go_at_call 13; exact later_of (q1.out _ (B2.out.trans ((Later.below _).mono (by omega))))) | (go_at_call 14; exact later_of (q2.out _ (B2.out.trans ((Later.below _).mono (by omega))))) | (go_at_call 8; exact later_of (haw.out _ (B2.out.trans ((Later.below _).mono (by omega)))))))))
    refine wpQuiet_nil ?_
    intro w9 hx_
    obtain ⟨⟨w_, hb9⟩, e_⟩ := hx_
    have e2_ : w9 = w_ := e_
    clear e_
    subst e2_
    clear hl_
    go_wp2
    go_ret
    exact ⟨rfl, bt B2.out hb9⟩
end Go.Proofs.YtjmhaoplablmnaaGreatDoor
