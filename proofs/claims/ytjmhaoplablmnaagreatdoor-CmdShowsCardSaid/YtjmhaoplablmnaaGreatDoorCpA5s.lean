/- Layer 8: CmdShows walked. -/
import Derived.Test.YtjmhaoplablmnaaGreatDoorCpA1s
import Derived.Test.YtjmhaoplablmnaaGreatDoorCpR6s
import Derived.Test.YtjmhaoplablmnaaGreatDoorQ1s
import Derived.Test.YtjmhaoplablmnaaGreatDoorK10s
namespace Go.Proofs.YtjmhaoplablmnaaGreatDoor
set_option linter.unusedVariables false
set_option linter.unusedSimpArgs false
open Go.RowKit
set_option maxHeartbeats 8000000 in
set_option maxRecDepth 100000 in
theorem cmdShows_walk (x : Cm) (A A2 : Option Addr) (c c2 : Nat) (w : World) (hx : CmIn w x A c A2 c2) (hT : Lib.TabIs Tryz.prog w "internal/strconv.uint64pow10" .u64 Lib.pow10Tab) :
    Calls Tryz.prog 3 #[cmV x A c A2 c2] w fun e w' => e = .returned (.bool true) ∧ Below w.heap.size w w' := by
  have f1 := Lib.hid (fun v => few08_any x A A2 c c2 v)
  have X := fun h => Lib.hid (hx.at_ h)
  clear hx
  have haw := Lib.hid (fun v (hv : Below w.heap.size w v) => awake08_any v (tab_below hT hv))
  have hsw := fun (h1 : fewC x = true) => Lib.hid (fun v (hv : Below w.heap.size w v) => show_any8 x A A2 c c2 w.heap.size v ((X h1).out.1.below hv) hv.size (X h1).out.2 (tab_below hT hv))
  have hrw := fun (h1 : fewC x = true) => Lib.hid (fun v (hv : Below w.heap.size w v) => rshow_any8 x A A2 c c2 w.heap.size v ((X h1).out.1.below hv) hv.size (X h1).out.2)
  have hck := fun (h1 : fewC x = true) => Lib.hid (fun v (hv : Below w.heap.size w v) => chk_any8 x A A2 c c2 w.heap.size v ((X h1).out.1.below hv) hv.size (X h1).out.2)
  have hrk := fun (h1 : fewC x = true) => Lib.hid (fun v (hv : Below w.heap.size w v) => rcheck8_any x A A2 c c2 w.heap.size v ((X h1).out.1.below hv) hv.size (X h1).out.2)
  clear X hT
  rw [cmV_is] at f1 hsw hrw hck hrk ⊢
  have IX := Lib.hid (info27 (cmA_size x A c A2 c2))
  obtain ⟨cs, hcs⟩ : ∃ q, cmA x A c A2 c2 = q := ⟨_, rfl⟩
  rw [hcs] at f1 hsw hrw hck hrk IX ⊢
  clear hcs
  obtain ⟨W0, hW0⟩ : ∃ W0, Hid (w.alloc (.cells cs 27) = W0) := ⟨_, Lib.hid rfl⟩
  have hz0 : W0.heap.size = w.heap.size + 1 := by rw [← hW0.out]; simp
  have HBX : Hid (Below w.heap.size w W0) := by rw [← hW0.out]; exact (Below.refl _ _).alloc (Nat.le_refl _) _
  have HCX : Hid (W0.heap[w.heap.size]? = some (.cells cs 27 (0, 0))) := by show _ = _; rw [← hW0.out]; exact heap_alloc_new w _
  cases b1 : fewC x
  case false =>
    rw [b1] at f1
    clear b1 hsw hck hrw hrk
    go_enter Tryz.func3, Tryz.ntmps3
    go_upto_region 1 with (fail)
    rw [hW0.out]
    go_wp2_with (refine wpList_load_row rfl 27 _ rfl (w.heap.size) rfl 27 _ (0, 0) _ HCX.out Tryz.underlying27 rfl IX.out ?_)
    refine (f1.out _).mono ?_; rintro e w1 ⟨rfl, hb1⟩
    have B1 := Lib.hid (bt HBX.out hb1); clear hb1
    go_wp2_with (fail)
    refine (haw.out _ B1.out).mono ?_; rintro e w2 ⟨rfl, hb2⟩
    have B2 := Lib.hid (bt B1.out hb2); clear hb2
    go_wp2
    go_ret
    exact ⟨rfl, B2.out⟩
  rw [b1] at f1
  have q1 := Lib.hid (hsw b1).out
  have q2 := Lib.hid (hck b1).out
  have q3 := Lib.hid (hrw b1).out
  have q4 := Lib.hid (hrk b1).out
  clear hsw hck hrw hrk b1
  obtain ⟨S, n, hS⟩ : ∃ S n, cshowP x = (S, n) := ⟨_, _, rfl⟩
  obtain ⟨E, hE⟩ : ∃ E, cmdE x = E := ⟨_, rfl⟩
  rw [hS] at q1 q3
  rw [hE] at q2 q4
  dsimp only at q1 q3
  have tS : (S.toList == S.toList) = true := by simp
  have tn : (n == n) = true := by simp
  have tE : (E == E) = true := by simp
  clear hS hE
  go_enter Tryz.func3, Tryz.ntmps3
  go_upto_region 1 with (fail)
  rw [hW0.out]
  go_wp2_with (refine wpList_load_row rfl 27 _ rfl (w.heap.size) rfl 27 _ (0, 0) _ HCX.out Tryz.underlying27 rfl IX.out ?_)
  refine (f1.out _).mono ?_; rintro e w1 ⟨rfl, hb1⟩
  have B1 := Lib.hid (bt HBX.out hb1)
  have hl1 := hb1.size
  have HX1 := Lib.hid ((hb1.block (w.heap.size) (by omega)).trans HCX.out)
  clear hb1
  go_wp2_with (refine wpList_load_row rfl 27 _ rfl (w.heap.size) rfl 27 _ (0, 0) _ HX1.out Tryz.underlying27 rfl IX.out ?_)
  refine (q1.out _ B1.out).mono ?_; rintro e w2 ⟨rfl, hb2⟩
  have B2 := Lib.hid (bt B1.out hb2)
  have hl2 := hb2.size
  have HX2 := Lib.hid ((hb2.block (w.heap.size) (by omega)).trans HX1.out)
  clear hb2
  go_wp2_with (refine wpList_load_row rfl 27 _ rfl (w.heap.size) rfl 27 _ (0, 0) _ HX2.out Tryz.underlying27 rfl IX.out ?_)
  refine (q3.out _ B2.out).mono ?_; rintro e w3 ⟨rfl, hb3⟩
  have B3 := Lib.hid (bt B2.out hb3)
  have hl3 := hb3.size
  have HX3 := Lib.hid ((hb3.block (w.heap.size) (by omega)).trans HX2.out)
  clear hb3
  have hlw : w.heap.size < w3.heap.size := by omega
  go_upto_region 5 with (fail)
  refine wp_region_later (by kernel_rfl) (by kernel_rfl) ?_
  have hl_ := later_cell (w3)
  try simp only [Act.put]
  repeat (first | (go_big_quiet_want; refine quiet_load_row 27 _ rfl (w.heap.size) rfl 27 _ (0, 0) _ (later_row HX3.out) Tryz.underlying27 rfl (IX.out) ?_; go_simp; go_big_quiet_on) | go_big_quiet_step (((first | (go_at_call 11; exact later_of (q2.out _ (B3.out.trans ((Later.below _).mono (by omega))))) | (go_at_call 12; exact later_of (q4.out _ (B3.out.trans ((Later.below _).mono (by omega))))) | (go_at_call 8; exact later_of (haw.out _ (B3.out.trans ((Later.below _).mono (by omega)))))))) | quiet_step (((first | (go_at_call 11; exact later_of (q2.out _ (B3.out.trans ((Later.below _).mono (by omega))))) | (go_at_call 12; exact later_of (q4.out _ (B3.out.trans ((Later.below _).mono (by omega))))) | (go_at_call 8; exact later_of (haw.out _ (B3.out.trans ((Later.below _).mono (by omega)))))))))
  refine wpQuiet_nil ?_
  intro w9 hx_
  obtain ⟨⟨w_, hb9⟩, e_⟩ := hx_
  have e2_ : w9 = w_ := e_
  clear e_
  subst e2_
  clear hl_
  go_wp2
  go_ret
  exact ⟨rfl, bt B3.out hb9⟩
end Go.Proofs.YtjmhaoplablmnaaGreatDoor
