/- Layer 8: the statements' probe. -/
import Derived.Test.YtjmhaoplablmnaaGreatDoorCpS5s
import Derived.Test.YtjmhaoplablmnaaGreatDoorCpWDs
import Derived.Test.YtjmhaoplablmnaaGreatDoorCpOs
import Derived.KernelRfl
namespace Go.Proofs.YtjmhaoplablmnaaGreatDoor
set_option linter.unusedVariables false
set_option linter.unusedSimpArgs false
open Go.RowKit
def lnA : ByteArray := ⟨#[115, 117, 98, 109, 105, 116, 32, 97, 32, 117, 115, 101, 114, 61, 117, 32, 97, 99, 99, 111, 117, 110, 116, 61, 120, 32, 110, 111, 100, 101, 115, 61, 50, 32, 116, 105, 109, 101, 61, 57, 48]⟩
def lnS : ByteArray := ⟨#[115, 117, 98, 109, 105, 116, 32, 97, 32, 117, 115, 101, 114, 61, 117, 32, 97, 99, 99, 111, 117, 110, 116, 61, 120, 32, 110, 111, 100, 101, 115, 61, 50, 32, 116, 105, 109, 101, 61, 49, 109, 51, 48, 115]⟩
def lnB : ByteArray := ⟨#[99, 97, 110, 99, 101, 108, 32, 53, 32, 54]⟩
def lnC : ByteArray := ⟨#[99, 97, 110, 99, 101, 108]⟩
def cmX : Cm := ⟨1, 0, ⟨#[97]⟩, ⟨#[117]⟩, ⟨#[120]⟩, ⟨1, [(2, 90)], 0, 0, 0⟩, 0, false, 0, false, [], 0, 0, 0⟩
theorem lnA_is : cparseP lnA = (cmX, 41, 0) := by kernel_rfl
theorem lnB_is : cparseP lnB = (cm0, 9, 80) := by kernel_rfl
theorem lnC_is : cparseP lnC = (cm0, 6, 80) := by kernel_rfl
theorem cmX_is : cshowP cmX = (lnS, 0) := by kernel_rfl
theorem cmX_same : sameC cmX cmX = true := by kernel_rfl
theorem cm0_bad : cmdE cm0 = 80 := by kernel_rfl
theorem cm0_at (w : World) (B : Nat) : CmAt w B cm0 none 0 none 0 := ⟨Reads.none_, Reads.none_, by decide, by decide, by decide, by decide⟩
theorem cm0_sz : CmSz cm0 := ⟨by decide, by decide, by decide⟩
theorem pA_any (w : World) : Calls Tryz.prog 15 #[.string lnA] w (RetCp w (cmX, 41, 0)) := by rw [← lnA_is]; exact cparse_any lnA w
theorem pB_any (w : World) : Calls Tryz.prog 15 #[.string lnB] w (RetCp w (cm0, 9, 80)) := by rw [← lnB_is]; exact cparse_any lnB w
theorem pC_any (w : World) : Calls Tryz.prog 15 #[.string lnC] w (RetCp w (cm0, 6, 80)) := by rw [← lnC_is]; exact cparse_any lnC w
theorem chk0_any (w : World) : Calls Tryz.prog 11 #[cmV cm0 none 0 none 0] w fun e w' => e = .returned (.int .i64 80) ∧ Below w.heap.size w w' := by rw [← cm0_bad]; exact chk_any8 cm0 none none 0 0 w.heap.size w (cm0_at w _) (Nat.le_refl _) cm0_sz
theorem showX_any (A A2 : Option Addr) (c c2 B : Nat) (w : World) (ha : CmAt w B cmX A c A2 c2) (hB : B ≤ w.heap.size) (hz : CmSz cmX) (hT : Lib.TabIs Tryz.prog w "internal/strconv.uint64pow10" .u64 Lib.pow10Tab) :
    Calls Tryz.prog 9 #[cmV cmX A c A2 c2] w fun e w' => e = .returned (.tuple #[.string lnS, .int .i64 0]) ∧ Below w.heap.size w w' := by
  have := show_any8 cmX A A2 c c2 B w ha hB hz hT
  rw [cmX_is] at this
  exact this
theorem sameX_any (A A2 : Option Addr) (c c2 B : Nat) (w : World) (ha : CmAt w B cmX A c A2 c2) (hB : B ≤ w.heap.size) :
    Calls Tryz.prog 13 #[cmV cmX A c A2 c2, cmV cmX A c A2 c2] w fun e w' => e = .returned (.bool true) ∧ Below w.heap.size w w' := by
  have := sameC_any cmX cmX A A2 A A2 c c2 c c2 B w ha ha hB
  rw [cmX_same] at this
  exact this
set_option maxHeartbeats 4000000 in
set_option maxRecDepth 100000 in
theorem awake08_any (w : World) (hT : Lib.TabIs Tryz.prog w "internal/strconv.uint64pow10" .u64 Lib.pow10Tab) :
    Calls Tryz.prog 8 #[] w fun e w' => e = .returned (.bool true) ∧ Below w.heap.size w w' := by
  have pA := Lib.hid pA_any
  have pB := Lib.hid pB_any
  have pC := Lib.hid pC_any
  unfold lnA at pA
  unfold lnB at pB
  unfold lnC at pC
  have HT := Lib.hid hT
  have hc0 := Lib.hid chk0_any
  unfold cmV cm0 sh0 at hc0
  dsimp only [List.length_nil] at hc0
  clear hT
  go_enter Tryz.func8, Tryz.ntmps8
  go_wp2_with (fail)
  refine (pA.out _).mono ?_; rintro e w1 ⟨A, c, A2, c2, rfl, ha, hz, hb1⟩
  dsimp only
  rw [cmV_is]
  go_upto_region 2 with (refine wpList_store_row rfl 27 _ _ rfl w1.heap.size (cmA cmX A c A2 c2) rfl rfl 27 _ (heap_alloc_new _ _) (by kernel_rfl) rfl (cmA_one _ _ _ _ _) ?_; rw [World.setRow_alloc_new])
  have e0 : (cmA cmX A c A2 c2)[0]? = some (.int .i64 1) := rfl
  have e3 : (cmA cmX A c A2 c2)[3]? = some (.string ⟨#[117]⟩) := rfl
  obtain ⟨W1, hW1⟩ : ∃ W1, Hid (w1.alloc (.cells (cmA cmX A c A2 c2) 27) = W1) := ⟨_, Lib.hid rfl⟩
  have b1 : Below w1.heap.size w1 W1 := by rw [← hW1.out]; exact (Below.refl _ _).alloc (Nat.le_refl _) _
  have r1 : W1.heap[w1.heap.size]? = some (.cells (cmA cmX A c A2 c2) 27 (0, 0)) := by rw [← hW1.out]; exact heap_alloc_new _ _
  have B1 := Lib.hid (hb1.trans (b1.mono hb1.size))
  have HA1 := Lib.hid (ha.below b1)
  have hsz1 := b1.size
  have hsh := Lib.hid (showX_any A A2 c c2 w1.heap.size W1 HA1.out hsz1 hz (tab_below HT.out B1.out))
  have hsm := Lib.hid (fun v (hv : Below W1.heap.size W1 v) => sameX_any A A2 c c2 w1.heap.size v (HA1.out.below (hv.mono hsz1)) (Nat.le_trans hsz1 hv.size))
  rw [cmV_is] at hsh hsm
  have HS := Lib.hid (cmA_size cmX A c A2 c2)
  unfold lnS at hsh
  obtain ⟨cs, hcs⟩ : ∃ q, cmA cmX A c A2 c2 = q := ⟨_, rfl⟩
  obtain ⟨b, hbn⟩ : ∃ q, Hid (w1.heap.size = q) := ⟨_, Lib.hid rfl⟩
  rw [hcs] at e0 e3 r1 hsh hsm HS hW1 ⊢
  rw [hW1.out]
  rw [hbn.out] at r1 hsz1 ⊢
  have R1 := Lib.hid r1
  have hbl := lt_of_block r1
  clear hcs ha hz hb1 b1 r1
  go_wp2_with (first
    | (refine wpList_load_row rfl 27 _ rfl b rfl 27 _ (0, 0) _ R1.out Tryz.underlying27 rfl (info27 HS.out) ?_))
  refine hsh.out.mono ?_; rintro e w2 ⟨rfl, hb2⟩
  have B2 := Lib.hid hb2
  clear hb2 hsh
  go_wp2_with (fail)
  refine (pB.out _).mono ?_; rintro e w3 ⟨A3, c3, A4, c4, rfl, ha3, hz3, hb3⟩
  dsimp only
  rw [cmV_is]
  have B3 := Lib.hid (B2.out.trans (hb3.mono B2.out.size))
  clear hb3 hz3 ha3
  go_upto_region 4 with (refine wpList_store_row rfl 27 _ _ rfl w3.heap.size (cmA cm0 A3 c3 A4 c4) rfl rfl 27 _ (heap_alloc_new _ _) (by kernel_rfl) rfl (cmA_one _ _ _ _ _) ?_; rw [World.setRow_alloc_new])
  obtain ⟨W3, hW3⟩ : ∃ W1, Hid (w3.alloc (.cells (cmA cm0 A3 c3 A4 c4) 27) = W1) := ⟨_, Lib.hid rfl⟩
  have B4 : Hid (Below W1.heap.size W1 W3) := by rw [← hW3.out]; exact B3.out.alloc B3.out.size _
  obtain ⟨ds, hds⟩ : ∃ q, cmA cm0 A3 c3 A4 c4 = q := ⟨_, rfl⟩
  rw [hds] at hW3 ⊢
  rw [hW3.out]
  clear hds
  go_wp2_with (fail)
  refine (pC.out _).mono ?_; rintro e w5 ⟨A5, c5, A6, c6, rfl, ha5, hz5, hb5⟩
  dsimp only
  rw [cmV_is]
  have B5 := Lib.hid (B4.out.trans (hb5.mono B4.out.size))
  clear hb5 hz5 ha5
  go_upto_region 5 with (refine wpList_store_row rfl 27 _ _ rfl w5.heap.size (cmA cm0 A5 c5 A6 c6) rfl rfl 27 _ (heap_alloc_new _ _) (by kernel_rfl) rfl (cmA_one _ _ _ _ _) ?_; rw [World.setRow_alloc_new])
  obtain ⟨W5, hW5⟩ : ∃ W1, Hid (w5.alloc (.cells (cmA cm0 A5 c5 A6 c6) 27) = W1) := ⟨_, Lib.hid rfl⟩
  have B6 : Hid (Below W1.heap.size W1 W5) := by rw [← hW5.out]; exact B5.out.alloc B5.out.size _
  obtain ⟨ds5, hds5⟩ : ∃ q, cmA cm0 A5 c5 A6 c6 = q := ⟨_, rfl⟩
  rw [hds5] at hW5 ⊢
  rw [hW5.out]
  clear hds5
  have r5 := (B6.out.block b hbl).trans R1.out
  have x0 : W5.cell? ⟨b, 0, none⟩ = some (.int .i64 1) := (cell_of_row W5 b 0 _ _ _ r5).trans e0
  have x3 : W5.cell? ⟨b, 3, none⟩ = some (.string ⟨#[117]⟩) := (cell_of_row W5 b 3 _ _ _ r5).trans e3
  clear r5
  go_wp2_with (fail)
  refine (hc0.out _).mono ?_; rintro e w6 ⟨rfl, hb6⟩
  have B7 := Lib.hid (B6.out.trans (hb6.mono B6.out.size))
  have R7 := Lib.hid ((B7.out.block b hbl).trans R1.out)
  clear hb6 x0 x3
  go_wp2_with (refine wpList_load_row_g (by kernel_rfl) 27 _ rfl b rfl 27 _ (0, 0) _ R7.out Tryz.underlying27 rfl (info27 HS.out) ?_)
  refine (hsm.out _ B7.out).mono ?_; rintro e w7 ⟨rfl, hb7⟩
  have B8 := Lib.hid (B1.out.trans ((B7.out.trans (hb7.mono B7.out.size)).mono B1.out.size))
  clear hb7
  go_wp2
  go_ret
  exact ⟨rfl, B8.out⟩
end Go.Proofs.YtjmhaoplablmnaaGreatDoor
