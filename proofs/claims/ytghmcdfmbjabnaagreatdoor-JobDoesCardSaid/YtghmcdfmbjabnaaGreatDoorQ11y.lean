/- Layer 8: what of a command an alteration may have, walked (printed by a program of my own). Layer 8: Check walked at alterations (printed by a program of my own). shape.Walls, walked. Layer 14: what Alter asks of a job and a command, walked (printed by a program of my own). Layer 14: what Alter does to a job, walked (printed by a program of my own). Layer 14: Alter walked (printed by a program of my own). Layer 14: Charge walked (printed by a program of my own). Layer 14: Do walked (printed by a program of my own). -/
import Derived.Test.YtghmcdfmbjabnaaGreatDoorQ1t
import Derived.Test.YtghmcdfmbjabnaaGreatDoorQ1y
import Derived.Test.YtghmcdfmbjabnaaGreatDoorQ7t
import Derived.Test.YtghmcdfmbjabnaaGreatDoorQ7y
import Derived.Test.YtghmcdfmbjabnaaGreatDoorQ9t
import Derived.Test.YtghmcdfmbjabnaaGreatDoorQ9y
import Derived.Test.YtghmcdfmbjabnaaGreatDoorQ10y
import Derived.Deep.MidRow
namespace Go.Proofs.YtghmcdfmbjabnaaGreatDoor
set_option linter.unusedVariables false
open Go.RowKit
set_option linter.unusedSimpArgs false in
set_option maxHeartbeats 8000000 in
set_option maxRecDepth 100000 in
theorem bare_alter (x : Cm) (A A2 : Option Addr) (c c2 : Nat) (w : World) (hk : x.kind = 5) :
    Calls Tryz.prog 152 #[cmV x A c A2 c2] w fun e w' => e = .returned (cmV (bareC x) none 0 none 0) ∧ Below w.heap.size w w' := by
  unfold bareC
  rw [cmV_is x]
  rw [if_neg (by omega), if_neg (by omega), if_pos hk]
  have e0 : (cmA x A c A2 c2)[0]? = some (.int .i64 5) := by rw [← hk]; rfl
  have e1 : (cmA x A c A2 c2)[1]? = some (.int .i64 x.job) := rfl
  have e10 : (cmA x A c A2 c2)[10]? = some (.int .i64 x.prio) := rfl
  have e11 : (cmA x A c A2 c2)[11]? = some (.bool x.hasPrio) := rfl
  have e12 : (cmA x A c A2 c2)[12]? = some (.int .i64 x.time) := rfl
  have e13 : (cmA x A c A2 c2)[13]? = some (.bool x.hasTime) := rfl
  obtain ⟨cs, hcs⟩ : ∃ cs, cmA x A c A2 c2 = cs := ⟨_, rfl⟩
  rw [hcs] at e0 e1 e10 e11 e12 e13 ⊢
  clear hcs hk
  unfold cmV sh0
  dsimp only [List.length_nil]
  obtain ⟨n, hn⟩ : ∃ n, x.shape.alts.length = n := ⟨_, rfl⟩
  obtain ⟨m, hm⟩ : ∃ n, x.after.length = n := ⟨_, rfl⟩
  clear hn hm
  obtain ⟨W1, hW1⟩ : ∃ W1, Hid ((((w.alloc (.cells cs 30)).alloc (.cells #[.int .i64 0, .int .i64 0, .string ⟨#[]⟩, .string ⟨#[]⟩, .string ⟨#[]⟩, .int .i64 0, .slice none 0 0, .int .i64 0, .int .i64 0, .int .i64 0, .int .i64 0, .bool false, .int .i64 0, .bool false, .slice none 0 0, .int .i64 0, .int .i64 0, .int .i64 0] 30)).alloc (.cells #[.int .i64 5, .int .i64 0, .string ⟨#[]⟩, .string ⟨#[]⟩, .string ⟨#[]⟩, .int .i64 0, .slice none 0 0, .int .i64 0, .int .i64 0, .int .i64 0, .int .i64 0, .bool false, .int .i64 0, .bool false, .slice none 0 0, .int .i64 0, .int .i64 0, .int .i64 0] 30)) = W1) := ⟨_, rfl⟩
  have hb0 := three_below w (.cells cs 30) (.cells #[.int .i64 0, .int .i64 0, .string ⟨#[]⟩, .string ⟨#[]⟩, .string ⟨#[]⟩, .int .i64 0, .slice none 0 0, .int .i64 0, .int .i64 0, .int .i64 0, .int .i64 0, .bool false, .int .i64 0, .bool false, .slice none 0 0, .int .i64 0, .int .i64 0, .int .i64 0] 30) (.cells #[.int .i64 5, .int .i64 0, .string ⟨#[]⟩, .string ⟨#[]⟩, .string ⟨#[]⟩, .int .i64 0, .slice none 0 0, .int .i64 0, .int .i64 0, .int .i64 0, .int .i64 0, .bool false, .int .i64 0, .bool false, .slice none 0 0, .int .i64 0, .int .i64 0, .int .i64 0] 30)
  obtain ⟨h1, h2, h3⟩ := three_block w (.cells cs 30) (.cells #[.int .i64 0, .int .i64 0, .string ⟨#[]⟩, .string ⟨#[]⟩, .string ⟨#[]⟩, .int .i64 0, .slice none 0 0, .int .i64 0, .int .i64 0, .int .i64 0, .int .i64 0, .bool false, .int .i64 0, .bool false, .slice none 0 0, .int .i64 0, .int .i64 0, .int .i64 0] 30) (.cells #[.int .i64 5, .int .i64 0, .string ⟨#[]⟩, .string ⟨#[]⟩, .string ⟨#[]⟩, .int .i64 0, .slice none 0 0, .int .i64 0, .int .i64 0, .int .i64 0, .int .i64 0, .bool false, .int .i64 0, .bool false, .slice none 0 0, .int .i64 0, .int .i64 0, .int .i64 0] 30)
  rw [hW1.out] at hb0 h1 h2 h3
  have HB0 := Lib.hid hb0
  have H1 := Lib.hid h1
  have H2 := Lib.hid h2
  have H3 := Lib.hid h3
  have hs1 : w.heap.size + 1 + 1 < W1.heap.size := (Array.getElem?_eq_some_iff.1 h3).1
  have hf1 : ∀ j, W1.frozen? ⟨w.heap.size + 1 + 1, j, none⟩ = false := fun j => by simp [World.frozen?, H3.out]
  have x1 : W1.cell? ⟨w.heap.size, 1, none⟩ = some (.int .i64 x.job) := (cell_of_row W1 _ 1 _ _ _ H1.out).trans e1
  have x10 : W1.cell? ⟨w.heap.size, 10, none⟩ = some (.int .i64 x.prio) := (cell_of_row W1 _ 10 _ _ _ H1.out).trans e10
  have x11 : W1.cell? ⟨w.heap.size, 11, none⟩ = some (.bool x.hasPrio) := (cell_of_row W1 _ 11 _ _ _ H1.out).trans e11
  have x12 : W1.cell? ⟨w.heap.size, 12, none⟩ = some (.int .i64 x.time) := (cell_of_row W1 _ 12 _ _ _ H1.out).trans e12
  have x13 : W1.cell? ⟨w.heap.size, 13, none⟩ = some (.bool x.hasTime) := (cell_of_row W1 _ 13 _ _ _ H1.out).trans e13
  have o1 : W1.cell? ⟨w.heap.size + 1 + 1, 1, none⟩ = some (.int .i64 0) := cell_of_row W1 _ 1 _ _ _ H3.out
  have o10 : W1.cell? ⟨w.heap.size + 1 + 1, 10, none⟩ = some (.int .i64 0) := cell_of_row W1 _ 10 _ _ _ H3.out
  have o11 : W1.cell? ⟨w.heap.size + 1 + 1, 11, none⟩ = some (.bool false) := cell_of_row W1 _ 11 _ _ _ H3.out
  have o12 : W1.cell? ⟨w.heap.size + 1 + 1, 12, none⟩ = some (.int .i64 0) := cell_of_row W1 _ 12 _ _ _ H3.out
  have o13 : W1.cell? ⟨w.heap.size + 1 + 1, 13, none⟩ = some (.bool false) := cell_of_row W1 _ 13 _ _ _ H3.out
  obtain ⟨W2, hW2⟩ : ∃ v, Hid ((((((W1.setCell ⟨w.heap.size + 1 + 1, 1, none⟩ (.int .i64 x.job)).setCell ⟨w.heap.size + 1 + 1, 10, none⟩ (.int .i64 x.prio)).setCell ⟨w.heap.size + 1 + 1, 11, none⟩ (.bool x.hasPrio)).setCell ⟨w.heap.size + 1 + 1, 12, none⟩ (.int .i64 x.time)).setCell ⟨w.heap.size + 1 + 1, 13, none⟩ (.bool x.hasTime)).drew = v) := ⟨_, rfl⟩
  have O2 : Hid (W2.heap[w.heap.size + 1 + 1]? = some (.cells #[.int .i64 5, .int .i64 x.job, .string ⟨#[]⟩, .string ⟨#[]⟩, .string ⟨#[]⟩, .int .i64 0, .slice none 0 0, .int .i64 0, .int .i64 0, .int .i64 0, .int .i64 x.prio, .bool x.hasPrio, .int .i64 x.time, .bool x.hasTime, .slice none 0 0, .int .i64 0, .int .i64 0, .int .i64 0] 30 (0, 0))) := by
    show _ = _
    rw [← hW2.out, drew_heap]
    have h := (setCell_blk (k := 13) (a := .bool x.hasTime) (setCell_blk (k := 12) (a := .int .i64 x.time) (setCell_blk (k := 11) (a := .bool x.hasPrio) (setCell_blk (k := 10) (a := .int .i64 x.prio) (setCell_blk (k := 1) (a := .int .i64 x.job) H3.out)))))
    simp only [List.setIfInBounds_toArray, List.set_cons_succ, List.set_cons_zero] at h
    exact h
  have J2 : Hid (W2.heap[w.heap.size]? = some (.cells cs 30 (0, 0))) := by
    show _ = _
    rw [← hW2.out, drew_heap, Below.heap_setCell _ _ _ _ (by first | (simp; done) | (simp; omega)), Below.heap_setCell _ _ _ _ (by first | (simp; done) | (simp; omega)), Below.heap_setCell _ _ _ _ (by first | (simp; done) | (simp; omega)), Below.heap_setCell _ _ _ _ (by first | (simp; done) | (simp; omega)), Below.heap_setCell _ _ _ _ (by first | (simp; done) | (simp; omega))]
    exact H1.out
  have R2 : Hid (W2.heap[w.heap.size + 1]? = some (.cells #[.int .i64 0, .int .i64 0, .string ⟨#[]⟩, .string ⟨#[]⟩, .string ⟨#[]⟩, .int .i64 0, .slice none 0 0, .int .i64 0, .int .i64 0, .int .i64 0, .int .i64 0, .bool false, .int .i64 0, .bool false, .slice none 0 0, .int .i64 0, .int .i64 0, .int .i64 0] 30 (0, 0))) := by
    show _ = _
    rw [← hW2.out, drew_heap, Below.heap_setCell _ _ _ _ (by first | (simp; done) | (simp; omega)), Below.heap_setCell _ _ _ _ (by first | (simp; done) | (simp; omega)), Below.heap_setCell _ _ _ _ (by first | (simp; done) | (simp; omega)), Below.heap_setCell _ _ _ _ (by first | (simp; done) | (simp; omega)), Below.heap_setCell _ _ _ _ (by first | (simp; done) | (simp; omega))]
    exact H2.out
  have B2 : Hid (Below w.heap.size w W2) := by
    show Below _ _ _
    rw [← hW2.out]
    exact below_drew (Below.setCell (Below.setCell (Below.setCell (Below.setCell (Below.setCell HB0.out (p := ⟨w.heap.size + 1 + 1, 1, none⟩) (show w.heap.size ≤ w.heap.size + 1 + 1 by omega) (.int .i64 x.job)) (p := ⟨w.heap.size + 1 + 1, 10, none⟩) (show w.heap.size ≤ w.heap.size + 1 + 1 by omega) (.int .i64 x.prio)) (p := ⟨w.heap.size + 1 + 1, 11, none⟩) (show w.heap.size ≤ w.heap.size + 1 + 1 by omega) (.bool x.hasPrio)) (p := ⟨w.heap.size + 1 + 1, 12, none⟩) (show w.heap.size ≤ w.heap.size + 1 + 1 by omega) (.int .i64 x.time)) (p := ⟨w.heap.size + 1 + 1, 13, none⟩) (show w.heap.size ≤ w.heap.size + 1 + 1 by omega) (.bool x.hasTime))
  have x0 : W1.cell? ⟨w.heap.size, 0, none⟩ = some (.int .i64 5) := (cell_of_row W1 _ 0 _ _ _ h1).trans e0
  have HROW : Hid ((((w.alloc (.cells cs 30)).alloc (.cells #[.int .i64 0, .int .i64 0, .string ⟨#[]⟩, .string ⟨#[]⟩, .string ⟨#[]⟩, .int .i64 0, .slice none 0 0, .int .i64 0, .int .i64 0, .int .i64 0, .int .i64 0, .bool false, .int .i64 0, .bool false, .slice none 0 0, .int .i64 0, .int .i64 0, .int .i64 0] 30)).alloc (.cells #[.int .i64 0, .int .i64 0, .string ⟨#[]⟩, .string ⟨#[]⟩, .string ⟨#[]⟩, .int .i64 0, .slice none 0 0, .int .i64 0, .int .i64 0, .int .i64 0, .int .i64 0, .bool false, .int .i64 0, .bool false, .slice none 0 0, .int .i64 0, .int .i64 0, .int .i64 0] 30)).setRow (w.heap.size + 1 + 1) #[.int .i64 5, .int .i64 0, .string ⟨#[]⟩, .string ⟨#[]⟩, .string ⟨#[]⟩, .int .i64 0, .slice none 0 0, .int .i64 0, .int .i64 0, .int .i64 0, .int .i64 0, .bool false, .int .i64 0, .bool false, .slice none 0 0, .int .i64 0, .int .i64 0, .int .i64 0] = W1) := by
    show _ = _
    have hrow := World.setRow_alloc_new ((w.alloc (.cells cs 30)).alloc (.cells #[.int .i64 0, .int .i64 0, .string ⟨#[]⟩, .string ⟨#[]⟩, .string ⟨#[]⟩, .int .i64 0, .slice none 0 0, .int .i64 0, .int .i64 0, .int .i64 0, .int .i64 0, .bool false, .int .i64 0, .bool false, .slice none 0 0, .int .i64 0, .int .i64 0, .int .i64 0] 30)) #[.int .i64 0, .int .i64 0, .string ⟨#[]⟩, .string ⟨#[]⟩, .string ⟨#[]⟩, .int .i64 0, .slice none 0 0, .int .i64 0, .int .i64 0, .int .i64 0, .int .i64 0, .bool false, .int .i64 0, .bool false, .slice none 0 0, .int .i64 0, .int .i64 0, .int .i64 0] #[.int .i64 5, .int .i64 0, .string ⟨#[]⟩, .string ⟨#[]⟩, .string ⟨#[]⟩, .int .i64 0, .slice none 0 0, .int .i64 0, .int .i64 0, .int .i64 0, .int .i64 0, .bool false, .int .i64 0, .bool false, .slice none 0 0, .int .i64 0, .int .i64 0, .int .i64 0] 30
    rw [World.size_alloc, World.size_alloc] at hrow
    rw [hrow, hW1.out]
  clear h1 h2 h3 hb0
  go_enter Tryz.func152, Tryz.ntmps152
  go_wp2_with (refine wpList_store_row rfl 30 _ _ rfl (w.heap.size + 1 + 1) _ rfl rfl 30 _ (three_block w _ _ _).2.2 (by kernel_rfl) rfl (by rw [List.all_toArray]; rfl) ?_; rw [HROW.out])
  go_region
  rw [hW2.out]
  clear hf1 x1 o1 x10 o10 x11 o11 x12 o12 x13 o13
  have hs2 : w.heap.size + 1 + 1 < W2.heap.size := (Array.getElem?_eq_some_iff.1 O2.out).1
  go_wp2_with (first
    | (refine wpList_load_row rfl 30 _ rfl (w.heap.size + 1 + 1) rfl 30 _ (0, 0) _ O2.out Tryz.underlying30 rfl (by kernel_rfl) ?_)
    | (refine wpList_store_row rfl 30 _ _ rfl (w.heap.size + 1) _ rfl rfl 30 _ R2.out (by kernel_rfl) rfl (by rw [List.all_toArray]; rfl) ?_))
  (try simp only [Exit.inBlock, Exit.then])
  refine bodyPost_ret (results_cell_row rfl _ _ (w.heap.size + 1) _ _ _ _ rfl (setRow_heap _ _ _ _ _ _ R2.out) Tryz.underlying30 rfl (by kernel_rfl)) rfl ?_
  exact ⟨rfl, below_row B2.out (by omega) _⟩
theorem bare_at5 {w : World} {B : Nat} {x : Cm} (hk : x.kind = 5) : CmAt w B (bareC x) none 0 none 0 := by
  unfold bareC
  rw [if_neg (by omega), if_neg (by omega), if_pos hk]
  exact ⟨Reads.none_, Reads.none_, Nat.zero_le _, Nat.zero_le _, Nat.le_refl _, Nat.le_refl _⟩
set_option maxHeartbeats 8000000 in
set_option maxRecDepth 100000 in
theorem chk_alter_any (x : Cm) (A A2 : Option Addr) (c c2 B : Nat) (w : World) (hk : x.kind = 5) (ha : CmAt w B x A c A2 c2) (hB : B ≤ w.heap.size) (hz : CmSz x) :
    Calls Tryz.prog 91 #[cmV x A c A2 c2] w fun e w' => e = .returned (.int .i64 (cmdE x)) ∧ Below w.heap.size w w' := by
  have hf := Lib.hid (fun v (hv : Below w.heap.size w v) => fits_any x A A2 c c2 B v (ha.below (hv.mono hB)) (Nat.le_trans hB hv.size) hz)
  have hbr := Lib.hid (fun v => bare_alter x A A2 c c2 v hk)
  have hsm := Lib.hid (fun v (hv : Below w.heap.size w v) => sameC_any x (bareC x) A A2 none none c c2 0 0 B v (ha.below (hv.mono hB)) (bare_at5 hk) (Nat.le_trans hB hv.size))
  have HE : Hid (cmdE x = if (decide (x.shape.alts.length ≤ 6) && (decide (x.after.length ≤ 4) && (fitB x && sameC x (bareC x)))) = true then 0 else 80) := rfl
  clear ha hB hz hk
  obtain ⟨R, hR⟩ : ∃ R, cmdE x = R := ⟨_, rfl⟩
  rw [hR] at HE ⊢
  obtain ⟨z1, hz1⟩ : ∃ q, fitB x = q := ⟨_, rfl⟩
  rw [hz1] at hf HE
  obtain ⟨z2, hz2⟩ : ∃ q, sameC x (bareC x) = q := ⟨_, rfl⟩
  rw [hz2] at hsm HE
  clear hR hz1 hz2
  rw [cmV_is x] at hf hbr hsm ⊢
  obtain ⟨V, hV⟩ : ∃ V, cmV (bareC x) none 0 none 0 = V := ⟨_, rfl⟩
  rw [hV] at hbr hsm
  have e6 : (cmA x A c A2 c2)[6]? = some (.slice A x.shape.alts.length c) := rfl
  have e14 : (cmA x A c A2 c2)[14]? = some (.slice A2 x.after.length c2) := rfl
  have HS := Lib.hid (cmA_size x A c A2 c2)
  obtain ⟨cs, hcs⟩ : ∃ cs, cmA x A c A2 c2 = cs := ⟨_, rfl⟩
  rw [hcs] at e6 e14 HS hf hbr hsm ⊢
  obtain ⟨n, hn⟩ : ∃ n, x.shape.alts.length = n := ⟨_, rfl⟩
  obtain ⟨m, hm⟩ : ∃ n, x.after.length = n := ⟨_, rfl⟩
  rw [hn] at e6 HE
  rw [hm] at e14 HE
  clear hcs hn hm hV
  have HBX : Hid (Below w.heap.size w (w.alloc (.cells cs 30))) := (Below.refl _ _).alloc (Nat.le_refl _) _
  obtain ⟨W0, hW0⟩ : ∃ W0, Hid (w.alloc (.cells cs 30) = W0) := ⟨_, rfl⟩
  have hcx : W0.heap[w.heap.size]? = some (.cells cs 30 (0, 0)) := by
    rw [← hW0.out]
    exact heap_alloc_new w _
  rw [hW0.out] at HBX
  have hs0 : w.heap.size < W0.heap.size := (Array.getElem?_eq_some_iff.1 hcx).1
  have x6 : W0.cell? ⟨w.heap.size, 6, none⟩ = some (.slice A n c) := (cell_of_row W0 _ 6 _ _ _ hcx).trans e6
  have x14 : W0.cell? ⟨w.heap.size, 14, none⟩ = some (.slice A2 m c2) := (cell_of_row W0 _ 14 _ _ _ hcx).trans e14
  have HCX := Lib.hid hcx
  clear hcx
  by_cases h6 : n ≤ 6
  case neg =>
    have t1 : decide ((6 : Int) < (n : Int)) = true := by simp; omega
    have t1' : decide (6 < n) = true := by simp; omega
    rw [decide_eq_false h6] at HE
    clear h6
    have HR : Hid (R = 80) := by show _ = _; rw [HE.out]; rfl
    clear HE
    go_enter Tryz.func91, Tryz.ntmps91
    go_wp2
    rw [hW0.out]
    refine wp_region_later (by kernel_rfl) (by kernel_rfl) ?_
    have hl_ := later_cell (W0)
    try simp only [Act.put]
    repeat (first | (go_big_quiet_want; refine quiet_load_row 30 _ rfl (w.heap.size) rfl 30 _ (0, 0) _ (later_row HCX.out) Tryz.underlying30 rfl (info27 HS.out) ?_; go_simp; go_big_quiet_on) | go_big_quiet_step (((first | (go_at_call 150; exact later_of (hf.out _ (HBX.out.trans ((Later.below _).mono (by omega))))) | (go_at_call 152; exact later_of (hbr.out _)) | (go_at_call 151; exact later_of (hsm.out _ (HBX.out.trans ((Later.below _).mono (by omega)))))))) | quiet_step (((first | (go_at_call 150; exact later_of (hf.out _ (HBX.out.trans ((Later.below _).mono (by omega))))) | (go_at_call 152; exact later_of (hbr.out _)) | (go_at_call 151; exact later_of (hsm.out _ (HBX.out.trans ((Later.below _).mono (by omega)))))))))
    refine wpQuiet_nil ?_
    intro w9 hx_
    obtain ⟨⟨w_, hb9⟩, e_⟩ := hx_
    have e2_ : w9 = w_ := e_
    clear e_
    subst e2_
    clear hl_
    go_wp2
    go_ret
    exact ⟨by rw [HR.out]; rfl, HBX.out.trans (hb9.mono (by omega))⟩
  have t1 : decide ((6 : Int) < (n : Int)) = false := by simp; omega
  have t1' : decide (6 < n) = false := by simp; omega
  rw [decide_eq_true h6] at HE
  clear h6
  by_cases h4 : m ≤ 4
  case neg =>
    have t2 : decide ((4 : Int) < (m : Int)) = true := by simp; omega
    have t2' : decide (4 < m) = true := by simp; omega
    rw [decide_eq_false h4] at HE
    clear h4
    have HR : Hid (R = 80) := by show _ = _; rw [HE.out]; rfl
    clear HE
    go_enter Tryz.func91, Tryz.ntmps91
    go_wp2
    rw [hW0.out]
    refine wp_region_later (by kernel_rfl) (by kernel_rfl) ?_
    have hl_ := later_cell (W0)
    try simp only [Act.put]
    repeat (first | (go_big_quiet_want; refine quiet_load_row 30 _ rfl (w.heap.size) rfl 30 _ (0, 0) _ (later_row HCX.out) Tryz.underlying30 rfl (info27 HS.out) ?_; go_simp; go_big_quiet_on) | go_big_quiet_step (((first | (go_at_call 150; exact later_of (hf.out _ (HBX.out.trans ((Later.below _).mono (by omega))))) | (go_at_call 152; exact later_of (hbr.out _)) | (go_at_call 151; exact later_of (hsm.out _ (HBX.out.trans ((Later.below _).mono (by omega)))))))) | quiet_step (((first | (go_at_call 150; exact later_of (hf.out _ (HBX.out.trans ((Later.below _).mono (by omega))))) | (go_at_call 152; exact later_of (hbr.out _)) | (go_at_call 151; exact later_of (hsm.out _ (HBX.out.trans ((Later.below _).mono (by omega)))))))))
    refine wpQuiet_nil ?_
    intro w9 hx_
    obtain ⟨⟨w_, hb9⟩, e_⟩ := hx_
    have e2_ : w9 = w_ := e_
    clear e_
    subst e2_
    clear hl_
    go_wp2
    go_ret
    exact ⟨by rw [HR.out]; rfl, HBX.out.trans (hb9.mono (by omega))⟩
  have t2 : decide ((4 : Int) < (m : Int)) = false := by simp; omega
  have t2' : decide (4 < m) = false := by simp; omega
  rw [decide_eq_true h4] at HE
  clear h4
  cases z1
  case false =>
    have HR : Hid (R = 80) := by show _ = _; rw [HE.out]; rfl
    clear HE
    go_enter Tryz.func91, Tryz.ntmps91
    go_wp2
    rw [hW0.out]
    refine wp_region_later (by kernel_rfl) (by kernel_rfl) ?_
    have hl_ := later_cell (W0)
    try simp only [Act.put]
    repeat (first | (go_big_quiet_want; refine quiet_load_row 30 _ rfl (w.heap.size) rfl 30 _ (0, 0) _ (later_row HCX.out) Tryz.underlying30 rfl (info27 HS.out) ?_; go_simp; go_big_quiet_on) | go_big_quiet_step (((first | (go_at_call 150; exact later_of (hf.out _ (HBX.out.trans ((Later.below _).mono (by omega))))) | (go_at_call 152; exact later_of (hbr.out _)) | (go_at_call 151; exact later_of (hsm.out _ (HBX.out.trans ((Later.below _).mono (by omega)))))))) | quiet_step (((first | (go_at_call 150; exact later_of (hf.out _ (HBX.out.trans ((Later.below _).mono (by omega))))) | (go_at_call 152; exact later_of (hbr.out _)) | (go_at_call 151; exact later_of (hsm.out _ (HBX.out.trans ((Later.below _).mono (by omega)))))))))
    refine wpQuiet_nil ?_
    intro w9 hx_
    obtain ⟨⟨w_, hb9⟩, e_⟩ := hx_
    have e2_ : w9 = w_ := e_
    clear e_
    subst e2_
    clear hl_
    go_wp2
    go_ret
    exact ⟨by rw [HR.out]; rfl, HBX.out.trans (hb9.mono (by omega))⟩
  cases z2
  case false =>
    have HR : Hid (R = 80) := by show _ = _; rw [HE.out]; rfl
    clear HE
    go_enter Tryz.func91, Tryz.ntmps91
    go_wp2
    rw [hW0.out]
    refine wp_region_later (by kernel_rfl) (by kernel_rfl) ?_
    have hl_ := later_cell (W0)
    try simp only [Act.put]
    repeat (first | (go_big_quiet_want; refine quiet_load_row 30 _ rfl (w.heap.size) rfl 30 _ (0, 0) _ (later_row HCX.out) Tryz.underlying30 rfl (info27 HS.out) ?_; go_simp; go_big_quiet_on) | go_big_quiet_step (((first | (go_at_call 150; exact later_of (hf.out _ (HBX.out.trans ((Later.below _).mono (by omega))))) | (go_at_call 152; exact later_of (hbr.out _)) | (go_at_call 151; exact later_of (hsm.out _ (HBX.out.trans ((Later.below _).mono (by omega)))))))) | quiet_step (((first | (go_at_call 150; exact later_of (hf.out _ (HBX.out.trans ((Later.below _).mono (by omega))))) | (go_at_call 152; exact later_of (hbr.out _)) | (go_at_call 151; exact later_of (hsm.out _ (HBX.out.trans ((Later.below _).mono (by omega)))))))))
    refine wpQuiet_nil ?_
    intro w9 hx_
    obtain ⟨⟨w_, hb9⟩, e_⟩ := hx_
    have e2_ : w9 = w_ := e_
    clear e_
    subst e2_
    clear hl_
    go_wp2
    go_ret
    exact ⟨by rw [HR.out]; rfl, HBX.out.trans (hb9.mono (by omega))⟩
  have HR : Hid (R = 0) := by show _ = _; rw [HE.out]; rfl
  clear HE
  go_enter Tryz.func91, Tryz.ntmps91
  go_wp2
  rw [hW0.out]
  refine wp_region_later (by kernel_rfl) (by kernel_rfl) ?_
  have hl_ := later_cell (W0)
  try simp only [Act.put]
  repeat (first | (go_big_quiet_want; refine quiet_load_row 30 _ rfl (w.heap.size) rfl 30 _ (0, 0) _ (later_row HCX.out) Tryz.underlying30 rfl (info27 HS.out) ?_; go_simp; go_big_quiet_on) | go_big_quiet_step (((first | (go_at_call 150; exact later_of (hf.out _ (HBX.out.trans ((Later.below _).mono (by omega))))) | (go_at_call 152; exact later_of (hbr.out _)) | (go_at_call 151; exact later_of (hsm.out _ (HBX.out.trans ((Later.below _).mono (by omega)))))))) | quiet_step (((first | (go_at_call 150; exact later_of (hf.out _ (HBX.out.trans ((Later.below _).mono (by omega))))) | (go_at_call 152; exact later_of (hbr.out _)) | (go_at_call 151; exact later_of (hsm.out _ (HBX.out.trans ((Later.below _).mono (by omega)))))))))
  refine wpQuiet_nil ?_
  intro w9 hx_
  obtain ⟨⟨w_, hb9⟩, e_⟩ := hx_
  have e2_ : w9 = w_ := e_
  clear e_
  subst e2_
  clear hl_
  go_wp2
  go_ret
  exact ⟨by rw [HR.out]; rfl, HBX.out.trans (hb9.mono (by omega))⟩
def wallTo (k : Nat) (t : Int) (l : List Pr) : List Pr := (l.take k).map (fun a => (a.1, t)) ++ l.drop k
theorem wallTo_at {k : Nat} {t : Int} {l : List Pr} {u : Pr} (h : l[k]? = some u) : (wallTo k t l)[k]? = some u := by
  have hk := (List.getElem?_eq_some_iff.1 h).1
  unfold wallTo
  rw [List.getElem?_append_right (by simp; omega)]
  simp only [List.length_map, List.length_take, List.getElem?_drop]
  rw [show k + (k - min k l.length) = k by omega, h]
theorem wallTo_succ {k : Nat} {t : Int} {l : List Pr} {u : Pr} (h : l[k]? = some u) : wallTo (k + 1) t l = (wallTo k t l).set k (u.1, t) := by
  have hk := (List.getElem?_eq_some_iff.1 h).1
  unfold wallTo
  rw [List.set_append_right _ _ (by simp; omega), List.drop_eq_getElem_cons hk, show l[k] = u from (List.getElem?_eq_some_iff.1 h).2]
  simp only [List.length_map, List.length_take]
  rw [show k - min k l.length = 0 by omega, List.set_cons_zero, List.take_add_one, h]
  simp
theorem row_off {v : World} {b g k : Nat} {u : Value} {o : Obj} (h : v.heap[b]? = some o) (hn : b ≠ g) : (v.setCell ⟨g, k, none⟩ u).heap[b]? = some o := (Below.heap_setCell _ _ _ _ hn).trans h
set_option maxHeartbeats 2000000 in
set_option maxRecDepth 100000 in
theorem walls_any (kind mn mx wall t : Int) (l : List Pr) (A : Option Addr) (c B : Nat) (w : World) (hr : Reads w B 2 A l.length (recs prC l)) (hB : B ≤ w.heap.size) (hn : l.length ≤ 100000) :
    Calls Tryz.prog 124 #[.agg #[.int .i64 kind, .slice A l.length c, .int .i64 mn, .int .i64 mx, .int .i64 wall], .int .i64 t] w fun e w' =>
      ∃ A2 c2, e = .returned (.agg #[.int .i64 kind, .slice A2 l.length c2, .int .i64 mn, .int .i64 mx, .int .i64 (if kind = 3 then t else wall)]) ∧ Owns w' w.heap.size 103 2 (.slice A2 l.length c2) l.length (recs prC (l.map fun a => (a.1, t))) ∧ Below w.heap.size w w' := by
  obtain ⟨X, hX⟩ : ∃ X, Hid ((if kind = 3 then t else wall) = X) := ⟨_, rfl⟩
  rw [hX.out]
  obtain ⟨n, hln⟩ : ∃ n, Hid (l.length = n) := ⟨_, rfl⟩
  rw [hln.out] at hr hn ⊢
  obtain ⟨W0, hW⟩ : ∃ W0, Hid (((w.alloc (.cells #[.int .i64 kind, .slice A n c, .int .i64 mn, .int .i64 mx, .int .i64 wall] 24)).alloc (.cells #[.int .i64 0, .slice none 0 0, .int .i64 0, .int .i64 0, .int .i64 0] 24)) = W0) := ⟨_, rfl⟩
  have b0 : Below w.heap.size w ((w.alloc (.cells #[.int .i64 kind, .slice A n c, .int .i64 mn, .int .i64 mx, .int .i64 wall] 24)).alloc (.cells #[.int .i64 0, .slice none 0 0, .int .i64 0, .int .i64 0, .int .i64 0] 24)) := allocs_below [.cells #[.int .i64 kind, .slice A n c, .int .i64 mn, .int .i64 mx, .int .i64 wall] 24, .cells #[.int .i64 0, .slice none 0 0, .int .i64 0, .int .i64 0, .int .i64 0] 24] w
  have z0 : ((w.alloc (.cells #[.int .i64 kind, .slice A n c, .int .i64 mn, .int .i64 mx, .int .i64 wall] 24)).alloc (.cells #[.int .i64 0, .slice none 0 0, .int .i64 0, .int .i64 0, .int .i64 0] 24)).heap.size = w.heap.size + 2 := allocs_size [.cells #[.int .i64 kind, .slice A n c, .int .i64 mn, .int .i64 mx, .int .i64 wall] 24, .cells #[.int .i64 0, .slice none 0 0, .int .i64 0, .int .i64 0, .int .i64 0] 24] w
  have s0 : ((w.alloc (.cells #[.int .i64 kind, .slice A n c, .int .i64 mn, .int .i64 mx, .int .i64 wall] 24)).alloc (.cells #[.int .i64 0, .slice none 0 0, .int .i64 0, .int .i64 0, .int .i64 0] 24)).heap[w.heap.size]? = some (.cells #[.int .i64 kind, .slice A n c, .int .i64 mn, .int .i64 mx, .int .i64 wall] 24) := allocs_at [.cells #[.int .i64 kind, .slice A n c, .int .i64 mn, .int .i64 mx, .int .i64 wall] 24, .cells #[.int .i64 0, .slice none 0 0, .int .i64 0, .int .i64 0, .int .i64 0] 24] w 0 _ rfl
  have r0 : ((w.alloc (.cells #[.int .i64 kind, .slice A n c, .int .i64 mn, .int .i64 mx, .int .i64 wall] 24)).alloc (.cells #[.int .i64 0, .slice none 0 0, .int .i64 0, .int .i64 0, .int .i64 0] 24)).heap[w.heap.size + 1]? = some (.cells #[.int .i64 0, .slice none 0 0, .int .i64 0, .int .i64 0, .int .i64 0] 24) := allocs_at [.cells #[.int .i64 kind, .slice A n c, .int .i64 mn, .int .i64 mx, .int .i64 wall] 24, .cells #[.int .i64 0, .slice none 0 0, .int .i64 0, .int .i64 0, .int .i64 0] 24] w 1 _ rfl
  rw [hW.out] at b0 z0 s0 r0
  have S0 := Lib.hid s0
  have R0 := Lib.hid r0
  have B0 := Lib.hid b0
  have hr1 := Lib.hid (hr.below (b0.mono hB))
  have c1 : W0.cell? ⟨w.heap.size, 1, none⟩ = some (.slice A n c) := cell_of_row W0 _ 1 _ _ _ s0
  have hs : w.heap.size + 1 < W0.heap.size := by omega
  have hBW : B ≤ W0.heap.size := by omega
  clear b0 s0 r0 hr hB
  have Z0 := Lib.hid z0
  clear z0
  go_enter Tryz.func124, Tryz.ntmps124
  go_wp2_with (go_at_call 153; rw [hW.out]; refine (cloneA_any A n c B l _ hr1.out hBW hn).mono ?_; rintro e w1 ⟨v, rfl, o1, hb1⟩; obtain ⟨A2, c2, rfl, hc2, _⟩ := o1.slice
               have s1 := (hb1.block w.heap.size (by omega)).trans S0.out
               have r1 := (hb1.block (w.heap.size + 1) (by omega)).trans R0.out
               have hz1 := hb1.size
               have B1 := Lib.hid (bt B0.out hb1)
               have hf1 : w1.frozen? ⟨w.heap.size, 1, none⟩ = false := by simp [World.frozen?, s1]
               have k1 : w1.cell? ⟨w.heap.size, 1, none⟩ = some (.slice A n c) := cell_of_row w1 _ 1 _ _ _ s1
               have S1 : Hid ((w1.setCell ⟨w.heap.size, 1, none⟩ (.slice A2 n c2)).heap[w.heap.size]? = some (.cells #[.int .i64 kind, .slice A2 n c2, .int .i64 mn, .int .i64 mx, .int .i64 wall] 24)) := setCell_blk (k := 1) s1
               have R1 := Lib.hid (row_off (k := 1) (u := .slice A2 n c2) r1 (show w.heap.size + 1 ≠ w.heap.size by omega))
               have O1 := Lib.hid (o1.setBelow (p := ⟨w.heap.size, 1, none⟩) (by show w.heap.size < W0.heap.size; omega) (.slice A2 n c2))
               have k2 : (w1.setCell ⟨w.heap.size, 1, none⟩ (.slice A2 n c2)).cell? ⟨w.heap.size, 1, none⟩ = some (.slice A2 n c2) := cell_of_row _ _ 1 _ _ _ S1.out
               clear s1 r1 o1 hb1)
  go_loopw [5, 13] (fun _ i wr => ∃ k : Nat, k ≤ n ∧ i = .int .i64 k ∧ Owns wr W0.heap.size 103 2 (.slice A2 n c2) n (recs prC (wallTo k t l)) ∧ Below w.heap.size w wr ∧ Hid (wr.heap[w.heap.size]? = some (.cells #[.int .i64 kind, .slice A2 n c2, .int .i64 mn, .int .i64 mx, .int .i64 wall] 24)) ∧ Hid (wr.heap[w.heap.size + 1]? = some (.cells #[.int .i64 0, .slice none 0 0, .int .i64 0, .int .i64 0, .int .i64 0] 24))) (fun _ i _ => n - (intOf i).toNat)
  case atStart => exact ⟨0, Nat.zero_le _, rfl, by simpa [wallTo] using O1.out, B1.out.setCell (Nat.le_refl _) _, S1, R1⟩
  case round =>
    obtain ⟨k, hk, rfl, o4, b4, S4, R4⟩ := hrel
    by_cases hlt : k < n
    · obtain ⟨u, hx⟩ : ∃ u, Hid (l[k]? = some u) := ⟨l[k]'(by have := hln.out; omega), List.getElem?_eq_getElem _⟩
      obtain ⟨g, c', e, hBg, hgl, _, _, hcell, hf⟩ := o4.at_ (by omega)
      have e1 : A2 = some ⟨g, 0, none⟩ ∧ c2 = c' := by simpa using e
      obtain ⟨rfl, rfl⟩ := e1
      clear e
      have q3 := hcell (k * 2 + 1) _ (by rw [recs_at prC_len (wallTo_at hx.out) (by omega)]; rfl)
      have hf3 := hf (k * 2 + 1)
      have k4 : wr.cell? ⟨w.heap.size, 1, none⟩ = some (.slice (some ⟨g, 0, none⟩) n c2) := cell_of_row wr _ 1 _ _ _ S4.out
      clear hf hcell
      go_wp2
      go_roundw
      case rel =>
        refine ⟨k + 1, by omega, by go_num, ?_, b4.setCell (show w.heap.size ≤ g by omega) _, Lib.hid (row_off S4.out (by omega)), Lib.hid (row_off R4.out (by omega))⟩
        have o5 := o4.stored (by omega) (k * 2 + 1) (.int .i64 t)
        rw [recs_set prC_len (wallTo_at hx.out) (by omega) (y := (u.1, t)) rfl, ← wallTo_succ hx.out] at o5
        exact o5
      case measure => simp [intOf]; omega
    · have HL : Hid (wallTo k t l = l.map (fun a => (a.1, t))) := by
        show _ = _
        have := hln.out
        unfold wallTo; rw [List.take_of_length_le (by omega), List.drop_eq_nil_of_le (by omega), List.append_nil]
      have k0 : wr.cell? ⟨w.heap.size, 0, none⟩ = some (.int .i64 kind) := cell_of_row wr _ 0 _ _ _ S4.out
      have k4 : wr.cell? ⟨w.heap.size, 4, none⟩ = some (.int .i64 wall) := cell_of_row wr _ 4 _ _ _ S4.out
      have hf4 : wr.frozen? ⟨w.heap.size, 4, none⟩ = false := by simp [World.frozen?, S4.out]
      have o5 := Lib.hid (o4.mono (show w.heap.size ≤ W0.heap.size by omega))
      have hlr : w.heap.size < wr.heap.size := (Array.getElem?_eq_some_iff.1 S4.out).1
      by_cases hk3 : kind = 3
      · have t3 : (kind == 3) = true := by simpa using hk3
        have hX1 : Hid (t = X) := by show _ = _; rw [← hX.out, if_pos hk3]
        have S5 : Hid ((wr.setCell ⟨w.heap.size, 4, none⟩ (.int .i64 t)).heap[w.heap.size]? = some (.cells #[.int .i64 kind, .slice A2 n c2, .int .i64 mn, .int .i64 mx, .int .i64 t] 24)) := setCell_blk (k := 4) S4.out
        have R5 := Lib.hid (row_off (k := 4) (u := .int .i64 t) R4.out (show w.heap.size + 1 ≠ w.heap.size by omega))
        clear hk3
        go_wp2_with (first
          | (refine wpList_load_row rfl 24 _ rfl (w.heap.size) rfl 24 _ (0, 0) _ S5.out Tryz.underlying24 rfl (by kernel_rfl) ?_)
          | (refine wpList_store_row rfl 24 _ _ rfl (w.heap.size + 1) _ rfl rfl 24 _ R5.out (by kernel_rfl) rfl (by rw [List.all_toArray]; rfl) ?_))
        (try simp only [Exit.inBlock, Exit.then])
        refine bodyPost_ret (results_cell_row rfl _ _ (w.heap.size + 1) _ _ _ _ rfl (setRow_heap _ _ _ _ _ _ R5.out) Tryz.underlying24 rfl (by kernel_rfl)) rfl ?_
        refine ⟨A2, c2, by rw [hX1.out], ?_, below_row (b4.setCell (Nat.le_refl _) _) (by omega) _⟩
        rw [← HL.out]
        refine Owns.mono (Owns.keep o4 (fun g hg hgW _ => ?_)) (show w.heap.size ≤ W0.heap.size by omega)
        rw [Go.setRow_other _ (w.heap.size + 1) g _ (by omega)]
        exact Below.heap_setCell _ _ _ _ (by show g ≠ w.heap.size; omega)
      · have t3 : (kind == 3) = false := by simpa using hk3
        have hX1 : Hid (wall = X) := by show _ = _; rw [← hX.out, if_neg hk3]
        have S5 := S4
        have R5 := R4
        clear hk3
        go_wp2_with (first
          | (refine wpList_load_row rfl 24 _ rfl (w.heap.size) rfl 24 _ (0, 0) _ S5.out Tryz.underlying24 rfl (by kernel_rfl) ?_)
          | (refine wpList_store_row rfl 24 _ _ rfl (w.heap.size + 1) _ rfl rfl 24 _ R5.out (by kernel_rfl) rfl (by rw [List.all_toArray]; rfl) ?_))
        (try simp only [Exit.inBlock, Exit.then])
        refine bodyPost_ret (results_cell_row rfl _ _ (w.heap.size + 1) _ _ _ _ rfl (setRow_heap _ _ _ _ _ _ R5.out) Tryz.underlying24 rfl (by kernel_rfl)) rfl ?_
        refine ⟨A2, c2, by rw [hX1.out], ?_, below_row b4 (by omega) _⟩
        rw [← HL.out]
        refine Owns.mono (Owns.keep o4 (fun g hg hgW _ => ?_)) (show w.heap.size ≤ W0.heap.size by omega)
        rw [Go.setRow_other _ (w.heap.size + 1) g _ (by omega)]
set_option linter.unusedSimpArgs false in
set_option maxHeartbeats 4000000 in
set_option maxRecDepth 100000 in
theorem alter_may (x : Jb) (A A2 : Option Addr) (c c2 : Nat) (y : Cm) (D D2 : Option Addr) (d d2 B H : Nat) (v : World) (hH : H < v.heap.size) (qH : v.heap[H]? = some (.cells (cmA y D d D2 d2) 30 (0, 0))) (hy : CmAt v B y D d D2 d2) (hB : B ≤ v.heap.size) (hz : CmSz y) :
    Calls Tryz.prog 122 #[jbV x A c A2 c2, .pointer (some ⟨H, 0, none⟩)] v fun e v' => e = .returned (.int .i64 (altM x y)) ∧ Below v.heap.size v v' := by
  have hck := fun (hk : y.kind = 5) => Lib.hid (fun w (hw : Below v.heap.size v w) => chk_alter_any y D D2 d d2 B w hk (hy.below (hw.mono hB)) (Nat.le_trans hB hw.size) hz)
  have HE : Hid (altM x y = if ((y.kind == 5) && (cmdE y == 0)) = true then whenE (x.state == 1) else 80) := rfl
  obtain ⟨R, hR⟩ : ∃ R, altM x y = R := ⟨_, rfl⟩
  rw [hR] at HE ⊢
  obtain ⟨z, hz1⟩ : ∃ q, cmdE y = q := ⟨_, rfl⟩
  rw [hz1] at hck HE
  clear hR hz1 hy hB hz
  rw [cmV_is] at hck
  rw [jbV_is]
  have e11 : (jbA x A c A2 c2)[11]? = some (.int .i64 x.state) := rfl
  have HS := Lib.hid (jbA_size x A c A2 c2)
  have H1 := Lib.hid (jbA_one x A c A2 c2)
  obtain ⟨cs, hcs⟩ : ∃ cs, Hid (jbA x A c A2 c2 = cs) := ⟨_, rfl⟩
  rw [hcs.out] at HS H1 e11 ⊢
  have d0 : (cmA y D d D2 d2)[0]? = some (.int .i64 y.kind) := rfl
  have DS := Lib.hid (cmA_size y D d D2 d2)
  obtain ⟨ds, hds⟩ : ∃ ds, Hid (cmA y D d D2 d2 = ds) := ⟨_, rfl⟩
  rw [hds.out] at qH d0 DS hck
  have k0 : v.cell? ⟨H, 0, none⟩ = some (.int .i64 y.kind) := (cell_of_row v _ 0 _ _ _ qH).trans d0
  obtain ⟨q, hq⟩ : ∃ q, (x.state == 1) = q := ⟨_, rfl⟩
  rw [hq] at HE
  have QH : Hid ((v.alloc (.cells cs 28)).heap[H]? = some (.cells ds 30 (0, 0))) := (Below.heap_alloc _ _ _ hH).trans qH
  clear qH
  cases t5 : y.kind == 5
  case false =>
    have HR : Hid (R = 80) := by show _ = _; rw [HE.out, t5]; rfl
    have t5' := bne_of_false t5
    clear HE hck
    go_enter Tryz.func122, Tryz.ntmps122
    go_wp2_with (fail)
    go_ret
    exact ⟨by rw [HR.out] <;> rfl, bx0⟩
  have t5' := bne_of_true t5
  have hk5 := hck (by simpa using t5)
  clear hck
  cases t6 : z == 0
  case false =>
    have HR : Hid (R = 80) := by show _ = _; rw [HE.out, t5, t6]; rfl
    have t6' := bne_of_false t6
    clear HE
    go_enter Tryz.func122, Tryz.ntmps122
    go_wp2_with (refine wpList_load_row_g (by kernel_rfl) 30 _ rfl H rfl 30 _ (0, 0) _ QH.out Tryz.underlying30 rfl (info27 DS.out) ?_)
    refine (hk5.out _ bx0).mono ?_; rintro e w1 ⟨rfl, hb1⟩
    have B1 := Lib.hid (bx hb1)
    clear hb1
    go_wp2_with (fail)
    go_ret
    exact ⟨by rw [HR.out] <;> rfl, B1.out⟩
  have HR : Hid (R = whenE q) := by show _ = _; rw [HE.out, t5, t6]; rfl
  have t6' := bne_of_true t6
  clear HE
  go_enter Tryz.func122, Tryz.ntmps122
  go_wp2_with (refine wpList_load_row_g (by kernel_rfl) 30 _ rfl H rfl 30 _ (0, 0) _ QH.out Tryz.underlying30 rfl (info27 DS.out) ?_)
  refine (hk5.out _ bx0).mono ?_; rintro e w1 ⟨rfl, hb1⟩
  have x11 : w1.cell? ⟨v.heap.size, 11, none⟩ = some (.int .i64 x.state) := (cell_of_row w1 _ 11 _ _ _ ((hb1.block _ (by simp)).trans (heap_alloc_new v _))).trans e11
  have B1 := Lib.hid (bx hb1)
  have s1 := lt_bx hb1
  clear hb1
  go_wp2_with (go_at_call 104; refine (when_any _ _).mono ?_; rintro e w2 ⟨rfl, rfl⟩)
  go_ret
  exact ⟨by rw [HR.out] <;> rfl, B1.out⟩
theorem Kp.refl {N : Nat} {row : Option Nat} {a : World} : Kp N row a a := ⟨rfl, rfl, rfl, Nat.le_refl _, fun _ _ _ => rfl⟩
theorem Kp.set {N p k : Nat} {a b : World} {u : Value} (h : Kp N (some p) a b) : Kp N (some p) a (b.setCell ⟨p, k, none⟩ u) :=
  ⟨h.os, h.tape, h.output, by rw [set_size]; exact h.size, fun i hi hr => (Below.heap_setCell _ _ _ _ (fun e => hr (by rw [e]))).trans (h.block i hi hr)⟩
theorem Kp.drew {N : Nat} {row : Option Nat} {a b : World} (h : Kp N row a b) : Kp N row a b.drew := ⟨h.os, h.tape, h.output, h.size, h.block⟩
theorem blk_drew {a : World} {p : Nat} {o : Obj} (h : a.heap[p]? = some o) : a.drew.heap[p]? = some o := h
theorem Reads.kp {w w' : World} {lo B size n p : Nat} {A : Option Addr} {xs : List Value} (h : Reads w B size A n xs) (ho : Off lo A n) (hp : p < lo) (hB : B ≤ w.heap.size) (hw : Kp w.heap.size (some p) w w') : Reads w' B size A n xs := by
  refine ⟨h.1, fun hn => ?_⟩
  obtain ⟨ad, e, hlt, hc⟩ := h.2 hn
  have hlo := ho hn ad e
  refine ⟨ad, e, hlt, fun j u hu => ?_⟩
  rw [← hc j u hu]
  exact World.cell?_of_block (hw.block _ (by rw [block_of_add]; omega) (by rw [block_of_add]; intro e; have := Option.some.inj e; omega))
theorem jbA_with (y : Jb) (A5 : Option Addr) (c5 : Nat) (A2 : Option Addr) (c2 n : Nat) (h : y.shape.alts.length = n) : jbA y A5 c5 A2 c2 = #[.int .i64 y.id, .string y.name, .string y.user, .string y.account, .int .i64 y.shape.kind, .slice A5 n c5, .int .i64 y.shape.mn, .int .i64 y.shape.mx, .int .i64 y.shape.wall,
    .int .i64 y.prio, .slice A2 y.after.length c2, .int .i64 y.state, .bool y.held, .int .i64 y.born, .int .i64 y.promise, .int .i64 y.choice, .int .i64 y.start, .int .i64 y.limit, .int .u64 y.nodes, .int .i64 y.used] := by subst h; rfl
theorem do_end3 {v v' : World} {p lo : Nat} {x y : Jb} {A A2 A5 : Option Addr} {c c2 c5 : Nat} {cs : Array Value} (hpv : p < v.heap.size) (hlo : p < lo) (hlv : lo ≤ v.heap.size) (hk : Kp v.heap.size (some p) v v') (hb : v'.heap[p]? = some (.cells cs 28 (0, 0))) (hcs : cs = jbA y A5 c5 A2 c2)
    (ha : y.after = x.after) (hat : JbAt v v.heap.size x A c A2 c2) (hoff : JbOff lo x A A2) (ho : Owns v' v.heap.size 103 2 (.slice A5 y.shape.alts.length c5) y.shape.alts.length (recs prC y.shape.alts)) (hl : y.shape.alts.length ≤ 100000) : DoP v p lo y (.returned (.tuple #[])) v' := by
  obtain ⟨A6, c6, e6, hc6, _⟩ := ho.slice
  simp only [Value.slice.injEq, true_and] at e6
  obtain ⟨rfl, rfl⟩ := e6
  refine ⟨rfl, hk.below (by omega) (fun k h => by have := Option.some.inj h; omega), fun k hk1 hk2 => hk.block k hk2 (fun e => by have := Option.some.inj e; omega), A5, c5, A2, c2, ?_, ⟨ho.reads, ?_, hl, ?_⟩, ?_, ?_⟩
  · unfold JbBlk; rw [hb, hcs]
  · rw [ha]; exact (hat.2.1.kp hoff.2 hlo (Nat.le_refl _) hk).more hk.size
  · rw [ha]; exact ⟨hat.2.2.2.1, hc6, hat.2.2.2.2.2⟩
  · exact (Owns.off ho).mono hlv
  · have := hoff.2; rwa [← ha] at this
set_option linter.unusedSimpArgs false in
set_option maxHeartbeats 4000000 in
set_option maxRecDepth 100000 in
theorem alter_do (x : Jb) (y : Cm) (D D2 : Option Addr) (d d2 H N : Nat) (hH : H < N) : DoB 123 #[.pointer (some ⟨H, 0, none⟩)] x (altD x y) N (fun v => v.heap[H]? = some (.cells (cmA y D d D2 d2) 30 (0, 0))) := by
  intro v p lo A A2 c c2 hp hlo hlv hP hb hat hoff
  show Calls Tryz.prog 123 #[.pointer (some ⟨p, 0, none⟩), .pointer (some ⟨H, 0, none⟩)] v (DoP v p lo (altD x y))
  have hb0 := hb
  unfold JbBlk at hb0
  have hf : ∀ j, v.frozen? ⟨p, j, none⟩ = false := fun j => by simp [World.frozen?, hb0]
  have c4 : v.cell? ⟨p, 4, none⟩ = some (.int .i64 x.shape.kind) := cell_of_row v _ 4 _ _ _ hb0
  have c5 : v.cell? ⟨p, 5, none⟩ = some (.slice A x.shape.alts.length c) := cell_of_row v _ 5 _ _ _ hb0
  have c6 : v.cell? ⟨p, 6, none⟩ = some (.int .i64 x.shape.mn) := cell_of_row v _ 6 _ _ _ hb0
  have c7 : v.cell? ⟨p, 7, none⟩ = some (.int .i64 x.shape.mx) := cell_of_row v _ 7 _ _ _ hb0
  have c8 : v.cell? ⟨p, 8, none⟩ = some (.int .i64 x.shape.wall) := cell_of_row v _ 8 _ _ _ hb0
  have c9 : v.cell? ⟨p, 9, none⟩ = some (.int .i64 x.prio) := cell_of_row v _ 9 _ _ _ hb0
  have c14 : v.cell? ⟨p, 14, none⟩ = some (.int .i64 x.promise) := cell_of_row v _ 14 _ _ _ hb0
  have c15 : v.cell? ⟨p, 15, none⟩ = some (.int .i64 x.choice) := cell_of_row v _ 15 _ _ _ hb0
  have k11 : v.cell? ⟨H, 11, none⟩ = some (.bool y.hasPrio) := (cell_of_row v _ 11 _ _ _ hP).trans rfl
  have k10 : v.cell? ⟨H, 10, none⟩ = some (.int .i64 y.prio) := (cell_of_row v _ 10 _ _ _ hP).trans rfl
  have k12 : v.cell? ⟨H, 12, none⟩ = some (.int .i64 y.time) := (cell_of_row v _ 12 _ _ _ hP).trans rfl
  have k13 : v.cell? ⟨H, 13, none⟩ = some (.bool y.hasTime) := (cell_of_row v _ 13 _ _ _ hP).trans rfl
  have nH : ¬ p = H := by omega
  have mH : ¬ H = p := by omega
  have hpl : p < v.heap.size := by omega
  have hHl : H < v.heap.size := by omega
  have HWL := Lib.hid (fun wc (hk : Kp v.heap.size (some p) v wc) => (walls_any x.shape.kind x.shape.mn x.shape.mx x.shape.wall y.time x.shape.alts A c v.heap.size wc (hat.1.kp hoff.1 hlo (Nat.le_refl _) hk) hk.size hat.2.2.1).mono (R' := fun e w' =>
      ∃ A5 c5, e = .returned (.agg #[.int .i64 x.shape.kind, .slice A5 x.shape.alts.length c5, .int .i64 x.shape.mn, .int .i64 x.shape.mx, .int .i64 (wallsS x.shape y.time).wall]) ∧ Hid (Owns w' v.heap.size 103 2 (.slice A5 x.shape.alts.length c5) x.shape.alts.length (recs prC (wallsS x.shape y.time).alts)) ∧ Hid (Kp v.heap.size (some p) v w') ∧
        Hid (w'.heap[p]? = wc.heap[p]?) ∧ (∀ j, w'.cell? ⟨p, j, none⟩ = wc.cell? ⟨p, j, none⟩) ∧ (∀ j, w'.frozen? ⟨p, j, none⟩ = wc.frozen? ⟨p, j, none⟩)) (fun e w' ⟨A5, c5, he, ho, hb⟩ => ⟨A5, c5, he, ho.mono hk.size, hk.trans (Kp.of_below (hb.mono hk.size)), hb.block p (Nat.lt_of_lt_of_le hpl hk.size), fun j => World.cell?_of_block (hb.block p (Nat.lt_of_lt_of_le hpl hk.size)), fun j => World.frozen?_of_block (hb.block p (Nat.lt_of_lt_of_le hpl hk.size))⟩))
  have HLN : Hid ((wallsS x.shape y.time).alts.length = x.shape.alts.length) := by show _ = _; simp [wallsS]
  have HB := Lib.hid hb
  have HAT := Lib.hid hat
  have HOF := Lib.hid hoff
  clear hb hb0 hat hoff hp hP
  cases tt : y.hasTime
  case false =>
    cases tp : y.hasPrio
    case false =>
      have HD1 : Hid (altD x y = x) := by show _ = _; unfold altD altP; rw [if_neg (by rw [tt]; decide), if_neg (by rw [tp]; decide)]
      rw [tt] at k13; rw [tp] at k11
      go_enter Tryz.func123, Tryz.ntmps123
      go_wp2
      go_end0
      rw [HD1.out]
      refine do_end (x := x) ?_ HB.out (by rfl) rfl rfl HAT.out HOF.out hlo
      repeat (first | exact Only.refl | refine Only.set ?_ | refine Only.drew ?_)
    have HD1 : Hid (altD x y = { x with prio := y.prio }) := by show _ = _; unfold altD altP; rw [if_neg (by rw [tt]; decide), if_pos tp]
    rw [tt] at k13; rw [tp] at k11
    go_enter Tryz.func123, Tryz.ntmps123
    go_wp2
    go_end0
    rw [HD1.out]
    refine do_end (x := x) ?_ (setCell_blk (k := 9) (a := .int .i64 y.prio) HB.out) (by rfl) rfl rfl HAT.out HOF.out hlo
    repeat (first | exact Only.refl | refine Only.set ?_ | refine Only.drew ?_)
  cases tp : y.hasPrio
  case false =>
    have HD1 : Hid (altD x y = { x with shape := wallsS x.shape y.time, promise := -1, choice := 0 }) := by show _ = _; unfold altD altP; rw [if_pos tt, if_neg (by rw [tp]; decide)]
    rw [tt] at k13; rw [tp] at k11
    rw [HD1.out]
    go_enter Tryz.func123, Tryz.ntmps123
    go_wp2
    go_region_with (go_at_call 124; refine (HWL.out _ ?_).mono ?_; (focus (with_reducible repeat (first | refine Kp.set ?_ | refine Kp.drew ?_ | exact Kp.refl))); rintro e w1 ⟨A5, c5, rfl, HO, KP1, hrow, hcw, hfw⟩)
    all_goals
      go_wp2
      go_end0
      apply do_end3 (x := x) (A := A) (c := c) (A2 := A2) (c2 := c2) (A5 := A5) (c5 := c5) hpl hlo hlv
      · (with_reducible repeat (first | exact KP1.out | refine Kp.set ?_ | refine Kp.drew ?_))
      · (with_reducible repeat (first | apply hrow.out.trans | apply setCell_blk | apply blk_drew)); exact HB.out
      · refine Eq.trans ?_ (jbA_with _ A5 c5 A2 c2 _ HLN.out).symm; rfl
      · rfl
      · exact HAT.out
      · exact HOF.out
      · rw [HLN.out]; (with_reducible repeat (first | exact HO.out | refine Owns.setBelow ?_ hpl _ | refine Owns.drew ?_))
      · rw [HLN.out]; exact HAT.out.2.2.1
  have HD1 : Hid (altD x y = { x with prio := y.prio, shape := wallsS x.shape y.time, promise := -1, choice := 0 }) := by show _ = _; unfold altD altP; rw [if_pos tt, if_pos tp]
  rw [tt] at k13; rw [tp] at k11
  rw [HD1.out]
  go_enter Tryz.func123, Tryz.ntmps123
  go_wp2
  go_region_with (go_at_call 124; refine (HWL.out _ ?_).mono ?_; (focus (with_reducible repeat (first | refine Kp.set ?_ | refine Kp.drew ?_ | exact Kp.refl))); rintro e w1 ⟨A5, c5, rfl, HO, KP1, hrow, hcw, hfw⟩)
  all_goals
    go_wp2
    go_end0
    apply do_end3 (x := x) (A := A) (c := c) (A2 := A2) (c2 := c2) (A5 := A5) (c5 := c5) hpl hlo hlv
    · (with_reducible repeat (first | exact KP1.out | refine Kp.set ?_ | refine Kp.drew ?_))
    · (with_reducible repeat (first | apply hrow.out.trans | apply setCell_blk | apply blk_drew)); exact HB.out
    · refine Eq.trans ?_ (jbA_with _ A5 c5 A2 c2 _ HLN.out).symm; rfl
    · rfl
    · exact HAT.out
    · exact HOF.out
    · rw [HLN.out]; (with_reducible repeat (first | exact HO.out | refine Owns.setBelow ?_ hpl _ | refine Owns.drew ?_))
    · rw [HLN.out]; exact HAT.out.2.2.1
set_option linter.unusedSimpArgs false in
set_option maxHeartbeats 4000000 in
set_option maxRecDepth 100000 in
theorem alter_any (x : Jb) (kcmd : Cm) (A A2 D D2 : Option Addr) (c c2 d d2 B : Nat) (w : World) (hx : JbAt w B x A c A2 c2) (hB : B ≤ w.heap.size) (hz : JbSz x) (hy : CmAt w B kcmd D d D2 d2) (hzc : CmSz kcmd) :
    Calls Tryz.prog 58 #[jbV x A c A2 c2, cmV kcmd D d D2 d2] w (RetJX w (altJ x kcmd)) := by
  have hmf : ∀ (fn : Fn) (first cap : Array Value) (w : World), (Instr.makeFunc fn first cap).run Tryz.prog w = .ok (.func fn first cap) w := fun _ _ _ _ => rfl
  have eg : ∀ args w, (callFunc 122 args).run Tryz.prog w = .ok (.enter 122 args) w := enters_of Tryz.func122 (by kernel_rfl) rfl
  have eg2 : ∀ args w, (callFunc 123 args).run Tryz.prog w = .ok (.enter 123 args) w := enters_of Tryz.func123 (by kernel_rfl) rfl
  have ht : ∀ (V : World) (hV : Below w.heap.size w V) (hs : w.heap.size + 3 ≤ V.heap.size) (ckcmd : V.heap[w.heap.size + 1]? = some (.cells (cmA kcmd D d D2 d2) 30 (0, 0))), Calls Tryz.prog 96 #[jbV x A c A2 c2, .func (.func 122) #[] #[.pointer (some ⟨w.heap.size + 1, 0, none⟩)], .func (.func 123) #[] #[.pointer (some ⟨w.heap.size + 1, 0, none⟩)]] V (RetJE (none) V (altJ x kcmd)) := by
    intro V hV hs ckcmd
    refine turn_any x (altD x kcmd) (altM x kcmd) A A2 c c2 w.heap.size V _ _ eg (fun v => v.heap[w.heap.size + 1]? = some (.cells (cmA kcmd D d D2 d2) 30 (0, 0))) _ ?_ _ _ eg2 ((hx.below (hV.mono hB)).more hB) hV.size hz ?_ ?_ ?_
    · intro k h; first | (cases h; done) | (cases h; constructor <;> omega)
    · intro _ v hv
      have z1 : v.heap[w.heap.size + 1]? = some (.cells (cmA kcmd D d D2 d2) 30 (0, 0)) := (hv.block _ (by omega)).trans ckcmd
      have hvs := hv.size
      exact (alter_may x A A2 c c2 kcmd D D2 d d2 B (w.heap.size + 1) v (by omega) z1 (hy.below ((hV.trans (hv.mono hV.size)).mono hB)) (by have := hV.size; omega) hzc).mono (fun e v' ⟨he, hb⟩ => ⟨he, grown_of_below hb, (hb.block _ (by omega)).trans z1⟩)
    · intro _ _; exact alter_do x kcmd D D2 d d2 (w.heap.size + 1) _ (by omega)
    · intro v v' hp hk; rw [hk _ (by omega)]; exact hp
  have HTN := Lib.hid ht
  clear ht hx hB hz eg eg2 hy hzc
  obtain ⟨q, hq⟩ : ∃ q, Hid (altJ x kcmd = q) := ⟨_, rfl⟩
  rw [hq.out] at HTN ⊢
  rw [jbV_is] at HTN ⊢
  have HS := Lib.hid (jbA_size x A c A2 c2)
  have H1 := Lib.hid (jbA_one x A c A2 c2)
  obtain ⟨cs, hcs⟩ : ∃ cs, Hid (jbA x A c A2 c2 = cs) := ⟨_, rfl⟩
  rw [hcs.out] at HS H1 HTN ⊢
  clear hq
  obtain ⟨ds, hds⟩ : ∃ ds, Hid (cmA kcmd D d D2 d2 = ds) := ⟨_, rfl⟩
  rw [cmV_is, hds.out]
  rw [hds.out] at HTN
  obtain ⟨V, hV⟩ : ∃ V, Hid ((((w.alloc (.cells cs 28)).alloc (.cells ds 30)).alloc (.cells #[.int .i64 0, .string ⟨#[]⟩, .string ⟨#[]⟩, .string ⟨#[]⟩, .int .i64 0, .slice none 0 0, .int .i64 0, .int .i64 0, .int .i64 0, .int .i64 0, .slice none 0 0, .int .i64 0, .bool false, .int .i64 0, .int .i64 0, .int .i64 0, .int .i64 0, .int .i64 0, .int .u64 0, .int .i64 0] 28)) = V) := ⟨_, rfl⟩
  have HJ0 : Hid ((((w.alloc (.cells cs 28)).alloc (.cells ds 30)).alloc (.cells #[.int .i64 0, .string ⟨#[]⟩, .string ⟨#[]⟩, .string ⟨#[]⟩, .int .i64 0, .slice none 0 0, .int .i64 0, .int .i64 0, .int .i64 0, .int .i64 0, .slice none 0 0, .int .i64 0, .bool false, .int .i64 0, .int .i64 0, .int .i64 0, .int .i64 0, .int .i64 0, .int .u64 0, .int .i64 0] 28)).heap[w.heap.size]? = some (.cells cs 28 (0, 0))) := allocs_at [.cells cs 28, .cells ds 30, .cells #[.int .i64 0, .string ⟨#[]⟩, .string ⟨#[]⟩, .string ⟨#[]⟩, .int .i64 0, .slice none 0 0, .int .i64 0, .int .i64 0, .int .i64 0, .int .i64 0, .slice none 0 0, .int .i64 0, .bool false, .int .i64 0, .int .i64 0, .int .i64 0, .int .i64 0, .int .i64 0, .int .u64 0, .int .i64 0] 28] w 0 _ rfl
  have hb : Below w.heap.size w (((w.alloc (.cells cs 28)).alloc (.cells ds 30)).alloc (.cells #[.int .i64 0, .string ⟨#[]⟩, .string ⟨#[]⟩, .string ⟨#[]⟩, .int .i64 0, .slice none 0 0, .int .i64 0, .int .i64 0, .int .i64 0, .int .i64 0, .slice none 0 0, .int .i64 0, .bool false, .int .i64 0, .int .i64 0, .int .i64 0, .int .i64 0, .int .i64 0, .int .u64 0, .int .i64 0] 28)) := allocs_below [.cells cs 28, .cells ds 30, .cells #[.int .i64 0, .string ⟨#[]⟩, .string ⟨#[]⟩, .string ⟨#[]⟩, .int .i64 0, .slice none 0 0, .int .i64 0, .int .i64 0, .int .i64 0, .int .i64 0, .slice none 0 0, .int .i64 0, .bool false, .int .i64 0, .int .i64 0, .int .i64 0, .int .i64 0, .int .i64 0, .int .u64 0, .int .i64 0] 28] w
  have hz : (((w.alloc (.cells cs 28)).alloc (.cells ds 30)).alloc (.cells #[.int .i64 0, .string ⟨#[]⟩, .string ⟨#[]⟩, .string ⟨#[]⟩, .int .i64 0, .slice none 0 0, .int .i64 0, .int .i64 0, .int .i64 0, .int .i64 0, .slice none 0 0, .int .i64 0, .bool false, .int .i64 0, .int .i64 0, .int .i64 0, .int .i64 0, .int .i64 0, .int .u64 0, .int .i64 0] 28)).heap.size = _ := allocs_size [.cells cs 28, .cells ds 30, .cells #[.int .i64 0, .string ⟨#[]⟩, .string ⟨#[]⟩, .string ⟨#[]⟩, .int .i64 0, .slice none 0 0, .int .i64 0, .int .i64 0, .int .i64 0, .int .i64 0, .slice none 0 0, .int .i64 0, .bool false, .int .i64 0, .int .i64 0, .int .i64 0, .int .i64 0, .int .i64 0, .int .u64 0, .int .i64 0] 28] w
  have g1 : (((w.alloc (.cells cs 28)).alloc (.cells ds 30)).alloc (.cells #[.int .i64 0, .string ⟨#[]⟩, .string ⟨#[]⟩, .string ⟨#[]⟩, .int .i64 0, .slice none 0 0, .int .i64 0, .int .i64 0, .int .i64 0, .int .i64 0, .slice none 0 0, .int .i64 0, .bool false, .int .i64 0, .int .i64 0, .int .i64 0, .int .i64 0, .int .i64 0, .int .u64 0, .int .i64 0] 28)).heap[w.heap.size + 1]? = some (.cells ds 30) := allocs_at [.cells cs 28, .cells ds 30, .cells #[.int .i64 0, .string ⟨#[]⟩, .string ⟨#[]⟩, .string ⟨#[]⟩, .int .i64 0, .slice none 0 0, .int .i64 0, .int .i64 0, .int .i64 0, .int .i64 0, .slice none 0 0, .int .i64 0, .bool false, .int .i64 0, .int .i64 0, .int .i64 0, .int .i64 0, .int .i64 0, .int .u64 0, .int .i64 0] 28] w 1 _ rfl
  have g2 : (((w.alloc (.cells cs 28)).alloc (.cells ds 30)).alloc (.cells #[.int .i64 0, .string ⟨#[]⟩, .string ⟨#[]⟩, .string ⟨#[]⟩, .int .i64 0, .slice none 0 0, .int .i64 0, .int .i64 0, .int .i64 0, .int .i64 0, .slice none 0 0, .int .i64 0, .bool false, .int .i64 0, .int .i64 0, .int .i64 0, .int .i64 0, .int .i64 0, .int .u64 0, .int .i64 0] 28)).heap[w.heap.size + 2]? = some (.cells #[.int .i64 0, .string ⟨#[]⟩, .string ⟨#[]⟩, .string ⟨#[]⟩, .int .i64 0, .slice none 0 0, .int .i64 0, .int .i64 0, .int .i64 0, .int .i64 0, .slice none 0 0, .int .i64 0, .bool false, .int .i64 0, .int .i64 0, .int .i64 0, .int .i64 0, .int .i64 0, .int .u64 0, .int .i64 0] 28) := allocs_at [.cells cs 28, .cells ds 30, .cells #[.int .i64 0, .string ⟨#[]⟩, .string ⟨#[]⟩, .string ⟨#[]⟩, .int .i64 0, .slice none 0 0, .int .i64 0, .int .i64 0, .int .i64 0, .int .i64 0, .slice none 0 0, .int .i64 0, .bool false, .int .i64 0, .int .i64 0, .int .i64 0, .int .i64 0, .int .i64 0, .int .u64 0, .int .i64 0] 28] w 2 _ rfl
  rw [hV.out] at hb hz g1 g2
  simp only [List.length_cons, List.length_nil] at hz
  have ckcmd : V.heap[w.heap.size + 1]? = some (.cells ds 30 (0, 0)) := g1
  have HT := Lib.hid (HTN.out V hb (by omega) ckcmd)
  have HB := Lib.hid hb
  have hs : w.heap.size + 2 < V.heap.size := by omega
  have GR := Lib.hid g2
  clear HTN hb hz ckcmd g1 g2
  go_enter Tryz.func58, Tryz.ntmps58
  go_wp2_with (refine wpList_load_row rfl 28 _ rfl (w.heap.size) rfl 28 _ (0, 0) _ HJ0.out Tryz.underlying28 rfl (info30 HS.out) ?_)
  rw [hV.out]
  refine HT.out.mono ?_; rintro e w1 ⟨A5, c5, A6, c6, rfl, hat, hoff, hk⟩
  have gr := (hk.block (w.heap.size + 2) (by omega) (by simp)).trans GR.out
  have GR1 := Lib.hid gr
  have hs1 : w.heap.size + 2 < w1.heap.size := (Array.getElem?_eq_some_iff.1 gr).1
  have HEND := Lib.hid (fun l => retX_end (w := w) (q := q) (row := none) HB.out hs (by omega) (fun k h => by cases h) hat hoff hk l)
  clear hat hoff hk gr
  rw [jbV_is]
  go_wp2_with (refine wpList_store_row rfl 28 _ _ rfl (w.heap.size + 2) _ rfl rfl 28 _ GR1.out (info30 (jbA_size _ _ _ _ _)) rfl (jbA_one _ _ _ _ _) ?_)
  (try simp only [Exit.inBlock, Exit.then])
  refine bodyPost_ret (results_cell2 rfl _ _ (w.heap.size + 2) _ _ _ _ rfl (setRow_heap _ _ _ _ _ _ GR1.out) Tryz.underlying28 rfl (info30 (jbA_size _ _ _ _ _))) rfl ?_
  exact HEND.out _
theorem plus2j (x y : Int) (W : World) (g : Nat) (c0 : W.cell? ⟨g, 0, none⟩ = some (.int .i64 x)) (c1 : W.cell? ⟨g, 1, none⟩ = some (.int .i64 y)) :
    Calls Tryz.prog 127 #[.slice (some ⟨g, 0, none⟩) 2 2] W fun e w' => e = .returned (.int .i64 (plusU x y)) ∧ W = w' := by
  refine plus_any (some ⟨g, 0, none⟩) 2 2 (g + 1) [x, y] W (by simp [maxLen]) ⟨rfl, fun _ => ⟨_, rfl, by simp, fun j u hu => ?_⟩⟩
  have hj : j < 2 := by simpa [ints] using (List.getElem?_eq_some_iff.1 hu).1
  rcases j with _ | _ | j
  · simp [ints] at hu; subst hu; simpa [Addr.add] using c0
  · simp [ints] at hu; subst hu; simpa [Addr.add] using c1
  · omega
theorem do_end2 {v v1 v' : World} {p lo : Nat} {x y : Jb} {A A2 : Option Addr} {c c2 : Nat} {cs : Array Value} (hpv : p < v.heap.size) (ho : Only p v v1) (hv : Below v1.heap.size v1 v') (hb : v1.heap[p]? = some (.cells cs 28 (0, 0))) (hcs : cs = jbA y A c A2 c2)
    (hs : y.shape = x.shape) (ha : y.after = x.after) (hat : JbAt v v.heap.size x A c A2 c2) (hoff : JbOff lo x A A2) (hp : p < lo) : DoP v p lo y (.returned (.tuple #[])) v' := by
  have hz := ho.size
  refine ⟨rfl, ho.below.trans (hv.mono (by omega)), fun k hk hl => (hv.block k (by omega)).trans (ho.block k (by omega)), A, c, A2, c2, ?_, ?_, hoff.as hs ha⟩
  · unfold JbBlk; rw [hv.block p (by omega), hb, hcs]
  · have := (hat.only hoff hp ho).as hs ha
    rw [← hz] at this
    exact (this.below hv).more hv.size
set_option linter.unusedSimpArgs false in
set_option maxHeartbeats 4000000 in
set_option maxRecDepth 100000 in
theorem charge_do (x : Jb) (n : Int) (H : Nat) (N : Nat) (hH : H < N) : DoB 126 #[.pointer (some ⟨H, 0, none⟩)] x (chargeD x n) N (fun v => v.cell? ⟨H, 0, none⟩ = some (.int .i64 n)) := by
  intro v p lo A A2 c c2 hp hlo hlv hP hb hat hoff
  show Calls Tryz.prog 126 #[.pointer (some ⟨p, 0, none⟩), .pointer (some ⟨H, 0, none⟩)] v (DoP v p lo (chargeD x n))
  have hb0 := hb
  unfold JbBlk at hb0
  have hf : ∀ j, v.frozen? ⟨p, j, none⟩ = false := fun j => by simp [World.frozen?, hb0]
  have c19 : v.cell? ⟨p, 19, none⟩ = some (.int .i64 x.used) := cell_of_row v _ 19 _ _ _ hb0
  have nH : ¬ p = H := by omega
  have mH : ¬ H = p := by omega
  have hb2 := hb
  unfold JbBlk at hb2
  have hpl : p < v.heap.size := by omega
  have HB := Lib.hid hb
  have HAT := Lib.hid hat
  have HOF := Lib.hid hoff
  clear hb hb0 hat hoff hp hlv
  clear hb2
  go_enter Tryz.func126, Tryz.ntmps126
  go_region_with (go_at_call 127; refine (plus2j x.used n _ _ ?_ ?_).mono ?_; (focus simp [go_sem]); (focus simp [go_sem]); rintro e w1 ⟨rfl, rfl⟩)
  all_goals
    go_wp2
    go_end0
    refine do_end2 (x := x) (v1 := v.setCell ⟨p, 19, none⟩ (.int .i64 (plusU x.used n))) hpl (Only.set Only.refl) ?_ (setCell_blk (k := 19) (a := .int .i64 (plusU x.used n)) HB.out) (by rfl) rfl rfl HAT.out HOF.out hlo
    exact below_drew ((Below.refl _ _).alloc (Nat.le_refl _) _)
set_option linter.unusedSimpArgs false in
set_option maxHeartbeats 4000000 in
set_option maxRecDepth 100000 in
theorem charge_any (x : Jb) (n : Int) (A A2 : Option Addr) (c c2 B : Nat) (w : World) (hx : JbAt w B x A c A2 c2) (hB : B ≤ w.heap.size) (hz : JbSz x) :
    Calls Tryz.prog 59 #[jbV x A c A2 c2, .int .i64 n] w (RetJX w (chargeJ x n)) := by
  have hmf : ∀ (fn : Fn) (first cap : Array Value) (w : World), (Instr.makeFunc fn first cap).run Tryz.prog w = .ok (.func fn first cap) w := fun _ _ _ _ => rfl
  have eg : ∀ args w, (callFunc 125 args).run Tryz.prog w = .ok (.enter 125 args) w := enters_of Tryz.func125 (by kernel_rfl) rfl
  have eg2 : ∀ args w, (callFunc 126 args).run Tryz.prog w = .ok (.enter 126 args) w := enters_of Tryz.func126 (by kernel_rfl) rfl
  have ht : ∀ (V : World) (hV : Below w.heap.size w V) (hs : w.heap.size + 3 ≤ V.heap.size) (cn : V.cell? ⟨w.heap.size + 1, 0, none⟩ = some (.int .i64 n)), Calls Tryz.prog 96 #[jbV x A c A2 c2, .func (.func 125) #[] #[], .func (.func 126) #[] #[.pointer (some ⟨w.heap.size + 1, 0, none⟩)]] V (RetJE (none) V (chargeJ x n)) := by
    intro V hV hs cn
    refine turn_any x (chargeD x n) (chargeM x) A A2 c c2 w.heap.size V _ _ eg (fun v => v.cell? ⟨w.heap.size + 1, 0, none⟩ = some (.int .i64 n)) _ ?_ _ _ eg2 ((hx.below (hV.mono hB)).more hB) hV.size hz ?_ ?_ ?_
    · intro k h; first | (cases h; done) | (cases h; constructor <;> omega)
    · intro _ v hv
      exact (charge_may x A A2 c c2 v).mono (fun e v' ⟨he, hb⟩ => ⟨he, grown_of_below hb, cell_keep hb (by have := hv.size; omega) (by rw [(bcell hv).1 _ _ (by omega)]; assumption)⟩)
    · intro _ _; exact charge_do x n (w.heap.size + 1) _ (by omega)
    · intro v v' hp hk; simp only [World.cell?] at hp ⊢; first | (rw [hk _ (by omega)]; exact hp) | (obtain ⟨h1, h2⟩ := hp; rw [hk _ (by omega), hk _ (by omega)]; exact ⟨h1, h2⟩) | (obtain ⟨h1, h2, h3⟩ := hp; rw [hk _ (by omega), hk _ (by omega), hk _ (by omega)]; exact ⟨h1, h2, h3⟩)
  have HTN := Lib.hid ht
  clear ht hx hB hz eg eg2
  obtain ⟨q, hq⟩ : ∃ q, Hid (chargeJ x n = q) := ⟨_, rfl⟩
  rw [hq.out] at HTN ⊢
  rw [jbV_is] at HTN ⊢
  have HS := Lib.hid (jbA_size x A c A2 c2)
  have H1 := Lib.hid (jbA_one x A c A2 c2)
  obtain ⟨cs, hcs⟩ : ∃ cs, Hid (jbA x A c A2 c2 = cs) := ⟨_, rfl⟩
  rw [hcs.out] at HS H1 HTN ⊢
  clear hq
  obtain ⟨V, hV⟩ : ∃ V, Hid ((((w.alloc (.cells cs 28)).alloc (.cells #[.int .i64 n] 3)).alloc (.cells #[.int .i64 0, .string ⟨#[]⟩, .string ⟨#[]⟩, .string ⟨#[]⟩, .int .i64 0, .slice none 0 0, .int .i64 0, .int .i64 0, .int .i64 0, .int .i64 0, .slice none 0 0, .int .i64 0, .bool false, .int .i64 0, .int .i64 0, .int .i64 0, .int .i64 0, .int .i64 0, .int .u64 0, .int .i64 0] 28)) = V) := ⟨_, rfl⟩
  have HJ0 : Hid ((((w.alloc (.cells cs 28)).alloc (.cells #[.int .i64 n] 3)).alloc (.cells #[.int .i64 0, .string ⟨#[]⟩, .string ⟨#[]⟩, .string ⟨#[]⟩, .int .i64 0, .slice none 0 0, .int .i64 0, .int .i64 0, .int .i64 0, .int .i64 0, .slice none 0 0, .int .i64 0, .bool false, .int .i64 0, .int .i64 0, .int .i64 0, .int .i64 0, .int .i64 0, .int .u64 0, .int .i64 0] 28)).heap[w.heap.size]? = some (.cells cs 28 (0, 0))) := allocs_at [.cells cs 28, .cells #[.int .i64 n] 3, .cells #[.int .i64 0, .string ⟨#[]⟩, .string ⟨#[]⟩, .string ⟨#[]⟩, .int .i64 0, .slice none 0 0, .int .i64 0, .int .i64 0, .int .i64 0, .int .i64 0, .slice none 0 0, .int .i64 0, .bool false, .int .i64 0, .int .i64 0, .int .i64 0, .int .i64 0, .int .i64 0, .int .u64 0, .int .i64 0] 28] w 0 _ rfl
  have hb : Below w.heap.size w (((w.alloc (.cells cs 28)).alloc (.cells #[.int .i64 n] 3)).alloc (.cells #[.int .i64 0, .string ⟨#[]⟩, .string ⟨#[]⟩, .string ⟨#[]⟩, .int .i64 0, .slice none 0 0, .int .i64 0, .int .i64 0, .int .i64 0, .int .i64 0, .slice none 0 0, .int .i64 0, .bool false, .int .i64 0, .int .i64 0, .int .i64 0, .int .i64 0, .int .i64 0, .int .u64 0, .int .i64 0] 28)) := allocs_below [.cells cs 28, .cells #[.int .i64 n] 3, .cells #[.int .i64 0, .string ⟨#[]⟩, .string ⟨#[]⟩, .string ⟨#[]⟩, .int .i64 0, .slice none 0 0, .int .i64 0, .int .i64 0, .int .i64 0, .int .i64 0, .slice none 0 0, .int .i64 0, .bool false, .int .i64 0, .int .i64 0, .int .i64 0, .int .i64 0, .int .i64 0, .int .u64 0, .int .i64 0] 28] w
  have hz : (((w.alloc (.cells cs 28)).alloc (.cells #[.int .i64 n] 3)).alloc (.cells #[.int .i64 0, .string ⟨#[]⟩, .string ⟨#[]⟩, .string ⟨#[]⟩, .int .i64 0, .slice none 0 0, .int .i64 0, .int .i64 0, .int .i64 0, .int .i64 0, .slice none 0 0, .int .i64 0, .bool false, .int .i64 0, .int .i64 0, .int .i64 0, .int .i64 0, .int .i64 0, .int .u64 0, .int .i64 0] 28)).heap.size = _ := allocs_size [.cells cs 28, .cells #[.int .i64 n] 3, .cells #[.int .i64 0, .string ⟨#[]⟩, .string ⟨#[]⟩, .string ⟨#[]⟩, .int .i64 0, .slice none 0 0, .int .i64 0, .int .i64 0, .int .i64 0, .int .i64 0, .slice none 0 0, .int .i64 0, .bool false, .int .i64 0, .int .i64 0, .int .i64 0, .int .i64 0, .int .i64 0, .int .u64 0, .int .i64 0] 28] w
  have g1 : (((w.alloc (.cells cs 28)).alloc (.cells #[.int .i64 n] 3)).alloc (.cells #[.int .i64 0, .string ⟨#[]⟩, .string ⟨#[]⟩, .string ⟨#[]⟩, .int .i64 0, .slice none 0 0, .int .i64 0, .int .i64 0, .int .i64 0, .int .i64 0, .slice none 0 0, .int .i64 0, .bool false, .int .i64 0, .int .i64 0, .int .i64 0, .int .i64 0, .int .i64 0, .int .u64 0, .int .i64 0] 28)).heap[w.heap.size + 1]? = some (.cells #[.int .i64 n] 3) := allocs_at [.cells cs 28, .cells #[.int .i64 n] 3, .cells #[.int .i64 0, .string ⟨#[]⟩, .string ⟨#[]⟩, .string ⟨#[]⟩, .int .i64 0, .slice none 0 0, .int .i64 0, .int .i64 0, .int .i64 0, .int .i64 0, .slice none 0 0, .int .i64 0, .bool false, .int .i64 0, .int .i64 0, .int .i64 0, .int .i64 0, .int .i64 0, .int .u64 0, .int .i64 0] 28] w 1 _ rfl
  have g2 : (((w.alloc (.cells cs 28)).alloc (.cells #[.int .i64 n] 3)).alloc (.cells #[.int .i64 0, .string ⟨#[]⟩, .string ⟨#[]⟩, .string ⟨#[]⟩, .int .i64 0, .slice none 0 0, .int .i64 0, .int .i64 0, .int .i64 0, .int .i64 0, .slice none 0 0, .int .i64 0, .bool false, .int .i64 0, .int .i64 0, .int .i64 0, .int .i64 0, .int .i64 0, .int .u64 0, .int .i64 0] 28)).heap[w.heap.size + 2]? = some (.cells #[.int .i64 0, .string ⟨#[]⟩, .string ⟨#[]⟩, .string ⟨#[]⟩, .int .i64 0, .slice none 0 0, .int .i64 0, .int .i64 0, .int .i64 0, .int .i64 0, .slice none 0 0, .int .i64 0, .bool false, .int .i64 0, .int .i64 0, .int .i64 0, .int .i64 0, .int .i64 0, .int .u64 0, .int .i64 0] 28) := allocs_at [.cells cs 28, .cells #[.int .i64 n] 3, .cells #[.int .i64 0, .string ⟨#[]⟩, .string ⟨#[]⟩, .string ⟨#[]⟩, .int .i64 0, .slice none 0 0, .int .i64 0, .int .i64 0, .int .i64 0, .int .i64 0, .slice none 0 0, .int .i64 0, .bool false, .int .i64 0, .int .i64 0, .int .i64 0, .int .i64 0, .int .i64 0, .int .u64 0, .int .i64 0] 28] w 2 _ rfl
  rw [hV.out] at hb hz g1 g2
  simp only [List.length_cons, List.length_nil] at hz
  have cn : V.cell? ⟨w.heap.size + 1, 0, none⟩ = some (.int .i64 n) := cell_of_row V _ 0 _ _ _ g1
  have HT := Lib.hid (HTN.out V hb (by omega) cn)
  have HB := Lib.hid hb
  have hs : w.heap.size + 2 < V.heap.size := by omega
  have GR := Lib.hid g2
  clear HTN hb hz cn g1 g2
  go_enter Tryz.func59, Tryz.ntmps59
  go_wp2_with (refine wpList_load_row rfl 28 _ rfl (w.heap.size) rfl 28 _ (0, 0) _ HJ0.out Tryz.underlying28 rfl (info30 HS.out) ?_)
  rw [hV.out]
  refine HT.out.mono ?_; rintro e w1 ⟨A5, c5, A6, c6, rfl, hat, hoff, hk⟩
  have gr := (hk.block (w.heap.size + 2) (by omega) (by simp)).trans GR.out
  have GR1 := Lib.hid gr
  have hs1 : w.heap.size + 2 < w1.heap.size := (Array.getElem?_eq_some_iff.1 gr).1
  have HEND := Lib.hid (fun l => retX_end (w := w) (q := q) (row := none) HB.out hs (by omega) (fun k h => by cases h) hat hoff hk l)
  clear hat hoff hk gr
  rw [jbV_is]
  go_wp2_with (refine wpList_store_row rfl 28 _ _ rfl (w.heap.size + 2) _ rfl rfl 28 _ GR1.out (info30 (jbA_size _ _ _ _ _)) rfl (jbA_one _ _ _ _ _) ?_)
  (try simp only [Exit.inBlock, Exit.then])
  refine bodyPost_ret (results_cell2 rfl _ _ (w.heap.size + 2) _ _ _ _ rfl (setRow_heap _ _ _ _ _ _ GR1.out) Tryz.underlying28 rfl (info30 (jbA_size _ _ _ _ _))) rfl ?_
  exact HEND.out _
def acC (a : Ac) (D : Option Addr) (d : Nat) (D2 : Option Addr) (d2 : Nat) : List Value := .int .i64 a.kind :: .int .i64 a.a :: .int .i64 a.b :: .int .u64 a.set :: cmC a.cmd D d D2 d2
def acA (a : Ac) (D : Option Addr) (d : Nat) (D2 : Option Addr) (d2 : Nat) : Array Value := (acC a D d D2 d2).toArray
def acV (a : Ac) (D : Option Addr) (d : Nat) (D2 : Option Addr) (d2 : Nat) : Value := .agg (acA a D d D2 d2)
theorem acA_size (a : Ac) (D : Option Addr) (d : Nat) (D2 : Option Addr) (d2 : Nat) : (acA a D d D2 d2).size = 22 := rfl
theorem infoAct {cs : Array Value} (h : cs.size = 22) : (Tryz.prog.info? 32).map (·.size) = some cs.size := by rw [h]; kernel_rfl
set_option linter.unusedSimpArgs false in
set_option maxHeartbeats 4000000 in
set_option maxRecDepth 100000 in
theorem do_held (x : Jb) (ka kb : Int) (ks : Nat) (kc : Cm) (A A2 D D2 : Option Addr) (c c2 d d2 B : Nat) (w : World) (hx : JbAt w B x A c A2 c2) (hy : CmAt w B kc D d D2 d2) (hB : B ≤ w.heap.size) (hz : JbSz x) (hzc : CmSz kc) (hs : ks < M64) :
    Calls Tryz.prog 15 #[jbV x A c A2 c2, acV ⟨0, ka, kb, ks, kc⟩ D d D2 d2] w (RetJX w (doJ x ⟨0, ka, kb, ks, kc⟩)) := by
  have hct := Lib.hid (fun v (hv : Below w.heap.size w v) => hold_any x true A A2 c c2 B v (hx.below (hv.mono hB)) (Nat.le_trans hB hv.size) hz)
  rw [show doJ x ⟨0, ka, kb, ks, kc⟩ = holdJ x true by unfold doJ; rfl]
  obtain ⟨Q, HQ⟩ : ∃ Q, Hid (holdJ x true = Q) := ⟨_, rfl⟩
  rw [HQ.out] at hct ⊢
  clear hx hy hB hz hzc hs
  unfold acV
  have a0 : (acA ⟨0, ka, kb, ks, kc⟩ D d D2 d2)[0]? = some (.int .i64 0) := rfl
  have AS := Lib.hid (acA_size ⟨0, ka, kb, ks, kc⟩ D d D2 d2)
  obtain ⟨av, has⟩ : ∃ av, Hid (acA ⟨0, ka, kb, ks, kc⟩ D d D2 d2 = av) := ⟨_, rfl⟩
  rw [has.out] at a0 AS ⊢
  rw [jbV_is] at hct ⊢
  have HS := Lib.hid (jbA_size x A c A2 c2)
  have H1 := Lib.hid (jbA_one x A c A2 c2)
  obtain ⟨cs, hcs⟩ : ∃ cs, Hid (jbA x A c A2 c2 = cs) := ⟨_, rfl⟩
  rw [hcs.out] at HS H1 hct ⊢
  obtain ⟨V, hV⟩ : ∃ V, Hid ((((w.alloc (.cells cs 28)).alloc (.cells av 32)).alloc (.cells #[.int .i64 0, .string ⟨#[]⟩, .string ⟨#[]⟩, .string ⟨#[]⟩, .int .i64 0, .slice none 0 0, .int .i64 0, .int .i64 0, .int .i64 0, .int .i64 0, .slice none 0 0, .int .i64 0, .bool false, .int .i64 0, .int .i64 0, .int .i64 0, .int .i64 0, .int .i64 0, .int .u64 0, .int .i64 0] 28)) = V) := ⟨_, rfl⟩
  obtain ⟨hb, hz, g0, g1, g2⟩ := wd_facts w cs av
  have k0 : (Wd w cs av).cell? ⟨w.heap.size + 1, 0, none⟩ = some (.int .i64 0) := (cell_of_row _ _ 0 _ _ _ g1).trans a0
  have G0 := Lib.hid g0
  rw [show Wd w cs av = V from hV.out] at hb hz g2
  have HB := Lib.hid hb
  have hs : w.heap.size + 2 < V.heap.size := by omega
  have GR := Lib.hid g2
  have CT := Lib.hid (hct.out V hb)
  clear hb hz g0 g1 g2 hct
  have hs1 : w.heap.size + 1 < V.heap.size := by omega
  have hs0 : w.heap.size < V.heap.size := by omega
  go_enter Tryz.func15, Tryz.ntmps15
  go_wp2_with (first
    | (refine wpList_load_row rfl 28 _ rfl (w.heap.size) rfl 28 _ (0, 0) _ G0.out Tryz.underlying28 rfl (info30 HS.out) ?_))
  rw [hV.out]
  refine CT.out.mono ?_; rintro e w1 ⟨A5, c5, A6, c6, rfl, hat, hoff, hb1⟩
  have gr := (hb1.block (w.heap.size + 2) hs).trans GR.out
  have GR1 := Lib.hid gr
  have hs2 : w.heap.size + 2 < w1.heap.size := (Array.getElem?_eq_some_iff.1 gr).1
  have HEND := Lib.hid (fun l => retX_end (w := w) (q := Q) (row := none) HB.out hs (by omega) (fun k h => by cases h) hat hoff (Kp.of_below hb1) l)
  clear hat hoff hb1 gr
  rw [jbV_is]
  go_wp2_with (refine wpList_store_row rfl 28 _ _ rfl (w.heap.size + 2) _ rfl rfl 28 _ GR1.out (info30 (jbA_size _ _ _ _ _)) rfl (jbA_one _ _ _ _ _) ?_)
  (try simp only [Exit.inBlock, Exit.then])
  refine bodyPost_ret (results_cell2 rfl _ _ (w.heap.size + 2) _ _ _ _ rfl (setRow_heap _ _ _ _ _ _ GR1.out) Tryz.underlying28 rfl (info30 (jbA_size _ _ _ _ _))) rfl ?_
  exact HEND.out _
set_option linter.unusedSimpArgs false in
set_option maxHeartbeats 4000000 in
set_option maxRecDepth 100000 in
theorem do_freed (x : Jb) (ka kb : Int) (ks : Nat) (kc : Cm) (A A2 D D2 : Option Addr) (c c2 d d2 B : Nat) (w : World) (hx : JbAt w B x A c A2 c2) (hy : CmAt w B kc D d D2 d2) (hB : B ≤ w.heap.size) (hz : JbSz x) (hzc : CmSz kc) (hs : ks < M64) :
    Calls Tryz.prog 15 #[jbV x A c A2 c2, acV ⟨1, ka, kb, ks, kc⟩ D d D2 d2] w (RetJX w (doJ x ⟨1, ka, kb, ks, kc⟩)) := by
  have hct := Lib.hid (fun v (hv : Below w.heap.size w v) => hold_any x false A A2 c c2 B v (hx.below (hv.mono hB)) (Nat.le_trans hB hv.size) hz)
  rw [show doJ x ⟨1, ka, kb, ks, kc⟩ = holdJ x false by unfold doJ; rfl]
  obtain ⟨Q, HQ⟩ : ∃ Q, Hid (holdJ x false = Q) := ⟨_, rfl⟩
  rw [HQ.out] at hct ⊢
  clear hx hy hB hz hzc hs
  unfold acV
  have a0 : (acA ⟨1, ka, kb, ks, kc⟩ D d D2 d2)[0]? = some (.int .i64 1) := rfl
  have AS := Lib.hid (acA_size ⟨1, ka, kb, ks, kc⟩ D d D2 d2)
  obtain ⟨av, has⟩ : ∃ av, Hid (acA ⟨1, ka, kb, ks, kc⟩ D d D2 d2 = av) := ⟨_, rfl⟩
  rw [has.out] at a0 AS ⊢
  rw [jbV_is] at hct ⊢
  have HS := Lib.hid (jbA_size x A c A2 c2)
  have H1 := Lib.hid (jbA_one x A c A2 c2)
  obtain ⟨cs, hcs⟩ : ∃ cs, Hid (jbA x A c A2 c2 = cs) := ⟨_, rfl⟩
  rw [hcs.out] at HS H1 hct ⊢
  obtain ⟨V, hV⟩ : ∃ V, Hid ((((w.alloc (.cells cs 28)).alloc (.cells av 32)).alloc (.cells #[.int .i64 0, .string ⟨#[]⟩, .string ⟨#[]⟩, .string ⟨#[]⟩, .int .i64 0, .slice none 0 0, .int .i64 0, .int .i64 0, .int .i64 0, .int .i64 0, .slice none 0 0, .int .i64 0, .bool false, .int .i64 0, .int .i64 0, .int .i64 0, .int .i64 0, .int .i64 0, .int .u64 0, .int .i64 0] 28)) = V) := ⟨_, rfl⟩
  obtain ⟨hb, hz, g0, g1, g2⟩ := wd_facts w cs av
  have k0 : (Wd w cs av).cell? ⟨w.heap.size + 1, 0, none⟩ = some (.int .i64 1) := (cell_of_row _ _ 0 _ _ _ g1).trans a0
  have G0 := Lib.hid g0
  rw [show Wd w cs av = V from hV.out] at hb hz g2
  have HB := Lib.hid hb
  have hs : w.heap.size + 2 < V.heap.size := by omega
  have GR := Lib.hid g2
  have CT := Lib.hid (hct.out V hb)
  clear hb hz g0 g1 g2 hct
  have hs1 : w.heap.size + 1 < V.heap.size := by omega
  have hs0 : w.heap.size < V.heap.size := by omega
  go_enter Tryz.func15, Tryz.ntmps15
  go_wp2_with (first
    | (refine wpList_load_row rfl 28 _ rfl (w.heap.size) rfl 28 _ (0, 0) _ G0.out Tryz.underlying28 rfl (info30 HS.out) ?_))
  rw [hV.out]
  refine CT.out.mono ?_; rintro e w1 ⟨A5, c5, A6, c6, rfl, hat, hoff, hb1⟩
  have gr := (hb1.block (w.heap.size + 2) hs).trans GR.out
  have GR1 := Lib.hid gr
  have hs2 : w.heap.size + 2 < w1.heap.size := (Array.getElem?_eq_some_iff.1 gr).1
  have HEND := Lib.hid (fun l => retX_end (w := w) (q := Q) (row := none) HB.out hs (by omega) (fun k h => by cases h) hat hoff (Kp.of_below hb1) l)
  clear hat hoff hb1 gr
  rw [jbV_is]
  go_wp2_with (refine wpList_store_row rfl 28 _ _ rfl (w.heap.size + 2) _ rfl rfl 28 _ GR1.out (info30 (jbA_size _ _ _ _ _)) rfl (jbA_one _ _ _ _ _) ?_)
  (try simp only [Exit.inBlock, Exit.then])
  refine bodyPost_ret (results_cell2 rfl _ _ (w.heap.size + 2) _ _ _ _ rfl (setRow_heap _ _ _ _ _ _ GR1.out) Tryz.underlying28 rfl (info30 (jbA_size _ _ _ _ _))) rfl ?_
  exact HEND.out _
set_option linter.unusedSimpArgs false in
set_option maxHeartbeats 4000000 in
set_option maxRecDepth 100000 in
theorem do_promised (x : Jb) (ka kb : Int) (ks : Nat) (kc : Cm) (A A2 D D2 : Option Addr) (c c2 d d2 B : Nat) (w : World) (hx : JbAt w B x A c A2 c2) (hy : CmAt w B kc D d D2 d2) (hB : B ≤ w.heap.size) (hz : JbSz x) (hzc : CmSz kc) (hs : ks < M64) :
    Calls Tryz.prog 15 #[jbV x A c A2 c2, acV ⟨2, ka, kb, ks, kc⟩ D d D2 d2] w (RetJX w (doJ x ⟨2, ka, kb, ks, kc⟩)) := by
  have hct := Lib.hid (fun v (hv : Below w.heap.size w v) => prom_any x ka kb A A2 c c2 B v (hx.below (hv.mono hB)) (Nat.le_trans hB hv.size) hz)
  rw [show doJ x ⟨2, ka, kb, ks, kc⟩ = promJ x ka kb by unfold doJ; rfl]
  obtain ⟨Q, HQ⟩ : ∃ Q, Hid (promJ x ka kb = Q) := ⟨_, rfl⟩
  rw [HQ.out] at hct ⊢
  clear hx hy hB hz hzc hs
  unfold acV
  have a0 : (acA ⟨2, ka, kb, ks, kc⟩ D d D2 d2)[0]? = some (.int .i64 2) := rfl
  have a1 : (acA ⟨2, ka, kb, ks, kc⟩ D d D2 d2)[1]? = some (.int .i64 ka) := rfl
  have a2 : (acA ⟨2, ka, kb, ks, kc⟩ D d D2 d2)[2]? = some (.int .i64 kb) := rfl
  have AS := Lib.hid (acA_size ⟨2, ka, kb, ks, kc⟩ D d D2 d2)
  obtain ⟨av, has⟩ : ∃ av, Hid (acA ⟨2, ka, kb, ks, kc⟩ D d D2 d2 = av) := ⟨_, rfl⟩
  rw [has.out] at a0 a1 a2 AS ⊢
  rw [jbV_is] at hct ⊢
  have HS := Lib.hid (jbA_size x A c A2 c2)
  have H1 := Lib.hid (jbA_one x A c A2 c2)
  obtain ⟨cs, hcs⟩ : ∃ cs, Hid (jbA x A c A2 c2 = cs) := ⟨_, rfl⟩
  rw [hcs.out] at HS H1 hct ⊢
  obtain ⟨V, hV⟩ : ∃ V, Hid ((((w.alloc (.cells cs 28)).alloc (.cells av 32)).alloc (.cells #[.int .i64 0, .string ⟨#[]⟩, .string ⟨#[]⟩, .string ⟨#[]⟩, .int .i64 0, .slice none 0 0, .int .i64 0, .int .i64 0, .int .i64 0, .int .i64 0, .slice none 0 0, .int .i64 0, .bool false, .int .i64 0, .int .i64 0, .int .i64 0, .int .i64 0, .int .i64 0, .int .u64 0, .int .i64 0] 28)) = V) := ⟨_, rfl⟩
  obtain ⟨hb, hz, g0, g1, g2⟩ := wd_facts w cs av
  have k0 : (Wd w cs av).cell? ⟨w.heap.size + 1, 0, none⟩ = some (.int .i64 2) := (cell_of_row _ _ 0 _ _ _ g1).trans a0
  have k1 : (Wd w cs av).cell? ⟨w.heap.size + 1, 1, none⟩ = some (.int .i64 ka) := (cell_of_row _ _ 1 _ _ _ g1).trans a1
  have k2 : (Wd w cs av).cell? ⟨w.heap.size + 1, 2, none⟩ = some (.int .i64 kb) := (cell_of_row _ _ 2 _ _ _ g1).trans a2
  have G0 := Lib.hid g0
  rw [show Wd w cs av = V from hV.out] at hb hz g2
  have HB := Lib.hid hb
  have hs : w.heap.size + 2 < V.heap.size := by omega
  have GR := Lib.hid g2
  have CT := Lib.hid (hct.out V hb)
  clear hb hz g0 g1 g2 hct
  have hs1 : w.heap.size + 1 < V.heap.size := by omega
  have hs0 : w.heap.size < V.heap.size := by omega
  go_enter Tryz.func15, Tryz.ntmps15
  go_wp2_with (first
    | (refine wpList_load_row rfl 28 _ rfl (w.heap.size) rfl 28 _ (0, 0) _ G0.out Tryz.underlying28 rfl (info30 HS.out) ?_))
  rw [hV.out]
  refine CT.out.mono ?_; rintro e w1 ⟨A5, c5, A6, c6, rfl, hat, hoff, hb1⟩
  have gr := (hb1.block (w.heap.size + 2) hs).trans GR.out
  have GR1 := Lib.hid gr
  have hs2 : w.heap.size + 2 < w1.heap.size := (Array.getElem?_eq_some_iff.1 gr).1
  have HEND := Lib.hid (fun l => retX_end (w := w) (q := Q) (row := none) HB.out hs (by omega) (fun k h => by cases h) hat hoff (Kp.of_below hb1) l)
  clear hat hoff hb1 gr
  rw [jbV_is]
  go_wp2_with (refine wpList_store_row rfl 28 _ _ rfl (w.heap.size + 2) _ rfl rfl 28 _ GR1.out (info30 (jbA_size _ _ _ _ _)) rfl (jbA_one _ _ _ _ _) ?_)
  (try simp only [Exit.inBlock, Exit.then])
  refine bodyPost_ret (results_cell2 rfl _ _ (w.heap.size + 2) _ _ _ _ rfl (setRow_heap _ _ _ _ _ _ GR1.out) Tryz.underlying28 rfl (info30 (jbA_size _ _ _ _ _))) rfl ?_
  exact HEND.out _
set_option linter.unusedSimpArgs false in
set_option maxHeartbeats 4000000 in
set_option maxRecDepth 100000 in
theorem do_dropped (x : Jb) (ka kb : Int) (ks : Nat) (kc : Cm) (A A2 D D2 : Option Addr) (c c2 d d2 B : Nat) (w : World) (hx : JbAt w B x A c A2 c2) (hy : CmAt w B kc D d D2 d2) (hB : B ≤ w.heap.size) (hz : JbSz x) (hzc : CmSz kc) (hs : ks < M64) :
    Calls Tryz.prog 15 #[jbV x A c A2 c2, acV ⟨3, ka, kb, ks, kc⟩ D d D2 d2] w (RetJX w (doJ x ⟨3, ka, kb, ks, kc⟩)) := by
  have hct := Lib.hid (fun v (hv : Below w.heap.size w v) => drop_any x A A2 c c2 B v (hx.below (hv.mono hB)) (Nat.le_trans hB hv.size) hz)
  rw [show doJ x ⟨3, ka, kb, ks, kc⟩ = dropJ x by unfold doJ; rfl]
  obtain ⟨Q, HQ⟩ : ∃ Q, Hid (dropJ x = Q) := ⟨_, rfl⟩
  rw [HQ.out] at hct ⊢
  clear hx hy hB hz hzc hs
  unfold acV
  have a0 : (acA ⟨3, ka, kb, ks, kc⟩ D d D2 d2)[0]? = some (.int .i64 3) := rfl
  have AS := Lib.hid (acA_size ⟨3, ka, kb, ks, kc⟩ D d D2 d2)
  obtain ⟨av, has⟩ : ∃ av, Hid (acA ⟨3, ka, kb, ks, kc⟩ D d D2 d2 = av) := ⟨_, rfl⟩
  rw [has.out] at a0 AS ⊢
  rw [jbV_is] at hct ⊢
  have HS := Lib.hid (jbA_size x A c A2 c2)
  have H1 := Lib.hid (jbA_one x A c A2 c2)
  obtain ⟨cs, hcs⟩ : ∃ cs, Hid (jbA x A c A2 c2 = cs) := ⟨_, rfl⟩
  rw [hcs.out] at HS H1 hct ⊢
  obtain ⟨V, hV⟩ : ∃ V, Hid ((((w.alloc (.cells cs 28)).alloc (.cells av 32)).alloc (.cells #[.int .i64 0, .string ⟨#[]⟩, .string ⟨#[]⟩, .string ⟨#[]⟩, .int .i64 0, .slice none 0 0, .int .i64 0, .int .i64 0, .int .i64 0, .int .i64 0, .slice none 0 0, .int .i64 0, .bool false, .int .i64 0, .int .i64 0, .int .i64 0, .int .i64 0, .int .i64 0, .int .u64 0, .int .i64 0] 28)) = V) := ⟨_, rfl⟩
  obtain ⟨hb, hz, g0, g1, g2⟩ := wd_facts w cs av
  have k0 : (Wd w cs av).cell? ⟨w.heap.size + 1, 0, none⟩ = some (.int .i64 3) := (cell_of_row _ _ 0 _ _ _ g1).trans a0
  have G0 := Lib.hid g0
  rw [show Wd w cs av = V from hV.out] at hb hz g2
  have HB := Lib.hid hb
  have hs : w.heap.size + 2 < V.heap.size := by omega
  have GR := Lib.hid g2
  have CT := Lib.hid (hct.out V hb)
  clear hb hz g0 g1 g2 hct
  have hs1 : w.heap.size + 1 < V.heap.size := by omega
  have hs0 : w.heap.size < V.heap.size := by omega
  go_enter Tryz.func15, Tryz.ntmps15
  go_wp2_with (first
    | (refine wpList_load_row rfl 28 _ rfl (w.heap.size) rfl 28 _ (0, 0) _ G0.out Tryz.underlying28 rfl (info30 HS.out) ?_))
  rw [hV.out]
  refine CT.out.mono ?_; rintro e w1 ⟨A5, c5, A6, c6, rfl, hat, hoff, hb1⟩
  have gr := (hb1.block (w.heap.size + 2) hs).trans GR.out
  have GR1 := Lib.hid gr
  have hs2 : w.heap.size + 2 < w1.heap.size := (Array.getElem?_eq_some_iff.1 gr).1
  have HEND := Lib.hid (fun l => retX_end (w := w) (q := Q) (row := none) HB.out hs (by omega) (fun k h => by cases h) hat hoff (Kp.of_below hb1) l)
  clear hat hoff hb1 gr
  rw [jbV_is]
  go_wp2_with (refine wpList_store_row rfl 28 _ _ rfl (w.heap.size + 2) _ rfl rfl 28 _ GR1.out (info30 (jbA_size _ _ _ _ _)) rfl (jbA_one _ _ _ _ _) ?_)
  (try simp only [Exit.inBlock, Exit.then])
  refine bodyPost_ret (results_cell2 rfl _ _ (w.heap.size + 2) _ _ _ _ rfl (setRow_heap _ _ _ _ _ _ GR1.out) Tryz.underlying28 rfl (info30 (jbA_size _ _ _ _ _))) rfl ?_
  exact HEND.out _
set_option linter.unusedSimpArgs false in
set_option maxHeartbeats 4000000 in
set_option maxRecDepth 100000 in
theorem do_started (x : Jb) (ka kb : Int) (ks : Nat) (kc : Cm) (A A2 D D2 : Option Addr) (c c2 d d2 B : Nat) (w : World) (hx : JbAt w B x A c A2 c2) (hy : CmAt w B kc D d D2 d2) (hB : B ≤ w.heap.size) (hz : JbSz x) (hzc : CmSz kc) (hs : ks < M64) :
    Calls Tryz.prog 15 #[jbV x A c A2 c2, acV ⟨4, ka, kb, ks, kc⟩ D d D2 d2] w (RetJX w (doJ x ⟨4, ka, kb, ks, kc⟩)) := by
  have hct := Lib.hid (fun v (hv : Below w.heap.size w v) => start_any x ka ks A A2 c c2 B v (hx.below (hv.mono hB)) (Nat.le_trans hB hv.size) hz hs)
  rw [show doJ x ⟨4, ka, kb, ks, kc⟩ = startJ x ka ks by unfold doJ; rfl]
  obtain ⟨Q, HQ⟩ : ∃ Q, Hid (startJ x ka ks = Q) := ⟨_, rfl⟩
  rw [HQ.out] at hct ⊢
  clear hx hy hB hz hzc hs
  unfold acV
  have a0 : (acA ⟨4, ka, kb, ks, kc⟩ D d D2 d2)[0]? = some (.int .i64 4) := rfl
  have a1 : (acA ⟨4, ka, kb, ks, kc⟩ D d D2 d2)[1]? = some (.int .i64 ka) := rfl
  have a3 : (acA ⟨4, ka, kb, ks, kc⟩ D d D2 d2)[3]? = some (.int .u64 ks) := rfl
  have AS := Lib.hid (acA_size ⟨4, ka, kb, ks, kc⟩ D d D2 d2)
  obtain ⟨av, has⟩ : ∃ av, Hid (acA ⟨4, ka, kb, ks, kc⟩ D d D2 d2 = av) := ⟨_, rfl⟩
  rw [has.out] at a0 a1 a3 AS ⊢
  rw [jbV_is] at hct ⊢
  have HS := Lib.hid (jbA_size x A c A2 c2)
  have H1 := Lib.hid (jbA_one x A c A2 c2)
  obtain ⟨cs, hcs⟩ : ∃ cs, Hid (jbA x A c A2 c2 = cs) := ⟨_, rfl⟩
  rw [hcs.out] at HS H1 hct ⊢
  obtain ⟨us, HU⟩ : ∃ u : Int, Hid ((ks : Int) = u) := ⟨_, rfl⟩
  rw [HU.out] at hct a3
  obtain ⟨V, hV⟩ : ∃ V, Hid ((((w.alloc (.cells cs 28)).alloc (.cells av 32)).alloc (.cells #[.int .i64 0, .string ⟨#[]⟩, .string ⟨#[]⟩, .string ⟨#[]⟩, .int .i64 0, .slice none 0 0, .int .i64 0, .int .i64 0, .int .i64 0, .int .i64 0, .slice none 0 0, .int .i64 0, .bool false, .int .i64 0, .int .i64 0, .int .i64 0, .int .i64 0, .int .i64 0, .int .u64 0, .int .i64 0] 28)) = V) := ⟨_, rfl⟩
  obtain ⟨hb, hz, g0, g1, g2⟩ := wd_facts w cs av
  have k0 : (Wd w cs av).cell? ⟨w.heap.size + 1, 0, none⟩ = some (.int .i64 4) := (cell_of_row _ _ 0 _ _ _ g1).trans a0
  have k1 : (Wd w cs av).cell? ⟨w.heap.size + 1, 1, none⟩ = some (.int .i64 ka) := (cell_of_row _ _ 1 _ _ _ g1).trans a1
  have k3 : (Wd w cs av).cell? ⟨w.heap.size + 1, 3, none⟩ = some (.int .u64 us) := (cell_of_row _ _ 3 _ _ _ g1).trans a3
  have G0 := Lib.hid g0
  rw [show Wd w cs av = V from hV.out] at hb hz g2
  have HB := Lib.hid hb
  have hs : w.heap.size + 2 < V.heap.size := by omega
  have GR := Lib.hid g2
  have CT := Lib.hid (hct.out V hb)
  clear hb hz g0 g1 g2 hct
  have hs1 : w.heap.size + 1 < V.heap.size := by omega
  have hs0 : w.heap.size < V.heap.size := by omega
  go_enter Tryz.func15, Tryz.ntmps15
  go_wp2_with (first
    | (refine wpList_load_row rfl 28 _ rfl (w.heap.size) rfl 28 _ (0, 0) _ G0.out Tryz.underlying28 rfl (info30 HS.out) ?_))
  rw [hV.out]
  refine CT.out.mono ?_; rintro e w1 ⟨A5, c5, A6, c6, rfl, hat, hoff, hb1⟩
  have gr := (hb1.block (w.heap.size + 2) hs).trans GR.out
  have GR1 := Lib.hid gr
  have hs2 : w.heap.size + 2 < w1.heap.size := (Array.getElem?_eq_some_iff.1 gr).1
  have HEND := Lib.hid (fun l => retX_end (w := w) (q := Q) (row := none) HB.out hs (by omega) (fun k h => by cases h) hat hoff (Kp.of_below hb1) l)
  clear hat hoff hb1 gr
  rw [jbV_is]
  go_wp2_with (refine wpList_store_row rfl 28 _ _ rfl (w.heap.size + 2) _ rfl rfl 28 _ GR1.out (info30 (jbA_size _ _ _ _ _)) rfl (jbA_one _ _ _ _ _) ?_)
  (try simp only [Exit.inBlock, Exit.then])
  refine bodyPost_ret (results_cell2 rfl _ _ (w.heap.size + 2) _ _ _ _ rfl (setRow_heap _ _ _ _ _ _ GR1.out) Tryz.underlying28 rfl (info30 (jbA_size _ _ _ _ _))) rfl ?_
  exact HEND.out _
set_option linter.unusedSimpArgs false in
set_option maxHeartbeats 4000000 in
set_option maxRecDepth 100000 in
theorem do_sized (x : Jb) (ka kb : Int) (ks : Nat) (kc : Cm) (A A2 D D2 : Option Addr) (c c2 d d2 B : Nat) (w : World) (hx : JbAt w B x A c A2 c2) (hy : CmAt w B kc D d D2 d2) (hB : B ≤ w.heap.size) (hz : JbSz x) (hzc : CmSz kc) (hs : ks < M64) :
    Calls Tryz.prog 15 #[jbV x A c A2 c2, acV ⟨5, ka, kb, ks, kc⟩ D d D2 d2] w (RetJX w (doJ x ⟨5, ka, kb, ks, kc⟩)) := by
  have hct := Lib.hid (fun v (hv : Below w.heap.size w v) => size_any x ks A A2 c c2 B v (hx.below (hv.mono hB)) (Nat.le_trans hB hv.size) hz hs)
  rw [show doJ x ⟨5, ka, kb, ks, kc⟩ = sizeJ x ks by unfold doJ; rfl]
  obtain ⟨Q, HQ⟩ : ∃ Q, Hid (sizeJ x ks = Q) := ⟨_, rfl⟩
  rw [HQ.out] at hct ⊢
  clear hx hy hB hz hzc hs
  unfold acV
  have a0 : (acA ⟨5, ka, kb, ks, kc⟩ D d D2 d2)[0]? = some (.int .i64 5) := rfl
  have a3 : (acA ⟨5, ka, kb, ks, kc⟩ D d D2 d2)[3]? = some (.int .u64 ks) := rfl
  have AS := Lib.hid (acA_size ⟨5, ka, kb, ks, kc⟩ D d D2 d2)
  obtain ⟨av, has⟩ : ∃ av, Hid (acA ⟨5, ka, kb, ks, kc⟩ D d D2 d2 = av) := ⟨_, rfl⟩
  rw [has.out] at a0 a3 AS ⊢
  rw [jbV_is] at hct ⊢
  have HS := Lib.hid (jbA_size x A c A2 c2)
  have H1 := Lib.hid (jbA_one x A c A2 c2)
  obtain ⟨cs, hcs⟩ : ∃ cs, Hid (jbA x A c A2 c2 = cs) := ⟨_, rfl⟩
  rw [hcs.out] at HS H1 hct ⊢
  obtain ⟨us, HU⟩ : ∃ u : Int, Hid ((ks : Int) = u) := ⟨_, rfl⟩
  rw [HU.out] at hct a3
  obtain ⟨V, hV⟩ : ∃ V, Hid ((((w.alloc (.cells cs 28)).alloc (.cells av 32)).alloc (.cells #[.int .i64 0, .string ⟨#[]⟩, .string ⟨#[]⟩, .string ⟨#[]⟩, .int .i64 0, .slice none 0 0, .int .i64 0, .int .i64 0, .int .i64 0, .int .i64 0, .slice none 0 0, .int .i64 0, .bool false, .int .i64 0, .int .i64 0, .int .i64 0, .int .i64 0, .int .i64 0, .int .u64 0, .int .i64 0] 28)) = V) := ⟨_, rfl⟩
  obtain ⟨hb, hz, g0, g1, g2⟩ := wd_facts w cs av
  have k0 : (Wd w cs av).cell? ⟨w.heap.size + 1, 0, none⟩ = some (.int .i64 5) := (cell_of_row _ _ 0 _ _ _ g1).trans a0
  have k3 : (Wd w cs av).cell? ⟨w.heap.size + 1, 3, none⟩ = some (.int .u64 us) := (cell_of_row _ _ 3 _ _ _ g1).trans a3
  have G0 := Lib.hid g0
  rw [show Wd w cs av = V from hV.out] at hb hz g2
  have HB := Lib.hid hb
  have hs : w.heap.size + 2 < V.heap.size := by omega
  have GR := Lib.hid g2
  have CT := Lib.hid (hct.out V hb)
  clear hb hz g0 g1 g2 hct
  have hs1 : w.heap.size + 1 < V.heap.size := by omega
  have hs0 : w.heap.size < V.heap.size := by omega
  go_enter Tryz.func15, Tryz.ntmps15
  go_wp2_with (first
    | (refine wpList_load_row rfl 28 _ rfl (w.heap.size) rfl 28 _ (0, 0) _ G0.out Tryz.underlying28 rfl (info30 HS.out) ?_))
  rw [hV.out]
  refine CT.out.mono ?_; rintro e w1 ⟨A5, c5, A6, c6, rfl, hat, hoff, hb1⟩
  have gr := (hb1.block (w.heap.size + 2) hs).trans GR.out
  have GR1 := Lib.hid gr
  have hs2 : w.heap.size + 2 < w1.heap.size := (Array.getElem?_eq_some_iff.1 gr).1
  have HEND := Lib.hid (fun l => retX_end (w := w) (q := Q) (row := none) HB.out hs (by omega) (fun k h => by cases h) hat hoff (Kp.of_below hb1) l)
  clear hat hoff hb1 gr
  rw [jbV_is]
  go_wp2_with (refine wpList_store_row rfl 28 _ _ rfl (w.heap.size + 2) _ rfl rfl 28 _ GR1.out (info30 (jbA_size _ _ _ _ _)) rfl (jbA_one _ _ _ _ _) ?_)
  (try simp only [Exit.inBlock, Exit.then])
  refine bodyPost_ret (results_cell2 rfl _ _ (w.heap.size + 2) _ _ _ _ rfl (setRow_heap _ _ _ _ _ _ GR1.out) Tryz.underlying28 rfl (info30 (jbA_size _ _ _ _ _))) rfl ?_
  exact HEND.out _
set_option linter.unusedSimpArgs false in
set_option maxHeartbeats 4000000 in
set_option maxRecDepth 100000 in
theorem do_ended (x : Jb) (ka kb : Int) (ks : Nat) (kc : Cm) (A A2 D D2 : Option Addr) (c c2 d d2 B : Nat) (w : World) (hx : JbAt w B x A c A2 c2) (hy : CmAt w B kc D d D2 d2) (hB : B ≤ w.heap.size) (hz : JbSz x) (hzc : CmSz kc) (hs : ks < M64) :
    Calls Tryz.prog 15 #[jbV x A c A2 c2, acV ⟨6, ka, kb, ks, kc⟩ D d D2 d2] w (RetJX w (doJ x ⟨6, ka, kb, ks, kc⟩)) := by
  have hct := Lib.hid (fun v (hv : Below w.heap.size w v) => end_any x ka A A2 c c2 B v (hx.below (hv.mono hB)) (Nat.le_trans hB hv.size) hz)
  rw [show doJ x ⟨6, ka, kb, ks, kc⟩ = endJ x ka by unfold doJ; rfl]
  obtain ⟨Q, HQ⟩ : ∃ Q, Hid (endJ x ka = Q) := ⟨_, rfl⟩
  rw [HQ.out] at hct ⊢
  clear hx hy hB hz hzc hs
  unfold acV
  have a0 : (acA ⟨6, ka, kb, ks, kc⟩ D d D2 d2)[0]? = some (.int .i64 6) := rfl
  have a1 : (acA ⟨6, ka, kb, ks, kc⟩ D d D2 d2)[1]? = some (.int .i64 ka) := rfl
  have AS := Lib.hid (acA_size ⟨6, ka, kb, ks, kc⟩ D d D2 d2)
  obtain ⟨av, has⟩ : ∃ av, Hid (acA ⟨6, ka, kb, ks, kc⟩ D d D2 d2 = av) := ⟨_, rfl⟩
  rw [has.out] at a0 a1 AS ⊢
  rw [jbV_is] at hct ⊢
  have HS := Lib.hid (jbA_size x A c A2 c2)
  have H1 := Lib.hid (jbA_one x A c A2 c2)
  obtain ⟨cs, hcs⟩ : ∃ cs, Hid (jbA x A c A2 c2 = cs) := ⟨_, rfl⟩
  rw [hcs.out] at HS H1 hct ⊢
  obtain ⟨V, hV⟩ : ∃ V, Hid ((((w.alloc (.cells cs 28)).alloc (.cells av 32)).alloc (.cells #[.int .i64 0, .string ⟨#[]⟩, .string ⟨#[]⟩, .string ⟨#[]⟩, .int .i64 0, .slice none 0 0, .int .i64 0, .int .i64 0, .int .i64 0, .int .i64 0, .slice none 0 0, .int .i64 0, .bool false, .int .i64 0, .int .i64 0, .int .i64 0, .int .i64 0, .int .i64 0, .int .u64 0, .int .i64 0] 28)) = V) := ⟨_, rfl⟩
  obtain ⟨hb, hz, g0, g1, g2⟩ := wd_facts w cs av
  have k0 : (Wd w cs av).cell? ⟨w.heap.size + 1, 0, none⟩ = some (.int .i64 6) := (cell_of_row _ _ 0 _ _ _ g1).trans a0
  have k1 : (Wd w cs av).cell? ⟨w.heap.size + 1, 1, none⟩ = some (.int .i64 ka) := (cell_of_row _ _ 1 _ _ _ g1).trans a1
  have G0 := Lib.hid g0
  rw [show Wd w cs av = V from hV.out] at hb hz g2
  have HB := Lib.hid hb
  have hs : w.heap.size + 2 < V.heap.size := by omega
  have GR := Lib.hid g2
  have CT := Lib.hid (hct.out V hb)
  clear hb hz g0 g1 g2 hct
  have hs1 : w.heap.size + 1 < V.heap.size := by omega
  have hs0 : w.heap.size < V.heap.size := by omega
  go_enter Tryz.func15, Tryz.ntmps15
  go_wp2_with (first
    | (refine wpList_load_row rfl 28 _ rfl (w.heap.size) rfl 28 _ (0, 0) _ G0.out Tryz.underlying28 rfl (info30 HS.out) ?_))
  rw [hV.out]
  refine CT.out.mono ?_; rintro e w1 ⟨A5, c5, A6, c6, rfl, hat, hoff, hb1⟩
  have gr := (hb1.block (w.heap.size + 2) hs).trans GR.out
  have GR1 := Lib.hid gr
  have hs2 : w.heap.size + 2 < w1.heap.size := (Array.getElem?_eq_some_iff.1 gr).1
  have HEND := Lib.hid (fun l => retX_end (w := w) (q := Q) (row := none) HB.out hs (by omega) (fun k h => by cases h) hat hoff (Kp.of_below hb1) l)
  clear hat hoff hb1 gr
  rw [jbV_is]
  go_wp2_with (refine wpList_store_row rfl 28 _ _ rfl (w.heap.size + 2) _ rfl rfl 28 _ GR1.out (info30 (jbA_size _ _ _ _ _)) rfl (jbA_one _ _ _ _ _) ?_)
  (try simp only [Exit.inBlock, Exit.then])
  refine bodyPost_ret (results_cell2 rfl _ _ (w.heap.size + 2) _ _ _ _ rfl (setRow_heap _ _ _ _ _ _ GR1.out) Tryz.underlying28 rfl (info30 (jbA_size _ _ _ _ _))) rfl ?_
  exact HEND.out _
set_option linter.unusedSimpArgs false in
set_option maxHeartbeats 4000000 in
set_option maxRecDepth 100000 in
theorem do_altered (x : Jb) (ka kb : Int) (ks : Nat) (kc : Cm) (A A2 D D2 : Option Addr) (c c2 d d2 B : Nat) (w : World) (hx : JbAt w B x A c A2 c2) (hy : CmAt w B kc D d D2 d2) (hB : B ≤ w.heap.size) (hz : JbSz x) (hzc : CmSz kc) (hs : ks < M64) :
    Calls Tryz.prog 15 #[jbV x A c A2 c2, acV ⟨7, ka, kb, ks, kc⟩ D d D2 d2] w (RetJX w (doJ x ⟨7, ka, kb, ks, kc⟩)) := by
  have hct := Lib.hid (fun v (hv : Below w.heap.size w v) => alter_any x kc A A2 D D2 c c2 d d2 B v (hx.below (hv.mono hB)) (Nat.le_trans hB hv.size) hz (hy.below (hv.mono hB)) hzc)
  rw [show doJ x ⟨7, ka, kb, ks, kc⟩ = altJ x kc by unfold doJ; rfl]
  obtain ⟨Q, HQ⟩ : ∃ Q, Hid (altJ x kc = Q) := ⟨_, rfl⟩
  rw [HQ.out] at hct ⊢
  clear hx hy hB hz hzc hs
  unfold acV
  have a0 : (acA ⟨7, ka, kb, ks, kc⟩ D d D2 d2)[0]? = some (.int .i64 7) := rfl
  have ac : ∀ j v, (cmC kc D d D2 d2)[j]? = some v → (acA ⟨7, ka, kb, ks, kc⟩ D d D2 d2)[4 + j]? = some v := fun j v h => by
    rw [show 4 + j = j + 4 by omega]; simpa [acA, acC] using h
  have AS := Lib.hid (acA_size ⟨7, ka, kb, ks, kc⟩ D d D2 d2)
  obtain ⟨av, has⟩ : ∃ av, Hid (acA ⟨7, ka, kb, ks, kc⟩ D d D2 d2 = av) := ⟨_, rfl⟩
  rw [has.out] at a0 ac AS ⊢
  rw [cmV_is] at hct
  have CS : (Tryz.prog.info? 30).map (·.size) = some (cmC kc D d D2 d2).length := by show _ = some 18; kernel_rfl
  unfold cmA at hct
  have CSZ := Lib.hid CS
  clear CS
  obtain ⟨ds, hds⟩ : ∃ ds, Hid (cmC kc D d D2 d2 = ds) := ⟨_, rfl⟩
  rw [hds.out] at hct ac CSZ
  rw [jbV_is] at hct ⊢
  have HS := Lib.hid (jbA_size x A c A2 c2)
  have H1 := Lib.hid (jbA_one x A c A2 c2)
  obtain ⟨cs, hcs⟩ : ∃ cs, Hid (jbA x A c A2 c2 = cs) := ⟨_, rfl⟩
  rw [hcs.out] at HS H1 hct ⊢
  obtain ⟨V, hV⟩ : ∃ V, Hid ((((w.alloc (.cells cs 28)).alloc (.cells av 32)).alloc (.cells #[.int .i64 0, .string ⟨#[]⟩, .string ⟨#[]⟩, .string ⟨#[]⟩, .int .i64 0, .slice none 0 0, .int .i64 0, .int .i64 0, .int .i64 0, .int .i64 0, .slice none 0 0, .int .i64 0, .bool false, .int .i64 0, .int .i64 0, .int .i64 0, .int .i64 0, .int .i64 0, .int .u64 0, .int .i64 0] 28)) = V) := ⟨_, rfl⟩
  obtain ⟨hb, hz, g0, g1, g2⟩ := wd_facts w cs av
  have k0 : (Wd w cs av).cell? ⟨w.heap.size + 1, 0, none⟩ = some (.int .i64 7) := (cell_of_row _ _ 0 _ _ _ g1).trans a0
  have KR : Hid ((Wd w cs av).rangeAt (w.heap.size + 1) 4 ds) := fun j u hu => (cell_of_row _ _ (4 + j) _ _ _ g1).trans (ac j u hu)
  have G0 := Lib.hid g0
  rw [show Wd w cs av = V from hV.out] at hb hz g2
  have HB := Lib.hid hb
  have hs : w.heap.size + 2 < V.heap.size := by omega
  have GR := Lib.hid g2
  have CT := Lib.hid (hct.out V hb)
  clear hb hz g0 g1 g2 hct
  have hs1 : w.heap.size + 1 < V.heap.size := by omega
  have hs0 : w.heap.size < V.heap.size := by omega
  go_enter Tryz.func15, Tryz.ntmps15
  go_wp2_with (first
    | (refine wpList_load_row rfl 28 _ rfl (w.heap.size) rfl 28 _ (0, 0) _ G0.out Tryz.underlying28 rfl (info30 HS.out) ?_)
    | (refine wpList_load_mid rfl 30 _ rfl (w.heap.size + 1) 4 rfl ds _ KR.out Tryz.underlying30 rfl CSZ.out ?_))
  rw [hV.out]
  refine CT.out.mono ?_; rintro e w1 ⟨A5, c5, A6, c6, rfl, hat, hoff, hb1⟩
  have gr := (hb1.block (w.heap.size + 2) hs).trans GR.out
  have GR1 := Lib.hid gr
  have hs2 : w.heap.size + 2 < w1.heap.size := (Array.getElem?_eq_some_iff.1 gr).1
  have HEND := Lib.hid (fun l => retX_end (w := w) (q := Q) (row := none) HB.out hs (by omega) (fun k h => by cases h) hat hoff (Kp.of_below hb1) l)
  clear hat hoff hb1 gr
  rw [jbV_is]
  go_wp2_with (refine wpList_store_row rfl 28 _ _ rfl (w.heap.size + 2) _ rfl rfl 28 _ GR1.out (info30 (jbA_size _ _ _ _ _)) rfl (jbA_one _ _ _ _ _) ?_)
  (try simp only [Exit.inBlock, Exit.then])
  refine bodyPost_ret (results_cell2 rfl _ _ (w.heap.size + 2) _ _ _ _ rfl (setRow_heap _ _ _ _ _ _ GR1.out) Tryz.underlying28 rfl (info30 (jbA_size _ _ _ _ _))) rfl ?_
  exact HEND.out _
set_option linter.unusedSimpArgs false in
set_option maxHeartbeats 4000000 in
set_option maxRecDepth 100000 in
theorem do_charged (x : Jb) (kk ka kb : Int) (ks : Nat) (kc : Cm) (A A2 D D2 : Option Addr) (c c2 d d2 B : Nat) (w : World) (hx : JbAt w B x A c A2 c2) (hy : CmAt w B kc D d D2 d2) (hB : B ≤ w.heap.size) (hz : JbSz x) (hzc : CmSz kc) (hs : ks < M64) (hk : kk < 0 ∨ 7 < kk) :
    Calls Tryz.prog 15 #[jbV x A c A2 c2, acV ⟨kk, ka, kb, ks, kc⟩ D d D2 d2] w (RetJX w (doJ x ⟨kk, ka, kb, ks, kc⟩)) := by
  have hct := Lib.hid (fun v (hv : Below w.heap.size w v) => charge_any x ka A A2 c c2 B v (hx.below (hv.mono hB)) (Nat.le_trans hB hv.size) hz)
  rw [show doJ x ⟨kk, ka, kb, ks, kc⟩ = chargeJ x ka by unfold doJ; simp only []; rw [if_neg (by omega), if_neg (by omega), if_neg (by omega), if_neg (by omega), if_neg (by omega), if_neg (by omega), if_neg (by omega)]]
  obtain ⟨Q, HQ⟩ : ∃ Q, Hid (chargeJ x ka = Q) := ⟨_, rfl⟩
  rw [HQ.out] at hct ⊢
  have t0 : (kk == 0) = false := beq_eq_false_iff_ne.2 (by omega)
  have t1 : (kk == 1) = false := beq_eq_false_iff_ne.2 (by omega)
  have t2 : (kk == 2) = false := beq_eq_false_iff_ne.2 (by omega)
  have t3 : (kk == 3) = false := beq_eq_false_iff_ne.2 (by omega)
  have t4 : (kk == 4) = false := beq_eq_false_iff_ne.2 (by omega)
  have t5 : (kk == 5) = false := beq_eq_false_iff_ne.2 (by omega)
  have t6 : (kk == 6) = false := beq_eq_false_iff_ne.2 (by omega)
  have t7 : (kk == 7) = false := beq_eq_false_iff_ne.2 (by omega)
  clear hx hy hB hz hzc hs hk
  unfold acV
  have a0 : (acA ⟨kk, ka, kb, ks, kc⟩ D d D2 d2)[0]? = some (.int .i64 kk) := rfl
  have a1 : (acA ⟨kk, ka, kb, ks, kc⟩ D d D2 d2)[1]? = some (.int .i64 ka) := rfl
  have AS := Lib.hid (acA_size ⟨kk, ka, kb, ks, kc⟩ D d D2 d2)
  obtain ⟨av, has⟩ : ∃ av, Hid (acA ⟨kk, ka, kb, ks, kc⟩ D d D2 d2 = av) := ⟨_, rfl⟩
  rw [has.out] at a0 a1 AS ⊢
  rw [jbV_is] at hct ⊢
  have HS := Lib.hid (jbA_size x A c A2 c2)
  have H1 := Lib.hid (jbA_one x A c A2 c2)
  obtain ⟨cs, hcs⟩ : ∃ cs, Hid (jbA x A c A2 c2 = cs) := ⟨_, rfl⟩
  rw [hcs.out] at HS H1 hct ⊢
  obtain ⟨V, hV⟩ : ∃ V, Hid ((((w.alloc (.cells cs 28)).alloc (.cells av 32)).alloc (.cells #[.int .i64 0, .string ⟨#[]⟩, .string ⟨#[]⟩, .string ⟨#[]⟩, .int .i64 0, .slice none 0 0, .int .i64 0, .int .i64 0, .int .i64 0, .int .i64 0, .slice none 0 0, .int .i64 0, .bool false, .int .i64 0, .int .i64 0, .int .i64 0, .int .i64 0, .int .i64 0, .int .u64 0, .int .i64 0] 28)) = V) := ⟨_, rfl⟩
  obtain ⟨hb, hz, g0, g1, g2⟩ := wd_facts w cs av
  have k0 : (Wd w cs av).cell? ⟨w.heap.size + 1, 0, none⟩ = some (.int .i64 kk) := (cell_of_row _ _ 0 _ _ _ g1).trans a0
  have k1 : (Wd w cs av).cell? ⟨w.heap.size + 1, 1, none⟩ = some (.int .i64 ka) := (cell_of_row _ _ 1 _ _ _ g1).trans a1
  have G0 := Lib.hid g0
  rw [show Wd w cs av = V from hV.out] at hb hz g2
  have HB := Lib.hid hb
  have hs : w.heap.size + 2 < V.heap.size := by omega
  have GR := Lib.hid g2
  have CT := Lib.hid (hct.out V hb)
  clear hb hz g0 g1 g2 hct
  have hs1 : w.heap.size + 1 < V.heap.size := by omega
  have hs0 : w.heap.size < V.heap.size := by omega
  go_enter Tryz.func15, Tryz.ntmps15
  go_wp2_with (first
    | (refine wpList_load_row rfl 28 _ rfl (w.heap.size) rfl 28 _ (0, 0) _ G0.out Tryz.underlying28 rfl (info30 HS.out) ?_))
  rw [hV.out]
  refine CT.out.mono ?_; rintro e w1 ⟨A5, c5, A6, c6, rfl, hat, hoff, hb1⟩
  have gr := (hb1.block (w.heap.size + 2) hs).trans GR.out
  have GR1 := Lib.hid gr
  have hs2 : w.heap.size + 2 < w1.heap.size := (Array.getElem?_eq_some_iff.1 gr).1
  have HEND := Lib.hid (fun l => retX_end (w := w) (q := Q) (row := none) HB.out hs (by omega) (fun k h => by cases h) hat hoff (Kp.of_below hb1) l)
  clear hat hoff hb1 gr
  rw [jbV_is]
  go_wp2_with (refine wpList_store_row rfl 28 _ _ rfl (w.heap.size + 2) _ rfl rfl 28 _ GR1.out (info30 (jbA_size _ _ _ _ _)) rfl (jbA_one _ _ _ _ _) ?_)
  (try simp only [Exit.inBlock, Exit.then])
  refine bodyPost_ret (results_cell2 rfl _ _ (w.heap.size + 2) _ _ _ _ rfl (setRow_heap _ _ _ _ _ _ GR1.out) Tryz.underlying28 rfl (info30 (jbA_size _ _ _ _ _))) rfl ?_
  exact HEND.out _
theorem do_any (x : Jb) (a : Ac) (A A2 D D2 : Option Addr) (c c2 d d2 B : Nat) (w : World) (hx : JbAt w B x A c A2 c2) (hy : CmAt w B a.cmd D d D2 d2) (hB : B ≤ w.heap.size) (hz : JbSz x) (hzc : CmSz a.cmd) (hs : a.set < M64) :
    Calls Tryz.prog 15 #[jbV x A c A2 c2, acV a D d D2 d2] w (RetJX w (doJ x a)) := by
  obtain ⟨k, ka, kb, ks, kc⟩ := a
  by_cases h0 : k = 0
  · subst h0; exact do_held x ka kb ks kc A A2 D D2 c c2 d d2 B w hx hy hB hz hzc hs
  by_cases h1 : k = 1
  · subst h1; exact do_freed x ka kb ks kc A A2 D D2 c c2 d d2 B w hx hy hB hz hzc hs
  by_cases h2 : k = 2
  · subst h2; exact do_promised x ka kb ks kc A A2 D D2 c c2 d d2 B w hx hy hB hz hzc hs
  by_cases h3 : k = 3
  · subst h3; exact do_dropped x ka kb ks kc A A2 D D2 c c2 d d2 B w hx hy hB hz hzc hs
  by_cases h4 : k = 4
  · subst h4; exact do_started x ka kb ks kc A A2 D D2 c c2 d d2 B w hx hy hB hz hzc hs
  by_cases h5 : k = 5
  · subst h5; exact do_sized x ka kb ks kc A A2 D D2 c c2 d d2 B w hx hy hB hz hzc hs
  by_cases h6 : k = 6
  · subst h6; exact do_ended x ka kb ks kc A A2 D D2 c c2 d d2 B w hx hy hB hz hzc hs
  by_cases h7 : k = 7
  · subst h7; exact do_altered x ka kb ks kc A A2 D D2 c c2 d d2 B w hx hy hB hz hzc hs
  exact do_charged x k ka kb ks kc A A2 D D2 c c2 d d2 B w hx hy hB hz hzc hs (by omega)
end Go.Proofs.YtghmcdfmbjabnaaGreatDoor
