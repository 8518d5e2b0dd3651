/- Layer 14: RefDo walked (printed by a program of my own). Layer 14: JobDoes walked (printed by a program of my own). -/
import Derived.Test.YtghmcdfmbjabnaaGreatDoorQ11y
import Derived.Test.YtghmcdfmbjabnaaGreatDoorQ10y
import Derived.Test.YtghmcdfmbjabnaaGreatDoorQ14y
import Derived.Test.YtghmcdfmbjabnaaGreatDoorQ15y
import Derived.Deep.MidRow
import Derived.Test.YtghmcdfmbjabnaaGreatDoorQ12y
import Derived.Test.YtghmcdfmbjabnaaGreatDoorQ9t
import Derived.Test.YtghmcdfmbjabnaaGreatDoorQ9y
namespace Go.Proofs.YtghmcdfmbjabnaaGreatDoor
set_option linter.unusedVariables false
open Go.RowKit
set_option linter.unusedSimpArgs false in
set_option maxHeartbeats 4000000 in
set_option maxRecDepth 100000 in
theorem rdo_held (x : Jb) (ka kb : Int) (ks : Nat) (kc : Cm) (A A2 D D2 : Option Addr) (c c2 d d2 B : Nat) (w : World) (hx : JbAt w B x A c A2 c2) (hy : CmAt w B kc D d D2 d2) (hB : B ≤ w.heap.size) (hz : JbSz x) (hzc : CmSz kc) (hs : ks < M64) :
    Calls Tryz.prog 16 #[jbV x A c A2 c2, acV ⟨0, ka, kb, ks, kc⟩ D d D2 d2] w (RetJZ w B (doJ x ⟨0, ka, kb, ks, kc⟩)) := by
  have hct := Lib.hid (fun v (hv : Below w.heap.size w v) => rhold_any x true A A2 c c2 B v (hx.below (hv.mono hB)) (Nat.le_trans hB hv.size) hz)
  rw [show doJ x ⟨0, ka, kb, ks, kc⟩ = holdJ x true by unfold doJ; rfl]
  obtain ⟨Q, HQ⟩ : ∃ Q, Hid (holdJ x true = Q) := ⟨_, rfl⟩
  rw [HQ.out] at hct ⊢
  have HBB := Lib.hid hB
  clear hx hy hB hz hzc hs
  unfold acV
  have a0 : (acA ⟨0, ka, kb, ks, kc⟩ D d D2 d2)[0]? = some (.int .i64 0) := rfl
  have AS := Lib.hid (acA_size ⟨0, ka, kb, ks, kc⟩ D d D2 d2)
  obtain ⟨av, has⟩ : ∃ av, Hid (acA ⟨0, ka, kb, ks, kc⟩ D d D2 d2 = av) := ⟨_, rfl⟩
  rw [has.out] at a0 AS ⊢
  rw [jbV_is] at hct ⊢
  have HS := Lib.hid (jbA_size x A c A2 c2)
  have H1 := Lib.hid (jbA_one x A c A2 c2)
  obtain ⟨cs, hcs⟩ : ∃ cs, Hid (jbA x A c A2 c2 = cs) := ⟨_, rfl⟩
  rw [hcs.out] at HS H1 hct ⊢
  obtain ⟨V, hV⟩ : ∃ V, Hid ((((w.alloc (.cells cs 28)).alloc (.cells av 32)).alloc (.cells #[.int .i64 0, .string ⟨#[]⟩, .string ⟨#[]⟩, .string ⟨#[]⟩, .int .i64 0, .slice none 0 0, .int .i64 0, .int .i64 0, .int .i64 0, .int .i64 0, .slice none 0 0, .int .i64 0, .bool false, .int .i64 0, .int .i64 0, .int .i64 0, .int .i64 0, .int .i64 0, .int .u64 0, .int .i64 0] 28)) = V) := ⟨_, rfl⟩
  obtain ⟨hb, hz, g0, g1, g2⟩ := wd_facts w cs av
  have k0 : (Wd w cs av).cell? ⟨w.heap.size + 1, 0, none⟩ = some (.int .i64 0) := (cell_of_row _ _ 0 _ _ _ g1).trans a0
  have G0 := Lib.hid g0
  rw [show Wd w cs av = V from hV.out] at hb hz g2
  have HB := Lib.hid hb
  have hs : w.heap.size + 2 < V.heap.size := by omega
  have GR := Lib.hid g2
  have CT := Lib.hid (hct.out V hb)
  clear hb hz g0 g1 g2 hct
  have hs1 : w.heap.size + 1 < V.heap.size := by omega
  have hs0 : w.heap.size < V.heap.size := by omega
  go_enter Tryz.func16, Tryz.ntmps16
  go_wp2_with (first
    | (refine wpList_load_row rfl 28 _ rfl (w.heap.size) rfl 28 _ (0, 0) _ G0.out Tryz.underlying28 rfl (info30 HS.out) ?_))
  rw [hV.out]
  refine CT.out.mono ?_; rintro e w1 ⟨A5, c5, A6, c6, rfl, hat, haw, hb1⟩
  have gr := (hb1.block (w.heap.size + 2) hs).trans GR.out
  have GR1 := Lib.hid gr
  have hs2 : w.heap.size + 2 < w1.heap.size := (Array.getElem?_eq_some_iff.1 gr).1
  have HEND := Lib.hid (fun l => retZZ_end (w := w) (q := Q) HB.out (show w.heap.size ≤ w.heap.size + 2 by omega) hs HBB.out hat haw hb1 l)
  clear hat hb1 haw gr
  rw [jbV_is]
  go_wp2_with (refine wpList_store_row rfl 28 _ _ rfl (w.heap.size + 2) _ rfl rfl 28 _ GR1.out (info30 (jbA_size _ _ _ _ _)) rfl (jbA_one _ _ _ _ _) ?_)
  (try simp only [Exit.inBlock, Exit.then])
  refine bodyPost_ret (results_cell2 rfl _ _ (w.heap.size + 2) _ _ _ _ rfl (setRow_heap _ _ _ _ _ _ GR1.out) Tryz.underlying28 rfl (info30 (jbA_size _ _ _ _ _))) rfl ?_
  exact HEND.out _
set_option linter.unusedSimpArgs false in
set_option maxHeartbeats 4000000 in
set_option maxRecDepth 100000 in
theorem rdo_freed (x : Jb) (ka kb : Int) (ks : Nat) (kc : Cm) (A A2 D D2 : Option Addr) (c c2 d d2 B : Nat) (w : World) (hx : JbAt w B x A c A2 c2) (hy : CmAt w B kc D d D2 d2) (hB : B ≤ w.heap.size) (hz : JbSz x) (hzc : CmSz kc) (hs : ks < M64) :
    Calls Tryz.prog 16 #[jbV x A c A2 c2, acV ⟨1, ka, kb, ks, kc⟩ D d D2 d2] w (RetJZ w B (doJ x ⟨1, ka, kb, ks, kc⟩)) := by
  have hct := Lib.hid (fun v (hv : Below w.heap.size w v) => rhold_any x false A A2 c c2 B v (hx.below (hv.mono hB)) (Nat.le_trans hB hv.size) hz)
  rw [show doJ x ⟨1, ka, kb, ks, kc⟩ = holdJ x false by unfold doJ; rfl]
  obtain ⟨Q, HQ⟩ : ∃ Q, Hid (holdJ x false = Q) := ⟨_, rfl⟩
  rw [HQ.out] at hct ⊢
  have HBB := Lib.hid hB
  clear hx hy hB hz hzc hs
  unfold acV
  have a0 : (acA ⟨1, ka, kb, ks, kc⟩ D d D2 d2)[0]? = some (.int .i64 1) := rfl
  have AS := Lib.hid (acA_size ⟨1, ka, kb, ks, kc⟩ D d D2 d2)
  obtain ⟨av, has⟩ : ∃ av, Hid (acA ⟨1, ka, kb, ks, kc⟩ D d D2 d2 = av) := ⟨_, rfl⟩
  rw [has.out] at a0 AS ⊢
  rw [jbV_is] at hct ⊢
  have HS := Lib.hid (jbA_size x A c A2 c2)
  have H1 := Lib.hid (jbA_one x A c A2 c2)
  obtain ⟨cs, hcs⟩ : ∃ cs, Hid (jbA x A c A2 c2 = cs) := ⟨_, rfl⟩
  rw [hcs.out] at HS H1 hct ⊢
  obtain ⟨V, hV⟩ : ∃ V, Hid ((((w.alloc (.cells cs 28)).alloc (.cells av 32)).alloc (.cells #[.int .i64 0, .string ⟨#[]⟩, .string ⟨#[]⟩, .string ⟨#[]⟩, .int .i64 0, .slice none 0 0, .int .i64 0, .int .i64 0, .int .i64 0, .int .i64 0, .slice none 0 0, .int .i64 0, .bool false, .int .i64 0, .int .i64 0, .int .i64 0, .int .i64 0, .int .i64 0, .int .u64 0, .int .i64 0] 28)) = V) := ⟨_, rfl⟩
  obtain ⟨hb, hz, g0, g1, g2⟩ := wd_facts w cs av
  have k0 : (Wd w cs av).cell? ⟨w.heap.size + 1, 0, none⟩ = some (.int .i64 1) := (cell_of_row _ _ 0 _ _ _ g1).trans a0
  have G0 := Lib.hid g0
  rw [show Wd w cs av = V from hV.out] at hb hz g2
  have HB := Lib.hid hb
  have hs : w.heap.size + 2 < V.heap.size := by omega
  have GR := Lib.hid g2
  have CT := Lib.hid (hct.out V hb)
  clear hb hz g0 g1 g2 hct
  have hs1 : w.heap.size + 1 < V.heap.size := by omega
  have hs0 : w.heap.size < V.heap.size := by omega
  go_enter Tryz.func16, Tryz.ntmps16
  go_wp2_with (first
    | (refine wpList_load_row rfl 28 _ rfl (w.heap.size) rfl 28 _ (0, 0) _ G0.out Tryz.underlying28 rfl (info30 HS.out) ?_))
  rw [hV.out]
  refine CT.out.mono ?_; rintro e w1 ⟨A5, c5, A6, c6, rfl, hat, haw, hb1⟩
  have gr := (hb1.block (w.heap.size + 2) hs).trans GR.out
  have GR1 := Lib.hid gr
  have hs2 : w.heap.size + 2 < w1.heap.size := (Array.getElem?_eq_some_iff.1 gr).1
  have HEND := Lib.hid (fun l => retZZ_end (w := w) (q := Q) HB.out (show w.heap.size ≤ w.heap.size + 2 by omega) hs HBB.out hat haw hb1 l)
  clear hat hb1 haw gr
  rw [jbV_is]
  go_wp2_with (refine wpList_store_row rfl 28 _ _ rfl (w.heap.size + 2) _ rfl rfl 28 _ GR1.out (info30 (jbA_size _ _ _ _ _)) rfl (jbA_one _ _ _ _ _) ?_)
  (try simp only [Exit.inBlock, Exit.then])
  refine bodyPost_ret (results_cell2 rfl _ _ (w.heap.size + 2) _ _ _ _ rfl (setRow_heap _ _ _ _ _ _ GR1.out) Tryz.underlying28 rfl (info30 (jbA_size _ _ _ _ _))) rfl ?_
  exact HEND.out _
set_option linter.unusedSimpArgs false in
set_option maxHeartbeats 4000000 in
set_option maxRecDepth 100000 in
theorem rdo_promised (x : Jb) (ka kb : Int) (ks : Nat) (kc : Cm) (A A2 D D2 : Option Addr) (c c2 d d2 B : Nat) (w : World) (hx : JbAt w B x A c A2 c2) (hy : CmAt w B kc D d D2 d2) (hB : B ≤ w.heap.size) (hz : JbSz x) (hzc : CmSz kc) (hs : ks < M64) :
    Calls Tryz.prog 16 #[jbV x A c A2 c2, acV ⟨2, ka, kb, ks, kc⟩ D d D2 d2] w (RetJZ w B (doJ x ⟨2, ka, kb, ks, kc⟩)) := by
  have hct := Lib.hid (fun v (hv : Below w.heap.size w v) => rprom_any x ka kb A A2 c c2 B v (hx.below (hv.mono hB)) (Nat.le_trans hB hv.size) hz)
  rw [show doJ x ⟨2, ka, kb, ks, kc⟩ = promJ x ka kb by unfold doJ; rfl]
  obtain ⟨Q, HQ⟩ : ∃ Q, Hid (promJ x ka kb = Q) := ⟨_, rfl⟩
  rw [HQ.out] at hct ⊢
  have HBB := Lib.hid hB
  clear hx hy hB hz hzc hs
  unfold acV
  have a0 : (acA ⟨2, ka, kb, ks, kc⟩ D d D2 d2)[0]? = some (.int .i64 2) := rfl
  have a1 : (acA ⟨2, ka, kb, ks, kc⟩ D d D2 d2)[1]? = some (.int .i64 ka) := rfl
  have a2 : (acA ⟨2, ka, kb, ks, kc⟩ D d D2 d2)[2]? = some (.int .i64 kb) := rfl
  have AS := Lib.hid (acA_size ⟨2, ka, kb, ks, kc⟩ D d D2 d2)
  obtain ⟨av, has⟩ : ∃ av, Hid (acA ⟨2, ka, kb, ks, kc⟩ D d D2 d2 = av) := ⟨_, rfl⟩
  rw [has.out] at a0 a1 a2 AS ⊢
  rw [jbV_is] at hct ⊢
  have HS := Lib.hid (jbA_size x A c A2 c2)
  have H1 := Lib.hid (jbA_one x A c A2 c2)
  obtain ⟨cs, hcs⟩ : ∃ cs, Hid (jbA x A c A2 c2 = cs) := ⟨_, rfl⟩
  rw [hcs.out] at HS H1 hct ⊢
  obtain ⟨V, hV⟩ : ∃ V, Hid ((((w.alloc (.cells cs 28)).alloc (.cells av 32)).alloc (.cells #[.int .i64 0, .string ⟨#[]⟩, .string ⟨#[]⟩, .string ⟨#[]⟩, .int .i64 0, .slice none 0 0, .int .i64 0, .int .i64 0, .int .i64 0, .int .i64 0, .slice none 0 0, .int .i64 0, .bool false, .int .i64 0, .int .i64 0, .int .i64 0, .int .i64 0, .int .i64 0, .int .u64 0, .int .i64 0] 28)) = V) := ⟨_, rfl⟩
  obtain ⟨hb, hz, g0, g1, g2⟩ := wd_facts w cs av
  have k0 : (Wd w cs av).cell? ⟨w.heap.size + 1, 0, none⟩ = some (.int .i64 2) := (cell_of_row _ _ 0 _ _ _ g1).trans a0
  have k1 : (Wd w cs av).cell? ⟨w.heap.size + 1, 1, none⟩ = some (.int .i64 ka) := (cell_of_row _ _ 1 _ _ _ g1).trans a1
  have k2 : (Wd w cs av).cell? ⟨w.heap.size + 1, 2, none⟩ = some (.int .i64 kb) := (cell_of_row _ _ 2 _ _ _ g1).trans a2
  have G0 := Lib.hid g0
  rw [show Wd w cs av = V from hV.out] at hb hz g2
  have HB := Lib.hid hb
  have hs : w.heap.size + 2 < V.heap.size := by omega
  have GR := Lib.hid g2
  have CT := Lib.hid (hct.out V hb)
  clear hb hz g0 g1 g2 hct
  have hs1 : w.heap.size + 1 < V.heap.size := by omega
  have hs0 : w.heap.size < V.heap.size := by omega
  go_enter Tryz.func16, Tryz.ntmps16
  go_wp2_with (first
    | (refine wpList_load_row rfl 28 _ rfl (w.heap.size) rfl 28 _ (0, 0) _ G0.out Tryz.underlying28 rfl (info30 HS.out) ?_))
  rw [hV.out]
  refine CT.out.mono ?_; rintro e w1 ⟨A5, c5, A6, c6, rfl, hat, haw, hb1⟩
  have gr := (hb1.block (w.heap.size + 2) hs).trans GR.out
  have GR1 := Lib.hid gr
  have hs2 : w.heap.size + 2 < w1.heap.size := (Array.getElem?_eq_some_iff.1 gr).1
  have HEND := Lib.hid (fun l => retZZ_end (w := w) (q := Q) HB.out (show w.heap.size ≤ w.heap.size + 2 by omega) hs HBB.out hat haw hb1 l)
  clear hat hb1 haw gr
  rw [jbV_is]
  go_wp2_with (refine wpList_store_row rfl 28 _ _ rfl (w.heap.size + 2) _ rfl rfl 28 _ GR1.out (info30 (jbA_size _ _ _ _ _)) rfl (jbA_one _ _ _ _ _) ?_)
  (try simp only [Exit.inBlock, Exit.then])
  refine bodyPost_ret (results_cell2 rfl _ _ (w.heap.size + 2) _ _ _ _ rfl (setRow_heap _ _ _ _ _ _ GR1.out) Tryz.underlying28 rfl (info30 (jbA_size _ _ _ _ _))) rfl ?_
  exact HEND.out _
set_option linter.unusedSimpArgs false in
set_option maxHeartbeats 4000000 in
set_option maxRecDepth 100000 in
theorem rdo_dropped (x : Jb) (ka kb : Int) (ks : Nat) (kc : Cm) (A A2 D D2 : Option Addr) (c c2 d d2 B : Nat) (w : World) (hx : JbAt w B x A c A2 c2) (hy : CmAt w B kc D d D2 d2) (hB : B ≤ w.heap.size) (hz : JbSz x) (hzc : CmSz kc) (hs : ks < M64) :
    Calls Tryz.prog 16 #[jbV x A c A2 c2, acV ⟨3, ka, kb, ks, kc⟩ D d D2 d2] w (RetJZ w B (doJ x ⟨3, ka, kb, ks, kc⟩)) := by
  have hct := Lib.hid (fun v (hv : Below w.heap.size w v) => rdrop_any x A A2 c c2 B v (hx.below (hv.mono hB)) (Nat.le_trans hB hv.size) hz)
  rw [show doJ x ⟨3, ka, kb, ks, kc⟩ = dropJ x by unfold doJ; rfl]
  obtain ⟨Q, HQ⟩ : ∃ Q, Hid (dropJ x = Q) := ⟨_, rfl⟩
  rw [HQ.out] at hct ⊢
  have HBB := Lib.hid hB
  clear hx hy hB hz hzc hs
  unfold acV
  have a0 : (acA ⟨3, ka, kb, ks, kc⟩ D d D2 d2)[0]? = some (.int .i64 3) := rfl
  have AS := Lib.hid (acA_size ⟨3, ka, kb, ks, kc⟩ D d D2 d2)
  obtain ⟨av, has⟩ : ∃ av, Hid (acA ⟨3, ka, kb, ks, kc⟩ D d D2 d2 = av) := ⟨_, rfl⟩
  rw [has.out] at a0 AS ⊢
  rw [jbV_is] at hct ⊢
  have HS := Lib.hid (jbA_size x A c A2 c2)
  have H1 := Lib.hid (jbA_one x A c A2 c2)
  obtain ⟨cs, hcs⟩ : ∃ cs, Hid (jbA x A c A2 c2 = cs) := ⟨_, rfl⟩
  rw [hcs.out] at HS H1 hct ⊢
  obtain ⟨V, hV⟩ : ∃ V, Hid ((((w.alloc (.cells cs 28)).alloc (.cells av 32)).alloc (.cells #[.int .i64 0, .string ⟨#[]⟩, .string ⟨#[]⟩, .string ⟨#[]⟩, .int .i64 0, .slice none 0 0, .int .i64 0, .int .i64 0, .int .i64 0, .int .i64 0, .slice none 0 0, .int .i64 0, .bool false, .int .i64 0, .int .i64 0, .int .i64 0, .int .i64 0, .int .i64 0, .int .u64 0, .int .i64 0] 28)) = V) := ⟨_, rfl⟩
  obtain ⟨hb, hz, g0, g1, g2⟩ := wd_facts w cs av
  have k0 : (Wd w cs av).cell? ⟨w.heap.size + 1, 0, none⟩ = some (.int .i64 3) := (cell_of_row _ _ 0 _ _ _ g1).trans a0
  have G0 := Lib.hid g0
  rw [show Wd w cs av = V from hV.out] at hb hz g2
  have HB := Lib.hid hb
  have hs : w.heap.size + 2 < V.heap.size := by omega
  have GR := Lib.hid g2
  have CT := Lib.hid (hct.out V hb)
  clear hb hz g0 g1 g2 hct
  have hs1 : w.heap.size + 1 < V.heap.size := by omega
  have hs0 : w.heap.size < V.heap.size := by omega
  go_enter Tryz.func16, Tryz.ntmps16
  go_wp2_with (first
    | (refine wpList_load_row rfl 28 _ rfl (w.heap.size) rfl 28 _ (0, 0) _ G0.out Tryz.underlying28 rfl (info30 HS.out) ?_))
  rw [hV.out]
  refine CT.out.mono ?_; rintro e w1 ⟨A5, c5, A6, c6, rfl, hat, haw, hb1⟩
  have gr := (hb1.block (w.heap.size + 2) hs).trans GR.out
  have GR1 := Lib.hid gr
  have hs2 : w.heap.size + 2 < w1.heap.size := (Array.getElem?_eq_some_iff.1 gr).1
  have HEND := Lib.hid (fun l => retZZ_end (w := w) (q := Q) HB.out (show w.heap.size ≤ w.heap.size + 2 by omega) hs HBB.out hat haw hb1 l)
  clear hat hb1 haw gr
  rw [jbV_is]
  go_wp2_with (refine wpList_store_row rfl 28 _ _ rfl (w.heap.size + 2) _ rfl rfl 28 _ GR1.out (info30 (jbA_size _ _ _ _ _)) rfl (jbA_one _ _ _ _ _) ?_)
  (try simp only [Exit.inBlock, Exit.then])
  refine bodyPost_ret (results_cell2 rfl _ _ (w.heap.size + 2) _ _ _ _ rfl (setRow_heap _ _ _ _ _ _ GR1.out) Tryz.underlying28 rfl (info30 (jbA_size _ _ _ _ _))) rfl ?_
  exact HEND.out _
set_option linter.unusedSimpArgs false in
set_option maxHeartbeats 4000000 in
set_option maxRecDepth 100000 in
theorem rdo_started (x : Jb) (ka kb : Int) (ks : Nat) (kc : Cm) (A A2 D D2 : Option Addr) (c c2 d d2 B : Nat) (w : World) (hx : JbAt w B x A c A2 c2) (hy : CmAt w B kc D d D2 d2) (hB : B ≤ w.heap.size) (hz : JbSz x) (hzc : CmSz kc) (hs : ks < M64) :
    Calls Tryz.prog 16 #[jbV x A c A2 c2, acV ⟨4, ka, kb, ks, kc⟩ D d D2 d2] w (RetJZ w B (doJ x ⟨4, ka, kb, ks, kc⟩)) := by
  have hct := Lib.hid (fun v (hv : Below w.heap.size w v) => rstart_any x ka ks A A2 c c2 B v (hx.below (hv.mono hB)) (Nat.le_trans hB hv.size) hz hs)
  rw [show doJ x ⟨4, ka, kb, ks, kc⟩ = startJ x ka ks by unfold doJ; rfl]
  obtain ⟨Q, HQ⟩ : ∃ Q, Hid (startJ x ka ks = Q) := ⟨_, rfl⟩
  rw [HQ.out] at hct ⊢
  have HBB := Lib.hid hB
  clear hx hy hB hz hzc hs
  unfold acV
  have a0 : (acA ⟨4, ka, kb, ks, kc⟩ D d D2 d2)[0]? = some (.int .i64 4) := rfl
  have a1 : (acA ⟨4, ka, kb, ks, kc⟩ D d D2 d2)[1]? = some (.int .i64 ka) := rfl
  have a3 : (acA ⟨4, ka, kb, ks, kc⟩ D d D2 d2)[3]? = some (.int .u64 ks) := rfl
  have AS := Lib.hid (acA_size ⟨4, ka, kb, ks, kc⟩ D d D2 d2)
  obtain ⟨av, has⟩ : ∃ av, Hid (acA ⟨4, ka, kb, ks, kc⟩ D d D2 d2 = av) := ⟨_, rfl⟩
  rw [has.out] at a0 a1 a3 AS ⊢
  rw [jbV_is] at hct ⊢
  have HS := Lib.hid (jbA_size x A c A2 c2)
  have H1 := Lib.hid (jbA_one x A c A2 c2)
  obtain ⟨cs, hcs⟩ : ∃ cs, Hid (jbA x A c A2 c2 = cs) := ⟨_, rfl⟩
  rw [hcs.out] at HS H1 hct ⊢
  obtain ⟨us, HU⟩ : ∃ u : Int, Hid ((ks : Int) = u) := ⟨_, rfl⟩
  rw [HU.out] at hct a3
  obtain ⟨V, hV⟩ : ∃ V, Hid ((((w.alloc (.cells cs 28)).alloc (.cells av 32)).alloc (.cells #[.int .i64 0, .string ⟨#[]⟩, .string ⟨#[]⟩, .string ⟨#[]⟩, .int .i64 0, .slice none 0 0, .int .i64 0, .int .i64 0, .int .i64 0, .int .i64 0, .slice none 0 0, .int .i64 0, .bool false, .int .i64 0, .int .i64 0, .int .i64 0, .int .i64 0, .int .i64 0, .int .u64 0, .int .i64 0] 28)) = V) := ⟨_, rfl⟩
  obtain ⟨hb, hz, g0, g1, g2⟩ := wd_facts w cs av
  have k0 : (Wd w cs av).cell? ⟨w.heap.size + 1, 0, none⟩ = some (.int .i64 4) := (cell_of_row _ _ 0 _ _ _ g1).trans a0
  have k1 : (Wd w cs av).cell? ⟨w.heap.size + 1, 1, none⟩ = some (.int .i64 ka) := (cell_of_row _ _ 1 _ _ _ g1).trans a1
  have k3 : (Wd w cs av).cell? ⟨w.heap.size + 1, 3, none⟩ = some (.int .u64 us) := (cell_of_row _ _ 3 _ _ _ g1).trans a3
  have G0 := Lib.hid g0
  rw [show Wd w cs av = V from hV.out] at hb hz g2
  have HB := Lib.hid hb
  have hs : w.heap.size + 2 < V.heap.size := by omega
  have GR := Lib.hid g2
  have CT := Lib.hid (hct.out V hb)
  clear hb hz g0 g1 g2 hct
  have hs1 : w.heap.size + 1 < V.heap.size := by omega
  have hs0 : w.heap.size < V.heap.size := by omega
  go_enter Tryz.func16, Tryz.ntmps16
  go_wp2_with (first
    | (refine wpList_load_row rfl 28 _ rfl (w.heap.size) rfl 28 _ (0, 0) _ G0.out Tryz.underlying28 rfl (info30 HS.out) ?_))
  rw [hV.out]
  refine CT.out.mono ?_; rintro e w1 ⟨A5, c5, A6, c6, rfl, hat, haw, hb1⟩
  have gr := (hb1.block (w.heap.size + 2) hs).trans GR.out
  have GR1 := Lib.hid gr
  have hs2 : w.heap.size + 2 < w1.heap.size := (Array.getElem?_eq_some_iff.1 gr).1
  have HEND := Lib.hid (fun l => retZZ_end (w := w) (q := Q) HB.out (show w.heap.size ≤ w.heap.size + 2 by omega) hs HBB.out hat haw hb1 l)
  clear hat hb1 haw gr
  rw [jbV_is]
  go_wp2_with (refine wpList_store_row rfl 28 _ _ rfl (w.heap.size + 2) _ rfl rfl 28 _ GR1.out (info30 (jbA_size _ _ _ _ _)) rfl (jbA_one _ _ _ _ _) ?_)
  (try simp only [Exit.inBlock, Exit.then])
  refine bodyPost_ret (results_cell2 rfl _ _ (w.heap.size + 2) _ _ _ _ rfl (setRow_heap _ _ _ _ _ _ GR1.out) Tryz.underlying28 rfl (info30 (jbA_size _ _ _ _ _))) rfl ?_
  exact HEND.out _
set_option linter.unusedSimpArgs false in
set_option maxHeartbeats 4000000 in
set_option maxRecDepth 100000 in
theorem rdo_sized (x : Jb) (ka kb : Int) (ks : Nat) (kc : Cm) (A A2 D D2 : Option Addr) (c c2 d d2 B : Nat) (w : World) (hx : JbAt w B x A c A2 c2) (hy : CmAt w B kc D d D2 d2) (hB : B ≤ w.heap.size) (hz : JbSz x) (hzc : CmSz kc) (hs : ks < M64) :
    Calls Tryz.prog 16 #[jbV x A c A2 c2, acV ⟨5, ka, kb, ks, kc⟩ D d D2 d2] w (RetJZ w B (doJ x ⟨5, ka, kb, ks, kc⟩)) := by
  have hct := Lib.hid (fun v (hv : Below w.heap.size w v) => rresize_any x ks A A2 c c2 B v (hx.below (hv.mono hB)) (Nat.le_trans hB hv.size) hz hs)
  rw [show doJ x ⟨5, ka, kb, ks, kc⟩ = sizeJ x ks by unfold doJ; rfl]
  obtain ⟨Q, HQ⟩ : ∃ Q, Hid (sizeJ x ks = Q) := ⟨_, rfl⟩
  rw [HQ.out] at hct ⊢
  have HBB := Lib.hid hB
  clear hx hy hB hz hzc hs
  unfold acV
  have a0 : (acA ⟨5, ka, kb, ks, kc⟩ D d D2 d2)[0]? = some (.int .i64 5) := rfl
  have a3 : (acA ⟨5, ka, kb, ks, kc⟩ D d D2 d2)[3]? = some (.int .u64 ks) := rfl
  have AS := Lib.hid (acA_size ⟨5, ka, kb, ks, kc⟩ D d D2 d2)
  obtain ⟨av, has⟩ : ∃ av, Hid (acA ⟨5, ka, kb, ks, kc⟩ D d D2 d2 = av) := ⟨_, rfl⟩
  rw [has.out] at a0 a3 AS ⊢
  rw [jbV_is] at hct ⊢
  have HS := Lib.hid (jbA_size x A c A2 c2)
  have H1 := Lib.hid (jbA_one x A c A2 c2)
  obtain ⟨cs, hcs⟩ : ∃ cs, Hid (jbA x A c A2 c2 = cs) := ⟨_, rfl⟩
  rw [hcs.out] at HS H1 hct ⊢
  obtain ⟨us, HU⟩ : ∃ u : Int, Hid ((ks : Int) = u) := ⟨_, rfl⟩
  rw [HU.out] at hct a3
  obtain ⟨V, hV⟩ : ∃ V, Hid ((((w.alloc (.cells cs 28)).alloc (.cells av 32)).alloc (.cells #[.int .i64 0, .string ⟨#[]⟩, .string ⟨#[]⟩, .string ⟨#[]⟩, .int .i64 0, .slice none 0 0, .int .i64 0, .int .i64 0, .int .i64 0, .int .i64 0, .slice none 0 0, .int .i64 0, .bool false, .int .i64 0, .int .i64 0, .int .i64 0, .int .i64 0, .int .i64 0, .int .u64 0, .int .i64 0] 28)) = V) := ⟨_, rfl⟩
  obtain ⟨hb, hz, g0, g1, g2⟩ := wd_facts w cs av
  have k0 : (Wd w cs av).cell? ⟨w.heap.size + 1, 0, none⟩ = some (.int .i64 5) := (cell_of_row _ _ 0 _ _ _ g1).trans a0
  have k3 : (Wd w cs av).cell? ⟨w.heap.size + 1, 3, none⟩ = some (.int .u64 us) := (cell_of_row _ _ 3 _ _ _ g1).trans a3
  have G0 := Lib.hid g0
  rw [show Wd w cs av = V from hV.out] at hb hz g2
  have HB := Lib.hid hb
  have hs : w.heap.size + 2 < V.heap.size := by omega
  have GR := Lib.hid g2
  have CT := Lib.hid (hct.out V hb)
  clear hb hz g0 g1 g2 hct
  have hs1 : w.heap.size + 1 < V.heap.size := by omega
  have hs0 : w.heap.size < V.heap.size := by omega
  go_enter Tryz.func16, Tryz.ntmps16
  go_wp2_with (first
    | (refine wpList_load_row rfl 28 _ rfl (w.heap.size) rfl 28 _ (0, 0) _ G0.out Tryz.underlying28 rfl (info30 HS.out) ?_))
  rw [hV.out]
  refine CT.out.mono ?_; rintro e w1 ⟨A5, c5, A6, c6, rfl, hat, haw, hb1⟩
  have gr := (hb1.block (w.heap.size + 2) hs).trans GR.out
  have GR1 := Lib.hid gr
  have hs2 : w.heap.size + 2 < w1.heap.size := (Array.getElem?_eq_some_iff.1 gr).1
  have HEND := Lib.hid (fun l => retZZ_end (w := w) (q := Q) HB.out (show w.heap.size ≤ w.heap.size + 2 by omega) hs HBB.out hat haw hb1 l)
  clear hat hb1 haw gr
  rw [jbV_is]
  go_wp2_with (refine wpList_store_row rfl 28 _ _ rfl (w.heap.size + 2) _ rfl rfl 28 _ GR1.out (info30 (jbA_size _ _ _ _ _)) rfl (jbA_one _ _ _ _ _) ?_)
  (try simp only [Exit.inBlock, Exit.then])
  refine bodyPost_ret (results_cell2 rfl _ _ (w.heap.size + 2) _ _ _ _ rfl (setRow_heap _ _ _ _ _ _ GR1.out) Tryz.underlying28 rfl (info30 (jbA_size _ _ _ _ _))) rfl ?_
  exact HEND.out _
set_option linter.unusedSimpArgs false in
set_option maxHeartbeats 4000000 in
set_option maxRecDepth 100000 in
theorem rdo_ended (x : Jb) (ka kb : Int) (ks : Nat) (kc : Cm) (A A2 D D2 : Option Addr) (c c2 d d2 B : Nat) (w : World) (hx : JbAt w B x A c A2 c2) (hy : CmAt w B kc D d D2 d2) (hB : B ≤ w.heap.size) (hz : JbSz x) (hzc : CmSz kc) (hs : ks < M64) :
    Calls Tryz.prog 16 #[jbV x A c A2 c2, acV ⟨6, ka, kb, ks, kc⟩ D d D2 d2] w (RetJZ w B (doJ x ⟨6, ka, kb, ks, kc⟩)) := by
  have hct := Lib.hid (fun v (hv : Below w.heap.size w v) => rend_any x ka A A2 c c2 B v (hx.below (hv.mono hB)) (Nat.le_trans hB hv.size) hz)
  rw [show doJ x ⟨6, ka, kb, ks, kc⟩ = endJ x ka by unfold doJ; rfl]
  obtain ⟨Q, HQ⟩ : ∃ Q, Hid (endJ x ka = Q) := ⟨_, rfl⟩
  rw [HQ.out] at hct ⊢
  have HBB := Lib.hid hB
  clear hx hy hB hz hzc hs
  unfold acV
  have a0 : (acA ⟨6, ka, kb, ks, kc⟩ D d D2 d2)[0]? = some (.int .i64 6) := rfl
  have a1 : (acA ⟨6, ka, kb, ks, kc⟩ D d D2 d2)[1]? = some (.int .i64 ka) := rfl
  have AS := Lib.hid (acA_size ⟨6, ka, kb, ks, kc⟩ D d D2 d2)
  obtain ⟨av, has⟩ : ∃ av, Hid (acA ⟨6, ka, kb, ks, kc⟩ D d D2 d2 = av) := ⟨_, rfl⟩
  rw [has.out] at a0 a1 AS ⊢
  rw [jbV_is] at hct ⊢
  have HS := Lib.hid (jbA_size x A c A2 c2)
  have H1 := Lib.hid (jbA_one x A c A2 c2)
  obtain ⟨cs, hcs⟩ : ∃ cs, Hid (jbA x A c A2 c2 = cs) := ⟨_, rfl⟩
  rw [hcs.out] at HS H1 hct ⊢
  obtain ⟨V, hV⟩ : ∃ V, Hid ((((w.alloc (.cells cs 28)).alloc (.cells av 32)).alloc (.cells #[.int .i64 0, .string ⟨#[]⟩, .string ⟨#[]⟩, .string ⟨#[]⟩, .int .i64 0, .slice none 0 0, .int .i64 0, .int .i64 0, .int .i64 0, .int .i64 0, .slice none 0 0, .int .i64 0, .bool false, .int .i64 0, .int .i64 0, .int .i64 0, .int .i64 0, .int .i64 0, .int .u64 0, .int .i64 0] 28)) = V) := ⟨_, rfl⟩
  obtain ⟨hb, hz, g0, g1, g2⟩ := wd_facts w cs av
  have k0 : (Wd w cs av).cell? ⟨w.heap.size + 1, 0, none⟩ = some (.int .i64 6) := (cell_of_row _ _ 0 _ _ _ g1).trans a0
  have k1 : (Wd w cs av).cell? ⟨w.heap.size + 1, 1, none⟩ = some (.int .i64 ka) := (cell_of_row _ _ 1 _ _ _ g1).trans a1
  have G0 := Lib.hid g0
  rw [show Wd w cs av = V from hV.out] at hb hz g2
  have HB := Lib.hid hb
  have hs : w.heap.size + 2 < V.heap.size := by omega
  have GR := Lib.hid g2
  have CT := Lib.hid (hct.out V hb)
  clear hb hz g0 g1 g2 hct
  have hs1 : w.heap.size + 1 < V.heap.size := by omega
  have hs0 : w.heap.size < V.heap.size := by omega
  go_enter Tryz.func16, Tryz.ntmps16
  go_wp2_with (first
    | (refine wpList_load_row rfl 28 _ rfl (w.heap.size) rfl 28 _ (0, 0) _ G0.out Tryz.underlying28 rfl (info30 HS.out) ?_))
  rw [hV.out]
  refine CT.out.mono ?_; rintro e w1 ⟨A5, c5, A6, c6, rfl, hat, haw, hb1⟩
  have gr := (hb1.block (w.heap.size + 2) hs).trans GR.out
  have GR1 := Lib.hid gr
  have hs2 : w.heap.size + 2 < w1.heap.size := (Array.getElem?_eq_some_iff.1 gr).1
  have HEND := Lib.hid (fun l => retZZ_end (w := w) (q := Q) HB.out (show w.heap.size ≤ w.heap.size + 2 by omega) hs HBB.out hat haw hb1 l)
  clear hat hb1 haw gr
  rw [jbV_is]
  go_wp2_with (refine wpList_store_row rfl 28 _ _ rfl (w.heap.size + 2) _ rfl rfl 28 _ GR1.out (info30 (jbA_size _ _ _ _ _)) rfl (jbA_one _ _ _ _ _) ?_)
  (try simp only [Exit.inBlock, Exit.then])
  refine bodyPost_ret (results_cell2 rfl _ _ (w.heap.size + 2) _ _ _ _ rfl (setRow_heap _ _ _ _ _ _ GR1.out) Tryz.underlying28 rfl (info30 (jbA_size _ _ _ _ _))) rfl ?_
  exact HEND.out _
set_option linter.unusedSimpArgs false in
set_option maxHeartbeats 4000000 in
set_option maxRecDepth 100000 in
theorem rdo_altered (x : Jb) (ka kb : Int) (ks : Nat) (kc : Cm) (A A2 D D2 : Option Addr) (c c2 d d2 B : Nat) (w : World) (hx : JbAt w B x A c A2 c2) (hy : CmAt w B kc D d D2 d2) (hB : B ≤ w.heap.size) (hz : JbSz x) (hzc : CmSz kc) (hs : ks < M64) :
    Calls Tryz.prog 16 #[jbV x A c A2 c2, acV ⟨7, ka, kb, ks, kc⟩ D d D2 d2] w (RetJZ w B (doJ x ⟨7, ka, kb, ks, kc⟩)) := by
  have hct := Lib.hid (fun v (hv : Below w.heap.size w v) => ralter_any x kc A A2 D D2 c c2 d d2 B v (hx.below (hv.mono hB)) (Nat.le_trans hB hv.size) hz (hy.below (hv.mono hB)) hzc)
  rw [show doJ x ⟨7, ka, kb, ks, kc⟩ = altJ x kc by unfold doJ; rfl]
  obtain ⟨Q, HQ⟩ : ∃ Q, Hid (altJ x kc = Q) := ⟨_, rfl⟩
  rw [HQ.out] at hct ⊢
  have HBB := Lib.hid hB
  clear hx hy hB hz hzc hs
  unfold acV
  have a0 : (acA ⟨7, ka, kb, ks, kc⟩ D d D2 d2)[0]? = some (.int .i64 7) := rfl
  have ac : ∀ j v, (cmC kc D d D2 d2)[j]? = some v → (acA ⟨7, ka, kb, ks, kc⟩ D d D2 d2)[4 + j]? = some v := fun j v h => by
    rw [show 4 + j = j + 4 by omega]; simpa [acA, acC] using h
  have AS := Lib.hid (acA_size ⟨7, ka, kb, ks, kc⟩ D d D2 d2)
  obtain ⟨av, has⟩ : ∃ av, Hid (acA ⟨7, ka, kb, ks, kc⟩ D d D2 d2 = av) := ⟨_, rfl⟩
  rw [has.out] at a0 ac AS ⊢
  rw [cmV_is] at hct
  have CS : (Tryz.prog.info? 30).map (·.size) = some (cmC kc D d D2 d2).length := by show _ = some 18; kernel_rfl
  unfold cmA at hct
  have CSZ := Lib.hid CS
  clear CS
  obtain ⟨ds, hds⟩ : ∃ ds, Hid (cmC kc D d D2 d2 = ds) := ⟨_, rfl⟩
  rw [hds.out] at hct ac CSZ
  rw [jbV_is] at hct ⊢
  have HS := Lib.hid (jbA_size x A c A2 c2)
  have H1 := Lib.hid (jbA_one x A c A2 c2)
  obtain ⟨cs, hcs⟩ : ∃ cs, Hid (jbA x A c A2 c2 = cs) := ⟨_, rfl⟩
  rw [hcs.out] at HS H1 hct ⊢
  obtain ⟨V, hV⟩ : ∃ V, Hid ((((w.alloc (.cells cs 28)).alloc (.cells av 32)).alloc (.cells #[.int .i64 0, .string ⟨#[]⟩, .string ⟨#[]⟩, .string ⟨#[]⟩, .int .i64 0, .slice none 0 0, .int .i64 0, .int .i64 0, .int .i64 0, .int .i64 0, .slice none 0 0, .int .i64 0, .bool false, .int .i64 0, .int .i64 0, .int .i64 0, .int .i64 0, .int .i64 0, .int .u64 0, .int .i64 0] 28)) = V) := ⟨_, rfl⟩
  obtain ⟨hb, hz, g0, g1, g2⟩ := wd_facts w cs av
  have k0 : (Wd w cs av).cell? ⟨w.heap.size + 1, 0, none⟩ = some (.int .i64 7) := (cell_of_row _ _ 0 _ _ _ g1).trans a0
  have KR : Hid ((Wd w cs av).rangeAt (w.heap.size + 1) 4 ds) := fun j u hu => (cell_of_row _ _ (4 + j) _ _ _ g1).trans (ac j u hu)
  have G0 := Lib.hid g0
  rw [show Wd w cs av = V from hV.out] at hb hz g2
  have HB := Lib.hid hb
  have hs : w.heap.size + 2 < V.heap.size := by omega
  have GR := Lib.hid g2
  have CT := Lib.hid (hct.out V hb)
  clear hb hz g0 g1 g2 hct
  have hs1 : w.heap.size + 1 < V.heap.size := by omega
  have hs0 : w.heap.size < V.heap.size := by omega
  go_enter Tryz.func16, Tryz.ntmps16
  go_wp2_with (first
    | (refine wpList_load_row rfl 28 _ rfl (w.heap.size) rfl 28 _ (0, 0) _ G0.out Tryz.underlying28 rfl (info30 HS.out) ?_)
    | (refine wpList_load_mid rfl 30 _ rfl (w.heap.size + 1) 4 rfl ds _ KR.out Tryz.underlying30 rfl CSZ.out ?_))
  rw [hV.out]
  refine CT.out.mono ?_; rintro e w1 ⟨A5, c5, A6, c6, rfl, hat, haw, hb1⟩
  have gr := (hb1.block (w.heap.size + 2) hs).trans GR.out
  have GR1 := Lib.hid gr
  have hs2 : w.heap.size + 2 < w1.heap.size := (Array.getElem?_eq_some_iff.1 gr).1
  have HEND := Lib.hid (fun l => retZZ_end (w := w) (q := Q) HB.out (show w.heap.size ≤ w.heap.size + 2 by omega) hs HBB.out hat haw hb1 l)
  clear hat hb1 haw gr
  rw [jbV_is]
  go_wp2_with (refine wpList_store_row rfl 28 _ _ rfl (w.heap.size + 2) _ rfl rfl 28 _ GR1.out (info30 (jbA_size _ _ _ _ _)) rfl (jbA_one _ _ _ _ _) ?_)
  (try simp only [Exit.inBlock, Exit.then])
  refine bodyPost_ret (results_cell2 rfl _ _ (w.heap.size + 2) _ _ _ _ rfl (setRow_heap _ _ _ _ _ _ GR1.out) Tryz.underlying28 rfl (info30 (jbA_size _ _ _ _ _))) rfl ?_
  exact HEND.out _
set_option linter.unusedSimpArgs false in
set_option maxHeartbeats 4000000 in
set_option maxRecDepth 100000 in
theorem rdo_charged (x : Jb) (kk ka kb : Int) (ks : Nat) (kc : Cm) (A A2 D D2 : Option Addr) (c c2 d d2 B : Nat) (w : World) (hx : JbAt w B x A c A2 c2) (hy : CmAt w B kc D d D2 d2) (hB : B ≤ w.heap.size) (hz : JbSz x) (hzc : CmSz kc) (hs : ks < M64) (hk : kk < 0 ∨ 7 < kk) :
    Calls Tryz.prog 16 #[jbV x A c A2 c2, acV ⟨kk, ka, kb, ks, kc⟩ D d D2 d2] w (RetJZ w B (doJ x ⟨kk, ka, kb, ks, kc⟩)) := by
  have hct := Lib.hid (fun v (hv : Below w.heap.size w v) => rcharge_any x ka A A2 c c2 B v (hx.below (hv.mono hB)) (Nat.le_trans hB hv.size) hz)
  rw [show doJ x ⟨kk, ka, kb, ks, kc⟩ = chargeJ x ka by unfold doJ; simp only []; rw [if_neg (by omega), if_neg (by omega), if_neg (by omega), if_neg (by omega), if_neg (by omega), if_neg (by omega), if_neg (by omega)]]
  obtain ⟨Q, HQ⟩ : ∃ Q, Hid (chargeJ x ka = Q) := ⟨_, rfl⟩
  rw [HQ.out] at hct ⊢
  have t0 : (kk == 0) = false := beq_eq_false_iff_ne.2 (by omega)
  have t1 : (kk == 1) = false := beq_eq_false_iff_ne.2 (by omega)
  have t2 : (kk == 2) = false := beq_eq_false_iff_ne.2 (by omega)
  have t3 : (kk == 3) = false := beq_eq_false_iff_ne.2 (by omega)
  have t4 : (kk == 4) = false := beq_eq_false_iff_ne.2 (by omega)
  have t5 : (kk == 5) = false := beq_eq_false_iff_ne.2 (by omega)
  have t6 : (kk == 6) = false := beq_eq_false_iff_ne.2 (by omega)
  have t7 : (kk == 7) = false := beq_eq_false_iff_ne.2 (by omega)
  have HBB := Lib.hid hB
  clear hx hy hB hz hzc hs hk
  unfold acV
  have a0 : (acA ⟨kk, ka, kb, ks, kc⟩ D d D2 d2)[0]? = some (.int .i64 kk) := rfl
  have a1 : (acA ⟨kk, ka, kb, ks, kc⟩ D d D2 d2)[1]? = some (.int .i64 ka) := rfl
  have AS := Lib.hid (acA_size ⟨kk, ka, kb, ks, kc⟩ D d D2 d2)
  obtain ⟨av, has⟩ : ∃ av, Hid (acA ⟨kk, ka, kb, ks, kc⟩ D d D2 d2 = av) := ⟨_, rfl⟩
  rw [has.out] at a0 a1 AS ⊢
  rw [jbV_is] at hct ⊢
  have HS := Lib.hid (jbA_size x A c A2 c2)
  have H1 := Lib.hid (jbA_one x A c A2 c2)
  obtain ⟨cs, hcs⟩ : ∃ cs, Hid (jbA x A c A2 c2 = cs) := ⟨_, rfl⟩
  rw [hcs.out] at HS H1 hct ⊢
  obtain ⟨V, hV⟩ : ∃ V, Hid ((((w.alloc (.cells cs 28)).alloc (.cells av 32)).alloc (.cells #[.int .i64 0, .string ⟨#[]⟩, .string ⟨#[]⟩, .string ⟨#[]⟩, .int .i64 0, .slice none 0 0, .int .i64 0, .int .i64 0, .int .i64 0, .int .i64 0, .slice none 0 0, .int .i64 0, .bool false, .int .i64 0, .int .i64 0, .int .i64 0, .int .i64 0, .int .i64 0, .int .u64 0, .int .i64 0] 28)) = V) := ⟨_, rfl⟩
  obtain ⟨hb, hz, g0, g1, g2⟩ := wd_facts w cs av
  have k0 : (Wd w cs av).cell? ⟨w.heap.size + 1, 0, none⟩ = some (.int .i64 kk) := (cell_of_row _ _ 0 _ _ _ g1).trans a0
  have k1 : (Wd w cs av).cell? ⟨w.heap.size + 1, 1, none⟩ = some (.int .i64 ka) := (cell_of_row _ _ 1 _ _ _ g1).trans a1
  have G0 := Lib.hid g0
  rw [show Wd w cs av = V from hV.out] at hb hz g2
  have HB := Lib.hid hb
  have hs : w.heap.size + 2 < V.heap.size := by omega
  have GR := Lib.hid g2
  have CT := Lib.hid (hct.out V hb)
  clear hb hz g0 g1 g2 hct
  have hs1 : w.heap.size + 1 < V.heap.size := by omega
  have hs0 : w.heap.size < V.heap.size := by omega
  go_enter Tryz.func16, Tryz.ntmps16
  go_wp2_with (first
    | (refine wpList_load_row rfl 28 _ rfl (w.heap.size) rfl 28 _ (0, 0) _ G0.out Tryz.underlying28 rfl (info30 HS.out) ?_))
  rw [hV.out]
  refine CT.out.mono ?_; rintro e w1 ⟨A5, c5, A6, c6, rfl, hat, haw, hb1⟩
  have gr := (hb1.block (w.heap.size + 2) hs).trans GR.out
  have GR1 := Lib.hid gr
  have hs2 : w.heap.size + 2 < w1.heap.size := (Array.getElem?_eq_some_iff.1 gr).1
  have HEND := Lib.hid (fun l => retZZ_end (w := w) (q := Q) HB.out (show w.heap.size ≤ w.heap.size + 2 by omega) hs HBB.out hat haw hb1 l)
  clear hat hb1 haw gr
  rw [jbV_is]
  go_wp2_with (refine wpList_store_row rfl 28 _ _ rfl (w.heap.size + 2) _ rfl rfl 28 _ GR1.out (info30 (jbA_size _ _ _ _ _)) rfl (jbA_one _ _ _ _ _) ?_)
  (try simp only [Exit.inBlock, Exit.then])
  refine bodyPost_ret (results_cell2 rfl _ _ (w.heap.size + 2) _ _ _ _ rfl (setRow_heap _ _ _ _ _ _ GR1.out) Tryz.underlying28 rfl (info30 (jbA_size _ _ _ _ _))) rfl ?_
  exact HEND.out _
theorem rdo_any (x : Jb) (a : Ac) (A A2 D D2 : Option Addr) (c c2 d d2 B : Nat) (w : World) (hx : JbAt w B x A c A2 c2) (hy : CmAt w B a.cmd D d D2 d2) (hB : B ≤ w.heap.size) (hz : JbSz x) (hzc : CmSz a.cmd) (hs : a.set < M64) :
    Calls Tryz.prog 16 #[jbV x A c A2 c2, acV a D d D2 d2] w (RetJZ w B (doJ x a)) := by
  obtain ⟨k, ka, kb, ks, kc⟩ := a
  by_cases h0 : k = 0
  · subst h0; exact rdo_held x ka kb ks kc A A2 D D2 c c2 d d2 B w hx hy hB hz hzc hs
  by_cases h1 : k = 1
  · subst h1; exact rdo_freed x ka kb ks kc A A2 D D2 c c2 d d2 B w hx hy hB hz hzc hs
  by_cases h2 : k = 2
  · subst h2; exact rdo_promised x ka kb ks kc A A2 D D2 c c2 d d2 B w hx hy hB hz hzc hs
  by_cases h3 : k = 3
  · subst h3; exact rdo_dropped x ka kb ks kc A A2 D D2 c c2 d d2 B w hx hy hB hz hzc hs
  by_cases h4 : k = 4
  · subst h4; exact rdo_started x ka kb ks kc A A2 D D2 c c2 d d2 B w hx hy hB hz hzc hs
  by_cases h5 : k = 5
  · subst h5; exact rdo_sized x ka kb ks kc A A2 D D2 c c2 d d2 B w hx hy hB hz hzc hs
  by_cases h6 : k = 6
  · subst h6; exact rdo_ended x ka kb ks kc A A2 D D2 c c2 d d2 B w hx hy hB hz hzc hs
  by_cases h7 : k = 7
  · subst h7; exact rdo_altered x ka kb ks kc A A2 D D2 c c2 d d2 B w hx hy hB hz hzc hs
  exact rdo_charged x k ka kb ks kc A A2 D D2 c c2 d d2 B w hx hy hB hz hzc hs (by omega)
end Go.Proofs.YtghmcdfmbjabnaaGreatDoor
namespace Go.Proofs.YtghmcdfmbjabnaaGreatDoor
set_option linter.unusedVariables false
open Go.RowKit Go.ChangeShapes Go.WideShapes Go.Deep
theorem wpList_load_mid_g {P : Program} {ops : Array Oper} {rest : List Oper} {op : Oper} {a : Act} {w : World} {Q : Exit → Act → World → Prop} (hgd : Region.wanted op (yielded ops a.tmps) = true) (ty : TypeId) (x : Operand) (ho : op.op = .load ty x)
    (b o : Nat) (hx : a.eval x = .pointer (some ⟨b, o, none⟩)) (cs : List Value) (d : TypeDesc) (hc : w.rangeAt b o cs)
    (hu : P.underlying ty = some d) (hd : d.isRow = true) (hi : (P.info? ty).map (·.size) = some cs.length)
    (h : wpList P ops Q rest (a.put op.dst (.agg cs.toArray)) w) : wpList P ops Q (op :: rest) a w :=
  wpList_step fun _ hK => by rw [if_pos hgd]; exact wp_load_mid ty x ho b o hx cs d hc hu hd hi (hK _ _ h)
section
variable {H : Type} {enc0 : TypeId × Value → H} {w : World} {base : Nat} {held : Bool}
set_option maxRecDepth 100000 in
theorem open_ac {b0 : Nat} {r : Reach} {v : Value} {d : DataW H} {p : List MemPlace} (hv : Value.okWide Tryz.prog w r b0 32 v) (h : DataW.Trod enc0 Tryz.prog w base (fun _ => true) held 32 v d p) :
    ∃ r : AR, v = acV r.a r.D r.d r.D2 r.d2 ∧ CmIn w r.a.cmd r.D r.d r.D2 r.d2 ∧ r.a.set < M64 := by
  obtain ⟨cv, rfl, hsz⟩ := okWide_struct Tryz.underlying32 hv
  obtain ⟨fuel, hf0⟩ := h
  obtain ⟨r, e, hr⟩ := open_acE hf0
  refine ⟨r, ?_, hr⟩
  have e2 : cv.toList = arC r := by simpa [Value.cells] using e
  show Value.agg cv = .agg (arC r).toArray
  rw [← e2]
end
set_option linter.unusedSimpArgs false in
set_option maxHeartbeats 16000000 in
set_option maxRecDepth 100000 in
theorem jobDoes_walk (x : Jb) (A A2 : Option Addr) (c c2 : Nat) (r : AR) (w : World) (hx : JbIn w x A c A2 c2) (hc : CmIn w r.a.cmd r.D r.d r.D2 r.d2) (hs : r.a.set < M64) :
    Calls Tryz.prog 3 #[jbV x A c A2 c2, acV r.a r.D r.d r.D2 r.d2] w fun e w' => e = .returned (.bool true) ∧ Below w.heap.size w w' := by
  have f1 := Lib.hid (fun v => few14_any x A A2 c c2 v)
  have f2 := Lib.hid (fun v => few08_any r.a.cmd r.D r.D2 r.d r.d2 v)
  have hdo := Lib.hid (fun (h1 : fewJ x = true) (h2 : fewC r.a.cmd = true) v (hv : Below w.heap.size w v) => do_any x r.a A A2 r.D r.D2 c c2 r.d r.d2 w.heap.size v ((hx.at_ h1).1.below hv) ((hc.at_ h2).1.below hv) hv.size (hx.at_ h1).2 (hc.at_ h2).2 hs)
  have hrd := Lib.hid (fun (h1 : fewJ x = true) (h2 : fewC r.a.cmd = true) v (hv : Below w.heap.size w v) => rdo_any x r.a A A2 r.D r.D2 c c2 r.d r.d2 w.heap.size v ((hx.at_ h1).1.below hv) ((hc.at_ h2).1.below hv) hv.size (hx.at_ h1).2 (hc.at_ h2).2 hs)
  clear hx hc hs
  rw [jbV_is] at f1 hdo hrd ⊢
  rw [cmV_is] at f2
  unfold cmA at f2
  unfold acV at hdo hrd ⊢
  have ac : ∀ j v, (cmC r.a.cmd r.D r.d r.D2 r.d2)[j]? = some v → (acA r.a r.D r.d r.D2 r.d2)[4 + j]? = some v := fun j v h => by
    rw [show 4 + j = j + 4 by omega]; simpa [acA, acC] using h
  have CSZ := Lib.hid (cmC_info (x := r.a.cmd) (D := r.D) (D2 := r.D2) (d := r.d) (d2 := r.d2))
  have HSA := Lib.hid (acA_size r.a r.D r.d r.D2 r.d2)
  have HS := Lib.hid (jbA_size x A c A2 c2)
  obtain ⟨ds, hds⟩ : ∃ ds, Hid (cmC r.a.cmd r.D r.d r.D2 r.d2 = ds) := ⟨_, rfl⟩
  rw [hds.out] at f2 ac CSZ
  obtain ⟨av, hav⟩ : ∃ av, Hid (acA r.a r.D r.d r.D2 r.d2 = av) := ⟨_, rfl⟩
  rw [hav.out] at hdo hrd ac HSA ⊢
  obtain ⟨cs, hcs⟩ : ∃ cs, Hid (jbA x A c A2 c2 = cs) := ⟨_, rfl⟩
  rw [hcs.out] at f1 hdo hrd HS ⊢
  obtain ⟨Q, HQ⟩ : ∃ Q, Hid (doJ x r.a = Q) := ⟨_, rfl⟩
  rw [HQ.out] at hdo hrd
  obtain ⟨qj, qe⟩ := Q
  unfold RetJX at hdo
  unfold RetJZ at hrd
  dsimp only at hdo hrd
  obtain ⟨V, hV⟩ : ∃ V, Hid (((w.alloc (.cells cs 28)).alloc (.cells av 32)) = V) := ⟨_, rfl⟩
  have hb : Below w.heap.size w ((w.alloc (.cells cs 28)).alloc (.cells av 32)) := allocs_below [.cells cs 28, .cells av 32] w
  have hz : ((w.alloc (.cells cs 28)).alloc (.cells av 32)).heap.size = w.heap.size + 2 := allocs_size [.cells cs 28, .cells av 32] w
  have g0 : ((w.alloc (.cells cs 28)).alloc (.cells av 32)).heap[w.heap.size]? = some (.cells cs 28 (0, 0)) := allocs_at [.cells cs 28, .cells av 32] w 0 _ rfl
  have g1 : ((w.alloc (.cells cs 28)).alloc (.cells av 32)).heap[w.heap.size + 1]? = some (.cells av 32 (0, 0)) := allocs_at [.cells cs 28, .cells av 32] w 1 _ rfl
  have G0 : Hid (((w.alloc (.cells cs 28)).alloc (.cells av 32)).heap[w.heap.size]? = some (.cells cs 28 (0, 0))) := g0
  rw [hV.out] at hb hz g0 g1
  have GV0 := Lib.hid g0
  have GV1 := Lib.hid g1
  have HBV := Lib.hid hb
  have sv : w.heap.size + 1 < V.heap.size := by omega
  clear hb hz g0 g1
  cases b1 : fewJ x
  case false =>
    rw [b1] at f1
    clear b1 hdo hrd
    go_enter Tryz.func3, Tryz.ntmps3
    go_wp2_with (first | (refine wpList_load_row rfl 28 _ rfl (w.heap.size) rfl 28 _ (0, 0) _ G0.out Tryz.underlying28 rfl (info30 HS.out) ?_) | (go_at_call 12; refine (f1.out _).mono ?_; rintro e w1 ⟨rfl, hw1⟩; rw [hV.out] at hw1; have J1 := Lib.hid ((hw1.block _ (by omega)).trans GV0.out); have A1 := Lib.hid ((hw1.block _ sv).trans GV1.out); have B1 := Lib.hid (bt HBV.out hw1); have s1 : w.heap.size + 1 < w1.heap.size := (by have := hw1.size; omega); have KR1 : Hid (w1.rangeAt (w.heap.size + 1) 4 ds) := (fun j u hu => (cell_of_row w1 _ (4 + j) _ _ _ A1.out).trans (ac j u hu)); clear hw1) | (go_at_call 14; refine (awake14_any _).mono ?_; rintro e w4 ⟨rfl, hw4⟩))
    go_ret
    exact ⟨rfl, bt B1.out hw4⟩
  rw [b1] at f1
  cases b2 : fewC r.a.cmd
  case false =>
    rw [b2] at f2
    clear b2 hdo hrd
    go_enter Tryz.func3, Tryz.ntmps3
    go_wp2_with (first | (refine wpList_load_row rfl 28 _ rfl (w.heap.size) rfl 28 _ (0, 0) _ G0.out Tryz.underlying28 rfl (info30 HS.out) ?_) | (go_at_call 12; refine (f1.out _).mono ?_; rintro e w1 ⟨rfl, hw1⟩; rw [hV.out] at hw1; have J1 := Lib.hid ((hw1.block _ (by omega)).trans GV0.out); have A1 := Lib.hid ((hw1.block _ sv).trans GV1.out); have B1 := Lib.hid (bt HBV.out hw1); have s1 : w.heap.size + 1 < w1.heap.size := (by have := hw1.size; omega); have KR1 : Hid (w1.rangeAt (w.heap.size + 1) 4 ds) := (fun j u hu => (cell_of_row w1 _ (4 + j) _ _ _ A1.out).trans (ac j u hu)); clear hw1) | (refine wpList_load_mid_g (by kernel_rfl) 30 _ rfl (w.heap.size + 1) 4 rfl ds _ KR1.out Tryz.underlying30 rfl CSZ.out ?_) | (go_at_call 13; refine (f2.out _).mono ?_; rintro e w2 ⟨rfl, hw2⟩; have J2 := Lib.hid ((hw2.block _ (by omega)).trans J1.out); have A2_ := Lib.hid ((hw2.block _ s1).trans A1.out); have B2 := Lib.hid (bt B1.out hw2); have s2 : w.heap.size + 1 < w2.heap.size := (by have := hw2.size; omega); clear hw2) | (go_at_call 14; refine (awake14_any _).mono ?_; rintro e w4 ⟨rfl, hw4⟩))
    go_ret
    exact ⟨rfl, bt B2.out hw4⟩
  rw [b2] at f2
  have HD := Lib.hid (hdo.out b1 b2)
  have HRD := Lib.hid (hrd.out b1 b2)
  clear b1 b2 hdo hrd
  go_enter Tryz.func3, Tryz.ntmps3
  go_upto_region 3 with (first | (refine wpList_load_row rfl 28 _ rfl (w.heap.size) rfl 28 _ (0, 0) _ G0.out Tryz.underlying28 rfl (info30 HS.out) ?_) | (go_at_call 12; refine (f1.out _).mono ?_; rintro e w1 ⟨rfl, hw1⟩; rw [hV.out] at hw1; have J1 := Lib.hid ((hw1.block _ (by omega)).trans GV0.out); have A1 := Lib.hid ((hw1.block _ sv).trans GV1.out); have B1 := Lib.hid (bt HBV.out hw1); have s1 : w.heap.size + 1 < w1.heap.size := (by have := hw1.size; omega); have KR1 : Hid (w1.rangeAt (w.heap.size + 1) 4 ds) := (fun j u hu => (cell_of_row w1 _ (4 + j) _ _ _ A1.out).trans (ac j u hu)); clear hw1) | (refine wpList_load_mid_g (by kernel_rfl) 30 _ rfl (w.heap.size + 1) 4 rfl ds _ KR1.out Tryz.underlying30 rfl CSZ.out ?_) | (go_at_call 13; refine (f2.out _).mono ?_; rintro e w2 ⟨rfl, hw2⟩; have J2 := Lib.hid ((hw2.block _ (by omega)).trans J1.out); have A2_ := Lib.hid ((hw2.block _ s1).trans A1.out); have B2 := Lib.hid (bt B1.out hw2); have s2 : w.heap.size + 1 < w2.heap.size := (by have := hw2.size; omega); clear hw2))
  go_wp2_with (first | (refine wpList_load_row rfl 28 _ rfl (w.heap.size) rfl 28 _ (0, 0) _ J2.out Tryz.underlying28 rfl (info30 HS.out) ?_) | (refine wpList_load_row rfl 32 _ rfl (w.heap.size + 1) rfl 32 _ (0, 0) _ A2_.out Tryz.underlying32 rfl (infoAct HSA.out) ?_))
  refine (HD.out _ B2.out).mono ?_; rintro e w3 ⟨F, f, F2, f2_, rfl, hat3, _, hb3⟩
  rw [jbV_is]
  have W3d : ∃ W, Hid (w3.alloc (.cells (jbA qj F f F2 f2_) 28) = W) := ⟨_, rfl⟩
  obtain ⟨W3, hW3⟩ := W3d
  have ba3 : Below w3.heap.size w3 W3 := by rw [← hW3.out]; exact bx0
  have B3 := Lib.hid (bt B2.out (bt hb3 ba3))
  have b23 := bt hb3 ba3
  have G3 : Hid (W3.heap[w3.heap.size]? = some (.cells (jbA qj F f F2 f2_) 28 (0, 0))) := by
    show _ = _
    rw [← hW3.out]
    exact heap_alloc_new w3 _
  have J3 := Lib.hid ((b23.block _ (by omega)).trans J2.out)
  have A3 := Lib.hid ((b23.block _ s2).trans A2_.out)
  have AT3 := Lib.hid (hat3.below ba3)
  have s3 : w.heap.size + 1 < W3.heap.size := by have := b23.size; omega
  have s33 : w3.heap.size < W3.heap.size := (Array.getElem?_eq_some_iff.1 G3.out).1
  clear hat3 hb3 ba3 b23
  go_wp2_with (first | (refine wpList_store_row rfl 28 _ _ rfl (w3.heap.size) (jbA qj F f F2 f2_) rfl rfl 28 _ (heap_alloc_new w3 _) (info30 (jbA_size _ _ _ _ _)) rfl (jbA_one _ _ _ _ _) ?_; rw [World.setRow_alloc_new, hW3.out]) | (refine wpList_load_row rfl 28 _ rfl (w.heap.size) rfl 28 _ (0, 0) _ J3.out Tryz.underlying28 rfl (info30 HS.out) ?_) | (refine wpList_load_row rfl 32 _ rfl (w.heap.size + 1) rfl 32 _ (0, 0) _ A3.out Tryz.underlying32 rfl (infoAct HSA.out) ?_))
  refine (HRD.out _ B3.out).mono ?_; rintro e w4 ⟨G, g, G2, g2, rfl, hat4, _, hb4⟩
  rw [jbV_is]
  have W4d : ∃ W, Hid (w4.alloc (.cells (jbA qj G g G2 g2) 28) = W) := ⟨_, rfl⟩
  obtain ⟨W4, hW4⟩ := W4d
  have ba4 : Below w4.heap.size w4 W4 := by rw [← hW4.out]; exact bx0
  have B4 := Lib.hid (bt B3.out (bt hb4 ba4))
  have b34 := bt hb4 ba4
  have G4 : Hid (W4.heap[w4.heap.size]? = some (.cells (jbA qj G g G2 g2) 28 (0, 0))) := by
    show _ = _
    rw [← hW4.out]
    exact heap_alloc_new w4 _
  have G34 := Lib.hid ((b34.block _ s33).trans G3.out)
  have hsm := Lib.hid (fun v (hv : Below W4.heap.size W4 v) => rsameJ_any qj qj F F2 G G2 f f2_ g g2 W4.heap.size v (((AT3.out.below (b34.mono (Nat.le_of_lt s33))).more (Nat.le_trans (Nat.le_of_lt s33) b34.size)).below hv) (((hat4.below ba4).more ba4.size).below hv) hv.size)
  rw [sameJ_refl, jbV_is, jbV_is] at hsm
  have e1 : (qe == qe) = true := by simp
  clear hat4 hb4 ba4 b34
  go_upto_region 5 with (refine wpList_store_row rfl 28 _ _ rfl (w4.heap.size) (jbA qj G g G2 g2) rfl rfl 28 _ (heap_alloc_new w4 _) (info30 (jbA_size _ _ _ _ _)) rfl (jbA_one _ _ _ _ _) ?_; rw [World.setRow_alloc_new, hW4.out])
  go_wp2_with (first | (refine wpList_load_row rfl 28 _ rfl (w3.heap.size) rfl 28 _ (0, 0) _ G34.out Tryz.underlying28 rfl (info30 (jbA_size _ _ _ _ _)) ?_) | (refine wpList_load_row rfl 28 _ rfl (w4.heap.size) rfl 28 _ (0, 0) _ G4.out Tryz.underlying28 rfl (info30 (jbA_size _ _ _ _ _)) ?_))
  refine (hsm.out _ (Below.refl _ _)).mono ?_; rintro e w5 ⟨rfl, hb5⟩
  go_wp2_with (go_at_call 14; refine (awake14_any _).mono ?_; rintro e w6 ⟨rfl, hw6⟩)
  go_ret
  exact ⟨rfl, bt B4.out (bt hb5 hw6)⟩
end Go.Proofs.YtghmcdfmbjabnaaGreatDoor
