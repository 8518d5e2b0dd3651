/- Layer 14: the reference's Same walked (printed by a program of my own). Layer 14: New walked. Layer 14: small jobs and commands, as the statements ask. Layer 14: awake walked (printed by a program of my own). Layer 14: jobs and commands as they came in, small ones. Arguments of layers 8 and 14 opened: shapes, dependencies, commands, jobs. -/
import Derived.Test.YtghmcdfmbjabnaaGreatDoorQ9t
import Derived.Test.YtghmcdfmbjabnaaGreatDoorJbW1t
import Derived.Test.YtghmcdfmbjabnaaGreatDoorS3t
import Derived.Test.YtghmcdfmbjabnaaGreatDoorQ7t
import Derived.Test.YtghmcdfmbjabnaaGreatDoorQ7y
import Derived.Test.YtghmcdfmbjabnaaGreatDoorQ0t
import Derived.OpenShut
import Derived.MakeChecks
namespace Go.Proofs.YtghmcdfmbjabnaaGreatDoor
set_option linter.unusedVariables false
open Go.RowKit
theorem newD_at {w : World} {B : Nat} {x : Cm} {A A2 : Option Addr} {c c2 : Nat} {id now : Int} (h : CmAt w B x A c A2 c2) : JbAt w B (newD id x now) A c A2 c2 := h
theorem newD_sz {x : Cm} {id now : Int} (h : CmSz x) : JbSz (newD id x now) := ⟨h, by rw [M64_is]; show (0 : Nat) < _; decide⟩
theorem newJ_k {id now : Int} {x : Cm} (h : (x.kind == 1) = false) : newJ id x now = (noJ, 80) := by unfold newJ; rw [h]; rfl
theorem newJ_c {id now : Int} {x : Cm} (h : (cmdE x == 0) = false) : newJ id x now = (noJ, 80) := by unfold newJ; rw [h, Bool.and_false]; rfl
theorem newJ_j {id now : Int} {x : Cm} (h : (x.kind == 1) = true) (h2 : (cmdE x == 0) = true) (h3 : okJ (newD id x now) = false) : newJ id x now = (noJ, 140) := by unfold newJ; rw [h, h2, h3]; rfl
theorem newJ_y {id now : Int} {x : Cm} (h : (x.kind == 1) = true) (h2 : (cmdE x == 0) = true) (h3 : okJ (newD id x now) = true) : newJ id x now = (newD id x now, 0) := by unfold newJ; rw [h, h2, h3]; rfl
theorem retJX_no {w w' : World} {er : Int} (hb : Below w.heap.size w w') : RetJX w (noJ, er) (.returned (.tuple #[.agg #[.int .i64 0, .string ⟨#[]⟩, .string ⟨#[]⟩, .string ⟨#[]⟩, .int .i64 0, .slice none 0 0, .int .i64 0, .int .i64 0, .int .i64 0, .int .i64 0, .slice none 0 0, .int .i64 0, .bool false, .int .i64 0, .int .i64 0, .int .i64 0, .int .i64 0, .int .i64 0, .int .u64 0, .int .i64 0], .int .i64 er])) w' :=
  ⟨none, 0, none, 0, rfl, (noJ_at _ _ w.heap.size).1, (noJ_at w' 0 _).2, hb⟩
set_option linter.unusedSimpArgs false in
set_option maxHeartbeats 8000000 in
set_option maxRecDepth 100000 in
theorem new_any (id now : Int) (x : Cm) (A A2 : Option Addr) (c c2 B : Nat) (w : World) (ha : CmAt w B x A c A2 c2) (hB : B ≤ w.heap.size) (hz : CmSz x) :
    Calls Tryz.prog 48 #[.int .i64 id, cmV x A c A2 c2, .int .i64 now] w (RetJX w (newJ id x now)) := by
  have hck := fun (hk : x.kind = 1) => Lib.hid (fun v (hv : Below w.heap.size w v) => chk_submit_any x A A2 c c2 B v hk (ha.below (hv.mono hB)) (Nat.le_trans hB hv.size) hz)
  have hjc := Lib.hid (fun v (hv : Below w.heap.size w v) => jcheck_any (newD id x now) A A2 c c2 B v (newD_at (ha.below (hv.mono hB))) (Nat.le_trans hB hv.size) (newD_sz hz))
  have hcp := Lib.hid (fun v (hv : Below w.heap.size w v) => copied_any (newD id x now) A A2 c c2 B v (newD_at (ha.below (hv.mono hB))) (Nat.le_trans hB hv.size))
  unfold RetJb at hcp
  obtain ⟨Q, HQ0⟩ : ∃ Q, Hid (newJ id x now = Q) := ⟨_, rfl⟩
  rw [HQ0.out]
  clear ha hB hz
  rw [cmV_is] at hck ⊢
  have e0 : (cmA x A c A2 c2)[0]? = some (.int .i64 x.kind) := rfl
  have e2 : (cmA x A c A2 c2)[2]? = some (.string x.name) := rfl
  have e3 : (cmA x A c A2 c2)[3]? = some (.string x.user) := rfl
  have e4 : (cmA x A c A2 c2)[4]? = some (.string x.account) := rfl
  have e5 : (cmA x A c A2 c2)[5]? = some (.int .i64 x.shape.kind) := rfl
  have e6 : (cmA x A c A2 c2)[6]? = some (.slice A x.shape.alts.length c) := rfl
  have e7 : (cmA x A c A2 c2)[7]? = some (.int .i64 x.shape.mn) := rfl
  have e8 : (cmA x A c A2 c2)[8]? = some (.int .i64 x.shape.mx) := rfl
  have e9 : (cmA x A c A2 c2)[9]? = some (.int .i64 x.shape.wall) := rfl
  have e10 : (cmA x A c A2 c2)[10]? = some (.int .i64 x.prio) := rfl
  have e14 : (cmA x A c A2 c2)[14]? = some (.slice A2 x.after.length c2) := rfl
  have HS := Lib.hid (cmA_size x A c A2 c2)
  obtain ⟨cs, hcs⟩ : ∃ cs, Hid (cmA x A c A2 c2 = cs) := ⟨_, rfl⟩
  rw [hcs.out] at hck HS e0 e2 e3 e4 e5 e6 e7 e8 e9 e10 e14 ⊢
  cases hk : x.kind == 1
  case false =>
    have HQ : Hid (Q = (noJ, 80)) := by show _ = _; rw [← HQ0.out]; exact newJ_k hk
    have hkx := bne_of_false hk
    clear hck
    go_enter Tryz.func48, Tryz.ntmps48
    go_wp2_with (refine wpList_store_row rfl 28 _ _ rfl (w.heap.size + 1) _ rfl rfl 28 _ (three_two w _ _).2 (by kernel_rfl) rfl (by rw [List.all_toArray]; rfl) ?_)
    (try simp only [Exit.inBlock, Exit.then])
    refine bodyPost_ret (results_cell2 rfl _ _ (w.heap.size + 1) _ _ _ _ rfl (setRow_heap _ _ _ _ _ _ (three_two w _ _).2) Tryz.underlying28 rfl (by kernel_rfl)) rfl ?_
    rw [HQ.out]
    exact retJX_no (below_row (((Below.refl _ _).alloc (Nat.le_refl _) _).alloc (by simp) _) (by omega) _)
  have hkx := bne_of_true hk
  have hc := hck (by simpa using hk)
  clear hck
  have HK := Lib.hid hk
  obtain ⟨ce, hce⟩ : ∃ q, Hid (cmdE x = q) := ⟨_, rfl⟩
  rw [hce.out] at hc
  go_enter Tryz.func48, Tryz.ntmps48
  go_wp2_with (refine wpList_load_row_g (by kernel_rfl) 30 _ rfl (w.heap.size) rfl 30 _ (0, 0) _ (three_two w _ _).1 Tryz.underlying30 rfl (info27 HS.out) ?_)
  refine (hc.out _ (((Below.refl _ _).alloc (Nat.le_refl _) _).alloc (by simp) _)).mono ?_; rintro e w1 ⟨rfl, b1⟩
  obtain ⟨g1, g2, s1⟩ := two_block b1
  have B1 := Lib.hid (two_below b1)
  have x2 : w1.cell? ⟨w.heap.size, 2, none⟩ = some (.string x.name) := (cell_of_row w1 _ 2 _ _ _ g1).trans e2
  have x3 : w1.cell? ⟨w.heap.size, 3, none⟩ = some (.string x.user) := (cell_of_row w1 _ 3 _ _ _ g1).trans e3
  have x4 : w1.cell? ⟨w.heap.size, 4, none⟩ = some (.string x.account) := (cell_of_row w1 _ 4 _ _ _ g1).trans e4
  have x5 : w1.cell? ⟨w.heap.size, 5, none⟩ = some (.int .i64 x.shape.kind) := (cell_of_row w1 _ 5 _ _ _ g1).trans e5
  have x6 : w1.cell? ⟨w.heap.size, 6, none⟩ = some (.slice A x.shape.alts.length c) := (cell_of_row w1 _ 6 _ _ _ g1).trans e6
  have x7 : w1.cell? ⟨w.heap.size, 7, none⟩ = some (.int .i64 x.shape.mn) := (cell_of_row w1 _ 7 _ _ _ g1).trans e7
  have x8 : w1.cell? ⟨w.heap.size, 8, none⟩ = some (.int .i64 x.shape.mx) := (cell_of_row w1 _ 8 _ _ _ g1).trans e8
  have x9 : w1.cell? ⟨w.heap.size, 9, none⟩ = some (.int .i64 x.shape.wall) := (cell_of_row w1 _ 9 _ _ _ g1).trans e9
  have x10 : w1.cell? ⟨w.heap.size, 10, none⟩ = some (.int .i64 x.prio) := (cell_of_row w1 _ 10 _ _ _ g1).trans e10
  have x14 : w1.cell? ⟨w.heap.size, 14, none⟩ = some (.slice A2 x.after.length c2) := (cell_of_row w1 _ 14 _ _ _ g1).trans e14
  have G2 := Lib.hid g2
  clear b1 g1 g2
  cases hc0 : ce == 0
  case false =>
    have HQ : Hid (Q = (noJ, 80)) := by show _ = _; rw [← HQ0.out]; exact newJ_c (by rw [hce.out]; exact hc0)
    have hcx := bne_of_false hc0
    go_wp2_with (refine wpList_store_row rfl 28 _ _ rfl (w.heap.size + 1) _ rfl rfl 28 _ G2.out (by kernel_rfl) rfl (by rw [List.all_toArray]; rfl) ?_)
    (try simp only [Exit.inBlock, Exit.then])
    refine bodyPost_ret (results_cell2 rfl _ _ (w.heap.size + 1) _ _ _ _ rfl (setRow_heap _ _ _ _ _ _ G2.out) Tryz.underlying28 rfl (by kernel_rfl)) rfl ?_
    rw [HQ.out]
    exact retJX_no (below_row B1.out (by omega) _)
  have hcx := bne_of_true hc0
  have HC0 : Hid ((cmdE x == 0) = true) := by show _ = _; rw [hce.out]; exact hc0
  have HJA : Hid (∀ v : Value, v = .agg (jbA (newD id x now) A c A2 c2) → v = .agg (jbA (newD id x now) A c A2 c2)) := Lib.hid (fun _ h => h)
  clear HJA
  obtain ⟨W2, hW2⟩ : ∃ W2, Hid (w1.alloc (.cells (jbA (newD id x now) A c A2 c2) 28) = W2) := ⟨_, rfl⟩
  have HJ2 : Hid (W2.heap[w1.heap.size]? = some (.cells (jbA (newD id x now) A c A2 c2) 28 (0, 0))) := by
    show _ = _
    rw [← hW2.out]
    exact heap_alloc_new w1 _
  have b2 : Below w1.heap.size w1 W2 := by rw [← hW2.out]; exact (Below.refl _ _).alloc (Nat.le_refl _) _
  have B2 := Lib.hid (bt B1.out b2)
  have GR2 := Lib.hid ((b2.block _ s1).trans G2.out)
  have s2 : w1.heap.size < W2.heap.size := (Array.getElem?_eq_some_iff.1 HJ2.out).1
  clear b2
  go_wp2_with (first
    | (refine wpList_store_row rfl 28 _ _ rfl (w1.heap.size) (jbA (newD id x now) A c A2 c2) rfl rfl 28 _ (heap_alloc_new w1 _) (info30 (jbA_size _ _ _ _ _)) rfl (jbA_one _ _ _ _ _) ?_; rw [World.setRow_alloc_new, hW2.out])
    | (refine wpList_load_row rfl 28 _ rfl (w1.heap.size) rfl 28 _ (0, 0) _ HJ2.out Tryz.underlying28 rfl (info30 (jbA_size _ _ _ _ _)) ?_))
  refine (hjc.out _ B2.out).mono ?_; rintro e w3 ⟨rfl, b3⟩
  have J3 := Lib.hid ((b3.block _ s2).trans HJ2.out)
  have R3 := Lib.hid ((b3.block _ (by omega)).trans GR2.out)
  have B3 := Lib.hid (bt B2.out b3)
  have s3 : w.heap.size + 1 < w3.heap.size := (Array.getElem?_eq_some_iff.1 R3.out).1
  clear b3 x2 x3 x4 x5 x6 x7 x8 x9 x10 x14
  cases hj : okJ (newD id x now)
  case false =>
    have HQ : Hid (Q = (noJ, 140)) := by show _ = _; rw [← HQ0.out]; exact newJ_j HK.out HC0.out hj
    have hje := jobE_f hj
    rw [hje]
    clear hje hj
    go_wp2_with (refine wpList_store_row rfl 28 _ _ rfl (w.heap.size + 1) _ rfl rfl 28 _ R3.out (by kernel_rfl) rfl (by rw [List.all_toArray]; rfl) ?_)
    (try simp only [Exit.inBlock, Exit.then])
    refine bodyPost_ret (results_cell2 rfl _ _ (w.heap.size + 1) _ _ _ _ rfl (setRow_heap _ _ _ _ _ _ R3.out) Tryz.underlying28 rfl (by kernel_rfl)) rfl ?_
    rw [HQ.out]
    exact retJX_no (below_row B3.out (by omega) _)
  have HQ : Hid (Q = (newD id x now, 0)) := by show _ = _; rw [← HQ0.out]; exact newJ_y HK.out HC0.out hj
  have hje := jobE_t hj
  rw [hje]
  clear hje hj
  go_wp2_with (refine wpList_load_row rfl 28 _ rfl (w1.heap.size) rfl 28 _ (0, 0) _ J3.out Tryz.underlying28 rfl (info30 (jbA_size _ _ _ _ _)) ?_)
  refine (hcp.out _ B3.out).mono ?_; rintro e w4 ⟨A3, c3, A4, c4, rfl, hat, hoff, b4⟩
  have R4 := Lib.hid ((b4.block _ s3).trans R3.out)
  have AT4 := Lib.hid hat
  have OF4 := Lib.hid hoff
  have B4 := Lib.hid (bt B3.out b4)
  clear hat hoff b4
  rw [jbV_is]
  go_wp2_with (refine wpList_store_row rfl 28 _ _ rfl (w.heap.size + 1) _ rfl rfl 28 _ R4.out (info30 (jbA_size _ _ _ _ _)) rfl (jbA_one _ _ _ _ _) ?_)
  (try simp only [Exit.inBlock, Exit.then])
  refine bodyPost_ret (results_cell2 rfl _ _ (w.heap.size + 1) _ _ _ _ rfl (setRow_heap _ _ _ _ _ _ R4.out) Tryz.underlying28 rfl (info30 (jbA_size _ _ _ _ _))) rfl ?_
  rw [HQ.out]
  refine ⟨A3, c3, A4, c4, rfl, ?_, ⟨OF4.out.1.mono (by have := B3.out.size; omega), OF4.out.2.mono (by have := B3.out.size; omega)⟩, below_row B4.out (by omega) _⟩
  rw [Go.setRow_size]
  exact AT4.out.only OF4.out s3 row_only
set_option maxHeartbeats 4000000 in
set_option maxRecDepth 100000 in
theorem few08_any (x : Cm) (A A2 : Option Addr) (c c2 : Nat) (w : World) : Calls Tryz.prog 13 #[cmV x A c A2 c2] w fun e w' => e = .returned (.bool (fewC x)) ∧ Below w.heap.size w w' := by
  have q := Lib.hid (fun v => few07_any x.shape A c v)
  unfold fewC fewT
  unfold shV at q
  obtain ⟨z, hz⟩ : ∃ z, fewA x.shape = z := ⟨_, rfl⟩
  rw [hz] at q ⊢
  clear hz
  rw [cmV_is]
  have e2 : (cmA x A c A2 c2)[2]? = some (.string x.name) := rfl
  have e3 : (cmA x A c A2 c2)[3]? = some (.string x.user) := rfl
  have e4 : (cmA x A c A2 c2)[4]? = some (.string x.account) := rfl
  have e5 : (cmA x A c A2 c2)[5]? = some (.int .i64 x.shape.kind) := rfl
  have e6 : (cmA x A c A2 c2)[6]? = some (.slice A x.shape.alts.length c) := rfl
  have e7 : (cmA x A c A2 c2)[7]? = some (.int .i64 x.shape.mn) := rfl
  have e8 : (cmA x A c A2 c2)[8]? = some (.int .i64 x.shape.mx) := rfl
  have e9 : (cmA x A c A2 c2)[9]? = some (.int .i64 x.shape.wall) := rfl
  have e14 : (cmA x A c A2 c2)[14]? = some (.slice A2 x.after.length c2) := rfl
  have HS := Lib.hid (cmA_size x A c A2 c2)
  have H1 := Lib.hid (cmA_one x A c A2 c2)
  obtain ⟨cs, hcs⟩ : ∃ cs, Hid (cmA x A c A2 c2 = cs) := ⟨_, rfl⟩
  rw [hcs.out] at HS H1 e2 e3 e4 e5 e6 e7 e8 e9 e14 ⊢
  obtain ⟨n, hn⟩ : ∃ n, x.shape.alts.length = n := ⟨_, rfl⟩
  obtain ⟨m, hm⟩ : ∃ n, x.after.length = n := ⟨_, rfl⟩
  rw [hn] at q e6
  rw [hm] at e14 ⊢
  clear hn hm
  have i1 := le_int1 m
  have i2 := le_int2 x.name.size
  have i3 := le_int2 x.user.size
  have i4 := le_int2 x.account.size
  obtain ⟨q1, h1⟩ : ∃ q, decide (m ≤ 100) = q := ⟨_, rfl⟩
  obtain ⟨q2, h2⟩ : ∃ q, decide (x.name.size ≤ 1000) = q := ⟨_, rfl⟩
  obtain ⟨q3, h3⟩ : ∃ q, decide (x.user.size ≤ 1000) = q := ⟨_, rfl⟩
  obtain ⟨q4, h4⟩ : ∃ q, decide (x.account.size ≤ 1000) = q := ⟨_, rfl⟩
  rw [h1] at i1 ⊢
  rw [h2] at i2 ⊢
  rw [h3] at i3 ⊢
  rw [h4] at i4 ⊢
  clear h1 h2 h3 h4
  cases z
  case false =>
    go_enter Tryz.func13, Tryz.ntmps13
    go_wp2_with (fail)
    refine (q.out _).mono ?_; rintro e w1 ⟨rfl, hb1⟩
    go_wp2
    go_ret
    exact ⟨rfl, bt bx0 hb1⟩
  go_enter Tryz.func13, Tryz.ntmps13
  go_wp2_with (fail)
  refine (q.out _).mono ?_; rintro e w1 ⟨rfl, hb1⟩
  obtain ⟨g1, hb, s1⟩ := box_row hb1
  have B1 := Lib.hid hb
  have m2 : w1.cell? ⟨w.heap.size, 2, none⟩ = some (.string x.name) := (cell_of_row w1 _ 2 _ _ _ g1).trans e2
  have m3 : w1.cell? ⟨w.heap.size, 3, none⟩ = some (.string x.user) := (cell_of_row w1 _ 3 _ _ _ g1).trans e3
  have m4 : w1.cell? ⟨w.heap.size, 4, none⟩ = some (.string x.account) := (cell_of_row w1 _ 4 _ _ _ g1).trans e4
  have m14 : w1.cell? ⟨w.heap.size, 14, none⟩ = some (.slice A2 m c2) := (cell_of_row w1 _ 14 _ _ _ g1).trans e14
  clear hb1 hb g1
  cases q1
  case false =>
    go_wp2
    go_ret
    exact ⟨rfl, B1.out⟩
  cases q2
  case false =>
    go_wp2
    go_ret
    exact ⟨rfl, B1.out⟩
  cases q3
  case false =>
    go_wp2
    go_ret
    exact ⟨rfl, B1.out⟩
  cases q4
  all_goals
    go_wp2
    go_ret
    exact ⟨rfl, B1.out⟩
def sub0 : Cm := ⟨1, 0, ⟨#[97]⟩, ⟨#[117]⟩, ⟨#[120]⟩, ⟨1, [(2, 60)], 0, 0, 0⟩, 0, false, 0, false, [], 0, 0, 0⟩
set_option maxHeartbeats 4000000 in
set_option maxRecDepth 100000 in
theorem sub14_any (w : World) : Calls Tryz.prog 49 #[] w fun e w' => ∃ ad, e = .returned (cmV sub0 (some ad) 1 none 0) ∧ CmAt w' w'.heap.size sub0 (some ad) 1 none 0 ∧ Below w.heap.size w w' := by
  go_enter Tryz.func49, Tryz.ntmps49
  go_wp2_with (refine wpList_store_row rfl 30 _ _ rfl (w.heap.size) _ rfl rfl 30 _ (three_two w _ _).1 (by kernel_rfl) rfl (by rw [List.all_toArray]; rfl) ?_)
  (try simp only [Exit.inBlock, Exit.then])
  refine bodyPost_ret (results_cell_row rfl _ _ (w.heap.size) _ _ _ _ rfl (setRow_heap _ _ _ _ _ _ (three_two w _ _).1) Tryz.underlying30 rfl (by kernel_rfl)) rfl ?_
  refine ⟨⟨w.heap.size + 1, 0, none⟩, rfl, ⟨?_, Reads.none_, by decide, by decide, by decide, by decide⟩, below_row (((Below.refl _ _).alloc (Nat.le_refl _) _).alloc (by simp) _) (Nat.le_refl _) _⟩
  have h := Reads.madeRec (enc := prC) (w.alloc (.cells #[.int .i64 0, .int .i64 0, .string ⟨#[]⟩, .string ⟨#[]⟩, .string ⟨#[]⟩, .int .i64 0, .slice none 0 0, .int .i64 0, .int .i64 0, .int .i64 0, .int .i64 0, .bool false, .int .i64 0, .bool false, .slice none 0 0, .int .i64 0, .int .i64 0, .int .i64 0] 30)) ((2, 60) : Pr) 103 rfl
  rw [World.size_alloc] at h
  refine (Reads.only_ h ?_ row_only).more (by simp)
  intro _ ad he
  cases he
  exact Nat.le_refl _
def aJ : Jb := newD 3 sub0 1
def bJ : Jb := promD aJ 5 0
def cJ : Jb := startD bJ 4 3
def dJ : Jb := finD cJ 3
theorem aJ_is : newJ 3 sub0 1 = (aJ, 0) := by kernel_rfl
theorem bJ_is : promJ aJ 5 0 = (bJ, 0) := by kernel_rfl
theorem cJ_is : startJ bJ 4 3 = (cJ, 0) := by kernel_rfl
theorem eJ_is : startJ bJ 6 3 = (noJ, 141) := by kernel_rfl
theorem dJ_is : endJ cJ 3 = (dJ, 0) := by kernel_rfl
theorem dJ_over : (okJ dJ && endedB dJ.state) = true := by kernel_rfl
theorem cJ_over : (okJ cJ && endedB cJ.state) = false := by kernel_rfl
theorem noJ_err : jobE noJ = 140 := by kernel_rfl
theorem dJ_same : sameJ dJ dJ = true := by kernel_rfl
theorem aJ_sz : JbSz aJ := ⟨⟨by decide, by decide, by decide⟩, by rw [M64_is]; decide⟩
theorem bJ_sz : JbSz bJ := ⟨⟨by decide, by decide, by decide⟩, by rw [M64_is]; decide⟩
theorem cJ_sz : JbSz cJ := ⟨⟨by decide, by decide, by decide⟩, by rw [M64_is]; decide⟩
theorem dJ_sz : JbSz dJ := ⟨⟨by decide, by decide, by decide⟩, by rw [M64_is]; decide⟩
theorem noJ_sz : JbSz noJ := ⟨⟨by decide, by decide, by decide⟩, by rw [M64_is]; decide⟩
theorem sub0_sz : CmSz sub0 := ⟨by decide, by decide, by decide⟩
set_option linter.unusedSimpArgs false in
set_option maxHeartbeats 8000000 in
set_option maxRecDepth 100000 in
theorem awake14_any (w : World) : Calls Tryz.prog 14 #[] w fun e w' => e = .returned (.bool true) ∧ Below w.heap.size w w' := by
  go_enter Tryz.func14, Tryz.ntmps14
  go_wp2_with (fail)
  refine (sub14_any _).mono ?_; rintro e w0 ⟨ad, rfl, hc0, hb0⟩
  have B0 := Lib.hid hb0
  have hn := new_any 3 1 sub0 (some ad) none 1 0 w0.heap.size w0 hc0 (Nat.le_refl _) sub0_sz
  rw [aJ_is] at hn
  have HN := Lib.hid hn
  clear hn hc0 hb0
  go_wp2_with (fail)
  refine HN.out.mono ?_; rintro e w1 ⟨A1, c1, D1, d1, rfl, hat1, _, hb1⟩
  obtain ⟨W1, hW1⟩ : ∃ W, Hid (w1.alloc (.cells (jbA aJ A1 c1 D1 d1) 28) = W) := ⟨_, rfl⟩
  have J1 : Hid (W1.heap[w1.heap.size]? = some (.cells (jbA aJ A1 c1 D1 d1) 28 (0, 0))) := by
    show _ = _
    rw [← hW1.out]
    exact heap_alloc_new w1 _
  have ba1 : Below w1.heap.size w1 W1 := by rw [← hW1.out]; exact bx0
  have B1 := Lib.hid (bt (bt B0.out hb1) ba1)
  have AT1 := Lib.hid ((hat1.below ba1).more ba1.size)
  have hs1 : w1.heap.size < W1.heap.size := (Array.getElem?_eq_some_iff.1 J1.out).1
  have HT1 : Hid (∀ i : Int, W1 = W1) := Lib.hid (fun _ => rfl)
  clear HT1 hat1 hb1 ba1
  rw [jbV_is]
  have hp := prom_any aJ 5 0 A1 D1 c1 d1 W1.heap.size W1 AT1.out (Nat.le_refl _) aJ_sz
  rw [bJ_is, jbV_is] at hp
  have HP := Lib.hid hp
  clear hp
  go_wp2_with (first | (refine wpList_store_row rfl 28 _ _ rfl (w1.heap.size) (jbA aJ A1 c1 D1 d1) rfl rfl 28 _ (heap_alloc_new w1 _) (info30 (jbA_size _ _ _ _ _)) rfl (jbA_one _ _ _ _ _) ?_; rw [World.setRow_alloc_new, hW1.out]) | (refine wpList_load_row rfl 28 _ rfl (w1.heap.size) rfl 28 _ (0, 0) _ J1.out Tryz.underlying28 rfl (info30 (jbA_size _ _ _ _ _)) ?_))
  refine HP.out.mono ?_; rintro e w2 ⟨A2, c2, D2, d2, rfl, hat2, _, hb2⟩
  obtain ⟨W2, hW2⟩ : ∃ W, Hid (w2.alloc (.cells (jbA bJ A2 c2 D2 d2) 28) = W) := ⟨_, rfl⟩
  have J2 : Hid (W2.heap[w2.heap.size]? = some (.cells (jbA bJ A2 c2 D2 d2) 28 (0, 0))) := by
    show _ = _
    rw [← hW2.out]
    exact heap_alloc_new w2 _
  have ba2 : Below w2.heap.size w2 W2 := by rw [← hW2.out]; exact bx0
  have B2 := Lib.hid (bt (bt B1.out hb2) ba2)
  have AT2 := Lib.hid ((hat2.below ba2).more ba2.size)
  have hs2 : w2.heap.size < W2.heap.size := (Array.getElem?_eq_some_iff.1 J2.out).1
  have J1_2 := Lib.hid ((ba2.block _ (Nat.lt_of_lt_of_le (Array.getElem?_eq_some_iff.1 J1.out).1 hb2.size)).trans ((hb2.block _ (Array.getElem?_eq_some_iff.1 J1.out).1).trans J1.out))
  have HT2 : Hid (∀ i : Int, W2 = W2) := Lib.hid (fun _ => rfl)
  clear HT2 hat2 hb2 ba2
  rw [jbV_is]
  have hp := start_any bJ 4 3 A2 D2 c2 d2 W2.heap.size W2 AT2.out (Nat.le_refl _) bJ_sz (by rw [M64_is]; decide)
  rw [cJ_is, jbV_is] at hp
  have HP3 := Lib.hid hp
  clear hp
  go_wp2_with (first | (refine wpList_store_row rfl 28 _ _ rfl (w2.heap.size) (jbA bJ A2 c2 D2 d2) rfl rfl 28 _ (heap_alloc_new w2 _) (info30 (jbA_size _ _ _ _ _)) rfl (jbA_one _ _ _ _ _) ?_; rw [World.setRow_alloc_new, hW2.out]) | (refine wpList_load_row rfl 28 _ rfl (w2.heap.size) rfl 28 _ (0, 0) _ J2.out Tryz.underlying28 rfl (info30 (jbA_size _ _ _ _ _)) ?_))
  refine HP3.out.mono ?_; rintro e w3 ⟨A3, c3, D3, d3, rfl, hat3, _, hb3⟩
  obtain ⟨W3, hW3⟩ : ∃ W, Hid (w3.alloc (.cells (jbA cJ A3 c3 D3 d3) 28) = W) := ⟨_, rfl⟩
  have J3 : Hid (W3.heap[w3.heap.size]? = some (.cells (jbA cJ A3 c3 D3 d3) 28 (0, 0))) := by
    show _ = _
    rw [← hW3.out]
    exact heap_alloc_new w3 _
  have ba3 : Below w3.heap.size w3 W3 := by rw [← hW3.out]; exact bx0
  have B3 := Lib.hid (bt (bt B2.out hb3) ba3)
  have AT3 := Lib.hid ((hat3.below ba3).more ba3.size)
  have hs3 : w3.heap.size < W3.heap.size := (Array.getElem?_eq_some_iff.1 J3.out).1
  have J1_3 := Lib.hid ((ba3.block _ (Nat.lt_of_lt_of_le (Array.getElem?_eq_some_iff.1 J1_2.out).1 hb3.size)).trans ((hb3.block _ (Array.getElem?_eq_some_iff.1 J1_2.out).1).trans J1_2.out))
  have J2_3 := Lib.hid ((ba3.block _ (Nat.lt_of_lt_of_le (Array.getElem?_eq_some_iff.1 J2.out).1 hb3.size)).trans ((hb3.block _ (Array.getElem?_eq_some_iff.1 J2.out).1).trans J2.out))
  have HB23 := Lib.hid (bt hb3 ba3)
  have HT3 : Hid (∀ i : Int, W3 = W3) := Lib.hid (fun _ => rfl)
  clear HT3 hat3 hb3 ba3
  rw [jbV_is]
  have hp := start_any bJ 6 3 A2 D2 c2 d2 W2.heap.size W3 (AT2.out.below HB23.out) HB23.out.size bJ_sz (by rw [M64_is]; decide)
  rw [eJ_is, jbV_is] at hp
  have HP4 := Lib.hid hp
  clear hp
  go_wp2_with (first | (refine wpList_store_row rfl 28 _ _ rfl (w3.heap.size) (jbA cJ A3 c3 D3 d3) rfl rfl 28 _ (heap_alloc_new w3 _) (info30 (jbA_size _ _ _ _ _)) rfl (jbA_one _ _ _ _ _) ?_; rw [World.setRow_alloc_new, hW3.out]) | (refine wpList_load_row rfl 28 _ rfl (w2.heap.size) rfl 28 _ (0, 0) _ J2_3.out Tryz.underlying28 rfl (info30 (jbA_size _ _ _ _ _)) ?_))
  refine HP4.out.mono ?_; rintro e w4 ⟨A4, c4, D4, d4, rfl, hat4, _, hb4⟩
  obtain ⟨W4, hW4⟩ : ∃ W, Hid (w4.alloc (.cells (jbA noJ A4 c4 D4 d4) 28) = W) := ⟨_, rfl⟩
  have J4 : Hid (W4.heap[w4.heap.size]? = some (.cells (jbA noJ A4 c4 D4 d4) 28 (0, 0))) := by
    show _ = _
    rw [← hW4.out]
    exact heap_alloc_new w4 _
  have ba4 : Below w4.heap.size w4 W4 := by rw [← hW4.out]; exact bx0
  have B4 := Lib.hid (bt (bt B3.out hb4) ba4)
  have AT4 := Lib.hid ((hat4.below ba4).more ba4.size)
  have hs4 : w4.heap.size < W4.heap.size := (Array.getElem?_eq_some_iff.1 J4.out).1
  have J1_4 := Lib.hid ((ba4.block _ (Nat.lt_of_lt_of_le (Array.getElem?_eq_some_iff.1 J1_3.out).1 hb4.size)).trans ((hb4.block _ (Array.getElem?_eq_some_iff.1 J1_3.out).1).trans J1_3.out))
  have J3_4 := Lib.hid ((ba4.block _ (Nat.lt_of_lt_of_le (Array.getElem?_eq_some_iff.1 J3.out).1 hb4.size)).trans ((hb4.block _ (Array.getElem?_eq_some_iff.1 J3.out).1).trans J3.out))
  have HB34 := Lib.hid (bt hb4 ba4)
  have HT4 : Hid (∀ i : Int, W4 = W4) := Lib.hid (fun _ => rfl)
  clear HT4 hat4 hb4 ba4
  rw [jbV_is]
  have hp := end_any cJ 3 A3 D3 c3 d3 W3.heap.size W4 (AT3.out.below HB34.out) HB34.out.size cJ_sz
  rw [dJ_is, jbV_is] at hp
  have HP5 := Lib.hid hp
  clear hp
  go_wp2_with (first | (refine wpList_store_row rfl 28 _ _ rfl (w4.heap.size) (jbA noJ A4 c4 D4 d4) rfl rfl 28 _ (heap_alloc_new w4 _) (info30 (jbA_size _ _ _ _ _)) rfl (jbA_one _ _ _ _ _) ?_; rw [World.setRow_alloc_new, hW4.out]) | (refine wpList_load_row rfl 28 _ rfl (w3.heap.size) rfl 28 _ (0, 0) _ J3_4.out Tryz.underlying28 rfl (info30 (jbA_size _ _ _ _ _)) ?_))
  refine HP5.out.mono ?_; rintro e w5 ⟨A5, c5, D5, d5, rfl, hat5, _, hb5⟩
  obtain ⟨W5, hW5⟩ : ∃ W, Hid (w5.alloc (.cells (jbA dJ A5 c5 D5 d5) 28) = W) := ⟨_, rfl⟩
  have J5 : Hid (W5.heap[w5.heap.size]? = some (.cells (jbA dJ A5 c5 D5 d5) 28 (0, 0))) := by
    show _ = _
    rw [← hW5.out]
    exact heap_alloc_new w5 _
  have ba5 : Below w5.heap.size w5 W5 := by rw [← hW5.out]; exact bx0
  have B5 := Lib.hid (bt (bt B4.out hb5) ba5)
  have AT5 := Lib.hid ((hat5.below ba5).more ba5.size)
  have hs5 : w5.heap.size < W5.heap.size := (Array.getElem?_eq_some_iff.1 J5.out).1
  have J1_5 := Lib.hid ((ba5.block _ (Nat.lt_of_lt_of_le (Array.getElem?_eq_some_iff.1 J1_4.out).1 hb5.size)).trans ((hb5.block _ (Array.getElem?_eq_some_iff.1 J1_4.out).1).trans J1_4.out))
  have J3_5 := Lib.hid ((ba5.block _ (Nat.lt_of_lt_of_le (Array.getElem?_eq_some_iff.1 J3_4.out).1 hb5.size)).trans ((hb5.block _ (Array.getElem?_eq_some_iff.1 J3_4.out).1).trans J3_4.out))
  have HB45 := Lib.hid (bt hb5 ba5)
  have HT5 : Hid (∀ i : Int, W5 = W5) := Lib.hid (fun _ => rfl)
  clear HT5 hat5 hb5 ba5
  rw [jbV_is]
  have f1 : W5.cell? ⟨w1.heap.size, 14, none⟩ = some (.int .i64 (-1)) := (cell_of_row W5 _ 14 _ _ _ J1_5.out).trans rfl
  have f3 : W5.cell? ⟨w3.heap.size, 17, none⟩ = some (.int .i64 64) := (cell_of_row W5 _ 17 _ _ _ J3_5.out).trans rfl
  have f5 : W5.cell? ⟨w5.heap.size, 18, none⟩ = some (.int .u64 0) := (cell_of_row W5 _ 18 _ _ _ J5.out).trans rfl
  have q1 := Lib.hid (fun v (hv : Below W5.heap.size W5 v) => over14_any dJ A5 D5 c5 d5 W5.heap.size v (AT5.out.below hv) hv.size dJ_sz)
  have q2 := Lib.hid (fun v (hv : Below W3.heap.size W3 v) => over14_any cJ A3 D3 c3 d3 W3.heap.size v (AT3.out.below hv) hv.size cJ_sz)
  have q3 := Lib.hid (fun v => jcheck_any noJ none none 0 0 0 v (noJ_at v 0 0).1 (Nat.zero_le _) noJ_sz)
  have q4 := Lib.hid (fun v (hv : Below W5.heap.size W5 v) => sameJ_any dJ dJ A5 D5 A5 D5 c5 d5 c5 d5 W5.heap.size v (AT5.out.below hv) (AT5.out.below hv) hv.size)
  have HBE : Hid (∀ v, Below W5.heap.size W5 v → Below W3.heap.size W3 v) := Lib.hid (fun v hv => bt (bt HB34.out HB45.out) hv)
  rw [dJ_over, jbV_is] at q1
  rw [cJ_over, jbV_is] at q2
  rw [noJ_err] at q3
  rw [dJ_same, jbV_is] at q4
  go_wp2_with (first
    | (refine wpList_store_row rfl 28 _ _ rfl (w5.heap.size) (jbA dJ A5 c5 D5 d5) rfl rfl 28 _ (heap_alloc_new w5 _) (info30 (jbA_size _ _ _ _ _)) rfl (jbA_one _ _ _ _ _) ?_; rw [World.setRow_alloc_new, hW5.out])
    | (refine wpList_load_row_g (by kernel_rfl) 28 _ rfl (w5.heap.size) rfl 28 _ (0, 0) _ J5.out Tryz.underlying28 rfl (info30 (jbA_size _ _ _ _ _)) ?_)
    | (go_at_call 35; with_reducible refine (q1.out _ (Below.refl _ _)).mono ?_; rintro e w6 ⟨rfl, hb6⟩
       have j3 := (hb6.block _ (Array.getElem?_eq_some_iff.1 J3_5.out).1).trans J3_5.out
       have j5 := (hb6.block _ hs5).trans J5.out
       have B6 := Lib.hid hb6
       have J36 := Lib.hid j3
       have J56 := Lib.hid j5
       clear hb6 j3 j5 f1 f3 f5)
    | (refine wpList_load_row_g (by kernel_rfl) 28 _ rfl (w3.heap.size) rfl 28 _ (0, 0) _ J36.out Tryz.underlying28 rfl (info30 (jbA_size _ _ _ _ _)) ?_)
    | (go_at_call 35; with_reducible refine (q2.out _ (HBE.out _ B6.out)).mono ?_; rintro e w7 ⟨rfl, hb7⟩
       have j5 := (hb7.block _ (Array.getElem?_eq_some_iff.1 J56.out).1).trans J56.out
       have B7 := Lib.hid (bt B6.out hb7)
       have J57 := Lib.hid j5
       clear hb7 j5)
    | (go_at_call 53; refine (q3.out _).mono ?_; rintro e w8 ⟨rfl, hb8⟩
       have j5 := (hb8.block _ (Array.getElem?_eq_some_iff.1 J57.out).1).trans J57.out
       have B8 := Lib.hid (bt B7.out hb8)
       have J58 := Lib.hid j5
       clear hb8 j5)
    | (refine wpList_load_row_g (by kernel_rfl) 28 _ rfl (w5.heap.size) rfl 28 _ (0, 0) _ J58.out Tryz.underlying28 rfl (info30 (jbA_size _ _ _ _ _)) ?_)
    | (go_at_call 54; refine (q4.out _ B8.out).mono ?_; rintro e w9 ⟨rfl, hb9⟩))
  go_ret
  exact ⟨rfl, bt (bt B5.out B8.out) hb9⟩
end Go.Proofs.YtghmcdfmbjabnaaGreatDoor
namespace Go.Proofs.YtghmcdfmbjabnaaGreatDoor
set_option linter.unusedVariables false
open Go.RowKit Go.ChangeShapes Go.WideShapes Go.Deep
section
variable {H : Type} {enc0 : TypeId × Value → H} {w : World} {base : Nat} {held : Bool}
end
end Go.Proofs.YtghmcdfmbjabnaaGreatDoor
