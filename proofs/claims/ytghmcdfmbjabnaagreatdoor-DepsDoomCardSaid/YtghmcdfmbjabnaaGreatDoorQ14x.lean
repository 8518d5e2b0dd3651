/- Layer 14: what the reference's acts hand back: a job whose lists lie away from what the caller may write. Contracts of the reference of layer 1: what each call returns, for every input. Layer 14: the reference's Charge, walked (printed by a program of my own). Layer 14: the reference's acts walked (printed by a program of my own). Layer 14: the reference's acts walked (printed by a program of my own). Layer 14: the reference's End walked (printed by a program of my own). Layer 14: the reference's Size walked (printed by a program of my own). -/
import Derived.Test.YtghmcdfmbjabnaaGreatDoorQ10x
import Derived.Test.YtghmcdfmbjabnaaGreatDoorQ12x
import Derived.Test.YtghmcdfmbjabnaaGreatDoorK1t
import Derived.Test.YtghmcdfmbjabnaaGreatDoorK1x
import Derived.Test.YtghmcdfmbjabnaaGreatDoorQ0t
namespace Go.Proofs.YtghmcdfmbjabnaaGreatDoor
set_option linter.unusedVariables false
open Go.RowKit
/-- as RetJY; its lists lie below B, or behind the call's world -/
def RetJZ (w : World) (B : Nat) (q : Jb × Int) (e : Ending) (w' : World) : Prop :=
  ∃ A c A2 c2, e = .returned (.tuple #[jbV q.1 A c A2 c2, .int .i64 q.2]) ∧ JbAt w' w'.heap.size q.1 A c A2 c2 ∧ (∀ p, B ≤ p → p < w.heap.size → JbAway p q.1 A A2) ∧ Below w.heap.size w w'
theorem away_noJ {p : Nat} {A A2 : Option Addr} : JbAway p noJ A A2 := ⟨fun h => absurd h (by decide), fun h => absurd h (by decide)⟩
theorem retJZ_no {w w' : World} {er : Int} {B : Nat} (hb : Below w.heap.size w w') : RetJZ w B (noJ, er) (.returned (.tuple #[.agg #[.int .i64 0, .string ⟨#[]⟩, .string ⟨#[]⟩, .string ⟨#[]⟩, .int .i64 0, .slice none 0 0, .int .i64 0, .int .i64 0, .int .i64 0, .int .i64 0, .slice none 0 0, .int .i64 0, .bool false, .int .i64 0, .int .i64 0, .int .i64 0, .int .i64 0, .int .i64 0, .int .u64 0, .int .i64 0], .int .i64 er])) w' :=
  ⟨none, 0, none, 0, rfl, (noJ_at _ _ w.heap.size).1, fun _ _ _ => away_noJ, hb⟩
theorem retZ_end {w w1 : World} {x y : Jb} {B r : Nat} {A A2 : Option Addr} {c c2 : Nat} (hat : JbAt w B x A c A2 c2) (hB : B ≤ w.heap.size) (hs : y.shape = x.shape) (ha : y.after = x.after) (hb : Below w.heap.size w w1) (hr : w.heap.size ≤ r) :
    RetJZ w B (y, 0) (.returned (.tuple #[.agg (jbA y A c A2 c2), .int .i64 0])) (w1.setRow r (jbA y A c A2 c2)) := by
  have h := below_row hb hr (jbA y A c A2 c2)
  exact ⟨A, c, A2, c2, rfl, ((hat.below (h.mono hB)).more (Nat.le_trans hB h.size)).as hs ha, fun p hp _ => by
    have h := hat.away_of hp
    unfold JbAway at h ⊢
    rw [hs, ha]; exact h, h⟩
set_option linter.unusedSimpArgs false in
set_option maxHeartbeats 8000000 in
set_option maxRecDepth 100000 in
theorem rend_any (x : Jb) (st : Int) (A A2 : Option Addr) (c c2 B : Nat) (w : World) (hx : JbAt w B x A c A2 c2) (hB : B ≤ w.heap.size) (hz : JbSz x) :
    Calls Tryz.prog 65 #[jbV x A c A2 c2, .int .i64 st] w (RetJZ w B (endJ x st)) := by
  have hck := Lib.hid (fun v (hv : Below w.heap.size w v) => rcheck14_any x A A2 c c2 B v (hx.below (hv.mono hB)) (Nat.le_trans hB hv.size) hz)
  obtain ⟨Q, HQ0⟩ : ∃ Q, Hid (endJ x st = Q) := ⟨_, rfl⟩
  rw [HQ0.out]
  have HAT := Lib.hid hx
  have HB := Lib.hid hB
  have q1 := Lib.hid (fun v => rended_any st v)
  obtain ⟨z1, hz1⟩ : ∃ q, Hid (endedB st = q) := ⟨_, rfl⟩
  rw [hz1.out] at q1
  clear hx hB hz
  rw [jbV_is] at hck ⊢
  have e11 : (jbA x A c A2 c2)[11]? = some (.int .i64 x.state) := rfl
  have e12 : (jbA x A c A2 c2)[12]? = some (.bool x.held) := rfl
  have e14 : (jbA x A c A2 c2)[14]? = some (.int .i64 x.promise) := rfl
  have e15 : (jbA x A c A2 c2)[15]? = some (.int .i64 x.choice) := rfl
  have e18 : (jbA x A c A2 c2)[18]? = some (.int .u64 x.nodes) := rfl
  have HS := Lib.hid (jbA_size x A c A2 c2)
  have H1 := Lib.hid (jbA_one x A c A2 c2)
  obtain ⟨cs, hcs⟩ : ∃ cs, Hid (jbA x A c A2 c2 = cs) := ⟨_, rfl⟩
  rw [hcs.out] at HS H1 e11 e12 e14 e15 e18 hck ⊢
  obtain ⟨u, HU⟩ : ∃ u : Int, Hid ((x.nodes : Int) = u) := ⟨_, rfl⟩
  rw [HU.out] at e18
  cases hk : okJ x
  case false =>
    rw [jobE_f hk] at hck
    have HK := Lib.hid hk
    clear hk
    go_enter Tryz.func65, Tryz.ntmps65
    go_wp2_with (refine wpList_load_row rfl 28 _ rfl (w.heap.size) rfl 28 _ (0, 0) _ (three_two w _ _).1 Tryz.underlying28 rfl (info30 HS.out) ?_)
    refine (hck.out _ (((Below.refl _ _).alloc (Nat.le_refl _) _).alloc (by simp) _)).mono ?_; rintro e w1 ⟨rfl, b1⟩
    obtain ⟨g1, g2, s1⟩ := two_block b1
    have B1 := Lib.hid (two_below b1)
    have G1 := Lib.hid g1
    have G2 := Lib.hid g2
    clear b1 g1 g2
    have HQ : Hid (Q = (noJ, 140)) := by show _ = _; rw [← HQ0.out]; exact turnJ_f HK.out
    go_wp2_with (first | (refine wpList_store_row rfl 28 _ _ rfl (w.heap.size + 1) _ rfl rfl 28 _ G2.out (by kernel_rfl) rfl (by rw [List.all_toArray]; rfl) ?_))
    (try simp only [Exit.inBlock, Exit.then])
    refine bodyPost_ret (results_cell2 rfl _ _ (w.heap.size + 1) _ _ _ _ rfl (setRow_heap _ _ _ _ _ _ G2.out) Tryz.underlying28 rfl (by kernel_rfl)) rfl ?_
    rw [HQ.out]
    exact retJZ_no (below_row B1.out (by omega) _)
  rw [jobE_t hk] at hck
  have HK := Lib.hid hk
  clear hk
  go_enter Tryz.func65, Tryz.ntmps65
  go_wp2_with (refine wpList_load_row rfl 28 _ rfl (w.heap.size) rfl 28 _ (0, 0) _ (three_two w _ _).1 Tryz.underlying28 rfl (info30 HS.out) ?_)
  refine (hck.out _ (((Below.refl _ _).alloc (Nat.le_refl _) _).alloc (by simp) _)).mono ?_; rintro e w1 ⟨rfl, b1⟩
  obtain ⟨g1, g2, s1⟩ := two_block b1
  have B1 := Lib.hid (two_below b1)
  have x11 : w1.cell? ⟨w.heap.size, 11, none⟩ = some (.int .i64 x.state) := (cell_of_row w1 _ 11 _ _ _ g1).trans e11
  have x12 : w1.cell? ⟨w.heap.size, 12, none⟩ = some (.bool x.held) := (cell_of_row w1 _ 12 _ _ _ g1).trans e12
  have x14 : w1.cell? ⟨w.heap.size, 14, none⟩ = some (.int .i64 x.promise) := (cell_of_row w1 _ 14 _ _ _ g1).trans e14
  have x15 : w1.cell? ⟨w.heap.size, 15, none⟩ = some (.int .i64 x.choice) := (cell_of_row w1 _ 15 _ _ _ g1).trans e15
  have x18 : w1.cell? ⟨w.heap.size, 18, none⟩ = some (.int .u64 u) := (cell_of_row w1 _ 18 _ _ _ g1).trans e18
  have hf1 : ∀ j, w1.frozen? ⟨w.heap.size, j, none⟩ = false := fun j => by simp [World.frozen?, g1]
  have G1 := Lib.hid g1
  have G2 := Lib.hid g2
  clear b1 g1 g2
  cases z1
  case false =>
    have HQ : Hid (Q = (noJ, 2)) := by show _ = _; rw [← HQ0.out]; exact turnJ_e HK.out (by unfold endM; rw [hz1.out]; rfl) (by decide)
    go_wp2_with (first | (go_at_call 134; refine (q1.out _).mono ?_; rintro e w2 ⟨rfl, rfl⟩) | (refine wpList_store_row rfl 28 _ _ rfl (w.heap.size + 1) _ rfl rfl 28 _ G2.out (by kernel_rfl) rfl (by rw [List.all_toArray]; rfl) ?_))
    (try simp only [Exit.inBlock, Exit.then])
    refine bodyPost_ret (results_cell2 rfl _ _ (w.heap.size + 1) _ _ _ _ rfl (setRow_heap _ _ _ _ _ _ G2.out) Tryz.underlying28 rfl (by kernel_rfl)) rfl ?_
    rw [HQ.out]
    exact retJZ_no (below_row B1.out (by omega) _)
  by_cases h1 : x.state = 1
  · have t1 : (x.state == 1) = true := beq_iff_eq.2 h1
    have t2 : (x.state == 2) = false := beq_eq_false_iff_ne.2 (by omega)
    have t2x := bne_of_false t2
    have HD1 : Hid (finD x st = { x with held := false, promise := -1, choice := 0, state := st, nodes := 0 }) := by show _ = _; unfold finD; rw [if_pos h1]
    clear h1
    cases t6 : st == 6
    · have HQ : Hid (Q = (noJ, 141)) := by show _ = _; rw [← HQ0.out]; exact turnJ_e HK.out (by unfold endM whenE; rw [hz1.out, t1, t2, t6]; rfl) (by decide)
      go_wp2_with (first | (go_at_call 134; refine (q1.out _).mono ?_; rintro e w2 ⟨rfl, rfl⟩) | (refine wpList_store_row rfl 28 _ _ rfl (w.heap.size + 1) _ rfl rfl 28 _ G2.out (by kernel_rfl) rfl (by rw [List.all_toArray]; rfl) ?_))
      (try simp only [Exit.inBlock, Exit.then])
      refine bodyPost_ret (results_cell2 rfl _ _ (w.heap.size + 1) _ _ _ _ rfl (setRow_heap _ _ _ _ _ _ G2.out) Tryz.underlying28 rfl (by kernel_rfl)) rfl ?_
      rw [HQ.out]
      exact retJZ_no (below_row B1.out (by omega) _)
    · go_upto_region 11 with (go_at_call 134; refine (q1.out _).mono ?_; rintro e w2 ⟨rfl, rfl⟩)
      have gj_ : (((w1.setCell ⟨w.heap.size, 12, none⟩ (.bool false)).setCell ⟨w.heap.size, 14, none⟩ (.int .i64 (-1))).setCell ⟨w.heap.size, 15, none⟩ (.int .i64 0)).heap[w.heap.size]? = some (.cells (jbA ({ x with held := false, promise := -1, choice := 0 }) A c A2 c2) 28 (0, 0)) := by
        refine Eq.trans ((setCell_blk (k := 15) (a := .int .i64 0) (setCell_blk (k := 14) (a := .int .i64 (-1)) (setCell_blk (k := 12) (a := .bool false) G1.out)))) ?_
        rw [← hcs.out]
        rfl
      have gr_ : (((w1.setCell ⟨w.heap.size, 12, none⟩ (.bool false)).setCell ⟨w.heap.size, 14, none⟩ (.int .i64 (-1))).setCell ⟨w.heap.size, 15, none⟩ (.int .i64 0)).heap[w.heap.size + 1]? = _ := ((Below.heap_setCell _ _ _ _ (by simp)).trans ((Below.heap_setCell _ _ _ _ (by simp)).trans ((Below.heap_setCell _ _ _ _ (by simp)).trans G2.out)))
      have bb_ : Below w.heap.size w (((w1.setCell ⟨w.heap.size, 12, none⟩ (.bool false)).setCell ⟨w.heap.size, 14, none⟩ (.int .i64 (-1))).setCell ⟨w.heap.size, 15, none⟩ (.int .i64 0)) := (Below.setCell (Below.setCell (Below.setCell B1.out (p := ⟨w.heap.size, 12, none⟩) (Nat.le_refl _) (.bool false)) (p := ⟨w.heap.size, 14, none⟩) (Nat.le_refl _) (.int .i64 (-1))) (p := ⟨w.heap.size, 15, none⟩) (Nat.le_refl _) (.int .i64 0))
      obtain ⟨W2, hw_⟩ : ∃ W, (((w1.setCell ⟨w.heap.size, 12, none⟩ (.bool false)).setCell ⟨w.heap.size, 14, none⟩ (.int .i64 (-1))).setCell ⟨w.heap.size, 15, none⟩ (.int .i64 0)) = W := ⟨_, rfl⟩
      rw [hw_] at gj_ gr_ bb_
      obtain ⟨cs2, hcs2⟩ : ∃ cs, Hid (jbA ({ x with held := false, promise := -1, choice := 0 }) A c A2 c2 = cs) := ⟨_, rfl⟩
      rw [hcs2.out] at gj_
      have y11 : W2.cell? ⟨w.heap.size, 11, none⟩ = some (.int .i64 x.state) := (cell_of_row W2 _ 11 _ _ _ gj_).trans (by rw [← hcs2.out]; rfl)
      have y18 : W2.cell? ⟨w.heap.size, 18, none⟩ = some (.int .u64 x.nodes) := (cell_of_row W2 _ 18 _ _ _ gj_).trans (by rw [← hcs2.out]; rfl)
      have fy : ∀ j, W2.frozen? ⟨w.heap.size, j, none⟩ = false := fun j => by simp [World.frozen?, gj_]
      have GJ2 := Lib.hid gj_
      have GR2 := Lib.hid gr_
      have BB2 := Lib.hid bb_
      clear gj_ gr_ bb_
      rw [hw_]
      clear hw_ x11 x12 x14 x15 x18 hf1
      have HQ : Hid (Q = (finD x st, 0)) := by show _ = _; rw [← HQ0.out]; exact turnJ_g HK.out (by unfold endM whenE; rw [hz1.out, t1, t2, t6]; rfl)
      have HJ : Hid (((W2.setCell ⟨w.heap.size, 11, none⟩ (.int .i64 st)).setCell ⟨w.heap.size, 18, none⟩ (.int .u64 0)).heap[w.heap.size]? = some (.cells (jbA (finD x st) A c A2 c2) 28 (0, 0))) := by
        show _ = _
        refine Eq.trans ((setCell_blk (k := 18) (a := .int .u64 0) (setCell_blk (k := 11) (a := .int .i64 st) GJ2.out))) ?_
        rw [HD1.out, ← hcs2.out]
        rfl
      have HR_ : Hid (((W2.setCell ⟨w.heap.size, 11, none⟩ (.int .i64 st)).setCell ⟨w.heap.size, 18, none⟩ (.int .u64 0)).heap[w.heap.size + 1]? = _) := ((Below.heap_setCell _ _ _ _ (by simp)).trans ((Below.heap_setCell _ _ _ _ (by simp)).trans GR2.out))
      go_wp2_with (first | (refine wpList_load_row rfl 28 _ rfl (w.heap.size) rfl 28 _ (0, 0) _ HJ.out Tryz.underlying28 rfl (info30 (jbA_size _ _ _ _ _)) ?_) | (refine wpList_store_row rfl 28 _ _ rfl (w.heap.size + 1) _ rfl rfl 28 _ HR_.out (info30 (jbA_size _ _ _ _ _)) rfl (jbA_one _ _ _ _ _) ?_))
      (try simp only [Exit.inBlock, Exit.then])
      refine bodyPost_ret (results_cell2 rfl _ _ (w.heap.size + 1) _ _ _ _ rfl (setRow_heap _ _ _ _ _ _ HR_.out) Tryz.underlying28 rfl (info30 (jbA_size _ _ _ _ _))) rfl ?_
      rw [HQ.out]
      refine retZ_end (y := finD x st) HAT.out HB.out ?_ ?_ ?_ (by omega)
      · rw [HD1.out]
      · rw [HD1.out]
      · exact (Below.setCell (Below.setCell BB2.out (p := ⟨w.heap.size, 11, none⟩) (Nat.le_refl _) (.int .i64 st)) (p := ⟨w.heap.size, 18, none⟩) (Nat.le_refl _) (.int .u64 0))
  · have t1 : (x.state == 1) = false := beq_eq_false_iff_ne.2 h1
    have HD1 : Hid (finD x st = { x with state := st, nodes := 0 }) := by show _ = _; unfold finD; rw [if_neg h1]
    clear h1
    cases t2 : x.state == 2 <;> have t2x := bne_or t2
    · have HQ : Hid (Q = (noJ, 141)) := by show _ = _; rw [← HQ0.out]; exact turnJ_e HK.out (by unfold endM whenE; rw [hz1.out, t1, t2]; rfl) (by decide)
      go_wp2_with (first | (go_at_call 134; refine (q1.out _).mono ?_; rintro e w2 ⟨rfl, rfl⟩) | (refine wpList_store_row rfl 28 _ _ rfl (w.heap.size + 1) _ rfl rfl 28 _ G2.out (by kernel_rfl) rfl (by rw [List.all_toArray]; rfl) ?_))
      (try simp only [Exit.inBlock, Exit.then])
      refine bodyPost_ret (results_cell2 rfl _ _ (w.heap.size + 1) _ _ _ _ rfl (setRow_heap _ _ _ _ _ _ G2.out) Tryz.underlying28 rfl (by kernel_rfl)) rfl ?_
      rw [HQ.out]
      exact retJZ_no (below_row B1.out (by omega) _)
    · have HQ : Hid (Q = (finD x st, 0)) := by show _ = _; rw [← HQ0.out]; exact turnJ_g HK.out (by unfold endM whenE; rw [hz1.out, t1, t2]; rfl)
      have HJ : Hid (((w1.setCell ⟨w.heap.size, 11, none⟩ (.int .i64 st)).setCell ⟨w.heap.size, 18, none⟩ (.int .u64 0)).heap[w.heap.size]? = some (.cells (jbA (finD x st) A c A2 c2) 28 (0, 0))) := by
        show _ = _
        refine Eq.trans ((setCell_blk (k := 18) (a := .int .u64 0) (setCell_blk (k := 11) (a := .int .i64 st) G1.out))) ?_
        rw [HD1.out, ← hcs.out]
        rfl
      have HR_ : Hid (((w1.setCell ⟨w.heap.size, 11, none⟩ (.int .i64 st)).setCell ⟨w.heap.size, 18, none⟩ (.int .u64 0)).heap[w.heap.size + 1]? = _) := ((Below.heap_setCell _ _ _ _ (by simp)).trans ((Below.heap_setCell _ _ _ _ (by simp)).trans G2.out))
      go_wp2_with (first | (go_at_call 134; refine (q1.out _).mono ?_; rintro e w2 ⟨rfl, rfl⟩) | (refine wpList_load_row rfl 28 _ rfl (w.heap.size) rfl 28 _ (0, 0) _ HJ.out Tryz.underlying28 rfl (info30 (jbA_size _ _ _ _ _)) ?_) | (refine wpList_store_row rfl 28 _ _ rfl (w.heap.size + 1) _ rfl rfl 28 _ HR_.out (info30 (jbA_size _ _ _ _ _)) rfl (jbA_one _ _ _ _ _) ?_))
      (try simp only [Exit.inBlock, Exit.then])
      refine bodyPost_ret (results_cell2 rfl _ _ (w.heap.size + 1) _ _ _ _ rfl (setRow_heap _ _ _ _ _ _ HR_.out) Tryz.underlying28 rfl (info30 (jbA_size _ _ _ _ _))) rfl ?_
      rw [HQ.out]
      refine retZ_end (y := finD x st) HAT.out HB.out ?_ ?_ ?_ (by omega)
      · rw [HD1.out]
      · rw [HD1.out]
      · exact (Below.setCell (Below.setCell B1.out (p := ⟨w.heap.size, 11, none⟩) (Nat.le_refl _) (.int .i64 st)) (p := ⟨w.heap.size, 18, none⟩) (Nat.le_refl _) (.int .u64 0))
end Go.Proofs.YtghmcdfmbjabnaaGreatDoor
