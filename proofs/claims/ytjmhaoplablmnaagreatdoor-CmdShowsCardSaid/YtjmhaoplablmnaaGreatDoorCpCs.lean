/- Layer 8: what of a command its kind may have, at the other kinds; Check at all kinds, walked (printed by a program of my own). -/
import Derived.Test.YtjmhaoplablmnaaGreatDoorCdA1s
import Derived.Test.YtjmhaoplablmnaaGreatDoorQ1s
import Derived.Test.YtjmhaoplablmnaaGreatDoorP1s
import Derived.BigRegion
namespace Go.Proofs.YtjmhaoplablmnaaGreatDoor
set_option linter.unusedVariables false
set_option linter.unusedSimpArgs false
open Go.RowKit
set_option maxHeartbeats 4000000 in
set_option maxRecDepth 100000 in
theorem bare_job (x : Cm) (A A2 : Option Addr) (c c2 : Nat) (w : World) (hk : x.kind = 2 ∨ x.kind = 3 ∨ x.kind = 4 ∨ x.kind = 11 ∨ x.kind = 12) :
    Calls Tryz.prog 33 #[cmV x A c A2 c2] w fun e w' => e = .returned (cmV (bareC x) none 0 none 0) ∧ Below w.heap.size w w' := by
  have hy : bareC x = { cm0 with kind := x.kind, job := x.job } := by unfold bareC; rw [if_neg (by omega), if_pos hk]; rfl
  rw [hy, cmV_is x]
  have e0 : (cmA x A c A2 c2)[0]? = some (.int .i64 x.kind) := rfl
  have e1 : (cmA x A c A2 c2)[1]? = some (.int .i64 x.job) := rfl
  obtain ⟨cs, hcs⟩ : ∃ cs, cmA x A c A2 c2 = cs := ⟨_, rfl⟩
  obtain ⟨K, hK⟩ : ∃ K, x.kind = K := ⟨_, rfl⟩
  rw [hcs] at e0 e1 ⊢
  rw [hK] at e0 hk ⊢
  clear hcs hK hy
  have HB := Lib.hid (three_below w (.cells cs 27) (.cells (cmA cm0 none 0 none 0) 27) (.cells (cmA { cm0 with kind := K } none 0 none 0) 27))
  obtain ⟨b0, b1, b2⟩ := three_block w (.cells cs 27) (.cells (cmA cm0 none 0 none 0) 27) (.cells (cmA { cm0 with kind := K } none 0 none 0) 27)
  have hrow := World.setRow_alloc_new ((w.alloc (.cells cs 27)).alloc (.cells (cmA cm0 none 0 none 0) 27)) (cmA cm0 none 0 none 0) (cmA { cm0 with kind := K } none 0 none 0) 27
  rw [World.size_alloc, World.size_alloc] at hrow
  have HROW := Lib.hid hrow
  have hz3 := (three_block w (.cells cs 27) (.cells (cmA cm0 none 0 none 0) 27) (.cells (cmA cm0 none 0 none 0) 27)).2.2
  have HZ3 := Lib.hid hz3
  obtain ⟨W, hW⟩ : ∃ W, Hid ((((w.alloc (.cells cs 27)).alloc (.cells (cmA cm0 none 0 none 0) 27)).alloc (.cells (cmA { cm0 with kind := K } none 0 none 0) 27)) = W) := ⟨_, rfl⟩
  rw [hW.out] at HB b0 b1 b2 HROW
  have x0 : W.cell? ⟨w.heap.size, 0, none⟩ = some (.int .i64 K) := (cell_of_row W _ 0 _ _ _ b0).trans e0
  have x1 : W.cell? ⟨w.heap.size, 1, none⟩ = some (.int .i64 x.job) := (cell_of_row W _ 1 _ _ _ b0).trans e1
  have o1 : W.cell? ⟨w.heap.size + 1 + 1, 1, none⟩ = some (.int .i64 0) := (cell_of_row W _ 1 _ _ _ b2).trans rfl
  have hfz : ∀ j, W.frozen? ⟨w.heap.size + 1 + 1, j, none⟩ = false := fun j => by simp [World.frozen?, b2]
  have hl := (Array.getElem?_eq_some_iff.1 b2).1
  have O2 : Hid ((W.setCell ⟨w.heap.size + 1 + 1, 1, none⟩ (.int .i64 x.job)).heap[w.heap.size + 1 + 1]? = some (.cells (cmA { cm0 with kind := K, job := x.job } none 0 none 0) 27 (0, 0))) := setCell_blk (k := 1) (b2)
  have R2 : Hid ((W.setCell ⟨w.heap.size + 1 + 1, 1, none⟩ (.int .i64 x.job)).heap[w.heap.size + 1]? = some (.cells (cmA cm0 none 0 none 0) 27 (0, 0))) := (Below.heap_setCell _ _ _ _ (show w.heap.size + 1 ≠ w.heap.size + 1 + 1 by omega)).trans (b1)
  have B2 : Hid (Below w.heap.size w (W.setCell ⟨w.heap.size + 1 + 1, 1, none⟩ (.int .i64 x.job))) := (Below.setCell HB.out (p := ⟨w.heap.size + 1 + 1, 1, none⟩) (show w.heap.size ≤ w.heap.size + 1 + 1 by omega) _)
  clear b0 b1 b2 hz3 hrow e1
  rcases hk with rfl | rfl | rfl | rfl | rfl
  all_goals
    go_enter Tryz.func33, Tryz.ntmps33
    go_upto_region 2 with (first | (rw [show (Obj.cells #[.int .i64 0, .int .i64 0, .string ⟨#[]⟩, .string ⟨#[]⟩, .string ⟨#[]⟩, .int .i64 0, .slice none 0 0, .int .i64 0, .int .i64 0, .int .i64 0, .int .i64 0, .bool false, .int .i64 0, .bool false, .slice none 0 0, .int .i64 0, .int .i64 0, .int .i64 0] 27) = .cells (cmA cm0 none 0 none 0) 27 from rfl]; refine wpList_store_row rfl 27 _ _ rfl (w.heap.size + 1 + 1) (cmA { cm0 with kind := _ } none 0 none 0) rfl rfl 27 _ HZ3.out (by kernel_rfl) rfl (cmA_one _ _ _ _ _) ?_; rw [HROW.out]))
    go_wp2_with (first
      | (refine wpList_load_row rfl 27 _ rfl (w.heap.size + 1 + 1) rfl 27 _ (0, 0) _ O2.out Tryz.underlying27 rfl (by kernel_rfl) ?_)
      | (refine wpList_store_row rfl 27 _ _ rfl (w.heap.size + 1) _ rfl rfl 27 _ R2.out (by kernel_rfl) rfl (cmA_one _ _ _ _ _) ?_))
    (try simp only [Exit.inBlock, Exit.then])
    refine bodyPost_ret (results_cell_row rfl _ _ (w.heap.size + 1) _ _ _ _ rfl (setRow_heap _ _ _ _ _ _ R2.out) Tryz.underlying27 rfl (by kernel_rfl)) rfl ?_
    exact ⟨rfl, below_row B2.out (by omega) _⟩
set_option maxHeartbeats 4000000 in
set_option maxRecDepth 100000 in
theorem bare_resize (x : Cm) (A A2 : Option Addr) (c c2 : Nat) (w : World) (hk : x.kind = 6) :
    Calls Tryz.prog 33 #[cmV x A c A2 c2] w fun e w' => e = .returned (cmV (bareC x) none 0 none 0) ∧ Below w.heap.size w w' := by
  have hy : bareC x = { cm0 with kind := x.kind, job := x.job, nodes := x.nodes } := by unfold bareC; rw [if_neg (by omega), if_neg (by omega), if_neg (by omega), if_pos hk, hk]; rfl
  rw [hy, cmV_is x]
  have e0 : (cmA x A c A2 c2)[0]? = some (.int .i64 x.kind) := rfl
  have e1 : (cmA x A c A2 c2)[1]? = some (.int .i64 x.job) := rfl
  have e16 : (cmA x A c A2 c2)[16]? = some (.int .i64 x.nodes) := rfl
  obtain ⟨cs, hcs⟩ : ∃ cs, cmA x A c A2 c2 = cs := ⟨_, rfl⟩
  obtain ⟨K, hK⟩ : ∃ K, x.kind = K := ⟨_, rfl⟩
  rw [hcs] at e0 e1 e16 ⊢
  rw [hK] at e0 hk ⊢
  clear hcs hK hy
  have HB := Lib.hid (three_below w (.cells cs 27) (.cells (cmA cm0 none 0 none 0) 27) (.cells (cmA { cm0 with kind := K } none 0 none 0) 27))
  obtain ⟨b0, b1, b2⟩ := three_block w (.cells cs 27) (.cells (cmA cm0 none 0 none 0) 27) (.cells (cmA { cm0 with kind := K } none 0 none 0) 27)
  have hrow := World.setRow_alloc_new ((w.alloc (.cells cs 27)).alloc (.cells (cmA cm0 none 0 none 0) 27)) (cmA cm0 none 0 none 0) (cmA { cm0 with kind := K } none 0 none 0) 27
  rw [World.size_alloc, World.size_alloc] at hrow
  have HROW := Lib.hid hrow
  have hz3 := (three_block w (.cells cs 27) (.cells (cmA cm0 none 0 none 0) 27) (.cells (cmA cm0 none 0 none 0) 27)).2.2
  have HZ3 := Lib.hid hz3
  obtain ⟨W, hW⟩ : ∃ W, Hid ((((w.alloc (.cells cs 27)).alloc (.cells (cmA cm0 none 0 none 0) 27)).alloc (.cells (cmA { cm0 with kind := K } none 0 none 0) 27)) = W) := ⟨_, rfl⟩
  rw [hW.out] at HB b0 b1 b2 HROW
  have x0 : W.cell? ⟨w.heap.size, 0, none⟩ = some (.int .i64 K) := (cell_of_row W _ 0 _ _ _ b0).trans e0
  have x1 : W.cell? ⟨w.heap.size, 1, none⟩ = some (.int .i64 x.job) := (cell_of_row W _ 1 _ _ _ b0).trans e1
  have o1 : W.cell? ⟨w.heap.size + 1 + 1, 1, none⟩ = some (.int .i64 0) := (cell_of_row W _ 1 _ _ _ b2).trans rfl
  have x16 : W.cell? ⟨w.heap.size, 16, none⟩ = some (.int .i64 x.nodes) := (cell_of_row W _ 16 _ _ _ b0).trans e16
  have o16 : W.cell? ⟨w.heap.size + 1 + 1, 16, none⟩ = some (.int .i64 0) := (cell_of_row W _ 16 _ _ _ b2).trans rfl
  have hfz : ∀ j, W.frozen? ⟨w.heap.size + 1 + 1, j, none⟩ = false := fun j => by simp [World.frozen?, b2]
  have hl := (Array.getElem?_eq_some_iff.1 b2).1
  have O2 : Hid (((W.setCell ⟨w.heap.size + 1 + 1, 1, none⟩ (.int .i64 x.job)).setCell ⟨w.heap.size + 1 + 1, 16, none⟩ (.int .i64 x.nodes)).drew.heap[w.heap.size + 1 + 1]? = some (.cells (cmA { cm0 with kind := K, job := x.job, nodes := x.nodes } none 0 none 0) 27 (0, 0))) := setCell_blk (k := 16) (setCell_blk (k := 1) (b2))
  have R2 : Hid (((W.setCell ⟨w.heap.size + 1 + 1, 1, none⟩ (.int .i64 x.job)).setCell ⟨w.heap.size + 1 + 1, 16, none⟩ (.int .i64 x.nodes)).drew.heap[w.heap.size + 1]? = some (.cells (cmA cm0 none 0 none 0) 27 (0, 0))) := (Below.heap_setCell _ _ _ _ (show w.heap.size + 1 ≠ w.heap.size + 1 + 1 by omega)).trans ((Below.heap_setCell _ _ _ _ (show w.heap.size + 1 ≠ w.heap.size + 1 + 1 by omega)).trans (b1))
  have B2 : Hid (Below w.heap.size w ((W.setCell ⟨w.heap.size + 1 + 1, 1, none⟩ (.int .i64 x.job)).setCell ⟨w.heap.size + 1 + 1, 16, none⟩ (.int .i64 x.nodes)).drew) := below_drew (Below.setCell (Below.setCell HB.out (p := ⟨w.heap.size + 1 + 1, 1, none⟩) (show w.heap.size ≤ w.heap.size + 1 + 1 by omega) _) (p := ⟨w.heap.size + 1 + 1, 16, none⟩) (show w.heap.size ≤ w.heap.size + 1 + 1 by omega) _)
  clear b0 b1 b2 hz3 hrow e1 e16
  subst hk
  all_goals
    go_enter Tryz.func33, Tryz.ntmps33
    go_upto_region 2 with (first | (rw [show (Obj.cells #[.int .i64 0, .int .i64 0, .string ⟨#[]⟩, .string ⟨#[]⟩, .string ⟨#[]⟩, .int .i64 0, .slice none 0 0, .int .i64 0, .int .i64 0, .int .i64 0, .int .i64 0, .bool false, .int .i64 0, .bool false, .slice none 0 0, .int .i64 0, .int .i64 0, .int .i64 0] 27) = .cells (cmA cm0 none 0 none 0) 27 from rfl]; refine wpList_store_row rfl 27 _ _ rfl (w.heap.size + 1 + 1) (cmA { cm0 with kind := _ } none 0 none 0) rfl rfl 27 _ HZ3.out (by kernel_rfl) rfl (cmA_one _ _ _ _ _) ?_; rw [HROW.out]))
    go_upto_region 15 with (fail)
    go_region
    go_wp2_with (first
      | (refine wpList_load_row rfl 27 _ rfl (w.heap.size + 1 + 1) rfl 27 _ (0, 0) _ O2.out Tryz.underlying27 rfl (by kernel_rfl) ?_)
      | (refine wpList_store_row rfl 27 _ _ rfl (w.heap.size + 1) _ rfl rfl 27 _ R2.out (by kernel_rfl) rfl (cmA_one _ _ _ _ _) ?_))
    (try simp only [Exit.inBlock, Exit.then])
    refine bodyPost_ret (results_cell_row rfl _ _ (w.heap.size + 1) _ _ _ _ rfl (setRow_heap _ _ _ _ _ _ R2.out) Tryz.underlying27 rfl (by kernel_rfl)) rfl ?_
    exact ⟨rfl, below_row B2.out (by omega) _⟩
set_option maxHeartbeats 4000000 in
set_option maxRecDepth 100000 in
theorem bare_node (x : Cm) (A A2 : Option Addr) (c c2 : Nat) (w : World) (hk : x.kind = 7 ∨ x.kind = 8 ∨ x.kind = 9) :
    Calls Tryz.prog 33 #[cmV x A c A2 c2] w fun e w' => e = .returned (cmV (bareC x) none 0 none 0) ∧ Below w.heap.size w w' := by
  have hy : bareC x = { cm0 with kind := x.kind, node := x.node } := by unfold bareC; rw [if_neg (by omega), if_neg (by omega), if_neg (by omega), if_neg (by omega), if_pos hk]; rfl
  rw [hy, cmV_is x]
  have e0 : (cmA x A c A2 c2)[0]? = some (.int .i64 x.kind) := rfl
  have e15 : (cmA x A c A2 c2)[15]? = some (.int .i64 x.node) := rfl
  obtain ⟨cs, hcs⟩ : ∃ cs, cmA x A c A2 c2 = cs := ⟨_, rfl⟩
  obtain ⟨K, hK⟩ : ∃ K, x.kind = K := ⟨_, rfl⟩
  rw [hcs] at e0 e15 ⊢
  rw [hK] at e0 hk ⊢
  clear hcs hK hy
  have HB := Lib.hid (three_below w (.cells cs 27) (.cells (cmA cm0 none 0 none 0) 27) (.cells (cmA { cm0 with kind := K } none 0 none 0) 27))
  obtain ⟨b0, b1, b2⟩ := three_block w (.cells cs 27) (.cells (cmA cm0 none 0 none 0) 27) (.cells (cmA { cm0 with kind := K } none 0 none 0) 27)
  have hrow := World.setRow_alloc_new ((w.alloc (.cells cs 27)).alloc (.cells (cmA cm0 none 0 none 0) 27)) (cmA cm0 none 0 none 0) (cmA { cm0 with kind := K } none 0 none 0) 27
  rw [World.size_alloc, World.size_alloc] at hrow
  have HROW := Lib.hid hrow
  have hz3 := (three_block w (.cells cs 27) (.cells (cmA cm0 none 0 none 0) 27) (.cells (cmA cm0 none 0 none 0) 27)).2.2
  have HZ3 := Lib.hid hz3
  obtain ⟨W, hW⟩ : ∃ W, Hid ((((w.alloc (.cells cs 27)).alloc (.cells (cmA cm0 none 0 none 0) 27)).alloc (.cells (cmA { cm0 with kind := K } none 0 none 0) 27)) = W) := ⟨_, rfl⟩
  rw [hW.out] at HB b0 b1 b2 HROW
  have x0 : W.cell? ⟨w.heap.size, 0, none⟩ = some (.int .i64 K) := (cell_of_row W _ 0 _ _ _ b0).trans e0
  have x15 : W.cell? ⟨w.heap.size, 15, none⟩ = some (.int .i64 x.node) := (cell_of_row W _ 15 _ _ _ b0).trans e15
  have o15 : W.cell? ⟨w.heap.size + 1 + 1, 15, none⟩ = some (.int .i64 0) := (cell_of_row W _ 15 _ _ _ b2).trans rfl
  have hfz : ∀ j, W.frozen? ⟨w.heap.size + 1 + 1, j, none⟩ = false := fun j => by simp [World.frozen?, b2]
  have hl := (Array.getElem?_eq_some_iff.1 b2).1
  have O2 : Hid ((W.setCell ⟨w.heap.size + 1 + 1, 15, none⟩ (.int .i64 x.node)).heap[w.heap.size + 1 + 1]? = some (.cells (cmA { cm0 with kind := K, node := x.node } none 0 none 0) 27 (0, 0))) := setCell_blk (k := 15) (b2)
  have R2 : Hid ((W.setCell ⟨w.heap.size + 1 + 1, 15, none⟩ (.int .i64 x.node)).heap[w.heap.size + 1]? = some (.cells (cmA cm0 none 0 none 0) 27 (0, 0))) := (Below.heap_setCell _ _ _ _ (show w.heap.size + 1 ≠ w.heap.size + 1 + 1 by omega)).trans (b1)
  have B2 : Hid (Below w.heap.size w (W.setCell ⟨w.heap.size + 1 + 1, 15, none⟩ (.int .i64 x.node))) := (Below.setCell HB.out (p := ⟨w.heap.size + 1 + 1, 15, none⟩) (show w.heap.size ≤ w.heap.size + 1 + 1 by omega) _)
  clear b0 b1 b2 hz3 hrow e15
  rcases hk with rfl | rfl | rfl
  all_goals
    go_enter Tryz.func33, Tryz.ntmps33
    go_upto_region 2 with (first | (rw [show (Obj.cells #[.int .i64 0, .int .i64 0, .string ⟨#[]⟩, .string ⟨#[]⟩, .string ⟨#[]⟩, .int .i64 0, .slice none 0 0, .int .i64 0, .int .i64 0, .int .i64 0, .int .i64 0, .bool false, .int .i64 0, .bool false, .slice none 0 0, .int .i64 0, .int .i64 0, .int .i64 0] 27) = .cells (cmA cm0 none 0 none 0) 27 from rfl]; refine wpList_store_row rfl 27 _ _ rfl (w.heap.size + 1 + 1) (cmA { cm0 with kind := _ } none 0 none 0) rfl rfl 27 _ HZ3.out (by kernel_rfl) rfl (cmA_one _ _ _ _ _) ?_; rw [HROW.out]))
    go_wp2_with (first
      | (refine wpList_load_row rfl 27 _ rfl (w.heap.size + 1 + 1) rfl 27 _ (0, 0) _ O2.out Tryz.underlying27 rfl (by kernel_rfl) ?_)
      | (refine wpList_store_row rfl 27 _ _ rfl (w.heap.size + 1) _ rfl rfl 27 _ R2.out (by kernel_rfl) rfl (cmA_one _ _ _ _ _) ?_))
    (try simp only [Exit.inBlock, Exit.then])
    refine bodyPost_ret (results_cell_row rfl _ _ (w.heap.size + 1) _ _ _ _ rfl (setRow_heap _ _ _ _ _ _ R2.out) Tryz.underlying27 rfl (by kernel_rfl)) rfl ?_
    exact ⟨rfl, below_row B2.out (by omega) _⟩
set_option maxHeartbeats 4000000 in
set_option maxRecDepth 100000 in
theorem bare_reserve (x : Cm) (A A2 : Option Addr) (c c2 : Nat) (w : World) (hk : x.kind = 10) :
    Calls Tryz.prog 33 #[cmV x A c A2 c2] w fun e w' => e = .returned (cmV (bareC x) none 0 none 0) ∧ Below w.heap.size w w' := by
  have hy : bareC x = { cm0 with kind := x.kind, frm := x.frm, time := x.time, hasTime := x.hasTime, nodes := x.nodes } := by unfold bareC; rw [if_neg (by omega), if_neg (by omega), if_neg (by omega), if_neg (by omega), if_neg (by omega), if_pos hk, hk]; rfl
  rw [hy, cmV_is x]
  have e0 : (cmA x A c A2 c2)[0]? = some (.int .i64 x.kind) := rfl
  have e17 : (cmA x A c A2 c2)[17]? = some (.int .i64 x.frm) := rfl
  have e12 : (cmA x A c A2 c2)[12]? = some (.int .i64 x.time) := rfl
  have e13 : (cmA x A c A2 c2)[13]? = some (.bool x.hasTime) := rfl
  have e16 : (cmA x A c A2 c2)[16]? = some (.int .i64 x.nodes) := rfl
  obtain ⟨cs, hcs⟩ : ∃ cs, cmA x A c A2 c2 = cs := ⟨_, rfl⟩
  obtain ⟨K, hK⟩ : ∃ K, x.kind = K := ⟨_, rfl⟩
  rw [hcs] at e0 e17 e12 e13 e16 ⊢
  rw [hK] at e0 hk ⊢
  clear hcs hK hy
  have HB := Lib.hid (three_below w (.cells cs 27) (.cells (cmA cm0 none 0 none 0) 27) (.cells (cmA { cm0 with kind := K } none 0 none 0) 27))
  obtain ⟨b0, b1, b2⟩ := three_block w (.cells cs 27) (.cells (cmA cm0 none 0 none 0) 27) (.cells (cmA { cm0 with kind := K } none 0 none 0) 27)
  have hrow := World.setRow_alloc_new ((w.alloc (.cells cs 27)).alloc (.cells (cmA cm0 none 0 none 0) 27)) (cmA cm0 none 0 none 0) (cmA { cm0 with kind := K } none 0 none 0) 27
  rw [World.size_alloc, World.size_alloc] at hrow
  have HROW := Lib.hid hrow
  have hz3 := (three_block w (.cells cs 27) (.cells (cmA cm0 none 0 none 0) 27) (.cells (cmA cm0 none 0 none 0) 27)).2.2
  have HZ3 := Lib.hid hz3
  obtain ⟨W, hW⟩ : ∃ W, Hid ((((w.alloc (.cells cs 27)).alloc (.cells (cmA cm0 none 0 none 0) 27)).alloc (.cells (cmA { cm0 with kind := K } none 0 none 0) 27)) = W) := ⟨_, rfl⟩
  rw [hW.out] at HB b0 b1 b2 HROW
  have x0 : W.cell? ⟨w.heap.size, 0, none⟩ = some (.int .i64 K) := (cell_of_row W _ 0 _ _ _ b0).trans e0
  have x17 : W.cell? ⟨w.heap.size, 17, none⟩ = some (.int .i64 x.frm) := (cell_of_row W _ 17 _ _ _ b0).trans e17
  have o17 : W.cell? ⟨w.heap.size + 1 + 1, 17, none⟩ = some (.int .i64 0) := (cell_of_row W _ 17 _ _ _ b2).trans rfl
  have x12 : W.cell? ⟨w.heap.size, 12, none⟩ = some (.int .i64 x.time) := (cell_of_row W _ 12 _ _ _ b0).trans e12
  have o12 : W.cell? ⟨w.heap.size + 1 + 1, 12, none⟩ = some (.int .i64 0) := (cell_of_row W _ 12 _ _ _ b2).trans rfl
  have x13 : W.cell? ⟨w.heap.size, 13, none⟩ = some (.bool x.hasTime) := (cell_of_row W _ 13 _ _ _ b0).trans e13
  have o13 : W.cell? ⟨w.heap.size + 1 + 1, 13, none⟩ = some (.bool false) := (cell_of_row W _ 13 _ _ _ b2).trans rfl
  have x16 : W.cell? ⟨w.heap.size, 16, none⟩ = some (.int .i64 x.nodes) := (cell_of_row W _ 16 _ _ _ b0).trans e16
  have o16 : W.cell? ⟨w.heap.size + 1 + 1, 16, none⟩ = some (.int .i64 0) := (cell_of_row W _ 16 _ _ _ b2).trans rfl
  have hfz : ∀ j, W.frozen? ⟨w.heap.size + 1 + 1, j, none⟩ = false := fun j => by simp [World.frozen?, b2]
  have hl := (Array.getElem?_eq_some_iff.1 b2).1
  have O2 : Hid (((((W.setCell ⟨w.heap.size + 1 + 1, 17, none⟩ (.int .i64 x.frm)).setCell ⟨w.heap.size + 1 + 1, 12, none⟩ (.int .i64 x.time)).setCell ⟨w.heap.size + 1 + 1, 13, none⟩ (.bool x.hasTime)).setCell ⟨w.heap.size + 1 + 1, 16, none⟩ (.int .i64 x.nodes)).drew.heap[w.heap.size + 1 + 1]? = some (.cells (cmA { cm0 with kind := K, frm := x.frm, time := x.time, hasTime := x.hasTime, nodes := x.nodes } none 0 none 0) 27 (0, 0))) := setCell_blk (k := 16) (setCell_blk (k := 13) (setCell_blk (k := 12) (setCell_blk (k := 17) (b2))))
  have R2 : Hid (((((W.setCell ⟨w.heap.size + 1 + 1, 17, none⟩ (.int .i64 x.frm)).setCell ⟨w.heap.size + 1 + 1, 12, none⟩ (.int .i64 x.time)).setCell ⟨w.heap.size + 1 + 1, 13, none⟩ (.bool x.hasTime)).setCell ⟨w.heap.size + 1 + 1, 16, none⟩ (.int .i64 x.nodes)).drew.heap[w.heap.size + 1]? = some (.cells (cmA cm0 none 0 none 0) 27 (0, 0))) := (Below.heap_setCell _ _ _ _ (show w.heap.size + 1 ≠ w.heap.size + 1 + 1 by omega)).trans ((Below.heap_setCell _ _ _ _ (show w.heap.size + 1 ≠ w.heap.size + 1 + 1 by omega)).trans ((Below.heap_setCell _ _ _ _ (show w.heap.size + 1 ≠ w.heap.size + 1 + 1 by omega)).trans ((Below.heap_setCell _ _ _ _ (show w.heap.size + 1 ≠ w.heap.size + 1 + 1 by omega)).trans (b1))))
  have B2 : Hid (Below w.heap.size w ((((W.setCell ⟨w.heap.size + 1 + 1, 17, none⟩ (.int .i64 x.frm)).setCell ⟨w.heap.size + 1 + 1, 12, none⟩ (.int .i64 x.time)).setCell ⟨w.heap.size + 1 + 1, 13, none⟩ (.bool x.hasTime)).setCell ⟨w.heap.size + 1 + 1, 16, none⟩ (.int .i64 x.nodes)).drew) := below_drew (Below.setCell (Below.setCell (Below.setCell (Below.setCell HB.out (p := ⟨w.heap.size + 1 + 1, 17, none⟩) (show w.heap.size ≤ w.heap.size + 1 + 1 by omega) _) (p := ⟨w.heap.size + 1 + 1, 12, none⟩) (show w.heap.size ≤ w.heap.size + 1 + 1 by omega) _) (p := ⟨w.heap.size + 1 + 1, 13, none⟩) (show w.heap.size ≤ w.heap.size + 1 + 1 by omega) _) (p := ⟨w.heap.size + 1 + 1, 16, none⟩) (show w.heap.size ≤ w.heap.size + 1 + 1 by omega) _)
  clear b0 b1 b2 hz3 hrow e17 e12 e13 e16
  subst hk
  all_goals
    go_enter Tryz.func33, Tryz.ntmps33
    go_upto_region 2 with (first | (rw [show (Obj.cells #[.int .i64 0, .int .i64 0, .string ⟨#[]⟩, .string ⟨#[]⟩, .string ⟨#[]⟩, .int .i64 0, .slice none 0 0, .int .i64 0, .int .i64 0, .int .i64 0, .int .i64 0, .bool false, .int .i64 0, .bool false, .slice none 0 0, .int .i64 0, .int .i64 0, .int .i64 0] 27) = .cells (cmA cm0 none 0 none 0) 27 from rfl]; refine wpList_store_row rfl 27 _ _ rfl (w.heap.size + 1 + 1) (cmA { cm0 with kind := _ } none 0 none 0) rfl rfl 27 _ HZ3.out (by kernel_rfl) rfl (cmA_one _ _ _ _ _) ?_; rw [HROW.out]))
    go_upto_region 21 with (fail)
    go_region
    go_wp2_with (first
      | (refine wpList_load_row rfl 27 _ rfl (w.heap.size + 1 + 1) rfl 27 _ (0, 0) _ O2.out Tryz.underlying27 rfl (by kernel_rfl) ?_)
      | (refine wpList_store_row rfl 27 _ _ rfl (w.heap.size + 1) _ rfl rfl 27 _ R2.out (by kernel_rfl) rfl (cmA_one _ _ _ _ _) ?_))
    (try simp only [Exit.inBlock, Exit.then])
    refine bodyPost_ret (results_cell_row rfl _ _ (w.heap.size + 1) _ _ _ _ rfl (setRow_heap _ _ _ _ _ _ R2.out) Tryz.underlying27 rfl (by kernel_rfl)) rfl ?_
    exact ⟨rfl, below_row B2.out (by omega) _⟩
set_option maxHeartbeats 4000000 in
set_option maxRecDepth 100000 in
theorem bare_none (x : Cm) (A A2 : Option Addr) (c c2 : Nat) (w : World) (hk : x.kind < 1 ∨ 12 < x.kind) :
    Calls Tryz.prog 33 #[cmV x A c A2 c2] w fun e w' => e = .returned (cmV (bareC x) none 0 none 0) ∧ Below w.heap.size w w' := by
  have hy : bareC x = { cm0 with kind := x.kind } := by unfold bareC; rw [if_neg (by omega), if_neg (by omega), if_neg (by omega), if_neg (by omega), if_neg (by omega), if_neg (by omega)]; rfl
  rw [hy, cmV_is x]
  have e0 : (cmA x A c A2 c2)[0]? = some (.int .i64 x.kind) := rfl
  obtain ⟨cs, hcs⟩ : ∃ cs, cmA x A c A2 c2 = cs := ⟨_, rfl⟩
  obtain ⟨K, hK⟩ : ∃ K, x.kind = K := ⟨_, rfl⟩
  rw [hcs] at e0 ⊢
  rw [hK] at e0 hk ⊢
  clear hcs hK hy
  have HB := Lib.hid (three_below w (.cells cs 27) (.cells (cmA cm0 none 0 none 0) 27) (.cells (cmA { cm0 with kind := K } none 0 none 0) 27))
  obtain ⟨b0, b1, b2⟩ := three_block w (.cells cs 27) (.cells (cmA cm0 none 0 none 0) 27) (.cells (cmA { cm0 with kind := K } none 0 none 0) 27)
  have hrow := World.setRow_alloc_new ((w.alloc (.cells cs 27)).alloc (.cells (cmA cm0 none 0 none 0) 27)) (cmA cm0 none 0 none 0) (cmA { cm0 with kind := K } none 0 none 0) 27
  rw [World.size_alloc, World.size_alloc] at hrow
  have HROW := Lib.hid hrow
  have hz3 := (three_block w (.cells cs 27) (.cells (cmA cm0 none 0 none 0) 27) (.cells (cmA cm0 none 0 none 0) 27)).2.2
  have HZ3 := Lib.hid hz3
  obtain ⟨W, hW⟩ : ∃ W, Hid ((((w.alloc (.cells cs 27)).alloc (.cells (cmA cm0 none 0 none 0) 27)).alloc (.cells (cmA { cm0 with kind := K } none 0 none 0) 27)) = W) := ⟨_, rfl⟩
  rw [hW.out] at HB b0 b1 b2 HROW
  have x0 : W.cell? ⟨w.heap.size, 0, none⟩ = some (.int .i64 K) := (cell_of_row W _ 0 _ _ _ b0).trans e0
  have hfz : ∀ j, W.frozen? ⟨w.heap.size + 1 + 1, j, none⟩ = false := fun j => by simp [World.frozen?, b2]
  have hl := (Array.getElem?_eq_some_iff.1 b2).1
  have O2 : Hid (W.heap[w.heap.size + 1 + 1]? = some (.cells (cmA { cm0 with kind := K } none 0 none 0) 27 (0, 0))) := b2
  have R2 : Hid (W.heap[w.heap.size + 1]? = some (.cells (cmA cm0 none 0 none 0) 27 (0, 0))) := b1
  have B2 : Hid (Below w.heap.size w W) := HB.out
  clear b0 b1 b2 hz3 hrow 
  skip
  all_goals
    have t1 : (K == 1) = false := by simp; omega
    have t2 : (K == 2) = false := by simp; omega
    have t3 : (K == 3) = false := by simp; omega
    have t4 : (K == 4) = false := by simp; omega
    have t5 : (K == 5) = false := by simp; omega
    have t6 : (K == 6) = false := by simp; omega
    have t7 : (K == 7) = false := by simp; omega
    have t8 : (K == 8) = false := by simp; omega
    have t9 : (K == 9) = false := by simp; omega
    have t10 : (K == 10) = false := by simp; omega
    have t11 : (K == 11) = false := by simp; omega
    have t12 : (K == 12) = false := by simp; omega
    clear hk
    go_enter Tryz.func33, Tryz.ntmps33
    go_upto_region 2 with (first | (rw [show (Obj.cells #[.int .i64 0, .int .i64 0, .string ⟨#[]⟩, .string ⟨#[]⟩, .string ⟨#[]⟩, .int .i64 0, .slice none 0 0, .int .i64 0, .int .i64 0, .int .i64 0, .int .i64 0, .bool false, .int .i64 0, .bool false, .slice none 0 0, .int .i64 0, .int .i64 0, .int .i64 0] 27) = .cells (cmA cm0 none 0 none 0) 27 from rfl]; refine wpList_store_row rfl 27 _ _ rfl (w.heap.size + 1 + 1) (cmA { cm0 with kind := _ } none 0 none 0) rfl rfl 27 _ HZ3.out (by kernel_rfl) rfl (cmA_one _ _ _ _ _) ?_; rw [HROW.out]))
    go_wp2_with (first
      | (refine wpList_load_row rfl 27 _ rfl (w.heap.size + 1 + 1) rfl 27 _ (0, 0) _ O2.out Tryz.underlying27 rfl (by kernel_rfl) ?_)
      | (refine wpList_store_row rfl 27 _ _ rfl (w.heap.size + 1) _ rfl rfl 27 _ R2.out (by kernel_rfl) rfl (cmA_one _ _ _ _ _) ?_))
    (try simp only [Exit.inBlock, Exit.then])
    refine bodyPost_ret (results_cell_row rfl _ _ (w.heap.size + 1) _ _ _ _ rfl (setRow_heap _ _ _ _ _ _ R2.out) Tryz.underlying27 rfl (by kernel_rfl)) rfl ?_
    exact ⟨rfl, below_row B2.out (by omega) _⟩
set_option maxHeartbeats 8000000 in
set_option maxRecDepth 100000 in
theorem chk_gen (x : Cm) (A A2 : Option Addr) (c c2 B : Nat) (w : World) (D D2 : Option Addr) (d d2 : Nat) (hbr0 : ∀ v, Calls Tryz.prog 33 #[cmV x A c A2 c2] v fun e w' => e = .returned (cmV (bareC x) D d D2 d2) ∧ Below v.heap.size v w') (hba : ∀ v, Below w.heap.size w v → CmAt v B (bareC x) D d D2 d2) (ha : CmAt w B x A c A2 c2) (hB : B ≤ w.heap.size) (hz : CmSz x) :
    Calls Tryz.prog 11 #[cmV x A c A2 c2] w fun e w' => e = .returned (.int .i64 (cmdE x)) ∧ Below w.heap.size w w' := by
  have hf := Lib.hid (fun v (hv : Below w.heap.size w v) => fits_any x A A2 c c2 B v (ha.below (hv.mono hB)) (Nat.le_trans hB hv.size) hz)
  have hbr := Lib.hid hbr0
  have hsm := Lib.hid (fun v (hv : Below w.heap.size w v) => sameC_any x (bareC x) A A2 D D2 c c2 d d2 B v (ha.below (hv.mono hB)) (hba v hv) (Nat.le_trans hB hv.size))
  have HE : Hid (cmdE x = if (decide (x.shape.alts.length ≤ 6) && (decide (x.after.length ≤ 4) && (fitB x && sameC x (bareC x)))) = true then 0 else 80) := rfl
  clear ha hB hz hba hbr0
  obtain ⟨R, hR⟩ : ∃ R, cmdE x = R := ⟨_, rfl⟩
  rw [hR] at HE ⊢
  obtain ⟨z1, hz1⟩ : ∃ q, fitB x = q := ⟨_, rfl⟩
  rw [hz1] at hf HE
  obtain ⟨z2, hz2⟩ : ∃ q, sameC x (bareC x) = q := ⟨_, rfl⟩
  rw [hz2] at hsm HE
  clear hR hz1 hz2
  rw [cmV_is x] at hf hbr hsm ⊢
  obtain ⟨V, hV⟩ : ∃ V, cmV (bareC x) D d D2 d2 = V := ⟨_, rfl⟩
  rw [hV] at hbr hsm
  have e6 : (cmA x A c A2 c2)[6]? = some (.slice A x.shape.alts.length c) := rfl
  have e14 : (cmA x A c A2 c2)[14]? = some (.slice A2 x.after.length c2) := rfl
  have HS := Lib.hid (cmA_size x A c A2 c2)
  obtain ⟨cs, hcs⟩ : ∃ cs, cmA x A c A2 c2 = cs := ⟨_, rfl⟩
  rw [hcs] at e6 e14 HS hf hbr hsm ⊢
  obtain ⟨n, hn⟩ : ∃ n, x.shape.alts.length = n := ⟨_, rfl⟩
  obtain ⟨m, hm⟩ : ∃ n, x.after.length = n := ⟨_, rfl⟩
  rw [hn] at e6 HE
  rw [hm] at e14 HE
  clear hcs hn hm hV
  have HBX : Hid (Below w.heap.size w (w.alloc (.cells cs 27))) := (Below.refl _ _).alloc (Nat.le_refl _) _
  obtain ⟨W0, hW0⟩ : ∃ W0, Hid (w.alloc (.cells cs 27) = W0) := ⟨_, rfl⟩
  have hcx : W0.heap[w.heap.size]? = some (.cells cs 27 (0, 0)) := by
    rw [← hW0.out]
    exact heap_alloc_new w _
  rw [hW0.out] at HBX
  have hs0 : w.heap.size < W0.heap.size := (Array.getElem?_eq_some_iff.1 hcx).1
  have x6 : W0.cell? ⟨w.heap.size, 6, none⟩ = some (.slice A n c) := (cell_of_row W0 _ 6 _ _ _ hcx).trans e6
  have x14 : W0.cell? ⟨w.heap.size, 14, none⟩ = some (.slice A2 m c2) := (cell_of_row W0 _ 14 _ _ _ hcx).trans e14
  have HCX := Lib.hid hcx
  clear hcx
  by_cases h6 : n ≤ 6
  case neg =>
    have t1 : decide ((6 : Int) < (n : Int)) = true := by simp; omega
    have t1' : decide (6 < n) = true := by simp; omega
    rw [decide_eq_false h6] at HE
    clear h6
    have HR : Hid (R = 80) := by show _ = _; rw [HE.out]; rfl
    clear HE
    go_enter Tryz.func11, Tryz.ntmps11
    go_wp2
    rw [hW0.out]
    refine wp_region_later (by kernel_rfl) (by kernel_rfl) ?_
    have hl_ := later_cell (W0)
    try simp only [Act.put]
    repeat (first | (go_big_quiet_want; refine quiet_load_row 27 _ rfl (w.heap.size) rfl 27 _ (0, 0) _ (later_row HCX.out) Tryz.underlying27 rfl (info27 HS.out) ?_; go_simp; go_big_quiet_on) | go_big_quiet_step (((first | (go_at_call 32; exact later_of (hf.out _ (HBX.out.trans ((Later.below _).mono (by omega))))) | (go_at_call 33; exact later_of (hbr.out _)) | (go_at_call 13; exact later_of (hsm.out _ (HBX.out.trans ((Later.below _).mono (by omega)))))))) | quiet_step (((first | (go_at_call 32; exact later_of (hf.out _ (HBX.out.trans ((Later.below _).mono (by omega))))) | (go_at_call 33; exact later_of (hbr.out _)) | (go_at_call 13; exact later_of (hsm.out _ (HBX.out.trans ((Later.below _).mono (by omega)))))))))
    refine wpQuiet_nil ?_
    intro w9 hx_
    obtain ⟨⟨w_, hb9⟩, e_⟩ := hx_
    have e2_ : w9 = w_ := e_
    clear e_
    subst e2_
    clear hl_
    go_wp2
    go_ret
    exact ⟨by rw [HR.out]; rfl, HBX.out.trans (hb9.mono (by omega))⟩
  have t1 : decide ((6 : Int) < (n : Int)) = false := by simp; omega
  have t1' : decide (6 < n) = false := by simp; omega
  rw [decide_eq_true h6] at HE
  clear h6
  by_cases h4 : m ≤ 4
  case neg =>
    have t2 : decide ((4 : Int) < (m : Int)) = true := by simp; omega
    have t2' : decide (4 < m) = true := by simp; omega
    rw [decide_eq_false h4] at HE
    clear h4
    have HR : Hid (R = 80) := by show _ = _; rw [HE.out]; rfl
    clear HE
    go_enter Tryz.func11, Tryz.ntmps11
    go_wp2
    rw [hW0.out]
    refine wp_region_later (by kernel_rfl) (by kernel_rfl) ?_
    have hl_ := later_cell (W0)
    try simp only [Act.put]
    repeat (first | (go_big_quiet_want; refine quiet_load_row 27 _ rfl (w.heap.size) rfl 27 _ (0, 0) _ (later_row HCX.out) Tryz.underlying27 rfl (info27 HS.out) ?_; go_simp; go_big_quiet_on) | go_big_quiet_step (((first | (go_at_call 32; exact later_of (hf.out _ (HBX.out.trans ((Later.below _).mono (by omega))))) | (go_at_call 33; exact later_of (hbr.out _)) | (go_at_call 13; exact later_of (hsm.out _ (HBX.out.trans ((Later.below _).mono (by omega)))))))) | quiet_step (((first | (go_at_call 32; exact later_of (hf.out _ (HBX.out.trans ((Later.below _).mono (by omega))))) | (go_at_call 33; exact later_of (hbr.out _)) | (go_at_call 13; exact later_of (hsm.out _ (HBX.out.trans ((Later.below _).mono (by omega)))))))))
    refine wpQuiet_nil ?_
    intro w9 hx_
    obtain ⟨⟨w_, hb9⟩, e_⟩ := hx_
    have e2_ : w9 = w_ := e_
    clear e_
    subst e2_
    clear hl_
    go_wp2
    go_ret
    exact ⟨by rw [HR.out]; rfl, HBX.out.trans (hb9.mono (by omega))⟩
  have t2 : decide ((4 : Int) < (m : Int)) = false := by simp; omega
  have t2' : decide (4 < m) = false := by simp; omega
  rw [decide_eq_true h4] at HE
  clear h4
  cases z1
  case false =>
    have HR : Hid (R = 80) := by show _ = _; rw [HE.out]; rfl
    clear HE
    go_enter Tryz.func11, Tryz.ntmps11
    go_wp2
    rw [hW0.out]
    refine wp_region_later (by kernel_rfl) (by kernel_rfl) ?_
    have hl_ := later_cell (W0)
    try simp only [Act.put]
    repeat (first | (go_big_quiet_want; refine quiet_load_row 27 _ rfl (w.heap.size) rfl 27 _ (0, 0) _ (later_row HCX.out) Tryz.underlying27 rfl (info27 HS.out) ?_; go_simp; go_big_quiet_on) | go_big_quiet_step (((first | (go_at_call 32; exact later_of (hf.out _ (HBX.out.trans ((Later.below _).mono (by omega))))) | (go_at_call 33; exact later_of (hbr.out _)) | (go_at_call 13; exact later_of (hsm.out _ (HBX.out.trans ((Later.below _).mono (by omega)))))))) | quiet_step (((first | (go_at_call 32; exact later_of (hf.out _ (HBX.out.trans ((Later.below _).mono (by omega))))) | (go_at_call 33; exact later_of (hbr.out _)) | (go_at_call 13; exact later_of (hsm.out _ (HBX.out.trans ((Later.below _).mono (by omega)))))))))
    refine wpQuiet_nil ?_
    intro w9 hx_
    obtain ⟨⟨w_, hb9⟩, e_⟩ := hx_
    have e2_ : w9 = w_ := e_
    clear e_
    subst e2_
    clear hl_
    go_wp2
    go_ret
    exact ⟨by rw [HR.out]; rfl, HBX.out.trans (hb9.mono (by omega))⟩
  cases z2
  case false =>
    have HR : Hid (R = 80) := by show _ = _; rw [HE.out]; rfl
    clear HE
    go_enter Tryz.func11, Tryz.ntmps11
    go_wp2
    rw [hW0.out]
    refine wp_region_later (by kernel_rfl) (by kernel_rfl) ?_
    have hl_ := later_cell (W0)
    try simp only [Act.put]
    repeat (first | (go_big_quiet_want; refine quiet_load_row 27 _ rfl (w.heap.size) rfl 27 _ (0, 0) _ (later_row HCX.out) Tryz.underlying27 rfl (info27 HS.out) ?_; go_simp; go_big_quiet_on) | go_big_quiet_step (((first | (go_at_call 32; exact later_of (hf.out _ (HBX.out.trans ((Later.below _).mono (by omega))))) | (go_at_call 33; exact later_of (hbr.out _)) | (go_at_call 13; exact later_of (hsm.out _ (HBX.out.trans ((Later.below _).mono (by omega)))))))) | quiet_step (((first | (go_at_call 32; exact later_of (hf.out _ (HBX.out.trans ((Later.below _).mono (by omega))))) | (go_at_call 33; exact later_of (hbr.out _)) | (go_at_call 13; exact later_of (hsm.out _ (HBX.out.trans ((Later.below _).mono (by omega)))))))))
    refine wpQuiet_nil ?_
    intro w9 hx_
    obtain ⟨⟨w_, hb9⟩, e_⟩ := hx_
    have e2_ : w9 = w_ := e_
    clear e_
    subst e2_
    clear hl_
    go_wp2
    go_ret
    exact ⟨by rw [HR.out]; rfl, HBX.out.trans (hb9.mono (by omega))⟩
  have HR : Hid (R = 0) := by show _ = _; rw [HE.out]; rfl
  clear HE
  go_enter Tryz.func11, Tryz.ntmps11
  go_wp2
  rw [hW0.out]
  refine wp_region_later (by kernel_rfl) (by kernel_rfl) ?_
  have hl_ := later_cell (W0)
  try simp only [Act.put]
  repeat (first | (go_big_quiet_want; refine quiet_load_row 27 _ rfl (w.heap.size) rfl 27 _ (0, 0) _ (later_row HCX.out) Tryz.underlying27 rfl (info27 HS.out) ?_; go_simp; go_big_quiet_on) | go_big_quiet_step (((first | (go_at_call 32; exact later_of (hf.out _ (HBX.out.trans ((Later.below _).mono (by omega))))) | (go_at_call 33; exact later_of (hbr.out _)) | (go_at_call 13; exact later_of (hsm.out _ (HBX.out.trans ((Later.below _).mono (by omega)))))))) | quiet_step (((first | (go_at_call 32; exact later_of (hf.out _ (HBX.out.trans ((Later.below _).mono (by omega))))) | (go_at_call 33; exact later_of (hbr.out _)) | (go_at_call 13; exact later_of (hsm.out _ (HBX.out.trans ((Later.below _).mono (by omega)))))))))
  refine wpQuiet_nil ?_
  intro w9 hx_
  obtain ⟨⟨w_, hb9⟩, e_⟩ := hx_
  have e2_ : w9 = w_ := e_
  clear e_
  subst e2_
  clear hl_
  go_wp2
  go_ret
  exact ⟨by rw [HR.out]; rfl, HBX.out.trans (hb9.mono (by omega))⟩
theorem bare_at0 {w : World} {B : Nat} {x : Cm} (h1 : (bareC x).shape.alts = []) (h2 : (bareC x).after = []) : CmAt w B (bareC x) none 0 none 0 := by
  unfold CmAt
  rw [h1, h2]
  exact ⟨Reads.none_, Reads.none_, Nat.zero_le _, Nat.zero_le _, Nat.le_refl _, Nat.le_refl _⟩
theorem bare_empty {x : Cm} (h : x.kind ≠ 1) : (bareC x).shape.alts = [] ∧ (bareC x).after = [] := by
  unfold bareC
  rw [if_neg h]
  repeat' split
  all_goals exact ⟨rfl, rfl⟩
theorem chk_any8 (x : Cm) (A A2 : Option Addr) (c c2 B : Nat) (w : World) (ha : CmAt w B x A c A2 c2) (hB : B ≤ w.heap.size) (hz : CmSz x) :
    Calls Tryz.prog 11 #[cmV x A c A2 c2] w fun e w' => e = .returned (.int .i64 (cmdE x)) ∧ Below w.heap.size w w' := by
  by_cases h1 : x.kind = 1
  · exact chk_submit_any x A A2 c c2 B w h1 ha hB hz
  obtain ⟨q1, q2⟩ := bare_empty h1
  refine chk_gen x A A2 c c2 B w none none 0 0 (fun v => ?_) (fun v _ => bare_at0 q1 q2) ha hB hz
  by_cases h2 : x.kind = 2 ∨ x.kind = 3 ∨ x.kind = 4 ∨ x.kind = 11 ∨ x.kind = 12
  · exact bare_job x A A2 c c2 v h2
  by_cases h5 : x.kind = 5
  · exact bare_alter x A A2 c c2 v h5
  by_cases h6 : x.kind = 6
  · exact bare_resize x A A2 c c2 v h6
  by_cases h7 : x.kind = 7 ∨ x.kind = 8 ∨ x.kind = 9
  · exact bare_node x A A2 c c2 v h7
  by_cases h10 : x.kind = 10
  · exact bare_reserve x A A2 c c2 v h10
  exact bare_none x A A2 c c2 v (by omega)
end Go.Proofs.YtjmhaoplablmnaaGreatDoor
