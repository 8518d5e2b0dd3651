/- Layer 8: what of a command an alteration may have, walked (printed by a program of my own). -/
import Derived.Test.YtjmhaoplablmnaaGreatDoorQ1s
namespace Go.Proofs.YtjmhaoplablmnaaGreatDoor
set_option linter.unusedVariables false
open Go.RowKit
set_option maxHeartbeats 8000000 in
theorem bare_alter (x : Cm) (A A2 : Option Addr) (c c2 : Nat) (w : World) (hk : x.kind = 5) :
    Calls Tryz.prog 33 #[cmV x A c A2 c2] w fun e w' => e = .returned (cmV (bareC x) none 0 none 0) ∧ Below w.heap.size w w' := by
  unfold bareC
  rw [cmV_is x]
  rw [if_neg (by omega), if_neg (by omega), if_pos hk]
  have e0 : (cmA x A c A2 c2)[0]? = some (.int .i64 5) := by rw [← hk]; rfl
  have e1 : (cmA x A c A2 c2)[1]? = some (.int .i64 x.job) := rfl
  have e10 : (cmA x A c A2 c2)[10]? = some (.int .i64 x.prio) := rfl
  have e11 : (cmA x A c A2 c2)[11]? = some (.bool x.hasPrio) := rfl
  have e12 : (cmA x A c A2 c2)[12]? = some (.int .i64 x.time) := rfl
  have e13 : (cmA x A c A2 c2)[13]? = some (.bool x.hasTime) := rfl
  obtain ⟨cs, hcs⟩ : ∃ cs, cmA x A c A2 c2 = cs := ⟨_, rfl⟩
  rw [hcs] at e0 e1 e10 e11 e12 e13 ⊢
  clear hcs hk
  unfold cmV sh0
  dsimp only [List.length_nil]
  obtain ⟨n, hn⟩ : ∃ n, x.shape.alts.length = n := ⟨_, rfl⟩
  obtain ⟨m, hm⟩ : ∃ n, x.after.length = n := ⟨_, rfl⟩
  clear hn hm
  obtain ⟨W1, hW1⟩ : ∃ W1, Hid ((((w.alloc (.cells cs 27)).alloc (.cells #[.int .i64 0, .int .i64 0, .string ⟨#[]⟩, .string ⟨#[]⟩, .string ⟨#[]⟩, .int .i64 0, .slice none 0 0, .int .i64 0, .int .i64 0, .int .i64 0, .int .i64 0, .bool false, .int .i64 0, .bool false, .slice none 0 0, .int .i64 0, .int .i64 0, .int .i64 0] 27)).alloc (.cells #[.int .i64 5, .int .i64 0, .string ⟨#[]⟩, .string ⟨#[]⟩, .string ⟨#[]⟩, .int .i64 0, .slice none 0 0, .int .i64 0, .int .i64 0, .int .i64 0, .int .i64 0, .bool false, .int .i64 0, .bool false, .slice none 0 0, .int .i64 0, .int .i64 0, .int .i64 0] 27)) = W1) := ⟨_, rfl⟩
  have hb0 := three_below w (.cells cs 27) (.cells #[.int .i64 0, .int .i64 0, .string ⟨#[]⟩, .string ⟨#[]⟩, .string ⟨#[]⟩, .int .i64 0, .slice none 0 0, .int .i64 0, .int .i64 0, .int .i64 0, .int .i64 0, .bool false, .int .i64 0, .bool false, .slice none 0 0, .int .i64 0, .int .i64 0, .int .i64 0] 27) (.cells #[.int .i64 5, .int .i64 0, .string ⟨#[]⟩, .string ⟨#[]⟩, .string ⟨#[]⟩, .int .i64 0, .slice none 0 0, .int .i64 0, .int .i64 0, .int .i64 0, .int .i64 0, .bool false, .int .i64 0, .bool false, .slice none 0 0, .int .i64 0, .int .i64 0, .int .i64 0] 27)
  obtain ⟨h1, h2, h3⟩ := three_block w (.cells cs 27) (.cells #[.int .i64 0, .int .i64 0, .string ⟨#[]⟩, .string ⟨#[]⟩, .string ⟨#[]⟩, .int .i64 0, .slice none 0 0, .int .i64 0, .int .i64 0, .int .i64 0, .int .i64 0, .bool false, .int .i64 0, .bool false, .slice none 0 0, .int .i64 0, .int .i64 0, .int .i64 0] 27) (.cells #[.int .i64 5, .int .i64 0, .string ⟨#[]⟩, .string ⟨#[]⟩, .string ⟨#[]⟩, .int .i64 0, .slice none 0 0, .int .i64 0, .int .i64 0, .int .i64 0, .int .i64 0, .bool false, .int .i64 0, .bool false, .slice none 0 0, .int .i64 0, .int .i64 0, .int .i64 0] 27)
  rw [hW1.out] at hb0 h1 h2 h3
  have HB0 := Lib.hid hb0
  have H1 := Lib.hid h1
  have H2 := Lib.hid h2
  have H3 := Lib.hid h3
  have hs1 : w.heap.size + 1 + 1 < W1.heap.size := (Array.getElem?_eq_some_iff.1 h3).1
  have hf1 : ∀ j, W1.frozen? ⟨w.heap.size + 1 + 1, j, none⟩ = false := fun j => by simp [World.frozen?, H3.out]
  have x1 : W1.cell? ⟨w.heap.size, 1, none⟩ = some (.int .i64 x.job) := (cell_of_row W1 _ 1 _ _ _ H1.out).trans e1
  have x10 : W1.cell? ⟨w.heap.size, 10, none⟩ = some (.int .i64 x.prio) := (cell_of_row W1 _ 10 _ _ _ H1.out).trans e10
  have x11 : W1.cell? ⟨w.heap.size, 11, none⟩ = some (.bool x.hasPrio) := (cell_of_row W1 _ 11 _ _ _ H1.out).trans e11
  have x12 : W1.cell? ⟨w.heap.size, 12, none⟩ = some (.int .i64 x.time) := (cell_of_row W1 _ 12 _ _ _ H1.out).trans e12
  have x13 : W1.cell? ⟨w.heap.size, 13, none⟩ = some (.bool x.hasTime) := (cell_of_row W1 _ 13 _ _ _ H1.out).trans e13
  have o1 : W1.cell? ⟨w.heap.size + 1 + 1, 1, none⟩ = some (.int .i64 0) := cell_of_row W1 _ 1 _ _ _ H3.out
  have o10 : W1.cell? ⟨w.heap.size + 1 + 1, 10, none⟩ = some (.int .i64 0) := cell_of_row W1 _ 10 _ _ _ H3.out
  have o11 : W1.cell? ⟨w.heap.size + 1 + 1, 11, none⟩ = some (.bool false) := cell_of_row W1 _ 11 _ _ _ H3.out
  have o12 : W1.cell? ⟨w.heap.size + 1 + 1, 12, none⟩ = some (.int .i64 0) := cell_of_row W1 _ 12 _ _ _ H3.out
  have o13 : W1.cell? ⟨w.heap.size + 1 + 1, 13, none⟩ = some (.bool false) := cell_of_row W1 _ 13 _ _ _ H3.out
  obtain ⟨W2, hW2⟩ : ∃ v, Hid ((((((W1.setCell ⟨w.heap.size + 1 + 1, 1, none⟩ (.int .i64 x.job)).setCell ⟨w.heap.size + 1 + 1, 10, none⟩ (.int .i64 x.prio)).setCell ⟨w.heap.size + 1 + 1, 11, none⟩ (.bool x.hasPrio)).setCell ⟨w.heap.size + 1 + 1, 12, none⟩ (.int .i64 x.time)).setCell ⟨w.heap.size + 1 + 1, 13, none⟩ (.bool x.hasTime)).drew = v) := ⟨_, rfl⟩
  have O2 : Hid (W2.heap[w.heap.size + 1 + 1]? = some (.cells #[.int .i64 5, .int .i64 x.job, .string ⟨#[]⟩, .string ⟨#[]⟩, .string ⟨#[]⟩, .int .i64 0, .slice none 0 0, .int .i64 0, .int .i64 0, .int .i64 0, .int .i64 x.prio, .bool x.hasPrio, .int .i64 x.time, .bool x.hasTime, .slice none 0 0, .int .i64 0, .int .i64 0, .int .i64 0] 27 (0, 0))) := by
    show _ = _
    rw [← hW2.out, drew_heap]
    have h := (setCell_blk (k := 13) (a := .bool x.hasTime) (setCell_blk (k := 12) (a := .int .i64 x.time) (setCell_blk (k := 11) (a := .bool x.hasPrio) (setCell_blk (k := 10) (a := .int .i64 x.prio) (setCell_blk (k := 1) (a := .int .i64 x.job) H3.out)))))
    simp only [List.setIfInBounds_toArray, List.set_cons_succ, List.set_cons_zero] at h
    exact h
  have J2 : Hid (W2.heap[w.heap.size]? = some (.cells cs 27 (0, 0))) := by
    show _ = _
    rw [← hW2.out, drew_heap, Below.heap_setCell _ _ _ _ (by first | (simp; done) | (simp; omega)), Below.heap_setCell _ _ _ _ (by first | (simp; done) | (simp; omega)), Below.heap_setCell _ _ _ _ (by first | (simp; done) | (simp; omega)), Below.heap_setCell _ _ _ _ (by first | (simp; done) | (simp; omega)), Below.heap_setCell _ _ _ _ (by first | (simp; done) | (simp; omega))]
    exact H1.out
  have R2 : Hid (W2.heap[w.heap.size + 1]? = some (.cells #[.int .i64 0, .int .i64 0, .string ⟨#[]⟩, .string ⟨#[]⟩, .string ⟨#[]⟩, .int .i64 0, .slice none 0 0, .int .i64 0, .int .i64 0, .int .i64 0, .int .i64 0, .bool false, .int .i64 0, .bool false, .slice none 0 0, .int .i64 0, .int .i64 0, .int .i64 0] 27 (0, 0))) := by
    show _ = _
    rw [← hW2.out, drew_heap, Below.heap_setCell _ _ _ _ (by first | (simp; done) | (simp; omega)), Below.heap_setCell _ _ _ _ (by first | (simp; done) | (simp; omega)), Below.heap_setCell _ _ _ _ (by first | (simp; done) | (simp; omega)), Below.heap_setCell _ _ _ _ (by first | (simp; done) | (simp; omega)), Below.heap_setCell _ _ _ _ (by first | (simp; done) | (simp; omega))]
    exact H2.out
  have B2 : Hid (Below w.heap.size w W2) := by
    show Below _ _ _
    rw [← hW2.out]
    exact below_drew (Below.setCell (Below.setCell (Below.setCell (Below.setCell (Below.setCell HB0.out (p := ⟨w.heap.size + 1 + 1, 1, none⟩) (show w.heap.size ≤ w.heap.size + 1 + 1 by omega) (.int .i64 x.job)) (p := ⟨w.heap.size + 1 + 1, 10, none⟩) (show w.heap.size ≤ w.heap.size + 1 + 1 by omega) (.int .i64 x.prio)) (p := ⟨w.heap.size + 1 + 1, 11, none⟩) (show w.heap.size ≤ w.heap.size + 1 + 1 by omega) (.bool x.hasPrio)) (p := ⟨w.heap.size + 1 + 1, 12, none⟩) (show w.heap.size ≤ w.heap.size + 1 + 1 by omega) (.int .i64 x.time)) (p := ⟨w.heap.size + 1 + 1, 13, none⟩) (show w.heap.size ≤ w.heap.size + 1 + 1 by omega) (.bool x.hasTime))
  have x0 : W1.cell? ⟨w.heap.size, 0, none⟩ = some (.int .i64 5) := (cell_of_row W1 _ 0 _ _ _ h1).trans e0
  have HROW : Hid ((((w.alloc (.cells cs 27)).alloc (.cells #[.int .i64 0, .int .i64 0, .string ⟨#[]⟩, .string ⟨#[]⟩, .string ⟨#[]⟩, .int .i64 0, .slice none 0 0, .int .i64 0, .int .i64 0, .int .i64 0, .int .i64 0, .bool false, .int .i64 0, .bool false, .slice none 0 0, .int .i64 0, .int .i64 0, .int .i64 0] 27)).alloc (.cells #[.int .i64 0, .int .i64 0, .string ⟨#[]⟩, .string ⟨#[]⟩, .string ⟨#[]⟩, .int .i64 0, .slice none 0 0, .int .i64 0, .int .i64 0, .int .i64 0, .int .i64 0, .bool false, .int .i64 0, .bool false, .slice none 0 0, .int .i64 0, .int .i64 0, .int .i64 0] 27)).setRow (w.heap.size + 1 + 1) #[.int .i64 5, .int .i64 0, .string ⟨#[]⟩, .string ⟨#[]⟩, .string ⟨#[]⟩, .int .i64 0, .slice none 0 0, .int .i64 0, .int .i64 0, .int .i64 0, .int .i64 0, .bool false, .int .i64 0, .bool false, .slice none 0 0, .int .i64 0, .int .i64 0, .int .i64 0] = W1) := by
    show _ = _
    have hrow := World.setRow_alloc_new ((w.alloc (.cells cs 27)).alloc (.cells #[.int .i64 0, .int .i64 0, .string ⟨#[]⟩, .string ⟨#[]⟩, .string ⟨#[]⟩, .int .i64 0, .slice none 0 0, .int .i64 0, .int .i64 0, .int .i64 0, .int .i64 0, .bool false, .int .i64 0, .bool false, .slice none 0 0, .int .i64 0, .int .i64 0, .int .i64 0] 27)) #[.int .i64 0, .int .i64 0, .string ⟨#[]⟩, .string ⟨#[]⟩, .string ⟨#[]⟩, .int .i64 0, .slice none 0 0, .int .i64 0, .int .i64 0, .int .i64 0, .int .i64 0, .bool false, .int .i64 0, .bool false, .slice none 0 0, .int .i64 0, .int .i64 0, .int .i64 0] #[.int .i64 5, .int .i64 0, .string ⟨#[]⟩, .string ⟨#[]⟩, .string ⟨#[]⟩, .int .i64 0, .slice none 0 0, .int .i64 0, .int .i64 0, .int .i64 0, .int .i64 0, .bool false, .int .i64 0, .bool false, .slice none 0 0, .int .i64 0, .int .i64 0, .int .i64 0] 27
    rw [World.size_alloc, World.size_alloc] at hrow
    rw [hrow, hW1.out]
  clear h1 h2 h3 hb0
  go_enter Tryz.func33, Tryz.ntmps33
  go_wp2_with (refine wpList_store_row rfl 27 _ _ rfl (w.heap.size + 1 + 1) _ rfl rfl 27 _ (three_block w _ _ _).2.2 (by kernel_rfl) rfl (by rw [List.all_toArray]; rfl) ?_; rw [HROW.out])
  go_region
  rw [hW2.out]
  clear hf1 x1 o1 x10 o10 x11 o11 x12 o12 x13 o13
  have hs2 : w.heap.size + 1 + 1 < W2.heap.size := (Array.getElem?_eq_some_iff.1 O2.out).1
  go_wp2_with (first
    | (refine wpList_load_row rfl 27 _ rfl (w.heap.size + 1 + 1) rfl 27 _ (0, 0) _ O2.out Tryz.underlying27 rfl (by kernel_rfl) ?_)
    | (refine wpList_store_row rfl 27 _ _ rfl (w.heap.size + 1) _ rfl rfl 27 _ R2.out (by kernel_rfl) rfl (by rw [List.all_toArray]; rfl) ?_))
  (try simp only [Exit.inBlock, Exit.then])
  refine bodyPost_ret (results_cell_row rfl _ _ (w.heap.size + 1) _ _ _ _ rfl (setRow_heap _ _ _ _ _ _ R2.out) Tryz.underlying27 rfl (by kernel_rfl)) rfl ?_
  exact ⟨rfl, below_row B2.out (by omega) _⟩
end Go.Proofs.YtjmhaoplablmnaaGreatDoor
