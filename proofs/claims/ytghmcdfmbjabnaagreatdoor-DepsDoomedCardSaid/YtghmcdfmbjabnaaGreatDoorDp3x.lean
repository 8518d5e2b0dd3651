/- Layer 16: two walked (printed by a program of my own). Layer 16: awake walked (printed by a program of my own). -/
import Derived.Test.YtghmcdfmbjabnaaGreatDoorDp2x
import Derived.Test.YtghmcdfmbjabnaaGreatDoorQ4t
import Derived.Test.YtghmcdfmbjabnaaGreatDoorQ4x
import Derived.Great.BuildSlice
import Derived.Test.YtghmcdfmbjabnaaGreatDoorDp1x
namespace Go.Proofs.YtghmcdfmbjabnaaGreatDoor
set_option linter.unusedVariables false
open Go.RowKit
def twoA (s : Int) : Jb := ⟨1, ⟨#[97]⟩, ⟨#[117]⟩, ⟨#[120]⟩, ⟨1, [(2, 60)], 0, 0, 0⟩, 0, [], s, false, 0, -1, 0, 0, 0, 0, 0⟩
def twoB (h : Int) : Jb := ⟨2, ⟨#[97]⟩, ⟨#[117]⟩, ⟨#[120]⟩, ⟨1, [(2, 60)], 0, 0, 0⟩, 0, [(h, 1)], 1, false, 0, -1, 0, 0, 0, 0, 0⟩
theorem bs_fill2 {cs ds : Array Value} (h : 20 = cs.size) (h2 : 20 = ds.size) : Instr.fill (fun i => some (i * 20, 20)) ((Array.range (2 * 20)).map ((Value.agg (jbA noJ none 0 none 0)).cells[· % (Value.agg (jbA noJ none 0 none 0)).cells.size]!)) [(0, .agg cs), (1, .agg ds)] = some (cs ++ ds) := by
  obtain ⟨l⟩ := cs
  obtain ⟨m⟩ := ds
  obtain ⟨a0, a1, a2, a3, a4, a5, a6, a7, a8, a9, c0, c1, c2, c3, c4, c5, c6, c7, c8, c9, rfl⟩ := twenty (by simpa using h.symm)
  obtain ⟨d0, d1, d2, d3, d4, d5, d6, d7, d8, d9, e0, e1, e2, e3, e4, e5, e6, e7, e8, e9, rfl⟩ := twenty (by simpa using h2.symm)
  kernel_rfl
theorem list_bs2 {w : World} {ops : Array Oper} {rest : List Oper} {o : Oper} {a : Act} {Q : Exit → Act → World → Prop} {x y : Operand} {cs ds : Array Value}
    (hgd : o.guard = none) (ho : o.op = .buildSlice 43 2 #[(0, x), (1, y)]) (hx : a.eval x = .agg cs) (hy : a.eval y = .agg ds) (hcs : 20 = cs.size) (hds : 20 = ds.size)
    (h : wpList Tryz.prog ops Q rest (a.put o.dst (.slice (some ⟨w.heap.size, 0, none⟩) 2 2)) (w.alloc (.cells (cs ++ ds) 28))) : wpList Tryz.prog ops Q (o :: rest) a w := by
  refine wpList_plain hgd fun K hK => ?_
  obtain ⟨i0, hi0, hz0, hz1, hz2⟩ := info_parts Tryz.infoJ
  refine wp_buildSlice 43 28 2 #[(0, x), (1, y)] ho (cs ++ ds) i0 _ Tryz.underlying43 hi0 hz0 (by rw [hz1]; decide) (by rw [hz1]; decide) ?_ (hK _ _ h)
  rw [hz1]
  simp only [List.map_toArray, List.map_cons, List.map_nil, hx, hy]
  exact bs_fill2 hcs hds
set_option linter.unusedSimpArgs false in
set_option maxHeartbeats 800000 in
set_option maxRecDepth 100000 in
theorem two_any (s h : Int) (w : World) : Calls Tryz.prog 84 #[.int .i64 s, .int .i64 h] w fun e w' => ∃ R rs, e = .returned (.slice R 2 2) ∧ jobs rs = [twoA s, twoB h] ∧ Hid (TbAt w' w'.heap.size R 2 rs) ∧ Below w.heap.size w w' := by
  have H1 := boxed (w.alloc (.cells #[.int .i64 2, .int .i64 60] 103)) (#[.int .i64 1, .string ⟨#[97]⟩, .string ⟨#[117]⟩, .string ⟨#[120]⟩, .int .i64 1, .slice (some ⟨w.heap.size, 0, none⟩) 1 1, .int .i64 0, .int .i64 0, .int .i64 0, .int .i64 0, .slice none 0 0, .int .i64 s, .bool false, .int .i64 0, .int .i64 (-1), .int .i64 0, .int .i64 0, .int .i64 0, .int .u64 0, .int .i64 0])
  simp only [World.size_alloc] at H1
  obtain ⟨W1, hs1, j1, b1, z1⟩ := H1
  obtain ⟨W2, hs2, j2, b2, z2⟩ := boxed W1 (#[.int .i64 1, .string ⟨#[97]⟩, .string ⟨#[117]⟩, .string ⟨#[120]⟩, .int .i64 1, .slice (some ⟨w.heap.size, 0, none⟩) 1 1, .int .i64 0, .int .i64 0, .int .i64 0, .int .i64 0, .slice none 0 0, .int .i64 s, .bool false, .int .i64 0, .int .i64 (-1), .int .i64 0, .int .i64 0, .int .i64 0, .int .u64 0, .int .i64 0])
  have HS1 := Lib.hid hs1
  have HS2 := Lib.hid hs2
  have J1 := Lib.hid j1
  have J2 := Lib.hid j2
  have kp3 : Kp W2.heap.size (some W1.heap.size) W2 (((W2.setCell ⟨W1.heap.size, 0, none⟩ (.int .i64 2)).setCell ⟨W1.heap.size, 11, none⟩ (.int .i64 1)).setCell ⟨W1.heap.size, 10, none⟩ (.slice (some ⟨W2.heap.size, 0, none⟩) 1 1)) := (((Kp.of_below (Below.refl _ _)).set15).set15).set15
  have v3s : (((W2.setCell ⟨W1.heap.size, 0, none⟩ (.int .i64 2)).setCell ⟨W1.heap.size, 11, none⟩ (.int .i64 1)).setCell ⟨W1.heap.size, 10, none⟩ (.slice (some ⟨W2.heap.size, 0, none⟩) 1 1)).heap.size = W2.heap.size := by rw [set_size, set_size, set_size]
  have kp : Kp W2.heap.size (some W1.heap.size) W2 ((((W2.setCell ⟨W1.heap.size, 0, none⟩ (.int .i64 2)).setCell ⟨W1.heap.size, 11, none⟩ (.int .i64 1)).setCell ⟨W1.heap.size, 10, none⟩ (.slice (some ⟨W2.heap.size, 0, none⟩) 1 1)).alloc (.cells #[.int .i64 h, .int .i64 1] 85)) := kp3.trans (Kp.of_below ((bx0 (w := (((W2.setCell ⟨W1.heap.size, 0, none⟩ (.int .i64 2)).setCell ⟨W1.heap.size, 11, none⟩ (.int .i64 1)).setCell ⟨W1.heap.size, 10, none⟩ (.slice (some ⟨W2.heap.size, 0, none⟩) 1 1)))).mono (by rw [v3s]; exact Nat.le_refl _)))
  have K1 : Hid (((((W2.setCell ⟨W1.heap.size, 0, none⟩ (.int .i64 2)).setCell ⟨W1.heap.size, 11, none⟩ (.int .i64 1)).setCell ⟨W1.heap.size, 10, none⟩ (.slice (some ⟨W2.heap.size, 0, none⟩) 1 1)).alloc (.cells #[.int .i64 h, .int .i64 1] 85)).heap[w.heap.size + 1]? = some (.cells #[.int .i64 1, .string ⟨#[97]⟩, .string ⟨#[117]⟩, .string ⟨#[120]⟩, .int .i64 1, .slice (some ⟨w.heap.size, 0, none⟩) 1 1, .int .i64 0, .int .i64 0, .int .i64 0, .int .i64 0, .slice none 0 0, .int .i64 s, .bool false, .int .i64 0, .int .i64 (-1), .int .i64 0, .int .i64 0, .int .i64 0, .int .u64 0, .int .i64 0] 28 (0, 0))) := (kp.block _ (by omega) (by intro e; have := Option.some.inj e; omega)).trans ((b2.block _ z1).trans j1)
  have K2 : Hid (((((W2.setCell ⟨W1.heap.size, 0, none⟩ (.int .i64 2)).setCell ⟨W1.heap.size, 11, none⟩ (.int .i64 1)).setCell ⟨W1.heap.size, 10, none⟩ (.slice (some ⟨W2.heap.size, 0, none⟩) 1 1)).alloc (.cells #[.int .i64 h, .int .i64 1] 85)).heap[W1.heap.size]? = some (.cells #[.int .i64 2, .string ⟨#[97]⟩, .string ⟨#[117]⟩, .string ⟨#[120]⟩, .int .i64 1, .slice (some ⟨w.heap.size, 0, none⟩) 1 1, .int .i64 0, .int .i64 0, .int .i64 0, .int .i64 0, .slice (some ⟨W2.heap.size, 0, none⟩) 1 1, .int .i64 1, .bool false, .int .i64 0, .int .i64 (-1), .int .i64 0, .int .i64 0, .int .i64 0, .int .u64 0, .int .i64 0] 28 (0, 0))) := ((bx0 (w := (((W2.setCell ⟨W1.heap.size, 0, none⟩ (.int .i64 2)).setCell ⟨W1.heap.size, 11, none⟩ (.int .i64 1)).setCell ⟨W1.heap.size, 10, none⟩ (.slice (some ⟨W2.heap.size, 0, none⟩) 1 1)))).block _ (by rw [v3s]; exact z2)).trans (setCell_blk (setCell_blk (setCell_blk j2)))
  have kpa : Reads ((((W2.setCell ⟨W1.heap.size, 0, none⟩ (.int .i64 2)).setCell ⟨W1.heap.size, 11, none⟩ (.int .i64 1)).setCell ⟨W1.heap.size, 10, none⟩ (.slice (some ⟨W2.heap.size, 0, none⟩) 1 1)).alloc (.cells #[.int .i64 h, .int .i64 1] 85)) ((((W2.setCell ⟨W1.heap.size, 0, none⟩ (.int .i64 2)).setCell ⟨W1.heap.size, 11, none⟩ (.int .i64 1)).setCell ⟨W1.heap.size, 10, none⟩ (.slice (some ⟨W2.heap.size, 0, none⟩) 1 1)).alloc (.cells #[.int .i64 h, .int .i64 1] 85)).heap.size 2 (some ⟨W2.heap.size, 0, none⟩) 1 (recs prC [(h, (1 : Int))]) := by
    have h5 := (Reads.madeRec (enc := prC) (((W2.setCell ⟨W1.heap.size, 0, none⟩ (.int .i64 2)).setCell ⟨W1.heap.size, 11, none⟩ (.int .i64 1)).setCell ⟨W1.heap.size, 10, none⟩ (.slice (some ⟨W2.heap.size, 0, none⟩) 1 1)) (h, (1 : Int)) 85 rfl).more (B' := ((((W2.setCell ⟨W1.heap.size, 0, none⟩ (.int .i64 2)).setCell ⟨W1.heap.size, 11, none⟩ (.int .i64 1)).setCell ⟨W1.heap.size, 10, none⟩ (.slice (some ⟨W2.heap.size, 0, none⟩) 1 1)).alloc (.cells #[.int .i64 h, .int .i64 1] 85)).heap.size) (by rw [World.size_alloc]; exact Nat.le_refl _)
    rw [v3s] at h5
    exact h5
  have g0 : ∀ k, W2.frozen? ⟨W1.heap.size, k, none⟩ = false := fun k => by simp [World.frozen?, j2]
  have d0 : W2.cell? ⟨W1.heap.size, 0, none⟩ = some (.int .i64 1) := (cell_of_row _ _ 0 _ _ _ j2).trans rfl
  have d11 : W2.cell? ⟨W1.heap.size, 11, none⟩ = some (.int .i64 s) := (cell_of_row _ _ 11 _ _ _ j2).trans rfl
  have d10 : W2.cell? ⟨W1.heap.size, 10, none⟩ = some (.slice none 0 0) := (cell_of_row _ _ 10 _ _ _ j2).trans rfl
  have N1 : Hid (∀ z, ((w.alloc (.cells #[.int .i64 2, .int .i64 60] 103)).alloc (.cells z 28)).heap[w.heap.size + 1]? = some (.cells z 28 (0, 0))) := Lib.hid (fun z => by have := heap_alloc_new (w.alloc (.cells #[.int .i64 2, .int .i64 60] 103)) (.cells z 28); rwa [World.size_alloc] at this)
  have I1 : Hid ((Tryz.prog.info? 28).map (·.size) = some (#[.int .i64 1, .string ⟨#[97]⟩, .string ⟨#[117]⟩, .string ⟨#[120]⟩, .int .i64 1, .slice (some ⟨w.heap.size, 0, none⟩) 1 1, .int .i64 0, .int .i64 0, .int .i64 0, .int .i64 0, .slice none 0 0, .int .i64 s, .bool false, .int .i64 0, .int .i64 (-1), .int .i64 0, .int .i64 0, .int .i64 0, .int .u64 0, .int .i64 0] : Array Value).size) := by show _ = _; kernel_rfl
  have I2 : Hid ((Tryz.prog.info? 28).map (·.size) = some (#[.int .i64 2, .string ⟨#[97]⟩, .string ⟨#[117]⟩, .string ⟨#[120]⟩, .int .i64 1, .slice (some ⟨w.heap.size, 0, none⟩) 1 1, .int .i64 0, .int .i64 0, .int .i64 0, .int .i64 0, .slice (some ⟨W2.heap.size, 0, none⟩) 1 1, .int .i64 1, .bool false, .int .i64 0, .int .i64 (-1), .int .i64 0, .int .i64 0, .int .i64 0, .int .u64 0, .int .i64 0] : Array Value).size) := by show _ = _; kernel_rfl
  have A1 : Hid ((#[.int .i64 1, .string ⟨#[97]⟩, .string ⟨#[117]⟩, .string ⟨#[120]⟩, .int .i64 1, .slice (some ⟨w.heap.size, 0, none⟩) 1 1, .int .i64 0, .int .i64 0, .int .i64 0, .int .i64 0, .slice none 0 0, .int .i64 s, .bool false, .int .i64 0, .int .i64 (-1), .int .i64 0, .int .i64 0, .int .i64 0, .int .u64 0, .int .i64 0] : Array Value).all (·.oneCell') = true) := by show _ = _; rw [List.all_toArray]; rfl
  have z12 := b2.size
  obtain ⟨cl, hcl⟩ : ∃ cl, Hid (cl = recs jrC [⟨twoA s, some ⟨w.heap.size, 0, none⟩, 1, none, 0⟩, ⟨twoB h, some ⟨w.heap.size, 0, none⟩, 1, some ⟨W2.heap.size, 0, none⟩, 1⟩]) := ⟨_, rfl⟩
  have EQ : Hid ((#[.int .i64 1, .string ⟨#[97]⟩, .string ⟨#[117]⟩, .string ⟨#[120]⟩, .int .i64 1, .slice (some ⟨w.heap.size, 0, none⟩) 1 1, .int .i64 0, .int .i64 0, .int .i64 0, .int .i64 0, .slice none 0 0, .int .i64 s, .bool false, .int .i64 0, .int .i64 (-1), .int .i64 0, .int .i64 0, .int .i64 0, .int .u64 0, .int .i64 0] ++ #[.int .i64 2, .string ⟨#[97]⟩, .string ⟨#[117]⟩, .string ⟨#[120]⟩, .int .i64 1, .slice (some ⟨w.heap.size, 0, none⟩) 1 1, .int .i64 0, .int .i64 0, .int .i64 0, .int .i64 0, .slice (some ⟨W2.heap.size, 0, none⟩) 1 1, .int .i64 1, .bool false, .int .i64 0, .int .i64 (-1), .int .i64 0, .int .i64 0, .int .i64 0, .int .u64 0, .int .i64 0] : Array Value) = cl.toArray) := by show _ = _; rw [hcl.out]; kernel_rfl
  have bA : Below (w.heap.size + 1) (w.alloc (.cells #[.int .i64 2, .int .i64 60] 103)) ((((W2.setCell ⟨W1.heap.size, 0, none⟩ (.int .i64 2)).setCell ⟨W1.heap.size, 11, none⟩ (.int .i64 1)).setCell ⟨W1.heap.size, 10, none⟩ (.slice (some ⟨W2.heap.size, 0, none⟩) 1 1)).alloc (.cells #[.int .i64 h, .int .i64 1] 85)) := (b1.trans (b2.mono (by omega))).trans (kp.below (by omega) (fun k e => by rw [← Option.some.inj e]; omega))
  have FIN : Hid (∀ V : World, Below (w.heap.size + 1) (w.alloc (.cells #[.int .i64 2, .int .i64 60] 103)) V → Reads V V.heap.size 2 (some ⟨W2.heap.size, 0, none⟩) 1 (recs prC [(h, (1 : Int))]) → ∃ rs, jobs rs = [twoA s, twoB h] ∧ Hid (TbAt (V.alloc (.cells cl.toArray 28)) (V.alloc (.cells cl.toArray 28)).heap.size (some ⟨V.heap.size, 0, none⟩) 2 rs) ∧ Below w.heap.size w (V.alloc (.cells cl.toArray 28))) := Lib.hid (fun V bA kpa => by
    have hal : Reads (w.alloc (.cells #[.int .i64 2, .int .i64 60] 103)) (w.heap.size + 1) 2 (some ⟨w.heap.size, 0, none⟩) 1 (recs prC [((2 : Int), (60 : Int))]) := Reads.madeRec (enc := prC) w ((2 : Int), (60 : Int)) 103 rfl
    have hal4 := hal.below bA
    have hdp4 := kpa
    have e2 := bA.size
    have bF := bx0 (w := V) (o := .cells cl.toArray 28)
    have hll : cl.length = 2 * 20 := by rw [hcl.out]; rfl
    refine ⟨[⟨twoA s, some ⟨w.heap.size, 0, none⟩, 1, none, 0⟩, ⟨twoB h, some ⟨w.heap.size, 0, none⟩, 1, some ⟨W2.heap.size, 0, none⟩, 1⟩], rfl, Lib.hid ⟨?_, ?_, by omega⟩, ((Below.refl w.heap.size w).alloc (Nat.le_refl _) _).trans ((bA.mono (by omega)).trans (bF.mono (by simp only [World.size_alloc] at e2; omega)))⟩
    · rw [← hcl.out]
      exact (Reads.madeN V cl 28 (n := 2) (size := 20) hll).more (by simp)
    · intro q hq
      simp only [List.mem_cons, List.not_mem_nil, or_false] at hq
      rcases hq with rfl | rfl
      · refine ⟨⟨((hal4.more (by simp only [World.size_alloc] at e2; omega)).below bF).more bF.size, Reads.none_, by show 1 ≤ 100000; decide, by show 0 ≤ 100000; decide, by show 1 ≤ 1; decide, by show 0 ≤ 0; decide⟩, ⟨by show 1 ≤ 1000000; decide, by show 1 ≤ 1000000; decide, by show 1 ≤ 1000000; decide⟩, by rw [M64_is]; show (0 : Nat) < _; decide⟩
      · refine ⟨⟨((hal4.more (by simp only [World.size_alloc] at e2; omega)).below bF).more bF.size, (hdp4.below bF).more bF.size, by show 1 ≤ 100000; decide, by show 1 ≤ 100000; decide, by show 1 ≤ 1; decide, by show 1 ≤ 1; decide⟩, ⟨by show 1 ≤ 1000000; decide, by show 1 ≤ 1000000; decide, by show 1 ≤ 1000000; decide⟩, by rw [M64_is]; show (0 : Nat) < _; decide⟩)
  obtain ⟨V, hV⟩ : ∃ V, Hid (((((W2.setCell ⟨W1.heap.size, 0, none⟩ (.int .i64 2)).setCell ⟨W1.heap.size, 11, none⟩ (.int .i64 1)).setCell ⟨W1.heap.size, 10, none⟩ (.slice (some ⟨W2.heap.size, 0, none⟩) 1 1)).alloc (.cells #[.int .i64 h, .int .i64 1] 85)) = V) := ⟨_, rfl⟩
  rw [hV.out] at K1 K2 bA kpa kp
  have BA := Lib.hid bA
  have KA := Lib.hid kpa
  clear bA
  clear hs1 hs2 j1 j2 kp kp3 kpa b1 b2 v3s
  go_enter Tryz.func84, Tryz.ntmps84
  go_upto_region 2 with (refine wpList_store_row rfl 28 _ _ rfl (w.heap.size + 1) (#[.int .i64 1, .string ⟨#[97]⟩, .string ⟨#[117]⟩, .string ⟨#[120]⟩, .int .i64 1, .slice (some ⟨w.heap.size, 0, none⟩) 1 1, .int .i64 0, .int .i64 0, .int .i64 0, .int .i64 0, .slice none 0 0, .int .i64 s, .bool false, .int .i64 0, .int .i64 (-1), .int .i64 0, .int .i64 0, .int .i64 0, .int .u64 0, .int .i64 0]) rfl rfl 28 _ (N1.out _) I1.out (by show 20 = _; rfl) A1.out ?_; rw [HS1.out])
  clear N1 HS1
  go_upto_region 3 with (first | (refine wpList_load_row rfl 28 _ rfl (w.heap.size + 1) rfl 28 _ (0, 0) _ J1.out Tryz.underlying28 rfl I1.out ?_) | (refine wpList_store_row rfl 28 _ _ rfl (W1.heap.size) (#[.int .i64 1, .string ⟨#[97]⟩, .string ⟨#[117]⟩, .string ⟨#[120]⟩, .int .i64 1, .slice (some ⟨w.heap.size, 0, none⟩) 1 1, .int .i64 0, .int .i64 0, .int .i64 0, .int .i64 0, .slice none 0 0, .int .i64 s, .bool false, .int .i64 0, .int .i64 (-1), .int .i64 0, .int .i64 0, .int .i64 0, .int .u64 0, .int .i64 0]) rfl rfl 28 _ (heap_alloc_new W1 _) I1.out (by show 20 = _; rfl) A1.out ?_; rw [HS2.out]))
  clear HS2 J1 A1 J2
  go_upto_region 4 with (fail)
  rw [hV.out]
  go_wp2_with (first | (refine wpList_load_row rfl 28 _ rfl (w.heap.size + 1) rfl 28 _ (0, 0) _ K1.out Tryz.underlying28 rfl I1.out ?_) | (refine wpList_load_row rfl 28 _ rfl (W1.heap.size) rfl 28 _ (0, 0) _ K2.out Tryz.underlying28 rfl I2.out ?_) | (refine list_bs2 rfl rfl rfl rfl rfl rfl ?_; rw [EQ.out]))
  go_ret
  obtain ⟨rs, r1, r2, r3⟩ := FIN.out _ BA.out KA.out
  exact ⟨_, rs, rfl, r1, r2, r3⟩
theorem wf_twoB (h : Int) : ∀ d ∈ (twoB h).after, wfI d.2 := by
  intro d hd
  have : d = (h, 1) := by simpa [twoB] using hd
  subst this
  show wfI 1
  exact wfI_of (by decide) (by decide)
theorem doom_two : doomP [twoA 6, twoB 2] = ([twoA 6, finD (twoB 2) 6], [2]) := by kernel_rfl
theorem met_b : metP [twoA 3, twoB 2] (twoB 2) = true := by kernel_rfl
theorem met_a : metP [twoA 6, twoB 2] (twoB 2) = false := by kernel_rfl
theorem doomed_a : doomedP [twoA 6, twoB 2] (twoB 2) = true := by kernel_rfl
theorem doomed_b : doomedP [twoA 3, twoB 2] (twoB 2) = false := by kernel_rfl
theorem elig_b : eligP [twoA 3, twoB 2] = [2] := by kernel_rfl
/-- the second of two jobs, and what later worlds read of it -/
theorem second {w : World} {R : Option Addr} {rs : List JR} {x y : Jb} (h : TbAt w w.heap.size R 2 rs) (hj : jobs rs = [x, y]) : ∃ b o r, R = some ⟨b, o, none⟩ ∧ r.x = y ∧ Hid (∀ v, Below w.heap.size w v → v.rangeAt b (o + 1 * 20) (jrC r)) ∧ Hid (∀ v, Below w.heap.size w v → JrAt v v.heap.size r) := by
  obtain ⟨b, o, r, e, hb, hx, KR, JR⟩ := h.elem (k := 1) (by omega)
  refine ⟨b, o, r, e, ?_, fun v hv => range_lower KR.out hb hv, fun v hv => JR.out.up hv⟩
  have := jobs_at hx.out
  rw [hj] at this
  exact (Option.some.inj this).symm
set_option linter.unusedSimpArgs false in
set_option maxHeartbeats 4000000 in
set_option maxRecDepth 100000 in
theorem awake16_any (w : World) : Calls Tryz.prog 37 #[] w fun e w' => e = .returned (.bool true) ∧ Below w.heap.size w w' := by
  go_enter Tryz.func37, Tryz.ntmps37
  go_wp2_with (fail)
  refine (two_any 6 2 _).mono ?_; rintro e w1 ⟨Ra, ra, rfl, ja, Ta, ba⟩
  have JA := Lib.hid ja
  have B1 := Lib.hid ba
  clear ja ba
  go_wp2_with (fail)
  refine (two_any 3 2 _).mono ?_; rintro e w2 ⟨Rb, rb, rfl, jb, Tb, bb⟩
  have JB := Lib.hid jb
  have B2 := Lib.hid bb
  clear jb bb
  have q := doom_any ra Ra 2 2 w2.heap.size w2 (Ta.out.up B2.out) (Nat.le_refl _)
  rw [JA.out, doom_two] at q
  have Q := Lib.hid q
  clear q
  go_wp2_with (fail)
  refine Q.out.mono ?_; rintro e w3 ⟨Rl, m, cl, rl, v, rfl, jl, Tl, hmc, hcm, Ol, b3⟩
  have B3 := Lib.hid b3
  have hjl : jobs rl = [twoA 6, finD (twoB 2) 6] := jl
  obtain rfl : m = 2 := by
    have h1 := Tl.out.len
    have h2 := congrArg List.length hjl
    rw [jobs_len] at h2
    simp at h2; omega
  obtain ⟨bl, ol, r3, rfl, hx3, KL, _⟩ := second Tl.out hjl
  obtain ⟨g6, c6, rfl, _, _, _, _, hc6, _⟩ := Ol.out.at_ (by decide)
  have i0 : w3.cell? ⟨g6, 0, none⟩ = some (.int .i64 2) := hc6 0 _ rfl
  have l1 : w3.cell? ⟨bl, ol + 20 + 11, none⟩ = some (.int .i64 6) := range_cell (j := 11) (KL.out w3 (Below.refl _ _)) (by show some (Value.int .i64 r3.x.state) = _; rw [hx3]; rfl)
  have l1' : w3.cell? ⟨bl, ol + 31, none⟩ = some (.int .i64 6) := l1
  obtain ⟨b1, o1, r1, rfl, hx1, KA, JRA⟩ := second Ta.out JA.out
  obtain ⟨b2, o2, r2, rfl, hx2, KB, JRB⟩ := second Tb.out JB.out
  have HTA := Lib.hid (fun v (hv : Below w1.heap.size w1 v) => Ta.out.up hv)
  have HTB := Lib.hid (fun v (hv : Below w2.heap.size w2 v) => Tb.out.up hv)
  have CA := Lib.hid (jrC_info (r := r1))
  have CB := Lib.hid (jrC_info (r := r2))
  have qm1 := Lib.hid (fun v (hv : Below w2.heap.size w2 v) => dmet_any rb (some ⟨b2, o2, none⟩) 2 2 r2 v.heap.size v (HTB.out v hv) (JRB.out v hv) (Nat.le_refl _) (by rw [hx2]; exact wf_twoB 2))
  have qm2 := Lib.hid (fun v (hv : Below w1.heap.size w1 v) => dmet_any ra (some ⟨b1, o1, none⟩) 2 2 r1 v.heap.size v (HTA.out v hv) (JRA.out v hv) (Nat.le_refl _) (by rw [hx1]; exact wf_twoB 2))
  have qd1 := Lib.hid (fun v (hv : Below w1.heap.size w1 v) => ddoomed_any ra (some ⟨b1, o1, none⟩) 2 2 r1 v.heap.size v (HTA.out v hv) (JRA.out v hv) (Nat.le_refl _) (by rw [hx1]; exact wf_twoB 2))
  have qd2 := Lib.hid (fun v (hv : Below w2.heap.size w2 v) => ddoomed_any rb (some ⟨b2, o2, none⟩) 2 2 r2 v.heap.size v (HTB.out v hv) (JRB.out v hv) (Nat.le_refl _) (by rw [hx2]; exact wf_twoB 2))
  have qe := Lib.hid (fun v (hv : Below w2.heap.size w2 v) => delig_any rb (some ⟨b2, o2, none⟩) 2 2 v.heap.size v (HTB.out v hv) (Nat.le_refl _))
  rw [JB.out, hx2, met_b] at qm1
  rw [JA.out, hx1, met_a] at qm2
  rw [JA.out, hx1, doomed_a] at qd1
  rw [JB.out, hx2, doomed_b] at qd2
  rw [JB.out, elig_b] at qe
  obtain ⟨ca, hca⟩ : ∃ c, jrC r1 = c := ⟨_, rfl⟩
  obtain ⟨cb, hcb⟩ : ∃ c, jrC r2 = c := ⟨_, rfl⟩
  rw [hca] at CA KA qm2 qd1
  rw [hcb] at CB KB qm1 qd2
  clear hca hcb hc6 Ol Tl KL hx1 hx2 hx3 JRA JRB Q b3 jl hjl Ta Tb HTA HTB
  have s3 : Below w1.heap.size w1 w3 := bt B2.out B3.out
  go_wp2_with (refine wpList_load_mid_h (by kernel_rfl) 28 _ rfl b2 (o2 + 1 * 20) rfl cb _ (KB.out _ B3.out) Tryz.underlying28 rfl CB.out ?_)
  refine (qm1.out _ B3.out).mono ?_; rintro e w4 ⟨rfl, hw4⟩
  have B4 := Lib.hid (bt B3.out hw4)
  have A4 := Lib.hid (bt B2.out B4.out)
  clear hw4 i0 l1 l1' s3
  go_wp2_with (refine wpList_load_mid_h (by kernel_rfl) 28 _ rfl b1 (o1 + 1 * 20) rfl ca _ (KA.out _ A4.out) Tryz.underlying28 rfl CA.out ?_)
  refine (qm2.out _ A4.out).mono ?_; rintro e w5 ⟨rfl, hw5⟩
  have B5 := Lib.hid (bt B4.out hw5)
  have A5 := Lib.hid (bt B2.out B5.out)
  clear hw5
  go_wp2_with (refine wpList_load_mid_h (by kernel_rfl) 28 _ rfl b1 (o1 + 1 * 20) rfl ca _ (KA.out _ A5.out) Tryz.underlying28 rfl CA.out ?_)
  refine (qd1.out _ A5.out).mono ?_; rintro e w6 ⟨rfl, hw6⟩
  have B6 := Lib.hid (bt B5.out hw6)
  clear hw6
  go_wp2_with (refine wpList_load_mid_h (by kernel_rfl) 28 _ rfl b2 (o2 + 1 * 20) rfl cb _ (KB.out _ B6.out) Tryz.underlying28 rfl CB.out ?_)
  refine (qd2.out _ B6.out).mono ?_; rintro e w7 ⟨rfl, hw7⟩
  have B7 := Lib.hid (bt B6.out hw7)
  clear hw7
  go_wp2_with (fail)
  refine (qe.out _ B7.out).mono ?_; rintro e w8 ⟨v8, rfl, o8, hw8⟩
  obtain ⟨A8, c8, rfl, _, _⟩ := o8.slice
  go_wp2
  go_ret
  exact ⟨rfl, bt B1.out (bt B2.out (bt B7.out hw8))⟩
end Go.Proofs.YtghmcdfmbjabnaaGreatDoor
