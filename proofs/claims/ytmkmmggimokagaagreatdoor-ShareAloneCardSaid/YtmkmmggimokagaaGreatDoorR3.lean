/- Layer 18: three jobs of the statements' probe (printed by a program of my own). Layer 18: the statements' probe. -/
import Derived.Test.YtmkmmggimokagaaGreatDoorT1
import Derived.Test.YtmkmmggimokagaaGreatDoorT2
import Derived.Test.YtmkmmggimokagaaGreatDoorHel
import Derived.Test.YtmkmmggimokagaaGreatDoorJbB
import Derived.Test.YtmkmmggimokagaaGreatDoorQ4
import Derived.Test.YtmkmmggimokagaaGreatDoorR2
import Derived.Great.BuildSlice
import Derived.Deep.DeepCutAuto
import Derived.KernelRfl
namespace Go.Proofs.YtmkmmggimokagaaGreatDoor
set_option linter.unusedVariables false
set_option linter.unusedSimpArgs false
open Go.RowKit
def th1 : Jb := ⟨1, ⟨#[97]⟩, ⟨#[117]⟩, ⟨#[120]⟩, ⟨1, [(2, 60)], 0, 0, 0⟩, 0, [], 1, false, 0, -1, 0, 0, 0, 0, 0⟩
def th2 : Jb := ⟨2, ⟨#[97]⟩, ⟨#[118]⟩, ⟨#[120]⟩, ⟨1, [(2, 60)], 0, 0, 0⟩, 0, [], 1, false, 0, -1, 0, 0, 0, 0, 0⟩
def th3 : Jb := ⟨3, ⟨#[97]⟩, ⟨#[119]⟩, ⟨#[120]⟩, ⟨1, [(2, 60)], 0, 0, 0⟩, 5, [], 1, false, 0, -1, 0, 0, 0, 0, 0⟩
theorem bs_fill3 {cs ds es : Array Value} (h : 20 = cs.size) (h2 : 20 = ds.size) (h3 : 20 = es.size) : Instr.fill (fun i => some (i * 20, 20)) ((Array.range (3 * 20)).map ((Value.agg (jbA noJ none 0 none 0)).cells[· % (Value.agg (jbA noJ none 0 none 0)).cells.size]!)) [(0, .agg cs), (1, .agg ds), (2, .agg es)] = some (cs ++ ds ++ es) := by
  obtain ⟨l⟩ := cs
  obtain ⟨m⟩ := ds
  obtain ⟨n⟩ := es
  obtain ⟨a0, a1, a2, a3, a4, a5, a6, a7, a8, a9, c0, c1, c2, c3, c4, c5, c6, c7, c8, c9, rfl⟩ := twenty (by simpa using h.symm)
  obtain ⟨d0, d1, d2, d3, d4, d5, d6, d7, d8, d9, e0, e1, e2, e3, e4, e5, e6, e7, e8, e9, rfl⟩ := twenty (by simpa using h2.symm)
  obtain ⟨f0, f1, f2, f3, f4, f5, f6, f7, f8, f9, g0, g1, g2, g3, g4, g5, g6, g7, g8, g9, rfl⟩ := twenty (by simpa using h3.symm)
  kernel_rfl
theorem list_bs3 {w : World} {ops : Array Oper} {rest : List Oper} {o : Oper} {a : Act} {Q : Exit → Act → World → Prop} {x y z : Operand} {cs ds es : Array Value}
    (hgd : o.guard = none) (ho : o.op = .buildSlice 37 3 #[(0, x), (1, y), (2, z)]) (hx : a.eval x = .agg cs) (hy : a.eval y = .agg ds) (hz : a.eval z = .agg es) (hcs : 20 = cs.size) (hds : 20 = ds.size) (hes : 20 = es.size)
    (h : wpList Tryz.prog ops Q rest (a.put o.dst (.slice (some ⟨w.heap.size, 0, none⟩) 3 3)) (w.alloc (.cells (cs ++ ds ++ es) 29))) : wpList Tryz.prog ops Q (o :: rest) a w := by
  refine wpList_plain hgd fun K hK => ?_
  obtain ⟨i0, hi0, hz0, hz1, hz2⟩ := info_parts Tryz.infoJ
  refine wp_buildSlice 37 29 3 #[(0, x), (1, y), (2, z)] ho (cs ++ ds ++ es) i0 _ Tryz.underlying37 hi0 hz0 (by rw [hz1]; decide) (by rw [hz1]; decide) ?_ (hK _ _ h)
  rw [hz1]
  simp only [List.map_toArray, List.map_cons, List.map_nil, hx, hy, hz]
  exact bs_fill3 hcs hds hes
theorem two_new (v : World) (a b : Obj) : ((v.alloc a).alloc b).heap[v.heap.size]? = some a ∧ ((v.alloc a).alloc b).heap[v.heap.size + 1]? = some b := by
  have h2 := heap_alloc_new (v.alloc a) b
  rw [World.size_alloc] at h2
  exact ⟨(Below.heap_alloc _ _ _ (by simp)).trans (heap_alloc_new v _), h2⟩
theorem set_past {v : World} {g b k : Nat} (u : Value) (h : b ≠ g) : (v.setCell ⟨g, k, none⟩ u).heap[b]? = v.heap[b]? := by
  simp only [World.setCell]
  rw [Array.getElem?_modify, if_neg (fun e => h e.symm)]
theorem km_a (v : World) (z y c : Array Value) (T : TypeId) : ((((v.alloc (.cells z T)).alloc (.cells y T)).drew.setRow v.heap.size c).setRow (v.heap.size + 1) c).heap[v.heap.size]? = some (.cells c T (0, 0)) ∧ ((((v.alloc (.cells z T)).alloc (.cells y T)).drew.setRow v.heap.size c).setRow (v.heap.size + 1) c).heap[v.heap.size + 1]? = some (.cells c T (0, 0)) ∧ Below v.heap.size v ((((v.alloc (.cells z T)).alloc (.cells y T)).drew.setRow v.heap.size c).setRow (v.heap.size + 1) c) := by
  obtain ⟨h1, h2⟩ := two_new v (.cells z T) (.cells y T)
  exact ⟨(Go.setRow_other _ _ _ _ (by omega)).trans (setRow_heap _ _ _ _ _ _ h1), setRow_heap _ _ _ _ _ _ ((Go.setRow_other _ _ _ _ (by omega)).trans h2), below_row (below_row (below_drew (((Below.refl _ _).alloc (Nat.le_refl _) _).alloc (by simp) _)) (Nat.le_refl _) _) (by omega) _⟩
theorem km_b (v : World) (z y c : Array Value) (T : TypeId) : ((((v.alloc (.cells z T)).alloc (.cells y T)).drew.setRow (v.heap.size + 1) c).setRow v.heap.size c).heap[v.heap.size]? = some (.cells c T (0, 0)) ∧ ((((v.alloc (.cells z T)).alloc (.cells y T)).drew.setRow (v.heap.size + 1) c).setRow v.heap.size c).heap[v.heap.size + 1]? = some (.cells c T (0, 0)) ∧ Below v.heap.size v ((((v.alloc (.cells z T)).alloc (.cells y T)).drew.setRow (v.heap.size + 1) c).setRow v.heap.size c) := by
  obtain ⟨h1, h2⟩ := two_new v (.cells z T) (.cells y T)
  exact ⟨setRow_heap _ _ _ _ _ _ ((Go.setRow_other _ _ _ _ (by omega)).trans h1), (Go.setRow_other _ _ _ _ (by omega)).trans (setRow_heap _ _ _ _ _ _ h2), below_row (below_row (below_drew (((Below.refl _ _).alloc (Nat.le_refl _) _).alloc (by simp) _)) (by omega) _) (Nat.le_refl _) _⟩
theorem cat3 (a b c : JR) : (jrC a).toArray ++ (jrC b).toArray ++ (jrC c).toArray = (recs jrC [a, b, c]).toArray := by simp [recs]
theorem th_all {q : JR} {A : Option Addr} (hq : q ∈ ([⟨th1, A, 1, none, 0⟩, ⟨th2, A, 1, none, 0⟩, ⟨th3, A, 1, none, 0⟩] : List JR)) : (q.A = A ∧ q.c = 1 ∧ q.A2 = none ∧ q.c2 = 0) ∧ q.x.shape.alts = [(2, 60)] ∧ q.x.after = [] ∧ q.x.name.size ≤ 1 ∧ q.x.user.size ≤ 1 ∧ q.x.account.size ≤ 1 ∧ q.x.nodes = 0 := by
  simp only [List.mem_cons, List.not_mem_nil, or_false] at hq
  rcases hq with rfl | rfl | rfl <;> exact ⟨⟨rfl, rfl, rfl, rfl⟩, rfl, rfl, Nat.le_refl 1, Nat.le_refl 1, Nat.le_refl 1, rfl⟩
theorem th_at {w : World} {B : Nat} {A : Option Addr} {q : JR} (hA : Reads w B 2 A 1 (recs prC [((2 : Int), (60 : Int))])) (h0 : q.A = A ∧ q.c = 1 ∧ q.A2 = none ∧ q.c2 = 0) (f1 : q.x.shape.alts = [(2, 60)]) (f2 : q.x.after = []) (f3 : q.x.name.size ≤ 1) (f4 : q.x.user.size ≤ 1) (f5 : q.x.account.size ≤ 1) (f6 : q.x.nodes = 0) : JrAt w B q := by
  obtain ⟨x, A0, c, A2, c2⟩ := q
  obtain ⟨rfl, rfl, rfl, rfl⟩ := h0
  dsimp only at f1 f2 f3 f4 f5 f6
  refine ⟨⟨?_, ?_, ?_, ?_, ?_, ?_⟩, ⟨?_, ?_, ?_⟩, ?_⟩ <;> dsimp only
  · rw [f1]; exact hA
  · rw [f2]; exact Reads.none_
  · rw [f1]; decide
  · rw [f2]; decide
  · rw [f1]; decide
  · rw [f2]; decide
  · exact Nat.le_trans f3 (by decide)
  · exact Nat.le_trans f4 (by decide)
  · exact Nat.le_trans f5 (by decide)
  · rw [f6, M64_is]; decide
theorem three_tab (V : World) (A : Option Addr) (hA : Reads V V.heap.size 2 A 1 (recs prC [((2 : Int), (60 : Int))])) : ∃ rs, jobs rs = [th1, th2, th3] ∧ TbAt (V.alloc (.cells ((jrC ⟨th1, A, 1, none, 0⟩).toArray ++ (jrC ⟨th2, A, 1, none, 0⟩).toArray ++ (jrC ⟨th3, A, 1, none, 0⟩).toArray) 29)) (V.alloc (.cells ((jrC ⟨th1, A, 1, none, 0⟩).toArray ++ (jrC ⟨th2, A, 1, none, 0⟩).toArray ++ (jrC ⟨th3, A, 1, none, 0⟩).toArray) 29)).heap.size (some ⟨V.heap.size, 0, none⟩) 3 rs := by
  rw [cat3]
  refine ⟨[⟨th1, A, 1, none, 0⟩, ⟨th2, A, 1, none, 0⟩, ⟨th3, A, 1, none, 0⟩], rfl, ?_, fun q hq => ?_, by omega⟩
  · exact (Reads.madeN V (recs jrC [⟨th1, A, 1, none, 0⟩, ⟨th2, A, 1, none, 0⟩, ⟨th3, A, 1, none, 0⟩]) 29 (n := 3) (size := 20) (recs_len jrC_len _)).more (by simp)
  · obtain ⟨h0, f1, f2, f3, f4, f5, f6⟩ := th_all hq
    exact th_at ((hA.below bx0).more bx0.size) h0 f1 f2 f3 f4 f5 f6
set_option maxHeartbeats 4000000 in
set_option maxRecDepth 100000 in
theorem three_any (w : World) : Calls Tryz.prog 15 #[] w fun e w' => ∃ R rs, e = .returned (.slice R 3 3) ∧ jobs rs = [th1, th2, th3] ∧ Hid (TbAt w' w'.heap.size R 3 rs) ∧ Below w.heap.size w w' := by
  have H1 := boxed (w.alloc (.cells #[.int .i64 2, .int .i64 60] 66)) (#[.int .i64 1, .string ⟨#[97]⟩, .string ⟨#[117]⟩, .string ⟨#[120]⟩, .int .i64 1, .slice (some ⟨w.heap.size, 0, none⟩) 1 1, .int .i64 0, .int .i64 0, .int .i64 0, .int .i64 0, .slice none 0 0, .int .i64 1, .bool false, .int .i64 0, .int .i64 (-1), .int .i64 0, .int .i64 0, .int .i64 0, .int .u64 0, .int .i64 0])
  simp only [World.size_alloc] at H1
  obtain ⟨W1, hs1, j1, b1, z1⟩ := H1
  have HS1 := Lib.hid hs1
  have N1 : Hid (∀ z, ((w.alloc (.cells #[.int .i64 2, .int .i64 60] 66)).alloc (.cells z 29)).heap[w.heap.size + 1]? = some (.cells z 29 (0, 0))) := Lib.hid (fun z => (two_new w _ _).2)
  have I0 : Hid ((Tryz.prog.info? 29).map (·.size) = some (#[.int .i64 1, .string ⟨#[97]⟩, .string ⟨#[117]⟩, .string ⟨#[120]⟩, .int .i64 1, .slice (some ⟨w.heap.size, 0, none⟩) 1 1, .int .i64 0, .int .i64 0, .int .i64 0, .int .i64 0, .slice none 0 0, .int .i64 1, .bool false, .int .i64 0, .int .i64 (-1), .int .i64 0, .int .i64 0, .int .i64 0, .int .u64 0, .int .i64 0] : Array Value).size) := by show _ = _; kernel_rfl
  have A0 : Hid ((#[.int .i64 1, .string ⟨#[97]⟩, .string ⟨#[117]⟩, .string ⟨#[120]⟩, .int .i64 1, .slice (some ⟨w.heap.size, 0, none⟩) 1 1, .int .i64 0, .int .i64 0, .int .i64 0, .int .i64 0, .slice none 0 0, .int .i64 1, .bool false, .int .i64 0, .int .i64 (-1), .int .i64 0, .int .i64 0, .int .i64 0, .int .u64 0, .int .i64 0] : Array Value).all (·.oneCell') = true) := by show _ = _; rw [List.all_toArray]; rfl
  clear hs1
  go_enter Tryz.func15, Tryz.ntmps15
  go_upto_region 2 with (refine wpList_store_row rfl 29 _ _ rfl (w.heap.size + 1) (#[.int .i64 1, .string ⟨#[97]⟩, .string ⟨#[117]⟩, .string ⟨#[120]⟩, .int .i64 1, .slice (some ⟨w.heap.size, 0, none⟩) 1 1, .int .i64 0, .int .i64 0, .int .i64 0, .int .i64 0, .slice none 0 0, .int .i64 1, .bool false, .int .i64 0, .int .i64 (-1), .int .i64 0, .int .i64 0, .int .i64 0, .int .u64 0, .int .i64 0]) rfl rfl 29 _ (N1.out _) I0.out (by show 20 = _; rfl) A0.out ?_; rw [HS1.out])
  simp only [Act.put]
  clear N1 HS1 I0 A0
  obtain ⟨c1, hc1⟩ : ∃ c, Hid ((#[.int .i64 1, .string ⟨#[97]⟩, .string ⟨#[117]⟩, .string ⟨#[120]⟩, .int .i64 1, .slice (some ⟨w.heap.size, 0, none⟩) 1 1, .int .i64 0, .int .i64 0, .int .i64 0, .int .i64 0, .slice none 0 0, .int .i64 1, .bool false, .int .i64 0, .int .i64 (-1), .int .i64 0, .int .i64 0, .int .i64 0, .int .u64 0, .int .i64 0] : Array Value) = c) := ⟨_, Lib.hid rfl⟩
  rw [hc1.out] at j1
  have J1 := Lib.hid j1
  have B1 := Lib.hid b1
  have e1 : c1 = (jrC ⟨th1, some ⟨w.heap.size, 0, none⟩, 1, none, 0⟩).toArray := by rw [← hc1.out]; rfl
  have I1 : Hid ((Tryz.prog.info? 29).map (·.size) = some c1.size) := by rw [e1]; exact jrA_info _
  have H20 : Hid (20 = c1.size) := by rw [e1]; exact jrA_20 _
  have A1 : Hid (c1.all (·.oneCell') = true) := by rw [e1]; exact jrA_all _
  have k0 : c1[0]? = some (.int .i64 1) := by rw [e1]; rfl
  have k2 : c1[2]? = some (.string ⟨#[117]⟩) := by rw [e1]; rfl
  have k9 : c1[9]? = some (.int .i64 0) := by rw [e1]; rfl
  have E1 := Lib.hid e1
  clear e1 hc1 j1 b1
  go_cut [2, 3] (fun p q wx => ∃ bk bm, p = .pointer (some ⟨bk, 0, none⟩) ∧ q = .pointer (some ⟨bm, 0, none⟩) ∧ bk ≠ bm ∧ W1.heap.size ≤ bk ∧ W1.heap.size ≤ bm ∧ Hid (wx.heap[bk]? = some (.cells c1 29 (0, 0))) ∧ Hid (wx.heap[bm]? = some (.cells c1 29 (0, 0))) ∧ Hid (Below W1.heap.size W1 wx))
  case first =>
    refine wp_region_held_drew (S := (fun w' => (∀ b o, b < W1.heap.size → w'.cell? ⟨b, o, none⟩ = W1.cell? ⟨b, o, none⟩) ∧ Below W1.heap.size W1 w')) (by kernel_rfl) ?_ (fun hHeld => ?_)
    · (try dsimp only); (first | assumption | exact hk_drew | exact hk_call (by assumption) (by assumption) | exact hk_mk (by assumption) | (refine hk_alloc (by assumption) _) | (refine hk_row (by assumption) (by first | exact Nat.le_refl _ | exact hk_size (by assumption) | omega | (simp; done) | (simp; omega)) _) | (refine hk_set (by assumption) (by first | exact Nat.le_refl _ | exact hk_size (by assumption) | omega | (simp; done) | (simp; omega)) _))
    first
      | (refine wpAnyH_take (i := 0) (oi := ⟨_, _, _, _, _, _⟩) (v := (.agg c1)) rfl (by kernel_rfl) (by kernel_rfl) (by kernel_rfl) (fun _ _ _ h => h) (Or.inl ⟨by rfl, yl_row 29 _ (by rfl) (w.heap.size + 1) (by rfl) 29 _ (0, 0) _ (fun w_ h_ => hk_block h_ J1.out) Tryz.underlying29 rfl I1.out⟩) (by assumption) ?_)
      | (refine wpAnyH_take (i := 0) (oi := ⟨_, _, _, _, _, _⟩) (v := ?v_1) rfl (by kernel_rfl) (by kernel_rfl) (by kernel_rfl) (fun _ _ _ h => h) (Or.inl ⟨by rfl, ?hy_1⟩) (by assumption) ?r_1; case hy_1 => (intro w_ hS_; (try dsimp only at hS_); go_simp; try with_reducible rfl))
    try simp only [Act.put, List.setIfInBounds_toArray, List.set_cons_zero, List.set_cons_succ]
    first
      | (refine wpAnyH_take (i := 1) (oi := ⟨_, _, _, _, _, _⟩) (v := (.agg c1)) rfl (by kernel_rfl) (by kernel_rfl) (by kernel_rfl) (fun _ _ _ h => h) (Or.inl ⟨by rfl, yl_row 29 _ (by rfl) (w.heap.size + 1) (by rfl) 29 _ (0, 0) _ (fun w_ h_ => hk_block h_ J1.out) Tryz.underlying29 rfl I1.out⟩) (by assumption) ?_)
      | (refine wpAnyH_take (i := 1) (oi := ⟨_, _, _, _, _, _⟩) (v := ?v_2) rfl (by kernel_rfl) (by kernel_rfl) (by kernel_rfl) (fun _ _ _ h => h) (Or.inl ⟨by rfl, ?hy_2⟩) (by assumption) ?r_2; case hy_2 => (intro w_ hS_; (try dsimp only at hS_); go_simp; try with_reducible rfl))
    try simp only [Act.put, List.setIfInBounds_toArray, List.set_cons_zero, List.set_cons_succ]
    refine wpAnyH_ready (rs := [2, 3]) (by kernel_rfl) (by simp) ?_
    refine AllReadyH.cons (o := ⟨_, _, _, _, _, _⟩) rfl (fun K hK => ?_) ?_
    · go_simp
      refine hK.out _ _ ?_ (fun hHeld => ?_)
      · (try dsimp only); (first | assumption | (refine hk_alloc (by assumption) _))
      clear hK K
      try simp only [Act.put, List.setIfInBounds_toArray, List.set_cons_zero, List.set_cons_succ]
      refine wpAnyH_ready (rs := [3]) (by kernel_rfl) (by simp) ?_
      refine AllReadyH.cons (o := ⟨_, _, _, _, _, _⟩) rfl (fun K hK => ?_) AllReadyH.nil
      go_simp
      refine hK.out _ _ ?_ (fun hHeld => ?_)
      · (try dsimp only); (first | assumption | (refine hk_alloc (by assumption) _))
      clear hK K
      try simp only [Act.put, List.setIfInBounds_toArray, List.set_cons_zero, List.set_cons_succ]
      refine wpAnyH_ready (rs := [4]) (by kernel_rfl) (by simp) ?_
      refine AllReadyH.cons (o := ⟨_, _, _, _, _, _⟩) rfl (fun K hK => ?_) AllReadyH.nil
      first | (rw [if_pos (by rfl)]; first | (refine wp_store_row 29 _ _ rfl _ c1 rfl rfl 29 _ (two_new _ _ _).1 I1.out (by show 20 = _; exact H20.out) A1.out ?_) | (refine wp_store_row 29 _ _ rfl _ c1 rfl rfl 29 _ (two_new _ _ _).2 I1.out (by show 20 = _; exact H20.out) A1.out ?_) | (refine wp_store_row 29 _ _ rfl _ c1 rfl rfl 29 _ ((Go.setRow_other _ _ _ _ (by omega)).trans (two_new _ _ _).2) I1.out (by show 20 = _; exact H20.out) A1.out ?_) | (refine wp_store_row 29 _ _ rfl _ c1 rfl rfl 29 _ ((Go.setRow_other _ _ _ _ (by omega)).trans (two_new _ _ _).1) I1.out (by show 20 = _; exact H20.out) A1.out ?_)) | go_simp
      refine hK.out _ _ ?_ (fun hHeld => ?_)
      · (try dsimp only); (first | assumption | (refine hk_alloc (hk_alloc ?_ _) _; assumption) | (refine hk_alloc (hk_set (by assumption) (by first | exact Nat.le_refl _ | exact hk_size (by assumption) | omega | (simp; done) | (simp; omega)) _) _) | (refine hk_row (by assumption) (by first | exact Nat.le_refl _ | exact hk_size (by assumption) | omega | (simp; done) | (simp; omega)) _) | (refine hk_set (by assumption) (by first | exact Nat.le_refl _ | exact hk_size (by assumption) | omega | (simp; done) | (simp; omega)) _))
      clear hK K
      try simp only [Act.put, List.setIfInBounds_toArray, List.set_cons_zero, List.set_cons_succ]
      refine wpAnyH_ready (rs := [5]) (by kernel_rfl) (by simp) ?_
      refine AllReadyH.cons (o := ⟨_, _, _, _, _, _⟩) rfl (fun K hK => ?_) AllReadyH.nil
      first | (rw [if_pos (by rfl)]; first | (refine wp_store_row 29 _ _ rfl _ c1 rfl rfl 29 _ (two_new _ _ _).1 I1.out (by show 20 = _; exact H20.out) A1.out ?_) | (refine wp_store_row 29 _ _ rfl _ c1 rfl rfl 29 _ (two_new _ _ _).2 I1.out (by show 20 = _; exact H20.out) A1.out ?_) | (refine wp_store_row 29 _ _ rfl _ c1 rfl rfl 29 _ ((Go.setRow_other _ _ _ _ (by omega)).trans (two_new _ _ _).2) I1.out (by show 20 = _; exact H20.out) A1.out ?_) | (refine wp_store_row 29 _ _ rfl _ c1 rfl rfl 29 _ ((Go.setRow_other _ _ _ _ (by omega)).trans (two_new _ _ _).1) I1.out (by show 20 = _; exact H20.out) A1.out ?_)) | go_simp
      refine hK.out _ _ ?_ (fun hHeld => ?_)
      · (try dsimp only); (first | assumption | (refine hk_alloc (hk_alloc ?_ _) _; assumption) | (refine hk_alloc (hk_set (by assumption) (by first | exact Nat.le_refl _ | exact hk_size (by assumption) | omega | (simp; done) | (simp; omega)) _) _) | (refine hk_row (by assumption) (by first | exact Nat.le_refl _ | exact hk_size (by assumption) | omega | (simp; done) | (simp; omega)) _) | (refine hk_set (by assumption) (by first | exact Nat.le_refl _ | exact hk_size (by assumption) | omega | (simp; done) | (simp; omega)) _))
      clear hK K
      try simp only [Act.put, List.setIfInBounds_toArray, List.set_cons_zero, List.set_cons_succ]
      refine wpAnyH_done (by kernel_rfl) ?_ _
      (go_wp2_with (fail); go_meet; first | exact ⟨_, _, rfl, rfl, Nat.ne_of_lt (Nat.lt_succ_self _), Nat.le_refl _, Nat.le_succ _, (km_a W1 _ _ c1 _).1, (km_a W1 _ _ c1 _).2.1, (km_a W1 _ _ c1 _).2.2⟩ | exact ⟨_, _, rfl, rfl, Nat.ne_of_gt (Nat.lt_succ_self _), Nat.le_succ _, Nat.le_refl _, (km_b W1 _ _ c1 _).2.1, (km_b W1 _ _ c1 _).1, (km_b W1 _ _ c1 _).2.2⟩)
    refine AllReadyH.cons (o := ⟨_, _, _, _, _, _⟩) rfl (fun K hK => ?_) AllReadyH.nil
    go_simp
    refine hK.out _ _ ?_ (fun hHeld => ?_)
    · (try dsimp only); (first | assumption | (refine hk_alloc (by assumption) _))
    clear hK K
    try simp only [Act.put, List.setIfInBounds_toArray, List.set_cons_zero, List.set_cons_succ]
    refine wpAnyH_ready (rs := [2]) (by kernel_rfl) (by simp) ?_
    refine AllReadyH.cons (o := ⟨_, _, _, _, _, _⟩) rfl (fun K hK => ?_) AllReadyH.nil
    go_simp
    refine hK.out _ _ ?_ (fun hHeld => ?_)
    · (try dsimp only); (first | assumption | (refine hk_alloc (by assumption) _))
    clear hK K
    try simp only [Act.put, List.setIfInBounds_toArray, List.set_cons_zero, List.set_cons_succ]
    refine wpAnyH_ready (rs := [4]) (by kernel_rfl) (by simp) ?_
    refine AllReadyH.cons (o := ⟨_, _, _, _, _, _⟩) rfl (fun K hK => ?_) AllReadyH.nil
    first | (rw [if_pos (by rfl)]; first | (refine wp_store_row 29 _ _ rfl _ c1 rfl rfl 29 _ (two_new _ _ _).1 I1.out (by show 20 = _; exact H20.out) A1.out ?_) | (refine wp_store_row 29 _ _ rfl _ c1 rfl rfl 29 _ (two_new _ _ _).2 I1.out (by show 20 = _; exact H20.out) A1.out ?_) | (refine wp_store_row 29 _ _ rfl _ c1 rfl rfl 29 _ ((Go.setRow_other _ _ _ _ (by omega)).trans (two_new _ _ _).2) I1.out (by show 20 = _; exact H20.out) A1.out ?_) | (refine wp_store_row 29 _ _ rfl _ c1 rfl rfl 29 _ ((Go.setRow_other _ _ _ _ (by omega)).trans (two_new _ _ _).1) I1.out (by show 20 = _; exact H20.out) A1.out ?_)) | go_simp
    refine hK.out _ _ ?_ (fun hHeld => ?_)
    · (try dsimp only); (first | assumption | (refine hk_alloc (hk_alloc ?_ _) _; assumption) | (refine hk_alloc (hk_set (by assumption) (by first | exact Nat.le_refl _ | exact hk_size (by assumption) | omega | (simp; done) | (simp; omega)) _) _) | (refine hk_row (by assumption) (by first | exact Nat.le_refl _ | exact hk_size (by assumption) | omega | (simp; done) | (simp; omega)) _) | (refine hk_set (by assumption) (by first | exact Nat.le_refl _ | exact hk_size (by assumption) | omega | (simp; done) | (simp; omega)) _))
    clear hK K
    try simp only [Act.put, List.setIfInBounds_toArray, List.set_cons_zero, List.set_cons_succ]
    refine wpAnyH_ready (rs := [5]) (by kernel_rfl) (by simp) ?_
    refine AllReadyH.cons (o := ⟨_, _, _, _, _, _⟩) rfl (fun K hK => ?_) AllReadyH.nil
    first | (rw [if_pos (by rfl)]; first | (refine wp_store_row 29 _ _ rfl _ c1 rfl rfl 29 _ (two_new _ _ _).1 I1.out (by show 20 = _; exact H20.out) A1.out ?_) | (refine wp_store_row 29 _ _ rfl _ c1 rfl rfl 29 _ (two_new _ _ _).2 I1.out (by show 20 = _; exact H20.out) A1.out ?_) | (refine wp_store_row 29 _ _ rfl _ c1 rfl rfl 29 _ ((Go.setRow_other _ _ _ _ (by omega)).trans (two_new _ _ _).2) I1.out (by show 20 = _; exact H20.out) A1.out ?_) | (refine wp_store_row 29 _ _ rfl _ c1 rfl rfl 29 _ ((Go.setRow_other _ _ _ _ (by omega)).trans (two_new _ _ _).1) I1.out (by show 20 = _; exact H20.out) A1.out ?_)) | go_simp
    refine hK.out _ _ ?_ (fun hHeld => ?_)
    · (try dsimp only); (first | assumption | (refine hk_alloc (hk_alloc ?_ _) _; assumption) | (refine hk_alloc (hk_set (by assumption) (by first | exact Nat.le_refl _ | exact hk_size (by assumption) | omega | (simp; done) | (simp; omega)) _) _) | (refine hk_row (by assumption) (by first | exact Nat.le_refl _ | exact hk_size (by assumption) | omega | (simp; done) | (simp; omega)) _) | (refine hk_set (by assumption) (by first | exact Nat.le_refl _ | exact hk_size (by assumption) | omega | (simp; done) | (simp; omega)) _))
    clear hK K
    try simp only [Act.put, List.setIfInBounds_toArray, List.set_cons_zero, List.set_cons_succ]
    refine wpAnyH_done (by kernel_rfl) ?_ _
    (go_wp2_with (fail); go_meet; first | exact ⟨_, _, rfl, rfl, Nat.ne_of_lt (Nat.lt_succ_self _), Nat.le_refl _, Nat.le_succ _, (km_a W1 _ _ c1 _).1, (km_a W1 _ _ c1 _).2.1, (km_a W1 _ _ c1 _).2.2⟩ | exact ⟨_, _, rfl, rfl, Nat.ne_of_gt (Nat.lt_succ_self _), Nat.le_succ _, Nat.le_refl _, (km_b W1 _ _ c1 _).2.1, (km_b W1 _ _ c1 _).1, (km_b W1 _ _ c1 _).2.2⟩)
  case rest =>
    obtain ⟨bk, bm, rfl, rfl, hne, hk1, hm1, hk, hm, hb⟩ := hcut
    have hne2 : ¬ bm = bk := fun e => hne e.symm
    have g0 : ∀ k, wc.frozen? ⟨bk, k, none⟩ = false := fun k => by simp [World.frozen?, hk.out]
    have g1 : ∀ k, wc.frozen? ⟨bm, k, none⟩ = false := fun k => by simp [World.frozen?, hm.out]
    have x0 : wc.cell? ⟨bk, 0, none⟩ = some (.int .i64 1) := (cell_of_row _ _ 0 _ _ _ hk.out).trans k0
    have x2 : wc.cell? ⟨bk, 2, none⟩ = some (.string ⟨#[117]⟩) := (cell_of_row _ _ 2 _ _ _ hk.out).trans k2
    have y0 : wc.cell? ⟨bm, 0, none⟩ = some (.int .i64 1) := (cell_of_row _ _ 0 _ _ _ hm.out).trans k0
    have y2 : wc.cell? ⟨bm, 2, none⟩ = some (.string ⟨#[117]⟩) := (cell_of_row _ _ 2 _ _ _ hm.out).trans k2
    have y9 : wc.cell? ⟨bm, 9, none⟩ = some (.int .i64 0) := (cell_of_row _ _ 9 _ _ _ hm.out).trans k9
    go_upto_region 5 with (fail)
    obtain ⟨V, hV⟩ : ∃ V, Hid ((((((wc.setCell ⟨bk, 0, none⟩ (.int .i64 2)).setCell ⟨bk, 2, none⟩ (.string ⟨#[118]⟩)).setCell ⟨bm, 0, none⟩ (.int .i64 3)).setCell ⟨bm, 2, none⟩ (.string ⟨#[119]⟩)).setCell ⟨bm, 9, none⟩ (.int .i64 5)) = V) := ⟨_, Lib.hid rfl⟩
    rw [hV.out]
    have K2 : Hid (V.heap[bk]? = some (.cells (jrC ⟨th2, some ⟨w.heap.size, 0, none⟩, 1, none, 0⟩).toArray 29 (0, 0))) := by
      show _ = _
      have h := (set_past (k := 9) (.int .i64 5) hne).trans ((set_past (k := 2) (.string ⟨#[119]⟩) hne).trans ((set_past (k := 0) (.int .i64 3) hne).trans (setCell_blk (k := 2) (a := .string ⟨#[118]⟩) (setCell_blk (k := 0) (a := .int .i64 2) hk.out))))
      rw [← hV.out]
      refine h.trans ?_
      rw [E1.out]; rfl
    have K3 : Hid (V.heap[bm]? = some (.cells (jrC ⟨th3, some ⟨w.heap.size, 0, none⟩, 1, none, 0⟩).toArray 29 (0, 0))) := by
      show _ = _
      have h := setCell_blk (k := 9) (a := .int .i64 5) (setCell_blk (k := 2) (a := .string ⟨#[119]⟩) (setCell_blk (k := 0) (a := .int .i64 3) ((set_past (k := 2) (.string ⟨#[118]⟩) hne2).trans ((set_past (k := 0) (.int .i64 2) hne2).trans hm.out))))
      rw [← hV.out]
      refine h.trans ?_
      rw [E1.out]; rfl
    have BV : Hid (Below W1.heap.size W1 V) := by
      rw [← hV.out]
      exact ((((hb.out.setCell (p := ⟨bk, 0, none⟩) hk1 _).setCell (p := ⟨bk, 2, none⟩) hk1 _).setCell (p := ⟨bm, 0, none⟩) hm1 _).setCell (p := ⟨bm, 2, none⟩) hm1 _).setCell (p := ⟨bm, 9, none⟩) hm1 _
    have K1 : Hid (V.heap[w.heap.size + 1]? = some (.cells c1 29 (0, 0))) := (BV.out.block _ z1).trans J1.out
    have HR : Hid (∃ rs, jobs rs = [th1, th2, th3] ∧ Hid (TbAt (V.alloc (.cells (c1 ++ (jrC ⟨th2, some ⟨w.heap.size, 0, none⟩, 1, none, 0⟩).toArray ++ (jrC ⟨th3, some ⟨w.heap.size, 0, none⟩, 1, none, 0⟩).toArray) 29)) (V.alloc (.cells (c1 ++ (jrC ⟨th2, some ⟨w.heap.size, 0, none⟩, 1, none, 0⟩).toArray ++ (jrC ⟨th3, some ⟨w.heap.size, 0, none⟩, 1, none, 0⟩).toArray) 29)).heap.size (some ⟨V.heap.size, 0, none⟩) 3 rs) ∧ Below w.heap.size w (V.alloc (.cells (c1 ++ (jrC ⟨th2, some ⟨w.heap.size, 0, none⟩, 1, none, 0⟩).toArray ++ (jrC ⟨th3, some ⟨w.heap.size, 0, none⟩, 1, none, 0⟩).toArray) 29))) := by
      show ∃ _, _
      have hal : Reads (w.alloc (.cells #[.int .i64 2, .int .i64 60] 66)) (w.heap.size + 1) 2 (some ⟨w.heap.size, 0, none⟩) 1 (recs prC [((2 : Int), (60 : Int))]) := Reads.madeRec (enc := prC) w ((2 : Int), (60 : Int)) 66 rfl
      have hz1 := B1.out.size
      rw [World.size_alloc] at hz1
      have bA : Below (w.heap.size + 1) (w.alloc (.cells #[.int .i64 2, .int .i64 60] 66)) V := (B1.out.mono (by simp)).trans (BV.out.mono hz1)
      have hzV := bA.size
      rw [World.size_alloc] at hzV
      rw [E1.out]
      obtain ⟨rs, h1, h2⟩ := three_tab V (some ⟨w.heap.size, 0, none⟩) ((hal.below bA).more hzV)
      exact ⟨rs, h1, Lib.hid h2, (((Below.refl w.heap.size w).alloc (Nat.le_refl _) _).trans (bA.mono (by omega))).trans (bx0.mono (by omega))⟩
    have I2 := Lib.hid (jrA_info ⟨th2, some ⟨w.heap.size, 0, none⟩, 1, none, 0⟩)
    have I3 := Lib.hid (jrA_info ⟨th3, some ⟨w.heap.size, 0, none⟩, 1, none, 0⟩)
    have L2 := Lib.hid (jrA_20 ⟨th2, some ⟨w.heap.size, 0, none⟩, 1, none, 0⟩)
    have L3 := Lib.hid (jrA_20 ⟨th3, some ⟨w.heap.size, 0, none⟩, 1, none, 0⟩)
    obtain ⟨c2, hc2⟩ : ∃ c, (jrC ⟨th2, some ⟨w.heap.size, 0, none⟩, 1, none, 0⟩).toArray = c := ⟨_, rfl⟩
    obtain ⟨c3, hc3⟩ : ∃ c, (jrC ⟨th3, some ⟨w.heap.size, 0, none⟩, 1, none, 0⟩).toArray = c := ⟨_, rfl⟩
    rw [hc2] at K2 HR I2 L2
    rw [hc3] at K3 HR I3 L3
    simp only [Array.append_assoc] at HR
    clear hc2 hc3 x0 x2 y0 y2 y9 g0 g1 hV hk hm hb E1 A1 J1 B1 BV k0 k2 k9
    go_wp2_with (first | (refine wpList_load_row rfl 29 _ rfl (w.heap.size + 1) rfl 29 _ (0, 0) _ K1.out Tryz.underlying29 rfl I1.out ?_) | (refine wpList_load_row rfl 29 _ rfl (bk) rfl 29 _ (0, 0) _ K2.out Tryz.underlying29 rfl I2.out ?_) | (refine wpList_load_row rfl 29 _ rfl (bm) rfl 29 _ (0, 0) _ K3.out Tryz.underlying29 rfl I3.out ?_) | (refine list_bs3 rfl rfl rfl rfl rfl H20.out L2.out L3.out ?_))
    go_ret
    obtain ⟨rs, r1, r2, r3⟩ := HR.out
    exact ⟨_, rs, rfl, r1, r2, r3⟩
end Go.Proofs.YtmkmmggimokagaaGreatDoor
namespace Go.Proofs.YtmkmmggimokagaaGreatDoor
set_option linter.unusedVariables false
set_option linter.unusedSimpArgs false
open Go.RowKit
def uX : U := ⟨⟨#[117]⟩, ⟨#[120]⟩, 5, 5⟩
theorem ord_is : orderP (shU [uX]) [th1, th2, th3] [1, 2, 3, 9] = [3, 2, 1] := by kernel_rfl
theorem ah_21 : aheadP (shU [uX]) th2 th1 = true := by kernel_rfl
theorem ah_12 : aheadP (shU []) th1 th2 = true := by kernel_rfl
theorem tab_three : tabB [th1, th2, th3] = true := by kernel_rfl
/-- the first two of three jobs, and what later worlds read of them -/
theorem three_rows (w : World) : Calls Tryz.prog 15 #[] w fun e w' => ∃ b o r s, e = .returned (.slice (some ⟨b, o, none⟩) 3 3) ∧ r.x = th1 ∧ s.x = th2 ∧ Hid (∀ v, Below w'.heap.size w' v → v.rangeAt b (o + 0) (jrC r)) ∧ Hid (∀ v, Below w'.heap.size w' v → v.rangeAt b (o + 20) (jrC s)) ∧ Below w.heap.size w w' := by
  refine (three_any w).mono ?_
  rintro e w' ⟨R, rs, rfl, hj, T, hb⟩
  obtain ⟨b, o, r, rfl, _, hx, KR, _⟩ := T.out.elem (k := 0) (by omega)
  obtain ⟨b2, o2, s, e2, _, hx2, KS, _⟩ := T.out.elem (k := 1) (by omega)
  simp only [Option.some.injEq, Addr.mk.injEq, and_true] at e2
  obtain ⟨rfl, rfl⟩ := e2
  have h1 := jobs_at hx.out
  have h2 := jobs_at hx2.out
  rw [hj] at h1 h2
  exact ⟨b, o, r, s, rfl, (Option.some.inj h1).symm, (Option.some.inj h2).symm, Lib.hid (fun v hv => by have := range_later KR.out hv; rwa [Nat.zero_mul] at this), Lib.hid (fun v hv => by have := range_later KS.out hv; rwa [Nat.one_mul] at this), hb⟩
set_option maxHeartbeats 4000000 in
set_option maxRecDepth 100000 in
theorem awake18_any (w : World) : Calls Tryz.prog 7 #[] w fun e w' => e = .returned (.bool true) ∧ Below w.heap.size w w' := by
  have hu := Reads.madeRec (enc := ucells) w uX 48 rfl
  have bU : Below w.heap.size w (w.alloc (.cells (ucells uX).toArray 48)) := bx0
  have hq := Lib.hid (fun (rs : List JR) R v (hj : jobs rs = [th1, th2, th3]) (ht : TbAt v v.heap.size R 3 rs) (hv : Below (w.alloc (.cells (ucells uX).toArray 48)).heap.size (w.alloc (.cells (ucells uX).toArray 48)) v) => (by
    have hi := Reads.madeN v (ints [1, 2, 3, 9]) 3 (n := 4) (size := 1) rfl
    have hz := hv.size
    rw [World.size_alloc] at hz
    have q := order_yes [uX] (some ⟨w.heap.size, 0, none⟩) 1 1 rs R 3 3 (v.heap.size + 1) [1, 2, 3, 9] (some ⟨v.heap.size, 0, none⟩) 4 4 (v.alloc (.cells (ints [1, 2, 3, 9]).toArray 3)) ((ht.below bx0).more (by omega)) (by simp) (by rw [hj]; exact tab_three) (((hu.below (hv.mono (by simp))).below (bx0.mono hz)).more (by omega)) (by decide) hi (by decide)
    rw [hj, ord_is] at q
    exact q : Calls Tryz.prog 11 #[.slice R 3 3, .slice (some ⟨w.heap.size, 0, none⟩) 1 1, .slice (some ⟨v.heap.size, 0, none⟩) 4 4] (v.alloc (.cells #[.int .i64 1, .int .i64 2, .int .i64 3, .int .i64 9] 3)) (RetOr (v.alloc (.cells #[.int .i64 1, .int .i64 2, .int .i64 3, .int .i64 9] 3)) [3, 2, 1])))
  have qa := Lib.hid (fun (r s : JR) v (hr : r.x = th1) (hs : s.x = th2) (hv : Below (w.alloc (.cells (ucells uX).toArray 48)).heap.size (w.alloc (.cells (ucells uX).toArray 48)) v) => (by
    have hz := hv.size
    rw [World.size_alloc] at hz
    have q := ahead_any (some ⟨w.heap.size, 0, none⟩) 1 1 (w.heap.size + 1) [uX] s r v (by decide) (hu.below (hv.mono (by simp))) hz
    rw [hr, hs, ah_21] at q
    exact q : Calls Tryz.prog 8 #[.slice (some ⟨w.heap.size, 0, none⟩) 1 1, .agg (jrC s).toArray, .agg (jrC r).toArray] v fun e w' => e = .returned (.bool true) ∧ Below v.heap.size v w'))
  have qn := Lib.hid (fun (r s : JR) v (hr : r.x = th1) (hs : s.x = th2) => (by
    have q := ahead_any none 0 0 0 [] r s v (by decide) Reads.none_ (Nat.zero_le _)
    rw [hr, hs, ah_12] at q
    exact q : Calls Tryz.prog 8 #[.slice none 0 0, .agg (jrC r).toArray, .agg (jrC s).toArray] v fun e w' => e = .returned (.bool true) ∧ Below v.heap.size v w'))
  obtain ⟨W0, hW0⟩ : ∃ W, Hid (w.alloc (.cells (ucells uX).toArray 48) = W) := ⟨_, Lib.hid rfl⟩
  have hz0 : W0.heap.size = w.heap.size + 1 := by rw [← hW0.out]; simp
  rw [hW0.out] at bU hq qa
  have B0 := Lib.hid bU
  have HZ := Lib.hid hz0
  have hW1 : Hid (w.alloc (.cells #[.string ⟨#[117]⟩, .string ⟨#[120]⟩, .int .i64 5, .int .i64 5] 48) = W0) := hW0
  clear hu bU hz0 hW0
  obtain ⟨g, hg⟩ : ∃ g, Hid (w.heap.size = g) := ⟨_, Lib.hid rfl⟩
  go_enter Tryz.func7, Tryz.ntmps7
  go_upto_region 2 with (fail)
  rw [hW1.out]
  rw [hg.out] at hq qa ⊢
  go_wp2_with (fail)
  refine (three_any _).mono ?_; rintro e w1 ⟨R, rs, rfl, hj, T, hb1⟩
  have B1 := Lib.hid hb1
  have q := Lib.hid (hq.out rs R w1 hj T.out hb1)
  clear hq hj T hb1
  go_wp2_with (fail)
  refine q.out.mono ?_; rintro e w2 ⟨v, rfl, ho, hb2⟩
  obtain ⟨g2, c2, rfl, _, hl2, _, _, hc2, _⟩ := ho.at_ (by decide)
  have B2 := Lib.hid (bt B1.out (bt bx0 hb2))
  have s0 : w2.cell? ⟨g2, 0, none⟩ = some (.int .i64 3) := hc2 0 _ rfl
  have s1 : w2.cell? ⟨g2, 1, none⟩ = some (.int .i64 2) := hc2 1 _ rfl
  have s2 : w2.cell? ⟨g2, 2, none⟩ = some (.int .i64 1) := hc2 2 _ rfl
  clear q hb2 ho hc2
  go_upto_region 3 with (fail)
  refine wp_region_held_drew (S := (fun w' => (∀ b o, b < w2.heap.size → w'.cell? ⟨b, o, none⟩ = w2.cell? ⟨b, o, none⟩) ∧ Below w2.heap.size w2 w')) (by kernel_rfl) ?_ (fun hHeld => ?_)
  · (try dsimp only); (first | assumption | exact hk_drew | exact hk_call (by assumption) (by assumption) | exact hk_mk (by assumption) | (refine hk_alloc (by assumption) _) | (refine hk_row (by assumption) (by first | exact Nat.le_refl _ | exact hk_size (by assumption) | omega | (simp; done) | (simp; omega)) _) | (refine hk_set (by assumption) (by first | exact Nat.le_refl _ | exact hk_size (by assumption) | omega | (simp; done) | (simp; omega)) _))
  refine wpAnyH_take (i := 0) (oi := ⟨_, _, _, _, _, _⟩) (v := ?v_3) rfl (by kernel_rfl) (by kernel_rfl) (by kernel_rfl) (fun _ _ _ h => h) (Or.inl ⟨by rfl, ?hy_3⟩) (by assumption) ?r_3
  case hy_3 => (intro w_ hS_; (try dsimp only at hS_); go_simp; try with_reducible rfl)
  try simp only [Act.put, List.setIfInBounds_toArray, List.set_cons_zero, List.set_cons_succ]
  refine wpAnyH_take (i := 1) (oi := ⟨_, _, _, _, _, _⟩) (v := ?v_4) rfl (by kernel_rfl) (by kernel_rfl) (by kernel_rfl) (fun _ _ _ h => h) (Or.inl ⟨by rfl, ?hy_4⟩) (by assumption) ?r_4
  case hy_4 => (intro w_ hS_; (try dsimp only at hS_); go_simp; try with_reducible rfl)
  try simp only [Act.put, List.setIfInBounds_toArray, List.set_cons_zero, List.set_cons_succ]
  refine wpAnyH_take (i := 2) (oi := ⟨_, _, _, _, _, _⟩) (v := ?v_5) rfl (by kernel_rfl) (by kernel_rfl) (by kernel_rfl) (fun _ _ _ h => h) (Or.inl ⟨by rfl, ?hy_5⟩) (by assumption) ?r_5
  case hy_5 => (intro w_ hS_; (try dsimp only at hS_); go_simp; try with_reducible rfl)
  try simp only [Act.put, List.setIfInBounds_toArray, List.set_cons_zero, List.set_cons_succ]
  refine wpAnyH_take (i := 3) (oi := ⟨_, _, _, _, _, _⟩) (v := ?v_6) rfl (by kernel_rfl) (by kernel_rfl) (by kernel_rfl) (fun _ _ _ h => h) (Or.inl ⟨by rfl, ?hy_6⟩) (by assumption) ?r_6
  case hy_6 => (intro w_ hS_; (try dsimp only at hS_); go_simp; try with_reducible rfl)
  try simp only [Act.put, List.setIfInBounds_toArray, List.set_cons_zero, List.set_cons_succ]
  refine wpAnyH_take (i := 4) (oi := ⟨_, _, _, _, _, _⟩) (v := ?v_7) rfl (by kernel_rfl) (by kernel_rfl) (by kernel_rfl) (fun _ _ _ h => h) (Or.inl ⟨by rfl, ?hy_7⟩) (by assumption) ?r_7
  case hy_7 => (intro w_ hS_; (try dsimp only at hS_); go_simp; try with_reducible rfl)
  try simp only [Act.put, List.setIfInBounds_toArray, List.set_cons_zero, List.set_cons_succ]
  refine wpAnyH_take (i := 5) (oi := ⟨_, _, _, _, _, _⟩) (v := ?v_8) rfl (by kernel_rfl) (by kernel_rfl) (by kernel_rfl) (fun _ _ _ h => h) (Or.inl ⟨by rfl, ?hy_8⟩) (by assumption) ?r_8
  case hy_8 => (intro w_ hS_; (try dsimp only at hS_); go_simp; try with_reducible rfl)
  try simp only [Act.put, List.setIfInBounds_toArray, List.set_cons_zero, List.set_cons_succ]
  refine wpAnyH_take (i := 6) (oi := ⟨_, _, _, _, _, _⟩) (v := ?v_9) rfl (by kernel_rfl) (by kernel_rfl) (by kernel_rfl) (fun _ _ _ h => h) (Or.inl ⟨by rfl, ?hy_9⟩) (by assumption) ?r_9
  case hy_9 => (intro w_ hS_; (try dsimp only at hS_); go_simp; try with_reducible rfl)
  try simp only [Act.put, List.setIfInBounds_toArray, List.set_cons_zero, List.set_cons_succ]
  refine wpAnyH_take (i := 7) (oi := ⟨_, _, _, _, _, _⟩) (v := ?v_10) rfl (by kernel_rfl) (by kernel_rfl) (by kernel_rfl) (fun _ _ _ h => h) (Or.inl ⟨by rfl, ?hy_10⟩) (by assumption) ?r_10
  case hy_10 => (intro w_ hS_; (try dsimp only at hS_); go_simp; try with_reducible rfl)
  try simp only [Act.put, List.setIfInBounds_toArray, List.set_cons_zero, List.set_cons_succ]
  refine wpAnyH_take (i := 8) (oi := ⟨_, _, _, _, _, _⟩) (v := ?v_11) rfl (by kernel_rfl) (by kernel_rfl) (by kernel_rfl) (fun _ _ _ h => h) (Or.inl ⟨by rfl, ?hy_11⟩) (by assumption) ?r_11
  case hy_11 => (intro w_ hS_; (try dsimp only at hS_); go_simp; try with_reducible rfl)
  try simp only [Act.put, List.setIfInBounds_toArray, List.set_cons_zero, List.set_cons_succ]
  refine wpAnyH_take (i := 9) (oi := ⟨_, _, _, _, _, _⟩) (v := ?v_12) rfl (by kernel_rfl) (by kernel_rfl) (by kernel_rfl) (fun _ _ _ h => h) (Or.inl ⟨by rfl, ?hy_12⟩) (by assumption) ?r_12
  case hy_12 => (intro w_ hS_; (try dsimp only at hS_); go_simp; try with_reducible rfl)
  try simp only [Act.put, List.setIfInBounds_toArray, List.set_cons_zero, List.set_cons_succ]
  refine wpAnyH_take (i := 10) (oi := ⟨_, _, _, _, _, _⟩) (v := ?v_13) rfl (by kernel_rfl) (by kernel_rfl) (by kernel_rfl) (fun _ _ _ h => h) (Or.inl ⟨by rfl, ?hy_13⟩) (by assumption) ?r_13
  case hy_13 => (intro w_ hS_; (try dsimp only at hS_); go_simp; try with_reducible rfl)
  try simp only [Act.put, List.setIfInBounds_toArray, List.set_cons_zero, List.set_cons_succ]
  refine wpAnyH_take (i := 11) (oi := ⟨_, _, _, _, _, _⟩) (v := ?v_14) rfl (by kernel_rfl) (by kernel_rfl) (by kernel_rfl) (fun _ _ _ h => h) (Or.inl ⟨by rfl, ?hy_14⟩) (by assumption) ?r_14
  case hy_14 => (intro w_ hS_; (try dsimp only at hS_); go_simp; try with_reducible rfl)
  try simp only [Act.put, List.setIfInBounds_toArray, List.set_cons_zero, List.set_cons_succ]
  refine wpAnyH_take (i := 12) (oi := ⟨_, _, _, _, _, _⟩) (v := ?v_15) rfl (by kernel_rfl) (by kernel_rfl) (by kernel_rfl) (fun _ _ _ h => h) (Or.inl ⟨by rfl, ?hy_15⟩) (by assumption) ?r_15
  case hy_15 => (intro w_ hS_; (try dsimp only at hS_); go_simp; try with_reducible rfl)
  try simp only [Act.put, List.setIfInBounds_toArray, List.set_cons_zero, List.set_cons_succ]
  refine wpAnyH_take (i := 13) (oi := ⟨_, _, _, _, _, _⟩) (v := ?v_16) rfl (by kernel_rfl) (by kernel_rfl) (by kernel_rfl) (fun _ _ _ h => h) (Or.inl ⟨by rfl, ?hy_16⟩) (by assumption) ?r_16
  case hy_16 => (intro w_ hS_; (try dsimp only at hS_); go_simp; try with_reducible rfl)
  try simp only [Act.put, List.setIfInBounds_toArray, List.set_cons_zero, List.set_cons_succ]
  refine wpAnyH_take (i := 14) (oi := ⟨_, _, _, _, _, _⟩) (v := ?v_17) rfl (by kernel_rfl) (by kernel_rfl) (by kernel_rfl) (fun _ _ _ h => h) (Or.inl ⟨by rfl, ?hy_17⟩) (by assumption) ?r_17
  case hy_17 => (intro w_ hS_; (try dsimp only at hS_); go_simp; try with_reducible rfl)
  try simp only [Act.put, List.setIfInBounds_toArray, List.set_cons_zero, List.set_cons_succ]
  refine wpAnyH_take (i := 15) (oi := ⟨_, _, _, _, _, _⟩) (v := ?v_18) rfl (by kernel_rfl) (by kernel_rfl) (by kernel_rfl) (fun _ _ _ h => h) (Or.inl ⟨by rfl, ?hy_18⟩) (by assumption) ?r_18
  case hy_18 => (intro w_ hS_; (try dsimp only at hS_); go_simp; try with_reducible rfl)
  try simp only [Act.put, List.setIfInBounds_toArray, List.set_cons_zero, List.set_cons_succ]
  refine wpAnyH_take (i := 16) (oi := ⟨_, _, _, _, _, _⟩) (v := ?v_19) rfl (by kernel_rfl) (by kernel_rfl) (by kernel_rfl) (fun _ _ _ h => h) (Or.inl ⟨by rfl, ?hy_19⟩) (by assumption) ?r_19
  case hy_19 => (intro w_ hS_; (try dsimp only at hS_); go_simp; try with_reducible rfl)
  try simp only [Act.put, List.setIfInBounds_toArray, List.set_cons_zero, List.set_cons_succ]
  refine wpAnyH_take (i := 17) (oi := ⟨_, _, _, _, _, _⟩) (v := ?v_20) rfl (by kernel_rfl) (by kernel_rfl) (by kernel_rfl) (fun _ _ _ h => h) (Or.inl ⟨by rfl, ?hy_20⟩) (by assumption) ?r_20
  case hy_20 => (intro w_ hS_; (try dsimp only at hS_); go_simp; try with_reducible rfl)
  try simp only [Act.put, List.setIfInBounds_toArray, List.set_cons_zero, List.set_cons_succ]
  refine wpAnyH_take (i := 18) (oi := ⟨_, _, _, _, _, _⟩) (v := ?v_21) rfl (by kernel_rfl) (by kernel_rfl) (by kernel_rfl) (fun _ _ _ h => h) (Or.inl ⟨by rfl, ?hy_21⟩) (by assumption) ?r_21
  case hy_21 => (intro w_ hS_; (try dsimp only at hS_); go_simp; try with_reducible rfl)
  try simp only [Act.put, List.setIfInBounds_toArray, List.set_cons_zero, List.set_cons_succ]
  refine wpAnyH_take (i := 19) (oi := ⟨_, _, _, _, _, _⟩) (v := ?v_22) rfl (by kernel_rfl) (by kernel_rfl) (by kernel_rfl) (fun _ _ _ h => h) (Or.inl ⟨by rfl, ?hy_22⟩) (by assumption) ?r_22
  case hy_22 => (intro w_ hS_; (try dsimp only at hS_); go_simp; try with_reducible rfl)
  try simp only [Act.put, List.setIfInBounds_toArray, List.set_cons_zero, List.set_cons_succ]
  refine wpAnyH_take (i := 20) (oi := ⟨_, _, _, _, _, _⟩) (v := ?v_23) rfl (by kernel_rfl) (by kernel_rfl) (by kernel_rfl) (fun _ _ _ h => h) (Or.inl ⟨by rfl, ?hy_23⟩) (by assumption) ?r_23
  case hy_23 => (intro w_ hS_; (try dsimp only at hS_); go_simp; try with_reducible rfl)
  try simp only [Act.put, List.setIfInBounds_toArray, List.set_cons_zero, List.set_cons_succ]
  refine wpAnyH_take (i := 21) (oi := ⟨_, _, _, _, _, _⟩) (v := ?v_24) rfl (by kernel_rfl) (by kernel_rfl) (by kernel_rfl) (fun _ _ _ h => h) (Or.inl ⟨by rfl, ?hy_24⟩) (by assumption) ?r_24
  case hy_24 => (intro w_ hS_; (try dsimp only at hS_); go_simp; try with_reducible rfl)
  try simp only [Act.put, List.setIfInBounds_toArray, List.set_cons_zero, List.set_cons_succ]
  refine wpAnyH_take (i := 22) (oi := ⟨_, _, _, _, _, _⟩) (v := ?v_25) rfl (by kernel_rfl) (by kernel_rfl) (by kernel_rfl) (fun _ _ _ h => h) (Or.inl ⟨by rfl, ?hy_25⟩) (by assumption) ?r_25
  case hy_25 => (intro w_ hS_; (try dsimp only at hS_); go_simp; try with_reducible rfl)
  try simp only [Act.put, List.setIfInBounds_toArray, List.set_cons_zero, List.set_cons_succ]
  refine wpAnyH_ready (rs := [23]) (by kernel_rfl) (by simp) ?_
  refine AllReadyH.cons (o := ⟨_, _, _, _, _, _⟩) rfl (fun K hK => ?_) AllReadyH.nil
  go_simp
  (first | (go_at_call 15; refine (three_rows _).mono ?_; rintro e wa ⟨b1, o1, r1, t1, rfl, hr1, ht1, HR1, HS1, ha⟩))
  try go_wp2_with (fail)
  refine hK.out _ _ ?_ (fun hHeld => ?_)
  · (try dsimp only); (first | exact hk_call (by assumption) (by assumption) | assumption | exact hk_mk (by assumption))
  clear hK K
  try simp only [Act.put, List.setIfInBounds_toArray, List.set_cons_zero, List.set_cons_succ]
  refine wpAnyH_take (i := 24) (oi := ⟨_, _, _, _, _, _⟩) (v := ?v_26) rfl (by kernel_rfl) (by kernel_rfl) (by kernel_rfl) (fun _ _ _ h => h) (Or.inl ⟨by rfl, ?hy_26⟩) (by assumption) ?r_26
  case hy_26 => (intro w_ hS_; (try dsimp only at hS_); go_simp; try with_reducible rfl)
  try simp only [Act.put, List.setIfInBounds_toArray, List.set_cons_zero, List.set_cons_succ]
  refine wpAnyH_ready (rs := [25, 26]) (by kernel_rfl) (by simp) ?_
  refine AllReadyH.cons (o := ⟨_, _, _, _, _, _⟩) rfl (fun K hK => ?_) ?_
  · rw [if_pos (by rfl)]
    (first | (refine wp_load_mid 29 _ rfl _ _ rfl (jrC t1) _ (HS1.out _ (Below.refl _ _)) Tryz.underlying29 rfl jrC_info ?_) | (refine wp_load_mid 29 _ rfl _ _ rfl (jrC t1) _ (HS1.out _ hb) Tryz.underlying29 rfl jrC_info ?_))
    refine hK.out _ _ ?_ (fun hHeld => ?_)
    · (try dsimp only); (first | assumption | exact hk_drew | exact hk_call (by assumption) (by assumption) | exact hk_mk (by assumption) | (refine hk_alloc (by assumption) _) | (refine hk_row (by assumption) (by first | exact Nat.le_refl _ | exact hk_size (by assumption) | omega | (simp; done) | (simp; omega)) _) | (refine hk_set (by assumption) (by first | exact Nat.le_refl _ | exact hk_size (by assumption) | omega | (simp; done) | (simp; omega)) _))
    clear hK K
    try simp only [Act.put, List.setIfInBounds_toArray, List.set_cons_zero, List.set_cons_succ]
    refine wpAnyH_ready (rs := [26]) (by kernel_rfl) (by simp) ?_
    refine AllReadyH.cons (o := ⟨_, _, _, _, _, _⟩) rfl (fun K hK => ?_) AllReadyH.nil
    go_simp
    (first | (go_at_call 15; refine (three_rows _).mono ?_; rintro e wb ⟨b3, o3, r3, t3, rfl, hr3, ht3, HR3, HS3, hb⟩))
    try go_wp2_with (fail)
    refine hK.out _ _ ?_ (fun hHeld => ?_)
    · (try dsimp only); (first | exact hk_call (by assumption) (by assumption) | assumption | exact hk_mk (by assumption))
    clear hK K
    try simp only [Act.put, List.setIfInBounds_toArray, List.set_cons_zero, List.set_cons_succ]
    refine wpAnyH_take (i := 27) (oi := ⟨_, _, _, _, _, _⟩) (v := ?v_27) rfl (by kernel_rfl) (by kernel_rfl) (by kernel_rfl) (fun _ _ _ h => h) (Or.inl ⟨by rfl, ?hy_27⟩) (by assumption) ?r_27
    case hy_27 => (intro w_ hS_; (try dsimp only at hS_); go_simp; try with_reducible rfl)
    try simp only [Act.put, List.setIfInBounds_toArray, List.set_cons_zero, List.set_cons_succ]
    refine wpAnyH_ready (rs := [28]) (by kernel_rfl) (by simp) ?_
    refine AllReadyH.cons (o := ⟨_, _, _, _, _, _⟩) rfl (fun K hK => ?_) AllReadyH.nil
    rw [if_pos (by rfl)]
    (first | (refine wp_load_mid 29 _ rfl _ _ rfl (jrC r3) _ (HR3.out _ (Below.refl _ _)) Tryz.underlying29 rfl jrC_info ?_))
    refine hK.out _ _ ?_ (fun hHeld => ?_)
    · (try dsimp only); (first | assumption | exact hk_drew | exact hk_call (by assumption) (by assumption) | exact hk_mk (by assumption) | (refine hk_alloc (by assumption) _) | (refine hk_row (by assumption) (by first | exact Nat.le_refl _ | exact hk_size (by assumption) | omega | (simp; done) | (simp; omega)) _) | (refine hk_set (by assumption) (by first | exact Nat.le_refl _ | exact hk_size (by assumption) | omega | (simp; done) | (simp; omega)) _))
    clear hK K
    try simp only [Act.put, List.setIfInBounds_toArray, List.set_cons_zero, List.set_cons_succ]
    refine wpAnyH_ready (rs := [29]) (by kernel_rfl) (by simp) ?_
    refine AllReadyH.cons (o := ⟨_, _, _, _, _, _⟩) rfl (fun K hK => ?_) AllReadyH.nil
    go_simp
    (first | (go_at_call 8; refine (qa.out r3 t1 _ hr3 ht1 (B2.out.trans ((And.right (by assumption : (∀ b o, b < w2.heap.size → World.cell? _ ⟨b, o, none⟩ = w2.cell? ⟨b, o, none⟩) ∧ Below w2.heap.size w2 _)).mono B2.out.size))).mono ?_; rintro e wx ⟨rfl, hx⟩))
    try go_wp2_with (fail)
    refine hK.out _ _ ?_ (fun hHeld => ?_)
    · (try dsimp only); (first | exact hk_call (by assumption) (by assumption) | assumption | exact hk_mk (by assumption))
    clear hK K
    try simp only [Act.put, List.setIfInBounds_toArray, List.set_cons_zero, List.set_cons_succ]
    refine wpAnyH_take (i := 30) (oi := ⟨_, _, _, _, _, _⟩) (v := ?v_28) rfl (by kernel_rfl) (by kernel_rfl) (by kernel_rfl) (fun _ _ _ h => h) (Or.inl ⟨by rfl, ?hy_28⟩) (by assumption) ?r_28
    case hy_28 => (intro w_ hS_; (try dsimp only at hS_); go_simp; try with_reducible rfl)
    try simp only [Act.put, List.setIfInBounds_toArray, List.set_cons_zero, List.set_cons_succ]
    refine wpAnyH_take (i := 31) (oi := ⟨_, _, _, _, _, _⟩) (v := ?v_29) rfl (by kernel_rfl) (by kernel_rfl) (by kernel_rfl) (fun _ _ _ h => h) (Or.inl ⟨by rfl, ?hy_29⟩) (by assumption) ?r_29
    case hy_29 => (intro w_ hS_; (try dsimp only at hS_); go_simp; try with_reducible rfl)
    try simp only [Act.put, List.setIfInBounds_toArray, List.set_cons_zero, List.set_cons_succ]
    refine wpAnyH_ready (rs := [32]) (by kernel_rfl) (by simp) ?_
    refine AllReadyH.cons (o := ⟨_, _, _, _, _, _⟩) rfl (fun K hK => ?_) AllReadyH.nil
    go_simp
    (first | (go_at_call 15; refine (three_rows _).mono ?_; rintro e wd ⟨b4, o4, r4, t4, rfl, hr4, ht4, HR4, HS4, hd⟩))
    try go_wp2_with (fail)
    refine hK.out _ _ ?_ (fun hHeld => ?_)
    · (try dsimp only); (first | exact hk_call (by assumption) (by assumption) | assumption | exact hk_mk (by assumption))
    clear hK K
    try simp only [Act.put, List.setIfInBounds_toArray, List.set_cons_zero, List.set_cons_succ]
    refine wpAnyH_take (i := 33) (oi := ⟨_, _, _, _, _, _⟩) (v := ?v_30) rfl (by kernel_rfl) (by kernel_rfl) (by kernel_rfl) (fun _ _ _ h => h) (Or.inl ⟨by rfl, ?hy_30⟩) (by assumption) ?r_30
    case hy_30 => (intro w_ hS_; (try dsimp only at hS_); go_simp; try with_reducible rfl)
    try simp only [Act.put, List.setIfInBounds_toArray, List.set_cons_zero, List.set_cons_succ]
    refine wpAnyH_ready (rs := [34, 35]) (by kernel_rfl) (by simp) ?_
    refine AllReadyH.cons (o := ⟨_, _, _, _, _, _⟩) rfl (fun K hK => ?_) ?_
    · rw [if_pos (by rfl)]
      (first | (refine wp_load_mid 29 _ rfl _ _ rfl (jrC r4) _ (HR4.out _ (Below.refl _ _)) Tryz.underlying29 rfl jrC_info ?_) | (refine wp_load_mid 29 _ rfl _ _ rfl (jrC r4) _ (HR4.out _ he) Tryz.underlying29 rfl jrC_info ?_))
      refine hK.out _ _ ?_ (fun hHeld => ?_)
      · (try dsimp only); (first | assumption | exact hk_drew | exact hk_call (by assumption) (by assumption) | exact hk_mk (by assumption) | (refine hk_alloc (by assumption) _) | (refine hk_row (by assumption) (by first | exact Nat.le_refl _ | exact hk_size (by assumption) | omega | (simp; done) | (simp; omega)) _) | (refine hk_set (by assumption) (by first | exact Nat.le_refl _ | exact hk_size (by assumption) | omega | (simp; done) | (simp; omega)) _))
      clear hK K
      try simp only [Act.put, List.setIfInBounds_toArray, List.set_cons_zero, List.set_cons_succ]
      refine wpAnyH_ready (rs := [35]) (by kernel_rfl) (by simp) ?_
      refine AllReadyH.cons (o := ⟨_, _, _, _, _, _⟩) rfl (fun K hK => ?_) AllReadyH.nil
      go_simp
      (first | (go_at_call 15; refine (three_rows _).mono ?_; rintro e we ⟨b5, o5, r5, t5, rfl, hr5, ht5, HR5, HS5, he⟩))
      try go_wp2_with (fail)
      refine hK.out _ _ ?_ (fun hHeld => ?_)
      · (try dsimp only); (first | exact hk_call (by assumption) (by assumption) | assumption | exact hk_mk (by assumption))
      clear hK K
      try simp only [Act.put, List.setIfInBounds_toArray, List.set_cons_zero, List.set_cons_succ]
      refine wpAnyH_take (i := 36) (oi := ⟨_, _, _, _, _, _⟩) (v := ?v_31) rfl (by kernel_rfl) (by kernel_rfl) (by kernel_rfl) (fun _ _ _ h => h) (Or.inl ⟨by rfl, ?hy_31⟩) (by assumption) ?r_31
      case hy_31 => (intro w_ hS_; (try dsimp only at hS_); go_simp; try with_reducible rfl)
      try simp only [Act.put, List.setIfInBounds_toArray, List.set_cons_zero, List.set_cons_succ]
      refine wpAnyH_ready (rs := [37]) (by kernel_rfl) (by simp) ?_
      refine AllReadyH.cons (o := ⟨_, _, _, _, _, _⟩) rfl (fun K hK => ?_) AllReadyH.nil
      rw [if_pos (by rfl)]
      (first | (refine wp_load_mid 29 _ rfl _ _ rfl (jrC t5) _ (HS5.out _ (Below.refl _ _)) Tryz.underlying29 rfl jrC_info ?_))
      refine hK.out _ _ ?_ (fun hHeld => ?_)
      · (try dsimp only); (first | assumption | exact hk_drew | exact hk_call (by assumption) (by assumption) | exact hk_mk (by assumption) | (refine hk_alloc (by assumption) _) | (refine hk_row (by assumption) (by first | exact Nat.le_refl _ | exact hk_size (by assumption) | omega | (simp; done) | (simp; omega)) _) | (refine hk_set (by assumption) (by first | exact Nat.le_refl _ | exact hk_size (by assumption) | omega | (simp; done) | (simp; omega)) _))
      clear hK K
      try simp only [Act.put, List.setIfInBounds_toArray, List.set_cons_zero, List.set_cons_succ]
      refine wpAnyH_ready (rs := [38]) (by kernel_rfl) (by simp) ?_
      refine AllReadyH.cons (o := ⟨_, _, _, _, _, _⟩) rfl (fun K hK => ?_) AllReadyH.nil
      go_simp
      (first | (go_at_call 8; refine (qn.out r4 t5 _ hr4 ht5).mono ?_; rintro e wy ⟨rfl, hy⟩))
      try go_wp2_with (fail)
      refine hK.out _ _ ?_ (fun hHeld => ?_)
      · (try dsimp only); (first | exact hk_call (by assumption) (by assumption) | assumption | exact hk_mk (by assumption))
      clear hK K
      try simp only [Act.put, List.setIfInBounds_toArray, List.set_cons_zero, List.set_cons_succ]
      refine wpAnyH_take (i := 39) (oi := ⟨_, _, _, _, _, _⟩) (v := ?v_32) rfl (by kernel_rfl) (by kernel_rfl) (by kernel_rfl) (fun _ _ _ h => h) (Or.inl ⟨by rfl, ?hy_32⟩) (by assumption) ?r_32
      case hy_32 => (intro w_ hS_; (try dsimp only at hS_); go_simp; try with_reducible rfl)
      try simp only [Act.put, List.setIfInBounds_toArray, List.set_cons_zero, List.set_cons_succ]
      refine wpAnyH_take (i := 40) (oi := ⟨_, _, _, _, _, _⟩) (v := ?v_33) rfl (by kernel_rfl) (by kernel_rfl) (by kernel_rfl) (fun _ _ _ h => h) (Or.inl ⟨by rfl, ?hy_33⟩) (by assumption) ?r_33
      case hy_33 => (intro w_ hS_; (try dsimp only at hS_); go_simp; try with_reducible rfl)
      try simp only [Act.put, List.setIfInBounds_toArray, List.set_cons_zero, List.set_cons_succ]
      refine wpAnyH_done (by kernel_rfl) ?_ _
      (have bf := And.right (by assumption : (∀ b o, b < w2.heap.size → World.cell? _ ⟨b, o, none⟩ = w2.cell? ⟨b, o, none⟩) ∧ Below w2.heap.size w2 _); go_wp2; go_ret; exact ⟨rfl, bt B0.out (bt B2.out bf)⟩)
    refine AllReadyH.cons (o := ⟨_, _, _, _, _, _⟩) rfl (fun K hK => ?_) AllReadyH.nil
    go_simp
    (first | (go_at_call 15; refine (three_rows _).mono ?_; rintro e we ⟨b5, o5, r5, t5, rfl, hr5, ht5, HR5, HS5, he⟩))
    try go_wp2_with (fail)
    refine hK.out _ _ ?_ (fun hHeld => ?_)
    · (try dsimp only); (first | exact hk_call (by assumption) (by assumption) | assumption | exact hk_mk (by assumption))
    clear hK K
    try simp only [Act.put, List.setIfInBounds_toArray, List.set_cons_zero, List.set_cons_succ]
    refine wpAnyH_take (i := 36) (oi := ⟨_, _, _, _, _, _⟩) (v := ?v_34) rfl (by kernel_rfl) (by kernel_rfl) (by kernel_rfl) (fun _ _ _ h => h) (Or.inl ⟨by rfl, ?hy_34⟩) (by assumption) ?r_34
    case hy_34 => (intro w_ hS_; (try dsimp only at hS_); go_simp; try with_reducible rfl)
    try simp only [Act.put, List.setIfInBounds_toArray, List.set_cons_zero, List.set_cons_succ]
    refine wpAnyH_ready (rs := [34, 37]) (by kernel_rfl) (by simp) ?_
    refine AllReadyH.cons (o := ⟨_, _, _, _, _, _⟩) rfl (fun K hK => ?_) ?_
    · rw [if_pos (by rfl)]
      (first | (refine wp_load_mid 29 _ rfl _ _ rfl (jrC r4) _ (HR4.out _ (Below.refl _ _)) Tryz.underlying29 rfl jrC_info ?_) | (refine wp_load_mid 29 _ rfl _ _ rfl (jrC r4) _ (HR4.out _ he) Tryz.underlying29 rfl jrC_info ?_))
      refine hK.out _ _ ?_ (fun hHeld => ?_)
      · (try dsimp only); (first | assumption | exact hk_drew | exact hk_call (by assumption) (by assumption) | exact hk_mk (by assumption) | (refine hk_alloc (by assumption) _) | (refine hk_row (by assumption) (by first | exact Nat.le_refl _ | exact hk_size (by assumption) | omega | (simp; done) | (simp; omega)) _) | (refine hk_set (by assumption) (by first | exact Nat.le_refl _ | exact hk_size (by assumption) | omega | (simp; done) | (simp; omega)) _))
      clear hK K
      try simp only [Act.put, List.setIfInBounds_toArray, List.set_cons_zero, List.set_cons_succ]
      refine wpAnyH_ready (rs := [37]) (by kernel_rfl) (by simp) ?_
      refine AllReadyH.cons (o := ⟨_, _, _, _, _, _⟩) rfl (fun K hK => ?_) AllReadyH.nil
      rw [if_pos (by rfl)]
      (first | (refine wp_load_mid 29 _ rfl _ _ rfl (jrC t5) _ (HS5.out _ (Below.refl _ _)) Tryz.underlying29 rfl jrC_info ?_))
      refine hK.out _ _ ?_ (fun hHeld => ?_)
      · (try dsimp only); (first | assumption | exact hk_drew | exact hk_call (by assumption) (by assumption) | exact hk_mk (by assumption) | (refine hk_alloc (by assumption) _) | (refine hk_row (by assumption) (by first | exact Nat.le_refl _ | exact hk_size (by assumption) | omega | (simp; done) | (simp; omega)) _) | (refine hk_set (by assumption) (by first | exact Nat.le_refl _ | exact hk_size (by assumption) | omega | (simp; done) | (simp; omega)) _))
      clear hK K
      try simp only [Act.put, List.setIfInBounds_toArray, List.set_cons_zero, List.set_cons_succ]
      refine wpAnyH_ready (rs := [38]) (by kernel_rfl) (by simp) ?_
      refine AllReadyH.cons (o := ⟨_, _, _, _, _, _⟩) rfl (fun K hK => ?_) AllReadyH.nil
      go_simp
      (first | (go_at_call 8; refine (qn.out r4 t5 _ hr4 ht5).mono ?_; rintro e wy ⟨rfl, hy⟩))
      try go_wp2_with (fail)
      refine hK.out _ _ ?_ (fun hHeld => ?_)
      · (try dsimp only); (first | exact hk_call (by assumption) (by assumption) | assumption | exact hk_mk (by assumption))
      clear hK K
      try simp only [Act.put, List.setIfInBounds_toArray, List.set_cons_zero, List.set_cons_succ]
      refine wpAnyH_take (i := 39) (oi := ⟨_, _, _, _, _, _⟩) (v := ?v_35) rfl (by kernel_rfl) (by kernel_rfl) (by kernel_rfl) (fun _ _ _ h => h) (Or.inl ⟨by rfl, ?hy_35⟩) (by assumption) ?r_35
      case hy_35 => (intro w_ hS_; (try dsimp only at hS_); go_simp; try with_reducible rfl)
      try simp only [Act.put, List.setIfInBounds_toArray, List.set_cons_zero, List.set_cons_succ]
      refine wpAnyH_take (i := 40) (oi := ⟨_, _, _, _, _, _⟩) (v := ?v_36) rfl (by kernel_rfl) (by kernel_rfl) (by kernel_rfl) (fun _ _ _ h => h) (Or.inl ⟨by rfl, ?hy_36⟩) (by assumption) ?r_36
      case hy_36 => (intro w_ hS_; (try dsimp only at hS_); go_simp; try with_reducible rfl)
      try simp only [Act.put, List.setIfInBounds_toArray, List.set_cons_zero, List.set_cons_succ]
      refine wpAnyH_done (by kernel_rfl) ?_ _
      (have bf := And.right (by assumption : (∀ b o, b < w2.heap.size → World.cell? _ ⟨b, o, none⟩ = w2.cell? ⟨b, o, none⟩) ∧ Below w2.heap.size w2 _); go_wp2; go_ret; exact ⟨rfl, bt B0.out (bt B2.out bf)⟩)
    refine AllReadyH.cons (o := ⟨_, _, _, _, _, _⟩) rfl (fun K hK => ?_) AllReadyH.nil
    rw [if_pos (by rfl)]
    (first | (refine wp_load_mid 29 _ rfl _ _ rfl (jrC t5) _ (HS5.out _ (Below.refl _ _)) Tryz.underlying29 rfl jrC_info ?_))
    refine hK.out _ _ ?_ (fun hHeld => ?_)
    · (try dsimp only); (first | assumption | exact hk_drew | exact hk_call (by assumption) (by assumption) | exact hk_mk (by assumption) | (refine hk_alloc (by assumption) _) | (refine hk_row (by assumption) (by first | exact Nat.le_refl _ | exact hk_size (by assumption) | omega | (simp; done) | (simp; omega)) _) | (refine hk_set (by assumption) (by first | exact Nat.le_refl _ | exact hk_size (by assumption) | omega | (simp; done) | (simp; omega)) _))
    clear hK K
    try simp only [Act.put, List.setIfInBounds_toArray, List.set_cons_zero, List.set_cons_succ]
    refine wpAnyH_ready (rs := [34]) (by kernel_rfl) (by simp) ?_
    refine AllReadyH.cons (o := ⟨_, _, _, _, _, _⟩) rfl (fun K hK => ?_) AllReadyH.nil
    rw [if_pos (by rfl)]
    (first | (refine wp_load_mid 29 _ rfl _ _ rfl (jrC r4) _ (HR4.out _ (Below.refl _ _)) Tryz.underlying29 rfl jrC_info ?_) | (refine wp_load_mid 29 _ rfl _ _ rfl (jrC r4) _ (HR4.out _ he) Tryz.underlying29 rfl jrC_info ?_))
    refine hK.out _ _ ?_ (fun hHeld => ?_)
    · (try dsimp only); (first | assumption | exact hk_drew | exact hk_call (by assumption) (by assumption) | exact hk_mk (by assumption) | (refine hk_alloc (by assumption) _) | (refine hk_row (by assumption) (by first | exact Nat.le_refl _ | exact hk_size (by assumption) | omega | (simp; done) | (simp; omega)) _) | (refine hk_set (by assumption) (by first | exact Nat.le_refl _ | exact hk_size (by assumption) | omega | (simp; done) | (simp; omega)) _))
    clear hK K
    try simp only [Act.put, List.setIfInBounds_toArray, List.set_cons_zero, List.set_cons_succ]
    refine wpAnyH_ready (rs := [38]) (by kernel_rfl) (by simp) ?_
    refine AllReadyH.cons (o := ⟨_, _, _, _, _, _⟩) rfl (fun K hK => ?_) AllReadyH.nil
    go_simp
    (first | (go_at_call 8; refine (qn.out r4 t5 _ hr4 ht5).mono ?_; rintro e wy ⟨rfl, hy⟩))
    try go_wp2_with (fail)
    refine hK.out _ _ ?_ (fun hHeld => ?_)
    · (try dsimp only); (first | exact hk_call (by assumption) (by assumption) | assumption | exact hk_mk (by assumption))
    clear hK K
    try simp only [Act.put, List.setIfInBounds_toArray, List.set_cons_zero, List.set_cons_succ]
    refine wpAnyH_take (i := 39) (oi := ⟨_, _, _, _, _, _⟩) (v := ?v_37) rfl (by kernel_rfl) (by kernel_rfl) (by kernel_rfl) (fun _ _ _ h => h) (Or.inl ⟨by rfl, ?hy_37⟩) (by assumption) ?r_37
    case hy_37 => (intro w_ hS_; (try dsimp only at hS_); go_simp; try with_reducible rfl)
    try simp only [Act.put, List.setIfInBounds_toArray, List.set_cons_zero, List.set_cons_succ]
    refine wpAnyH_take (i := 40) (oi := ⟨_, _, _, _, _, _⟩) (v := ?v_38) rfl (by kernel_rfl) (by kernel_rfl) (by kernel_rfl) (fun _ _ _ h => h) (Or.inl ⟨by rfl, ?hy_38⟩) (by assumption) ?r_38
    case hy_38 => (intro w_ hS_; (try dsimp only at hS_); go_simp; try with_reducible rfl)
    try simp only [Act.put, List.setIfInBounds_toArray, List.set_cons_zero, List.set_cons_succ]
    refine wpAnyH_done (by kernel_rfl) ?_ _
    (have bf := And.right (by assumption : (∀ b o, b < w2.heap.size → World.cell? _ ⟨b, o, none⟩ = w2.cell? ⟨b, o, none⟩) ∧ Below w2.heap.size w2 _); go_wp2; go_ret; exact ⟨rfl, bt B0.out (bt B2.out bf)⟩)
  refine AllReadyH.cons (o := ⟨_, _, _, _, _, _⟩) rfl (fun K hK => ?_) AllReadyH.nil
  go_simp
  (first | (go_at_call 15; refine (three_rows _).mono ?_; rintro e wb ⟨b3, o3, r3, t3, rfl, hr3, ht3, HR3, HS3, hb⟩))
  try go_wp2_with (fail)
  refine hK.out _ _ ?_ (fun hHeld => ?_)
  · (try dsimp only); (first | exact hk_call (by assumption) (by assumption) | assumption | exact hk_mk (by assumption))
  clear hK K
  try simp only [Act.put, List.setIfInBounds_toArray, List.set_cons_zero, List.set_cons_succ]
  refine wpAnyH_take (i := 27) (oi := ⟨_, _, _, _, _, _⟩) (v := ?v_39) rfl (by kernel_rfl) (by kernel_rfl) (by kernel_rfl) (fun _ _ _ h => h) (Or.inl ⟨by rfl, ?hy_39⟩) (by assumption) ?r_39
  case hy_39 => (intro w_ hS_; (try dsimp only at hS_); go_simp; try with_reducible rfl)
  try simp only [Act.put, List.setIfInBounds_toArray, List.set_cons_zero, List.set_cons_succ]
  refine wpAnyH_ready (rs := [25, 28]) (by kernel_rfl) (by simp) ?_
  refine AllReadyH.cons (o := ⟨_, _, _, _, _, _⟩) rfl (fun K hK => ?_) ?_
  · rw [if_pos (by rfl)]
    (first | (refine wp_load_mid 29 _ rfl _ _ rfl (jrC t1) _ (HS1.out _ (Below.refl _ _)) Tryz.underlying29 rfl jrC_info ?_) | (refine wp_load_mid 29 _ rfl _ _ rfl (jrC t1) _ (HS1.out _ hb) Tryz.underlying29 rfl jrC_info ?_))
    refine hK.out _ _ ?_ (fun hHeld => ?_)
    · (try dsimp only); (first | assumption | exact hk_drew | exact hk_call (by assumption) (by assumption) | exact hk_mk (by assumption) | (refine hk_alloc (by assumption) _) | (refine hk_row (by assumption) (by first | exact Nat.le_refl _ | exact hk_size (by assumption) | omega | (simp; done) | (simp; omega)) _) | (refine hk_set (by assumption) (by first | exact Nat.le_refl _ | exact hk_size (by assumption) | omega | (simp; done) | (simp; omega)) _))
    clear hK K
    try simp only [Act.put, List.setIfInBounds_toArray, List.set_cons_zero, List.set_cons_succ]
    refine wpAnyH_ready (rs := [28]) (by kernel_rfl) (by simp) ?_
    refine AllReadyH.cons (o := ⟨_, _, _, _, _, _⟩) rfl (fun K hK => ?_) AllReadyH.nil
    rw [if_pos (by rfl)]
    (first | (refine wp_load_mid 29 _ rfl _ _ rfl (jrC r3) _ (HR3.out _ (Below.refl _ _)) Tryz.underlying29 rfl jrC_info ?_))
    refine hK.out _ _ ?_ (fun hHeld => ?_)
    · (try dsimp only); (first | assumption | exact hk_drew | exact hk_call (by assumption) (by assumption) | exact hk_mk (by assumption) | (refine hk_alloc (by assumption) _) | (refine hk_row (by assumption) (by first | exact Nat.le_refl _ | exact hk_size (by assumption) | omega | (simp; done) | (simp; omega)) _) | (refine hk_set (by assumption) (by first | exact Nat.le_refl _ | exact hk_size (by assumption) | omega | (simp; done) | (simp; omega)) _))
    clear hK K
    try simp only [Act.put, List.setIfInBounds_toArray, List.set_cons_zero, List.set_cons_succ]
    refine wpAnyH_ready (rs := [29]) (by kernel_rfl) (by simp) ?_
    refine AllReadyH.cons (o := ⟨_, _, _, _, _, _⟩) rfl (fun K hK => ?_) AllReadyH.nil
    go_simp
    (first | (go_at_call 8; refine (qa.out r3 t1 _ hr3 ht1 (B2.out.trans ((And.right (by assumption : (∀ b o, b < w2.heap.size → World.cell? _ ⟨b, o, none⟩ = w2.cell? ⟨b, o, none⟩) ∧ Below w2.heap.size w2 _)).mono B2.out.size))).mono ?_; rintro e wx ⟨rfl, hx⟩))
    try go_wp2_with (fail)
    refine hK.out _ _ ?_ (fun hHeld => ?_)
    · (try dsimp only); (first | exact hk_call (by assumption) (by assumption) | assumption | exact hk_mk (by assumption))
    clear hK K
    try simp only [Act.put, List.setIfInBounds_toArray, List.set_cons_zero, List.set_cons_succ]
    refine wpAnyH_take (i := 30) (oi := ⟨_, _, _, _, _, _⟩) (v := ?v_40) rfl (by kernel_rfl) (by kernel_rfl) (by kernel_rfl) (fun _ _ _ h => h) (Or.inl ⟨by rfl, ?hy_40⟩) (by assumption) ?r_40
    case hy_40 => (intro w_ hS_; (try dsimp only at hS_); go_simp; try with_reducible rfl)
    try simp only [Act.put, List.setIfInBounds_toArray, List.set_cons_zero, List.set_cons_succ]
    refine wpAnyH_take (i := 31) (oi := ⟨_, _, _, _, _, _⟩) (v := ?v_41) rfl (by kernel_rfl) (by kernel_rfl) (by kernel_rfl) (fun _ _ _ h => h) (Or.inl ⟨by rfl, ?hy_41⟩) (by assumption) ?r_41
    case hy_41 => (intro w_ hS_; (try dsimp only at hS_); go_simp; try with_reducible rfl)
    try simp only [Act.put, List.setIfInBounds_toArray, List.set_cons_zero, List.set_cons_succ]
    refine wpAnyH_ready (rs := [32]) (by kernel_rfl) (by simp) ?_
    refine AllReadyH.cons (o := ⟨_, _, _, _, _, _⟩) rfl (fun K hK => ?_) AllReadyH.nil
    go_simp
    (first | (go_at_call 15; refine (three_rows _).mono ?_; rintro e wd ⟨b4, o4, r4, t4, rfl, hr4, ht4, HR4, HS4, hd⟩))
    try go_wp2_with (fail)
    refine hK.out _ _ ?_ (fun hHeld => ?_)
    · (try dsimp only); (first | exact hk_call (by assumption) (by assumption) | assumption | exact hk_mk (by assumption))
    clear hK K
    try simp only [Act.put, List.setIfInBounds_toArray, List.set_cons_zero, List.set_cons_succ]
    refine wpAnyH_take (i := 33) (oi := ⟨_, _, _, _, _, _⟩) (v := ?v_42) rfl (by kernel_rfl) (by kernel_rfl) (by kernel_rfl) (fun _ _ _ h => h) (Or.inl ⟨by rfl, ?hy_42⟩) (by assumption) ?r_42
    case hy_42 => (intro w_ hS_; (try dsimp only at hS_); go_simp; try with_reducible rfl)
    try simp only [Act.put, List.setIfInBounds_toArray, List.set_cons_zero, List.set_cons_succ]
    refine wpAnyH_ready (rs := [34, 35]) (by kernel_rfl) (by simp) ?_
    refine AllReadyH.cons (o := ⟨_, _, _, _, _, _⟩) rfl (fun K hK => ?_) ?_
    · rw [if_pos (by rfl)]
      (first | (refine wp_load_mid 29 _ rfl _ _ rfl (jrC r4) _ (HR4.out _ (Below.refl _ _)) Tryz.underlying29 rfl jrC_info ?_) | (refine wp_load_mid 29 _ rfl _ _ rfl (jrC r4) _ (HR4.out _ he) Tryz.underlying29 rfl jrC_info ?_))
      refine hK.out _ _ ?_ (fun hHeld => ?_)
      · (try dsimp only); (first | assumption | exact hk_drew | exact hk_call (by assumption) (by assumption) | exact hk_mk (by assumption) | (refine hk_alloc (by assumption) _) | (refine hk_row (by assumption) (by first | exact Nat.le_refl _ | exact hk_size (by assumption) | omega | (simp; done) | (simp; omega)) _) | (refine hk_set (by assumption) (by first | exact Nat.le_refl _ | exact hk_size (by assumption) | omega | (simp; done) | (simp; omega)) _))
      clear hK K
      try simp only [Act.put, List.setIfInBounds_toArray, List.set_cons_zero, List.set_cons_succ]
      refine wpAnyH_ready (rs := [35]) (by kernel_rfl) (by simp) ?_
      refine AllReadyH.cons (o := ⟨_, _, _, _, _, _⟩) rfl (fun K hK => ?_) AllReadyH.nil
      go_simp
      (first | (go_at_call 15; refine (three_rows _).mono ?_; rintro e we ⟨b5, o5, r5, t5, rfl, hr5, ht5, HR5, HS5, he⟩))
      try go_wp2_with (fail)
      refine hK.out _ _ ?_ (fun hHeld => ?_)
      · (try dsimp only); (first | exact hk_call (by assumption) (by assumption) | assumption | exact hk_mk (by assumption))
      clear hK K
      try simp only [Act.put, List.setIfInBounds_toArray, List.set_cons_zero, List.set_cons_succ]
      refine wpAnyH_take (i := 36) (oi := ⟨_, _, _, _, _, _⟩) (v := ?v_43) rfl (by kernel_rfl) (by kernel_rfl) (by kernel_rfl) (fun _ _ _ h => h) (Or.inl ⟨by rfl, ?hy_43⟩) (by assumption) ?r_43
      case hy_43 => (intro w_ hS_; (try dsimp only at hS_); go_simp; try with_reducible rfl)
      try simp only [Act.put, List.setIfInBounds_toArray, List.set_cons_zero, List.set_cons_succ]
      refine wpAnyH_ready (rs := [37]) (by kernel_rfl) (by simp) ?_
      refine AllReadyH.cons (o := ⟨_, _, _, _, _, _⟩) rfl (fun K hK => ?_) AllReadyH.nil
      rw [if_pos (by rfl)]
      (first | (refine wp_load_mid 29 _ rfl _ _ rfl (jrC t5) _ (HS5.out _ (Below.refl _ _)) Tryz.underlying29 rfl jrC_info ?_))
      refine hK.out _ _ ?_ (fun hHeld => ?_)
      · (try dsimp only); (first | assumption | exact hk_drew | exact hk_call (by assumption) (by assumption) | exact hk_mk (by assumption) | (refine hk_alloc (by assumption) _) | (refine hk_row (by assumption) (by first | exact Nat.le_refl _ | exact hk_size (by assumption) | omega | (simp; done) | (simp; omega)) _) | (refine hk_set (by assumption) (by first | exact Nat.le_refl _ | exact hk_size (by assumption) | omega | (simp; done) | (simp; omega)) _))
      clear hK K
      try simp only [Act.put, List.setIfInBounds_toArray, List.set_cons_zero, List.set_cons_succ]
      refine wpAnyH_ready (rs := [38]) (by kernel_rfl) (by simp) ?_
      refine AllReadyH.cons (o := ⟨_, _, _, _, _, _⟩) rfl (fun K hK => ?_) AllReadyH.nil
      go_simp
      (first | (go_at_call 8; refine (qn.out r4 t5 _ hr4 ht5).mono ?_; rintro e wy ⟨rfl, hy⟩))
      try go_wp2_with (fail)
      refine hK.out _ _ ?_ (fun hHeld => ?_)
      · (try dsimp only); (first | exact hk_call (by assumption) (by assumption) | assumption | exact hk_mk (by assumption))
      clear hK K
      try simp only [Act.put, List.setIfInBounds_toArray, List.set_cons_zero, List.set_cons_succ]
      refine wpAnyH_take (i := 39) (oi := ⟨_, _, _, _, _, _⟩) (v := ?v_44) rfl (by kernel_rfl) (by kernel_rfl) (by kernel_rfl) (fun _ _ _ h => h) (Or.inl ⟨by rfl, ?hy_44⟩) (by assumption) ?r_44
      case hy_44 => (intro w_ hS_; (try dsimp only at hS_); go_simp; try with_reducible rfl)
      try simp only [Act.put, List.setIfInBounds_toArray, List.set_cons_zero, List.set_cons_succ]
      refine wpAnyH_take (i := 40) (oi := ⟨_, _, _, _, _, _⟩) (v := ?v_45) rfl (by kernel_rfl) (by kernel_rfl) (by kernel_rfl) (fun _ _ _ h => h) (Or.inl ⟨by rfl, ?hy_45⟩) (by assumption) ?r_45
      case hy_45 => (intro w_ hS_; (try dsimp only at hS_); go_simp; try with_reducible rfl)
      try simp only [Act.put, List.setIfInBounds_toArray, List.set_cons_zero, List.set_cons_succ]
      refine wpAnyH_done (by kernel_rfl) ?_ _
      (have bf := And.right (by assumption : (∀ b o, b < w2.heap.size → World.cell? _ ⟨b, o, none⟩ = w2.cell? ⟨b, o, none⟩) ∧ Below w2.heap.size w2 _); go_wp2; go_ret; exact ⟨rfl, bt B0.out (bt B2.out bf)⟩)
    refine AllReadyH.cons (o := ⟨_, _, _, _, _, _⟩) rfl (fun K hK => ?_) AllReadyH.nil
    go_simp
    (first | (go_at_call 15; refine (three_rows _).mono ?_; rintro e we ⟨b5, o5, r5, t5, rfl, hr5, ht5, HR5, HS5, he⟩))
    try go_wp2_with (fail)
    refine hK.out _ _ ?_ (fun hHeld => ?_)
    · (try dsimp only); (first | exact hk_call (by assumption) (by assumption) | assumption | exact hk_mk (by assumption))
    clear hK K
    try simp only [Act.put, List.setIfInBounds_toArray, List.set_cons_zero, List.set_cons_succ]
    refine wpAnyH_take (i := 36) (oi := ⟨_, _, _, _, _, _⟩) (v := ?v_46) rfl (by kernel_rfl) (by kernel_rfl) (by kernel_rfl) (fun _ _ _ h => h) (Or.inl ⟨by rfl, ?hy_46⟩) (by assumption) ?r_46
    case hy_46 => (intro w_ hS_; (try dsimp only at hS_); go_simp; try with_reducible rfl)
    try simp only [Act.put, List.setIfInBounds_toArray, List.set_cons_zero, List.set_cons_succ]
    refine wpAnyH_ready (rs := [34, 37]) (by kernel_rfl) (by simp) ?_
    refine AllReadyH.cons (o := ⟨_, _, _, _, _, _⟩) rfl (fun K hK => ?_) ?_
    · rw [if_pos (by rfl)]
      (first | (refine wp_load_mid 29 _ rfl _ _ rfl (jrC r4) _ (HR4.out _ (Below.refl _ _)) Tryz.underlying29 rfl jrC_info ?_) | (refine wp_load_mid 29 _ rfl _ _ rfl (jrC r4) _ (HR4.out _ he) Tryz.underlying29 rfl jrC_info ?_))
      refine hK.out _ _ ?_ (fun hHeld => ?_)
      · (try dsimp only); (first | assumption | exact hk_drew | exact hk_call (by assumption) (by assumption) | exact hk_mk (by assumption) | (refine hk_alloc (by assumption) _) | (refine hk_row (by assumption) (by first | exact Nat.le_refl _ | exact hk_size (by assumption) | omega | (simp; done) | (simp; omega)) _) | (refine hk_set (by assumption) (by first | exact Nat.le_refl _ | exact hk_size (by assumption) | omega | (simp; done) | (simp; omega)) _))
      clear hK K
      try simp only [Act.put, List.setIfInBounds_toArray, List.set_cons_zero, List.set_cons_succ]
      refine wpAnyH_ready (rs := [37]) (by kernel_rfl) (by simp) ?_
      refine AllReadyH.cons (o := ⟨_, _, _, _, _, _⟩) rfl (fun K hK => ?_) AllReadyH.nil
      rw [if_pos (by rfl)]
      (first | (refine wp_load_mid 29 _ rfl _ _ rfl (jrC t5) _ (HS5.out _ (Below.refl _ _)) Tryz.underlying29 rfl jrC_info ?_))
      refine hK.out _ _ ?_ (fun hHeld => ?_)
      · (try dsimp only); (first | assumption | exact hk_drew | exact hk_call (by assumption) (by assumption) | exact hk_mk (by assumption) | (refine hk_alloc (by assumption) _) | (refine hk_row (by assumption) (by first | exact Nat.le_refl _ | exact hk_size (by assumption) | omega | (simp; done) | (simp; omega)) _) | (refine hk_set (by assumption) (by first | exact Nat.le_refl _ | exact hk_size (by assumption) | omega | (simp; done) | (simp; omega)) _))
      clear hK K
      try simp only [Act.put, List.setIfInBounds_toArray, List.set_cons_zero, List.set_cons_succ]
      refine wpAnyH_ready (rs := [38]) (by kernel_rfl) (by simp) ?_
      refine AllReadyH.cons (o := ⟨_, _, _, _, _, _⟩) rfl (fun K hK => ?_) AllReadyH.nil
      go_simp
      (first | (go_at_call 8; refine (qn.out r4 t5 _ hr4 ht5).mono ?_; rintro e wy ⟨rfl, hy⟩))
      try go_wp2_with (fail)
      refine hK.out _ _ ?_ (fun hHeld => ?_)
      · (try dsimp only); (first | exact hk_call (by assumption) (by assumption) | assumption | exact hk_mk (by assumption))
      clear hK K
      try simp only [Act.put, List.setIfInBounds_toArray, List.set_cons_zero, List.set_cons_succ]
      refine wpAnyH_take (i := 39) (oi := ⟨_, _, _, _, _, _⟩) (v := ?v_47) rfl (by kernel_rfl) (by kernel_rfl) (by kernel_rfl) (fun _ _ _ h => h) (Or.inl ⟨by rfl, ?hy_47⟩) (by assumption) ?r_47
      case hy_47 => (intro w_ hS_; (try dsimp only at hS_); go_simp; try with_reducible rfl)
      try simp only [Act.put, List.setIfInBounds_toArray, List.set_cons_zero, List.set_cons_succ]
      refine wpAnyH_take (i := 40) (oi := ⟨_, _, _, _, _, _⟩) (v := ?v_48) rfl (by kernel_rfl) (by kernel_rfl) (by kernel_rfl) (fun _ _ _ h => h) (Or.inl ⟨by rfl, ?hy_48⟩) (by assumption) ?r_48
      case hy_48 => (intro w_ hS_; (try dsimp only at hS_); go_simp; try with_reducible rfl)
      try simp only [Act.put, List.setIfInBounds_toArray, List.set_cons_zero, List.set_cons_succ]
      refine wpAnyH_done (by kernel_rfl) ?_ _
      (have bf := And.right (by assumption : (∀ b o, b < w2.heap.size → World.cell? _ ⟨b, o, none⟩ = w2.cell? ⟨b, o, none⟩) ∧ Below w2.heap.size w2 _); go_wp2; go_ret; exact ⟨rfl, bt B0.out (bt B2.out bf)⟩)
    refine AllReadyH.cons (o := ⟨_, _, _, _, _, _⟩) rfl (fun K hK => ?_) AllReadyH.nil
    rw [if_pos (by rfl)]
    (first | (refine wp_load_mid 29 _ rfl _ _ rfl (jrC t5) _ (HS5.out _ (Below.refl _ _)) Tryz.underlying29 rfl jrC_info ?_))
    refine hK.out _ _ ?_ (fun hHeld => ?_)
    · (try dsimp only); (first | assumption | exact hk_drew | exact hk_call (by assumption) (by assumption) | exact hk_mk (by assumption) | (refine hk_alloc (by assumption) _) | (refine hk_row (by assumption) (by first | exact Nat.le_refl _ | exact hk_size (by assumption) | omega | (simp; done) | (simp; omega)) _) | (refine hk_set (by assumption) (by first | exact Nat.le_refl _ | exact hk_size (by assumption) | omega | (simp; done) | (simp; omega)) _))
    clear hK K
    try simp only [Act.put, List.setIfInBounds_toArray, List.set_cons_zero, List.set_cons_succ]
    refine wpAnyH_ready (rs := [34]) (by kernel_rfl) (by simp) ?_
    refine AllReadyH.cons (o := ⟨_, _, _, _, _, _⟩) rfl (fun K hK => ?_) AllReadyH.nil
    rw [if_pos (by rfl)]
    (first | (refine wp_load_mid 29 _ rfl _ _ rfl (jrC r4) _ (HR4.out _ (Below.refl _ _)) Tryz.underlying29 rfl jrC_info ?_) | (refine wp_load_mid 29 _ rfl _ _ rfl (jrC r4) _ (HR4.out _ he) Tryz.underlying29 rfl jrC_info ?_))
    refine hK.out _ _ ?_ (fun hHeld => ?_)
    · (try dsimp only); (first | assumption | exact hk_drew | exact hk_call (by assumption) (by assumption) | exact hk_mk (by assumption) | (refine hk_alloc (by assumption) _) | (refine hk_row (by assumption) (by first | exact Nat.le_refl _ | exact hk_size (by assumption) | omega | (simp; done) | (simp; omega)) _) | (refine hk_set (by assumption) (by first | exact Nat.le_refl _ | exact hk_size (by assumption) | omega | (simp; done) | (simp; omega)) _))
    clear hK K
    try simp only [Act.put, List.setIfInBounds_toArray, List.set_cons_zero, List.set_cons_succ]
    refine wpAnyH_ready (rs := [38]) (by kernel_rfl) (by simp) ?_
    refine AllReadyH.cons (o := ⟨_, _, _, _, _, _⟩) rfl (fun K hK => ?_) AllReadyH.nil
    go_simp
    (first | (go_at_call 8; refine (qn.out r4 t5 _ hr4 ht5).mono ?_; rintro e wy ⟨rfl, hy⟩))
    try go_wp2_with (fail)
    refine hK.out _ _ ?_ (fun hHeld => ?_)
    · (try dsimp only); (first | exact hk_call (by assumption) (by assumption) | assumption | exact hk_mk (by assumption))
    clear hK K
    try simp only [Act.put, List.setIfInBounds_toArray, List.set_cons_zero, List.set_cons_succ]
    refine wpAnyH_take (i := 39) (oi := ⟨_, _, _, _, _, _⟩) (v := ?v_49) rfl (by kernel_rfl) (by kernel_rfl) (by kernel_rfl) (fun _ _ _ h => h) (Or.inl ⟨by rfl, ?hy_49⟩) (by assumption) ?r_49
    case hy_49 => (intro w_ hS_; (try dsimp only at hS_); go_simp; try with_reducible rfl)
    try simp only [Act.put, List.setIfInBounds_toArray, List.set_cons_zero, List.set_cons_succ]
    refine wpAnyH_take (i := 40) (oi := ⟨_, _, _, _, _, _⟩) (v := ?v_50) rfl (by kernel_rfl) (by kernel_rfl) (by kernel_rfl) (fun _ _ _ h => h) (Or.inl ⟨by rfl, ?hy_50⟩) (by assumption) ?r_50
    case hy_50 => (intro w_ hS_; (try dsimp only at hS_); go_simp; try with_reducible rfl)
    try simp only [Act.put, List.setIfInBounds_toArray, List.set_cons_zero, List.set_cons_succ]
    refine wpAnyH_done (by kernel_rfl) ?_ _
    (have bf := And.right (by assumption : (∀ b o, b < w2.heap.size → World.cell? _ ⟨b, o, none⟩ = w2.cell? ⟨b, o, none⟩) ∧ Below w2.heap.size w2 _); go_wp2; go_ret; exact ⟨rfl, bt B0.out (bt B2.out bf)⟩)
  refine AllReadyH.cons (o := ⟨_, _, _, _, _, _⟩) rfl (fun K hK => ?_) AllReadyH.nil
  rw [if_pos (by rfl)]
  (first | (refine wp_load_mid 29 _ rfl _ _ rfl (jrC r3) _ (HR3.out _ (Below.refl _ _)) Tryz.underlying29 rfl jrC_info ?_))
  refine hK.out _ _ ?_ (fun hHeld => ?_)
  · (try dsimp only); (first | assumption | exact hk_drew | exact hk_call (by assumption) (by assumption) | exact hk_mk (by assumption) | (refine hk_alloc (by assumption) _) | (refine hk_row (by assumption) (by first | exact Nat.le_refl _ | exact hk_size (by assumption) | omega | (simp; done) | (simp; omega)) _) | (refine hk_set (by assumption) (by first | exact Nat.le_refl _ | exact hk_size (by assumption) | omega | (simp; done) | (simp; omega)) _))
  clear hK K
  try simp only [Act.put, List.setIfInBounds_toArray, List.set_cons_zero, List.set_cons_succ]
  refine wpAnyH_ready (rs := [25]) (by kernel_rfl) (by simp) ?_
  refine AllReadyH.cons (o := ⟨_, _, _, _, _, _⟩) rfl (fun K hK => ?_) AllReadyH.nil
  rw [if_pos (by rfl)]
  (first | (refine wp_load_mid 29 _ rfl _ _ rfl (jrC t1) _ (HS1.out _ (Below.refl _ _)) Tryz.underlying29 rfl jrC_info ?_) | (refine wp_load_mid 29 _ rfl _ _ rfl (jrC t1) _ (HS1.out _ hb) Tryz.underlying29 rfl jrC_info ?_))
  refine hK.out _ _ ?_ (fun hHeld => ?_)
  · (try dsimp only); (first | assumption | exact hk_drew | exact hk_call (by assumption) (by assumption) | exact hk_mk (by assumption) | (refine hk_alloc (by assumption) _) | (refine hk_row (by assumption) (by first | exact Nat.le_refl _ | exact hk_size (by assumption) | omega | (simp; done) | (simp; omega)) _) | (refine hk_set (by assumption) (by first | exact Nat.le_refl _ | exact hk_size (by assumption) | omega | (simp; done) | (simp; omega)) _))
  clear hK K
  try simp only [Act.put, List.setIfInBounds_toArray, List.set_cons_zero, List.set_cons_succ]
  refine wpAnyH_ready (rs := [29]) (by kernel_rfl) (by simp) ?_
  refine AllReadyH.cons (o := ⟨_, _, _, _, _, _⟩) rfl (fun K hK => ?_) AllReadyH.nil
  go_simp
  (first | (go_at_call 8; refine (qa.out r3 t1 _ hr3 ht1 (B2.out.trans ((And.right (by assumption : (∀ b o, b < w2.heap.size → World.cell? _ ⟨b, o, none⟩ = w2.cell? ⟨b, o, none⟩) ∧ Below w2.heap.size w2 _)).mono B2.out.size))).mono ?_; rintro e wx ⟨rfl, hx⟩))
  try go_wp2_with (fail)
  refine hK.out _ _ ?_ (fun hHeld => ?_)
  · (try dsimp only); (first | exact hk_call (by assumption) (by assumption) | assumption | exact hk_mk (by assumption))
  clear hK K
  try simp only [Act.put, List.setIfInBounds_toArray, List.set_cons_zero, List.set_cons_succ]
  refine wpAnyH_take (i := 30) (oi := ⟨_, _, _, _, _, _⟩) (v := ?v_51) rfl (by kernel_rfl) (by kernel_rfl) (by kernel_rfl) (fun _ _ _ h => h) (Or.inl ⟨by rfl, ?hy_51⟩) (by assumption) ?r_51
  case hy_51 => (intro w_ hS_; (try dsimp only at hS_); go_simp; try with_reducible rfl)
  try simp only [Act.put, List.setIfInBounds_toArray, List.set_cons_zero, List.set_cons_succ]
  refine wpAnyH_take (i := 31) (oi := ⟨_, _, _, _, _, _⟩) (v := ?v_52) rfl (by kernel_rfl) (by kernel_rfl) (by kernel_rfl) (fun _ _ _ h => h) (Or.inl ⟨by rfl, ?hy_52⟩) (by assumption) ?r_52
  case hy_52 => (intro w_ hS_; (try dsimp only at hS_); go_simp; try with_reducible rfl)
  try simp only [Act.put, List.setIfInBounds_toArray, List.set_cons_zero, List.set_cons_succ]
  refine wpAnyH_ready (rs := [32]) (by kernel_rfl) (by simp) ?_
  refine AllReadyH.cons (o := ⟨_, _, _, _, _, _⟩) rfl (fun K hK => ?_) AllReadyH.nil
  go_simp
  (first | (go_at_call 15; refine (three_rows _).mono ?_; rintro e wd ⟨b4, o4, r4, t4, rfl, hr4, ht4, HR4, HS4, hd⟩))
  try go_wp2_with (fail)
  refine hK.out _ _ ?_ (fun hHeld => ?_)
  · (try dsimp only); (first | exact hk_call (by assumption) (by assumption) | assumption | exact hk_mk (by assumption))
  clear hK K
  try simp only [Act.put, List.setIfInBounds_toArray, List.set_cons_zero, List.set_cons_succ]
  refine wpAnyH_take (i := 33) (oi := ⟨_, _, _, _, _, _⟩) (v := ?v_53) rfl (by kernel_rfl) (by kernel_rfl) (by kernel_rfl) (fun _ _ _ h => h) (Or.inl ⟨by rfl, ?hy_53⟩) (by assumption) ?r_53
  case hy_53 => (intro w_ hS_; (try dsimp only at hS_); go_simp; try with_reducible rfl)
  try simp only [Act.put, List.setIfInBounds_toArray, List.set_cons_zero, List.set_cons_succ]
  refine wpAnyH_ready (rs := [34, 35]) (by kernel_rfl) (by simp) ?_
  refine AllReadyH.cons (o := ⟨_, _, _, _, _, _⟩) rfl (fun K hK => ?_) ?_
  · rw [if_pos (by rfl)]
    (first | (refine wp_load_mid 29 _ rfl _ _ rfl (jrC r4) _ (HR4.out _ (Below.refl _ _)) Tryz.underlying29 rfl jrC_info ?_) | (refine wp_load_mid 29 _ rfl _ _ rfl (jrC r4) _ (HR4.out _ he) Tryz.underlying29 rfl jrC_info ?_))
    refine hK.out _ _ ?_ (fun hHeld => ?_)
    · (try dsimp only); (first | assumption | exact hk_drew | exact hk_call (by assumption) (by assumption) | exact hk_mk (by assumption) | (refine hk_alloc (by assumption) _) | (refine hk_row (by assumption) (by first | exact Nat.le_refl _ | exact hk_size (by assumption) | omega | (simp; done) | (simp; omega)) _) | (refine hk_set (by assumption) (by first | exact Nat.le_refl _ | exact hk_size (by assumption) | omega | (simp; done) | (simp; omega)) _))
    clear hK K
    try simp only [Act.put, List.setIfInBounds_toArray, List.set_cons_zero, List.set_cons_succ]
    refine wpAnyH_ready (rs := [35]) (by kernel_rfl) (by simp) ?_
    refine AllReadyH.cons (o := ⟨_, _, _, _, _, _⟩) rfl (fun K hK => ?_) AllReadyH.nil
    go_simp
    (first | (go_at_call 15; refine (three_rows _).mono ?_; rintro e we ⟨b5, o5, r5, t5, rfl, hr5, ht5, HR5, HS5, he⟩))
    try go_wp2_with (fail)
    refine hK.out _ _ ?_ (fun hHeld => ?_)
    · (try dsimp only); (first | exact hk_call (by assumption) (by assumption) | assumption | exact hk_mk (by assumption))
    clear hK K
    try simp only [Act.put, List.setIfInBounds_toArray, List.set_cons_zero, List.set_cons_succ]
    refine wpAnyH_take (i := 36) (oi := ⟨_, _, _, _, _, _⟩) (v := ?v_54) rfl (by kernel_rfl) (by kernel_rfl) (by kernel_rfl) (fun _ _ _ h => h) (Or.inl ⟨by rfl, ?hy_54⟩) (by assumption) ?r_54
    case hy_54 => (intro w_ hS_; (try dsimp only at hS_); go_simp; try with_reducible rfl)
    try simp only [Act.put, List.setIfInBounds_toArray, List.set_cons_zero, List.set_cons_succ]
    refine wpAnyH_ready (rs := [37]) (by kernel_rfl) (by simp) ?_
    refine AllReadyH.cons (o := ⟨_, _, _, _, _, _⟩) rfl (fun K hK => ?_) AllReadyH.nil
    rw [if_pos (by rfl)]
    (first | (refine wp_load_mid 29 _ rfl _ _ rfl (jrC t5) _ (HS5.out _ (Below.refl _ _)) Tryz.underlying29 rfl jrC_info ?_))
    refine hK.out _ _ ?_ (fun hHeld => ?_)
    · (try dsimp only); (first | assumption | exact hk_drew | exact hk_call (by assumption) (by assumption) | exact hk_mk (by assumption) | (refine hk_alloc (by assumption) _) | (refine hk_row (by assumption) (by first | exact Nat.le_refl _ | exact hk_size (by assumption) | omega | (simp; done) | (simp; omega)) _) | (refine hk_set (by assumption) (by first | exact Nat.le_refl _ | exact hk_size (by assumption) | omega | (simp; done) | (simp; omega)) _))
    clear hK K
    try simp only [Act.put, List.setIfInBounds_toArray, List.set_cons_zero, List.set_cons_succ]
    refine wpAnyH_ready (rs := [38]) (by kernel_rfl) (by simp) ?_
    refine AllReadyH.cons (o := ⟨_, _, _, _, _, _⟩) rfl (fun K hK => ?_) AllReadyH.nil
    go_simp
    (first | (go_at_call 8; refine (qn.out r4 t5 _ hr4 ht5).mono ?_; rintro e wy ⟨rfl, hy⟩))
    try go_wp2_with (fail)
    refine hK.out _ _ ?_ (fun hHeld => ?_)
    · (try dsimp only); (first | exact hk_call (by assumption) (by assumption) | assumption | exact hk_mk (by assumption))
    clear hK K
    try simp only [Act.put, List.setIfInBounds_toArray, List.set_cons_zero, List.set_cons_succ]
    refine wpAnyH_take (i := 39) (oi := ⟨_, _, _, _, _, _⟩) (v := ?v_55) rfl (by kernel_rfl) (by kernel_rfl) (by kernel_rfl) (fun _ _ _ h => h) (Or.inl ⟨by rfl, ?hy_55⟩) (by assumption) ?r_55
    case hy_55 => (intro w_ hS_; (try dsimp only at hS_); go_simp; try with_reducible rfl)
    try simp only [Act.put, List.setIfInBounds_toArray, List.set_cons_zero, List.set_cons_succ]
    refine wpAnyH_take (i := 40) (oi := ⟨_, _, _, _, _, _⟩) (v := ?v_56) rfl (by kernel_rfl) (by kernel_rfl) (by kernel_rfl) (fun _ _ _ h => h) (Or.inl ⟨by rfl, ?hy_56⟩) (by assumption) ?r_56
    case hy_56 => (intro w_ hS_; (try dsimp only at hS_); go_simp; try with_reducible rfl)
    try simp only [Act.put, List.setIfInBounds_toArray, List.set_cons_zero, List.set_cons_succ]
    refine wpAnyH_done (by kernel_rfl) ?_ _
    (have bf := And.right (by assumption : (∀ b o, b < w2.heap.size → World.cell? _ ⟨b, o, none⟩ = w2.cell? ⟨b, o, none⟩) ∧ Below w2.heap.size w2 _); go_wp2; go_ret; exact ⟨rfl, bt B0.out (bt B2.out bf)⟩)
  refine AllReadyH.cons (o := ⟨_, _, _, _, _, _⟩) rfl (fun K hK => ?_) AllReadyH.nil
  go_simp
  (first | (go_at_call 15; refine (three_rows _).mono ?_; rintro e we ⟨b5, o5, r5, t5, rfl, hr5, ht5, HR5, HS5, he⟩))
  try go_wp2_with (fail)
  refine hK.out _ _ ?_ (fun hHeld => ?_)
  · (try dsimp only); (first | exact hk_call (by assumption) (by assumption) | assumption | exact hk_mk (by assumption))
  clear hK K
  try simp only [Act.put, List.setIfInBounds_toArray, List.set_cons_zero, List.set_cons_succ]
  refine wpAnyH_take (i := 36) (oi := ⟨_, _, _, _, _, _⟩) (v := ?v_57) rfl (by kernel_rfl) (by kernel_rfl) (by kernel_rfl) (fun _ _ _ h => h) (Or.inl ⟨by rfl, ?hy_57⟩) (by assumption) ?r_57
  case hy_57 => (intro w_ hS_; (try dsimp only at hS_); go_simp; try with_reducible rfl)
  try simp only [Act.put, List.setIfInBounds_toArray, List.set_cons_zero, List.set_cons_succ]
  refine wpAnyH_ready (rs := [34, 37]) (by kernel_rfl) (by simp) ?_
  refine AllReadyH.cons (o := ⟨_, _, _, _, _, _⟩) rfl (fun K hK => ?_) ?_
  · rw [if_pos (by rfl)]
    (first | (refine wp_load_mid 29 _ rfl _ _ rfl (jrC r4) _ (HR4.out _ (Below.refl _ _)) Tryz.underlying29 rfl jrC_info ?_) | (refine wp_load_mid 29 _ rfl _ _ rfl (jrC r4) _ (HR4.out _ he) Tryz.underlying29 rfl jrC_info ?_))
    refine hK.out _ _ ?_ (fun hHeld => ?_)
    · (try dsimp only); (first | assumption | exact hk_drew | exact hk_call (by assumption) (by assumption) | exact hk_mk (by assumption) | (refine hk_alloc (by assumption) _) | (refine hk_row (by assumption) (by first | exact Nat.le_refl _ | exact hk_size (by assumption) | omega | (simp; done) | (simp; omega)) _) | (refine hk_set (by assumption) (by first | exact Nat.le_refl _ | exact hk_size (by assumption) | omega | (simp; done) | (simp; omega)) _))
    clear hK K
    try simp only [Act.put, List.setIfInBounds_toArray, List.set_cons_zero, List.set_cons_succ]
    refine wpAnyH_ready (rs := [37]) (by kernel_rfl) (by simp) ?_
    refine AllReadyH.cons (o := ⟨_, _, _, _, _, _⟩) rfl (fun K hK => ?_) AllReadyH.nil
    rw [if_pos (by rfl)]
    (first | (refine wp_load_mid 29 _ rfl _ _ rfl (jrC t5) _ (HS5.out _ (Below.refl _ _)) Tryz.underlying29 rfl jrC_info ?_))
    refine hK.out _ _ ?_ (fun hHeld => ?_)
    · (try dsimp only); (first | assumption | exact hk_drew | exact hk_call (by assumption) (by assumption) | exact hk_mk (by assumption) | (refine hk_alloc (by assumption) _) | (refine hk_row (by assumption) (by first | exact Nat.le_refl _ | exact hk_size (by assumption) | omega | (simp; done) | (simp; omega)) _) | (refine hk_set (by assumption) (by first | exact Nat.le_refl _ | exact hk_size (by assumption) | omega | (simp; done) | (simp; omega)) _))
    clear hK K
    try simp only [Act.put, List.setIfInBounds_toArray, List.set_cons_zero, List.set_cons_succ]
    refine wpAnyH_ready (rs := [38]) (by kernel_rfl) (by simp) ?_
    refine AllReadyH.cons (o := ⟨_, _, _, _, _, _⟩) rfl (fun K hK => ?_) AllReadyH.nil
    go_simp
    (first | (go_at_call 8; refine (qn.out r4 t5 _ hr4 ht5).mono ?_; rintro e wy ⟨rfl, hy⟩))
    try go_wp2_with (fail)
    refine hK.out _ _ ?_ (fun hHeld => ?_)
    · (try dsimp only); (first | exact hk_call (by assumption) (by assumption) | assumption | exact hk_mk (by assumption))
    clear hK K
    try simp only [Act.put, List.setIfInBounds_toArray, List.set_cons_zero, List.set_cons_succ]
    refine wpAnyH_take (i := 39) (oi := ⟨_, _, _, _, _, _⟩) (v := ?v_58) rfl (by kernel_rfl) (by kernel_rfl) (by kernel_rfl) (fun _ _ _ h => h) (Or.inl ⟨by rfl, ?hy_58⟩) (by assumption) ?r_58
    case hy_58 => (intro w_ hS_; (try dsimp only at hS_); go_simp; try with_reducible rfl)
    try simp only [Act.put, List.setIfInBounds_toArray, List.set_cons_zero, List.set_cons_succ]
    refine wpAnyH_take (i := 40) (oi := ⟨_, _, _, _, _, _⟩) (v := ?v_59) rfl (by kernel_rfl) (by kernel_rfl) (by kernel_rfl) (fun _ _ _ h => h) (Or.inl ⟨by rfl, ?hy_59⟩) (by assumption) ?r_59
    case hy_59 => (intro w_ hS_; (try dsimp only at hS_); go_simp; try with_reducible rfl)
    try simp only [Act.put, List.setIfInBounds_toArray, List.set_cons_zero, List.set_cons_succ]
    refine wpAnyH_done (by kernel_rfl) ?_ _
    (have bf := And.right (by assumption : (∀ b o, b < w2.heap.size → World.cell? _ ⟨b, o, none⟩ = w2.cell? ⟨b, o, none⟩) ∧ Below w2.heap.size w2 _); go_wp2; go_ret; exact ⟨rfl, bt B0.out (bt B2.out bf)⟩)
  refine AllReadyH.cons (o := ⟨_, _, _, _, _, _⟩) rfl (fun K hK => ?_) AllReadyH.nil
  rw [if_pos (by rfl)]
  (first | (refine wp_load_mid 29 _ rfl _ _ rfl (jrC t5) _ (HS5.out _ (Below.refl _ _)) Tryz.underlying29 rfl jrC_info ?_))
  refine hK.out _ _ ?_ (fun hHeld => ?_)
  · (try dsimp only); (first | assumption | exact hk_drew | exact hk_call (by assumption) (by assumption) | exact hk_mk (by assumption) | (refine hk_alloc (by assumption) _) | (refine hk_row (by assumption) (by first | exact Nat.le_refl _ | exact hk_size (by assumption) | omega | (simp; done) | (simp; omega)) _) | (refine hk_set (by assumption) (by first | exact Nat.le_refl _ | exact hk_size (by assumption) | omega | (simp; done) | (simp; omega)) _))
  clear hK K
  try simp only [Act.put, List.setIfInBounds_toArray, List.set_cons_zero, List.set_cons_succ]
  refine wpAnyH_ready (rs := [34]) (by kernel_rfl) (by simp) ?_
  refine AllReadyH.cons (o := ⟨_, _, _, _, _, _⟩) rfl (fun K hK => ?_) AllReadyH.nil
  rw [if_pos (by rfl)]
  (first | (refine wp_load_mid 29 _ rfl _ _ rfl (jrC r4) _ (HR4.out _ (Below.refl _ _)) Tryz.underlying29 rfl jrC_info ?_) | (refine wp_load_mid 29 _ rfl _ _ rfl (jrC r4) _ (HR4.out _ he) Tryz.underlying29 rfl jrC_info ?_))
  refine hK.out _ _ ?_ (fun hHeld => ?_)
  · (try dsimp only); (first | assumption | exact hk_drew | exact hk_call (by assumption) (by assumption) | exact hk_mk (by assumption) | (refine hk_alloc (by assumption) _) | (refine hk_row (by assumption) (by first | exact Nat.le_refl _ | exact hk_size (by assumption) | omega | (simp; done) | (simp; omega)) _) | (refine hk_set (by assumption) (by first | exact Nat.le_refl _ | exact hk_size (by assumption) | omega | (simp; done) | (simp; omega)) _))
  clear hK K
  try simp only [Act.put, List.setIfInBounds_toArray, List.set_cons_zero, List.set_cons_succ]
  refine wpAnyH_ready (rs := [38]) (by kernel_rfl) (by simp) ?_
  refine AllReadyH.cons (o := ⟨_, _, _, _, _, _⟩) rfl (fun K hK => ?_) AllReadyH.nil
  go_simp
  (first | (go_at_call 8; refine (qn.out r4 t5 _ hr4 ht5).mono ?_; rintro e wy ⟨rfl, hy⟩))
  try go_wp2_with (fail)
  refine hK.out _ _ ?_ (fun hHeld => ?_)
  · (try dsimp only); (first | exact hk_call (by assumption) (by assumption) | assumption | exact hk_mk (by assumption))
  clear hK K
  try simp only [Act.put, List.setIfInBounds_toArray, List.set_cons_zero, List.set_cons_succ]
  refine wpAnyH_take (i := 39) (oi := ⟨_, _, _, _, _, _⟩) (v := ?v_60) rfl (by kernel_rfl) (by kernel_rfl) (by kernel_rfl) (fun _ _ _ h => h) (Or.inl ⟨by rfl, ?hy_60⟩) (by assumption) ?r_60
  case hy_60 => (intro w_ hS_; (try dsimp only at hS_); go_simp; try with_reducible rfl)
  try simp only [Act.put, List.setIfInBounds_toArray, List.set_cons_zero, List.set_cons_succ]
  refine wpAnyH_take (i := 40) (oi := ⟨_, _, _, _, _, _⟩) (v := ?v_61) rfl (by kernel_rfl) (by kernel_rfl) (by kernel_rfl) (fun _ _ _ h => h) (Or.inl ⟨by rfl, ?hy_61⟩) (by assumption) ?r_61
  case hy_61 => (intro w_ hS_; (try dsimp only at hS_); go_simp; try with_reducible rfl)
  try simp only [Act.put, List.setIfInBounds_toArray, List.set_cons_zero, List.set_cons_succ]
  refine wpAnyH_done (by kernel_rfl) ?_ _
  (have bf := And.right (by assumption : (∀ b o, b < w2.heap.size → World.cell? _ ⟨b, o, none⟩ = w2.cell? ⟨b, o, none⟩) ∧ Below w2.heap.size w2 _); go_wp2; go_ret; exact ⟨rfl, bt B0.out (bt B2.out bf)⟩)
end Go.Proofs.YtmkmmggimokagaaGreatDoor
