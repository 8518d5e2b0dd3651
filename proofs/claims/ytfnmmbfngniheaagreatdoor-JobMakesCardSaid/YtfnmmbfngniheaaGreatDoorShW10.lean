/- Layer 7: Options of a range walked. -/
import Derived.Test.YtfnmmbfngniheaaGreatDoorShW9
namespace Go.Proofs.YtfnmmbfngniheaaGreatDoor
set_option linter.unusedVariables false
open Go.RowKit Go.Shelf
attribute [local go_sem] Oper.semAt_some
def wid (wall : Int) (l : List Int) : List Pr := l.map (fun x => (x, wall))
set_option maxRecDepth 100000 in
set_option maxHeartbeats 4000000 in
theorem opts_range (s : Sh) (A : Option Addr) (c : Nat) (w : World) (hq : okS s = true) (h3 : s.kind = 3) :
    Calls Tryz.prog 109 #[shV s A c] w (RetOpt w (optS s)) := by
  have hc := Lib.hid (fun v => shape_three s A c v h3)
  rw [she_yes hq] at hc
  obtain ⟨ha, h1, h2, h4, ho⟩ := opt_down hq h3
  rw [ho]
  have hcl := Lib.hid (fun v => clone_empty A c v)
  unfold shV at hc ⊢
  rw [ha, h3] at hc ⊢
  obtain ⟨kind, l, mn, mx, wall⟩ := s
  dsimp only at hc h1 h2 h4 ⊢
  rw [List.length_nil] at hc ⊢
  clear ho hq h3 ha
  obtain ⟨N, hN⟩ : ∃ N, (mx - mn + 1).toNat = N := ⟨_, rfl⟩
  rw [hN]
  have hN2 : (N : Int) = mx - mn + 1 := by omega
  have hmf : ∀ (fn : Fn) (first cap : Array Value) (w : World), (Instr.makeFunc fn first cap).run Tryz.prog w = .ok (.func fn first cap) w := fun _ _ _ _ => rfl
  have hro : Fence.wide.round = none := rfl
  have hbx : Below w.heap.size w (w.alloc (.cells #[.int .i64 3, .slice A 0 c, .int .i64 mn, .int .i64 mx, .int .i64 wall] 24)) := (Below.refl _ _).alloc (Nat.le_refl _) _
  have HBX := Lib.hid hbx
  clear hbx
  refine (callsIn_wide (n := 3)).1 ?_
  refine callsIn_of_wp_marks Tryz.func109 rfl trivial ?_ hro
  simp only [Tryz.ntmps109, List.size_toArray, List.length_cons, List.length_nil, Nat.reduceAdd, Nat.reduceSub, Array.replicate_succ, Array.replicate_zero, List.push_toArray, List.append_toArray, List.nil_append, List.cons_append]
  gi_wp2_with (first
    | (refine ⟨trivial, ?_⟩; gi_at_call 170; refine (callsIn_wide.2 (hc.out _)).mono ?_; rintro e w1 ⟨rfl, hb1⟩
       have k0 : w1.cell? ⟨w.heap.size, 0, none⟩ = some (.int .i64 3) := boxed_cell hb1 0
       have k1 : w1.cell? ⟨w.heap.size, 1, none⟩ = some (.slice A 0 c) := boxed_cell hb1 1
       have k2 : w1.cell? ⟨w.heap.size, 2, none⟩ = some (.int .i64 mn) := boxed_cell hb1 2
       have k3 : w1.cell? ⟨w.heap.size, 3, none⟩ = some (.int .i64 mx) := boxed_cell hb1 3
       have k4 : w1.cell? ⟨w.heap.size, 4, none⟩ = some (.int .i64 wall) := boxed_cell hb1 4
       have B1 := Lib.hid (bt HBX.out hb1)
       have hz1 := hb1.size
       simp only [World.size_alloc] at hz1
       clear hb1)
    | (refine ⟨trivial, ?_⟩; gi_at_call 131; refine (callsIn_wide.2 (hcl.out _)).mono ?_; rintro e w2 ⟨A0, c0, rfl, ho0, hb2⟩
       have j0 : w2.cell? ⟨w.heap.size, 0, none⟩ = some (.int .i64 3) := by rw [(bcell hb2).1 _ _ (by omega)]; exact k0
       have j2 : w2.cell? ⟨w.heap.size, 2, none⟩ = some (.int .i64 mn) := by rw [(bcell hb2).1 _ _ (by omega)]; exact k2
       have j3 : w2.cell? ⟨w.heap.size, 3, none⟩ = some (.int .i64 mx) := by rw [(bcell hb2).1 _ _ (by omega)]; exact k3
       have hz2 := hb2.size
       have hlt2 : w.heap.size < w2.heap.size := by omega)
    | (refine ⟨trivial, ?_⟩; gi_at_call 171; refine (callsIn_wide.2 (sizes_any _ _ _)).mono ?_; rintro e w' ⟨rfl, rfl⟩))
  obtain ⟨i0, hi, hz0, hz1, hz2'⟩ := info_parts Tryz.infoA
  obtain ⟨W0, hW0⟩ : ∃ W0, (((w2.alloc (.cells #[.slice A0 0 c0] 22)).alloc (.cells #[.int .i64 mn] 3)).alloc (.cells #[.int .i64 mx] 3)) = W0 := ⟨_, rfl⟩
  have hs0 : W0.heap.size = w2.heap.size + 3 := by rw [← hW0]; simp
  have bO : Boxed W0 w2.heap.size 22 (.slice A0 0 c0) := by rw [← hW0]; exact ((Boxed.new w2 _ _).alloc _).alloc _
  have bF : Boxed W0 (w2.heap.size + 1) 3 (.int .i64 mn) := by
    rw [← hW0]
    have h := Boxed.new (w2.alloc (.cells #[.slice A0 0 c0] 22)) 3 (.int .i64 mn)
    rw [World.size_alloc] at h
    exact h.alloc _
  have bT : Boxed W0 (w2.heap.size + 1 + 1) 3 (.int .i64 mx) := by
    rw [← hW0]
    have h := Boxed.new ((w2.alloc (.cells #[.slice A0 0 c0] 22)).alloc (.cells #[.int .i64 mn] 3)) 3 (.int .i64 mx)
    rw [World.size_alloc, World.size_alloc] at h
    exact h
  have hB0 : Below w1.heap.size w1 W0 := by
    rw [← hW0]
    exact ((hb2.alloc hz2 _).alloc (by simp; omega) _).alloc (by simp; omega) _
  have hr0 : W0.ownsRow w1.heap.size 114 2 (.slice A0 0 c0) 0 [] := by
    rw [← hW0]; exact ((ho0.alloc _).alloc _).alloc _
  rw [hW0]
  clear hW0
  refine wpIn_rangeFunc_ownF hro (by omega) (gf := 193) (lb := #[.pointer (some ⟨w2.heap.size + 1 + 1, 0, none⟩), .pointer (some ⟨w2.heap.size + 1, 0, none⟩)]) rfl trivial (enters_of Tryz.func193 (by kernel_rfl) rfl)
    (sizes_stops Fence.wide (3 - 1) trivial hro (by omega) (w2.heap.size + 1 + 1) (w2.heap.size + 1) N mn mx (by omega) (by omega) hN2 W0 (by omega) (by omega) bT.cell bF)
    (fun h k hb => k (h hb))
    (fun W l o o' hl ho hoc _ hb => hb.kept (grownBy_putObj' W l o') (fun e => by
      obtain rfl : w2.heap.size + 1 = l := by simpa using e
      rw [show W.heap[w2.heap.size + 1]? = _ from hb] at ho; cases ho; cases hoc))
    (Below.refl _ _) (fun _ => rfl)
    (fun pre W => (∃ v, Boxed W w2.heap.size 22 v ∧ W.ownsRow w1.heap.size 114 2 v pre.length (recs prC (wid wall pre)) ∧ (∃ A c, v = .slice A pre.length c)) ∧ (Boxed W (w2.heap.size + 1) 3 (.int .i64 mn) ∧ Below w1.heap.size w1 W))
    (fun _ _ _ => False)
    (OwnFrom.and (Own.from (holdsRow_own w1.heap.size w2.heap.size 22 114 2 (fun pre : List Int => pre.length) (fun pre => recs prC (wid wall pre)) (fun pre v => ∃ A c, v = .slice A pre.length c)) _) (OwnFrom.and (Own.from (boxed_own (w2.heap.size + 1) 3 (fun _ => .int .i64 mn)) _) (ownFrom_below (Nat.le_refl _) (by omega))))
    (fun _ _ _ _ _ hs _ _ => hs)
    ⟨⟨_, bO, hr0, A0, c0, rfl⟩, bF, hB0⟩
    (fun x => { tmps := #[.agg #[.int .i64 3, .slice A 0 c, .int .i64 mn, .int .i64 mx, .int .i64 wall], .pointer (some ⟨w.heap.size, 0, none⟩), .slice none 0 0, .pointer (some ⟨w2.heap.size, 0, none⟩), .int .i64 x,
        .agg #[.int .i64 3, .slice A 0 c, .int .i64 mn, .int .i64 mx, .int .i64 wall], .int .i64 0, .bool false, .pointer (some ⟨w.heap.size, 1, none⟩), .slice A 0 c, .slice A0 0 c0, .pointer (some ⟨w.heap.size, 0, none⟩),
        .int .i64 3, .bool true, .pointer (some ⟨w.heap.size, 2, none⟩), .int .i64 mn, .pointer (some ⟨w.heap.size, 3, none⟩), .int .i64 mx,
        .func (.func 193) #[] #[.pointer (some ⟨w2.heap.size + 1 + 1, 0, none⟩), .pointer (some ⟨w2.heap.size + 1, 0, none⟩)], .int .i64 x, undef, undef, undef, undef, undef, undef, undef, undef], defers := [] }) ?assign ?body ?done ?stop
  case assign =>
    intro l x W K hK
    gi_wp2
    exact hK
  case body =>
    rintro l pre x W ⟨⟨v, hv, hrow, A9, c9, rfl⟩, hbf, hB⟩ hlt
    have hc := hv.cell
    have hcw : W.cell? ⟨w.heap.size, 4, none⟩ = some (.int .i64 wall) := (hB.cell (p := ⟨w.heap.size, 4, none⟩) (show w.heap.size < w1.heap.size by omega)).trans k4
    have hBs := hB.size
    have hnew : ∀ (j : Nat) u, ([Value.int .i64 x, Value.int .i64 wall])[j]? = some u → (W.alloc (.cells #[.int .i64 x, .int .i64 wall] 114)).cell? (Addr.add ⟨W.heap.size, 0, none⟩ j) = some u := by
      intro j u hu
      rw [add_plain, Nat.zero_add, cell_of_row (W.alloc (.cells #[.int .i64 x, .int .i64 wall] 114)) W.heap.size j _ _ (0, 0) (heap_alloc_new W _)]
      simpa using hu
    gi_wp2_with (gi_at_builtin; refine wpListIn_append_own _ rfl _ _ 22 rfl w1.heap.size 114 i0 _ 2 16 Tryz.underlying22 hi hz0 hz1 hz2' rfl (by decide) _ _ _ rfl (hrow.alloc _) ⟨W.heap.size, 0, none⟩ 1 1 [.int .i64 x, .int .i64 wall] rfl rfl hnew (by simp [Value.oneCell']) (by simp only [maxLen]; omega) (by omega) (by simp; omega) ?_; intro v' w3 hown' hgrow _; obtain ⟨g', cap', rfl⟩ := ownsRow_succ hown'; obtain ⟨hv1, hv2, hr2, hk2, hb3⟩ := hv.appended (by decide) hrow hBs (by omega) hown' hgrow; have hc1 := hv1.cell; have hf1 := hv1.frozen)
    refine ⟨hk2, fun hb => ((hb.alloc _).kept hgrow (hb.not_row (by decide) hrow)).other (show w2.heap.size + 1 ≠ w2.heap.size by omega) _, ⟨_, hv2, ?_, _, _, by rw [List.length_append]; rfl⟩, ?_, hB.trans hb3⟩
    · have e : recs prC (wid wall (pre ++ [x])) = recs prC (wid wall pre) ++ [.int .i64 x, .int .i64 wall] := by unfold wid; rw [List.map_append, recs_append]; rfl
      rw [e, List.length_append]
      exact hr2
    · exact ((hbf.alloc _).kept hgrow (hbf.not_row (by decide) hrow)).other (show w2.heap.size + 1 ≠ w2.heap.size by omega) _
  case done =>
    rintro D ys W hD rfl ⟨⟨v, hv, hrow, A9, c9, rfl⟩, hbf, hB⟩ hK
    have hc := hv.cell
    gi_wp2
    refine ⟨by simp, .inl ⟨_, _, rfl, run_takeDeferred hK, ?_⟩⟩
    have hl : ((downN mx N).map (fun x => (x, wall))).length = (downN mx N).length := List.length_map ..
    refine ⟨_, results_tmp rfl _ _ _, A9, c9, ?_, ?_, ?_, ?_⟩
    · rw [hl]; rfl
    · rw [hl]
      obtain ⟨A', c', e, h, _⟩ := (show Owns W w1.heap.size 114 2 (.slice A9 (downN mx N).length c9) (downN mx N).length (recs prC (wid wall (downN mx N))) from .inl hrow).slice
      cases e; exact h
    · rw [hl]
      exact Reads.of_own (ownsRow_putObj hrow _ hK rfl)
    · exact (B1.out.trans (hB.mono (by omega))).trans (belowK_b (w := w) (Nat.le_refl _) W D _ _ (by omega) hK rfl rfl)
  case stop =>
    rintro D c pre W hD _ h _
    exact h.elim
end Go.Proofs.YtfnmmbfngniheaaGreatDoor
