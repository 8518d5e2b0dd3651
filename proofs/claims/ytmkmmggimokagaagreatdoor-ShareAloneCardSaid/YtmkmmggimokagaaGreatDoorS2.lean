/- Layer 7: the sizes of a range, from the greatest down; a clone of nothing. Layer 7: Options walked. Layer 7: Options of a range walked. Layer 7: Options and Allows. -/
import Derived.Test.YtmkmmggimokagaaGreatDoorS1
import Derived.RangeFuncNested
import Derived.RangeFuncBox
import Derived.RangeFuncBound
import Derived.RangeFuncCalls
import Derived.RangeFuncLeaves
import Derived.RangeFuncFrom
import Derived.Shelf.Abstract
import Derived.Shelf.RegionOpen
import Derived.WalkKit
import Derived.OwnWalkIn
import Derived.TacticsInMore
import Derived.LoopNIn
import Derived.LoopIn
import Derived.Maps.AppendAt
namespace Go.Proofs.YtmkmmggimokagaaGreatDoor
set_option linter.unusedVariables false
open Go.RowKit Go.Shelf
attribute [local go_sem] Oper.semAt_some
/-- what comes, from the greatest down -/
def downN (hi : Int) (k : Nat) : List Int := (List.range k).map (fun (i : Nat) => hi - (i : Int))
theorem downN_succ (hi : Int) (k : Nat) : downN hi (k + 1) = downN hi k ++ [hi - (k : Int)] := by unfold downN; rw [List.range_succ]; simp
theorem downN_len (hi : Int) (k : Nat) : (downN hi k).length = k := by unfold downN; simp
theorem downN_pre (hi : Int) {j k : Nat} (h : j ≤ k) : downN hi j <+: downN hi k := by
  unfold downN
  refine List.IsPrefix.map _ ?_
  rw [List.prefix_iff_eq_take, List.length_range, List.take_range, Nat.min_eq_left h]
theorem sizes_any (a b : Int) (w : World) : Calls Tryz.prog 95 #[.int .i64 a, .int .i64 b] w fun e w' =>
    e = .returned (.func (.func 108) #[] #[.pointer (some ⟨w.heap.size + 1, 0, none⟩), .pointer (some ⟨w.heap.size, 0, none⟩)]) ∧ w' = (w.alloc (.cells #[.int .i64 a] 3)).alloc (.cells #[.int .i64 b] 3) := by
  have hmf : ∀ (fn : Fn) (first cap : Array Value) (w : World), (Instr.makeFunc fn first cap).run Tryz.prog w = .ok (.func fn first cap) w := fun _ _ _ _ => rfl
  go_enter Tryz.func95, Tryz.ntmps95
  go_wp2
  go_ret
  exact ⟨rfl, rfl⟩
/-- what a round keeps for the iterator: the box of the least size -/
def KeptBox (f : Nat) (lo : Int) (W W' : World) : Prop := Boxed W f 3 (.int .i64 lo) → Boxed W' f 3 (.int .i64 lo)
set_option maxRecDepth 100000 in
set_option maxHeartbeats 1000000 in
theorem sizes_in (F : Fence) (n : Nat) (h6 : F.fn 108) (hro : F.round = none) (hn : 1 ≤ n) (l Bt Bf N : Nat) (lo hi : Int) (hlo : -1000 ≤ lo) (hhi : hi ≤ 1000) (hN : (N : Int) = hi - lo + 1) (J Jx : List Int → World → Prop)
    (hY : ∀ pre x W, J pre W → pre.length < N → YieldAt F (n - 1) Tryz.prog l #[.int .i64 x] W fun e W' =>
      (e = .returned (.bool true) ∧ J (pre ++ [x]) W' ∧ KeptBox Bf lo W W') ∨ (e = .returned (.bool false) ∧ Jx (pre ++ [x]) W'))
    (W : World) (hBt : W.cell? ⟨Bt, 0, none⟩ = some (.int .i64 hi)) (hBf : Boxed W Bf 3 (.int .i64 lo)) (h0 : J [] W) :
    CallsIn F n Tryz.prog 108 #[.func (.yield l) #[] #[], .pointer (some ⟨Bt, 0, none⟩), .pointer (some ⟨Bf, 0, none⟩)] W fun e W' => (∃ v, e = .returned v) ∧
      ((∃ ys, ys = downN hi N ∧ J ys W') ∨ (∃ pre, pre <+: downN hi N ∧ Jx pre W')) := by
  refine callsIn_of_wp Tryz.func108 rfl h6 ?_ hro
  simp only [Tryz.ntmps108, List.size_toArray, List.length_cons, List.length_nil, Nat.reduceAdd, Nat.reduceSub, Array.replicate_succ, Array.replicate_zero, List.push_toArray, List.append_toArray, List.nil_append, List.cons_append]
  gi_wp2
  gi_loopw [4] (fun p wr => ∃ k : Nat, k ≤ N ∧ p = .int .i64 (hi - (k : Int)) ∧ Boxed wr Bf 3 (.int .i64 lo) ∧ J (downN hi k) wr)
    (fun p _ => (intOf p - lo + 1).toNat)
  case atStart =>
    exact ⟨0, Nat.zero_le _, by simp, hBf, h0⟩
  case round =>
    obtain ⟨k, hk, rfl, hb, hJs⟩ := hrel
    have hcb := hb.cell
    by_cases hlt : k < N
    · have t0 : decide (lo ≤ hi - (k : Int)) = true := by simp; omega
      obtain ⟨fn, tmps, assign, body, hy, hR⟩ := hY (downN hi k) (hi - (k : Int)) wr hJs (by rw [downN_len]; exact hlt)
      gi_wp2
      refine hR.mono ?_
      rintro e W3 (⟨rfl, hJ3, hk3⟩ | ⟨rfl, hJx3⟩)
      · have hb3 := hk3 hb
        gi_wp2
        go_roundw
        case rel => exact ⟨k + 1, hlt, by congr 1; omega, hb3, by rw [downN_succ]; exact hJ3⟩
        case measure => simp [intOf]; omega
      · gi_wp2
        refine bodyPost_ret (results_none rfl _ _ _) rfl ?_
        exact ⟨⟨_, rfl⟩, .inr ⟨_, by rw [← downN_succ]; exact downN_pre hi hlt, hJx3⟩⟩
    · obtain rfl : k = N := by omega
      have t0 : decide (lo ≤ hi - (k : Int)) = false := by simp; omega
      gi_wp2
      go_end0
      exact ⟨⟨_, rfl⟩, .inl ⟨_, rfl, hJs⟩⟩
theorem sizes_stops (F : Fence) (n : Nat) (h6 : F.fn 108) (hro : F.round = none) (hn : 1 ≤ n) (Bt Bf N : Nat) (lo hi : Int) (hlo : -1000 ≤ lo) (hhi : hi ≤ 1000) (hN : (N : Int) = hi - lo + 1) (w : World) (hBt : Bt < w.heap.size) (hBf : Bf < w.heap.size)
    (hct : w.cell? ⟨Bt, 0, none⟩ = some (.int .i64 hi)) (hcf : Boxed w Bf 3 (.int .i64 lo)) :
    SeqStopsK F n Tryz.prog 108 #[.pointer (some ⟨Bt, 0, none⟩), .pointer (some ⟨Bf, 0, none⟩)] (fun x : Int => #[Value.int .i64 x]) (KeptBox Bf lo) (fun ys => ys = downN hi N) (fun pre => pre <+: downN hi N) N w := fun l J Jx W hW _ _ hY h0 =>
  sizes_in F n h6 hro hn l Bt Bf N lo hi hlo hhi hN J Jx hY W ((hW.cell (p := ⟨Bt, 0, none⟩) hBt).trans hct) ((hW.block Bf hBf).trans hcf) h0
end Go.Proofs.YtmkmmggimokagaaGreatDoor
namespace Go.Proofs.YtmkmmggimokagaaGreatDoor
set_option linter.unusedVariables false
open Go.RowKit Go.Shelf
attribute [local go_sem] Oper.semAt_some
set_option maxRecDepth 100000 in
set_option maxHeartbeats 1000000 in
theorem clone_empty (A : Option Addr) (c : Nat) (w : World) :
    Calls Tryz.prog 94 #[.slice A 0 c] w fun e w' => ∃ A2 c2, e = .returned (.slice A2 0 c2) ∧ w'.ownsRow w.heap.size 66 2 (.slice A2 0 c2) 0 [] ∧ Below w.heap.size w w' := by
  have heq := fun v => eqA_nil A 0 c v
  cases hA : A with
  | none =>
    subst hA
    rw [show (none : Option Addr).isNone = true from rfl] at heq
    go_enter Tryz.func94, Tryz.ntmps94
    go_wp2
    go_ret
    exact ⟨none, 0, rfl, World.ownsRow_nil _ _ _ _, Below.refl _ _⟩
  | some ad =>
    subst hA
    rw [show (some ad).isNone = false from rfl] at heq
    obtain ⟨i0, hi, hz0, hz1, hz2⟩ := info_parts Tryz.infoA
    have h0 := World.ownsRow_lit (base := w.heap.size) (e := 66) (size := 2) w #[] 0 (Nat.le_refl _) (by simp [maxLen]) (by simp)
    have hb := (Below.refl w.heap.size w).alloc (Nat.le_refl _) (.cells #[] 66)
    go_enter Tryz.func94, Tryz.ntmps94
    go_wp2
    go_ret
    exact ⟨_, _, rfl, h0, hb⟩
/-- a call hands back options -/
def RetOpt (w : World) (l : List Pr) (en : Ending) (w' : World) : Prop :=
  ∃ A c, en = .returned (.slice A l.length c) ∧ l.length ≤ c ∧ Reads w' w'.heap.size 2 A l.length (recs prC l) ∧ Below w.heap.size w w'
theorem opt_no {s : Sh} (h : okS s = false) : optS s = [] := by unfold optS; rw [if_neg (by rw [h]; simp)]
theorem she_no {s : Sh} (h : okS s = false) : shE s = 70 := by unfold shE; rw [if_neg (by rw [h]; simp)]
theorem she_yes {s : Sh} (h : okS s = true) : shE s = 0 := by unfold shE; rw [if_pos h]
theorem opt_list {s : Sh} (h : okS s = true) (h3 : s.kind ≠ 3) : optS s = s.alts := by unfold optS; rw [if_pos h, if_neg h3]
theorem opt_down {s : Sh} (h : okS s = true) (h3 : s.kind = 3) : s.alts = [] ∧ 1 ≤ s.mn ∧ s.mn ≤ s.mx ∧ s.mx ≤ 48 ∧ optS s = (downN s.mx (s.mx - s.mn + 1).toNat).map (fun x => (x, s.wall)) := by
  have h2 := h
  unfold okS at h2
  rw [if_neg (show ¬ s.kind = 1 by omega), if_neg (show ¬ s.kind = 2 by omega), if_pos h3] at h2
  unfold fineA at h2
  simp only [Bool.and_eq_true, decide_eq_true_eq] at h2
  obtain ⟨⟨⟨h4, h5⟩, ⟨⟨h6, _⟩, _⟩, _⟩, h7⟩ := h2
  refine ⟨List.length_eq_zero_iff.1 h4, h6, h5, h7, ?_⟩
  unfold optS downN
  rw [if_pos h, if_pos h3, List.map_map]
  rfl
set_option maxRecDepth 100000 in
set_option maxHeartbeats 2000000 in
theorem opts_plain (s : Sh) (A : Option Addr) (c B : Nat) (w : World) (hr : Reads w B 2 A s.alts.length (recs prC s.alts)) (hB : B ≤ w.heap.size) (hn : s.alts.length ≤ 100000) (hcap : s.alts.length ≤ c) (hk : okS s = false ∨ s.kind ≠ 3) :
    Calls Tryz.prog 71 #[shV s A c] w (RetOpt w (optS s)) := by
  have hc := Lib.hid (fun v (hv : Below w.heap.size w v) => shape_any s A c B v (hr.below (hv.mono hB)) (Nat.le_trans hB hv.size) (by omega) hcap)
  have hcl := Lib.hid (fun v (hv : Below w.heap.size w v) => cloneA_any A s.alts.length c B s.alts v (hr.below (hv.mono hB)) (Nat.le_trans hB hv.size) hn)
  have hbx : Below w.heap.size w (w.alloc (.cells #[.int .i64 s.kind, .slice A s.alts.length c, .int .i64 s.mn, .int .i64 s.mx, .int .i64 s.wall] 25)) := (Below.refl _ _).alloc (Nat.le_refl _) _
  cases hq : okS s
  · rw [she_no hq] at hc
    rw [opt_no hq]
    obtain ⟨n, hnn⟩ : ∃ n, s.alts.length = n := ⟨_, rfl⟩
    unfold shV at hc ⊢
    rw [hnn] at hc hbx ⊢
    obtain ⟨kind, l, mn, mx, wall⟩ := s
    dsimp only at hc hbx ⊢
    have HBX := Lib.hid hbx
    clear hk hq hr hcl hnn hn hcap hbx
    go_enter Tryz.func71, Tryz.ntmps71
    go_wp2_with (fail)
    refine (hc.out _ HBX.out).mono ?_; rintro e w1 ⟨rfl, hb1⟩
    go_wp2
    go_ret
    exact ⟨none, 0, rfl, Nat.le_refl _, Reads.none_, bt HBX.out hb1⟩
  · have h3 : s.kind ≠ 3 := by
      rcases hk with h | h
      · rw [hq] at h; cases h
      · exact h
    rw [she_yes hq] at hc
    rw [opt_list hq h3]
    have t3 : (s.kind == 3) = false := by simpa using h3
    obtain ⟨n, hnn⟩ : ∃ n, s.alts.length = n := ⟨_, rfl⟩
    unfold shV at hc ⊢
    unfold RetOpt
    rw [hnn] at hc hbx hcl ⊢
    obtain ⟨kind, l, mn, mx, wall⟩ := s
    dsimp only at hc hbx hcl t3 ⊢
    have HBX := Lib.hid hbx
    clear hk hq hr hnn hn hcap hbx h3
    go_enter Tryz.func71, Tryz.ntmps71
    go_wp2_with (fail)
    refine (hc.out _ HBX.out).mono ?_; rintro e w1 ⟨rfl, hb1⟩
    have k1 : w1.cell? ⟨w.heap.size, 1, none⟩ = some (.slice A n c) := boxed_cell hb1 1
    have B1 := Lib.hid (bt HBX.out hb1)
    have k0 : w1.cell? ⟨w.heap.size, 0, none⟩ = some (.int .i64 kind) := boxed_cell hb1 0
    have hz1 := hb1.size
    simp only [World.size_alloc] at hz1
    clear hb1
    go_wp2_with (fail)
    refine (hcl.out _ B1.out).mono ?_; rintro e w2 ⟨v, rfl, hown, hb2⟩
    obtain ⟨A2, c2, rfl, hcc, -⟩ := hown.slice
    have k2 : w2.cell? ⟨w.heap.size, 0, none⟩ = some (.int .i64 kind) := by rw [(bcell hb2).1 _ _ (by omega)]; exact k0
    have B2 := Lib.hid (bt B1.out hb2)
    have hz2 := hb2.size
    have O2 := Lib.hid hown
    clear hb2 k0 k1 hown
    have hlt2 : w.heap.size < w2.heap.size := by omega
    go_wp2
    go_ret
    refine ⟨A2, c2, rfl, hcc, ?_, ?_⟩
    · exact (O2.out.alloc _).reads
    · exact B2.out.alloc B2.out.size _
end Go.Proofs.YtmkmmggimokagaaGreatDoor
namespace Go.Proofs.YtmkmmggimokagaaGreatDoor
set_option linter.unusedVariables false
open Go.RowKit Go.Shelf
attribute [local go_sem] Oper.semAt_some
def wid (wall : Int) (l : List Int) : List Pr := l.map (fun x => (x, wall))
set_option maxRecDepth 100000 in
set_option maxHeartbeats 4000000 in
theorem opts_range (s : Sh) (A : Option Addr) (c : Nat) (w : World) (hq : okS s = true) (h3 : s.kind = 3) :
    Calls Tryz.prog 71 #[shV s A c] w (RetOpt w (optS s)) := by
  have hc := Lib.hid (fun v => shape_three s A c v h3)
  rw [she_yes hq] at hc
  obtain ⟨ha, h1, h2, h4, ho⟩ := opt_down hq h3
  rw [ho]
  have hcl := Lib.hid (fun v => clone_empty A c v)
  unfold shV at hc ⊢
  rw [ha, h3] at hc ⊢
  obtain ⟨kind, l, mn, mx, wall⟩ := s
  dsimp only at hc h1 h2 h4 ⊢
  rw [List.length_nil] at hc ⊢
  clear ho hq h3 ha
  obtain ⟨N, hN⟩ : ∃ N, (mx - mn + 1).toNat = N := ⟨_, rfl⟩
  rw [hN]
  have hN2 : (N : Int) = mx - mn + 1 := by omega
  have hmf : ∀ (fn : Fn) (first cap : Array Value) (w : World), (Instr.makeFunc fn first cap).run Tryz.prog w = .ok (.func fn first cap) w := fun _ _ _ _ => rfl
  have hro : Fence.wide.round = none := rfl
  have hbx : Below w.heap.size w (w.alloc (.cells #[.int .i64 3, .slice A 0 c, .int .i64 mn, .int .i64 mx, .int .i64 wall] 25)) := (Below.refl _ _).alloc (Nat.le_refl _) _
  have HBX := Lib.hid hbx
  clear hbx
  refine (callsIn_wide (n := 3)).1 ?_
  refine callsIn_of_wp_marks Tryz.func71 rfl trivial ?_ hro
  simp only [Tryz.ntmps71, List.size_toArray, List.length_cons, List.length_nil, Nat.reduceAdd, Nat.reduceSub, Array.replicate_succ, Array.replicate_zero, List.push_toArray, List.append_toArray, List.nil_append, List.cons_append]
  gi_wp2_with (first
    | (refine ⟨trivial, ?_⟩; gi_at_call 67; refine (callsIn_wide.2 (hc.out _)).mono ?_; rintro e w1 ⟨rfl, hb1⟩
       have k0 : w1.cell? ⟨w.heap.size, 0, none⟩ = some (.int .i64 3) := boxed_cell hb1 0
       have k1 : w1.cell? ⟨w.heap.size, 1, none⟩ = some (.slice A 0 c) := boxed_cell hb1 1
       have k2 : w1.cell? ⟨w.heap.size, 2, none⟩ = some (.int .i64 mn) := boxed_cell hb1 2
       have k3 : w1.cell? ⟨w.heap.size, 3, none⟩ = some (.int .i64 mx) := boxed_cell hb1 3
       have k4 : w1.cell? ⟨w.heap.size, 4, none⟩ = some (.int .i64 wall) := boxed_cell hb1 4
       have B1 := Lib.hid (bt HBX.out hb1)
       have hz1 := hb1.size
       simp only [World.size_alloc] at hz1
       clear hb1)
    | (refine ⟨trivial, ?_⟩; gi_at_call 94; refine (callsIn_wide.2 (hcl.out _)).mono ?_; rintro e w2 ⟨A0, c0, rfl, ho0, hb2⟩
       have j0 : w2.cell? ⟨w.heap.size, 0, none⟩ = some (.int .i64 3) := by rw [(bcell hb2).1 _ _ (by omega)]; exact k0
       have j2 : w2.cell? ⟨w.heap.size, 2, none⟩ = some (.int .i64 mn) := by rw [(bcell hb2).1 _ _ (by omega)]; exact k2
       have j3 : w2.cell? ⟨w.heap.size, 3, none⟩ = some (.int .i64 mx) := by rw [(bcell hb2).1 _ _ (by omega)]; exact k3
       have hz2 := hb2.size
       have hlt2 : w.heap.size < w2.heap.size := by omega)
    | (refine ⟨trivial, ?_⟩; gi_at_call 95; refine (callsIn_wide.2 (sizes_any _ _ _)).mono ?_; rintro e w' ⟨rfl, rfl⟩))
  obtain ⟨i0, hi, hz0, hz1, hz2'⟩ := info_parts Tryz.infoA
  obtain ⟨W0, hW0⟩ : ∃ W0, (((w2.alloc (.cells #[.slice A0 0 c0] 23)).alloc (.cells #[.int .i64 mn] 3)).alloc (.cells #[.int .i64 mx] 3)) = W0 := ⟨_, rfl⟩
  have hs0 : W0.heap.size = w2.heap.size + 3 := by rw [← hW0]; simp
  have bO : Boxed W0 w2.heap.size 23 (.slice A0 0 c0) := by rw [← hW0]; exact ((Boxed.new w2 _ _).alloc _).alloc _
  have bF : Boxed W0 (w2.heap.size + 1) 3 (.int .i64 mn) := by
    rw [← hW0]
    have h := Boxed.new (w2.alloc (.cells #[.slice A0 0 c0] 23)) 3 (.int .i64 mn)
    rw [World.size_alloc] at h
    exact h.alloc _
  have bT : Boxed W0 (w2.heap.size + 1 + 1) 3 (.int .i64 mx) := by
    rw [← hW0]
    have h := Boxed.new ((w2.alloc (.cells #[.slice A0 0 c0] 23)).alloc (.cells #[.int .i64 mn] 3)) 3 (.int .i64 mx)
    rw [World.size_alloc, World.size_alloc] at h
    exact h
  have hB0 : Below w1.heap.size w1 W0 := by
    rw [← hW0]
    exact ((hb2.alloc hz2 _).alloc (by simp; omega) _).alloc (by simp; omega) _
  have hr0 : W0.ownsRow w1.heap.size 66 2 (.slice A0 0 c0) 0 [] := by
    rw [← hW0]; exact ((ho0.alloc _).alloc _).alloc _
  rw [hW0]
  clear hW0
  refine wpIn_rangeFunc_ownF hro (by omega) (gf := 108) (lb := #[.pointer (some ⟨w2.heap.size + 1 + 1, 0, none⟩), .pointer (some ⟨w2.heap.size + 1, 0, none⟩)]) rfl trivial (enters_of Tryz.func108 (by kernel_rfl) rfl)
    (sizes_stops Fence.wide (3 - 1) trivial hro (by omega) (w2.heap.size + 1 + 1) (w2.heap.size + 1) N mn mx (by omega) (by omega) hN2 W0 (by omega) (by omega) bT.cell bF)
    (fun h k hb => k (h hb))
    (fun W l o o' hl ho hoc _ hb => hb.kept (grownBy_putObj' W l o') (fun e => by
      obtain rfl : w2.heap.size + 1 = l := by simpa using e
      rw [show W.heap[w2.heap.size + 1]? = _ from hb] at ho; cases ho; cases hoc))
    (Below.refl _ _) (fun _ => rfl)
    (fun pre W => (∃ v, Boxed W w2.heap.size 23 v ∧ W.ownsRow w1.heap.size 66 2 v pre.length (recs prC (wid wall pre)) ∧ (∃ A c, v = .slice A pre.length c)) ∧ (Boxed W (w2.heap.size + 1) 3 (.int .i64 mn) ∧ Below w1.heap.size w1 W))
    (fun _ _ _ => False)
    (OwnFrom.and (Own.from (holdsRow_own w1.heap.size w2.heap.size 23 66 2 (fun pre : List Int => pre.length) (fun pre => recs prC (wid wall pre)) (fun pre v => ∃ A c, v = .slice A pre.length c)) _) (OwnFrom.and (Own.from (boxed_own (w2.heap.size + 1) 3 (fun _ => .int .i64 mn)) _) (ownFrom_below (Nat.le_refl _) (by omega))))
    (fun _ _ _ _ _ hs _ _ => hs)
    ⟨⟨_, bO, hr0, A0, c0, rfl⟩, bF, hB0⟩
    (fun x => { tmps := #[.agg #[.int .i64 3, .slice A 0 c, .int .i64 mn, .int .i64 mx, .int .i64 wall], .pointer (some ⟨w.heap.size, 0, none⟩), .slice none 0 0, .pointer (some ⟨w2.heap.size, 0, none⟩), .int .i64 x,
        .agg #[.int .i64 3, .slice A 0 c, .int .i64 mn, .int .i64 mx, .int .i64 wall], .int .i64 0, .bool false, .pointer (some ⟨w.heap.size, 1, none⟩), .slice A 0 c, .slice A0 0 c0, .pointer (some ⟨w.heap.size, 0, none⟩),
        .int .i64 3, .bool true, .pointer (some ⟨w.heap.size, 2, none⟩), .int .i64 mn, .pointer (some ⟨w.heap.size, 3, none⟩), .int .i64 mx,
        .func (.func 108) #[] #[.pointer (some ⟨w2.heap.size + 1 + 1, 0, none⟩), .pointer (some ⟨w2.heap.size + 1, 0, none⟩)], .int .i64 x, undef, undef, undef, undef, undef, undef, undef, undef], defers := [] }) ?assign ?body ?done ?stop
  case assign =>
    intro l x W K hK
    gi_wp2
    exact hK
  case body =>
    rintro l pre x W ⟨⟨v, hv, hrow, A9, c9, rfl⟩, hbf, hB⟩ hlt
    have hc := hv.cell
    have hcw : W.cell? ⟨w.heap.size, 4, none⟩ = some (.int .i64 wall) := (hB.cell (p := ⟨w.heap.size, 4, none⟩) (show w.heap.size < w1.heap.size by omega)).trans k4
    have hBs := hB.size
    have hnew : ∀ (j : Nat) u, ([Value.int .i64 x, Value.int .i64 wall])[j]? = some u → (W.alloc (.cells #[.int .i64 x, .int .i64 wall] 66)).cell? (Addr.add ⟨W.heap.size, 0, none⟩ j) = some u := by
      intro j u hu
      rw [add_plain, Nat.zero_add, cell_of_row (W.alloc (.cells #[.int .i64 x, .int .i64 wall] 66)) W.heap.size j _ _ (0, 0) (heap_alloc_new W _)]
      simpa using hu
    gi_wp2_with (gi_at_builtin; refine wpListIn_append_own _ rfl _ _ 23 rfl w1.heap.size 66 i0 _ 2 16 Tryz.underlying23 hi hz0 hz1 hz2' rfl (by decide) _ _ _ rfl (hrow.alloc _) ⟨W.heap.size, 0, none⟩ 1 1 [.int .i64 x, .int .i64 wall] rfl rfl hnew (by simp [Value.oneCell']) (by simp only [maxLen]; omega) (by omega) (by simp; omega) ?_; intro v' w3 hown' hgrow _; obtain ⟨g', cap', rfl⟩ := ownsRow_succ hown'; obtain ⟨hv1, hv2, hr2, hk2, hb3⟩ := hv.appended (by decide) hrow hBs (by omega) hown' hgrow; have hc1 := hv1.cell; have hf1 := hv1.frozen)
    refine ⟨hk2, fun hb => ((hb.alloc _).kept hgrow (hb.not_row (by decide) hrow)).other (show w2.heap.size + 1 ≠ w2.heap.size by omega) _, ⟨_, hv2, ?_, _, _, by rw [List.length_append]; rfl⟩, ?_, hB.trans hb3⟩
    · have e : recs prC (wid wall (pre ++ [x])) = recs prC (wid wall pre) ++ [.int .i64 x, .int .i64 wall] := by unfold wid; rw [List.map_append, recs_append]; rfl
      rw [e, List.length_append]
      exact hr2
    · exact ((hbf.alloc _).kept hgrow (hbf.not_row (by decide) hrow)).other (show w2.heap.size + 1 ≠ w2.heap.size by omega) _
  case done =>
    rintro D ys W hD rfl ⟨⟨v, hv, hrow, A9, c9, rfl⟩, hbf, hB⟩ hK
    have hc := hv.cell
    gi_wp2
    refine ⟨by simp, .inl ⟨_, _, rfl, run_takeDeferred hK, ?_⟩⟩
    have hl : ((downN mx N).map (fun x => (x, wall))).length = (downN mx N).length := List.length_map ..
    refine ⟨_, results_tmp rfl _ _ _, A9, c9, ?_, ?_, ?_, ?_⟩
    · rw [hl]; rfl
    · rw [hl]
      obtain ⟨A', c', e, h, _⟩ := (show Owns W w1.heap.size 66 2 (.slice A9 (downN mx N).length c9) (downN mx N).length (recs prC (wid wall (downN mx N))) from .inl hrow).slice
      cases e; exact h
    · rw [hl]
      exact Reads.of_own (ownsRow_putObj hrow _ hK rfl)
    · exact (B1.out.trans (hB.mono (by omega))).trans (belowK_b (w := w) (Nat.le_refl _) W D _ _ (by omega) hK rfl rfl)
  case stop =>
    rintro D c pre W hD _ h _
    exact h.elim
end Go.Proofs.YtmkmmggimokagaaGreatDoor
namespace Go.Proofs.YtmkmmggimokagaaGreatDoor
set_option linter.unusedVariables false
open Go.RowKit
theorem opts_any (s : Sh) (A : Option Addr) (c B : Nat) (w : World) (hr : Reads w B 2 A s.alts.length (recs prC s.alts)) (hB : B ≤ w.heap.size) (hn : s.alts.length ≤ 100000) (hcap : s.alts.length ≤ c) :
    Calls Tryz.prog 71 #[shV s A c] w (RetOpt w (optS s)) := by
  by_cases h : okS s = true ∧ s.kind = 3
  · exact opts_range s A c w h.1 h.2
  · refine opts_plain s A c B w hr hB hn hcap ?_
    by_cases h1 : okS s = true
    · exact .inr (fun h3 => h ⟨h1, h3⟩)
    · exact .inl (by simpa using h1)
theorem optS_len (s : Sh) (h : s.alts.length ≤ 100000) : (optS s).length ≤ 100000 := by
  by_cases h1 : okS s = true
  · by_cases h3 : s.kind = 3
    · obtain ⟨_, _, _, _, e⟩ := opt_down h1 h3
      rw [e, List.length_map, downN_len]; omega
    · rw [opt_list h1 h3]; exact h
  · rw [opt_no (by simpa using h1)]; simp
set_option maxHeartbeats 1000000 in
theorem allows_any (s : Sh) (A : Option Addr) (c B : Nat) (ch n : Int) (w : World) (hr : Reads w B 2 A s.alts.length (recs prC s.alts)) (hB : B ≤ w.heap.size) (hn : s.alts.length ≤ 100000) (hcap : s.alts.length ≤ c) :
    Calls Tryz.prog 53 #[shV s A c, .int .i64 ch, .int .i64 n] w fun e w' => e = .returned (.bool (allowS s ch n)) ∧ Below w.heap.size w w' := by
  have hc := Lib.hid (fun v (hv : Below w.heap.size w v) => opts_any s A c B v (hr.below (hv.mono hB)) (Nat.le_trans hB hv.size) hn hcap)
  have hol := optS_len s hn
  have HA : Hid (allowS s ch n = if ch < 0 ∨ ((optS s).length : Int) ≤ ch then false else if s.kind = 3 then decide (s.mn ≤ n) && decide (n ≤ s.mx) else ((optS s).getD ch.toNat (0, 0)).1 == n) := rfl
  obtain ⟨R, hR⟩ : ∃ R, Hid (allowS s ch n = R) := ⟨_, rfl⟩
  rw [hR.out] at HA ⊢
  obtain ⟨l, hl⟩ : ∃ l, optS s = l := ⟨_, rfl⟩
  rw [hl] at hc hol HA
  unfold shV at hc ⊢
  obtain ⟨m, hm⟩ : ∃ n, s.alts.length = n := ⟨_, rfl⟩
  rw [hm] at hc hn hcap ⊢
  obtain ⟨kind, l0, mn, mx, wall⟩ := s
  dsimp only at hc HA hr ⊢
  clear hl hm hR hr
  obtain ⟨N, hN⟩ : ∃ N, Hid (l.length = N) := ⟨_, rfl⟩
  rw [hN.out] at HA hol
  unfold RetOpt at hc
  rw [hN.out] at hc
  have HBX : Hid (Below w.heap.size w (w.alloc (.cells #[.int .i64 kind, .slice A m c, .int .i64 mn, .int .i64 mx, .int .i64 wall] 25))) := (Below.refl _ _).alloc (Nat.le_refl _) _
  by_cases h0 : ch < 0
  · have t0 : decide (ch < 0) = true := by simpa using h0
    have HR : Hid (R = false) := by show _ = _; rw [HA.out, if_pos (.inl h0)]
    clear h0 HA
    go_enter Tryz.func53, Tryz.ntmps53
    go_wp2_with (fail)
    refine (hc.out _ HBX.out).mono ?_; rintro e w1 ⟨A1, c1, rfl, h1, hr1, hb1⟩
    go_wp2
    go_ret
    exact ⟨by rw [HR.out]; rfl, bt HBX.out hb1⟩
  · have t0 : decide (ch < 0) = false := by simpa using h0
    by_cases h2 : (N : Int) ≤ ch
    · have t2 : decide ((N : Int) ≤ ch) = true := by simpa using h2
      have HR : Hid (R = false) := by show _ = _; rw [HA.out, if_pos (.inr h2)]
      clear h0 h2 HA
      go_enter Tryz.func53, Tryz.ntmps53
      go_wp2_with (fail)
      refine (hc.out _ HBX.out).mono ?_; rintro e w1 ⟨A1, c1, rfl, h1, hr1, hb1⟩
      go_wp2
      go_ret
      exact ⟨by rw [HR.out]; rfl, bt HBX.out hb1⟩
    · have t2 : decide ((N : Int) ≤ ch) = false := by simpa using h2
      have hno : ¬ (ch < 0 ∨ (N : Int) ≤ ch) := by omega
      by_cases h3 : kind = 3
      · subst h3
        cases q1 : decide (mn ≤ n)
        · have HR : Hid (R = false) := by show _ = _; rw [HA.out, if_neg hno, if_pos rfl, q1]; rfl
          clear h0 h2 hno HA
          go_enter Tryz.func53, Tryz.ntmps53
          go_wp2_with (fail)
          refine (hc.out _ HBX.out).mono ?_; rintro e w1 ⟨A1, c1, rfl, h1, hr1, hb1⟩
          have k0 : w1.cell? ⟨w.heap.size, 0, none⟩ = some (.int .i64 3) := boxed_cell hb1 0
          have k2 : w1.cell? ⟨w.heap.size, 2, none⟩ = some (.int .i64 mn) := boxed_cell hb1 2
          go_wp2
          go_ret
          exact ⟨by rw [HR.out]; rfl, bt HBX.out hb1⟩
        · cases q2 : decide (n ≤ mx)
          all_goals
            have HR := Lib.hid (HA.out.trans ((if_neg hno).trans (if_pos rfl)))
            rw [q1, q2] at HR
            clear h0 h2 hno HA
            go_enter Tryz.func53, Tryz.ntmps53
            go_wp2_with (fail)
            refine (hc.out _ HBX.out).mono ?_; rintro e w1 ⟨A1, c1, rfl, h1, hr1, hb1⟩
            have k0 : w1.cell? ⟨w.heap.size, 0, none⟩ = some (.int .i64 3) := boxed_cell hb1 0
            have k2 : w1.cell? ⟨w.heap.size, 2, none⟩ = some (.int .i64 mn) := boxed_cell hb1 2
            have k3 : w1.cell? ⟨w.heap.size, 3, none⟩ = some (.int .i64 mx) := boxed_cell hb1 3
            go_wp2
            go_ret
            exact ⟨by rw [HR.out]; rfl, bt HBX.out hb1⟩
      · have t3 : (kind == 3) = false := by simpa using h3
        obtain ⟨i, rfl⟩ : ∃ i : Nat, ch = (i : Int) := ⟨ch.toNat, by omega⟩
        have hi0 : (0 : Int) ≤ (i : Int) := by omega
        have hi1 : (i : Int) < (N : Int) := by omega
        have hi : i < N := by omega
        have HR : Hid (R = ((l.getD i (0, 0)).1 == n)) := by show _ = _; rw [HA.out, if_neg hno, if_neg h3]; simp
        clear h0 h2 hno HA h3
        go_enter Tryz.func53, Tryz.ntmps53
        go_wp2_with (fail)
        refine (hc.out _ HBX.out).mono ?_; rintro e w1 ⟨A1, c1, rfl, h1, hr1, hb1⟩
        obtain ⟨b, o, x, rfl, hbb, hx, x0, x1⟩ := hr1.pr_at hi
        have HR2 : Hid (R = (x.1 == n)) := by
          show _ = _
          rw [HR.out, List.getD_eq_getElem?_getD, hx.out]; rfl
        have k0 : w1.cell? ⟨w.heap.size, 0, none⟩ = some (.int .i64 kind) := boxed_cell hb1 0
        clear hr1 HR
        go_wp2
        go_ret
        exact ⟨by rw [HR2.out]; rfl, bt HBX.out hb1⟩
end Go.Proofs.YtmkmmggimokagaaGreatDoor
