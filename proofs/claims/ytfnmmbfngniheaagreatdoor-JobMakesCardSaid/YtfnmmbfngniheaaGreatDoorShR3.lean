/- Layer 7: the reference's Check, Options, walked. -/
import Derived.Test.YtfnmmbfngniheaaGreatDoorShR2
import Derived.Test.YtfnmmbfngniheaaGreatDoorShW11
namespace Go.Proofs.YtfnmmbfngniheaaGreatDoor
set_option linter.unusedVariables false
open Go.RowKit
theorem Reads.upR {w : World} {B B' n size : Nat} {A : Option Addr} {xs : List Value} (h : Reads w B size A n xs) (hB : B ≤ B') : Reads w B' size A n xs :=
  ⟨h.1, fun h0 => let ⟨ad, e, hb, hc⟩ := h.2 h0; ⟨ad, e, Nat.lt_of_lt_of_le hb hB, hc⟩⟩
theorem rshape_none (s : Sh) (A : Option Addr) (c : Nat) (w : World) (h1 : s.kind ≠ 1) (h2 : s.kind ≠ 2) (h3 : s.kind ≠ 3) :
    Calls Tryz.prog 137 #[shV s A c] w fun e w' => e = .returned (.int .i64 (shE s)) ∧ Below w.heap.size w w' := by
  have HE : Hid (shE s = 70) := by
    show _ = _
    unfold shE okS; rw [if_neg h1, if_neg h2, if_neg h3]; rfl
  rw [HE.out]
  unfold shV
  obtain ⟨kind, l, mn, mx, wall⟩ := s
  dsimp only at h1 h2 h3 ⊢
  have t1 : (kind != 1) = true := by simpa using h1
  have t2 : (kind == 2) = false := by simpa using h2
  have t3 : (kind == 3) = false := by simpa using h3
  clear h1 h2 h3
  go_enter Tryz.func137, Tryz.ntmps137
  go_wp2
  go_ret
  exact ⟨rfl, (Below.refl _ _).alloc (Nat.le_refl _) _⟩
theorem rshape_any (s : Sh) (A : Option Addr) (c B : Nat) (w : World) (hr : Reads w B 2 A s.alts.length (recs prC s.alts)) (hB : B ≤ w.heap.size) (hn : s.alts.length ≤ 100000) :
    Calls Tryz.prog 137 #[shV s A c] w fun e w' => e = .returned (.int .i64 (shE s)) ∧ Below w.heap.size w w' := by
  by_cases h : s.kind = 1 ∨ s.kind = 2
  · exact rshape_list s A c B w hr hB hn h
  · by_cases h3 : s.kind = 3
    · exact rshape_three s A c w h3
    · exact rshape_none s A c w (fun e => h (.inl e)) (fun e => h (.inr e)) h3
theorem downN_wid (hi wall : Int) (k : Nat) : wid wall (downN hi (k + 1)) = wid wall (downN hi k) ++ [(hi - (k : Int), wall)] := by rw [downN_succ]; simp [wid]
set_option maxRecDepth 100000 in
set_option maxHeartbeats 2000000 in
theorem ropts_any (s : Sh) (A : Option Addr) (c B : Nat) (w : World) (hr : Reads w B 2 A s.alts.length (recs prC s.alts)) (hB : B ≤ w.heap.size) (hn : s.alts.length ≤ 100000) (hcap : s.alts.length ≤ c) :
    Calls Tryz.prog 167 #[shV s A c] w (RetOpt w (optS s)) := by
  have hc := Lib.hid (fun v (hv : Below w.heap.size w v) => rshape_any s A c B v (hr.below (hv.mono hB)) (Nat.le_trans hB hv.size) hn)
  have HBX : Hid (Below w.heap.size w (w.alloc (.cells #[.int .i64 s.kind, .slice A s.alts.length c, .int .i64 s.mn, .int .i64 s.mx, .int .i64 s.wall] 24))) := (Below.refl _ _).alloc (Nat.le_refl _) _
  cases hq : okS s
  · rw [she_no hq] at hc
    rw [opt_no hq]
    obtain ⟨n, hnn⟩ : ∃ n, s.alts.length = n := ⟨_, rfl⟩
    unfold shV at hc ⊢
    rw [hnn] at hc HBX ⊢
    obtain ⟨kind, l, mn, mx, wall⟩ := s
    dsimp only at hc HBX ⊢
    clear hq hr hnn hn hcap
    go_enter Tryz.func167, Tryz.ntmps167
    go_wp2_with (fail)
    refine (hc.out _ HBX.out).mono ?_; rintro e w1 ⟨rfl, hb1⟩
    go_wp2
    go_ret
    exact ⟨none, 0, rfl, Nat.le_refl _, Reads.none_, bt HBX.out hb1⟩
  rw [she_yes hq] at hc
  by_cases h3 : s.kind = 3
  · obtain ⟨ha, h1, h2, h4, ho⟩ := opt_down hq h3
    rw [ho]
    unfold shV at hc ⊢
    rw [ha, h3, List.length_nil] at hc HBX ⊢
    obtain ⟨kind, l, mn, mx, wall⟩ := s
    dsimp only at hc HBX h1 h2 h4 ⊢
    clear hq ha ho h3 hr hn hcap
    obtain ⟨N, hN⟩ : ∃ N, (mx - mn + 1).toNat = N := ⟨_, rfl⟩
    rw [hN]
    have hN2 : (N : Int) = mx - mn + 1 := by omega
    clear hN
    go_enter Tryz.func167, Tryz.ntmps167
    go_wp2_with (fail)
    refine (hc.out _ HBX.out).mono ?_; rintro e w1 ⟨rfl, hb1⟩
    have k0 : w1.cell? ⟨w.heap.size, 0, none⟩ = some (.int .i64 3) := boxed_cell hb1 0
    have k2 : w1.cell? ⟨w.heap.size, 2, none⟩ = some (.int .i64 mn) := boxed_cell hb1 2
    have k3 : w1.cell? ⟨w.heap.size, 3, none⟩ = some (.int .i64 mx) := boxed_cell hb1 3
    have k4 : w1.cell? ⟨w.heap.size, 4, none⟩ = some (.int .i64 wall) := boxed_cell hb1 4
    have hz1 := hb1.size
    simp only [World.size_alloc] at hz1
    have hlt1 : w.heap.size < w1.heap.size := by omega
    have B1 := Lib.hid (bt HBX.out hb1)
    have K2 := Lib.hid k2
    have K3 := Lib.hid k3
    have K4 := Lib.hid k4
    clear hb1 hc
    go_wp2
    go_loopw [3, 4] (fun o i wr => ∃ k : Nat, k ≤ N ∧ i = .int .i64 k ∧ Owns wr w1.heap.size 114 2 o k (recs prC (wid wall (downN mx k))) ∧ Below w1.heap.size w1 wr) (fun _ i _ => N - (intOf i).toNat)
    case atStart => exact ⟨0, Nat.zero_le _, rfl, Owns.nil, Below.refl _ _⟩
    case round =>
      obtain ⟨k, hk, rfl, hown, hbr⟩ := hrel
      have hszr := hbr.size
      have l2 : wr.cell? ⟨w.heap.size, 2, none⟩ = some (.int .i64 mn) := by rw [(bcell hbr).1 _ _ hlt1]; exact K2.out
      have l3 : wr.cell? ⟨w.heap.size, 3, none⟩ = some (.int .i64 mx) := by rw [(bcell hbr).1 _ _ hlt1]; exact K3.out
      have l4 : wr.cell? ⟨w.heap.size, 4, none⟩ = some (.int .i64 wall) := by rw [(bcell hbr).1 _ _ hlt1]; exact K4.out
      have hO := Lib.hid hown
      clear hown k0 k2 k3 k4
      by_cases hlt : k < N
      · have t0 : decide ((k : Int) ≤ mx - mn) = true := by simp; omega
        have hst := Lib.hid (downN_wid mx wall k)
        go_wp2_with (at_builtin; refine app_a rfl rfl w1.heap.size rfl (hO.out.alloc _) (news := [(mx - (k : Int), wall)]) rfl (Reads.madeRec wr (mx - (k : Int), wall) _ (prC_len _)) (by omega) (by simp only [World.size_alloc]; omega) ?_)
        intro v4 w4 o4 k4 _
        have kb4 := k4.below (hbr.alloc hszr _) (Nat.le_refl _) (by simp only [World.size_alloc]; omega)
        have o5 : Owns w4 w1.heap.size 114 2 v4 (k + 1) (recs prC (wid wall (downN mx (k + 1)))) := by
          rw [hst.out]; exact o4
        have O5 := Lib.hid o5
        clear k4 o4 o5
        go_wp2
        go_roundw
        case rel => exact ⟨k + 1, hlt, by simp, O5.out, kb4⟩
        case measure => simp [intOf]; omega
      · obtain rfl : k = N := by omega
        have t0 : decide ((k : Int) ≤ mx - mn) = false := by simp; omega
        obtain ⟨A9, c9, rfl, hc9, -⟩ := hO.out.slice
        go_wp2
        go_ret
        have hl : ((downN mx k).map (fun x => (x, wall))).length = k := by rw [List.length_map, downN_len]
        refine ⟨A9, c9, by rw [hl]; rfl, by rw [hl]; exact hc9, ?_, bt B1.out hbr⟩
        rw [hl]
        exact hO.out.reads
  · rw [opt_list hq h3]
    have t3 : (s.kind != 3) = true := by simpa using h3
    have hr2 := Lib.hid hr
    obtain ⟨n, hnn⟩ : ∃ n, s.alts.length = n := ⟨_, rfl⟩
    unfold shV at hc ⊢
    unfold RetOpt
    rw [hnn] at hc HBX hr2 hcap ⊢
    obtain ⟨kind, l, mn, mx, wall⟩ := s
    dsimp only at hc HBX hr2 t3 ⊢
    clear hq hr hnn hn h3
    go_enter Tryz.func167, Tryz.ntmps167
    go_wp2_with (fail)
    refine (hc.out _ HBX.out).mono ?_; rintro e w1 ⟨rfl, hb1⟩
    have k0 : w1.cell? ⟨w.heap.size, 0, none⟩ = some (.int .i64 kind) := boxed_cell hb1 0
    have k1 : w1.cell? ⟨w.heap.size, 1, none⟩ = some (.slice A n c) := boxed_cell hb1 1
    have B1 := Lib.hid (bt HBX.out hb1)
    clear hb1
    go_wp2
    go_ret
    exact ⟨A, c, rfl, hcap, (hr2.out.below (B1.out.mono hB)).upR (Nat.le_trans hB B1.out.size), B1.out⟩
end Go.Proofs.YtfnmmbfngniheaaGreatDoor
