/- Layer 7: Options and Allows. -/
import Derived.Test.YtfnmmbfngniheaaGreatDoorShW10
namespace Go.Proofs.YtfnmmbfngniheaaGreatDoor
set_option linter.unusedVariables false
open Go.RowKit
theorem opts_any (s : Sh) (A : Option Addr) (c B : Nat) (w : World) (hr : Reads w B 2 A s.alts.length (recs prC s.alts)) (hB : B ≤ w.heap.size) (hn : s.alts.length ≤ 100000) (hcap : s.alts.length ≤ c) :
    Calls Tryz.prog 109 #[shV s A c] w (RetOpt w (optS s)) := by
  by_cases h : okS s = true ∧ s.kind = 3
  · exact opts_range s A c w h.1 h.2
  · refine opts_plain s A c B w hr hB hn hcap ?_
    by_cases h1 : okS s = true
    · exact .inr (fun h3 => h ⟨h1, h3⟩)
    · exact .inl (by simpa using h1)
theorem optS_len (s : Sh) (h : s.alts.length ≤ 100000) : (optS s).length ≤ 100000 := by
  by_cases h1 : okS s = true
  · by_cases h3 : s.kind = 3
    · obtain ⟨_, _, _, _, e⟩ := opt_down h1 h3
      rw [e, List.length_map, downN_len]; omega
    · rw [opt_list h1 h3]; exact h
  · rw [opt_no (by simpa using h1)]; simp
set_option maxHeartbeats 1000000 in
theorem allows_any (s : Sh) (A : Option Addr) (c B : Nat) (ch n : Int) (w : World) (hr : Reads w B 2 A s.alts.length (recs prC s.alts)) (hB : B ≤ w.heap.size) (hn : s.alts.length ≤ 100000) (hcap : s.alts.length ≤ c) :
    Calls Tryz.prog 142 #[shV s A c, .int .i64 ch, .int .i64 n] w fun e w' => e = .returned (.bool (allowS s ch n)) ∧ Below w.heap.size w w' := by
  have hc := Lib.hid (fun v (hv : Below w.heap.size w v) => opts_any s A c B v (hr.below (hv.mono hB)) (Nat.le_trans hB hv.size) hn hcap)
  have hol := optS_len s hn
  have HA : Hid (allowS s ch n = if ch < 0 ∨ ((optS s).length : Int) ≤ ch then false else if s.kind = 3 then decide (s.mn ≤ n) && decide (n ≤ s.mx) else ((optS s).getD ch.toNat (0, 0)).1 == n) := rfl
  obtain ⟨R, hR⟩ : ∃ R, Hid (allowS s ch n = R) := ⟨_, rfl⟩
  rw [hR.out] at HA ⊢
  obtain ⟨l, hl⟩ : ∃ l, optS s = l := ⟨_, rfl⟩
  rw [hl] at hc hol HA
  unfold shV at hc ⊢
  obtain ⟨m, hm⟩ : ∃ n, s.alts.length = n := ⟨_, rfl⟩
  rw [hm] at hc hn hcap ⊢
  obtain ⟨kind, l0, mn, mx, wall⟩ := s
  dsimp only at hc HA hr ⊢
  clear hl hm hR hr
  obtain ⟨N, hN⟩ : ∃ N, Hid (l.length = N) := ⟨_, rfl⟩
  rw [hN.out] at HA hol
  unfold RetOpt at hc
  rw [hN.out] at hc
  have HBX : Hid (Below w.heap.size w (w.alloc (.cells #[.int .i64 kind, .slice A m c, .int .i64 mn, .int .i64 mx, .int .i64 wall] 24))) := (Below.refl _ _).alloc (Nat.le_refl _) _
  by_cases h0 : ch < 0
  · have t0 : decide (ch < 0) = true := by simpa using h0
    have HR : Hid (R = false) := by show _ = _; rw [HA.out, if_pos (.inl h0)]
    clear h0 HA
    go_enter Tryz.func142, Tryz.ntmps142
    go_wp2_with (fail)
    refine (hc.out _ HBX.out).mono ?_; rintro e w1 ⟨A1, c1, rfl, h1, hr1, hb1⟩
    go_wp2
    go_ret
    exact ⟨by rw [HR.out]; rfl, bt HBX.out hb1⟩
  · have t0 : decide (ch < 0) = false := by simpa using h0
    by_cases h2 : (N : Int) ≤ ch
    · have t2 : decide ((N : Int) ≤ ch) = true := by simpa using h2
      have HR : Hid (R = false) := by show _ = _; rw [HA.out, if_pos (.inr h2)]
      clear h0 h2 HA
      go_enter Tryz.func142, Tryz.ntmps142
      go_wp2_with (fail)
      refine (hc.out _ HBX.out).mono ?_; rintro e w1 ⟨A1, c1, rfl, h1, hr1, hb1⟩
      go_wp2
      go_ret
      exact ⟨by rw [HR.out]; rfl, bt HBX.out hb1⟩
    · have t2 : decide ((N : Int) ≤ ch) = false := by simpa using h2
      have hno : ¬ (ch < 0 ∨ (N : Int) ≤ ch) := by omega
      by_cases h3 : kind = 3
      · subst h3
        cases q1 : decide (mn ≤ n)
        · have HR : Hid (R = false) := by show _ = _; rw [HA.out, if_neg hno, if_pos rfl, q1]; rfl
          clear h0 h2 hno HA
          go_enter Tryz.func142, Tryz.ntmps142
          go_wp2_with (fail)
          refine (hc.out _ HBX.out).mono ?_; rintro e w1 ⟨A1, c1, rfl, h1, hr1, hb1⟩
          have k0 : w1.cell? ⟨w.heap.size, 0, none⟩ = some (.int .i64 3) := boxed_cell hb1 0
          have k2 : w1.cell? ⟨w.heap.size, 2, none⟩ = some (.int .i64 mn) := boxed_cell hb1 2
          go_wp2
          go_ret
          exact ⟨by rw [HR.out]; rfl, bt HBX.out hb1⟩
        · cases q2 : decide (n ≤ mx)
          all_goals
            have HR := Lib.hid (HA.out.trans ((if_neg hno).trans (if_pos rfl)))
            rw [q1, q2] at HR
            clear h0 h2 hno HA
            go_enter Tryz.func142, Tryz.ntmps142
            go_wp2_with (fail)
            refine (hc.out _ HBX.out).mono ?_; rintro e w1 ⟨A1, c1, rfl, h1, hr1, hb1⟩
            have k0 : w1.cell? ⟨w.heap.size, 0, none⟩ = some (.int .i64 3) := boxed_cell hb1 0
            have k2 : w1.cell? ⟨w.heap.size, 2, none⟩ = some (.int .i64 mn) := boxed_cell hb1 2
            have k3 : w1.cell? ⟨w.heap.size, 3, none⟩ = some (.int .i64 mx) := boxed_cell hb1 3
            go_wp2
            go_ret
            exact ⟨by rw [HR.out]; rfl, bt HBX.out hb1⟩
      · have t3 : (kind == 3) = false := by simpa using h3
        obtain ⟨i, rfl⟩ : ∃ i : Nat, ch = (i : Int) := ⟨ch.toNat, by omega⟩
        have hi0 : (0 : Int) ≤ (i : Int) := by omega
        have hi1 : (i : Int) < (N : Int) := by omega
        have hi : i < N := by omega
        have HR : Hid (R = ((l.getD i (0, 0)).1 == n)) := by show _ = _; rw [HA.out, if_neg hno, if_neg h3]; simp
        clear h0 h2 hno HA h3
        go_enter Tryz.func142, Tryz.ntmps142
        go_wp2_with (fail)
        refine (hc.out _ HBX.out).mono ?_; rintro e w1 ⟨A1, c1, rfl, h1, hr1, hb1⟩
        obtain ⟨b, o, x, rfl, hbb, hx, x0, x1⟩ := hr1.pr_at hi
        have HR2 : Hid (R = (x.1 == n)) := by
          show _ = _
          rw [HR.out, List.getD_eq_getElem?_getD, hx.out]; rfl
        have k0 : w1.cell? ⟨w.heap.size, 0, none⟩ = some (.int .i64 kind) := boxed_cell hb1 0
        clear hr1 HR
        go_wp2
        go_ret
        exact ⟨by rw [HR2.out]; rfl, bt HBX.out hb1⟩
end Go.Proofs.YtfnmmbfngniheaaGreatDoor
