/- Layer 9: Lowest, Highest, the least bit; the reference's bit, Has, List, Set walked. -/
import Derived.Test.YtplneobjdpdlhaaDoorNsW2
namespace Go.Proofs.YtplneobjdpdlhaaDoor
set_option linter.unusedVariables false
open Go.RowKit
def lowP (s : Nat) (n : Int) : Nat × Bool := if n < 0 ∨ ((memL s).length : Int) < n then (0, false) else (lowS s n.toNat, true)
def highP (s : Nat) (n : Int) : Nat × Bool := if n < 0 ∨ ((memL s).length : Int) < n then (0, false) else (highS s n.toNat, true)
theorem lowest_no (s : Nat) (n : Int) (w : World) (hs : s < M64) (h : n < 0 ∨ ((memL s).length : Int) < n) : Calls Tryd.prog 19 #[.int .u64 s, .int .i64 n] w fun e w' => e = .returned (.tuple #[.int .u64 0, .bool false]) ∧ w = w' := by
  have hc := Lib.hid (fun v => cnt09_any s v hs)
  by_cases h0 : n < 0
  · have t0 : decide (n < 0) = true := by simpa using h0
    clear h h0
    go_enter Tryd.func19, Tryd.ntmps19
    go_wp2
    go_ret2
    exact ⟨rfl, rfl⟩
  · have t0 : decide (n < 0) = false := by simpa using h0
    have t1 : decide (((memL s).length : Int) < n) = true := by simp; omega
    obtain ⟨c, hcc⟩ : ∃ c, Hid ((memL s).length = c) := ⟨_, rfl⟩
    rw [hcc.out] at hc t1
    clear h h0
    go_enter Tryd.func19, Tryd.ntmps19
    go_wp2_with (go_at_call 14; refine (hc.out _).mono ?_; rintro e w' ⟨rfl, rfl⟩)
    go_ret2
    exact ⟨rfl, rfl⟩
theorem lowest_yes (s n : Nat) (w : World) (hs : s < M64) (h : n ≤ (memL s).length) : Calls Tryd.prog 19 #[.int .u64 s, .int .i64 n] w fun e w' => e = .returned (.tuple #[.int .u64 (lowS s n), .bool true]) ∧ w = w' := by
  have hc := Lib.hid (fun v => cnt09_any s v hs)
  have hn64 : n ≤ 64 := Nat.le_trans h (memL_len s)
  have t0 : decide ((n : Int) < 0) = false := by simp
  have t1 : decide ((memL s).length < n) = false := by simp; omega
  have hcl : ∀ k, k < n → 0 < clr k s := by
    intro k hk
    have h1 := clr_mem k s hs (by omega)
    rcases Nat.eq_zero_or_pos (clr k s) with h0 | h0
    · rw [h0] at h1
      have e : memL 0 = [] := by kernel_rfl
      rw [e] at h1
      have := congrArg List.length h1
      simp at this; omega
    · exact h0
  have HC := Lib.hid hcl
  have HL := Lib.hid (low_is hs h)
  have hlt := Lib.hid (fun k => clr_lt k s hs)
  obtain ⟨c, hcc⟩ : ∃ c, Hid ((memL s).length = c) := ⟨_, rfl⟩
  rw [hcc.out] at hc t1
  clear h hcl
  go_enter Tryd.func19, Tryd.ntmps19
  go_wp2_with (go_at_call 14; refine (hc.out _).mono ?_; rintro e w' ⟨rfl, rfl⟩)
  go_loop [6, 17] (fun r i => ∃ k q : Nat, k ≤ n ∧ i = .int .i64 k ∧ r = .int .u64 q ∧ Hid (clr k s = q)) (fun _ i => n - (intOf i).toNat)
  case atStart => exact ⟨0, s, Nat.zero_le _, rfl, rfl, rfl⟩
  case round =>
    obtain ⟨k, q, hk, rfl, rfl, hq⟩ := hrel
    have hq1 := hlt.out k
    rw [hq.out] at hq1
    by_cases hkn : k < n
    · have hq0 := HC.out k hkn
      rw [hq.out] at hq0
      have k1 : IntKind.u64.wrap ((q : Int) - 1) = ((q - 1 : Nat) : Int) := by
        rw [← wrap64_lt (show q - 1 < M64 by omega)]; congr 1; omega
      have k2 := and64 hq1 (show q - 1 < M64 by omega)
      have hst : Hid (clr (k + 1) s = q &&& (q - 1)) := by show _ = _; rw [clr_succ, hq.out]
      generalize q - 1 = p at k1 k2 hst
      obtain ⟨u, hu⟩ : ∃ u : Nat, Hid (q &&& p = u) := ⟨q &&& p, rfl⟩
      rw [hu.out] at k2 hst
      clear hq0
      go_wp2
      go_round
      case rel => exact ⟨k + 1, u, by omega, by go_num, rfl, hst⟩
      case measure => simp [intOf]; omega
    · obtain rfl : k = n := by omega
      have k2 := andNot64 hs hq1
      have HL2 := HL.out
      rw [hq.out] at HL2
      rw [HL2] at k2
      have H3 := Lib.hid HL2
      obtain ⟨u, hu⟩ : ∃ u : Nat, Hid (lowS s k = u) := ⟨lowS s k, rfl⟩
      rw [hu.out] at k2
      clear HL2
      go_wp2
      go_ret2
      rw [hu.out]
      exact ⟨rfl, rfl⟩
theorem lowest_any (s : Nat) (n : Int) (w : World) (hs : s < M64) : Calls Tryd.prog 19 #[.int .u64 s, .int .i64 n] w fun e w' => e = .returned (.tuple #[.int .u64 (lowP s n).1, .bool (lowP s n).2]) ∧ w = w' := by
  by_cases h : n < 0 ∨ ((memL s).length : Int) < n
  · have := lowest_no s n w hs h
    unfold lowP; rw [if_pos h]; exact this
  · obtain ⟨m, rfl⟩ := Int.eq_ofNat_of_zero_le (show 0 ≤ n by omega)
    have := lowest_yes s m w hs (by omega)
    unfold lowP; rw [if_neg h]; exact this
theorem highest_any (s : Nat) (n : Int) (w : World) (hs : s < M64) : Calls Tryd.prog 21 #[.int .u64 s, .int .i64 n] w fun e w' => e = .returned (.tuple #[.int .u64 (highP s n).1, .bool (highP s n).2]) ∧ w = w' := by
  have hc := Lib.hid (fun v => cnt09_any s v hs)
  have hc64 := memL_len s
  by_cases h : n < 0 ∨ ((memL s).length : Int) < n
  · have hP : Hid (highP s n = (0, false)) := by show _ = _; unfold highP; rw [if_pos h]
    rw [hP.out]
    by_cases h0 : n < 0
    · have t0 : decide (n < 0) = true := by simpa using h0
      clear h h0 hc64
      go_enter Tryd.func21, Tryd.ntmps21
      go_wp2
      go_ret2
      exact ⟨rfl, rfl⟩
    · have t0 : decide (n < 0) = false := by simpa using h0
      have t1 : decide (((memL s).length : Int) < n) = true := by simp; omega
      obtain ⟨c, hcc⟩ : ∃ c, Hid ((memL s).length = c) := ⟨_, rfl⟩
      rw [hcc.out] at hc t1
      clear h h0 hc64
      go_enter Tryd.func21, Tryd.ntmps21
      go_wp2_with (go_at_call 14; refine (hc.out _).mono ?_; rintro e w' ⟨rfl, rfl⟩)
      go_ret2
      exact ⟨rfl, rfl⟩
  · obtain ⟨m, rfl⟩ := Int.eq_ofNat_of_zero_le (show 0 ≤ n by omega)
    have hm : m ≤ (memL s).length := by omega
    have hP : Hid (highP s m = (highS s m, true)) := by show _ = _; unfold highP; rw [if_neg h]; simp
    have t0 : decide ((m : Int) < 0) = false := by simp
    have t1 : decide ((memL s).length < m) = false := by simp; omega
    have hl := Lib.hid (fun v => lowest_yes s ((memL s).length - m) v hs (by omega))
    have k2 := andNot64 hs (lowS_lt s ((memL s).length - m))
    rw [high_is hs hm] at k2
    have k3 : ((memL s).length : Int) - (m : Int) = (((memL s).length - m : Nat) : Int) := by omega
    obtain ⟨u, hu⟩ : ∃ u : Nat, Hid (highS s m = u) := ⟨_, rfl⟩
    rw [hu.out] at k2 hP
    obtain ⟨v, hv⟩ : ∃ v : Nat, Hid (lowS s ((memL s).length - m) = v) := ⟨_, rfl⟩
    rw [hv.out] at k2 hl
    rw [← k3] at hl
    obtain ⟨c, hcc⟩ : ∃ c, Hid ((memL s).length = c) := ⟨_, rfl⟩
    rw [hcc.out] at hc t1 hl hc64 hm
    rw [hP.out]
    clear h k3
    go_enter Tryd.func21, Tryd.ntmps21
    go_wp2_with (first | (go_at_call 14; refine (hc.out _).mono ?_; rintro e w' ⟨rfl, rfl⟩) | (go_at_call 19; refine (hl.out _).mono ?_; rintro e w' ⟨rfl, rfl⟩))
    go_ret2
    exact ⟨rfl, rfl⟩
/-- the library's table of bits -/
def DeB (w : World) : Prop := ∀ j, j < 64 → w.cell? ⟨0, j, none⟩ = some (.int .u8 (Lib.deBruijn64tab.getD j 0 : Nat))
theorem tz_key (x a : Nat) (hx : x < 18446744073709551616) (hx0 : x ≠ 0) (hlow : x &&& (18446744073709551616 - x) = a) :
    IntKind.u64.wrap (bits BinOp.and IntKind.u64 (x : Int) (IntKind.u64.wrap (-(x : Int))) * 285870213051353865) / 288230376151711744 = ((a * 285870213051353865 % 18446744073709551616 / 288230376151711744 : Nat) : Int) := by
  have e1 : IntKind.u64.wrap (-(x : Int)) = ((18446744073709551616 - x : Nat) : Int) := by rw [IntKind.wrap_u64]; omega
  rw [e1, u64_and_nat x _ hx (by omega), hlow, IntKind.wrap_u64]
  omega
set_option maxHeartbeats 1000000 in
theorem tz_core (x k idx : Nat) (w : World) (hx0 : ((x : Int) == 0) = false)
    (key : IntKind.u64.wrap (bits BinOp.and IntKind.u64 (x : Int) (IntKind.u64.wrap (-(x : Int))) * 285870213051353865) / 288230376151711744 = (idx : Int))
    (hi : idx < 64) (hk : k < 64) (hcell : w.cell? ⟨0, idx, none⟩ = some (.int .u8 k)) :
    Calls Tryd.prog 34 #[.int .u64 x] w fun e w' => e = .returned (.int .i64 k) ∧ w = w' := by
  go_enter Tryd.func34, Tryd.ntmps34
  go_wp2_with (simp only [key])
  go_ret
  exact ⟨rfl, rfl⟩
theorem tz_zero (w : World) : Calls Tryd.prog 34 #[.int .u64 0] w fun e w' => e = .returned (.int .i64 64) ∧ w = w' := by
  go_enter Tryd.func34, Tryd.ntmps34
  go_wp2
  go_ret
  exact ⟨rfl, rfl⟩
theorem tz_any (x : Nat) (w : World) (hx : x < M64) (hT : DeB w) : Calls Tryd.prog 34 #[.int .u64 x] w fun e w' => e = .returned (.int .i64 (Lib.ctz 64 x)) ∧ w = w' := by
  have hx' : x < 18446744073709551616 := by rw [M64_is] at hx; exact hx
  by_cases hx0 : x = 0
  · subst hx0
    exact tz_zero w
  · obtain ⟨hlow, hk⟩ := Lib.lowest_bit 64 x hx0 hx'
    obtain ⟨hi, htab⟩ := Lib.deBruijn64_at _ hk
    have hcell := hT _ hi
    rw [htab] at hcell
    exact tz_core x _ _ w (by simp; omega) (tz_key x _ hx' hx0 hlow) hi hk hcell
end Go.Proofs.YtplneobjdpdlhaaDoor
