/- Layer 9: the reference's bit, Has, List, Set, All, Of, SameInts walked. -/
import Derived.Test.YtplneobjdpdlhaaDoorNsW3
import Derived.Deep.QuietTactic
import Derived.BigQuiet
namespace Go.Proofs.YtplneobjdpdlhaaDoor
set_option linter.unusedVariables false
open Go.RowKit
theorem bit_any (n : Nat) (w : World) (hn : n < 64) : Calls Tryd.prog 30 #[.int .i64 n] w fun e w' => e = .returned (.int .u64 ((2 ^ n : Nat) : Int)) ∧ w = w' := by
  obtain ⟨P, hP⟩ : ∃ P : Nat, Hid (2 ^ n = P) := ⟨2 ^ n, rfl⟩
  rw [hP.out]
  go_enter Tryd.func30, Tryd.ntmps30
  go_wp2
  go_loop [3, 4] (fun o i => ∃ k q : Nat, k ≤ n ∧ i = .int .i64 k ∧ o = .int .u64 q ∧ Hid (2 ^ k = q)) (fun _ i => n - (intOf i).toNat)
  case atStart => exact ⟨0, 1, Nat.zero_le _, rfl, rfl, rfl⟩
  case round =>
    obtain ⟨k, q, hk, rfl, rfl, hq⟩ := hrel
    by_cases hkn : k < n
    · have hst : Hid (2 ^ (k + 1) = q * 2) := by show _ = _; rw [Nat.pow_succ, hq.out]
      have hl : q * 2 < M64 := by rw [← hst.out]; exact pow_lt (by omega)
      have k1 : IntKind.u64.wrap ((q : Int) * 2) = ((q * 2 : Nat) : Int) := by rw [← wrap64_lt hl]; congr 1
      generalize q * 2 = p at k1 hst
      clear hl
      go_wp2
      go_round
      case rel => exact ⟨k + 1, p, by omega, by go_num, rfl, hst⟩
      case measure => simp [intOf]; omega
    · obtain rfl : k = n := by omega
      go_wp2
      go_ret
      have e : q = P := hq.out.symm.trans hP.out
      subst e
      exact ⟨rfl, rfl⟩
theorem rhas_any (s : Nat) (n : Int) (w : World) (hs : s < M64) : Calls Tryd.prog 16 #[.int .u64 s, .int .i64 n] w fun e w' => e = .returned (.bool (hasP s n)) ∧ w = w' := by
  by_cases h0 : n < 0
  · have H : Hid (hasP s n = false) := by show _ = _; unfold hasP; simp; omega
    rw [H.out]
    have t1 : decide (n < 0) = true := by simpa using h0
    clear h0
    go_enter Tryd.func16, Tryd.ntmps16
    go_wp2
    go_ret
    exact ⟨rfl, rfl⟩
  have t0 : decide (n < 0) = false := by simpa using h0
  by_cases h1 : 63 < n
  · have H : Hid (hasP s n = false) := by show _ = _; unfold hasP; simp; omega
    rw [H.out]
    have t1 : decide (63 < n) = true := by simpa using h1
    clear h0 h1
    go_enter Tryd.func16, Tryd.ntmps16
    go_wp2
    go_ret
    exact ⟨rfl, rfl⟩
  have t1 : decide (63 < n) = false := by simpa using h1
  obtain ⟨m, rfl⟩ := Int.eq_ofNat_of_zero_le (show 0 ≤ n by omega)
  have hm : m < 64 := by omega
  have hb := Lib.hid (fun v => bit_any m v hm)
  have H : hasP s m = decide (s / 2 ^ m % 2 = 1) := by
    unfold hasP
    have : (m : Int).toNat = m := by simp
    rw [this, Nat.testBit_eq_decide_div_mod_eq]; simp; omega
  obtain ⟨p, hp⟩ : ∃ p : Nat, Hid (2 ^ m = p) := ⟨2 ^ m, rfl⟩
  have hp0 : 0 < p := by rw [← hp.out]; exact Nat.pow_pos (by omega)
  rw [hp.out] at hb H
  have k1 : (s : Int) / (p : Int) = ((s / p : Nat) : Int) := by simp
  obtain ⟨d, hd⟩ : ∃ d : Nat, Hid (s / p = d) := ⟨s / p, rfl⟩
  rw [hd.out] at k1 H
  have hdl : d < M64 := by rw [← hd.out]; exact Nat.lt_of_le_of_lt (Nat.div_le_self _ _) hs
  have kw := wrap64_lt hdl
  have k2 : (d : Int).tmod 2 = ((d % 2 : Nat) : Int) := by rw [Int.tmod_eq_emod_of_nonneg (by omega)]; simp
  obtain ⟨u, hu⟩ : ∃ u : Nat, Hid (d % 2 = u) := ⟨d % 2, rfl⟩
  rw [hu.out] at k2 H
  have k3 : ((u : Int) == 1) = decide (u = 1) := by rw [Bool.eq_iff_iff]; simp; omega
  have hpz : (p : Int) ≠ 0 := by omega
  have hpz2 : ((p : Int) == 0) = false := by simpa using hpz
  have HH := Lib.hid H
  clear H h0 h1
  rw [HH.out]
  cases hq : decide (u = 1) with
  | true =>
    rw [hq] at k3
    clear hq
    go_enter Tryd.func16, Tryd.ntmps16
    go_wp2_with (go_at_call 30; refine (hb.out _).mono ?_; rintro e w' ⟨rfl, rfl⟩)
    go_ret
    exact ⟨rfl, rfl⟩
  | false =>
    rw [hq] at k3
    clear hq
    go_enter Tryd.func16, Tryd.ntmps16
    go_wp2_with (go_at_call 30; refine (hb.out _).mono ?_; rintro e w' ⟨rfl, rfl⟩)
    go_ret
    exact ⟨rfl, rfl⟩
theorem memK_end {s k : Nat} (hs : s < M64) (h : s / 2 ^ k = 0) (hk : k ≤ 64) : memK s k = memL s := by
  refine sorted_ext ((List.pairwise_lt_range).filter _) (memL_sorted s) (fun i => ?_)
  rw [mem_memL]
  unfold memK
  simp only [List.mem_filter, List.mem_range]
  constructor
  · rintro ⟨h1, h2⟩; exact ⟨by omega, h2⟩
  · rintro ⟨h1, h2⟩
    refine ⟨?_, h2⟩
    rcases Nat.lt_or_ge i k with h3 | h3
    · exact h3
    · have h4 : s < 2 ^ k := by
        rcases Nat.lt_or_ge s (2 ^ k) with h5 | h5
        · exact h5
        · have := Nat.div_pos h5 (Nat.pow_pos (by omega)); omega
      have : s < 2 ^ i := Nat.lt_of_lt_of_le h4 (Nat.pow_le_pow_right (by omega) h3)
      rw [Nat.testBit_lt_two_pow this] at h2; cases h2
set_option maxHeartbeats 1000000 in
theorem rlist_any (s : Nat) (w : World) (hs : s < M64) : Calls Tryd.prog 11 #[.int .u64 s] w (RetNs w (memL s)) := by
  go_enter Tryd.func11, Tryd.ntmps11
  go_wp2
  go_loopw [0, 3, 4] (fun x o i wr => ∃ k q : Nat, k ≤ 64 ∧ i = .int .i64 k ∧ x = .int .u64 q ∧ q < M64 ∧ Hid (s / 2 ^ k = q) ∧ Owns wr w.heap.size 3 1 o (memK s k).length (ints (natI (memK s k))) ∧ Below w.heap.size w wr) (fun _ _ i _ => 64 - (intOf i).toNat)
  case atStart => exact ⟨0, s, Nat.zero_le _, rfl, rfl, hs, (by show _ = _; simp), Owns.nil, Below.refl _ _⟩
  case round =>
    obtain ⟨k, q, hk, rfl, rfl, hql, hq, hown, hbr⟩ := hrel
    have hsz := hbr.size
    by_cases h0 : 0 < q
    · have hk64 : k < 64 := by
        rcases Nat.lt_or_ge k 64 with h | h
        · exact h
        · have e : k = 64 := by omega
          subst e
          have h2 : s / 2 ^ 64 = 0 := Nat.div_eq_of_lt hs
          have h3 := hq.out
          rw [h2] at h3; omega
      have t0 : decide ((0 : Int) < (q : Int)) = true := by simp; omega
      have hbit : s.testBit k = decide (q % 2 = 1) := by rw [Nat.testBit_eq_decide_div_mod_eq, hq.out]
      have hst := memK_succ s k
      have hkl := memK_len s k
      have hq2 : Hid (s / 2 ^ (k + 1) = q / 2) := by show _ = _; rw [Nat.pow_succ, ← Nat.div_div_eq_div_mul, hq.out]
      have k1 : (q : Int) % 2 = ((q % 2 : Nat) : Int) := by simp
      have k2 : (q : Int) / 2 = ((q / 2 : Nat) : Int) := by simp
      have hq2l : q / 2 < M64 := by omega
      obtain ⟨u, hu⟩ : ∃ u : Nat, Hid (q % 2 = u) := ⟨q % 2, rfl⟩
      rw [hu.out] at k1 hbit
      obtain ⟨v, hv⟩ : ∃ v : Nat, Hid (q / 2 = v) := ⟨q / 2, rfl⟩
      rw [hv.out] at k2 hq2 hq2l
      have kw := wrap64_lt hq2l
      have k3 : ((u : Int) == 1) = decide (u = 1) := by rw [Bool.eq_iff_iff]; simp; omega
      obtain ⟨L, hL⟩ : ∃ L, Hid (memK s k = L) := ⟨_, rfl⟩
      rw [hL.out] at hown hst hkl
      have hO := Lib.hid hown
      clear hown
      cases hb : decide (u = 1) with
      | true =>
        rw [hb] at k3
        rw [hbit, hb, if_pos rfl] at hst
        have Hst := Lib.hid hst
        clear hb hbit hst
        go_wp2_with (at_builtin; refine app_i rfl rfl w.heap.size rfl (hO.out.alloc _) (news := [(k : Int)]) rfl (Reads.made wr [Value.int .i64 (k : Int)] _) (by omega) (by simp only [World.size_alloc]; omega) ?_)
        intro v4 w4 o4 k4 _
        have kb4 := k4.below (hbr.alloc hsz _) (Nat.le_refl _) (by simp only [World.size_alloc]; omega)
        have o5 : Owns w4 w.heap.size 3 1 v4 (memK s (k + 1)).length (ints (natI (memK s (k + 1)))) := by
          rw [Hst.out, natI_app, List.length_append]; exact o4
        have O5 := Lib.hid o5
        clear k4 o4 o5
        go_wp2
        go_roundw
        case rel => exact ⟨k + 1, v, by omega, by go_num, rfl, hq2l, hq2, O5.out, kb4⟩
        case measure => simp [intOf]; omega
      | false =>
        rw [hb] at k3
        rw [hbit, hb, if_neg (by simp), List.append_nil] at hst
        have Hst := Lib.hid hst
        clear hb hbit hst
        go_wp2
        go_roundw
        case rel => exact ⟨k + 1, v, by omega, by go_num, rfl, hq2l, hq2, by rw [Hst.out]; exact hO.out, hbr⟩
        case measure => simp [intOf]; omega
    · have e := memK_end hs (by rw [hq.out]; omega) hk
      rw [e] at hown
      have t0 : decide ((0 : Int) < (q : Int)) = false := by simp; omega
      clear e
      go_wp2
      go_ret
      exact ⟨_, rfl, hown, hbr⟩
end Go.Proofs.YtplneobjdpdlhaaDoor
