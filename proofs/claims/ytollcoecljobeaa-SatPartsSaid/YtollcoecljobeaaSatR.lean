/- Contracts of the reference of layer 1: what each call returns, for every input. -/
import Derived.Test.YtollcoecljobeaaSatW
namespace Go.Proofs.Ytollcoecljobeaa
set_option linter.unusedVariables false
open Go.RowKit

theorem held_any (n hi : Int) (w : World) :
    Calls Try.prog 25 #[.int .i64 n, .int .i64 hi] w fun e w' => e = .returned (.int .i64 (clamp n 0 hi)) ∧ w = w' := by
  go_enter Try.func25, Try.ntmps25
  go_wp2
  · go_ret
    exact ⟨ret_int (clamp_lo (by assumption)).symm, rfl⟩
  · go_ret
    exact ⟨ret_int (clamp_hi (by omega) (by omega)).symm, rfl⟩
  · go_ret
    exact ⟨ret_int (clamp_in (by omega) (by omega)).symm, rfl⟩

theorem rtime_any (n : Int) (w : World) :
    Calls Try.prog 15 #[.int .i64 n] w fun e w' => e = .returned (.int .i64 (clamp n 0 1000000)) ∧ w = w' := by
  go_enter Try.func15, Try.ntmps15
  go_wp2_with (go_at_call 25; refine (held_any _ _ _).mono ?_; rintro e w' ⟨rfl, rfl⟩)
  go_ret
  exact ⟨rfl, rfl⟩
theorem rusage_any (n : Int) (w : World) :
    Calls Try.prog 23 #[.int .i64 n] w fun e w' => e = .returned (.int .i64 (clamp n 0 1000000000000)) ∧ w = w' := by
  go_enter Try.func23, Try.ntmps23
  go_wp2_with (go_at_call 25; refine (held_any _ _ _).mono ?_; rintro e w' ⟨rfl, rfl⟩)
  go_ret
  exact ⟨rfl, rfl⟩

set_option maxHeartbeats 400000 in
theorem radd_any (A : Option Addr) (n c B : Nat) (xs : List Int) (w : World) (hn : n ≤ maxLen) (hr : Reads w B 1 A n (ints xs)) :
    Calls Try.prog 9 #[.slice A n c] w fun e w' => e = .returned (.int .i64 (addV 1000000 xs)) ∧ w = w' := by
  have hlen := hr.len
  unfold maxLen at hn
  go_enter Try.func9, Try.ntmps9
  go_wp2
  go_loop [3, 4] (fun o i => ∃ k : Nat, k ≤ n ∧ i = .int .i64 k ∧ o = .int .i64 (addV 1000000 (xs.take k))) (fun _ i => n - (intOf i).toNat)
  case atStart => exact ⟨0, Nat.zero_le _, rfl, by simp [addV, tot]⟩
  case round =>
    obtain ⟨k, hk, rfl, rfl⟩ := hrel
    have h0 := addV_bd 1000000 (by omega) (xs.take k)
    by_cases hlt : k < n
    · obtain ⟨ad, x, rfl, hb, hx, hc⟩ := hr.int_at hlt
      have hs := Lib.hid (addV_step 1000000 (by omega) xs k x hx.out)
      have hcl := clamp_bd x (E := 1000000) (by omega)
      clear hr
      go_wp2_with (first | (go_at_call 15; refine (rtime_any _ _).mono ?_; rintro e w' ⟨rfl, rfl⟩) | (go_at_call 25; refine (held_any _ _ _).mono ?_; rintro e w' ⟨rfl, rfl⟩))
      go_round
      case rel => exact ⟨k + 1, by omega, by go_num, by rw [hs.out]⟩
      case measure => simp [intOf]; omega
    · go_wp2
      go_ret
      exact ⟨ret_int (by rw [List.take_of_length_le (by have := hlen.out; omega)]), rfl⟩

set_option maxHeartbeats 400000 in
theorem rplus_any (A : Option Addr) (n c B : Nat) (xs : List Int) (w : World) (hn : n ≤ maxLen) (hr : Reads w B 1 A n (ints xs)) :
    Calls Try.prog 17 #[.slice A n c] w fun e w' => e = .returned (.int .i64 (addV 1000000000000 xs)) ∧ w = w' := by
  have hlen := hr.len
  unfold maxLen at hn
  go_enter Try.func17, Try.ntmps17
  go_wp2
  go_loop [3, 4] (fun o i => ∃ k : Nat, k ≤ n ∧ i = .int .i64 k ∧ o = .int .i64 (addV 1000000000000 (xs.take k))) (fun _ i => n - (intOf i).toNat)
  case atStart => exact ⟨0, Nat.zero_le _, rfl, by simp [addV, tot]⟩
  case round =>
    obtain ⟨k, hk, rfl, rfl⟩ := hrel
    have h0 := addV_bd 1000000000000 (by omega) (xs.take k)
    by_cases hlt : k < n
    · obtain ⟨ad, x, rfl, hb, hx, hc⟩ := hr.int_at hlt
      have hs := Lib.hid (addV_step 1000000000000 (by omega) xs k x hx.out)
      have hcl := clamp_bd x (E := 1000000000000) (by omega)
      clear hr
      go_wp2_with (first | (go_at_call 23; refine (rusage_any _ _).mono ?_; rintro e w' ⟨rfl, rfl⟩) | (go_at_call 25; refine (held_any _ _ _).mono ?_; rintro e w' ⟨rfl, rfl⟩))
      go_round
      case rel => exact ⟨k + 1, by omega, by go_num, by rw [hs.out]⟩
      case measure => simp [intOf]; omega
    · go_wp2
      go_ret
      exact ⟨ret_int (by rw [List.take_of_length_le (by have := hlen.out; omega)]), rfl⟩

set_option maxHeartbeats 400000 in
theorem rover_any (A : Option Addr) (n c B : Nat) (xs : List Int) (w : World) (hn : n ≤ maxLen) (hr : Reads w B 1 A n (ints xs)) :
    Calls Try.prog 11 #[.slice A n c] w fun e w' => e = .returned (.bool (!fitsV 1000000 xs)) ∧ w = w' := by
  have hlen := hr.len
  unfold maxLen at hn
  go_enter Try.func11, Try.ntmps11
  go_wp2
  go_loop [3, 4] (fun o i => ∃ k : Nat, k ≤ n ∧ i = .int .i64 k ∧ o = .int .i64 (tot 1000000 (xs.take k)) ∧ tot 1000000 (xs.take k) ≤ 1000000) (fun _ i => n - (intOf i).toNat)
  case atStart => exact ⟨0, Nat.zero_le _, rfl, by simp [tot], by simp [tot]⟩
  case round =>
    obtain ⟨k, hk, rfl, rfl, ht⟩ := hrel
    have h0 := tot_nonneg 1000000 (by omega) (xs.take k)
    by_cases hlt : k < n
    · obtain ⟨ad, x, rfl, hb, hx, hc⟩ := hr.int_at hlt
      have hs := Lib.hid (tot_take_next (E := 1000000) hx.out)
      have hle := tot_take_le 1000000 (by omega) xs (k + 1)
      have hcl := clamp_bd x (E := 1000000) (by omega)
      clear hr
      by_cases hgt : 1000000 < tot 1000000 (xs.take k) + clamp x 0 1000000
      · go_wp2_with (go_at_call 15; refine (rtime_any _ _).mono ?_; rintro e w' ⟨rfl, rfl⟩)
        go_ret
        exact ⟨ret_bool (by rw [fitsV_of_gt (by have := hs.out; omega)]; rfl), rfl⟩
      · go_wp2_with (go_at_call 15; refine (rtime_any _ _).mono ?_; rintro e w' ⟨rfl, rfl⟩)
        go_round
        case rel => exact ⟨k + 1, by omega, by go_num, by rw [hs.out], by have := hs.out; omega⟩
        case measure => simp [intOf]; omega
    · go_wp2
      go_ret
      have e : xs.take k = xs := List.take_of_length_le (by have := hlen.out; omega)
      rw [e] at ht
      exact ⟨ret_bool (by rw [fitsV_of_le ht]; rfl), rfl⟩

theorem rsub_any (a b : Int) (w : World) :
    Calls Try.prog 13 #[.int .i64 a, .int .i64 b] w fun e w' => e = .returned (.int .i64 (subV a b)) ∧ w = w' := by
  have h1 := clamp_bd a (E := 1000000) (by omega)
  have h2 := clamp_bd b (E := 1000000) (by omega)
  go_enter Try.func13, Try.ntmps13
  go_wp2_with (first | (go_at_call 15; refine (rtime_any _ _).mono ?_; rintro e w' ⟨rfl, rfl⟩) | (go_at_call 25; refine (held_any _ _ _).mono ?_; rintro e w' ⟨rfl, rfl⟩))
  go_ret
  exact ⟨rfl, rfl⟩
theorem rhalf_any (a : Int) (w : World) :
    Calls Try.prog 21 #[.int .i64 a] w fun e w' => e = .returned (.int .i64 (halfV a)) ∧ w = w' := by
  have h1 := clamp_bd a (E := 1000000000000) (by omega)
  go_enter Try.func21, Try.ntmps21
  go_wp2_with (go_at_call 23; refine (rusage_any _ _).mono ?_; rintro e w' ⟨rfl, rfl⟩)
  go_ret
  exact ⟨ret_int (halfV_ref a), rfl⟩
set_option maxHeartbeats 400000 in
theorem rtimes_any (a b : Int) (w : World) :
    Calls Try.prog 19 #[.int .i64 a, .int .i64 b] w fun e w' => e = .returned (.int .i64 (mulV 1000000000000 a b)) ∧ w = w' := by
  have h1 := clamp_bd a (E := 1000000000000) (by omega)
  have h2 := clamp_bd b (E := 1000000000000) (by omega)
  have HV := Lib.hid (mulV_cap 1000000000000 a b)
  go_enter Try.func19, Try.ntmps19
  go_wp2_with (go_at_call 23; refine (rusage_any _ _).mono ?_; rintro e w' ⟨rfl, rfl⟩)
  go_loop [5, 6, 7] (fun x y o => ∃ x' y' o' : Int, x = .int .i64 x' ∧ y = .int .i64 y' ∧ o = .int .i64 o' ∧ 0 ≤ x' ∧ x' ≤ 1000000000000 ∧ 0 ≤ y' ∧ y' ≤ 1000000000000 ∧ 0 ≤ o' ∧ o' ≤ 1000000000000 ∧ Hid (capM 1000000000000 (o' + x' * y') = mulV 1000000000000 a b)) (fun _ y _ => (intOf y).toNat)
  case atStart => exact ⟨_, _, _, rfl, rfl, rfl, by omega, by omega, by omega, by omega, by omega, by omega, HV.out.symm⟩
  case round =>
    obtain ⟨x, y, o, rfl, rfl, rfl, hx, hx2, hy, hy2, ho, ho2, HI⟩ := hrel
    clear h1 h2 HV
    by_cases hlt : 0 < y
    · have h3 := clamp_bd (o + x) (E := 1000000000000) (by omega)
      have h4 := clamp_bd (x + x) (E := 1000000000000) (by omega)
      rcases (by omega : y % 2 = 1 ∨ y % 2 = 0) with hm | hm
      · have HS := Lib.hid (cap_step (M := 1000000000000) (r := x) hx hx2 ho ho2 hlt (by rw [hm]; omega))
        have hm' : (y % 2 == 1) = true := by simp [hm]
        clear hm
        go_wp2_with (go_at_call 25; refine (held_any _ _ _).mono ?_; rintro e w' ⟨rfl, rfl⟩)
        go_round
        case rel => exact ⟨_, _, _, rfl, rfl, rfl, by omega, by omega, by omega, by omega, by omega, by omega, HS.out.trans HI.out⟩
        case measure => simp [intOf]; omega
      · have HS := Lib.hid (cap_step (M := 1000000000000) (r := 0) hx hx2 ho ho2 hlt (by rw [hm]; omega))
        have hm' : (y % 2 == 1) = false := by simp [hm]
        clear hm
        go_wp2_with (go_at_call 25; refine (held_any _ _ _).mono ?_; rintro e w' ⟨rfl, rfl⟩)
        go_round
        case rel => exact ⟨_, _, _, rfl, rfl, rfl, by omega, by omega, by omega, by omega, by omega, by omega, by
          have h5 := HS.out
          rw [Int.add_zero, clamp_in (by omega) (by omega)] at h5
          exact h5.trans HI.out⟩
        case measure => simp [intOf]; omega
    · have : y = 0 := by omega
      have HI2 : Hid (o = mulV 1000000000000 a b) := by
        have h5 := HI.out
        rw [this, Int.mul_zero, Int.add_zero, capM_in ho2] at h5
        exact h5
      clear this HI
      go_wp2
      go_ret
      exact ⟨ret_int HI2.out, rfl⟩
end Go.Proofs.Ytollcoecljobeaa
