/- Contracts of the functions of layer 1 (sat) and of its reference: what each call returns, for every input. -/
import Derived.Test.YtollcoecljobeaaSatP
namespace Go.Proofs.Ytollcoecljobeaa
set_option linter.unusedVariables false
open Go.RowKit

theorem within_any (n lo hi : Int) (w : World) :
    Calls Try.prog 26 #[.int .i64 n, .int .i64 lo, .int .i64 hi] w fun e w' => e = .returned (.int .i64 (clamp n lo hi)) ∧ w = w' := by
  go_enter Try.func26, Try.ntmps26
  go_wp2
  · go_ret
    exact ⟨ret_int (clamp_lo (by assumption)).symm, rfl⟩
  · go_ret
    exact ⟨ret_int (clamp_hi (by omega) (by omega)).symm, rfl⟩
  · go_ret
    exact ⟨ret_int (clamp_in (by omega) (by omega)).symm, rfl⟩

theorem time_any (n : Int) (w : World) :
    Calls Try.prog 14 #[.int .i64 n] w fun e w' => e = .returned (.int .i64 (clamp n 0 1000000)) ∧ w = w' := by
  go_enter Try.func14, Try.ntmps14
  go_wp2_with (go_at_call 26; refine (within_any _ _ _ _).mono ?_; rintro e w' ⟨rfl, rfl⟩)
  go_ret
  exact ⟨rfl, rfl⟩

theorem usage_any (n : Int) (w : World) :
    Calls Try.prog 22 #[.int .i64 n] w fun e w' => e = .returned (.int .i64 (clamp n 0 1000000000000)) ∧ w = w' := by
  go_enter Try.func22, Try.ntmps22
  go_wp2_with (go_at_call 26; refine (within_any _ _ _ _).mono ?_; rintro e w' ⟨rfl, rfl⟩)
  go_ret
  exact ⟨rfl, rfl⟩

set_option maxHeartbeats 400000 in
theorem sum_any (E : Int) (A : Option Addr) (n c B : Nat) (xs : List Int) (w : World) (hE : 0 ≤ E) (hE2 : E ≤ 1000000000000) (hn : n ≤ maxLen)
    (hr : Reads w B 1 A n (ints xs)) :
    Calls Try.prog 24 #[.int .i64 E, .slice A n c] w fun e w' => e = .returned (.tuple #[.int .i64 (addV E xs), .bool (fitsV E xs)]) ∧ w = w' := by
  have hlen : Hid (xs.length = n) := hr.len
  unfold maxLen at hn
  go_enter Try.func24, Try.ntmps24
  go_wp2
  go_loop [6, 12] (fun l i => ∃ k : Nat, k ≤ n ∧ i = .int .i64 k ∧ l = .int .i64 (E - tot E (xs.take k)) ∧ tot E (xs.take k) ≤ E) (fun _ i => n - (intOf i).toNat)
  case atStart => exact ⟨0, Nat.zero_le _, rfl, by simp [tot], by simp [tot]; omega⟩
  case round =>
    obtain ⟨k, hk, rfl, rfl, ht⟩ := hrel
    have h0 := tot_nonneg E hE (xs.take k)
    by_cases hlt : k < n
    · obtain ⟨ad, x, rfl, hb, hx, hc⟩ := hr.int_at hlt
      have hs := Lib.hid (tot_take_next (E := E) hx.out)
      have hle := tot_take_le E hE xs (k + 1)
      have hcl := clamp_bd x hE
      clear hr
      by_cases hgt : E - tot E (xs.take k) < clamp x 0 E
      · go_wp2_with (go_at_call 26; refine (within_any _ _ _ _).mono ?_; rintro e w' ⟨rfl, rfl⟩)
        go_ret2
        have h2 : E < tot E xs := by have := hs.out; omega
        exact ⟨ret_v (by rw [addV_of_gt h2, fitsV_of_gt h2]; rfl), rfl⟩
      · go_wp2_with (go_at_call 26; refine (within_any _ _ _ _).mono ?_; rintro e w' ⟨rfl, rfl⟩)
        go_round
        case rel => exact ⟨k + 1, by omega, by go_num, by rw [hs.out]; go_num, by have := hs.out; omega⟩
        case measure => simp [intOf]; omega
    · go_wp2
      go_ret2
      have e : xs.take k = xs := List.take_of_length_le (by have := hlen.out; omega)
      rw [e] at ht
      exact ⟨ret_v (by rw [addV_of_le ht, fitsV_of_le ht, e]; simp; omega), rfl⟩

theorem add_any (A : Option Addr) (n c B : Nat) (xs : List Int) (w : World) (hn : n ≤ maxLen) (hr : Reads w B 1 A n (ints xs)) :
    Calls Try.prog 8 #[.slice A n c] w fun e w' => e = .returned (.int .i64 (addV 1000000 xs)) ∧ w = w' := by
  go_enter Try.func8, Try.ntmps8
  go_wp2_with (go_at_call 24; refine (sum_any _ _ _ _ B xs _ (by omega) (by omega) hn hr).mono ?_; rintro e w' ⟨rfl, rfl⟩)
  go_ret
  exact ⟨rfl, rfl⟩
theorem plus_any (A : Option Addr) (n c B : Nat) (xs : List Int) (w : World) (hn : n ≤ maxLen) (hr : Reads w B 1 A n (ints xs)) :
    Calls Try.prog 16 #[.slice A n c] w fun e w' => e = .returned (.int .i64 (addV 1000000000000 xs)) ∧ w = w' := by
  go_enter Try.func16, Try.ntmps16
  go_wp2_with (go_at_call 24; refine (sum_any _ _ _ _ B xs _ (by omega) (by omega) hn hr).mono ?_; rintro e w' ⟨rfl, rfl⟩)
  go_ret
  exact ⟨rfl, rfl⟩
theorem over_any (A : Option Addr) (n c B : Nat) (xs : List Int) (w : World) (hn : n ≤ maxLen) (hr : Reads w B 1 A n (ints xs)) :
    Calls Try.prog 10 #[.slice A n c] w fun e w' => e = .returned (.bool (!fitsV 1000000 xs)) ∧ w = w' := by
  go_enter Try.func10, Try.ntmps10
  go_wp2_with (go_at_call 24; refine (sum_any _ _ _ _ B xs _ (by omega) (by omega) hn hr).mono ?_; rintro e w' ⟨rfl, rfl⟩)
  go_ret
  exact ⟨rfl, rfl⟩

theorem sub_any (a b : Int) (w : World) :
    Calls Try.prog 12 #[.int .i64 a, .int .i64 b] w fun e w' => e = .returned (.int .i64 (subV a b)) ∧ w = w' := by
  have h1 := clamp_bd a (E := 1000000) (by omega)
  have h2 := clamp_bd b (E := 1000000) (by omega)
  go_enter Try.func12, Try.ntmps12
  go_wp2_with (go_at_call 14; refine (time_any _ _).mono ?_; rintro e w' ⟨rfl, rfl⟩)
  all_goals
    go_ret
    exact ⟨ret_int (by rw [subV_max]; omega), rfl⟩
theorem half_any (a : Int) (w : World) :
    Calls Try.prog 20 #[.int .i64 a] w fun e w' => e = .returned (.int .i64 (halfV a)) ∧ w = w' := by
  have h1 := clamp_bd a (E := 1000000000000) (by omega)
  go_enter Try.func20, Try.ntmps20
  go_wp2_with (go_at_call 22; refine (usage_any _ _).mono ?_; rintro e w' ⟨rfl, rfl⟩)
  go_ret
  exact ⟨rfl, rfl⟩
theorem times_any (a b : Int) (w : World) :
    Calls Try.prog 18 #[.int .i64 a, .int .i64 b] w fun e w' => e = .returned (.int .i64 (mulV 1000000000000 a b)) ∧ w = w' := by
  have h1 := clamp_bd a (E := 1000000000000) (by omega)
  have h2 := clamp_bd b (E := 1000000000000) (by omega)
  have hz := @mulV_zero 1000000000000 a b (by omega)
  have HV : Hid (mulV 1000000000000 a b = capM 1000000000000 (clamp a 0 1000000000000 * clamp b 0 1000000000000)) := rfl
  by_cases ha : (clamp a 0 1000000000000 == 0) = true
  · have HZ := Lib.hid (hz (.inl (by simpa using ha)))
    clear hz HV
    go_enter Try.func18, Try.ntmps18
    go_wp2_with (go_at_call 22; refine (usage_any _ _).mono ?_; rintro e w' ⟨rfl, rfl⟩)
    go_ret
    exact ⟨ret_int HZ.out.symm, rfl⟩
  · have ha' : (clamp a 0 1000000000000 == 0) = false := by simpa using ha
    clear ha
    by_cases hb : (clamp b 0 1000000000000 == 0) = true
    · have HZ := Lib.hid (hz (.inr (by simpa using hb)))
      clear hz HV
      go_enter Try.func18, Try.ntmps18
      go_wp2_with (go_at_call 22; refine (usage_any _ _).mono ?_; rintro e w' ⟨rfl, rfl⟩)
      go_ret
      exact ⟨ret_int HZ.out.symm, rfl⟩
    · have hb' : (clamp b 0 1000000000000 == 0) = false := by simpa using hb
      clear hb hz
      have hb0 : 1 ≤ clamp b 0 1000000000000 := by simp at hb'; omega
      have hiff := Lib.hid (mul_gt_iff (x := clamp a 0 1000000000000) (y := clamp b 0 1000000000000) (M := 1000000000000) (by omega))
      by_cases hg : 1000000000000 / clamp b 0 1000000000000 < clamp a 0 1000000000000
      · go_enter Try.func18, Try.ntmps18
        go_wp2_with (go_at_call 22; refine (usage_any _ _).mono ?_; rintro e w' ⟨rfl, rfl⟩)
        go_ret
        exact ⟨ret_int (by rw [HV.out, capM_out (by have := hiff.out.1 hg; omega)]), rfl⟩
      · have hm : clamp a 0 1000000000000 * clamp b 0 1000000000000 ≤ 1000000000000 := by
          rw [hiff.out] at hg; omega
        have hm0 : 0 ≤ clamp a 0 1000000000000 * clamp b 0 1000000000000 := Int.mul_nonneg (by omega) (by omega)
        have HV2 : Hid (mulV 1000000000000 a b = clamp a 0 1000000000000 * clamp b 0 1000000000000) := by rw [HV.out]; exact capM_in hm
        clear HV
        go_enter Try.func18, Try.ntmps18
        go_wp2_with (go_at_call 22; refine (usage_any _ _).mono ?_; rintro e w' ⟨rfl, rfl⟩)
        go_ret
        exact ⟨ret_int HV2.out.symm, rfl⟩
end Go.Proofs.Ytollcoecljobeaa
