/- Contracts of the functions of layer 1 (sat) and of its reference: what each call returns, for every input. -/
import Derived.Test.YtlhogedcokcmhaaSatP
namespace Go.Proofs.Ytlhogedcokcmhaa
set_option linter.unusedVariables false
open Go.RowKit

theorem within_any (n lo hi : Int) (w : World) :
    Calls Try.prog 41 #[.int .i64 n, .int .i64 lo, .int .i64 hi] w fun e w' => e = .returned (.int .i64 (clamp n lo hi)) ∧ w = w' := by
  go_enter Try.func41, Try.ntmps41
  go_wp2
  · go_ret
    exact ⟨ret_int (clamp_lo (by assumption)).symm, rfl⟩
  · go_ret
    exact ⟨ret_int (clamp_hi (by omega) (by omega)).symm, rfl⟩
  · go_ret
    exact ⟨ret_int (clamp_in (by omega) (by omega)).symm, rfl⟩

theorem usage_any (n : Int) (w : World) :
    Calls Try.prog 30 #[.int .i64 n] w fun e w' => e = .returned (.int .i64 (clamp n 0 1000000000000)) ∧ w = w' := by
  go_enter Try.func30, Try.ntmps30
  go_wp2_with (go_at_call 41; refine (within_any _ _ _ _).mono ?_; rintro e w' ⟨rfl, rfl⟩)
  go_ret
  exact ⟨rfl, rfl⟩

set_option maxHeartbeats 400000 in
theorem sum_any (E : Int) (A : Option Addr) (n c B : Nat) (xs : List Int) (w : World) (hE : 0 ≤ E) (hE2 : E ≤ 1000000000000) (hn : n ≤ maxLen)
    (hr : Reads w B 1 A n (ints xs)) :
    Calls Try.prog 33 #[.int .i64 E, .slice A n c] w fun e w' => e = .returned (.tuple #[.int .i64 (addV E xs), .bool (fitsV E xs)]) ∧ w = w' := by
  have hlen : Hid (xs.length = n) := hr.len
  unfold maxLen at hn
  go_enter Try.func33, Try.ntmps33
  go_wp2
  go_loop [6, 12] (fun l i => ∃ k : Nat, k ≤ n ∧ i = .int .i64 k ∧ l = .int .i64 (E - tot E (xs.take k)) ∧ tot E (xs.take k) ≤ E) (fun _ i => n - (intOf i).toNat)
  case atStart => exact ⟨0, Nat.zero_le _, rfl, by simp [tot], by simp [tot]; omega⟩
  case round =>
    obtain ⟨k, hk, rfl, rfl, ht⟩ := hrel
    have h0 := tot_nonneg E hE (xs.take k)
    by_cases hlt : k < n
    · obtain ⟨ad, x, rfl, hb, hx, hc⟩ := hr.int_at hlt
      have hs := Lib.hid (tot_take_next (E := E) hx.out)
      have hle := tot_take_le E hE xs (k + 1)
      have hcl := clamp_bd x hE
      clear hr
      by_cases hgt : E - tot E (xs.take k) < clamp x 0 E
      · go_wp2_with (go_at_call 41; refine (within_any _ _ _ _).mono ?_; rintro e w' ⟨rfl, rfl⟩)
        go_ret2
        have h2 : E < tot E xs := by have := hs.out; omega
        exact ⟨ret_v (by rw [addV_of_gt h2, fitsV_of_gt h2]; rfl), rfl⟩
      · go_wp2_with (go_at_call 41; refine (within_any _ _ _ _).mono ?_; rintro e w' ⟨rfl, rfl⟩)
        go_round
        case rel => exact ⟨k + 1, by omega, by go_num, by rw [hs.out]; go_num, by have := hs.out; omega⟩
        case measure => simp [intOf]; omega
    · go_wp2
      go_ret2
      have e : xs.take k = xs := List.take_of_length_le (by have := hlen.out; omega)
      rw [e] at ht
      exact ⟨ret_v (by rw [addV_of_le ht, fitsV_of_le ht, e]; simp; omega), rfl⟩

theorem plus_any (A : Option Addr) (n c B : Nat) (xs : List Int) (w : World) (hn : n ≤ maxLen) (hr : Reads w B 1 A n (ints xs)) :
    Calls Try.prog 16 #[.slice A n c] w fun e w' => e = .returned (.int .i64 (addV 1000000000000 xs)) ∧ w = w' := by
  go_enter Try.func16, Try.ntmps16
  go_wp2_with (go_at_call 33; refine (sum_any _ _ _ _ B xs _ (by omega) (by omega) hn hr).mono ?_; rintro e w' ⟨rfl, rfl⟩)
  go_ret
  exact ⟨rfl, rfl⟩
theorem half_any (a : Int) (w : World) :
    Calls Try.prog 28 #[.int .i64 a] w fun e w' => e = .returned (.int .i64 (halfV a)) ∧ w = w' := by
  have h1 := clamp_bd a (E := 1000000000000) (by omega)
  go_enter Try.func28, Try.ntmps28
  go_wp2_with (go_at_call 30; refine (usage_any _ _).mono ?_; rintro e w' ⟨rfl, rfl⟩)
  go_ret
  exact ⟨rfl, rfl⟩
end Go.Proofs.Ytlhogedcokcmhaa
