/- Contracts of the reference of layer 1: what each call returns, for every input. -/
import Derived.Test.YtlhogedcokcmhaaSatW
namespace Go.Proofs.Ytlhogedcokcmhaa
set_option linter.unusedVariables false
open Go.RowKit

theorem held_any (n hi : Int) (w : World) :
    Calls Try.prog 39 #[.int .i64 n, .int .i64 hi] w fun e w' => e = .returned (.int .i64 (clamp n 0 hi)) ∧ w = w' := by
  go_enter Try.func39, Try.ntmps39
  go_wp2
  · go_ret
    exact ⟨ret_int (clamp_lo (by assumption)).symm, rfl⟩
  · go_ret
    exact ⟨ret_int (clamp_hi (by omega) (by omega)).symm, rfl⟩
  · go_ret
    exact ⟨ret_int (clamp_in (by omega) (by omega)).symm, rfl⟩

theorem rusage_any (n : Int) (w : World) :
    Calls Try.prog 40 #[.int .i64 n] w fun e w' => e = .returned (.int .i64 (clamp n 0 1000000000000)) ∧ w = w' := by
  go_enter Try.func40, Try.ntmps40
  go_wp2_with (go_at_call 39; refine (held_any _ _ _).mono ?_; rintro e w' ⟨rfl, rfl⟩)
  go_ret
  exact ⟨rfl, rfl⟩

set_option maxHeartbeats 400000 in
theorem rplus_any (A : Option Addr) (n c B : Nat) (xs : List Int) (w : World) (hn : n ≤ maxLen) (hr : Reads w B 1 A n (ints xs)) :
    Calls Try.prog 27 #[.slice A n c] w fun e w' => e = .returned (.int .i64 (addV 1000000000000 xs)) ∧ w = w' := by
  have hlen := hr.len
  unfold maxLen at hn
  go_enter Try.func27, Try.ntmps27
  go_wp2
  go_loop [3, 4] (fun o i => ∃ k : Nat, k ≤ n ∧ i = .int .i64 k ∧ o = .int .i64 (addV 1000000000000 (xs.take k))) (fun _ i => n - (intOf i).toNat)
  case atStart => exact ⟨0, Nat.zero_le _, rfl, by simp [addV, tot]⟩
  case round =>
    obtain ⟨k, hk, rfl, rfl⟩ := hrel
    have h0 := addV_bd 1000000000000 (by omega) (xs.take k)
    by_cases hlt : k < n
    · obtain ⟨ad, x, rfl, hb, hx, hc⟩ := hr.int_at hlt
      have hs := Lib.hid (addV_step 1000000000000 (by omega) xs k x hx.out)
      have hcl := clamp_bd x (E := 1000000000000) (by omega)
      clear hr
      go_wp2_with (first | (go_at_call 40; refine (rusage_any _ _).mono ?_; rintro e w' ⟨rfl, rfl⟩) | (go_at_call 39; refine (held_any _ _ _).mono ?_; rintro e w' ⟨rfl, rfl⟩))
      go_round
      case rel => exact ⟨k + 1, by omega, by go_num, by rw [hs.out]⟩
      case measure => simp [intOf]; omega
    · go_wp2
      go_ret
      exact ⟨ret_int (by rw [List.take_of_length_le (by have := hlen.out; omega)]), rfl⟩

theorem rhalf_any (a : Int) (w : World) :
    Calls Try.prog 29 #[.int .i64 a] w fun e w' => e = .returned (.int .i64 (halfV a)) ∧ w = w' := by
  have h1 := clamp_bd a (E := 1000000000000) (by omega)
  go_enter Try.func29, Try.ntmps29
  go_wp2_with (go_at_call 40; refine (rusage_any _ _).mono ?_; rintro e w' ⟨rfl, rfl⟩)
  go_ret
  exact ⟨ret_int (halfV_ref a), rfl⟩
end Go.Proofs.Ytlhogedcokcmhaa
