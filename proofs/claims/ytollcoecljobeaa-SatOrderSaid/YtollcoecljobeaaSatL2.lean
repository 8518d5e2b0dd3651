/- The statements SatOrder and SatParts of layer 1, walked. -/
import Derived.Test.YtollcoecljobeaaSatL
import Derived.Test.YtollcoecljobeaaApp
namespace Go.Proofs.Ytollcoecljobeaa
set_option linter.unusedVariables false
open Go.RowKit

theorem mulV_mono {E a b c : Int} (hE : 0 ≤ E) (h : b ≤ c) : mulV E a b ≤ mulV E a c := by
  have h1 := clamp_mono hE h
  have h2 := clamp_bd a hE
  have h3 := Int.mul_le_mul_of_nonneg_left h1 h2.1
  unfold mulV; split <;> split <;> omega
theorem tot2 (E a b : Int) : tot E [a, b] = clamp a 0 E + clamp b 0 E := by simp [tot]
theorem tot3 (E a b c : Int) : tot E [a, b, c] = clamp a 0 E + clamp b 0 E + clamp c 0 E := by simp [tot]; omega
theorem clamp_self {E x : Int} (h : 0 ≤ x) (h2 : x ≤ E) : clamp x 0 E = x := clamp_in (by omega) (by omega)
theorem addV_mono {E a b c : Int} (hE : 0 ≤ E) (h : b ≤ c) : addV E [a, b] ≤ addV E [a, c] := by
  have h1 := clamp_mono hE h
  unfold addV; rw [tot2, tot2]; split <;> split <;> omega
theorem subV_anti {a b c : Int} (h : b ≤ c) : subV a c ≤ subV a b := by
  have h1 := clamp_mono (E := 1000000) (by omega) h
  rw [subV_max, subV_max]; omega

set_option maxHeartbeats 1000000 in
theorem satOrder_walk (a b c : Int) (w : World) :
    Calls Try.prog 6 #[.int .i64 a, .int .i64 b, .int .i64 c] w fun e w' => e = .returned (.bool true) ∧ Below w.heap.size w w' := by
  have hs := addV_bd 1000000 (by omega) [a, b]
  have ha := clamp_bd a (E := 1000000) (by omega)
  have hb' := clamp_bd b (E := 1000000) (by omega)
  have f6 : (mulV 1000000000000 a b == mulV 1000000000000 b a) = true := by rw [mulV_comm]; simp
  have key : (fitsV 1000000 [a, b] = true ∧ (subV (addV 1000000 [a, b]) b != clamp a 0 1000000) = false ∧ clamp a 0 1000000 ≤ addV 1000000 [a, b]) ∨
      (fitsV 1000000 [a, b] = false ∧ (addV 1000000 [a, b] == clamp (addV 1000000 [a, b]) 0 1000000) = true ∧ (addV 1000000 [addV 1000000 [a, b], 1] == addV 1000000 [a, b]) = true) := by
    by_cases hf : tot 1000000 [a, b] ≤ 1000000
    · refine .inl ⟨fitsV_of_le hf, ?_, ?_⟩
      · rw [addV_of_le hf, subV_max, tot2, clamp_self (x := clamp a 0 1000000 + clamp b 0 1000000) (by omega) (by rw [tot2] at hf; omega)]
        simp; omega
      · rw [addV_of_le hf, tot2]; omega
    · refine .inr ⟨fitsV_of_gt (by omega), ?_, ?_⟩
      · rw [clamp_self hs.1 hs.2]; simp
      · rw [addV_of_gt (l := [a, b]) (by omega)]; decide
  by_cases hbc : b ≤ c
  · have g1 := addV_mono (E := 1000000) (a := a) (by omega) hbc
    have g2 := subV_anti (a := a) hbc
    have g3 := mulV_mono (E := 1000000000000) (a := a) (by omega) hbc
    rcases key with ⟨k1, k2, k3⟩ | ⟨k1, k2, k3⟩
    all_goals
      go_enter Try.func6, Try.ntmps6
      go_wp2_with (first
        | (go_at_call 7; refine (awake_any _).mono ?_; rintro e w' ⟨rfl, hb⟩)
        | (go_at_call 8; (with_reducible refine (add_two _ _ _ _ (by simp)).mono ?_); rintro e w' ⟨rfl, rfl⟩)
        | (go_at_call 10; (with_reducible refine (over_two _ _ _ _ (by simp)).mono ?_); rintro e w' ⟨rfl, rfl⟩)
        | (go_at_call 12; (with_reducible refine (sub_any _ _ _).mono ?_); rintro e w' ⟨rfl, rfl⟩)
        | (go_at_call 18; (with_reducible refine (times_any _ _ _).mono ?_); rintro e w' ⟨rfl, rfl⟩)
        | (go_at_call 14; (with_reducible refine (time_any _ _).mono ?_); rintro e w' ⟨rfl, rfl⟩))
      go_ret
      exact ⟨rfl, by
        first
        | exact ((((((Below.refl _ _).alloc (Nat.le_refl _) _).alloc (by simp) _).alloc (by simp; omega) _).alloc (by simp; omega) _).alloc (by simp; omega) _).trans (hb.mono (by simp; omega))
        | exact (((((Below.refl _ _).alloc (Nat.le_refl _) _).alloc (by simp) _).alloc (by simp; omega) _).alloc (by simp; omega) _).trans (hb.mono (by simp; omega))⟩
  · rcases key with ⟨k1, k2, k3⟩ | ⟨k1, k2, k3⟩
    all_goals
      go_enter Try.func6, Try.ntmps6
      go_wp2_with (first
        | (go_at_call 7; refine (awake_any _).mono ?_; rintro e w' ⟨rfl, hb⟩)
        | (go_at_call 8; (with_reducible refine (add_two _ _ _ _ (by simp)).mono ?_); rintro e w' ⟨rfl, rfl⟩)
        | (go_at_call 10; (with_reducible refine (over_two _ _ _ _ (by simp)).mono ?_); rintro e w' ⟨rfl, rfl⟩)
        | (go_at_call 12; (with_reducible refine (sub_any _ _ _).mono ?_); rintro e w' ⟨rfl, rfl⟩)
        | (go_at_call 18; (with_reducible refine (times_any _ _ _).mono ?_); rintro e w' ⟨rfl, rfl⟩)
        | (go_at_call 14; (with_reducible refine (time_any _ _).mono ?_); rintro e w' ⟨rfl, rfl⟩))
      go_ret
      exact ⟨rfl, by
        first
        | exact (((((Below.refl _ _).alloc (Nat.le_refl _) _).alloc (by simp) _).alloc (by simp; omega) _).alloc (by simp; omega) _).trans (hb.mono (by simp; omega))
        | exact ((((Below.refl _ _).alloc (Nat.le_refl _) _).alloc (by simp) _).alloc (by simp; omega) _).trans (hb.mono (by simp; omega))⟩
end Go.Proofs.Ytollcoecljobeaa
