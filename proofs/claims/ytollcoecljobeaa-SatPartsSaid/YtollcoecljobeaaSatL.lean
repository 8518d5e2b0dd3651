/- The four statements of layer 1, walked: each law returns true for every input and writes nothing that was there. -/
import Derived.Test.YtollcoecljobeaaSatR
namespace Go.Proofs.Ytollcoecljobeaa
set_option linter.unusedVariables false
open Go.RowKit

theorem add_two (a b : Int) (k : Nat) (w : World) (hk : k = w.heap.size) :
    Calls Try.prog 8 #[.slice (some ⟨k, 0, none⟩) 2 2] (w.alloc (.cells #[.int .i64 a, .int .i64 b] 3)) fun e w' => e = .returned (.int .i64 (addV 1000000 [a, b])) ∧ w.alloc (.cells #[.int .i64 a, .int .i64 b] 3) = w' := by
  subst hk; exact add_any _ 2 2 _ [a, b] _ (by decide) (Reads.made w (ints [a, b]) 3)
theorem plus_two (a b : Int) (k : Nat) (w : World) (hk : k = w.heap.size) :
    Calls Try.prog 16 #[.slice (some ⟨k, 0, none⟩) 2 2] (w.alloc (.cells #[.int .i64 a, .int .i64 b] 3)) fun e w' => e = .returned (.int .i64 (addV 1000000000000 [a, b])) ∧ w.alloc (.cells #[.int .i64 a, .int .i64 b] 3) = w' := by
  subst hk; exact plus_any _ 2 2 _ [a, b] _ (by decide) (Reads.made w (ints [a, b]) 3)
theorem over_two (a b : Int) (k : Nat) (w : World) (hk : k = w.heap.size) :
    Calls Try.prog 10 #[.slice (some ⟨k, 0, none⟩) 2 2] (w.alloc (.cells #[.int .i64 a, .int .i64 b] 3)) fun e w' => e = .returned (.bool (!fitsV 1000000 [a, b])) ∧ w.alloc (.cells #[.int .i64 a, .int .i64 b] 3) = w' := by
  subst hk; exact over_any _ 2 2 _ [a, b] _ (by decide) (Reads.made w (ints [a, b]) 3)
theorem over_one (a : Int) (k : Nat) (w : World) (hk : k = w.heap.size) :
    Calls Try.prog 10 #[.slice (some ⟨k, 0, none⟩) 1 1] (w.alloc (.cells #[.int .i64 a] 3)) fun e w' => e = .returned (.bool (!fitsV 1000000 [a])) ∧ w.alloc (.cells #[.int .i64 a] 3) = w' := by
  subst hk; exact over_any _ 1 1 _ [a] _ (by decide) (Reads.made w (ints [a]) 3)
theorem add_three (a b c : Int) (k : Nat) (w : World) (hk : k = w.heap.size) :
    Calls Try.prog 8 #[.slice (some ⟨k, 0, none⟩) 3 3] (w.alloc (.cells #[.int .i64 a, .int .i64 b, .int .i64 c] 3)) fun e w' => e = .returned (.int .i64 (addV 1000000 [a, b, c])) ∧ w.alloc (.cells #[.int .i64 a, .int .i64 b, .int .i64 c] 3) = w' := by
  subst hk; exact add_any _ 3 3 _ [a, b, c] _ (by decide) (Reads.made w (ints [a, b, c]) 3)


set_option maxHeartbeats 400000 in
theorem awake_any (w : World) : Calls Try.prog 7 #[] w fun e w' => e = .returned (.bool true) ∧ Below w.heap.size w w' := by
  have e1 : (addV 1000000 [999999, 5] == 1000000) = true := by decide
  have e2 : fitsV 1000000 [999999, 5] = false := by decide
  have e3 : fitsV 1000000 [3] = true := by decide
  have e4 : (subV 5 3 == 2) = true := by decide
  have e5 : (subV 3 5 == 0) = true := by decide
  have e6 : (mulV 1000000000000 1000000 1000001 == 1000000000000) = true := by decide
  have e7 : (mulV 1000000000000 3 4 == 12) = true := by decide
  have e8 : (addV 1000000000000 [1, 2] == 3) = true := by decide
  have e9 : (halfV 7 == 3) = true := by decide
  have e10 : (clamp (-1) 0 1000000 == 0) = true := by decide
  have e11 : (clamp 9 0 1000000000000 == 9) = true := by decide
  go_enter Try.func7, Try.ntmps7
  go_wp2_with (first
    | (go_at_call 8; (with_reducible refine (add_two _ _ _ _ (by simp)).mono ?_); rintro e w' ⟨rfl, rfl⟩)
    | (go_at_call 16; (with_reducible refine (plus_two _ _ _ _ (by simp)).mono ?_); rintro e w' ⟨rfl, rfl⟩)
    | (go_at_call 10; (with_reducible refine (over_two _ _ _ _ (by simp)).mono ?_); rintro e w' ⟨rfl, rfl⟩)
    | (go_at_call 10; (with_reducible refine (over_one _ _ _ (by simp)).mono ?_); rintro e w' ⟨rfl, rfl⟩)
    | (go_at_call 12; (with_reducible refine (sub_any _ _ _).mono ?_); rintro e w' ⟨rfl, rfl⟩)
    | (go_at_call 18; (with_reducible refine (times_any _ _ _).mono ?_); rintro e w' ⟨rfl, rfl⟩)
    | (go_at_call 20; (with_reducible refine (half_any _ _).mono ?_); rintro e w' ⟨rfl, rfl⟩)
    | (go_at_call 14; (with_reducible refine (time_any _ _).mono ?_); rintro e w' ⟨rfl, rfl⟩)
    | (go_at_call 22; (with_reducible refine (usage_any _ _).mono ?_); rintro e w' ⟨rfl, rfl⟩))
  go_ret
  exact ⟨rfl, ((((Below.refl _ _).alloc (Nat.le_refl _) _).alloc (by simp) _).alloc (by simp; omega) _).alloc (by simp; omega) _⟩

set_option maxHeartbeats 400000 in
theorem satTimes_walk (A : Option Addr) (n c : Nat) (xs : List Int) (a b : Int) (w : World) (hn : n ≤ maxLen) (hr : Reads w w.heap.size 1 A n (ints xs)) :
    Calls Try.prog 3 #[.slice A n c, .int .i64 a, .int .i64 b] w fun e w' => e = .returned (.bool true) ∧ Below w.heap.size w w' := by
  by_cases hl : 100000 < n
  · go_enter Try.func3, Try.ntmps3
    go_wp2_with (go_at_call 7; refine (awake_any _).mono ?_; rintro e w' ⟨rfl, hb⟩)
    go_ret
    exact ⟨rfl, hb⟩
  · go_enter Try.func3, Try.ntmps3
    go_wp2_with (first
      | (go_at_call 7; refine (awake_any _).mono ?_; rintro e w' ⟨rfl, hb⟩)
      | (go_at_call 8; (refine (add_any _ _ _ _ xs _ hn hr).mono ?_); rintro e w' ⟨rfl, rfl⟩)
      | (go_at_call 9; (refine (radd_any _ _ _ _ xs _ hn hr).mono ?_); rintro e w' ⟨rfl, rfl⟩)
      | (go_at_call 10; (refine (over_any _ _ _ _ xs _ hn hr).mono ?_); rintro e w' ⟨rfl, rfl⟩)
      | (go_at_call 11; (refine (rover_any _ _ _ _ xs _ hn hr).mono ?_); rintro e w' ⟨rfl, rfl⟩)
      | (go_at_call 12; (refine (sub_any _ _ _).mono ?_); rintro e w' ⟨rfl, rfl⟩)
      | (go_at_call 13; (refine (rsub_any _ _ _).mono ?_); rintro e w' ⟨rfl, rfl⟩)
      | (go_at_call 14; (refine (time_any _ _).mono ?_); rintro e w' ⟨rfl, rfl⟩)
      | (go_at_call 15; (refine (rtime_any _ _).mono ?_); rintro e w' ⟨rfl, rfl⟩))
    go_ret
    exact ⟨rfl, hb⟩

set_option maxHeartbeats 400000 in
theorem satUsages_walk (A : Option Addr) (n c : Nat) (xs : List Int) (a b : Int) (w : World) (hn : n ≤ maxLen) (hr : Reads w w.heap.size 1 A n (ints xs)) :
    Calls Try.prog 4 #[.slice A n c, .int .i64 a, .int .i64 b] w fun e w' => e = .returned (.bool true) ∧ Below w.heap.size w w' := by
  by_cases hl : 100000 < n
  · go_enter Try.func4, Try.ntmps4
    go_wp2_with (go_at_call 7; refine (awake_any _).mono ?_; rintro e w' ⟨rfl, hb⟩)
    go_ret
    exact ⟨rfl, hb⟩
  · go_enter Try.func4, Try.ntmps4
    go_wp2_with (first
      | (go_at_call 7; refine (awake_any _).mono ?_; rintro e w' ⟨rfl, hb⟩)
      | (go_at_call 16; (refine (plus_any _ _ _ _ xs _ hn hr).mono ?_); rintro e w' ⟨rfl, rfl⟩)
      | (go_at_call 17; (refine (rplus_any _ _ _ _ xs _ hn hr).mono ?_); rintro e w' ⟨rfl, rfl⟩)
      | (go_at_call 18; (refine (times_any _ _ _).mono ?_); rintro e w' ⟨rfl, rfl⟩)
      | (go_at_call 19; (refine (rtimes_any _ _ _).mono ?_); rintro e w' ⟨rfl, rfl⟩)
      | (go_at_call 20; (refine (half_any _ _).mono ?_); rintro e w' ⟨rfl, rfl⟩)
      | (go_at_call 21; (refine (rhalf_any _ _).mono ?_); rintro e w' ⟨rfl, rfl⟩)
      | (go_at_call 22; (refine (usage_any _ _).mono ?_); rintro e w' ⟨rfl, rfl⟩)
      | (go_at_call 23; (refine (rusage_any _ _).mono ?_); rintro e w' ⟨rfl, rfl⟩))
    go_ret
    exact ⟨rfl, hb⟩
end Go.Proofs.Ytollcoecljobeaa
