/- The statements of layer 6, walked. -/
import Derived.Test.YtenonfoocjcdmaaDoorHrW4
namespace Go.Proofs.YtenonfoocjcdmaaDoor
set_option linter.unusedVariables false
open Go.RowKit
theorem show_str {n : Nat} (h : n ≤ 1000000) : ∃ s : ByteArray, Hid (⟨(showL n).toArray⟩ = s) ∧ Hid (s.data.toList = showL n) ∧ s.size ≤ 12 := by
  obtain ⟨s, h1, h2, h3⟩ := ba_of (showL n)
  refine ⟨s, h2, h1, ?_⟩
  rw [h3]; unfold showL
  split
  · simp
  · exact pts_len h 4 (by omega)
theorem show_at {n : Nat} {s : ByteArray} (h : n ≤ 1000000) (hs : ⟨(showL n).toArray⟩ = s) (w : World) :
    Calls Tryd.prog 12 #[.int .i64 n] w fun e w' => e = .returned (.tuple #[.string s, .int .i64 0]) ∧ Below w.heap.size w w' := by
  subst hs; exact show_ok n w h
theorem show06_at {n : Nat} {s : ByteArray} (h : n ≤ 1000000) (hs : ⟨(showL n).toArray⟩ = s) (w : World) :
    Calls Tryd.prog 13 #[.int .i64 n] w fun e w' => e = .returned (.tuple #[.string s, .int .i64 0]) ∧ Below w.heap.size w w' := by
  subst hs
  by_cases h0 : n = 0
  · subst h0; exact (show06_zero w).mono fun e w' ⟨h1, h2⟩ => ⟨h1, h2 ▸ Below.refl _ _⟩
  · have e : showL n = pts 4 n := by unfold showL; rw [if_neg h0]
    rw [e]; exact show06_ok n w h (by omega)
theorem hoursShows_walk (n : Int) (w : World) : Calls Tryd.prog 3 #[.int .i64 n] w fun e w' => e = .returned (.bool true) ∧ Below w.heap.size w w' := by
  by_cases h : n < 0 ∨ 1000000 < n
  · have H := Lib.hid h
    clear h
    go_enter Tryd.func3, Tryd.ntmps3
    go_wp2_with fail
    refine (show_bad n _ H.out).mono ?_; rintro e w1 ⟨rfl, rfl⟩
    go_wp2_with fail
    refine (show06_bad n _ H.out).mono ?_; rintro e w2 ⟨rfl, rfl⟩
    go_wp2_with (go_at_call 14; refine (awake06_any _).mono ?_; rintro e w3 ⟨rfl, hb3⟩)
    go_ret
    exact ⟨rfl, hb3⟩
  · obtain ⟨m, rfl⟩ := Int.eq_ofNat_of_zero_le (show 0 ≤ n by omega)
    have hm : m ≤ 1000000 := by omega
    obtain ⟨s, h1, h2, h3⟩ := show_str hm
    clear h
    go_enter Tryd.func3, Tryd.ntmps3
    go_wp2_with fail
    refine (show_at hm h1.out _).mono ?_; rintro e w1 ⟨rfl, hb1⟩
    go_wp2_with fail
    refine (show06_at hm h1.out _).mono ?_; rintro e w2 ⟨rfl, hb2⟩
    go_wp2_with (go_at_call 14; refine (awake06_any _).mono ?_; rintro e w3 ⟨rfl, hb3⟩)
    go_ret
    exact ⟨rfl, bt (bt hb1 hb2) hb3⟩
theorem parse_at {s : ByteArray} {n e : Int} (hs : s.size ≤ maxLen) (h1 : hrsN s.data.toList = n) (h2 : hrsE s.data.toList = e) (w : World) :
    Calls Tryd.prog 16 #[.string s] w fun e' w' => e' = .returned (.tuple #[.int .i64 n, .int .i64 e]) ∧ Below w.heap.size w w' := by
  subst h1 h2; exact parse_any s w hs
theorem hrs_show {n : Nat} (h : n ≤ 1000000) : hrsN (showL n) = n ∧ hrsE (showL n) = 0 := by
  unfold hrsN hrsE; rw [parse_show h]; simp [h]
theorem hoursBack_walk (n : Int) (w : World) : Calls Tryd.prog 4 #[.int .i64 n] w fun e w' => e = .returned (.bool true) ∧ Below w.heap.size w w' := by
  by_cases h : n < 0 ∨ 1000000 < n
  · have k1 : (n != clamp n 0 1000000) = true := by
      rcases clamp_cases n (E := 1000000) (by omega) with hc | hc | hc
      · rw [hc.2]; simp; omega
      · omega
      · rw [hc.2]; simp; omega
    have H := Lib.hid h
    clear h
    go_enter Tryd.func4, Tryd.ntmps4
    go_wp2_with fail
    refine (show_bad n _ H.out).mono ?_; rintro e w1 ⟨rfl, rfl⟩
    go_wp2_with (first | (go_at_call 14; refine (awake06_any _).mono ?_; rintro e w3 ⟨rfl, hb3⟩) | (go_at_call 15; refine (time_any _ _).mono ?_; rintro e w' ⟨rfl, rfl⟩))
    go_ret
    exact ⟨rfl, hb3⟩
  · obtain ⟨m, rfl⟩ := Int.eq_ofNat_of_zero_le (show 0 ≤ n by omega)
    have hm : m ≤ 1000000 := by omega
    obtain ⟨s, h1, h2, h3⟩ := show_str hm
    have HN : Hid (hrsN s.data.toList = (m : Int)) := by show _ = _; rw [h2.out]; exact (hrs_show hm).1
    have HE : Hid (hrsE s.data.toList = 0) := by show _ = _; rw [h2.out]; exact (hrs_show hm).2
    clear h
    go_enter Tryd.func4, Tryd.ntmps4
    go_wp2_with fail
    refine (show_at hm h1.out _).mono ?_; rintro e w1 ⟨rfl, hb1⟩
    go_wp2_with fail
    refine (parse_at (by unfold maxLen; omega) HN.out HE.out _).mono ?_; rintro e w2 ⟨rfl, hb2⟩
    go_wp2_with (go_at_call 14; refine (awake06_any _).mono ?_; rintro e w3 ⟨rfl, hb3⟩)
    go_ret
    exact ⟨rfl, bt (bt hb1 hb2) hb3⟩
end Go.Proofs.YtenonfoocjcdmaaDoor
