/- The statements of layer 4 (runes), walked: each law returns true for every input and writes nothing that was there. -/
import Derived.Test.YtkljbfijhmoelaaRuR3
namespace Go.Proofs.Ytkljbfijhmoelaa
set_option linter.unusedVariables false
open Go.RowKit

theorem bt {a b c : World} (h : Below a.heap.size a b) (k : Below b.heap.size b c) : Below a.heap.size a c := h.trans (k.mono h.size)

theorem aw_check (w : World) : Calls Try.prog 11 #[.string ⟨#[97, 0]⟩] w fun e w' => e = .returned (.tuple #[.int .i64 1, .int .i64 40]) ∧ Below w.heap.size w w' := by
  have h := check_any ⟨#[97, 0]⟩ w (by decide)
  rw [show checkN (bl ⟨#[97, 0]⟩) = 1 by decide +kernel, show checkE (bl ⟨#[97, 0]⟩) = 40 by decide +kernel] at h
  exact h
theorem aw_quote (w : World) : Calls Try.prog 19 #[.string ⟨#[97, 34, 98]⟩] w fun e w' => e = .returned (.tuple #[.string ⟨#[34, 97, 92, 34, 98, 34]⟩, .int .i64 0]) ∧ Below w.heap.size w w' := by
  have h := quote_ok ⟨#[97, 34, 98]⟩ w (by decide) (by decide +kernel)
  rw [show quoteL (bl ⟨#[97, 34, 98]⟩) = [34, 97, 92, 34, 98, 34] by decide +kernel] at h
  exact h
theorem aw_unq1 (w : World) : Calls Try.prog 21 #[.string ⟨#[34, 97, 92, 34, 98, 34]⟩] w fun e w' => e = .returned (.tuple #[.string ⟨#[97, 34, 98]⟩, .int .i64 0]) ∧ Below w.heap.size w w' := by
  have h := unquote_any ⟨#[34, 97, 92, 34, 98, 34]⟩ w (by decide)
  rw [show unqT (bl ⟨#[34, 97, 92, 34, 98, 34]⟩) = [97, 34, 98] by decide +kernel, show unqE (bl ⟨#[34, 97, 92, 34, 98, 34]⟩) = 0 by decide +kernel] at h
  exact h
theorem aw_unq2 (w : World) : Calls Try.prog 21 #[.string ⟨#[34, 97, 34, 98, 34]⟩] w fun e w' => e = .returned (.tuple #[.string ⟨#[]⟩, .int .i64 50]) ∧ Below w.heap.size w w' := by
  have h := unquote_any ⟨#[34, 97, 34, 98, 34]⟩ w (by decide)
  rw [show unqT (bl ⟨#[34, 97, 34, 98, 34]⟩) = [] by decide +kernel, show unqE (bl ⟨#[34, 97, 34, 98, 34]⟩) = 50 by decide +kernel] at h
  exact h
theorem aw_cut (w : World) : Calls Try.prog 13 #[.string ⟨#[195, 169, 98]⟩, .int .i64 1] w fun e w' => e = .returned (.tuple #[.string ⟨#[195, 169]⟩, .string ⟨#[98]⟩, .bool true]) ∧ Below w.heap.size w w' := by
  have h := cut_yes ⟨#[195, 169, 98]⟩ 1 w (by decide) (by decide +kernel)
  rw [show cutA ⟨#[195, 169, 98]⟩ 1 = ⟨#[195, 169]⟩ from ba_ext (by decide +kernel), show cutB ⟨#[195, 169, 98]⟩ 1 = ⟨#[98]⟩ from ba_ext (by decide +kernel)] at h
  exact h
theorem aw_count (w : World) : Calls Try.prog 15 #[.string ⟨#[195, 169]⟩] w fun e w' => e = .returned (.int .i64 1) ∧ Below w.heap.size w w' := by
  have h := count_any ⟨#[195, 169]⟩ w (by decide)
  rw [show (runes (bl ⟨#[195, 169]⟩)).length = 1 by decide +kernel] at h
  exact h
theorem aw_lower (w : World) : Calls Try.prog 17 #[.string ⟨#[97, 66]⟩] w fun e w' => e = .returned (.string ⟨#[97, 98]⟩) ∧ Below w.heap.size w w' := by
  have h := lower_any ⟨#[97, 66]⟩ w (by decide)
  rw [show (bl ⟨#[97, 66]⟩).map lowB = [97, 98] by decide +kernel] at h
  exact h

set_option maxHeartbeats 1000000 in
theorem awake_any (w : World) : Calls Try.prog 10 #[] w fun e w' => e = .returned (.bool true) ∧ Below w.heap.size w w' := by
  have e1 : (classV 97 == 2) = true := by decide
  go_enter Try.func10, Try.ntmps10
  go_wp2_with fail
  refine (aw_check _).mono ?_; rintro e w1 ⟨rfl, hb1⟩
  go_wp2_with fail
  refine (aw_quote _).mono ?_; rintro e w2 ⟨rfl, hb2⟩
  go_wp2_with fail
  refine (aw_unq1 _).mono ?_; rintro e w3 ⟨rfl, hb3⟩
  go_wp2_with fail
  refine (aw_unq2 _).mono ?_; rintro e w4 ⟨rfl, hb4⟩
  go_wp2_with fail
  refine (aw_cut _).mono ?_; rintro e w5 ⟨rfl, hb5⟩
  go_wp2_with fail
  refine (aw_count _).mono ?_; rintro e w6 ⟨rfl, hb6⟩
  go_wp2_with fail
  refine (class_any _ _).mono ?_; rintro e w7 ⟨rfl, rfl⟩
  go_wp2_with fail
  refine (aw_lower _).mono ?_; rintro e w8 ⟨rfl, hb8⟩
  go_wp2_with fail
  go_ret
  exact ⟨rfl, bt (bt (bt (bt (bt (bt hb1 hb2) hb3) hb4) hb5) hb6) hb8⟩

theorem runesClass_walk (r : Int) (w : World) : Calls Try.prog 3 #[.int .i32 r] w fun e w' => e = .returned (.bool true) ∧ Below w.heap.size w w' := by
  go_enter Try.func3, Try.ntmps3
  go_wp2_with (first
    | (go_at_call 8; refine (class_any _ _).mono ?_; rintro e w' ⟨rfl, rfl⟩)
    | (go_at_call 9; refine (rclass_any _ _).mono ?_; rintro e w' ⟨rfl, rfl⟩)
    | (go_at_call 10; refine (awake_any _).mono ?_; rintro e w1 ⟨rfl, hb1⟩))
  go_ret
  exact ⟨rfl, hb1⟩

set_option maxHeartbeats 1000000 in
theorem runesChecks_walk (s : ByteArray) (n : Int) (w : World) (hs : s.size ≤ maxLen) (hn2 : n ≤ 9223372036854775807) : Calls Try.prog 4 #[.string s, .int .i64 n] w fun e w' => e = .returned (.bool true) ∧ Below w.heap.size w w' := by
  unfold maxLen at hs
  by_cases hl : 10000 < s.size
  · go_enter Try.func4, Try.ntmps4
    go_wp2_with (go_at_call 10; refine (awake_any _).mono ?_; rintro e w1 ⟨rfl, hb1⟩)
    go_ret
    exact ⟨rfl, hb1⟩
  have m1 : s.size ≤ maxLen := by unfold maxLen; omega
  by_cases hc : n < 0 ∨ ((runes (bl s)).length : Int) < n
  · go_enter Try.func4, Try.ntmps4
    have HC := Lib.hid hc
    clear hc
    go_wp2_with fail
    refine (check_any s _ m1).mono ?_; rintro e w1 ⟨rfl, hb1⟩
    go_wp2_with fail
    refine (rcheck_any s _ m1).mono ?_; rintro e w2 ⟨rfl, hb2⟩
    go_wp2_with fail
    refine (cut_no s n _ m1 HC.out hn2).mono ?_; rintro e w3 ⟨rfl, hb3⟩
    go_wp2_with fail
    refine (rcut_no s n _ (by omega) HC.out).mono ?_; rintro e w4 ⟨rfl, hb4⟩
    go_wp2_with fail
    refine (count_any s _ m1).mono ?_; rintro e w5 ⟨rfl, hb5⟩
    go_wp2_with fail
    refine (rcount_any s _ (by omega)).mono ?_; rintro e w6 ⟨rfl, hb6⟩
    go_wp2_with fail
    refine (lower_any s _ m1).mono ?_; rintro e w7 ⟨rfl, hb7⟩
    go_wp2_with fail
    refine (rlower_any s _ (by omega)).mono ?_; rintro e w8 ⟨rfl, hb8⟩
    go_wp2_with fail
    refine (awake_any _).mono ?_; rintro e w9 ⟨rfl, hb9⟩
    go_wp2_with fail
    go_ret
    exact ⟨rfl, bt (bt (bt (bt (bt (bt (bt (bt hb1 hb2) hb3) hb4) hb5) hb6) hb7) hb8) hb9⟩
  · obtain ⟨m, rfl⟩ := Int.eq_ofNat_of_zero_le (show 0 ≤ n by omega)
    have hm : m ≤ (runes (bl s)).length := by omega
    clear hc
    go_enter Try.func4, Try.ntmps4
    go_wp2_with fail
    refine (check_any s _ m1).mono ?_; rintro e w1 ⟨rfl, hb1⟩
    go_wp2_with fail
    refine (rcheck_any s _ m1).mono ?_; rintro e w2 ⟨rfl, hb2⟩
    go_wp2_with fail
    refine (cut_yes s m _ m1 hm).mono ?_; rintro e w3 ⟨rfl, hb3⟩
    go_wp2_with fail
    refine (rcut_yes s m _ (by omega) hm).mono ?_; rintro e w4 ⟨rfl, hb4⟩
    go_wp2_with fail
    refine (count_any s _ m1).mono ?_; rintro e w5 ⟨rfl, hb5⟩
    go_wp2_with fail
    refine (rcount_any s _ (by omega)).mono ?_; rintro e w6 ⟨rfl, hb6⟩
    go_wp2_with fail
    refine (lower_any s _ m1).mono ?_; rintro e w7 ⟨rfl, hb7⟩
    go_wp2_with fail
    refine (rlower_any s _ (by omega)).mono ?_; rintro e w8 ⟨rfl, hb8⟩
    go_wp2_with fail
    refine (awake_any _).mono ?_; rintro e w9 ⟨rfl, hb9⟩
    go_wp2_with fail
    go_ret
    exact ⟨rfl, bt (bt (bt (bt (bt (bt (bt (bt hb1 hb2) hb3) hb4) hb5) hb6) hb7) hb8) hb9⟩

set_option maxHeartbeats 1000000 in
theorem runesQuotes_walk (s : ByteArray) (w : World) (hs : s.size ≤ maxLen) : Calls Try.prog 5 #[.string s] w fun e w' => e = .returned (.bool true) ∧ Below w.heap.size w w' := by
  unfold maxLen at hs
  by_cases hl : 10000 < s.size
  · go_enter Try.func5, Try.ntmps5
    go_wp2_with (go_at_call 10; refine (awake_any _).mono ?_; rintro e w1 ⟨rfl, hb1⟩)
    go_ret
    exact ⟨rfl, hb1⟩
  have m1 : s.size ≤ maxLen := by unfold maxLen; omega
  by_cases hok : okL (bl s) = true
  · have HOK := Lib.hid hok
    clear hok
    go_enter Try.func5, Try.ntmps5
    go_wp2_with fail
    refine (quote_ok s _ (by omega) HOK.out).mono ?_; rintro e w1 ⟨rfl, hb1⟩
    go_wp2_with fail
    refine (rquote_ok s _ (by omega) HOK.out).mono ?_; rintro e w2 ⟨rfl, hb2⟩
    go_wp2_with fail
    refine (unquote_any s _ (by omega)).mono ?_; rintro e w3 ⟨rfl, hb3⟩
    go_wp2_with fail
    refine (runquote_any s _ (by omega)).mono ?_; rintro e w4 ⟨rfl, hb4⟩
    go_wp2_with fail
    refine (awake_any _).mono ?_; rintro e w5 ⟨rfl, hb5⟩
    go_wp2_with fail
    go_ret
    exact ⟨rfl, bt (bt (bt (bt hb1 hb2) hb3) hb4) hb5⟩
  · have HOK : Hid (okL (bl s) = false) := by show _ = _; simpa using hok
    clear hok
    go_enter Try.func5, Try.ntmps5
    go_wp2_with fail
    refine (quote_bad s _ m1 HOK.out).mono ?_; rintro e w1 ⟨rfl, hb1⟩
    go_wp2_with fail
    refine (rquote_bad s _ m1 HOK.out).mono ?_; rintro e w2 ⟨rfl, hb2⟩
    go_wp2_with fail
    refine (unquote_any s _ (by omega)).mono ?_; rintro e w3 ⟨rfl, hb3⟩
    go_wp2_with fail
    refine (runquote_any s _ (by omega)).mono ?_; rintro e w4 ⟨rfl, hb4⟩
    go_wp2_with fail
    refine (awake_any _).mono ?_; rintro e w5 ⟨rfl, hb5⟩
    go_wp2_with fail
    go_ret
    exact ⟨rfl, bt (bt (bt (bt hb1 hb2) hb3) hb4) hb5⟩

theorem unquote_quote (s : ByteArray) (w : World) (hs : s.size ≤ 10000) (hok : okL (bl s) = true) : Calls Try.prog 21 #[.string ⟨(quoteL (bl s)).toArray⟩] w fun e w' => e = .returned (.tuple #[.string s, .int .i64 0]) ∧ Below w.heap.size w w' := by
  have hl := esc_len (bl s)
  rw [bl_len] at hl
  have h := unquote_any ⟨(quoteL (bl s)).toArray⟩ w (by rw [size_mk]; simp [quoteL]; omega)
  rw [bl_mk, (unq_yes (ok_quote hok) (unq_quote hok)).1, (unq_yes (ok_quote hok) (unq_quote hok)).2] at h
  have e : (⟨(bl s).toArray⟩ : ByteArray) = s := ba_ext (by simp)
  rw [e] at h; exact h
theorem quote_unq (s : ByteArray) (u : List UInt8) (w : World) (hs : s.size ≤ 10000) (hV : unqV (bl s) = some u) : Calls Try.prog 19 #[.string ⟨u.toArray⟩] w fun e w' => e = .returned (.tuple #[.string s, .int .i64 0]) ∧ Below w.heap.size w w' := by
  obtain ⟨h1, h2, h3⟩ := unq_some hV
  have hl : u.length ≤ s.size := by
    have h4 := congrArg List.length h2
    rw [bl_len] at h4
    have h5 : u.length ≤ (esc u).length := by
      clear hV h1 h2 h3 h4
      induction u with
      | nil => simp
      | cons b t ih =>
        show _ ≤ ((if b = 34 ∨ b = 92 then [92, b] else [b]) ++ esc t).length
        simp only [List.length_append, List.length_cons]
        split <;> simp <;> omega
    simp [quoteL] at h4; omega
  have h := quote_ok ⟨u.toArray⟩ w (by rw [size_mk]; omega) (by rw [bl_mk]; exact h1)
  rw [bl_mk, h2] at h
  have e : (⟨(bl s).toArray⟩ : ByteArray) = s := ba_ext (by simp)
  rw [e] at h; exact h

set_option maxHeartbeats 1000000 in
theorem runesBack_walk (s : ByteArray) (w : World) (hs : s.size ≤ maxLen) : Calls Try.prog 6 #[.string s] w fun e w' => e = .returned (.bool true) ∧ Below w.heap.size w w' := by
  unfold maxLen at hs
  by_cases hl : 10000 < s.size
  · go_enter Try.func6, Try.ntmps6
    go_wp2_with (go_at_call 10; refine (awake_any _).mono ?_; rintro e w1 ⟨rfl, hb1⟩)
    go_ret
    exact ⟨rfl, hb1⟩
  have m1 : s.size ≤ maxLen := by unfold maxLen; omega
  by_cases hok : okL (bl s) = true
  · have HOK := Lib.hid hok
    have hce := checkE_ok hok
    cases hV : unqV (bl s) with
    | none =>
      have HU := unq_none hok hV
      have hu1 := HU.1
      have hu2 := HU.2
      clear hok hV HU
      go_enter Try.func6, Try.ntmps6
      go_wp2_with fail
      refine (quote_ok s _ (by omega) HOK.out).mono ?_; rintro e w1 ⟨rfl, hb1⟩
      go_wp2_with fail
      refine (check_any s _ m1).mono ?_; rintro e w2 ⟨rfl, hb2⟩
      go_wp2_with fail
      refine (unquote_quote s _ (by omega) HOK.out).mono ?_; rintro e w3 ⟨rfl, hb3⟩
      go_wp2_with fail
      refine (unquote_any s _ (by omega)).mono ?_; rintro e w4 ⟨rfl, hb4⟩
      go_wp2_with fail
      refine (awake_any _).mono ?_; rintro e w5 ⟨rfl, hb5⟩
      go_wp2_with fail
      go_ret
      exact ⟨rfl, bt (bt (bt (bt hb1 hb2) hb3) hb4) hb5⟩
    | some u =>
      have HV := Lib.hid hV
      have HU := unq_yes hok hV
      have hu1 := HU.1
      have hu2 := HU.2
      clear hok hV HU
      go_enter Try.func6, Try.ntmps6
      go_wp2_with fail
      refine (quote_ok s _ (by omega) HOK.out).mono ?_; rintro e w1 ⟨rfl, hb1⟩
      go_wp2_with fail
      refine (check_any s _ m1).mono ?_; rintro e w2 ⟨rfl, hb2⟩
      go_wp2_with fail
      refine (unquote_quote s _ (by omega) HOK.out).mono ?_; rintro e w3 ⟨rfl, hb3⟩
      go_wp2_with fail
      refine (unquote_any s _ (by omega)).mono ?_; rintro e w4 ⟨rfl, hb4⟩
      go_wp2_with fail
      refine (quote_unq s u _ (by omega) HV.out).mono ?_; rintro e w5 ⟨rfl, hb5⟩
      go_wp2_with fail
      refine (awake_any _).mono ?_; rintro e w6 ⟨rfl, hb6⟩
      go_wp2_with fail
      go_ret
      exact ⟨rfl, bt (bt (bt (bt (bt hb1 hb2) hb3) hb4) hb5) hb6⟩
  · have hok' : okL (bl s) = false := by simpa using hok
    have HOK := Lib.hid hok'
    have hce := checkE_bad hok'
    have hu1 : unqT (bl s) = [] := by unfold unqT; rw [unq_bad hok']; rfl
    have hu2 : unqE (bl s) = 40 := by unfold unqE; simp [hok']
    clear hok hok'
    go_enter Try.func6, Try.ntmps6
    go_wp2_with fail
    refine (quote_bad s _ m1 HOK.out).mono ?_; rintro e w1 ⟨rfl, hb1⟩
    go_wp2_with fail
    refine (check_any s _ m1).mono ?_; rintro e w2 ⟨rfl, hb2⟩
    go_wp2_with fail
    refine (unquote_any s _ (by omega)).mono ?_; rintro e w3 ⟨rfl, hb3⟩
    go_wp2_with fail
    refine (awake_any _).mono ?_; rintro e w4 ⟨rfl, hb4⟩
    go_wp2_with fail
    go_ret
    exact ⟨rfl, bt (bt (bt hb1 hb2) hb3) hb4⟩
end Go.Proofs.Ytkljbfijhmoelaa
