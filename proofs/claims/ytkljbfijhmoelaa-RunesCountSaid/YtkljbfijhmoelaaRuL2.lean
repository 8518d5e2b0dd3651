/- The statement RunesCount of layer 4, walked. -/
import Derived.Test.YtkljbfijhmoelaaRuL
namespace Go.Proofs.Ytkljbfijhmoelaa
set_option linter.unusedVariables false
open Go.RowKit

set_option maxHeartbeats 1000000 in
theorem runesCount_walk (s : ByteArray) (n : Int) (w : World) (hs : s.size ≤ maxLen) (hn2 : n ≤ 9223372036854775807) : Calls Try.prog 7 #[.string s, .int .i64 n] w fun e w' => e = .returned (.bool true) ∧ Below w.heap.size w w' := by
  unfold maxLen at hs
  by_cases hl : 10000 < s.size
  · go_enter Try.func7, Try.ntmps7
    go_wp2_with (go_at_call 10; refine (awake_any _).mono ?_; rintro e w1 ⟨rfl, hb1⟩)
    go_ret
    exact ⟨rfl, hb1⟩
  have m1 : s.size ≤ maxLen := by unfold maxLen; omega
  have hrl := runes_size s
  have key : (checkE (bl s) = 0 ∧ ((checkN (bl s) : Int) != ((runes (bl s)).length : Int)) = false) ∨ (checkE (bl s) = 40 ∧ (checkN (bl s) : Int) < ((runes (bl s)).length : Int)) := by
    by_cases hok : okL (bl s) = true
    · exact .inl ⟨checkE_ok hok, by rw [checkN_ok hok]; simp⟩
    · have hok' : okL (bl s) = false := by simpa using hok
      have := checkN_lt hok'
      exact .inr ⟨checkE_bad hok', by omega⟩
  by_cases hc : n < 0 ∨ ((runes (bl s)).length : Int) < n
  · have HC := Lib.hid hc
    have hem : (⟨#[]⟩ : ByteArray) ++ ⟨#[]⟩ = ⟨#[]⟩ := rfl
    rcases key with ⟨k1, k2⟩ | ⟨k1, k2⟩ <;> rcases hc with h0 | h0
    all_goals
      go_enter Try.func7, Try.ntmps7
      go_wp2_with fail
      refine (check_any s _ m1).mono ?_; rintro e w1 ⟨rfl, hb1⟩
      go_wp2_with fail
      refine (count_any s _ m1).mono ?_; rintro e w2 ⟨rfl, hb2⟩
      go_wp2_with fail
      refine (cut_no s n _ m1 HC.out hn2).mono ?_; rintro e w3 ⟨rfl, hb3⟩
      go_wp2_with (first
        | (go_at_call 15; refine (count_any s _ m1).mono ?_; rintro e w4 ⟨rfl, hb4⟩)
        | (go_at_call 10; refine (awake_any _).mono ?_; rintro e w5 ⟨rfl, hb5⟩))
      go_ret
      first
      | exact ⟨rfl, bt (bt (bt (bt hb1 hb2) hb3) hb4) hb5⟩
      | exact ⟨rfl, bt (bt (bt hb1 hb2) hb3) hb5⟩
  · obtain ⟨m, rfl⟩ := Int.eq_ofNat_of_zero_le (show 0 ≤ n by omega)
    have hm : m ≤ (runes (bl s)).length := by omega
    obtain ⟨f1, f2, f3⟩ := pos_facts m (bl s) hm
    have ra : (runes (bl (cutA s m))).length = m := by rw [bl_cutA, f2, List.length_take]; omega
    have rb : (((m : Int) + ((runes (bl (cutB s m))).length : Int)) == ((runes (bl s)).length : Int)) = true := by
      rw [bl_cutB, f3, List.length_drop]; simp; omega
    have rb2 : (runes (bl (cutB s m))).length ≤ (runes (bl s)).length := by rw [bl_cutB, f3, List.length_drop]; omega
    have za : (cutA s m).size ≤ s.size := by rw [← bl_len, bl_cutA, List.length_take, bl_len]; omega
    have zb : (cutB s m).size ≤ s.size := by rw [← bl_len, bl_cutB, List.length_drop, bl_len]; omega
    have hcat : cutA s m ++ cutB s m = s := ba_ext (by
      have e : (cutA s m ++ cutB s m).data.toList = bl (cutA s m) ++ bl (cutB s m) := by simp [bl]
      rw [e, bl_cutA, bl_cutB, List.take_append_drop])
    have m2 : (cutA s m).size ≤ maxLen := by unfold maxLen; omega
    have m3 : (cutB s m).size ≤ maxLen := by unfold maxLen; omega
    clear hc f1 f2 f3
    rcases key with ⟨k1, k2⟩ | ⟨k1, k2⟩
    all_goals
      go_enter Try.func7, Try.ntmps7
      go_wp2_with fail
      refine (check_any s _ m1).mono ?_; rintro e w1 ⟨rfl, hb1⟩
      go_wp2_with fail
      refine (count_any s _ m1).mono ?_; rintro e w2 ⟨rfl, hb2⟩
      go_wp2_with fail
      refine (cut_yes s m _ m1 hm).mono ?_; rintro e w3 ⟨rfl, hb3⟩
      go_wp2_with fail
      refine (count_any (cutA s m) _ m2).mono ?_; rintro e w4 ⟨rfl, hb4⟩
      go_wp2_with fail
      refine (count_any (cutA s m) _ m2).mono ?_; rintro e w5 ⟨rfl, hb5⟩
      go_wp2_with fail
      refine (count_any (cutB s m) _ m3).mono ?_; rintro e w6 ⟨rfl, hb6⟩
      go_wp2_with fail
      refine (count_any s _ m1).mono ?_; rintro e w7 ⟨rfl, hb7⟩
      go_wp2_with fail
      refine (awake_any _).mono ?_; rintro e w8 ⟨rfl, hb8⟩
      go_wp2_with fail
      go_ret
      exact ⟨rfl, bt (bt (bt (bt (bt (bt (bt hb1 hb2) hb3) hb4) hb5) hb6) hb7) hb8⟩
end Go.Proofs.Ytkljbfijhmoelaa
