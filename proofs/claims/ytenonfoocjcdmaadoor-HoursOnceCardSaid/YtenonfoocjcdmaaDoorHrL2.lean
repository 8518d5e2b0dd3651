/- The statement HoursOnce of layer 6, walked. -/
import Derived.Test.YtenonfoocjcdmaaDoorHrL
namespace Go.Proofs.YtenonfoocjcdmaaDoor
set_option linter.unusedVariables false
open Go.RowKit
def NormIs (s A : ByteArray) (e : Int) : Prop := ∀ w : World, Calls Tryd.prog 17 #[.string s] w fun e' w' => e' = .returned (.tuple #[.string A, .int .i64 e]) ∧ Below w.heap.size w w'
def ParsIs (s : ByteArray) (n e : Int) : Prop := ∀ w : World, Calls Tryd.prog 16 #[.string s] w fun e' w' => e' = .returned (.tuple #[.int .i64 n, .int .i64 e]) ∧ Below w.heap.size w w'
theorem norm_ok {s A : ByteArray} {n : Nat} (hs : s.size ≤ maxLen) (hn : n ≤ 1000000) (h1 : hrsN s.data.toList = n) (h2 : hrsE s.data.toList = 0) (hA : ⟨(showL n).toArray⟩ = A) : NormIs s A 0 := by
  intro w; subst hA; exact normal_ok s n w hs hn h1 h2
theorem norm_facts {s : ByteArray} (hs : s.size ≤ maxLen) : (∃ (n : Nat) (A : ByteArray), n ≤ 1000000 ∧ A.size ≤ 12 ∧ Hid (A.data.toList = showL n) ∧ ParsIs s n 0 ∧ NormIs s A 0 ∧ NormIs A A 0) ∨ (∃ e : Int, (e != 0) = true ∧ (e == 0) = false ∧ ParsIs s 0 e ∧ NormIs s ⟨#[]⟩ e) := by
  rcases hrs_cases s.data.toList with ⟨n, hn, h1, h2, _⟩ | ⟨h1, h2⟩ | ⟨h1, h2⟩
  · obtain ⟨A, a1, a2, a3⟩ := show_str hn
    refine .inl ⟨n, A, hn, a3, a2, fun w => parse_at hs h1 h2 w, norm_ok hs hn h1 h2 a1.out, ?_⟩
    refine norm_ok (by unfold maxLen; omega) hn ?_ ?_ a1.out
    · rw [a2.out]; exact (hrs_show hn).1
    · rw [a2.out]; exact (hrs_show hn).2
  · exact .inr ⟨60, by decide, by decide, fun w => parse_at hs h1 h2 w, fun w => normal_bad s 60 w hs (.inl rfl) h2⟩
  · exact .inr ⟨153, by decide, by decide, fun w => parse_at hs h1 h2 w, fun w => normal_bad s 153 w hs (.inr rfl) h2⟩
theorem show_inj {m n : Nat} {A B : ByteArray} (hm : m ≤ 1000000) (hn : n ≤ 1000000) (ha : A.data.toList = showL m) (hb : B.data.toList = showL n) (h : A = B) : m = n := by
  subst h
  have h1 := parse_show hm
  rw [← ha, hb, parse_show hn] at h1
  exact (Option.some.inj h1).symm
set_option maxHeartbeats 1000000 in
theorem hoursOnce_walk (s t : ByteArray) (w : World) (hs : s.size ≤ maxLen) (ht : t.size ≤ maxLen) : Calls Tryd.prog 5 #[.string s, .string t] w fun e w' => e = .returned (.bool true) ∧ Below w.heap.size w w' := by
  have ms := hs
  have mt := ht
  unfold maxLen at hs ht
  by_cases hl : 10000 < s.size ∨ 10000 < t.size
  · by_cases h1 : 10000 < s.size
    all_goals
      (try have h2 : 10000 < t.size := by omega)
      go_enter Tryd.func5, Tryd.ntmps5
      go_wp2_with (go_at_call 14; refine (awake06_any _).mono ?_; rintro e w1 ⟨rfl, hb1⟩)
      go_ret
      exact ⟨rfl, hb1⟩
  have l1 : s.size ≤ 10000 := by omega
  have l2 : t.size ≤ 10000 := by omega
  clear hl
  rcases norm_facts ms with ⟨m, A, hm, hA, a1, p1, q1, q2⟩ | ⟨e1, f1, f2, p1, q1⟩ <;> rcases norm_facts mt with ⟨n, B, hn, hB, b1, p3, q3, q4⟩ | ⟨e2, g1, g2, p3, q3⟩
  · by_cases hmn : m = n
    · subst hmn
      obtain rfl : A = B := ba_ext6 (by rw [a1.out, b1.out])
      go_enter Tryd.func5, Tryd.ntmps5
      go_wp2_with fail
      refine (q1 _).mono ?_; rintro e w1 ⟨rfl, hb1⟩
      go_wp2_with fail
      refine (q3 _).mono ?_; rintro e w2 ⟨rfl, hb2⟩
      go_wp2_with fail
      refine (p1 _).mono ?_; rintro e w3 ⟨rfl, hb3⟩
      go_wp2_with fail
      refine (p3 _).mono ?_; rintro e w4 ⟨rfl, hb4⟩
      go_wp2_with fail
      refine (q2 _).mono ?_; rintro e w5 ⟨rfl, hb5⟩
      go_wp2_with (go_at_call 14; refine (awake06_any _).mono ?_; rintro e w6 ⟨rfl, hb6⟩)
      go_ret
      exact ⟨rfl, bt (bt (bt (bt (bt hb1 hb2) hb3) hb4) hb5) hb6⟩
    · have hne : (A.toList == B.toList) = false := by
        rw [beq_eq_false_iff_ne]; intro h
        exact hmn (show_inj hm hn a1.out b1.out (ba_ext6 (by rw [← Lib.toList_data, ← Lib.toList_data, h])))
      have hne2 : ((m : Int) == (n : Int)) = false := by simp; omega
      have HN := Lib.hid hmn
      clear hmn
      go_enter Tryd.func5, Tryd.ntmps5
      go_wp2_with fail
      refine (q1 _).mono ?_; rintro e w1 ⟨rfl, hb1⟩
      go_wp2_with fail
      refine (q3 _).mono ?_; rintro e w2 ⟨rfl, hb2⟩
      go_wp2_with fail
      refine (p1 _).mono ?_; rintro e w3 ⟨rfl, hb3⟩
      go_wp2_with fail
      refine (p3 _).mono ?_; rintro e w4 ⟨rfl, hb4⟩
      go_wp2_with fail
      refine (q2 _).mono ?_; rintro e w5 ⟨rfl, hb5⟩
      go_wp2_with (go_at_call 14; refine (awake06_any _).mono ?_; rintro e w6 ⟨rfl, hb6⟩)
      go_ret
      exact ⟨rfl, bt (bt (bt (bt (bt hb1 hb2) hb3) hb4) hb5) hb6⟩
  · go_enter Tryd.func5, Tryd.ntmps5
    go_wp2_with fail
    refine (q1 _).mono ?_; rintro e w1 ⟨rfl, hb1⟩
    go_wp2_with fail
    refine (q3 _).mono ?_; rintro e w2 ⟨rfl, hb2⟩
    go_wp2_with fail
    refine (p1 _).mono ?_; rintro e w3 ⟨rfl, hb3⟩
    go_wp2_with fail
    refine (p3 _).mono ?_; rintro e w4 ⟨rfl, hb4⟩
    go_wp2_with fail
    refine (q2 _).mono ?_; rintro e w5 ⟨rfl, hb5⟩
    go_wp2_with (go_at_call 14; refine (awake06_any _).mono ?_; rintro e w6 ⟨rfl, hb6⟩)
    go_ret
    exact ⟨rfl, bt (bt (bt (bt (bt hb1 hb2) hb3) hb4) hb5) hb6⟩
  all_goals
    go_enter Tryd.func5, Tryd.ntmps5
    go_wp2_with fail
    refine (q1 _).mono ?_; rintro e w1 ⟨rfl, hb1⟩
    go_wp2_with fail
    refine (q3 _).mono ?_; rintro e w2 ⟨rfl, hb2⟩
    go_wp2_with fail
    refine (p1 _).mono ?_; rintro e w3 ⟨rfl, hb3⟩
    go_wp2_with fail
    refine (p3 _).mono ?_; rintro e w4 ⟨rfl, hb4⟩
    go_wp2_with (go_at_call 14; refine (awake06_any _).mono ?_; rintro e w6 ⟨rfl, hb6⟩)
    go_ret
    exact ⟨rfl, bt (bt (bt (bt hb1 hb2) hb3) hb4) hb6⟩
end Go.Proofs.YtenonfoocjcdmaaDoor
