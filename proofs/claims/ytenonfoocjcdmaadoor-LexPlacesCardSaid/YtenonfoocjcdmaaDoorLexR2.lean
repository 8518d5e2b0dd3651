/- Layer 5, the document's answer: where a run ends; numbers; letters. -/
import Derived.Test.YtenonfoocjcdmaaDoorLexR1
namespace Go.Proofs.YtenonfoocjcdmaaDoor
set_option linter.unusedVariables false
open Go.RowKit
theorem wordR_of {x : Nat} {q : Int} (h : classV x = q) : wordR x = ((q == 2) || (q == 3) || (x == 45) || (x == 95)) := by
  unfold wordR hasC
  rw [h]
  have e : ([2, 3] : List Int).contains q = ((q == 2) || (q == 3)) := by cases h2 : (q == 2) <;> cases h3 : (q == 3) <;> simp [List.contains, List.elem, h2, h3]
  rw [e]
set_option maxHeartbeats 1000000 in
theorem end05_word (A : Option Addr) (n c B : Nat) (rs : List Nat) (i x : Nat) (w : World) (h : Reads w B 1 A n (rcs rs)) (hx : rs[i]? = some x) (hq : classV x = 2) (hn : n ≤ 100000) :
    Calls Tryd.prog 74 #[.slice A n c, .int .i64 (i : Int)] w fun e w' => e = .returned (.int .i64 (endW rs i : Nat)) ∧ w = w' := by
  have hlen := h.rune_len
  have hil : i < n := by have := (List.getElem?_eq_some_iff.1 hx).1; omega
  obtain ⟨ad, rfl, hb, hc0⟩ := h.rune_at hx
  have hrd := Lib.hid h
  have hX := Lib.hid hx
  have hQ := Lib.hid hq
  have til : (i : Int) < (n : Int) := by omega
  clear h hx hq
  go_enter Tryd.func74, Tryd.ntmps74
  go_wp2_with (go_at_call 52; refine (rclass_any _ _).mono ?_; rintro e w' ⟨rfl, rfl⟩; rw [hQ.out])
  clear hc0
  go_loopw [6] (fun v wr => ∃ k : Nat, v = .int .i64 (k : Int) ∧ i < k ∧ k ≤ n ∧ wr = w ∧ Hid (∀ j y, i ≤ j → j < k → rs[j]? = some y → wordR y = true)) (fun v _ => n - (intOf v).toNat)
  case atStart =>
    refine ⟨i + 1, by simp, by omega, by omega, rfl, fun j y h1 h2 hy => ?_⟩
    obtain rfl : j = i := by omega
    rw [hX.out] at hy
    injection hy with hy
    subst hy
    exact letter_word hQ.out
  case round =>
    obtain ⟨k, rfl, hik, hkn, rfl, HA⟩ := hrel
    by_cases hlt : k < n
    · obtain ⟨y, hy⟩ : ∃ y, Hid (rs[k]? = some y) := ⟨_, List.getElem?_eq_getElem (by omega)⟩
      obtain ⟨ad2, e, _, hc1⟩ := hrd.out.rune_at hy.out
      injection e with e
      subst e
      have tk : (k : Int) < (n : Int) := by omega
      obtain ⟨q, hq⟩ : ∃ q, Hid (classV y = q) := ⟨_, rfl⟩
      have hw := Lib.hid (wordR_of hq.out)
      by_cases hword : wordR y = true
      · have HA2 : Hid (∀ j z, i ≤ j → j < k + 1 → rs[j]? = some z → wordR z = true) := fun j z h1 h2 hz => by
          rcases Nat.lt_or_ge j k with h3 | h3
          · exact HA.out j z h1 h3 hz
          · obtain rfl : j = k := by omega
            rw [hy.out] at hz
            injection hz with hz
            subst hz; exact hword
        rw [hw.out] at hword
        clear HA hw
        have hcase : (q != 2) = false ∨ ((q != 2) = true ∧ (q != 3) = false) ∨ ((q != 2) = true ∧ (q != 3) = true ∧ ((y : Int) != 45) = false) ∨ ((q != 2) = true ∧ (q != 3) = true ∧ ((y : Int) != 45) = true ∧ ((y : Int) != 95) = false) := by
          simp at hword ⊢
          omega
        clear hword
        rcases hcase with t1 | ⟨t1, t2⟩ | ⟨t1, t2, t3⟩ | ⟨t1, t2, t3, t4⟩
        all_goals
          go_wp2_with (go_at_call 52; refine (rclass_any _ _).mono ?_; rintro e w' ⟨rfl, rfl⟩; rw [hq.out])
          go_roundw
          case rel => exact ⟨k + 1, by go_num, by omega, by omega, by trivial, HA2⟩
          case measure => simp [intOf]; omega
      · have hword' : wordR y = false := by simpa using hword
        have hE : Hid (endW rs i = k) := spanI_is (p := wordR) (by omega) (by omega) HA.out (fun z hz => by rw [hy.out] at hz; injection hz with hz; subst hz; exact hword')
        rw [hw.out] at hword'
        simp only [Bool.or_eq_false_iff] at hword'
        obtain ⟨⟨⟨t1, t2⟩, t3⟩, t4⟩ := hword'
        have t1' : (q != 2) = true := by simpa using t1
        have t2' : (q != 3) = true := by simpa using t2
        have t3' : ((y : Int) != 45) = true := by simp at t3 ⊢; omega
        have t4' : ((y : Int) != 95) = true := by simp at t4 ⊢; omega
        clear HA hw t1 t2 t3 t4 hword
        go_wp2_with (go_at_call 52; refine (rclass_any _ _).mono ?_; rintro e w' ⟨rfl, rfl⟩; rw [hq.out])
        go_ret
        exact ⟨by rw [hE.out]; first | done | rfl, rfl⟩
    · obtain rfl : k = n := by omega
      have hE : Hid (endW rs i = k) := spanI_is (p := wordR) (by omega) (by omega) HA.out (fun z hz => by have := (List.getElem?_eq_some_iff.1 hz).1; omega)
      clear HA
      go_wp2
      go_ret
      exact ⟨by rw [hE.out]; first | done | rfl, rfl⟩
set_option maxHeartbeats 1000000 in
theorem end05_small (A : Option Addr) (n c B : Nat) (rs : List Nat) (i x : Nat) (w : World) (h : Reads w B 1 A n (rcs rs)) (hx : rs[i]? = some x) (hq : classV x = 3) (hn : n ≤ 100000) :
    Calls Tryd.prog 74 #[.slice A n c, .int .i64 (i : Int)] w fun e w' => e = .returned (.int .i64 (endD rs i : Nat)) ∧ w = w' := by
  have hlen := h.rune_len
  have hil : i < n := by have := (List.getElem?_eq_some_iff.1 hx).1; omega
  obtain ⟨ad, rfl, hb, hc0⟩ := h.rune_at hx
  have hrd := Lib.hid h
  have hX := Lib.hid hx
  have hQ := Lib.hid hq
  have til : (i : Int) < (n : Int) := by omega
  clear h hx hq
  go_enter Tryd.func74, Tryd.ntmps74
  go_wp2_with (go_at_call 52; refine (rclass_any _ _).mono ?_; rintro e w' ⟨rfl, rfl⟩; rw [hQ.out])
  clear hc0
  go_loopw [6] (fun v wr => ∃ k : Nat, v = .int .i64 (k : Int) ∧ i < k ∧ k ≤ n ∧ wr = w ∧ Hid (∀ j y, i ≤ j → j < k → rs[j]? = some y → smallR y = true)) (fun v _ => n - (intOf v).toNat)
  case atStart =>
    refine ⟨i + 1, by simp, by omega, by omega, rfl, fun j y h1 h2 hy => ?_⟩
    obtain rfl : j = i := by omega
    rw [hX.out] at hy
    injection hy with hy
    subst hy
    exact digit_small hQ.out
  case round =>
    obtain ⟨k, rfl, hik, hkn, rfl, HA⟩ := hrel
    by_cases hlt : k < n
    · obtain ⟨y, hy⟩ : ∃ y, Hid (rs[k]? = some y) := ⟨_, List.getElem?_eq_getElem (by omega)⟩
      obtain ⟨ad2, e, _, hc1⟩ := hrd.out.rune_at hy.out
      injection e with e
      subst e
      have tk : (k : Int) < (n : Int) := by omega
      obtain ⟨q, hq⟩ : ∃ q, Hid (classV y = q) := ⟨_, rfl⟩
      obtain ⟨b, hb2⟩ : ∃ b, Hid (smallR y = b) := ⟨_, rfl⟩
      cases b with
      | true =>
        have HA2 : Hid (∀ j z, i ≤ j → j < k + 1 → rs[j]? = some z → smallR z = true) := fun j z h1 h2 hz => by
          rcases Nat.lt_or_ge j k with h3 | h3
          · exact HA.out j z h1 h3 hz
          · obtain rfl : j = k := by omega
            rw [hy.out] at hz
            injection hz with hz
            subst hz; exact hb2.out
        clear HA
        go_wp2_with (first
          | (go_at_call 52; refine (rclass_any _ _).mono ?_; rintro e w' ⟨rfl, rfl⟩; rw [hq.out])
          | (go_at_call 99; refine (small05_any _ _).mono ?_; rintro e w' ⟨rfl, rfl⟩; rw [hb2.out]))
        go_roundw
        case rel => exact ⟨k + 1, by go_num, by omega, by omega, by trivial, HA2⟩
        case measure => simp [intOf]; omega
      | false =>
        have hE : Hid (endD rs i = k) := spanI_is (p := smallR) (by omega) (by omega) HA.out (fun z hz => by rw [hy.out] at hz; injection hz with hz; subst hz; exact hb2.out)
        clear HA
        go_wp2_with (first
          | (go_at_call 52; refine (rclass_any _ _).mono ?_; rintro e w' ⟨rfl, rfl⟩; rw [hq.out])
          | (go_at_call 99; refine (small05_any _ _).mono ?_; rintro e w' ⟨rfl, rfl⟩; rw [hb2.out]))
        go_ret
        exact ⟨by rw [hE.out]; first | done | rfl, rfl⟩
    · obtain rfl : k = n := by omega
      have hE : Hid (endD rs i = k) := spanI_is (p := smallR) (by omega) (by omega) HA.out (fun z hz => by have := (List.getElem?_eq_some_iff.1 hz).1; omega)
      clear HA
      go_wp2
      go_ret
      exact ⟨by rw [hE.out]; first | done | rfl, rfl⟩
/-- of runes that are digits or small letters: has one a letter? -/
theorem plain05_any (A : Option Addr) (n c B : Nat) (rs : List Nat) (w : World) (h : Reads w B 1 A n (rcs rs)) (hs : ∀ r ∈ rs, smallR r = true) (hn : n ≤ 100000) :
    Calls Tryd.prog 76 #[.slice A n c] w fun e w' => e = .returned (.bool (!rs.all digR)) ∧ w = w' := by
  have hlen := h.rune_len
  have hrd := Lib.hid h
  have hS := Lib.hid hs
  clear h hs
  go_enter Tryd.func76, Tryd.ntmps76
  go_wp2
  go_loopw [3] (fun v wr => ∃ k : Nat, v = .int .i64 (k : Int) ∧ k ≤ n ∧ wr = w ∧ Hid (∀ j y, j < k → rs[j]? = some y → digR y = true)) (fun v _ => n - (intOf v).toNat)
  case atStart => exact ⟨0, rfl, Nat.zero_le _, rfl, fun j y h => absurd h (by omega)⟩
  case round =>
    obtain ⟨k, rfl, hkn, rfl, HA⟩ := hrel
    by_cases hlt : k < n
    · obtain ⟨y, hy⟩ : ∃ y, Hid (rs[k]? = some y) := ⟨_, List.getElem?_eq_getElem (by omega)⟩
      obtain ⟨ad2, rfl, _, hc1⟩ := hrd.out.rune_at hy.out
      have tk : (k : Int) < (n : Int) := by omega
      have hsy := hS.out y (List.mem_of_getElem? hy.out)
      by_cases hd : digR y = true
      · have HA2 : Hid (∀ j z, j < k + 1 → rs[j]? = some z → digR z = true) := fun j z h2 hz => by
          rcases Nat.lt_or_ge j k with h3 | h3
          · exact HA.out j z h3 hz
          · obtain rfl : j = k := by omega
            rw [hy.out] at hz
            injection hz with hz
            subst hz; exact hd
        have hd2 := digR_iff.1 hd
        have t1 : decide ((97 : Int) ≤ (y : Int)) = false := by simp; omega
        clear HA hd hd2 hsy
        go_wp2
        go_roundw
        case rel => exact ⟨k + 1, by go_num, by omega, by trivial, HA2⟩
        case measure => simp [intOf]; omega
      · have t1 : (97 : Int) ≤ (y : Int) := by rw [digR_iff] at hd; unfold smallR at hsy; simp at hsy; omega
        have hE : Hid (rs.all digR = false) := by
          show _ = _
          rw [Bool.eq_false_iff]
          intro h
          exact hd (List.all_eq_true.1 h y (List.mem_of_getElem? hy.out))
        clear HA hd hsy
        go_wp2
        go_ret
        exact ⟨ret_bool (by rw [hE.out]; rfl), rfl⟩
    · obtain rfl : k = n := by omega
      have hE : Hid (rs.all digR = true) := by
        show _ = _
        rw [List.all_eq_true]
        intro y hy
        obtain ⟨j, hj⟩ := List.mem_iff_getElem?.1 hy
        have := (List.getElem?_eq_some_iff.1 hj).1
        exact HA.out j y (by omega) hj
      clear HA
      go_wp2
      go_ret
      exact ⟨ret_bool (by rw [hE.out]; rfl), rfl⟩
end Go.Proofs.YtenonfoocjcdmaaDoor
