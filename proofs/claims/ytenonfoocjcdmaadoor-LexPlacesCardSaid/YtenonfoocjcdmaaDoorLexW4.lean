/- Layer 5: digits, number. -/
import Derived.Test.YtenonfoocjcdmaaDoorLexP
import Derived.Test.YtenonfoocjcdmaaDoorRuW4
import Derived.Lib.AtoiErrMem
namespace Go.Proofs.YtenonfoocjcdmaaDoor
set_option linter.unusedVariables false
open Go.RowKit
theorem small_good {r : Nat} (h : smallR r = true) : badR r = false := by
  unfold smallR at h; simp at h
  rcases hb : badR r with _ | _
  · rfl
  · rw [badR_iff] at hb; omega
theorem digR_iff {r : Nat} : digR r = true ↔ (48 ≤ r ∧ r ≤ 57) := by unfold digR; simp
theorem runes_small {l : List Nat} (h : ∀ r ∈ l, smallR r = true) : runes (bl (strR l)) = l := by
  rw [bl_strR]; exact runes_flat (fun r hr => small_good (h r hr))
theorem flat_small {l : List Nat} (h : ∀ r ∈ l, r < 128) : l.flatMap enc = l.map UInt8.ofNat := by
  induction l with
  | nil => rfl
  | cons r t ih =>
    rw [List.flatMap_cons, ih (fun x hx => h x (List.mem_cons_of_mem _ hx)), enc_one (h r (List.mem_cons_self)), List.map_cons]; rfl
theorem strR_size {l : List Nat} (h : ∀ r ∈ l, r < 128) : (strR l).size = l.length := by
  rw [← bl_len, bl_strR, flat_small h]; simp
theorem digits_yes (s : ByteArray) (w : World) (hs : s.size ≤ maxLen) (h : (runes (bl s)).all digR = true) (h0 : s.size ≠ 0) :
    Calls Tryd.prog 94 #[.string s] w fun e w' => e = .returned (.bool true) ∧ Below w.heap.size w w' := by
  unfold maxLen at hs
  have hrl := runes_size s
  have H := Lib.hid h
  have hne : (s.toList != []) = true := by
    simp
    intro e
    have := congrArg List.length e
    rw [Lib.toList_data] at this
    exact h0 this
  clear h h0
  go_enter Tryd.func94, Tryd.ntmps94
  go_wp2
  go_loopw [] (fun wr => ∃ k : Nat, k ≤ (runes (bl s)).length ∧ wr.heap[w.heap.size]? = some (.stringIter s (posN k (bl s))) ∧ Below w.heap.size w wr) (fun wr => (bl s).length - wr.iterPos w.heap.size)
  case atStart => exact ⟨0, Nat.zero_le _, iter_start w s, (Below.refl _ w).alloc (Nat.le_refl _) _⟩
  case round =>
    obtain ⟨k, hk, hit, hb⟩ := hrel
    have hsz : w.heap.size < wr.heap.size := (Array.getElem?_eq_some_iff.1 hit).1
    by_cases hlt : k < (runes (bl s)).length
    · obtain ⟨r, hr, hrm, hnx⟩ := next_rune wr _ s k hlt hit
      have hit2 := Lib.hid (Lib.iterAt_heap wr _ s _ (posN (k + 1) (bl s)) hit)
      have hb2 := Lib.below_iterAt hb (Nat.le_refl _) s (posN (k + 1) (bl s))
      have hd := digR_iff.1 (List.all_eq_true.1 H.out r (List.mem_of_getElem? hr.out))
      obtain ⟨hd1, hd2⟩ := hd
      have t1 : decide ((r : Int) < 48) = false := by simp; omega
      have t2 : decide ((57 : Int) < (r : Int)) = false := by simp; omega
      have hpm := pos_mono k hlt
      have hpl := pos_le (k + 1) (l := bl s) (by omega)
      have hitp := Lib.hid hit
      clear hit
      go_wp2
      go_roundw
      case rel => exact ⟨k + 1, by omega, hit2.out, hb2⟩
      case measure => simp only [World.iterPos, hit2.out, hitp.out]; omega
    · have hk2 : Hid (k = (runes (bl s)).length) := by show _ = _; omega
      have hnx := next_end wr _ s k hk2.out hit
      clear hit
      go_wp2
      go_ret
      exact ⟨ret_bool (by first | rfl | exact hne | simpa using hne), hb⟩
theorem digits_no (s : ByteArray) (w : World) (hs : s.size ≤ maxLen) (h : (runes (bl s)).all digR = false) :
    Calls Tryd.prog 94 #[.string s] w fun e w' => e = .returned (.bool false) ∧ Below w.heap.size w w' := by
  unfold maxLen at hs
  have hrl := runes_size s
  have H := Lib.hid h
  clear h
  go_enter Tryd.func94, Tryd.ntmps94
  go_wp2
  go_loopw [] (fun wr => ∃ k : Nat, k ≤ (runes (bl s)).length ∧ Hid (∀ j r, j < k → (runes (bl s))[j]? = some r → digR r = true) ∧ wr.heap[w.heap.size]? = some (.stringIter s (posN k (bl s))) ∧ Below w.heap.size w wr) (fun wr => (bl s).length - wr.iterPos w.heap.size)
  case atStart => exact ⟨0, Nat.zero_le _, fun j r hj => absurd hj (by omega), iter_start w s, (Below.refl _ w).alloc (Nat.le_refl _) _⟩
  case round =>
    obtain ⟨k, hk, HN, hit, hb⟩ := hrel
    have hsz : w.heap.size < wr.heap.size := (Array.getElem?_eq_some_iff.1 hit).1
    by_cases hlt : k < (runes (bl s)).length
    · obtain ⟨r, hr, hrm, hnx⟩ := next_rune wr _ s k hlt hit
      have hit2 := Lib.hid (Lib.iterAt_heap wr _ s _ (posN (k + 1) (bl s)) hit)
      have hb2 := Lib.below_iterAt hb (Nat.le_refl _) s (posN (k + 1) (bl s))
      have hpm := pos_mono k hlt
      have hpl := pos_le (k + 1) (l := bl s) (by omega)
      have hitp := Lib.hid hit
      clear hit
      rcases (by omega : r < 48 ∨ (48 ≤ r ∧ 57 < r) ∨ (48 ≤ r ∧ r ≤ 57)) with hd | ⟨hd1, hd2⟩ | ⟨hd1, hd2⟩
      · have t1 : decide ((r : Int) < 48) = true := by simp; omega
        clear HN hd
        go_wp2
        go_ret
        exact ⟨rfl, hb2⟩
      · have t1 : decide ((r : Int) < 48) = false := by simp; omega
        have t2 : decide ((57 : Int) < (r : Int)) = true := by simp; omega
        clear HN hd1 hd2
        go_wp2
        go_ret
        exact ⟨rfl, hb2⟩
      · have t1 : decide ((r : Int) < 48) = false := by simp; omega
        have t2 : decide ((57 : Int) < (r : Int)) = false := by simp; omega
        have HN2 : Hid (∀ j q, j < k + 1 → (runes (bl s))[j]? = some q → digR q = true) := fun j q hj hq => by
          rcases Nat.lt_or_ge j k with h | h
          · exact HN.out j q h hq
          · have : j = k := by omega
            subst this
            rw [hr.out] at hq
            injection hq with hq
            rw [← hq]; exact digR_iff.2 ⟨hd1, hd2⟩
        clear HN hd1 hd2
        go_wp2
        go_roundw
        case rel => exact ⟨k + 1, by omega, HN2, hit2.out, hb2⟩
        case measure => simp only [World.iterPos, hit2.out, hitp.out]; omega
    · exfalso
      have h := H.out
      rw [Bool.eq_false_iff] at h
      refine h (List.all_eq_true.2 (fun r hr => ?_))
      obtain ⟨j, hj⟩ := List.mem_iff_getElem?.1 hr
      have hjl := (List.getElem?_eq_some_iff.1 hj).1
      exact HN.out j r (by omega) hj
theorem valD_map {l : List Nat} (h : ∀ r ∈ l, digR r = true) : valD (l.map UInt8.ofNat) = valR l := by
  unfold valD valR
  have key : ∀ (l : List Nat) (a : Nat), (∀ r ∈ l, digR r = true) → (l.map UInt8.ofNat).foldl (fun a b => a * 10 + (b.toNat - 48)) a = l.foldl (fun a r => a * 10 + (r - 48)) a := by
    intro l
    induction l with
    | nil => intro a _; rfl
    | cons r t ih =>
      intro a h
      have hr := digR_iff.1 (h r List.mem_cons_self)
      rw [List.map_cons, List.foldl_cons, List.foldl_cons, ih _ (fun x hx => h x (List.mem_cons_of_mem _ hx))]
      have e : (UInt8.ofNat r).toNat = r := by simp; omega
      rw [e]
  exact key l 0 h
theorem isD_map {l : List Nat} (h : ∀ r ∈ l, digR r = true) : ∀ b ∈ l.map UInt8.ofNat, isD b = true := by
  intro b hb
  obtain ⟨r, hr, rfl⟩ := List.mem_map.1 hb
  have hd := digR_iff.1 (h r hr)
  have e : (UInt8.ofNat r).toNat = r := by simp; omega
  unfold isD
  simp only [e]
  simp; omega
theorem dig_small {r : Nat} (h : digR r = true) : smallR r = true := by rw [digR_iff] at h; unfold smallR; simp; omega
theorem dig_lt {r : Nat} (h : digR r = true) : r < 128 := by rw [digR_iff] at h; omega
/-- of digits alone -/
theorem number_ok (l : List Nat) (w : World) (h : ∀ r ∈ l, digR r = true) (hne : l ≠ []) (hok : numOk l = true) :
    Calls Tryd.prog 95 #[.string (strR l)] w fun e w' => e = .returned (.tuple #[.int .i64 (valR l), .bool true]) ∧ Below w.heap.size w w' := by
  have hsz := strR_size (fun r hr => dig_lt (h r hr))
  have hl0 : l.length ≠ 0 := fun e => hne (List.eq_nil_of_length_eq_zero e)
  have hA : Lib.atoi (strR l).data.toList = some (valR l : Int) := by
    show Lib.atoi (bl (strR l)) = _
    rw [bl_strR, flat_small (fun r hr => dig_lt (h r hr)), atoi_all (isD_map h) (by simpa using hne), valD_map h]
  have hall : (runes (bl (strR l))).all digR = true := by
    rw [runes_small (fun r hr => dig_small (h r hr))]; exact List.all_eq_true.2 h
  unfold numOk at hok
  simp at hok
  obtain ⟨h9, hz⟩ := hok
  have hl18 : (strR l).size ≤ 18 := by omega
  have t1 : decide ((9 : Int) < ((strR l).size : Int)) = false := by simp; omega
  have hd := Lib.hid (fun w => digits_yes (strR l) w (by unfold maxLen; omega) hall (by omega))
  have hhead : ∀ (hp : 0 < (strR l).size), (((strR l)[0]'hp).toNat : Int) = (l.headD 0 : Int) := by
    intro hp
    have e1 : (bl (strR l))[0]? = some ((strR l)[0]'hp) := by rw [List.getElem?_eq_getElem (by rw [bl_len]; exact hp)]; rfl
    rw [bl_strR, flat_small (fun r hr => dig_lt (h r hr))] at e1
    cases l with
    | nil => exact absurd rfl hne
    | cons r t =>
      simp at e1
      rw [← e1]
      have hr := digR_iff.1 (h r List.mem_cons_self)
      simp; omega
  obtain ⟨v, hv⟩ : ∃ v : Nat, Hid (valR l = v) := ⟨_, rfl⟩
  rw [hv.out] at hA ⊢
  obtain ⟨s, hs⟩ : ∃ s, Hid (strR l = s) := ⟨_, rfl⟩
  rw [hs.out] at hA hl18 t1 hd hsz ⊢
  have hhead2 : ∀ (hp : 0 < s.size), ((s[0]'hp).toNat : Int) = (l.headD 0 : Int) := by
    have e := hs.out
    subst e; exact hhead
  have hp : 0 < s.size := by omega
  have hcase : decide ((1 : Int) < (s.size : Int)) = false ∨ (decide ((1 : Int) < (s.size : Int)) = true ∧ (((s[0]'hp).toNat : Int) == 48) = false) := by
    by_cases h1 : 1 < s.size
    · right
      refine ⟨by simp; omega, ?_⟩
      rw [hhead2 hp]
      have := hz.resolve_left (by omega)
      cases l with
      | nil => exact absurd rfl hne
      | cons r t => simp at this ⊢; omega
    · left; simp; omega
  clear hall hhead hhead2 hz h9 hne h hsz hl0
  rcases hcase with t2 | ⟨t2, t3⟩
  all_goals
    go_enter Tryd.func95, Tryd.ntmps95
    go_wp2_with (first
      | (go_at_call 94; refine (hd.out _).mono ?_; rintro e w1 ⟨rfl, hb1⟩)
      | (go_at_call 47; refine (Tryd.strconv_Atoi _ _ hl18 hA _).mono ?_; rintro e w2 ⟨rfl, hw2⟩))
    have b2 : Below w1.heap.size w1 w2 := by
      obtain ⟨x, rfl⟩ := hw2
      exact Lib.bytesWorld_below _ _ _
    go_quiet (fail)
    go_wp2
    go_ret2
    exact ⟨rfl, below_drewN (bt hb1 b2) _⟩
theorem number_bad (l : List Nat) (w : World) (h : ∀ r ∈ l, digR r = true) (hne : l ≠ []) (hlen : l.length ≤ 100000) (hok : numOk l = false) :
    Calls Tryd.prog 95 #[.string (strR l)] w fun e w' => e = .returned (.tuple #[.int .i64 0, .bool false]) ∧ Below w.heap.size w w' := by
  have hsz := strR_size (fun r hr => dig_lt (h r hr))
  have hl0 : l.length ≠ 0 := fun e => hne (List.eq_nil_of_length_eq_zero e)
  have hall : (runes (bl (strR l))).all digR = true := by
    rw [runes_small (fun r hr => dig_small (h r hr))]; exact List.all_eq_true.2 h
  have hd := Lib.hid (fun w => digits_yes (strR l) w (by unfold maxLen; omega) hall (by omega))
  have hhead : ∀ (hp : 0 < (strR l).size), (((strR l)[0]'hp).toNat : Int) = (l.headD 0 : Int) := by
    intro hp
    have e1 : (bl (strR l))[0]? = some ((strR l)[0]'hp) := by rw [List.getElem?_eq_getElem (by rw [bl_len]; exact hp)]; rfl
    rw [bl_strR, flat_small (fun r hr => dig_lt (h r hr))] at e1
    cases l with
    | nil => exact absurd rfl hne
    | cons r t =>
      simp at e1
      rw [← e1]
      have hr := digR_iff.1 (h r List.mem_cons_self)
      simp; omega
  unfold numOk at hok
  simp at hok
  obtain ⟨s, hs⟩ : ∃ s, Hid (strR l = s) := ⟨_, rfl⟩
  rw [hs.out] at hd hsz ⊢
  have hhead2 : ∀ (hp : 0 < s.size), ((s[0]'hp).toNat : Int) = (l.headD 0 : Int) := by
    have e := hs.out
    subst e; exact hhead
  have hp : 0 < s.size := by omega
  have hcase : decide ((9 : Int) < (s.size : Int)) = true ∨ (decide ((9 : Int) < (s.size : Int)) = false ∧ decide ((1 : Int) < (s.size : Int)) = true ∧ (((s[0]'hp).toNat : Int) == 48) = true) := by
    by_cases h9 : l.length ≤ 9
    · right
      obtain ⟨h1, h2⟩ := hok h9
      refine ⟨by simp; omega, by simp; omega, ?_⟩
      rw [hhead2 hp]
      cases l with
      | nil => exact absurd rfl hne
      | cons r t => simp at h2 ⊢; omega
    · left; simp; omega
  have hmx : s.size ≤ 100000 := by omega
  clear hall hhead hhead2 hok hne h hl0 hsz hlen
  rcases hcase with t1 | ⟨t1, t2, t3⟩
  all_goals
    go_enter Tryd.func95, Tryd.ntmps95
    go_wp2_with (go_at_call 94; refine (hd.out _).mono ?_; rintro e w1 ⟨rfl, hb1⟩)
    go_ret2
    exact ⟨rfl, hb1⟩
end Go.Proofs.YtenonfoocjcdmaaDoor
