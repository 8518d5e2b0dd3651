/- Layer 5: the statement LexBack. -/
import Derived.Test.YtenonfoocjcdmaaDoorLexL3
namespace Go.Proofs.YtenonfoocjcdmaaDoor
set_option linter.unusedVariables false
open Go.RowKit
theorem esc_ge (l : List UInt8) : l.length ≤ (esc l).length := by
  induction l with
  | nil => simp
  | cons b t ih =>
    have : esc (b :: t) = (if b = 34 ∨ b = 92 then [92, b] else [b]) ++ esc t := by simp [esc]
    rw [this, List.length_append, List.length_cons]
    split <;> simp <;> omega
/-- a line's tokens are small -/
theorem next_small {rs : List Nat} {i m : Nat} {t : Tk} (hi : i < rs.length) (h : nextP rs i = .inl (t, m)) (hl : rs.length ≤ 400) : t.text.size ≤ 1600 ∧ 0 ≤ t.num ∧ t.num < 1000000000 := by
  have haft := nextP_after hi h
  have hs := strR_small (cutR rs i m)
  have hc := cutR_le rs i m
  rcases nextP_cases h with ⟨_, _, ht⟩ | ⟨_, _, hall, hok, ht⟩ | ⟨_, _, _, ht⟩ | ⟨_, _, _, _, u, hu, ht⟩ | ⟨hx, _, ht⟩
  · rw [ht]
    refine ⟨?_, by simp, by simp⟩
    show (lowT (cutR rs i m)).size ≤ 1600
    rw [← size_bl, lowT_bl, ← low_flat, List.length_map, ← bl_strR, size_bl]
    omega
  · rw [ht]
    refine ⟨by simp [ByteArray.size], by simp, ?_⟩
    have hd : ∀ r ∈ cutR rs i m, digR r = true := by simpa using hall
    have h1 := valR_lt hd (cutR rs i m).length (Nat.le_refl _)
    rw [List.take_length] at h1
    have h9 : (cutR rs i m).length ≤ 9 := by unfold numOk at hok; simp at hok; exact hok.1
    have h2 : 10 ^ (cutR rs i m).length ≤ 10 ^ 9 := Nat.pow_le_pow_right (by omega) h9
    show ((valR (cutR rs i m) : Nat) : Int) < 1000000000
    have : valR (cutR rs i m) < 1000000000 := by omega
    omega
  · rw [ht]
    exact ⟨by show (strR (cutR rs i m)).size ≤ 1600; omega, by simp, by simp⟩
  · rw [ht]
    refine ⟨?_, by simp, by simp⟩
    obtain ⟨h1, h2, h3⟩ := unq_some hu
    show (⟨u.toArray⟩ : ByteArray).size ≤ 1600
    have h4 := congrArg List.length h2
    rw [size_bl] at h4
    have h5 := esc_ge u
    unfold quoteL at h4
    simp at h4
    rw [size_mk]; omega
  · rw [ht]
    refine ⟨?_, by simp, by simp⟩
    have := strR_small [rs.getD i 0]
    show (strR [rs.getD i 0]).size ≤ 1600
    simp at this ⊢; omega
theorem line_small {s : ByteArray} {ts : List Tk} (hs : s.size ≤ 400) (h : lexP (runes (bl s)) = .inl ts) : ts.length ≤ 400 ∧ ∀ t ∈ ts, t.text.size ≤ 1600 ∧ 0 ≤ t.num ∧ t.num < 1000000000 := by
  have hrl := runes_len_le (bl s)
  rw [size_bl] at hrl
  refine ⟨?_, fun t ht => ?_⟩
  · have key : ∀ (f : Nat) (rs : List Nat) (i : Nat) (acc r : List Tk), i ≤ rs.length → acc.length ≤ i → lexF f rs i acc = .inl r → r.length ≤ rs.length := by
      intro f
      induction f with
      | zero => intro rs i acc r hi ha h; rw [lexF] at h; injection h with h; subst h; omega
      | succ f ih =>
        intro rs i acc r hi ha h
        by_cases hend : skipR rs i = rs.length
        · rw [lexF_end hend] at h; injection h with h; subst h; omega
        have hsk := skip_le (rs := rs) hi
        cases hn : nextP rs (skipR rs i) with
        | inr e => rw [lexF_bad hend hn] at h; cases h
        | inl e =>
          obtain ⟨t0, m⟩ := e
          rw [lexF_step hend hn] at h
          have haft := nextP_after (by omega) hn
          exact ih rs m _ r haft.2 (by simp; omega) h
    have := key _ _ 0 [] ts (Nat.zero_le _) (by simp) h
    omega
  · rcases lexF_mem _ _ 0 [] ts (Nat.zero_le _) h t ht with h1 | ⟨k, m, h1, h2⟩
    · simp at h1
    · exact next_small h1 h2 (by omega)
theorem joinP_cases (l : List Tk) : (∃ S : ByteArray, joinP l = (S, 0) ∧ S.size ≤ 400 ∧ (∀ t ∈ l, checkP t = 0) ∧ bl S = joinB l) ∨ (∃ e, joinP l = (⟨#[]⟩, e) ∧ e ≠ 0 ∧ ((∀ t ∈ l, checkP t = 0) → e = 3)) := by
  unfold joinP
  by_cases ha : (l.all fun t => checkP t == 0) = true
  · rw [if_pos ha]
    by_cases hl : (joinB l).length ≤ 400
    · rw [if_pos hl]
      refine .inl ⟨_, rfl, by rw [size_mk]; exact hl, fun t ht => by simpa using List.all_eq_true.1 ha t ht, bl_mk _⟩
    · rw [if_neg hl]
      exact .inr ⟨3, rfl, by decide, fun _ => rfl⟩
  · rw [if_neg ha]
    refine .inr ⟨50, rfl, by decide, fun h => absurd (List.all_eq_true.2 (fun t ht => by rw [h t ht]; rfl)) ha⟩
/-- what was joined is read again -/
theorem tok_joined {l : List Tk} {S : ByteArray} (h1 : S.size ≤ 400) (h2 : ∀ t ∈ l, checkP t = 0) (h3 : bl S = joinB l) : ∃ us, tokP S = (us, ((runes (bl S)).length : Int), 0) ∧ us.map bare = l.map bare := by
  have e : S = ⟨(joinB l).toArray⟩ := by rw [← h3]
  obtain ⟨us, h4, h5⟩ := tok_join h2 (by rw [← h3, size_bl]; exact h1)
  refine ⟨us, ?_, h5⟩
  rw [h3, e, h4]
set_option maxHeartbeats 4000000 in
theorem lexBack_walk (A : Option Addr) (n c : Nat) (l : List Tk) (s : ByteArray) (w : World) (hr : Reads w w.heap.size 4 A n (recs tkC l)) (hm : n ≤ maxLen) (hT : Lib.TabIs Tryd.prog w "internal/strconv.uint64pow10" .u64 Lib.pow10Tab)
    (hl : ∀ x ∈ l, -9223372036854775808 ≤ x.num ∧ x.num ≤ 9223372036854775807) :
    Calls Tryd.prog 9 #[.slice A n c, .string s] w fun e w' => e = .returned (.bool true) ∧ Below w.heap.size w w' := by
  have hlen := hr.rec_len tkC_len (by omega)
  have haw := Lib.hid (fun v => awake05_any v)
  by_cases hf : fewP l
  case neg =>
    have hfw := Lib.hid (few05_no A n c _ l _ hr hm hf)
    clear hf hr hl hT
    go_enter Tryd.func9, Tryd.ntmps9
    go_wp2_with (first
      | (go_at_call 23; refine Calls.mono hfw.out ?_; rintro e w1 ⟨rfl, rfl⟩)
      | (go_at_call 21; refine (haw.out _).mono ?_; rintro e w1 ⟨rfl, hb1⟩))
    go_ret
    exact ⟨rfl, hb1⟩
  have hfw := Lib.hid (few05_yes A n c _ l _ hr hf)
  have hfl := Lib.hid hf
  have hn : n ≤ 100 := by have := hf.1; have := hlen.out; omega
  have hTl := Lib.hid (fun v (hb : Below w.heap.size w v) x (hx : x ∈ l) => (⟨by have := hfl.out.2 x hx; omega, fun _ => ⟨tab_below hT hb, hl x hx⟩⟩ : TkOk v x))
  have hj := Lib.hid (lexjoin_any A n c w.heap.size l w hr (Nat.le_refl _) (by omega) (hTl.out w (Below.refl _ _)))
  have hRd := Lib.hid hr
  have hTb := Lib.hid hT
  -- the second part, from any later world on
  have hs1 := Lib.hid (fun v => tokens_any s v)
  have hcs := tokP_cases s
  have hlk := Lib.hid (fun ts h1 h2 => (⟨check_of_line (s := s) (ts := ts) h1 h2, line_small h1 h2⟩ : (∀ t ∈ ts, checkP t = 0 ∧ (writtenP t).size ≤ 400) ∧ _))
  obtain ⟨r, hr2⟩ : ∃ r, Hid (tokP s = r) := ⟨_, rfl⟩
  rw [hr2.out] at hs1 hcs
  have hcs2 := Lib.hid hcs
  clear hf hr hl hT hTl hcs
  rcases joinP_cases l with ⟨S, h1, h2, h3, h4⟩ | ⟨e0, h1, h2, _⟩
  case' pos.inl =>
    rw [h1] at hj
    obtain ⟨us, h5, h6⟩ := tok_joined h2 h3 h4
    have hs2 := Lib.hid (fun v => tokens_any S v)
    rw [h5] at hs2
    have hct := Lib.hid (fun v => count_any S v (by unfold maxLen; omega))
    obtain ⟨R, hR⟩ : ∃ R, Hid ((runes (bl S)).length = R) := ⟨_, rfl⟩
    rw [hR.out] at hs2 hct
    have hus : Hid (us.length = n) := by
      show _ = _
      have := congrArg List.length h6
      simp at this; rw [this]; exact hlen.out
    have hsm := Lib.hid (fun A1 A2 c1 c2 B1 B2 v hq1 hq2 => same05_any A1 A2 us.length c1 c2 B1 B2 us l false v (by rw [hus.out]; unfold maxLen; omega) hq1 hq2 h6 (fun h => by cases h))
    dsimp only at hj
    clear h1 h2 h3 h4 h5 h6
    go_enter Tryd.func9, Tryd.ntmps9
    go_wp2_with (fail)
    refine Calls.mono hfw.out ?_; rintro e w1 ⟨rfl, rfl⟩
    go_wp2_with (fail)
    refine Calls.mono hj.out ?_; rintro e w1 ⟨rfl, hb1⟩
    go_wp2_with (fail)
    refine (hs2.out _).mono ?_; rintro e w2 ⟨v, rfl, ho2, hb2⟩
    obtain ⟨A2, c2, rfl, hcap2, hcm2⟩ := ho2.slice
    have hr1 := Lib.hid ho2.reads
    have hB2 := Lib.hid (bt hb1 hb2)
    dsimp only at hr1 ⊢
    clear hb1 hb2 ho2 hcap2 hcm2
    go_wp2_with (fail)
    refine (hct.out _).mono ?_; rintro e w3 ⟨rfl, hb3⟩
    have hr3 := Lib.hid (hr1.out.below hb3)
    have hB3 := Lib.hid (bt hB2.out hb3)
    have hr4 := Lib.hid (hRd.out.below hB3.out)
    clear hb3 hr1 hB2
    rw [hus.out] at hr3 hsm ⊢
    go_wp2_with (fail)
    refine (hsm.out _ _ _ _ _ _ _ hr3.out hr4.out).mono ?_; rintro e w4 ⟨rfl, hb4⟩
    have hB4 := Lib.hid (bt hB3.out hb4)
    clear hb4 hr3 hr4 hB3
  case' pos.inr =>
    rw [h1] at hj
    have t0 : (e0 == 0) = false := by simpa using h2
    dsimp only at hj
    clear h1 h2
    go_enter Tryd.func9, Tryd.ntmps9
    go_wp2_with (fail)
    refine Calls.mono hfw.out ?_; rintro e w1 ⟨rfl, rfl⟩
    go_wp2_with (fail)
    refine Calls.mono hj.out ?_; rintro e w4 ⟨rfl, hb4⟩
    have hB4 := Lib.hid hb4
    clear hb4
  all_goals
    go_wp2_with (fail)
    refine (hs1.out _).mono ?_; rintro e w5 ⟨v, rfl, ho5, hb5⟩
    obtain ⟨A5, c5, rfl, hcap5, hcm5⟩ := ho5.slice
    have hr5 := Lib.hid ho5.reads
    have hB5 := Lib.hid (bt hB4.out hb5)
    have hTz := Lib.hid (tab_below hTb.out hB5.out)
    clear hb5 ho5 hB4
    rcases hcs2.out with ⟨ts, q1, q2, q3⟩ | ⟨a, er, q1, q2⟩
    · obtain ⟨k1, k2⟩ := hlk.out ts q1 q2
      rw [q3] at hr5 hcap5 ⊢
      dsimp only at hr5 hcap5 ⊢
      have hj5 := Lib.hid (lexjoin_any A5 ts.length c5 _ ts w5 hr5.out (Nat.le_refl _) (by omega) (fun t ht => ⟨by have := (k2.2 t ht).1; omega, fun _ => ⟨hTz.out, by have := (k2.2 t ht).2.1; omega, by have := (k2.2 t ht).2.2; omega⟩⟩))
      rcases joinP_cases ts with ⟨S6, p1, p2, p3, p4⟩ | ⟨e6, p1, p2, p3⟩
      · rw [p1] at hj5
        obtain ⟨us6, p5, p6⟩ := tok_joined p2 p3 p4
        have hs6 := Lib.hid (fun v => tokens_any S6 v)
        rw [p5] at hs6
        have hu6 : us6.length = ts.length := by simpa using congrArg List.length p6
        have hL6 : ts.length ≤ 400 := k2.1
        have hsm6 := Lib.hid (fun A1 A2 c1 c2 B1 B2 v hq1 hq2 => same05_any A1 A2 us6.length c1 c2 B1 B2 us6 ts false v (by unfold maxLen; omega) hq1 hq2 p6 (fun h => by cases h))
        obtain ⟨N6, hN6⟩ : ∃ N6, Hid (ts.length = N6) := ⟨_, rfl⟩
        obtain ⟨R6, hR6⟩ : ∃ R6, Hid ((runes (bl S6)).length = R6) := ⟨_, rfl⟩
        rw [hu6, hN6.out] at hsm6
        rw [hN6.out] at hj5 hr5 ⊢
        rw [hR6.out] at hs6
        have hu6' := Lib.hid (hu6.trans hN6.out)
        dsimp only at hj5
        clear q1 q2 q3 k1 k2 p1 p2 p3 p4 p5 p6 hu6 hL6 hcap5 hcm5 hlen
        go_wp2_with (fail)
        refine Calls.mono hj5.out ?_; rintro e w6 ⟨rfl, hb6⟩
        have hr6 := Lib.hid (hr5.out.below hb6)
        have hz6 := hb6.size
        have hB6 := Lib.hid (bt hB5.out hb6)
        clear hb6 hr5 hB5
        go_wp2_with (fail)
        refine (hs6.out _).mono ?_; rintro e w7 ⟨v, rfl, ho7, hb7⟩
        obtain ⟨A7, c7, rfl, hcap7, hcm7⟩ := ho7.slice
        have hr7 := Lib.hid ho7.reads
        have hr8 := Lib.hid (hr6.out.below (hb7.mono hz6))
        have hB7 := Lib.hid (bt hB6.out hb7)
        dsimp only at hr7 ⊢
        rw [hu6'.out] at hr7 ⊢
        clear hb7 ho7 hcap7 hcm7 hr6 hB6
        go_wp2_with (fail)
        refine (hsm6.out _ _ _ _ _ _ _ hr7.out hr8.out).mono ?_; rintro e w8 ⟨rfl, hb8⟩
        have hB8 := Lib.hid (bt hB7.out hb8)
        clear hb8 hB7
        go_wp2_with (go_at_call 21; refine (haw.out _).mono ?_; rintro e w9 ⟨rfl, hb9⟩)
        go_ret
        exact ⟨rfl, bt hB8.out hb9⟩
      · rw [p1] at hj5
        obtain rfl := p3 (fun t ht => (k1 t ht).1)
        obtain ⟨N6, hN6⟩ : ∃ N6, Hid (ts.length = N6) := ⟨_, rfl⟩
        rw [hN6.out] at hj5 hr5 ⊢
        dsimp only at hj5
        clear q1 q2 q3 k1 k2 p1 p2 p3 hcap5 hcm5 hlen
        go_wp2_with (first
          | (go_at_call 24; refine Calls.mono hj5.out ?_; rintro e w6 ⟨rfl, hb6⟩)
          | (go_at_call 21; refine (haw.out _).mono ?_; rintro e w9 ⟨rfl, hb9⟩))
        go_ret
        exact ⟨rfl, bt (bt hB5.out hb6) hb9⟩
    · rw [q2]
      have te : (er != 0) = true := by simpa using q1
      dsimp only [List.length]
      clear q1 q2 hcap5 hcm5 hlen
      go_wp2_with (go_at_call 21; refine (haw.out _).mono ?_; rintro e w9 ⟨rfl, hb9⟩)
      go_ret
      exact ⟨rfl, bt hB5.out hb9⟩
end Go.Proofs.YtenonfoocjcdmaaDoor
