/- Layer 5: the statement LexBack. -/
import Derived.Test.YtjmhaoplablmnaaGreatDoorLexL3s
namespace Go.Proofs.YtjmhaoplablmnaaGreatDoor
set_option linter.unusedVariables false
open Go.RowKit
theorem esc_ge (l : List UInt8) : l.length ≤ (esc l).length := by
  induction l with
  | nil => simp
  | cons b t ih =>
    have : esc (b :: t) = (if b = 34 ∨ b = 92 then [92, b] else [b]) ++ esc t := by simp [esc]
    rw [this, List.length_append, List.length_cons]
    split <;> simp <;> omega
theorem next_small {rs : List Nat} {i m : Nat} {t : Tk} (hi : i < rs.length) (h : nextP rs i = .inl (t, m)) (hl : rs.length ≤ 400) : t.text.size ≤ 1600 ∧ 0 ≤ t.num ∧ t.num < 1000000000 := by
  have haft := nextP_after hi h
  have hs := strR_small (cutR rs i m)
  have hc := cutR_le rs i m
  rcases nextP_cases h with ⟨_, _, ht⟩ | ⟨_, _, hall, hok, ht⟩ | ⟨_, _, _, ht⟩ | ⟨_, _, _, _, u, hu, ht⟩ | ⟨hx, _, ht⟩
  · rw [ht]
    refine ⟨?_, by simp, by simp⟩
    show (lowT (cutR rs i m)).size ≤ 1600
    rw [← size_bl, lowT_bl, ← low_flat, List.length_map, ← bl_strR, size_bl]
    omega
  · rw [ht]
    refine ⟨by simp [ByteArray.size], by simp, ?_⟩
    have hd : ∀ r ∈ cutR rs i m, digR r = true := by simpa using hall
    have h1 := valR_lt hd (cutR rs i m).length (Nat.le_refl _)
    rw [List.take_length] at h1
    have h9 : (cutR rs i m).length ≤ 9 := by unfold numOk at hok; simp at hok; exact hok.1
    have h2 : 10 ^ (cutR rs i m).length ≤ 10 ^ 9 := Nat.pow_le_pow_right (by omega) h9
    show ((valR (cutR rs i m) : Nat) : Int) < 1000000000
    have : valR (cutR rs i m) < 1000000000 := by omega
    omega
  · rw [ht]
    exact ⟨by show (strR (cutR rs i m)).size ≤ 1600; omega, by simp, by simp⟩
  · rw [ht]
    refine ⟨?_, by simp, by simp⟩
    obtain ⟨h1, h2, h3⟩ := unq_some hu
    show (⟨u.toArray⟩ : ByteArray).size ≤ 1600
    have h4 := congrArg List.length h2
    rw [size_bl] at h4
    have h5 := esc_ge u
    unfold quoteL at h4
    simp at h4
    rw [size_mk]; omega
  · rw [ht]
    refine ⟨?_, by simp, by simp⟩
    have := strR_small [rs.getD i 0]
    show (strR [rs.getD i 0]).size ≤ 1600
    simp at this ⊢; omega
theorem line_small {s : ByteArray} {ts : List Tk} (hs : s.size ≤ 400) (h : lexP (runes (bl s)) = .inl ts) : ts.length ≤ 400 ∧ ∀ t ∈ ts, t.text.size ≤ 1600 ∧ 0 ≤ t.num ∧ t.num < 1000000000 := by
  have hrl := runes_len_le (bl s)
  rw [size_bl] at hrl
  refine ⟨?_, fun t ht => ?_⟩
  · have key : ∀ (f : Nat) (rs : List Nat) (i : Nat) (acc r : List Tk), i ≤ rs.length → acc.length ≤ i → lexF f rs i acc = .inl r → r.length ≤ rs.length := by
      intro f
      induction f with
      | zero => intro rs i acc r hi ha h; rw [lexF] at h; injection h with h; subst h; omega
      | succ f ih =>
        intro rs i acc r hi ha h
        by_cases hend : skipR rs i = rs.length
        · rw [lexF_end hend] at h; injection h with h; subst h; omega
        have hsk := skip_le (rs := rs) hi
        cases hn : nextP rs (skipR rs i) with
        | inr e => rw [lexF_bad hend hn] at h; cases h
        | inl e =>
          obtain ⟨t0, m⟩ := e
          rw [lexF_step hend hn] at h
          have haft := nextP_after (by omega) hn
          exact ih rs m _ r haft.2 (by simp; omega) h
    have := key _ _ 0 [] ts (Nat.zero_le _) (by simp) h
    omega
  · rcases lexF_mem _ _ 0 [] ts (Nat.zero_le _) h t ht with h1 | ⟨k, m, h1, h2⟩
    · simp at h1
    · exact next_small h1 h2 (by omega)
end Go.Proofs.YtjmhaoplablmnaaGreatDoor
