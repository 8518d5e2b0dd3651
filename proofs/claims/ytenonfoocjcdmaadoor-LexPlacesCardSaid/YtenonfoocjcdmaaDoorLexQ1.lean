/- Layer 5, plain: what stands ahead of a token, cut off there, has the tokens ahead of it. -/
import Derived.Test.YtenonfoocjcdmaaDoorLexW10
namespace Go.Proofs.YtenonfoocjcdmaaDoor
set_option linter.unusedVariables false
open Go.RowKit
theorem span_take {p : Nat → Bool} : ∀ {l : List Nat} {q : Nat}, spanN p l ≤ q → spanN p (l.take q) = spanN p l
  | [], q, _ => by simp
  | x :: t, 0, h => by
    rw [span_cons] at h ⊢
    split at h
    · omega
    · rename_i hx; simp [spanN, hx]
  | x :: t, q + 1, h => by
    rw [List.take_succ_cons, span_cons, span_cons]
    rw [span_cons] at h
    split
    · rename_i hx
      rw [if_pos hx] at h
      rw [span_take (by omega)]
    · rfl
theorem scan_take : ∀ {l : List Nat} {q : Nat} {h : Bool}, scan h l < q → scan h (l.take q) = scan h l
  | [], q, h, _ => by simp
  | x :: t, 0, h, hq => by omega
  | x :: t, q + 1, h, hq => by
    rw [List.take_succ_cons]
    unfold scan at hq ⊢
    split
    · rename_i hx
      rw [if_pos hx] at hq
      rw [scan_take (by omega)]
    · rfl
theorem drop_take_ (rs : List Nat) (i p : Nat) : (rs.take p).drop i = (rs.drop i).take (p - i) := by rw [List.drop_take]
section
variable {rs : List Nat} {i p : Nat}
theorem endW_take (h : endW rs i ≤ p) : endW (rs.take p) i = endW rs i := by
  unfold endW at h ⊢; rw [drop_take_, span_take (by omega)]
theorem endD_take (h : endD rs i ≤ p) : endD (rs.take p) i = endD rs i := by
  unfold endD at h ⊢; rw [drop_take_, span_take (by omega)]
theorem skip_take (h : skipR rs i ≤ p) : skipR (rs.take p) i = skipR rs i := by
  unfold skipR at h ⊢; rw [drop_take_, span_take (by omega)]
theorem endT_take (h : endT rs i < p) : endT (rs.take p) i = endT rs i := by
  unfold endT at h ⊢; rw [drop_take_, scan_take (by omega)]
theorem cut_take {m : Nat} (h : m ≤ p) : cutR (rs.take p) i m = cutR rs i m := by
  unfold cutR; rw [drop_take_, List.take_take, Nat.min_eq_left (by omega)]
theorem getD_take_ (h : i < p) : (rs.take p).getD i 0 = rs.getD i 0 := by simp [List.getD, h]
end
theorem nextP_take {rs : List Nat} {i m p : Nat} {t : Tk} (hi : i < rs.length) (h : nextP rs i = .inl (t, m)) (hp : m ≤ p) : nextP (rs.take p) i = .inl (t, m) := by
  have haft := nextP_after hi h
  rw [← h]
  unfold nextP at h ⊢
  rw [getD_take_ (by omega)]
  split at h
  · rename_i hc
    injection h with h; injection h with _ h
    rw [if_pos hc, if_pos hc, endW_take (by omega), cut_take (by omega)]
  rename_i hc
  rw [if_neg hc, if_neg hc]
  split at h
  · rename_i hc3
    rw [if_pos hc3, if_pos hc3]
    unfold countP at h ⊢
    have hm : endD rs i = m := by
      split at h
      · split at h
        · injection h with h; injection h
        · cases h
      · injection h with h; injection h
    rw [endD_take (by omega), cut_take (by omega)]
  rename_i hc3
  rw [if_neg hc3, if_neg hc3]
  split at h
  · rename_i h34
    rw [if_pos h34, if_pos h34]
    unfold textP at h ⊢
    have hm : endT rs i + 1 = m ∧ endT rs i ≠ rs.length := by
      split at h
      · cases h
      rename_i hne
      split at h
      · cases h
      split at h
      · injection h with h; injection h with _ h; exact ⟨h, hne⟩
      · cases h
    have hle := endT_le (rs := rs) (i := i) (by omega)
    rw [endT_take (by omega), cut_take (by omega), getD_take_ (by omega), if_neg (by simp; omega), if_neg hm.2]
  rename_i h34
  rw [if_neg h34, if_neg h34]
theorem lexF_places : ∀ (f : Nat) (rs : List Nat) (i : Nat) (acc r : List Tk), i ≤ rs.length → lexF f rs i acc = .inl r →
    ∃ ts, r = acc ++ ts ∧ ∀ k t, ts[k]? = some t → ∃ a : Nat, t.at_ = (a : Int) ∧ i ≤ a ∧ a < rs.length ∧
      (∀ f', a - i < f' → lexF f' (rs.take a) i acc = .inl (acc ++ ts.take k)) ∧ ∀ t', ts[k + 1]? = some t' → t.at_ < t'.at_ := by
  intro f
  induction f with
  | zero =>
    intro rs i acc r hi h
    rw [lexF] at h
    injection h with h
    exact ⟨[], by rw [h]; simp, fun k t ht => by simp at ht⟩
  | succ f ih =>
    intro rs i acc r hi h
    by_cases hend : skipR rs i = rs.length
    · rw [lexF_end hend] at h
      injection h with h
      exact ⟨[], by rw [h]; simp, fun k t ht => by simp at ht⟩
    have hsk := skip_le (rs := rs) hi
    cases hn : nextP rs (skipR rs i) with
    | inr e => rw [lexF_bad hend hn] at h; cases h
    | inl e =>
      obtain ⟨t0, m⟩ := e
      rw [lexF_step hend hn] at h
      have haft := nextP_after (by omega) hn
      have hat := nextP_at hn
      obtain ⟨ts, hts, hall⟩ := ih rs m (acc ++ [t0]) r haft.2 h
      refine ⟨t0 :: ts, by rw [hts]; simp, fun k t ht => ?_⟩
      cases k with
      | zero =>
        simp at ht
        subst ht
        refine ⟨skipR rs i, hat, hsk.1, by omega, fun f' _ => ?_, fun t' ht' => ?_⟩
        · rw [lexF_end (by rw [skip_take (Nat.le_refl _)]; simp; omega)]; simp
        · obtain ⟨a, ha, hma, _⟩ := hall 0 t' (by simpa using ht')
          rw [hat, ha]; omega
      | succ k =>
        obtain ⟨a, ha, hma, hal, hlex, hnx⟩ := hall k t (by simpa using ht)
        refine ⟨a, ha, by omega, hal, fun f' hf' => ?_, fun t' ht' => hnx t' (by simpa using ht')⟩
        obtain ⟨f'', rfl⟩ : ∃ f'', f' = f'' + 1 := ⟨f' - 1, by omega⟩
        have e1 : skipR (rs.take a) i = skipR rs i := skip_take (by omega)
        rw [lexF_step (by rw [e1]; simp; omega) (by rw [e1]; exact nextP_take (by omega) hn hma), hlex f'' (by omega)]
        simp
/-- the tokens' places; what is ahead of one -/
theorem lexP_places {rs : List Nat} {ts : List Tk} (h : lexP rs = .inl ts) : ∀ k t, ts[k]? = some t → ∃ a : Nat, t.at_ = (a : Int) ∧ a < rs.length ∧ lexP (rs.take a) = .inl (ts.take k) ∧ ∀ t', ts[k + 1]? = some t' → t.at_ < t'.at_ := by
  intro k t ht
  obtain ⟨ts', e, hall⟩ := lexF_places _ rs 0 [] ts (Nat.zero_le _) h
  simp at e
  subst e
  obtain ⟨a, ha, _, hal, hlex, hnx⟩ := hall k t ht
  refine ⟨a, ha, hal, ?_, hnx⟩
  unfold lexP
  rw [hlex _ (by simp; omega)]; simp
end Go.Proofs.YtenonfoocjcdmaaDoor
