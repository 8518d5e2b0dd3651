/- Plain Lean on texts: classes of runes, checks, cuts, quoting and unquoting. No program in sight. -/
import Derived.Test.YtenonfoocjcdmaaDoorRuP
namespace Go.Proofs.YtenonfoocjcdmaaDoor
set_option linter.unusedVariables false
open Go.Lib

/-- a rune's class: 0 bad, 1 blank, 2 letter, 3 digit, 4 sign -/
def classV (r : Int) : Int :=
  if r = 9 ∨ r = 32 then 1
  else if r < 32 ∨ (127 ≤ r ∧ r ≤ 160) ∨ (55296 ≤ r ∧ r ≤ 57343) ∨ r = 65533 ∨ 1114111 < r then 0
  else if 48 ≤ r ∧ r ≤ 57 then 3
  else if (97 ≤ r ∧ r ≤ 122) ∨ (65 ≤ r ∧ r ≤ 90) ∨ 160 < r then 2
  else 4
def badR (r : Nat) : Bool := classV r == 0
theorem badR_iff (r : Nat) : badR r = true ↔ (r ≠ 9 ∧ r ≠ 32 ∧ (r < 32 ∨ (127 ≤ r ∧ r ≤ 160) ∨ (55296 ≤ r ∧ r ≤ 57343) ∨ r = 65533 ∨ 1114111 < r)) := by
  unfold badR classV
  simp only [beq_iff_eq]
  repeat' split
  all_goals first | (constructor <;> intro h <;> first | (exfalso; omega) | omega) | omega
theorem good_valid {r : Nat} (h : badR r = false) : validR r ∧ r ≠ 65533 := by
  have := badR_iff r
  rw [h] at this
  simp only [Bool.false_eq_true, false_iff] at this
  unfold validR
  omega

/-- no bad rune -/
def okL (l : List UInt8) : Bool := (runes l).all (fun r => !badR r)
/-- how many runes stand ahead of the first bad one -/
def checkN (l : List UInt8) : Nat := ((runes l).takeWhile (fun r => !badR r)).length
def checkE (l : List UInt8) : Int := if okL l then 0 else 40
theorem checkN_ok {l : List UInt8} (h : okL l = true) : checkN l = (runes l).length := by
  unfold checkN
  have h2 : ∀ r ∈ runes l, (!badR r) = true := by simpa [okL, List.all_eq_true] using h
  have h3 := List.takeWhile_append_of_pos (l₂ := []) h2
  simp only [List.append_nil, List.takeWhile_nil] at h3
  rw [h3]
theorem checkE_ok {l : List UInt8} (h : okL l = true) : checkE l = 0 := by simp [checkE, h]
theorem checkE_bad {l : List UInt8} (h : okL l = false) : checkE l = 40 := by simp [checkE, h]
theorem check_split {l : List UInt8} {a b : List Nat} {r : Nat} (h : runes l = a ++ r :: b) (ha : a.all (fun r => !badR r) = true) (hr : badR r = true) : okL l = false ∧ checkN l = a.length := by
  unfold okL checkN
  rw [h]
  refine ⟨by simp [hr], ?_⟩
  rw [List.takeWhile_append_of_pos (by simpa [List.all_eq_true] using ha)]
  simp [hr]
theorem checkN_lt {l : List UInt8} (h : okL l = false) : checkN l < (runes l).length := by
  unfold okL at h
  unfold checkN
  generalize runes l = rs at *
  induction rs with
  | nil => simp at h
  | cons r t ih =>
    simp only [List.all_cons, Bool.and_eq_false_iff] at h
    rw [List.takeWhile_cons]
    by_cases hb : badR r = true
    · simp [hb]
    · simp only [hb, Bool.not_false, if_true, List.length_cons]
      have := ih (by rcases h with h | h
                     · simp at h; simp [h] at hb
                     · exact h)
      simp at hb
      simp; omega

/-- a good text is what its runes encode to -/
theorem ok_enc : ∀ {l : List UInt8}, okL l = true → l = (runes l).flatMap enc := by
  have key : ∀ (n : Nat) (l : List UInt8), l.length ≤ n → okL l = true → l = (runes l).flatMap enc := by
    intro n
    induction n with
    | zero =>
      intro l h _
      have : l = [] := List.eq_nil_of_length_eq_zero (by omega)
      subst this; rfl
    | succ n ih =>
      intro l h hok
      by_cases hl : l = []
      · subst hl; rfl
      · have hs := runes_step hl
        have hp := dec_pos l
        have h2 : badR (dec l).1 = false ∧ okL (l.drop (dec l).2) = true := by
          unfold okL at hok ⊢
          rw [hs] at hok
          simpa using hok
        have h3 := ih (l.drop (dec l).2) (by simp; omega) h2.2
        rw [hs, List.flatMap_cons, ← enc_dec hl (good_valid h2.1).2, ← h3, List.take_append_drop]
  exact fun {l} h => key l.length l (Nat.le_refl _) h
theorem runes_flat {rs : List Nat} (h : ∀ r ∈ rs, badR r = false) : runes (rs.flatMap enc) = rs := by
  induction rs with
  | nil => rfl
  | cons r t ih =>
    rw [List.flatMap_cons, runes_enc (good_valid (h r (by simp))).1, ih (fun x hx => h x (by simp [hx]))]
theorem ok_flat {rs : List Nat} (h : ∀ r ∈ rs, badR r = false) : okL (rs.flatMap enc) = true := by
  unfold okL; rw [runes_flat h, List.all_eq_true]; intro r hr; simp [h r hr]
theorem ok_mem {l : List UInt8} (h : okL l = true) : ∀ r ∈ runes l, badR r = false := by
  unfold okL at h; rw [List.all_eq_true] at h
  intro r hr; simpa using h r hr

/-- quoting, byte by byte -/
def esc (l : List UInt8) : List UInt8 := l.flatMap fun b => if b = 34 ∨ b = 92 then [92, b] else [b]
/-- quoting, rune by rune -/
def escR (rs : List Nat) : List UInt8 := rs.flatMap fun r => (if r = 34 ∨ r = 92 then [92] else []) ++ enc r
theorem esc_append (a b : List UInt8) : esc (a ++ b) = esc a ++ esc b := by simp [esc]
theorem escR_append (a b : List Nat) : escR (a ++ b) = escR a ++ escR b := by simp [escR]
theorem esc_high {l : List UInt8} (h : ∀ b ∈ l, 128 ≤ b.toNat) : esc l = l := by
  induction l with
  | nil => rfl
  | cons b t ih =>
    have hb := h b (by simp)
    have h1 : ¬ (b = 34 ∨ b = 92) := by
      rintro (rfl | rfl) <;> simp at hb
    show (if b = 34 ∨ b = 92 then [92, b] else [b]) ++ esc t = _
    rw [if_neg h1, ih (fun x hx => h x (by simp [hx]))]
    rfl
theorem ofNat_eq_iff {r k : Nat} (h : r < 128) (hk : k < 128) : UInt8.ofNat r = UInt8.ofNat k ↔ r = k := by
  constructor
  · intro e
    have := congrArg UInt8.toNat e
    simp at this; omega
  · rintro rfl; rfl
theorem esc_enc (r : Nat) : esc (enc r) = (if r = 34 ∨ r = 92 then [92] else []) ++ enc r := by
  by_cases h : r < 128
  · rw [enc_one h]
    have h1 := ofNat_eq_iff h (by omega : 34 < 128)
    have h2 := ofNat_eq_iff h (by omega : 92 < 128)
    show (if UInt8.ofNat r = UInt8.ofNat 34 ∨ UInt8.ofNat r = UInt8.ofNat 92 then [92, UInt8.ofNat r] else [UInt8.ofNat r]) ++ [] = _
    by_cases hc : r = 34 ∨ r = 92
    · rw [if_pos hc, if_pos (by rw [h1, h2]; exact hc)]; simp
    · rw [if_neg hc, if_neg (by rw [h1, h2]; exact hc)]; simp
  · rw [esc_high (enc_high (by omega)), if_neg (by omega)]; rfl
theorem esc_flat (rs : List Nat) : esc (rs.flatMap enc) = escR rs := by
  induction rs with
  | nil => rfl
  | cons r t ih => rw [List.flatMap_cons, esc_append, esc_enc, ih]; rfl
theorem esc_ok {l : List UInt8} (h : okL l = true) : esc l = escR (runes l) := by
  have := ok_enc h
  rw [← esc_flat, ← this]

/-- unquoting, rune by rune; true: a sign was held -/
def unqR : Bool → List Nat → Option (List UInt8)
  | h, [] => if h then none else some []
  | true, r :: t => if r = 34 ∨ r = 92 then (unqR false t).map (enc r ++ ·) else none
  | false, r :: t => if r = 34 then none else if r = 92 then unqR true t else (unqR false t).map (enc r ++ ·)
theorem unqR_some : ∀ {rs : List Nat} {u : List UInt8}, unqR false rs = some u → ∃ qs : List Nat, u = qs.flatMap enc ∧ rs.flatMap enc = escR qs ∧ ∀ q ∈ qs, q ∈ rs
  | [], u, h => by
    simp [unqR] at h; subst h; exact ⟨[], rfl, rfl, by simp⟩
  | [r], u, h => by
    simp only [unqR] at h
    split at h
    · cases h
    split at h
    · simp at h
    · simp at h; subst h
      rename_i h1 h2
      exact ⟨[r], by simp, by simp [escR, h1, h2], by simp⟩
  | r :: s :: t, u, h => by
    rw [unqR] at h
    split at h
    · cases h
    rename_i h1
    split at h
    · rename_i h2
      rw [unqR] at h
      split at h
      · rename_i h3
        simp only [Option.map_eq_some_iff] at h
        obtain ⟨u', hu, rfl⟩ := h
        obtain ⟨qs, e1, e2, e3⟩ := unqR_some hu
        refine ⟨s :: qs, by rw [e1]; rfl, ?_, by intro q hq; simp at hq ⊢; rcases hq with rfl | hq; exact .inr (.inl rfl); exact .inr (.inr (e3 q hq))⟩
        rw [List.flatMap_cons, List.flatMap_cons, e2]
        show _ = ((if s = 34 ∨ s = 92 then [92] else []) ++ enc s) ++ escR qs
        rw [if_pos h3, h2, enc_one (by omega)]
        simp
      · cases h
    · rename_i h2
      simp only [Option.map_eq_some_iff] at h
      obtain ⟨u', hu, rfl⟩ := h
      obtain ⟨qs, e1, e2, e3⟩ := unqR_some hu
      refine ⟨r :: qs, by rw [e1]; rfl, ?_, by intro q hq; simp only [List.mem_cons] at hq ⊢; rcases hq with rfl | hq; exact .inl rfl; exact .inr (by simpa using e3 q hq)⟩
      rw [List.flatMap_cons, e2]
      show _ = ((if r = 34 ∨ r = 92 then [92] else []) ++ enc r) ++ escR qs
      rw [if_neg (by omega)]; rfl
/-- rune lists of quoted runes -/
def quoteRs (qs : List Nat) : List Nat := qs.flatMap fun r => if r = 34 ∨ r = 92 then [92, r] else [r]
theorem quoteRs_enc (qs : List Nat) : (quoteRs qs).flatMap enc = escR qs := by
  induction qs with
  | nil => rfl
  | cons r t ih =>
    show ((if r = 34 ∨ r = 92 then [92, r] else [r]) ++ quoteRs t).flatMap enc = ((if r = 34 ∨ r = 92 then [92] else []) ++ enc r) ++ escR t
    rw [List.flatMap_append, ih]
    split
    · simp [enc_one (show 92 < 128 by omega)]
    · simp
theorem unqR_quote (qs : List Nat) : unqR false (quoteRs qs) = some (qs.flatMap enc) := by
  induction qs with
  | nil => rfl
  | cons r t ih =>
    show unqR false ((if r = 34 ∨ r = 92 then [92, r] else [r]) ++ quoteRs t) = _
    split
    · rename_i h
      simp only [List.cons_append, List.nil_append]
      rw [unqR, if_neg (by omega), if_pos rfl, unqR, if_pos h, ih]
      simp
    · rename_i h
      simp only [List.cons_append, List.nil_append]
      rw [unqR, if_neg (by omega), if_neg (by omega), ih]
      simp
theorem quoteRs_good {qs : List Nat} (h : ∀ q ∈ qs, badR q = false) : ∀ q ∈ quoteRs qs, badR q = false := by
  intro q hq
  simp only [quoteRs, List.mem_flatMap] at hq
  obtain ⟨r, hr, hq⟩ := hq
  split at hq
  · simp at hq
    rcases hq with rfl | rfl
    · decide
    · exact h _ hr
  · simp at hq; subst hq; exact h _ hr
end Go.Proofs.YtenonfoocjcdmaaDoor
