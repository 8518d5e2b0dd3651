/- Plain Lean on texts: where runes begin, cuts, unquoting against the reference. No program in sight. -/
import Derived.Test.YtenonfoocjcdmaaDoorRuP2
namespace Go.Proofs.YtenonfoocjcdmaaDoor
set_option linter.unusedVariables false
open Go.Lib

/-- where rune number k begins -/
def posN : Nat → List UInt8 → Nat
  | 0, _ => 0
  | k + 1, l => if l = [] then 0 else (dec l).2 + posN k (l.drop (dec l).2)
theorem pos_facts : ∀ (k : Nat) (l : List UInt8), k ≤ (runes l).length →
    posN k l ≤ l.length ∧ runes (l.take (posN k l)) = (runes l).take k ∧ runes (l.drop (posN k l)) = (runes l).drop k
  | 0, l, _ => by simp [posN, runes_nil]
  | k + 1, l, h => by
    by_cases hl : l = []
    · subst hl; simp [runes_nil] at h
    · have hs := runes_step hl
      have hw := dec_le l hl
      have hp := dec_pos l
      rw [hs] at h
      obtain ⟨h1, h2, h3⟩ := pos_facts k (l.drop (dec l).2) (by simpa using h)
      simp only [posN, if_neg hl]
      simp only [List.length_drop] at h1
      refine ⟨by omega, ?_, ?_⟩
      · have hne : l.take ((dec l).2 + posN k (l.drop (dec l).2)) ≠ [] := by
          intro h0
          have := congrArg List.length h0
          simp only [List.length_take, List.length_nil] at this
          have : 0 < l.length := List.length_pos_iff.2 hl
          omega
        rw [runes_step hne, dec_take (by omega), List.drop_take, Nat.add_sub_cancel_left, h2, hs]
        rfl
      · rw [← List.drop_drop, h3, hs]; rfl
theorem pos_le (k : Nat) {l : List UInt8} (h : k ≤ (runes l).length) : posN k l ≤ l.length := (pos_facts k l h).1
theorem pos_lt_iff (k : Nat) {l : List UInt8} (h : k ≤ (runes l).length) : posN k l < l.length ↔ k < (runes l).length := by
  obtain ⟨h1, h2, h3⟩ := pos_facts k l h
  constructor
  · intro hp
    have hne : l.drop (posN k l) ≠ [] := by intro h0; have := congrArg List.length h0; simp at this; omega
    rw [runes_step hne] at h3
    have := congrArg List.length h3
    simp at this; omega
  · intro hk
    rcases Nat.lt_or_ge (posN k l) l.length with h4 | h4
    · exact h4
    · rw [List.drop_eq_nil_of_le h4, runes_nil] at h3
      have := congrArg List.length h3
      simp at this; omega
theorem pos_succ : ∀ (k : Nat) {l : List UInt8}, k < (runes l).length → posN (k + 1) l = posN k l + (dec (l.drop (posN k l))).2
  | 0, l, h => by
    have hl : l ≠ [] := by rintro rfl; simp [runes_nil] at h
    simp [posN, hl]
  | k + 1, l, h => by
    have hl : l ≠ [] := by rintro rfl; simp [runes_nil] at h
    rw [runes_step hl] at h
    have ih := pos_succ k (l := l.drop (dec l).2) (by simpa using h)
    rw [posN, if_neg hl, ih]
    rw [show posN (k + 1) l = (dec l).2 + posN k (l.drop (dec l).2) by rw [posN, if_neg hl]]
    rw [← List.drop_drop]; omega
theorem pos_rune (k : Nat) {l : List UInt8} (h : k < (runes l).length) : (runes l)[k]? = some (dec (l.drop (posN k l))).1 := by
  obtain ⟨h1, h2, h3⟩ := pos_facts k l (by omega)
  have hlt := (pos_lt_iff k (by omega)).2 h
  have hne : l.drop (posN k l) ≠ [] := by intro h0; have := congrArg List.length h0; simp at this; omega
  rw [runes_step hne] at h3
  have := congrArg (fun x => x[0]?) h3
  simpa using this.symm
theorem pos_end {k : Nat} {l : List UInt8} (h : k = (runes l).length) : posN k l = l.length := by
  subst h
  have h1 := pos_le (runes l).length (l := l) (Nat.le_refl _)
  have h2 := pos_lt_iff (runes l).length (l := l) (Nat.le_refl _)
  omega

/-- what stands between the first and the last byte -/
def inner (l : List UInt8) : List UInt8 := (l.drop 1).take (l.length - 2)
/-- the text of a quoted one -/
def unqV (l : List UInt8) : Option (List UInt8) := if okL l = true ∧ 2 ≤ l.length ∧ l.head? = some 34 ∧ l.getLast? = some 34 then unqR false (runes (inner l)) else none
def quoteL (l : List UInt8) : List UInt8 := 34 :: (esc l ++ [34])
theorem inner_quote (m : List UInt8) : inner (34 :: (m ++ [34])) = m := by simp [inner]
theorem enc_head {r : Nat} {t : List UInt8} {b : Nat} (hb : b < 128) (h : (enc r ++ t).head? = some (UInt8.ofNat b)) : r = b := by
  by_cases hr : r < 128
  · rw [enc_one hr] at h; simp at h
    exact (ofNat_eq_iff hr hb).1 h
  · have h1 := enc_high (r := r) (by omega)
    have hne := enc_ne r
    match he : enc r, hne with
    | x :: y, _ =>
      rw [he] at h h1; simp at h
      have := h1 x (by simp)
      rw [h] at this; simp at this; omega
theorem enc_last {r : Nat} {t : List UInt8} {b : Nat} (hb : b < 128) (h : (t ++ enc r).getLast? = some (UInt8.ofNat b)) : r = b := by
  rw [List.getLast?_append] at h
  by_cases hr : r < 128
  · rw [enc_one hr] at h; simp at h
    exact (ofNat_eq_iff hr hb).1 h
  · have h1 := enc_high (r := r) (by omega)
    have hne := enc_ne r
    rw [List.getLast?_eq_some_getLast hne] at h
    simp at h
    have := h1 _ (List.getLast_mem hne)
    rw [h] at this; simp at this; omega
theorem ok_quoted {l : List UInt8} (hok : okL l = true) (h2 : 2 ≤ l.length) (hh : l.head? = some 34) (hl : l.getLast? = some 34) :
    ∃ rs : List Nat, (∀ r ∈ rs, badR r = false) ∧ inner l = rs.flatMap enc ∧ runes (inner l) = rs ∧ l = 34 :: (inner l ++ [34]) := by
  have he := ok_enc hok
  have hg := ok_mem hok
  generalize hrs : runes l = rs0 at *
  match rs0 with
  | [] => rw [he] at h2; simp at h2
  | r0 :: rs1 =>
    have e0 : r0 = 34 := enc_head (t := rs1.flatMap enc) (by omega) (by rw [he] at hh; simpa using hh)
    subst e0
    rw [List.flatMap_cons, enc_one (by omega)] at he
    have hne : rs1 ≠ [] := by rintro rfl; rw [he] at h2; simp at h2
    obtain ⟨rs2, rl, rfl⟩ : ∃ rs2 rl, rs1 = rs2 ++ [rl] := ⟨rs1.dropLast, rs1.getLast hne, (List.dropLast_concat_getLast hne).symm⟩
    have el : rl = 34 := enc_last (t := 34 :: rs2.flatMap enc) (by omega) (by rw [he] at hl; simpa using hl)
    subst el
    have hin : inner l = rs2.flatMap enc := by
      rw [he, List.flatMap_append]
      simp [inner, enc_one (show 34 < 128 by omega)]
    have hg2 : ∀ r ∈ rs2, badR r = false := fun r hr => hg r (by simp [hr])
    refine ⟨rs2, hg2, hin, by rw [hin, runes_flat hg2], ?_⟩
    rw [hin, he, List.flatMap_append]
    simp [enc_one (show 34 < 128 by omega)]
theorem unq_some {l u : List UInt8} (h : unqV l = some u) : okL u = true ∧ quoteL u = l ∧ okL l = true := by
  unfold unqV at h
  split at h
  · rename_i hc
    obtain ⟨rs, hg, hin, hrs, hl⟩ := ok_quoted hc.1 hc.2.1 hc.2.2.1 hc.2.2.2
    rw [hrs] at h
    obtain ⟨qs, e1, e2, e3⟩ := unqR_some h
    have hq : ∀ q ∈ qs, badR q = false := fun q hq => hg q (e3 q hq)
    refine ⟨by rw [e1]; exact ok_flat hq, ?_, hc.1⟩
    rw [quoteL, e1, esc_flat, ← e2, ← hin]
    exact hl.symm
  · cases h
theorem quote_rs {u : List UInt8} (hu : okL u = true) : quoteL u = (34 :: (quoteRs (runes u) ++ [34])).flatMap enc := by
  rw [quoteL, esc_ok hu, ← quoteRs_enc]
  simp [enc_one (show 34 < 128 by omega)]
theorem ok_quote {u : List UInt8} (hu : okL u = true) : okL (quoteL u) = true := by
  rw [quote_rs hu]
  apply ok_flat
  intro r hr
  simp only [List.mem_cons, List.mem_append, List.not_mem_nil, or_false] at hr
  rcases hr with rfl | hr | rfl
  · decide
  · exact quoteRs_good (ok_mem hu) _ hr
  · decide
theorem unq_quote {u : List UInt8} (hu : okL u = true) : unqV (quoteL u) = some u := by
  unfold unqV
  rw [if_pos ⟨ok_quote hu, by simp [quoteL], by simp [quoteL], by rw [quoteL, ← List.cons_append, List.getLast?_append]; simp⟩]
  have e : runes (inner (quoteL u)) = quoteRs (runes u) := by
    rw [quoteL, inner_quote, esc_ok hu, ← quoteRs_enc, runes_flat (quoteRs_good (ok_mem hu))]
  rw [e, unqR_quote, ← ok_enc hu]

/-- the reference's way: signs that hold another one are left out -/
def strip : List UInt8 → List UInt8
  | [] => []
  | [c] => [c]
  | c :: d :: t => if c = 92 then d :: strip t else c :: strip (d :: t)
theorem strip_esc (u : List UInt8) : strip (esc u) = u := by
  induction u with
  | nil => rfl
  | cons b t ih =>
    show strip ((if b = 34 ∨ b = 92 then [92, b] else [b]) ++ esc t) = _
    split
    · simp only [List.cons_append, List.nil_append]
      rw [strip, if_pos rfl, ih]
    · rename_i h
      simp only [List.cons_append, List.nil_append]
      cases he : esc t with
      | nil => rw [he] at ih; simp [strip] at ih; subst ih; simp [strip]
      | cons d r =>
        rw [strip, if_neg (fun e => h (.inr e)), ← he, ih]
def unqRef (l : List UInt8) : Option (List UInt8) := if okL (strip (inner l)) = true ∧ quoteL (strip (inner l)) = l then some (strip (inner l)) else none
theorem unqRef_eq {l : List UInt8} (hok : okL l = true) : unqRef l = unqV l := by
  cases h : unqV l with
  | some u =>
    obtain ⟨h1, h2, _⟩ := unq_some h
    have hs : strip (inner l) = u := by rw [← h2, quoteL, inner_quote, strip_esc]
    unfold unqRef
    rw [hs, if_pos ⟨h1, h2⟩]
  | none =>
    unfold unqRef
    rw [if_neg]
    rintro ⟨h1, h2⟩
    have := unq_quote h1
    rw [h2, h] at this
    cases this
/-- the numbers and texts that Unquote tells -/
def unqE (l : List UInt8) : Int := if okL l then (if (unqV l).isSome then 0 else 50) else 40
def unqT (l : List UInt8) : List UInt8 := (unqV l).getD []
theorem unq_bad {l : List UInt8} (h : okL l = false) : unqV l = none := by unfold unqV; simp [h]

/-- small letters -/
def lowB (b : UInt8) : UInt8 := if 65 ≤ b.toNat ∧ b.toNat ≤ 90 then b + 32 else b
end Go.Proofs.YtenonfoocjcdmaaDoor
