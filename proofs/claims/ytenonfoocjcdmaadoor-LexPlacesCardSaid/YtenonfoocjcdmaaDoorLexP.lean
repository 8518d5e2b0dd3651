/- Layer 5, plain: the tokens of a row of runes. -/
import Derived.Test.YtenonfoocjcdmaaDoorRuP3
import Derived.Test.YtenonfoocjcdmaaDoorHrP2
import Derived.Test.YtenonfoocjcdmaaDoorLexW3
namespace Go.Proofs.YtenonfoocjcdmaaDoor
set_option linter.unusedVariables false
open Go.RowKit
/-- a token -/
structure Tk where
  kind : Int
  text : ByteArray
  num : Int
  at_ : Int
def tkC (t : Tk) : List Value := [.int .i64 t.kind, .string t.text, .int .i64 t.num, .int .i64 t.at_]
def tkV (t : Tk) : Value := .agg #[.int .i64 t.kind, .string t.text, .int .i64 t.num, .int .i64 t.at_]
theorem tkC_len (t : Tk) : (tkC t).length = 4 := rfl

def spanN (p : Nat → Bool) (l : List Nat) : Nat := (l.takeWhile p).length
theorem span_le (p : Nat → Bool) (l : List Nat) : spanN p l ≤ l.length := (List.takeWhile_sublist _).length_le
theorem span_cons (p : Nat → Bool) (b : Nat) (t : List Nat) : spanN p (b :: t) = if p b then spanN p t + 1 else 0 := by
  unfold spanN; rw [List.takeWhile_cons]; split <;> simp
theorem span_in {p : Nat → Bool} : ∀ {l : List Nat} {k x : Nat}, k < spanN p l → l[k]? = some x → p x = true
  | [], k, x, h, _ => by simp [spanN] at h
  | y :: t, 0, x, h, hx => by
    simp at hx; subst hx
    rw [span_cons] at h
    split at h
    · assumption
    · omega
  | y :: t, k + 1, x, h, hx => by
    rw [span_cons] at h
    split at h
    · exact span_in (l := t) (k := k) (by omega) (by simpa using hx)
    · omega
theorem span_stop {p : Nat → Bool} : ∀ {l : List Nat} {x : Nat}, l[spanN p l]? = some x → p x = false
  | [], x, h => by simp at h
  | y :: t, x, h => by
    rw [span_cons] at h
    split at h
    · exact span_stop (l := t) (by simpa using h)
    · rename_i hy
      simp at h; subst h; simpa using hy
/-- if all runes ahead of a place are so, and the one there is not -/
theorem span_is {p : Nat → Bool} : ∀ {l : List Nat} {k : Nat}, k ≤ l.length → (∀ j x, j < k → l[j]? = some x → p x = true) → (∀ x, l[k]? = some x → p x = false) → spanN p l = k
  | [], k, hk, _, _ => by simp at hk; subst hk; rfl
  | y :: t, 0, _, _, h2 => by rw [span_cons, h2 y (by simp)]; rfl
  | y :: t, k + 1, hk, h1, h2 => by
    rw [span_cons, h1 0 y (by omega) (by simp)]
    simp only [if_true]
    rw [span_is (l := t) (k := k) (by simpa using hk) (fun j x hj hx => h1 (j + 1) x (by omega) (by simpa using hx)) (fun x hx => h2 x (by simpa using hx))]

def scan : Bool → List Nat → Nat
  | _, [] => 0
  | h, x :: t => if textR h x then scan (heldR h x) t + 1 else 0
def heldN : Bool → List Nat → Nat → Bool
  | h, _, 0 => h
  | h, [], _ + 1 => h
  | h, x :: t, k + 1 => heldN (heldR h x) t k
theorem heldN_succ : ∀ {h : Bool} {l : List Nat} {k x : Nat}, l[k]? = some x → heldN h l (k + 1) = heldR (heldN h l k) x
  | h, [], k, x, hx => by simp at hx
  | h, y :: t, 0, x, hx => by
    simp at hx; subst hx
    cases t <;> rfl
  | h, y :: t, k + 1, x, hx => by
    show heldN (heldR h y) t (k + 1) = _
    rw [heldN_succ (by simpa using hx)]
    rfl
theorem scan_le : ∀ (h : Bool) (l : List Nat), scan h l ≤ l.length
  | h, [] => by simp [scan]
  | h, y :: t => by
    unfold scan
    split
    · have := scan_le (heldR h y) t
      simp; omega
    · simp
theorem scan_mid : ∀ {h : Bool} {l : List Nat} {k x : Nat}, k < scan h l → l[k]? = some x → textR (heldN h l k) x = true
  | h, [], k, x, hk, _ => by simp [scan] at hk
  | h, y :: t, 0, x, hk, hx => by
    simp at hx; subst hx
    unfold scan at hk
    split at hk
    · assumption
    · omega
  | h, y :: t, k + 1, x, hk, hx => by
    unfold scan at hk
    split at hk
    · exact scan_mid (h := heldR h y) (l := t) (k := k) (by omega) (by simpa using hx)
    · omega
theorem scan_stop : ∀ {h : Bool} {l : List Nat} {x : Nat}, l[scan h l]? = some x → textR (heldN h l (scan h l)) x = false
  | h, [], x, hx => by simp at hx
  | h, y :: t, x, hx => by
    unfold scan at hx ⊢
    split at hx
    · rename_i hy
      rw [if_pos hy]
      exact scan_stop (h := heldR h y) (l := t) (by simpa using hx)
    · rename_i hy
      rw [if_neg hy]
      simp at hx; subst hx
      show textR h y = false
      simpa using hy

def cutR (rs : List Nat) (i m : Nat) : List Nat := (rs.drop i).take (m - i)
def digR (r : Nat) : Bool := decide (48 ≤ r) && decide (r ≤ 57)
def valR (l : List Nat) : Nat := l.foldl (fun a r => a * 10 + (r - 48)) 0
def numOk (l : List Nat) : Bool := decide (l.length ≤ 9) && !(decide (1 < l.length) && (l.headD 0 == 48))
def lowT (l : List Nat) : ByteArray := ⟨((bl (strR l)).map lowB).toArray⟩
def blankR (r : Nat) : Bool := hasC [1] r
/-- where the token ends that begins with a rune, were it a word, a number, a text -/
def endW (rs : List Nat) (i : Nat) : Nat := i + spanN wordR (rs.drop i)
def endD (rs : List Nat) (i : Nat) : Nat := i + spanN smallR (rs.drop i)
def endT (rs : List Nat) (i : Nat) : Nat := i + scan true (rs.drop i)
def skipR (rs : List Nat) (i : Nat) : Nat := i + spanN blankR (rs.drop i)
def countP (rs : List Nat) (i : Nat) : (Tk × Nat) ⊕ (Nat × Int) :=
  if (cutR rs i (endD rs i)).all digR then (if numOk (cutR rs i (endD rs i)) then .inl (⟨2, ⟨#[]⟩, (valR (cutR rs i (endD rs i)) : Int), i⟩, endD rs i) else .inr (i, 50))
  else .inl (⟨3, strR (cutR rs i (endD rs i)), 0, i⟩, endD rs i)
def textP (rs : List Nat) (i : Nat) : (Tk × Nat) ⊕ (Nat × Int) :=
  if endT rs i = rs.length then .inr (i, 50)
  else if rs.getD (endT rs i) 0 ≠ 34 then .inr (endT rs i, 40)
  else if (unqV (bl (strR (cutR rs i (endT rs i + 1))))).isSome then .inl (⟨4, ⟨(unqT (bl (strR (cutR rs i (endT rs i + 1))))).toArray⟩, 0, i⟩, endT rs i + 1) else .inr (i, 50)
/-- the token that begins at a place, and the place behind it; or the place that is wrong, and the error -/
def nextP (rs : List Nat) (i : Nat) : (Tk × Nat) ⊕ (Nat × Int) :=
  if classV (rs.getD i 0) = 2 then .inl (⟨1, lowT (cutR rs i (endW rs i)), 0, i⟩, endW rs i)
  else if classV (rs.getD i 0) = 3 then countP rs i
  else if rs.getD i 0 = 34 then textP rs i
  else if rs.getD i 0 = 61 ∨ rs.getD i 0 = 58 ∨ rs.getD i 0 = 44 ∨ rs.getD i 0 = 45 then .inl (⟨5, strR [rs.getD i 0], 0, i⟩, i + 1)
  else if classV (rs.getD i 0) = 0 then .inr (i, 40) else .inr (i, 50)
/-- the tokens from a place on, behind some others -/
def lexF : Nat → List Nat → Nat → List Tk → List Tk ⊕ (Nat × Int)
  | 0, _, _, acc => .inl acc
  | f + 1, rs, i, acc => if skipR rs i = rs.length then .inl acc else
    match nextP rs (skipR rs i) with
    | .inl (t, m) => lexF f rs m (acc ++ [t])
    | .inr e => .inr e
def lexP (rs : List Nat) : List Tk ⊕ (Nat × Int) := lexF (rs.length + 1) rs 0 []

theorem bl_strR (l : List Nat) : bl (strR l) = l.flatMap enc := by simp [strR, bl]
theorem cutR_at {rs : List Nat} {i m k : Nat} (hk : k < m - i) : (cutR rs i m)[k]? = rs[i + k]? := by
  unfold cutR; rw [List.getElem?_take, if_pos hk, List.getElem?_drop]
theorem cutR_len {rs : List Nat} {i m : Nat} (h : m ≤ rs.length) : (cutR rs i m).length = m - i := by unfold cutR; simp; omega
theorem cutR_mem {rs : List Nat} {i m x : Nat} (h : x ∈ cutR rs i m) : ∃ k, i ≤ k ∧ k < m ∧ rs[k]? = some x := by
  obtain ⟨k, hk⟩ := List.mem_iff_getElem?.1 h
  have hl := (List.getElem?_eq_some_iff.1 hk).1
  have hl2 : k < m - i := by unfold cutR at hl; simp at hl; omega
  rw [cutR_at hl2] at hk
  exact ⟨i + k, by omega, by omega, hk⟩
theorem drop_get {rs : List Nat} {i k x : Nat} (hik : i ≤ k) (h : rs[k]? = some x) : (rs.drop i)[k - i]? = some x := by rw [List.getElem?_drop, show i + (k - i) = k by omega]; exact h
theorem getD_of {rs : List Nat} {i x : Nat} (h : rs[i]? = some x) : rs.getD i 0 = x := by simp [List.getD, h]
section
variable {p : Nat → Bool} {rs : List Nat} {i : Nat}
theorem spanI_le (hi : i ≤ rs.length) : i + spanN p (rs.drop i) ≤ rs.length := by have := span_le p (rs.drop i); simp at this; omega
theorem spanI_in {k x : Nat} (h1 : i ≤ k) (h2 : k < i + spanN p (rs.drop i)) (hx : rs[k]? = some x) : p x = true := span_in (l := rs.drop i) (k := k - i) (by omega) (drop_get h1 hx)
theorem spanI_stop {x : Nat} (hx : rs[i + spanN p (rs.drop i)]? = some x) : p x = false := span_stop (l := rs.drop i) (by rw [List.getElem?_drop]; exact hx)
theorem spanI_is {k : Nat} (h1 : i ≤ k) (h2 : k ≤ rs.length) (h3 : ∀ j x, i ≤ j → j < k → rs[j]? = some x → p x = true) (h4 : ∀ x, rs[k]? = some x → p x = false) : i + spanN p (rs.drop i) = k := by
  rw [span_is (p := p) (l := rs.drop i) (k := k - i) (by simp; omega) (fun j x hj hx => h3 (i + j) x (by omega) (by omega) (by rw [List.getElem?_drop] at hx; exact hx)) (fun x hx => h4 x (by rw [List.getElem?_drop, show i + (k - i) = k by omega] at hx; exact hx))]
  omega
theorem spanI_pos {x : Nat} (hx : rs[i]? = some x) (hp : p x = true) : i < i + spanN p (rs.drop i) := by
  rcases Nat.eq_zero_or_pos (spanN p (rs.drop i)) with h | h
  · have := spanI_stop (p := p) (i := i) (rs := rs) (x := x) (by rw [h]; exact hx)
    rw [hp] at this; cases this
  · omega
theorem endT_le (hi : i ≤ rs.length) : endT rs i ≤ rs.length := by unfold endT; have := scan_le true (rs.drop i); simp at this; omega
theorem good_of_text {h : Bool} {x : Nat} (hx : textR h x = true) : badR x = false := by unfold textR at hx; simp at hx; exact hx.1
theorem endT_good {k x : Nat} (h1 : i ≤ k) (h2 : k < endT rs i) (hx : rs[k]? = some x) : badR x = false :=
  good_of_text (scan_mid (h := true) (l := rs.drop i) (k := k - i) (by unfold endT at h2; omega) (drop_get h1 hx))
end
theorem letter_word {x : Nat} (h : classV x = 2) : wordR x = true := by unfold wordR hasC; rw [h]; rfl
theorem digit_iff {x : Nat} : classV x = 3 ↔ (48 ≤ x ∧ x ≤ 57) := by
  unfold classV
  repeat' split
  all_goals omega
theorem digit_small {x : Nat} (h : classV x = 3) : smallR x = true := by
  rw [digit_iff] at h
  unfold smallR; simp; omega
theorem textR_q (x : Nat) (h : x = 34) : textR true x = true := by subst h; decide
/-- a token is behind its place -/
theorem nextP_after {rs : List Nat} {i m : Nat} {t : Tk} (hi : i < rs.length) (h : nextP rs i = .inl (t, m)) : i < m ∧ m ≤ rs.length := by
  obtain ⟨x, hx⟩ : ∃ x, rs[i]? = some x := ⟨_, List.getElem?_eq_getElem hi⟩
  unfold nextP at h
  rw [getD_of hx] at h
  split at h
  · rename_i hc
    injection h with h
    injection h with _ h
    subst h
    exact ⟨spanI_pos hx (letter_word hc), spanI_le (by omega)⟩
  split at h
  · rename_i hc
    unfold countP at h
    split at h
    · split at h
      · injection h with h
        injection h with _ h
        subst h
        exact ⟨spanI_pos hx (digit_small hc), spanI_le (by omega)⟩
      · cases h
    · injection h with h
      injection h with _ h
      subst h
      exact ⟨spanI_pos hx (digit_small hc), spanI_le (by omega)⟩
  split at h
  · unfold textP at h
    split at h
    · cases h
    split at h
    · cases h
    split at h
    · injection h with h
      injection h with _ h
      subst h
      have := endT_le (rs := rs) (i := i) (by omega)
      exact ⟨by unfold endT; omega, by omega⟩
    · cases h
  split at h
  · injection h with h
    injection h with _ h
    subst h
    omega
  split at h <;> cases h
theorem skip_le {rs : List Nat} {i : Nat} (hi : i ≤ rs.length) : i ≤ skipR rs i ∧ skipR rs i ≤ rs.length := ⟨by unfold skipR; omega, spanI_le hi⟩
theorem lexF_step {f : Nat} {rs : List Nat} {i m : Nat} {acc : List Tk} {t : Tk} (h1 : skipR rs i ≠ rs.length) (h2 : nextP rs (skipR rs i) = .inl (t, m)) : lexF (f + 1) rs i acc = lexF f rs m (acc ++ [t]) := by
  rw [lexF, if_neg h1, h2]
theorem lexF_end {f : Nat} {rs : List Nat} {i : Nat} {acc : List Tk} (h1 : skipR rs i = rs.length) : lexF f rs i acc = .inl acc := by
  cases f with
  | zero => rfl
  | succ f => rw [lexF, if_pos h1]
theorem lexF_bad {f : Nat} {rs : List Nat} {i : Nat} {acc : List Tk} {e : Nat × Int} (h1 : skipR rs i ≠ rs.length) (h2 : nextP rs (skipR rs i) = .inr e) : lexF (f + 1) rs i acc = .inr e := by
  rw [lexF, if_neg h1, h2]
end Go.Proofs.YtenonfoocjcdmaaDoor
