/- Plain Lean on UTF-8 texts: a text's runes, their starts, classes, quoting. No program in sight. Plain Lean on texts: classes of runes, checks, cuts, quoting and unquoting. No program in sight. Plain Lean on texts: where runes begin, cuts, unquoting against the reference. No program in sight. Plain Lean on times as texts: what is written. Plain Lean on times as texts: what is read. -/
import Derived.Lib.MapLaws
import Derived.Lib.RuneBytes
import Derived.Test.YtmkmmggimokagaaGreatDoorK1
import Derived.Lib.ItoaNum
import Derived.Lib.Atoi
namespace Go.Proofs.YtmkmmggimokagaaGreatDoor
set_option linter.unusedVariables false
open Go.Lib
/-- the first rune's number and width -/
def dec (l : List UInt8) : Nat × Nat := decodeL l
theorem dec_pos (l : List UInt8) : 1 ≤ (dec l).2 := by
  unfold dec; rw [decodeL_N]
  rcases decodeN_shape l.length (l.getD 0 0).toNat (l.getD 1 0).toNat (l.getD 2 0).toNat (l.getD 3 0).toNat with ⟨_, e⟩ | ⟨_, _, _, _, e⟩ | ⟨_, _, _, _, _, _, e⟩ | ⟨_, _, _, _, _, _, _, e⟩ | e <;> rw [e] <;> simp
theorem dec_le (l : List UInt8) (h : l ≠ []) : (dec l).2 ≤ l.length := decodeL_le l h
theorem dec_max (l : List UInt8) : (dec l).1 ≤ 1114111 := by
  have k0 := (l.getD 0 0).toNat_lt
  have k1 := (l.getD 1 0).toNat_lt
  have k2 := (l.getD 2 0).toNat_lt
  have k3 := (l.getD 3 0).toNat_lt
  unfold dec; rw [decodeL_N]
  rcases decodeN_shape l.length (l.getD 0 0).toNat (l.getD 1 0).toNat (l.getD 2 0).toNat (l.getD 3 0).toNat with ⟨_, e⟩ | ⟨_, _, _, _, e⟩ | ⟨_, _, _, _, _, _, e⟩ | ⟨_, _, _, _, _, _, _, e⟩ | e <;> rw [e] <;> simp only <;> omega
def runesF : Nat → List UInt8 → List Nat
  | 0, _ => []
  | _ + 1, [] => []
  | f + 1, b :: t => (dec (b :: t)).1 :: runesF f ((b :: t).drop (dec (b :: t)).2)
/-- the runes of a text, as 'range' gives them -/
def runes (l : List UInt8) : List Nat := runesF l.length l
theorem runesF_any : ∀ (f g : Nat) (l : List UInt8), l.length ≤ f → l.length ≤ g → runesF f l = runesF g l
  | 0, g, l, h, _ => by
    have : l = [] := List.eq_nil_of_length_eq_zero (by omega)
    subst this; cases g <;> rfl
  | f + 1, 0, l, _, h => by
    have : l = [] := List.eq_nil_of_length_eq_zero (by omega)
    subst this; rfl
  | f + 1, g + 1, [], _, _ => rfl
  | f + 1, g + 1, b :: t, h, h' => by
    have hp := dec_pos (b :: t)
    simp only [runesF]
    rw [runesF_any f g _ (by simp at h ⊢; omega) (by simp at h' ⊢; omega)]
theorem runes_nil : runes [] = [] := rfl
theorem runes_step {l : List UInt8} (h : l ≠ []) : runes l = (dec l).1 :: runes (l.drop (dec l).2) := by
  match l, h with
  | b :: t, _ =>
    have hp := dec_pos (b :: t)
    show (dec (b :: t)).1 :: runesF t.length _ = _
    rw [runesF_any t.length ((b :: t).drop (dec (b :: t)).2).length _ (by simp; omega) (Nat.le_refl _)]
    rfl
theorem runes_len_le (l : List UInt8) : (runes l).length ≤ l.length := by
  have h : ∀ f (l : List UInt8), l.length ≤ f → (runesF f l).length ≤ l.length := by
    intro f
    induction f with
    | zero => intro l h; simp [runesF]
    | succ f ih =>
      intro l h
      match l with
      | [] => simp [runesF]
      | b :: t =>
        have hp := dec_pos (b :: t)
        have := ih ((b :: t).drop (dec (b :: t)).2) (by simp at h ⊢; omega)
        simp only [runesF, List.length_cons] at this ⊢
        simp at this ⊢
        omega
  exact h _ l (Nat.le_refl _)
theorem runes_max {l : List UInt8} {r : Nat} (h : r ∈ runes l) : r ≤ 1114111 := by
  have key : ∀ f (l : List UInt8), ∀ r ∈ runesF f l, r ≤ 1114111 := by
    intro f
    induction f with
    | zero => intro l r h; simp [runesF] at h
    | succ f ih =>
      intro l r h
      match l with
      | [] => simp [runesF] at h
      | b :: t =>
        simp only [runesF, List.mem_cons] at h
        rcases h with rfl | h
        · exact dec_max _
        · exact ih _ _ h
  exact key _ l r h
/-- decoding with less behind it: an error stays one -/
theorem decodeN_less (n n' b0 b1 b2 b3 c1 c2 c3 : Nat) (hn : n' ≤ n) (e1 : 1 < n' → c1 = b1) (e2 : 2 < n' → c2 = b2) (e3 : 3 < n' → c3 = b3)
    (h : decodeN n b0 b1 b2 b3 = (65533, 1)) : decodeN n' b0 c1 c2 c3 = (65533, 1) := by
  rcases decodeN_shape n' b0 c1 c2 c3 with ⟨a, e⟩ | ⟨a1, a2, a3, a4, e⟩ | ⟨a1, a2, a3, a4, a5, a6, e⟩ | ⟨a1, a2, a3, a4, a5, a6, a7, e⟩ | e
  · rw [decodeN_ascii _ _ _ _ _ a] at h; rw [e]; exact h
  · exfalso
    have E1 := e1 (by omega); subst E1
    unfold decodeN at h
    rw [if_neg (by omega), if_pos (by omega), if_pos (by omega)] at h
    simp at h
  · exfalso
    have E1 := e1 (by omega); subst E1
    have E2 := e2 (by omega); subst E2
    unfold decodeN at h
    rw [if_neg (by omega), if_neg (by omega), if_pos (by omega), if_pos (by omega)] at h
    simp at h
  · exfalso
    have E1 := e1 (by omega); subst E1
    have E2 := e2 (by omega); subst E2
    have E3 := e3 (by omega); subst E3
    unfold decodeN at h
    rw [if_neg (by omega), if_neg (by omega), if_neg (by omega), if_pos (by omega), if_pos (by omega)] at h
    simp at h
  · exact e
theorem dec_take {l : List UInt8} {m : Nat} (h : (dec l).2 ≤ m) : dec (l.take m) = dec l := by
  have hm : 1 ≤ m := Nat.le_trans (dec_pos l) h
  unfold dec at h ⊢
  rw [decodeL_N] at h
  rw [decodeL_N, decodeL_N]
  have g0 : (l.take m).getD 0 0 = l.getD 0 0 := getD_takeU l m 0 hm
  have g1 : 1 < m → (l.take m).getD 1 0 = l.getD 1 0 := getD_takeU l m 1
  have g2 : 2 < m → (l.take m).getD 2 0 = l.getD 2 0 := getD_takeU l m 2
  have g3 : 3 < m → (l.take m).getD 3 0 = l.getD 3 0 := getD_takeU l m 3
  have hl : (l.take m).length = min m l.length := List.length_take
  rw [g0, hl]
  rcases decodeN_shape l.length (l.getD 0 0).toNat (l.getD 1 0).toNat (l.getD 2 0).toNat (l.getD 3 0).toNat with ⟨a, e⟩ | ⟨a1, a2, a3, a4, e⟩ | ⟨a1, a2, a3, a4, a5, a6, e⟩ | ⟨a1, a2, a3, a4, a5, a6, a7, e⟩ | e
  · rw [e, decodeN_ascii _ _ _ _ _ a]
  · rw [e] at h ⊢; simp only at h
    rw [g1 (by omega)]
    unfold decodeN
    rw [if_neg (by omega), if_pos (by omega), if_pos (by omega)]
  · rw [e] at h ⊢; simp only at h
    rw [g1 (by omega), g2 (by omega)]
    unfold decodeN
    rw [if_neg (by omega), if_neg (by omega), if_pos (by omega), if_pos (by omega)]
  · rw [e] at h ⊢; simp only at h
    rw [g1 (by omega), g2 (by omega), g3 (by omega)]
    unfold decodeN
    rw [if_neg (by omega), if_neg (by omega), if_neg (by omega), if_pos (by omega), if_pos (by omega)]
  · rw [e]
    refine decodeN_less l.length _ _ _ _ _ _ _ _ (by omega) (fun h => ?_) (fun h => ?_) (fun h => ?_) e
    · rw [g1 (by omega)]
    · rw [g2 (by omega)]
    · rw [g3 (by omega)]
/-- a rune that has an encoding of its own -/
def validR (r : Nat) : Prop := r < 55296 ∨ (57344 ≤ r ∧ r ≤ 1114111)
theorem dec_valid (l : List UInt8) : validR (dec l).1 := by
  have k0 := (l.getD 0 0).toNat_lt
  have k1 := (l.getD 1 0).toNat_lt
  have k2 := (l.getD 2 0).toNat_lt
  have k3 := (l.getD 3 0).toNat_lt
  unfold dec validR; rw [decodeL_N]
  rcases decodeN_shape l.length (l.getD 0 0).toNat (l.getD 1 0).toNat (l.getD 2 0).toNat (l.getD 3 0).toNat with ⟨_, e⟩ | ⟨_, _, _, _, e⟩ | ⟨_, _, _, _, _, _, e⟩ | ⟨_, _, _, _, _, _, _, e⟩ | e <;> rw [e] <;> simp only <;> omega
/-- a rune's bytes -/
def enc (r : Nat) : List UInt8 := encodeRune (r : Int)
theorem toU8 (x : Int) (h0 : 0 ≤ x) (h1 : x < 256) : (x.toNat.toUInt8).toNat = x.toNat := by
  rw [Nat.toUInt8]; simp; omega
theorem enc_one {r : Nat} (h : r < 128) : enc r = [UInt8.ofNat r] := by
  unfold enc encodeRune; rw [encodeRuneZ_one (by omega) (by omega)]; simp
theorem dec_enc {r : Nat} (h : validR r) (t : List UInt8) : dec (enc r ++ t) = (r, (enc r).length) := by
  unfold validR at h
  unfold dec enc encodeRune
  rw [decodeL_N]
  by_cases h1 : r ≤ 127
  · rw [encodeRuneZ_one (by omega) (by omega)]
    have e0 := toU8 (r : Int) (by omega) (by omega)
    simp only [List.map_cons, List.map_nil, List.cons_append, List.nil_append, List.getD_cons_zero, List.length_cons, List.length_nil]
    rw [e0, decodeN_ascii _ _ _ _ _ (by omega)]; simp
  by_cases h2 : r ≤ 2047
  · rw [encodeRuneZ_two (by omega) (by omega)]
    have e0 := toU8 (192 + (r : Int) / 64) (by omega) (by omega)
    have e1 := toU8 (128 + (r : Int) % 64) (by omega) (by omega)
    simp only [List.map_cons, List.map_nil, List.cons_append, List.nil_append, List.getD_cons_zero, List.getD_cons_succ, List.length_cons, List.length_nil]
    rw [e0, e1]
    unfold decodeN
    rw [if_neg (by omega), if_pos (by omega), if_pos (by omega)]
    congr 1; omega
  by_cases h3 : r ≤ 65535
  · rw [encodeRuneZ_three (by omega)]
    have e0 := toU8 (224 + (r : Int) / 4096) (by omega) (by omega)
    have e1 := toU8 (128 + (r : Int) / 64 % 64) (by omega) (by omega)
    have e2 := toU8 (128 + (r : Int) % 64) (by omega) (by omega)
    simp only [List.map_cons, List.map_nil, List.cons_append, List.nil_append, List.getD_cons_zero, List.getD_cons_succ, List.length_cons, List.length_nil]
    rw [e0, e1, e2]
    unfold decodeN
    rw [if_neg (by omega), if_neg (by omega), if_pos (by omega), if_pos (by omega)]
    congr 1; omega
  · rw [encodeRuneZ_four (by omega) (by omega)]
    have e0 := toU8 (240 + (r : Int) / 262144) (by omega) (by omega)
    have e1 := toU8 (128 + (r : Int) / 4096 % 64) (by omega) (by omega)
    have e2 := toU8 (128 + (r : Int) / 64 % 64) (by omega) (by omega)
    have e3 := toU8 (128 + (r : Int) % 64) (by omega) (by omega)
    simp only [List.map_cons, List.map_nil, List.cons_append, List.nil_append, List.getD_cons_zero, List.getD_cons_succ, List.length_cons, List.length_nil]
    rw [e0, e1, e2, e3]
    unfold decodeN
    rw [if_neg (by omega), if_neg (by omega), if_neg (by omega), if_pos (by omega), if_pos (by omega)]
    congr 1; omega
theorem enc_ne (r : Nat) : enc r ≠ [] := by
  have := (runeCells_le (r : Int)).1
  rw [runeCells_length] at this
  unfold enc; intro h; rw [h] at this; simp at this
theorem enc_dec {l : List UInt8} (h : l ≠ []) (hr : (dec l).1 ≠ 65533) : l.take (dec l).2 = enc (dec l).1 := (encode_decode l h (fun hh => hr hh.1)).symm
theorem runes_enc {r : Nat} (h : validR r) (t : List UInt8) : runes (enc r ++ t) = r :: runes t := by
  rw [runes_step (by have := enc_ne r; simp [this]), dec_enc h]
  simp
/-- bytes of a rune beyond ASCII are beyond ASCII -/
theorem enc_high {r : Nat} (h : 128 ≤ r) : ∀ b ∈ enc r, 128 ≤ b.toNat := by
  intro b hb
  unfold enc encodeRune at hb
  simp only [List.mem_map] at hb
  obtain ⟨x, hx, rfl⟩ := hb
  have hby := encodeRuneZ_byte (r : Int) x hx
  rw [toU8 x hby.1 hby.2]
  unfold encodeRuneZ at hx
  rw [if_neg (by omega)] at hx
  split at hx
  · simp at hx; omega
  split at hx
  · simp at hx; omega
  split at hx
  · simp at hx; omega
  · simp at hx; omega
end Go.Proofs.YtmkmmggimokagaaGreatDoor
namespace Go.Proofs.YtmkmmggimokagaaGreatDoor
set_option linter.unusedVariables false
open Go.Lib
/-- a rune's class: 0 bad, 1 blank, 2 letter, 3 digit, 4 sign -/
def classV (r : Int) : Int :=
  if r = 9 ∨ r = 32 then 1
  else if r < 32 ∨ (127 ≤ r ∧ r ≤ 160) ∨ (55296 ≤ r ∧ r ≤ 57343) ∨ r = 65533 ∨ 1114111 < r then 0
  else if 48 ≤ r ∧ r ≤ 57 then 3
  else if (97 ≤ r ∧ r ≤ 122) ∨ (65 ≤ r ∧ r ≤ 90) ∨ 160 < r then 2
  else 4
def badR (r : Nat) : Bool := classV r == 0
theorem badR_iff (r : Nat) : badR r = true ↔ (r ≠ 9 ∧ r ≠ 32 ∧ (r < 32 ∨ (127 ≤ r ∧ r ≤ 160) ∨ (55296 ≤ r ∧ r ≤ 57343) ∨ r = 65533 ∨ 1114111 < r)) := by
  unfold badR classV
  simp only [beq_iff_eq]
  repeat' split
  all_goals first | (constructor <;> intro h <;> first | (exfalso; omega) | omega) | omega
theorem good_valid {r : Nat} (h : badR r = false) : validR r ∧ r ≠ 65533 := by
  have := badR_iff r
  rw [h] at this
  simp only [Bool.false_eq_true, false_iff] at this
  unfold validR
  omega
/-- no bad rune -/
def okL (l : List UInt8) : Bool := (runes l).all (fun r => !badR r)
/-- how many runes stand ahead of the first bad one -/
def checkN (l : List UInt8) : Nat := ((runes l).takeWhile (fun r => !badR r)).length
def checkE (l : List UInt8) : Int := if okL l then 0 else 40
theorem checkN_ok {l : List UInt8} (h : okL l = true) : checkN l = (runes l).length := by
  unfold checkN
  have h2 : ∀ r ∈ runes l, (!badR r) = true := by simpa [okL, List.all_eq_true] using h
  have h3 := List.takeWhile_append_of_pos (l₂ := []) h2
  simp only [List.append_nil, List.takeWhile_nil] at h3
  rw [h3]
theorem checkE_ok {l : List UInt8} (h : okL l = true) : checkE l = 0 := by simp [checkE, h]
theorem checkE_bad {l : List UInt8} (h : okL l = false) : checkE l = 40 := by simp [checkE, h]
theorem check_split {l : List UInt8} {a b : List Nat} {r : Nat} (h : runes l = a ++ r :: b) (ha : a.all (fun r => !badR r) = true) (hr : badR r = true) : okL l = false ∧ checkN l = a.length := by
  unfold okL checkN
  rw [h]
  refine ⟨by simp [hr], ?_⟩
  rw [List.takeWhile_append_of_pos (by simpa [List.all_eq_true] using ha)]
  simp [hr]
theorem checkN_lt {l : List UInt8} (h : okL l = false) : checkN l < (runes l).length := by
  unfold okL at h
  unfold checkN
  generalize runes l = rs at *
  induction rs with
  | nil => simp at h
  | cons r t ih =>
    simp only [List.all_cons, Bool.and_eq_false_iff] at h
    rw [List.takeWhile_cons]
    by_cases hb : badR r = true
    · simp [hb]
    · simp only [hb, Bool.not_false, if_true, List.length_cons]
      have := ih (by rcases h with h | h
                     · simp at h; simp [h] at hb
                     · exact h)
      simp at hb
      simp; omega
/-- a good text is what its runes encode to -/
theorem ok_enc : ∀ {l : List UInt8}, okL l = true → l = (runes l).flatMap enc := by
  have key : ∀ (n : Nat) (l : List UInt8), l.length ≤ n → okL l = true → l = (runes l).flatMap enc := by
    intro n
    induction n with
    | zero =>
      intro l h _
      have : l = [] := List.eq_nil_of_length_eq_zero (by omega)
      subst this; rfl
    | succ n ih =>
      intro l h hok
      by_cases hl : l = []
      · subst hl; rfl
      · have hs := runes_step hl
        have hp := dec_pos l
        have h2 : badR (dec l).1 = false ∧ okL (l.drop (dec l).2) = true := by
          unfold okL at hok ⊢
          rw [hs] at hok
          simpa using hok
        have h3 := ih (l.drop (dec l).2) (by simp; omega) h2.2
        rw [hs, List.flatMap_cons, ← enc_dec hl (good_valid h2.1).2, ← h3, List.take_append_drop]
  exact fun {l} h => key l.length l (Nat.le_refl _) h
theorem runes_flat {rs : List Nat} (h : ∀ r ∈ rs, badR r = false) : runes (rs.flatMap enc) = rs := by
  induction rs with
  | nil => rfl
  | cons r t ih =>
    rw [List.flatMap_cons, runes_enc (good_valid (h r (by simp))).1, ih (fun x hx => h x (by simp [hx]))]
theorem ok_flat {rs : List Nat} (h : ∀ r ∈ rs, badR r = false) : okL (rs.flatMap enc) = true := by
  unfold okL; rw [runes_flat h, List.all_eq_true]; intro r hr; simp [h r hr]
theorem ok_mem {l : List UInt8} (h : okL l = true) : ∀ r ∈ runes l, badR r = false := by
  unfold okL at h; rw [List.all_eq_true] at h
  intro r hr; simpa using h r hr
/-- quoting, byte by byte -/
def esc (l : List UInt8) : List UInt8 := l.flatMap fun b => if b = 34 ∨ b = 92 then [92, b] else [b]
/-- quoting, rune by rune -/
def escR (rs : List Nat) : List UInt8 := rs.flatMap fun r => (if r = 34 ∨ r = 92 then [92] else []) ++ enc r
theorem esc_append (a b : List UInt8) : esc (a ++ b) = esc a ++ esc b := by simp [esc]
theorem escR_append (a b : List Nat) : escR (a ++ b) = escR a ++ escR b := by simp [escR]
theorem esc_high {l : List UInt8} (h : ∀ b ∈ l, 128 ≤ b.toNat) : esc l = l := by
  induction l with
  | nil => rfl
  | cons b t ih =>
    have hb := h b (by simp)
    have h1 : ¬ (b = 34 ∨ b = 92) := by
      rintro (rfl | rfl) <;> simp at hb
    show (if b = 34 ∨ b = 92 then [92, b] else [b]) ++ esc t = _
    rw [if_neg h1, ih (fun x hx => h x (by simp [hx]))]
    rfl
theorem ofNat_eq_iff {r k : Nat} (h : r < 128) (hk : k < 128) : UInt8.ofNat r = UInt8.ofNat k ↔ r = k := by
  constructor
  · intro e
    have := congrArg UInt8.toNat e
    simp at this; omega
  · rintro rfl; rfl
theorem esc_enc (r : Nat) : esc (enc r) = (if r = 34 ∨ r = 92 then [92] else []) ++ enc r := by
  by_cases h : r < 128
  · rw [enc_one h]
    have h1 := ofNat_eq_iff h (by omega : 34 < 128)
    have h2 := ofNat_eq_iff h (by omega : 92 < 128)
    show (if UInt8.ofNat r = UInt8.ofNat 34 ∨ UInt8.ofNat r = UInt8.ofNat 92 then [92, UInt8.ofNat r] else [UInt8.ofNat r]) ++ [] = _
    by_cases hc : r = 34 ∨ r = 92
    · rw [if_pos hc, if_pos (by rw [h1, h2]; exact hc)]; simp
    · rw [if_neg hc, if_neg (by rw [h1, h2]; exact hc)]; simp
  · rw [esc_high (enc_high (by omega)), if_neg (by omega)]; rfl
theorem esc_flat (rs : List Nat) : esc (rs.flatMap enc) = escR rs := by
  induction rs with
  | nil => rfl
  | cons r t ih => rw [List.flatMap_cons, esc_append, esc_enc, ih]; rfl
theorem esc_ok {l : List UInt8} (h : okL l = true) : esc l = escR (runes l) := by
  have := ok_enc h
  rw [← esc_flat, ← this]
/-- unquoting, rune by rune; true: a sign was held -/
def unqR : Bool → List Nat → Option (List UInt8)
  | h, [] => if h then none else some []
  | true, r :: t => if r = 34 ∨ r = 92 then (unqR false t).map (enc r ++ ·) else none
  | false, r :: t => if r = 34 then none else if r = 92 then unqR true t else (unqR false t).map (enc r ++ ·)
theorem unqR_some : ∀ {rs : List Nat} {u : List UInt8}, unqR false rs = some u → ∃ qs : List Nat, u = qs.flatMap enc ∧ rs.flatMap enc = escR qs ∧ ∀ q ∈ qs, q ∈ rs
  | [], u, h => by
    simp [unqR] at h; subst h; exact ⟨[], rfl, rfl, by simp⟩
  | [r], u, h => by
    simp only [unqR] at h
    split at h
    · cases h
    split at h
    · simp at h
    · simp at h; subst h
      rename_i h1 h2
      exact ⟨[r], by simp, by simp [escR, h1, h2], by simp⟩
  | r :: s :: t, u, h => by
    rw [unqR] at h
    split at h
    · cases h
    rename_i h1
    split at h
    · rename_i h2
      rw [unqR] at h
      split at h
      · rename_i h3
        simp only [Option.map_eq_some_iff] at h
        obtain ⟨u', hu, rfl⟩ := h
        obtain ⟨qs, e1, e2, e3⟩ := unqR_some hu
        refine ⟨s :: qs, by rw [e1]; rfl, ?_, by intro q hq; simp at hq ⊢; rcases hq with rfl | hq; exact .inr (.inl rfl); exact .inr (.inr (e3 q hq))⟩
        rw [List.flatMap_cons, List.flatMap_cons, e2]
        show _ = ((if s = 34 ∨ s = 92 then [92] else []) ++ enc s) ++ escR qs
        rw [if_pos h3, h2, enc_one (by omega)]
        simp
      · cases h
    · rename_i h2
      simp only [Option.map_eq_some_iff] at h
      obtain ⟨u', hu, rfl⟩ := h
      obtain ⟨qs, e1, e2, e3⟩ := unqR_some hu
      refine ⟨r :: qs, by rw [e1]; rfl, ?_, by intro q hq; simp only [List.mem_cons] at hq ⊢; rcases hq with rfl | hq; exact .inl rfl; exact .inr (by simpa using e3 q hq)⟩
      rw [List.flatMap_cons, e2]
      show _ = ((if r = 34 ∨ r = 92 then [92] else []) ++ enc r) ++ escR qs
      rw [if_neg (by omega)]; rfl
/-- rune lists of quoted runes -/
def quoteRs (qs : List Nat) : List Nat := qs.flatMap fun r => if r = 34 ∨ r = 92 then [92, r] else [r]
theorem quoteRs_enc (qs : List Nat) : (quoteRs qs).flatMap enc = escR qs := by
  induction qs with
  | nil => rfl
  | cons r t ih =>
    show ((if r = 34 ∨ r = 92 then [92, r] else [r]) ++ quoteRs t).flatMap enc = ((if r = 34 ∨ r = 92 then [92] else []) ++ enc r) ++ escR t
    rw [List.flatMap_append, ih]
    split
    · simp [enc_one (show 92 < 128 by omega)]
    · simp
theorem unqR_quote (qs : List Nat) : unqR false (quoteRs qs) = some (qs.flatMap enc) := by
  induction qs with
  | nil => rfl
  | cons r t ih =>
    show unqR false ((if r = 34 ∨ r = 92 then [92, r] else [r]) ++ quoteRs t) = _
    split
    · rename_i h
      simp only [List.cons_append, List.nil_append]
      rw [unqR, if_neg (by omega), if_pos rfl, unqR, if_pos h, ih]
      simp
    · rename_i h
      simp only [List.cons_append, List.nil_append]
      rw [unqR, if_neg (by omega), if_neg (by omega), ih]
      simp
theorem quoteRs_good {qs : List Nat} (h : ∀ q ∈ qs, badR q = false) : ∀ q ∈ quoteRs qs, badR q = false := by
  intro q hq
  simp only [quoteRs, List.mem_flatMap] at hq
  obtain ⟨r, hr, hq⟩ := hq
  split at hq
  · simp at hq
    rcases hq with rfl | rfl
    · decide
    · exact h _ hr
  · simp at hq; subst hq; exact h _ hr
end Go.Proofs.YtmkmmggimokagaaGreatDoor
namespace Go.Proofs.YtmkmmggimokagaaGreatDoor
set_option linter.unusedVariables false
open Go.Lib
/-- where rune number k begins -/
def posN : Nat → List UInt8 → Nat
  | 0, _ => 0
  | k + 1, l => if l = [] then 0 else (dec l).2 + posN k (l.drop (dec l).2)
theorem pos_facts : ∀ (k : Nat) (l : List UInt8), k ≤ (runes l).length →
    posN k l ≤ l.length ∧ runes (l.take (posN k l)) = (runes l).take k ∧ runes (l.drop (posN k l)) = (runes l).drop k
  | 0, l, _ => by simp [posN, runes_nil]
  | k + 1, l, h => by
    by_cases hl : l = []
    · subst hl; simp [runes_nil] at h
    · have hs := runes_step hl
      have hw := dec_le l hl
      have hp := dec_pos l
      rw [hs] at h
      obtain ⟨h1, h2, h3⟩ := pos_facts k (l.drop (dec l).2) (by simpa using h)
      simp only [posN, if_neg hl]
      simp only [List.length_drop] at h1
      refine ⟨by omega, ?_, ?_⟩
      · have hne : l.take ((dec l).2 + posN k (l.drop (dec l).2)) ≠ [] := by
          intro h0
          have := congrArg List.length h0
          simp only [List.length_take, List.length_nil] at this
          have : 0 < l.length := List.length_pos_iff.2 hl
          omega
        rw [runes_step hne, dec_take (by omega), List.drop_take, Nat.add_sub_cancel_left, h2, hs]
        rfl
      · rw [← List.drop_drop, h3, hs]; rfl
theorem pos_le (k : Nat) {l : List UInt8} (h : k ≤ (runes l).length) : posN k l ≤ l.length := (pos_facts k l h).1
theorem pos_lt_iff (k : Nat) {l : List UInt8} (h : k ≤ (runes l).length) : posN k l < l.length ↔ k < (runes l).length := by
  obtain ⟨h1, h2, h3⟩ := pos_facts k l h
  constructor
  · intro hp
    have hne : l.drop (posN k l) ≠ [] := by intro h0; have := congrArg List.length h0; simp at this; omega
    rw [runes_step hne] at h3
    have := congrArg List.length h3
    simp at this; omega
  · intro hk
    rcases Nat.lt_or_ge (posN k l) l.length with h4 | h4
    · exact h4
    · rw [List.drop_eq_nil_of_le h4, runes_nil] at h3
      have := congrArg List.length h3
      simp at this; omega
theorem pos_succ : ∀ (k : Nat) {l : List UInt8}, k < (runes l).length → posN (k + 1) l = posN k l + (dec (l.drop (posN k l))).2
  | 0, l, h => by
    have hl : l ≠ [] := by rintro rfl; simp [runes_nil] at h
    simp [posN, hl]
  | k + 1, l, h => by
    have hl : l ≠ [] := by rintro rfl; simp [runes_nil] at h
    rw [runes_step hl] at h
    have ih := pos_succ k (l := l.drop (dec l).2) (by simpa using h)
    rw [posN, if_neg hl, ih]
    rw [show posN (k + 1) l = (dec l).2 + posN k (l.drop (dec l).2) by rw [posN, if_neg hl]]
    rw [← List.drop_drop]; omega
theorem pos_rune (k : Nat) {l : List UInt8} (h : k < (runes l).length) : (runes l)[k]? = some (dec (l.drop (posN k l))).1 := by
  obtain ⟨h1, h2, h3⟩ := pos_facts k l (by omega)
  have hlt := (pos_lt_iff k (by omega)).2 h
  have hne : l.drop (posN k l) ≠ [] := by intro h0; have := congrArg List.length h0; simp at this; omega
  rw [runes_step hne] at h3
  have := congrArg (fun x => x[0]?) h3
  simpa using this.symm
theorem pos_end {k : Nat} {l : List UInt8} (h : k = (runes l).length) : posN k l = l.length := by
  subst h
  have h1 := pos_le (runes l).length (l := l) (Nat.le_refl _)
  have h2 := pos_lt_iff (runes l).length (l := l) (Nat.le_refl _)
  omega
/-- what stands between the first and the last byte -/
def inner (l : List UInt8) : List UInt8 := (l.drop 1).take (l.length - 2)
/-- the text of a quoted one -/
def unqV (l : List UInt8) : Option (List UInt8) := if okL l = true ∧ 2 ≤ l.length ∧ l.head? = some 34 ∧ l.getLast? = some 34 then unqR false (runes (inner l)) else none
def quoteL (l : List UInt8) : List UInt8 := 34 :: (esc l ++ [34])
theorem inner_quote (m : List UInt8) : inner (34 :: (m ++ [34])) = m := by simp [inner]
theorem enc_head {r : Nat} {t : List UInt8} {b : Nat} (hb : b < 128) (h : (enc r ++ t).head? = some (UInt8.ofNat b)) : r = b := by
  by_cases hr : r < 128
  · rw [enc_one hr] at h; simp at h
    exact (ofNat_eq_iff hr hb).1 h
  · have h1 := enc_high (r := r) (by omega)
    have hne := enc_ne r
    match he : enc r, hne with
    | x :: y, _ =>
      rw [he] at h h1; simp at h
      have := h1 x (by simp)
      rw [h] at this; simp at this; omega
theorem enc_last {r : Nat} {t : List UInt8} {b : Nat} (hb : b < 128) (h : (t ++ enc r).getLast? = some (UInt8.ofNat b)) : r = b := by
  rw [List.getLast?_append] at h
  by_cases hr : r < 128
  · rw [enc_one hr] at h; simp at h
    exact (ofNat_eq_iff hr hb).1 h
  · have h1 := enc_high (r := r) (by omega)
    have hne := enc_ne r
    rw [List.getLast?_eq_some_getLast hne] at h
    simp at h
    have := h1 _ (List.getLast_mem hne)
    rw [h] at this; simp at this; omega
theorem ok_quoted {l : List UInt8} (hok : okL l = true) (h2 : 2 ≤ l.length) (hh : l.head? = some 34) (hl : l.getLast? = some 34) :
    ∃ rs : List Nat, (∀ r ∈ rs, badR r = false) ∧ inner l = rs.flatMap enc ∧ runes (inner l) = rs ∧ l = 34 :: (inner l ++ [34]) := by
  have he := ok_enc hok
  have hg := ok_mem hok
  generalize hrs : runes l = rs0 at *
  match rs0 with
  | [] => rw [he] at h2; simp at h2
  | r0 :: rs1 =>
    have e0 : r0 = 34 := enc_head (t := rs1.flatMap enc) (by omega) (by rw [he] at hh; simpa using hh)
    subst e0
    rw [List.flatMap_cons, enc_one (by omega)] at he
    have hne : rs1 ≠ [] := by rintro rfl; rw [he] at h2; simp at h2
    obtain ⟨rs2, rl, rfl⟩ : ∃ rs2 rl, rs1 = rs2 ++ [rl] := ⟨rs1.dropLast, rs1.getLast hne, (List.dropLast_concat_getLast hne).symm⟩
    have el : rl = 34 := enc_last (t := 34 :: rs2.flatMap enc) (by omega) (by rw [he] at hl; simpa using hl)
    subst el
    have hin : inner l = rs2.flatMap enc := by
      rw [he, List.flatMap_append]
      simp [inner, enc_one (show 34 < 128 by omega)]
    have hg2 : ∀ r ∈ rs2, badR r = false := fun r hr => hg r (by simp [hr])
    refine ⟨rs2, hg2, hin, by rw [hin, runes_flat hg2], ?_⟩
    rw [hin, he, List.flatMap_append]
    simp [enc_one (show 34 < 128 by omega)]
theorem unq_some {l u : List UInt8} (h : unqV l = some u) : okL u = true ∧ quoteL u = l ∧ okL l = true := by
  unfold unqV at h
  split at h
  · rename_i hc
    obtain ⟨rs, hg, hin, hrs, hl⟩ := ok_quoted hc.1 hc.2.1 hc.2.2.1 hc.2.2.2
    rw [hrs] at h
    obtain ⟨qs, e1, e2, e3⟩ := unqR_some h
    have hq : ∀ q ∈ qs, badR q = false := fun q hq => hg q (e3 q hq)
    refine ⟨by rw [e1]; exact ok_flat hq, ?_, hc.1⟩
    rw [quoteL, e1, esc_flat, ← e2, ← hin]
    exact hl.symm
  · cases h
theorem quote_rs {u : List UInt8} (hu : okL u = true) : quoteL u = (34 :: (quoteRs (runes u) ++ [34])).flatMap enc := by
  rw [quoteL, esc_ok hu, ← quoteRs_enc]
  simp [enc_one (show 34 < 128 by omega)]
theorem ok_quote {u : List UInt8} (hu : okL u = true) : okL (quoteL u) = true := by
  rw [quote_rs hu]
  apply ok_flat
  intro r hr
  simp only [List.mem_cons, List.mem_append, List.not_mem_nil, or_false] at hr
  rcases hr with rfl | hr | rfl
  · decide
  · exact quoteRs_good (ok_mem hu) _ hr
  · decide
theorem unq_quote {u : List UInt8} (hu : okL u = true) : unqV (quoteL u) = some u := by
  unfold unqV
  rw [if_pos ⟨ok_quote hu, by simp [quoteL], by simp [quoteL], by rw [quoteL, ← List.cons_append, List.getLast?_append]; simp⟩]
  have e : runes (inner (quoteL u)) = quoteRs (runes u) := by
    rw [quoteL, inner_quote, esc_ok hu, ← quoteRs_enc, runes_flat (quoteRs_good (ok_mem hu))]
  rw [e, unqR_quote, ← ok_enc hu]
/-- the reference's way: signs that hold another one are left out -/
def strip : List UInt8 → List UInt8
  | [] => []
  | [c] => [c]
  | c :: d :: t => if c = 92 then d :: strip t else c :: strip (d :: t)
theorem strip_esc (u : List UInt8) : strip (esc u) = u := by
  induction u with
  | nil => rfl
  | cons b t ih =>
    show strip ((if b = 34 ∨ b = 92 then [92, b] else [b]) ++ esc t) = _
    split
    · simp only [List.cons_append, List.nil_append]
      rw [strip, if_pos rfl, ih]
    · rename_i h
      simp only [List.cons_append, List.nil_append]
      cases he : esc t with
      | nil => rw [he] at ih; simp [strip] at ih; subst ih; simp [strip]
      | cons d r =>
        rw [strip, if_neg (fun e => h (.inr e)), ← he, ih]
def unqRef (l : List UInt8) : Option (List UInt8) := if okL (strip (inner l)) = true ∧ quoteL (strip (inner l)) = l then some (strip (inner l)) else none
theorem unqRef_eq {l : List UInt8} (hok : okL l = true) : unqRef l = unqV l := by
  cases h : unqV l with
  | some u =>
    obtain ⟨h1, h2, _⟩ := unq_some h
    have hs : strip (inner l) = u := by rw [← h2, quoteL, inner_quote, strip_esc]
    unfold unqRef
    rw [hs, if_pos ⟨h1, h2⟩]
  | none =>
    unfold unqRef
    rw [if_neg]
    rintro ⟨h1, h2⟩
    have := unq_quote h1
    rw [h2, h] at this
    cases this
/-- the numbers and texts that Unquote tells -/
def unqE (l : List UInt8) : Int := if okL l then (if (unqV l).isSome then 0 else 50) else 40
def unqT (l : List UInt8) : List UInt8 := (unqV l).getD []
theorem unq_bad {l : List UInt8} (h : okL l = false) : unqV l = none := by unfold unqV; simp [h]
/-- small letters -/
def lowB (b : UInt8) : UInt8 := if 65 ≤ b.toNat ∧ b.toNat ≤ 90 then b + 32 else b
end Go.Proofs.YtmkmmggimokagaaGreatDoor
namespace Go.Proofs.YtmkmmggimokagaaGreatDoor
set_option linter.unusedVariables false
open Go.RowKit
/-- units: ticks and signs, the greatest first -/
def tk : Nat → Nat | 0 => 86400 | 1 => 3600 | 2 => 60 | _ => 1
def sg : Nat → UInt8 | 0 => 100 | 1 => 104 | 2 => 109 | _ => 115
/-- what is left ahead of a unit -/
def rm : Nat → Nat → Nat | 0, n => n | k + 1, n => rm k n % tk k
def ct (k n : Nat) : Nat := rm k n / tk k
def pt (k n : Nat) : List UInt8 := if 0 < ct k n then Lib.decDigits (ct k n) ++ [sg k] else []
def pts : Nat → Nat → List UInt8 | 0, _ => [] | k + 1, n => pts k n ++ pt k n
def showL (n : Nat) : List UInt8 := if n = 0 then [48, 115] else pts 4 n
theorem ct_lt {n : Nat} (h : n ≤ 1000000) : ∀ k, k < 4 → ct k n < 100 := by
  intro k hk
  rcases k with _ | _ | _ | _ | k <;> simp [ct, rm, tk] <;> omega
theorem rm_le (n : Nat) : ∀ k, rm k n ≤ n
  | 0 => Nat.le_refl _
  | k + 1 => Nat.le_trans (Nat.mod_le _ _) (rm_le n k)
theorem rm4 (n : Nat) : rm 4 n = 0 := by simp [rm, tk, Nat.mod_one]
theorem pt_nil {k n : Nat} : pt k n = [] ↔ ct k n = 0 := by
  unfold pt; split
  · simp; omega
  · simp; omega
theorem pts_nil {n : Nat} : pts 4 n = [] ↔ n = 0 := by
  simp only [pts, List.append_eq_nil_iff, pt_nil, List.nil_append]
  simp only [ct, rm, tk, Nat.div_one]
  omega
theorem dd_lt {n : Nat} (h : n < 10) : Lib.decDigits n = [UInt8.ofNat (48 + n)] := by rw [Lib.decDigits, dif_pos h]
theorem dd_ge {n : Nat} (h : ¬ n < 10) : Lib.decDigits n = Lib.decDigits (n / 10) ++ [UInt8.ofNat (48 + n % 10)] := by rw [Lib.decDigits, dif_neg h]
theorem decDigits_len {n : Nat} (h : n < 100) : (Lib.decDigits n).length ≤ 2 := by
  by_cases h1 : n < 10
  · rw [dd_lt h1]; simp
  · rw [dd_ge h1, dd_lt (by omega)]; simp
theorem pt_len {n : Nat} (h : n ≤ 1000000) {k : Nat} (hk : k < 4) : (pt k n).length ≤ 3 := by
  unfold pt; split
  · have := decDigits_len (ct_lt h k hk); simp; omega
  · simp
theorem pts_len {n : Nat} (h : n ≤ 1000000) : ∀ k, k ≤ 4 → (pts k n).length ≤ 3 * k
  | 0, _ => by simp [pts]
  | k + 1, hk => by
    have h1 := pts_len h k (by omega)
    have h2 := pt_len h (k := k) (by omega)
    simp [pts]; omega
def isD (b : UInt8) : Bool := decide (48 ≤ b.toNat) && decide (b.toNat ≤ 57)
/-- how many digits a text begins with -/
def dgs (l : List UInt8) : Nat := (l.takeWhile isD).length
def valD (l : List UInt8) : Nat := l.foldl (fun a b => a * 10 + (b.toNat - 48)) 0
theorem dgs_le (l : List UInt8) : dgs l ≤ l.length := (List.takeWhile_sublist _).length_le
theorem dgs_cons (b : UInt8) (t : List UInt8) : dgs (b :: t) = if isD b then dgs t + 1 else 0 := by
  unfold dgs; rw [List.takeWhile_cons]; cases isD b <;> simp
theorem dgs_take : ∀ (l : List UInt8), l.take (dgs l) = l.takeWhile isD
  | [] => rfl
  | b :: t => by
    rw [dgs_cons, List.takeWhile_cons]
    cases h : isD b
    · simp
    · simp [dgs_take t]
theorem dgs_at : ∀ {l : List UInt8} {k : Nat} {b : UInt8}, k < dgs l → l[k]? = some b → isD b = true
  | [], k, b, h, hb => by simp at hb
  | c :: t, k, b, h, hb => by
    rw [dgs_cons] at h
    cases hc : isD c
    · rw [hc] at h; simp at h
    · rw [hc] at h
      cases k with
      | zero => simp at hb; subst hb; exact hc
      | succ k => simp at hb; exact dgs_at (by simpa using h) hb
theorem dgs_stop : ∀ {l : List UInt8} {b : UInt8}, l[dgs l]? = some b → isD b = false
  | [], b, hb => by simp at hb
  | c :: t, b, hb => by
    rw [dgs_cons] at hb
    cases hc : isD c
    · rw [hc] at hb; simp at hb; subst hb; exact hc
    · rw [hc] at hb; simp at hb; exact dgs_stop hb
theorem digitVal_of {b : UInt8} (h : isD b = true) : Lib.digitVal b = some (b.toNat - 48) := by
  unfold isD at h
  simp only [Bool.and_eq_true, decide_eq_true_eq] at h
  unfold Lib.digitVal
  first | (rw [if_pos (by simpa [UInt8.le_iff_toNat_le] using h)]) | (simp [UInt8.le_iff_toNat_le, h])
theorem decFrom_all : ∀ (l : List UInt8) (acc : Nat), (∀ b ∈ l, isD b = true) → Lib.decFrom acc l = some (l.foldl (fun a b => a * 10 + (b.toNat - 48)) acc)
  | [], acc, _ => rfl
  | b :: t, acc, h => by
    simp only [Lib.decFrom, digitVal_of (h b (by simp)), List.foldl_cons]
    exact decFrom_all t _ (fun c hc => h c (by simp [hc]))
theorem atoi_all {l : List UInt8} (h : ∀ b ∈ l, isD b = true) (hne : l ≠ []) : Lib.atoi l = some (valD l : Int) := by
  cases l with
  | nil => exact absurd rfl hne
  | cons b t =>
    have hb := h b (by simp)
    unfold isD at hb
    simp only [Bool.and_eq_true, decide_eq_true_eq] at hb
    have h1 : (b == 45) = false := by rw [beq_eq_false_iff_ne]; rintro rfl; simp at hb
    have h2 : (b == 43) = false := by rw [beq_eq_false_iff_ne]; rintro rfl; simp at hb
    simp only [Lib.atoi, h1, h2, Bool.false_eq_true, if_false, Lib.decNat, List.isEmpty_cons]
    rw [decFrom_all (b :: t) 0 h]; rfl
theorem valD_lt : ∀ {l : List UInt8}, (∀ b ∈ l, isD b = true) → ∀ acc, l.foldl (fun a b => a * 10 + (b.toNat - 48)) acc < (acc + 1) * 10 ^ l.length
  | [], _, acc => by simp
  | b :: t, h, acc => by
    have hb := h b (by simp)
    unfold isD at hb
    simp only [Bool.and_eq_true, decide_eq_true_eq] at hb
    have ih := valD_lt (l := t) (fun c hc => h c (by simp [hc])) (acc * 10 + (b.toNat - 48))
    simp only [List.foldl_cons, List.length_cons, Nat.pow_succ]
    refine Nat.lt_of_lt_of_le ih ?_
    rw [Nat.mul_comm (10 ^ t.length) 10, ← Nat.mul_assoc]
    exact Nat.mul_le_mul_right _ (by omega)
/-- the unit of a sign, from a place on -/
def findU : Nat → Nat → UInt8 → Option Nat
  | 0, _, _ => none
  | f + 1, nx, b => if nx < 4 then (if sg nx == b then some nx else findU f (nx + 1) b) else none
def badP (l : List UInt8) : Bool := decide (dgs l = 0) || decide (7 < dgs l) || (decide (1 < dgs l) && (l.head? == some 48)) || decide (dgs l = l.length)
def parseP : Nat → Nat → List UInt8 → Option Nat
  | _, _, [] => some 0
  | 0, _, _ :: _ => none
  | f + 1, nx, b :: t => if badP (b :: t) then none else match findU 4 nx ((b :: t).getD (dgs (b :: t)) 0) with
    | none => none
    | some u => (parseP f (u + 1) ((b :: t).drop (dgs (b :: t) + 1))).map (valD ((b :: t).take (dgs (b :: t))) * tk u + ·)
def hrsV (l : List UInt8) : Option Nat := if l = [] then none else parseP 5 0 l
def hrsE (l : List UInt8) : Int := match hrsV l with | none => 60 | some t => if t ≤ 1000000 then 0 else 153
def hrsN (l : List UInt8) : Int := match hrsV l with | none => 0 | some t => if t ≤ 1000000 then t else 0
theorem findU_self : ∀ {f nx u : Nat}, nx ≤ u → u < 4 → u - nx < f → findU f nx (sg u) = some u
  | 0, nx, u, _, _, h => by omega
  | f + 1, nx, u, h1, h2, h3 => by
    unfold findU
    rw [if_pos (by omega)]
    by_cases e : nx = u
    · subst e; simp
    · have hne : (sg nx == sg u) = false := by
        have hn : nx < 4 := by omega
        have : ∀ a b : Fin 4, a ≠ b → (sg a.val == sg b.val) = false := by decide
        exact this ⟨nx, hn⟩ ⟨u, h2⟩ (fun h => e (congrArg Fin.val h))
      rw [hne]
      simp only [Bool.false_eq_true, if_false]
      exact findU_self (by omega) h2 (by omega)
theorem sg_not (u : Nat) : isD (sg u) = false := by
  rcases u with _ | _ | _ | u
  · decide
  · decide
  · decide
  · show isD 115 = false
    decide
theorem dd_isD : ∀ (n : Nat), ∀ b ∈ Lib.decDigits n, isD b = true := by
  intro n
  induction n using Nat.strongRecOn with
  | _ n ih =>
    intro b hb
    by_cases h : n < 10
    · rw [dd_lt h] at hb
      rw [List.mem_singleton] at hb; subst hb
      unfold isD
      simp only [Bool.and_eq_true, decide_eq_true_eq]
      rw [UInt8.toNat_ofNat']
      omega
    · rw [dd_ge h] at hb
      rcases List.mem_append.1 hb with hb | hb
      · exact ih (n / 10) (by omega) b hb
      · rw [List.mem_singleton] at hb; subst hb
        unfold isD
        simp only [Bool.and_eq_true, decide_eq_true_eq]
        rw [UInt8.toNat_ofNat']
        omega
theorem dd_val : ∀ (n : Nat), valD (Lib.decDigits n) = n := by
  intro n
  induction n using Nat.strongRecOn with
  | _ n ih =>
    by_cases h : n < 10
    · rw [dd_lt h]
      simp only [valD, List.foldl_cons, List.foldl_nil]
      rw [UInt8.toNat_ofNat']
      omega
    · rw [dd_ge h]
      have h1 := ih (n / 10) (by omega)
      unfold valD at h1 ⊢
      rw [List.foldl_append, h1]
      simp only [List.foldl_cons, List.foldl_nil]
      rw [UInt8.toNat_ofNat']
      omega
theorem dd_ne (n : Nat) : Lib.decDigits n ≠ [] := by
  by_cases h : n < 10
  · rw [dd_lt h]; simp
  · rw [dd_ge h]; simp
theorem dd_head {n : Nat} (h : 0 < n) : (Lib.decDigits n).head? ≠ some 48 := by
  induction n using Nat.strongRecOn with
  | _ n ih =>
    by_cases h1 : n < 10
    · rw [dd_lt h1]
      simp only [List.head?_cons, ne_eq, Option.some.injEq]
      intro e
      have := congrArg UInt8.toNat e
      rw [UInt8.toNat_ofNat'] at this
      simp at this
      omega
    · rw [dd_ge h1, List.head?_append]
      have h2 := ih (n / 10) (by omega) (by omega)
      cases hd : (Lib.decDigits (n / 10)).head? with
      | none => exact absurd (List.head?_eq_none_iff.1 hd) (dd_ne _)
      | some x => rw [hd] at h2; simpa using h2
theorem dgs_app {a : List UInt8} {c : UInt8} (ha : ∀ b ∈ a, isD b = true) (hc : isD c = false) (r : List UInt8) : dgs (a ++ c :: r) = a.length := by
  induction a with
  | nil => rw [List.nil_append, dgs_cons, hc]; simp
  | cons b t ih => rw [List.cons_append, dgs_cons, ha b (by simp), ih (fun x hx => ha x (by simp [hx]))]; simp
/-- a written part is read -/
theorem parse_part {f nx u c : Nat} (hc : 0 < c) (hc2 : c < 100) (h1 : nx ≤ u) (h2 : u < 4) (r : List UInt8) :
    parseP (f + 1) nx (Lib.decDigits c ++ sg u :: r) = (parseP f (u + 1) r).map (c * tk u + ·) := by
  have hd := dgs_app (dd_isD c) (sg_not u) r
  have hlen := decDigits_len hc2
  have hne : 0 < (Lib.decDigits c).length := by
    rcases Nat.eq_zero_or_pos (Lib.decDigits c).length with h | h
    · exact absurd (List.eq_nil_of_length_eq_zero h) (dd_ne c)
    · exact h
  obtain ⟨b, t, hbt⟩ : ∃ b t, Lib.decDigits c ++ sg u :: r = b :: t := by
    cases h : Lib.decDigits c with
    | nil => exact absurd h (dd_ne c)
    | cons b t => exact ⟨b, t ++ sg u :: r, rfl⟩
  have hbad : badP (Lib.decDigits c ++ sg u :: r) = false := by
    unfold badP
    rw [hd]
    have hh : ((Lib.decDigits c ++ sg u :: r).head? == some 48) = false := by
      rw [List.head?_append]
      cases hx : (Lib.decDigits c).head? with
      | none => exact absurd (List.head?_eq_none_iff.1 hx) (dd_ne c)
      | some x =>
        have := dd_head hc
        rw [hx] at this
        simpa using this
    have hl : (Lib.decDigits c ++ sg u :: r).length = (Lib.decDigits c).length + (r.length + 1) := by simp
    rw [hh, hl, decide_eq_false (show ¬ (Lib.decDigits c).length = 0 by omega), decide_eq_false (show ¬ 7 < (Lib.decDigits c).length by omega), decide_eq_false (show ¬ (Lib.decDigits c).length = (Lib.decDigits c).length + (r.length + 1) by omega)]
    simp
  have hget : (Lib.decDigits c ++ sg u :: r).getD (Lib.decDigits c).length 0 = sg u := by simp
  have htake : (Lib.decDigits c ++ sg u :: r).take (Lib.decDigits c).length = Lib.decDigits c := by simp
  have hdrop : (Lib.decDigits c ++ sg u :: r).drop ((Lib.decDigits c).length + 1) = r := by
    rw [← List.drop_drop]; simp
  rw [hbt] at hd hbad hget htake hdrop ⊢
  conv => lhs; unfold parseP
  rw [hbad, hd, hget, htake, hdrop, findU_self h1 h2 (by omega), dd_val]
  simp
theorem parse_nil (f nx : Nat) : parseP f nx [] = some 0 := by unfold parseP; rfl
theorem parse_pt {f nx u n : Nat} (h : n ≤ 1000000) (h1 : nx ≤ u) (h2 : u < 4) (r : List UInt8) (hr : ∀ g k, 5 ≤ g + k → k ≤ u + 1 → parseP g k r = some (rm (u + 1) n)) (hf : 5 ≤ f + nx) :
    ∀ g k, 5 ≤ g + k → k ≤ u → parseP g k (pt u n ++ r) = some (rm u n) := by
  intro g k hg hk
  have e : rm u n = ct u n * tk u + rm (u + 1) n := by
    show rm u n = rm u n / tk u * tk u + rm u n % tk u
    rw [Nat.mul_comm]; exact (Nat.div_add_mod _ _).symm
  unfold pt
  by_cases hc : 0 < ct u n
  · rw [if_pos hc]
    obtain ⟨g', rfl⟩ : ∃ g', g = g' + 1 := ⟨g - 1, by omega⟩
    rw [List.append_assoc, List.singleton_append, parse_part hc (ct_lt h u h2) hk h2, hr g' (u + 1) (by omega) (Nat.le_refl _), e]
    rfl
  · rw [if_neg hc, List.nil_append, hr g k hg (by omega), e]
    have : ct u n = 0 := by omega
    rw [this]; simp
/-- A time is read as it was written. -/
theorem parse_show {n : Nat} (h : n ≤ 1000000) : hrsV (showL n) = some n := by
  unfold hrsV showL
  by_cases h0 : n = 0
  · subst h0
    rw [if_pos rfl, if_neg (by simp)]
    decide
  · rw [if_neg h0, if_neg (fun e => h0 (pts_nil.1 e))]
    have e : pts 4 n = pt 0 n ++ (pt 1 n ++ (pt 2 n ++ (pt 3 n ++ []))) := by simp [pts]
    rw [e]
    have r4 : ∀ g k, 5 ≤ g + k → k ≤ 3 + 1 → parseP g k [] = some (rm (3 + 1) n) := fun g k _ _ => by rw [parse_nil, rm4]
    have r3 := parse_pt (f := 5) (nx := 0) h (u := 3) (by omega) (by omega) [] r4 (by omega)
    have r2 := parse_pt (f := 5) (nx := 0) h (u := 2) (by omega) (by omega) _ r3 (by omega)
    have r1 := parse_pt (f := 5) (nx := 0) h (u := 1) (by omega) (by omega) _ r2 (by omega)
    have r0 := parse_pt (f := 5) (nx := 0) h (u := 0) (by omega) (by omega) _ r1 (by omega)
    exact r0 5 0 (by omega) (by omega)
theorem findU_some : ∀ {f nx u : Nat} {b : UInt8}, findU f nx b = some u → nx ≤ u ∧ u < 4 ∧ (sg u == b) = true
  | 0, _, _, _, h => by simp [findU] at h
  | f + 1, nx, u, b, h => by
    unfold findU at h
    by_cases h1 : nx < 4
    · rw [if_pos h1] at h
      by_cases h2 : (sg nx == b) = true
      · rw [if_pos h2] at h
        obtain rfl := Option.some.inj h
        exact ⟨Nat.le_refl _, h1, h2⟩
      · rw [if_neg h2] at h
        obtain ⟨h3, h4⟩ := findU_some h
        exact ⟨by omega, h4⟩
    · rw [if_neg h1] at h; cases h
theorem parse_fuel : ∀ (f : Nat) {g nx : Nat} (l : List UInt8), 5 ≤ f + nx → 5 ≤ g + nx → parseP f nx l = parseP g nx l
  | f, g, nx, [], _, _ => by rw [parse_nil, parse_nil]
  | 0, g, nx, b :: t, hf, hg => by
    have e1 : parseP 0 nx (b :: t) = none := by unfold parseP; rfl
    rw [e1]
    cases g with
    | zero => exact e1.symm
    | succ g =>
      unfold parseP
      have : findU 4 nx ((b :: t).getD (dgs (b :: t)) 0) = none := by
        cases h : findU 4 nx ((b :: t).getD (dgs (b :: t)) 0) with
        | none => rfl
        | some u => have := findU_some h; omega
      rw [this]; simp
  | f + 1, 0, nx, b :: t, hf, hg => by
    have e1 : parseP 0 nx (b :: t) = none := by unfold parseP; rfl
    rw [e1]
    unfold parseP
    have : findU 4 nx ((b :: t).getD (dgs (b :: t)) 0) = none := by
      cases h : findU 4 nx ((b :: t).getD (dgs (b :: t)) 0) with
      | none => rfl
      | some u => have := findU_some h; omega
    rw [this]; simp
  | f + 1, g + 1, nx, b :: t, hf, hg => by
    unfold parseP
    cases h : findU 4 nx ((b :: t).getD (dgs (b :: t)) 0) with
    | none => rfl
    | some u =>
      have hu := findU_some h
      simp only
      rw [parse_fuel f (g := g) (nx := u + 1) _ (by omega) (by omega)]
/-- what is read from a unit on -/
def parseQ (nx : Nat) (l : List UInt8) : Option Nat := parseP (5 - nx) nx l
theorem parseQ_bad {nx : Nat} {l : List UInt8} (hn : nx ≤ 4) (hne : l ≠ []) (h : badP l = true) : parseQ nx l = none := by
  cases l with
  | nil => exact absurd rfl hne
  | cons b t =>
    unfold parseQ
    obtain ⟨f, hf⟩ : ∃ f, 5 - nx = f + 1 := ⟨4 - nx, by omega⟩
    rw [hf]; unfold parseP; rw [h]; rfl
theorem parseQ_no {nx : Nat} {l : List UInt8} (hn : nx ≤ 4) (hne : l ≠ []) (h : findU 4 nx (l.getD (dgs l) 0) = none) : parseQ nx l = none := by
  cases l with
  | nil => exact absurd rfl hne
  | cons b t =>
    unfold parseQ
    obtain ⟨f, hf⟩ : ∃ f, 5 - nx = f + 1 := ⟨4 - nx, by omega⟩
    rw [hf]; unfold parseP; rw [h]; simp
theorem parseQ_yes {nx u : Nat} {l : List UInt8} (hn : nx ≤ 4) (hne : l ≠ []) (hb : badP l = false) (h : findU 4 nx (l.getD (dgs l) 0) = some u) :
    parseQ nx l = (parseQ (u + 1) (l.drop (dgs l + 1))).map (valD (l.take (dgs l)) * tk u + ·) := by
  cases l with
  | nil => exact absurd rfl hne
  | cons b t =>
    have hu := findU_some h
    unfold parseQ
    obtain ⟨f, hf⟩ : ∃ f, 5 - nx = f + 1 := ⟨4 - nx, by omega⟩
    rw [hf]
    conv => lhs; unfold parseP
    rw [hb, h]
    simp only [Bool.false_eq_true, if_false]
    rw [parse_fuel f (g := 5 - (u + 1)) (nx := u + 1) _ (by omega) (by omega)]
end Go.Proofs.YtmkmmggimokagaaGreatDoor
