/- Plain Lean on UTF-8 texts: a text's runes, their starts, classes, quoting. No program in sight. -/
import Derived.Lib.MapLaws
import Derived.Lib.RuneBytes
namespace Go.Proofs.YtenonfoocjcdmaaDoor
set_option linter.unusedVariables false
open Go.Lib

/-- the first rune's number and width -/
def dec (l : List UInt8) : Nat × Nat := decodeL l
theorem dec_pos (l : List UInt8) : 1 ≤ (dec l).2 := by
  unfold dec; rw [decodeL_N]
  rcases decodeN_shape l.length (l.getD 0 0).toNat (l.getD 1 0).toNat (l.getD 2 0).toNat (l.getD 3 0).toNat with ⟨_, e⟩ | ⟨_, _, _, _, e⟩ | ⟨_, _, _, _, _, _, e⟩ | ⟨_, _, _, _, _, _, _, e⟩ | e <;> rw [e] <;> simp
theorem dec_le (l : List UInt8) (h : l ≠ []) : (dec l).2 ≤ l.length := decodeL_le l h
theorem dec_max (l : List UInt8) : (dec l).1 ≤ 1114111 := by
  have k0 := (l.getD 0 0).toNat_lt
  have k1 := (l.getD 1 0).toNat_lt
  have k2 := (l.getD 2 0).toNat_lt
  have k3 := (l.getD 3 0).toNat_lt
  unfold dec; rw [decodeL_N]
  rcases decodeN_shape l.length (l.getD 0 0).toNat (l.getD 1 0).toNat (l.getD 2 0).toNat (l.getD 3 0).toNat with ⟨_, e⟩ | ⟨_, _, _, _, e⟩ | ⟨_, _, _, _, _, _, e⟩ | ⟨_, _, _, _, _, _, _, e⟩ | e <;> rw [e] <;> simp only <;> omega

def runesF : Nat → List UInt8 → List Nat
  | 0, _ => []
  | _ + 1, [] => []
  | f + 1, b :: t => (dec (b :: t)).1 :: runesF f ((b :: t).drop (dec (b :: t)).2)
/-- the runes of a text, as 'range' gives them -/
def runes (l : List UInt8) : List Nat := runesF l.length l
theorem runesF_any : ∀ (f g : Nat) (l : List UInt8), l.length ≤ f → l.length ≤ g → runesF f l = runesF g l
  | 0, g, l, h, _ => by
    have : l = [] := List.eq_nil_of_length_eq_zero (by omega)
    subst this; cases g <;> rfl
  | f + 1, 0, l, _, h => by
    have : l = [] := List.eq_nil_of_length_eq_zero (by omega)
    subst this; rfl
  | f + 1, g + 1, [], _, _ => rfl
  | f + 1, g + 1, b :: t, h, h' => by
    have hp := dec_pos (b :: t)
    simp only [runesF]
    rw [runesF_any f g _ (by simp at h ⊢; omega) (by simp at h' ⊢; omega)]
theorem runes_nil : runes [] = [] := rfl
theorem runes_step {l : List UInt8} (h : l ≠ []) : runes l = (dec l).1 :: runes (l.drop (dec l).2) := by
  match l, h with
  | b :: t, _ =>
    have hp := dec_pos (b :: t)
    show (dec (b :: t)).1 :: runesF t.length _ = _
    rw [runesF_any t.length ((b :: t).drop (dec (b :: t)).2).length _ (by simp; omega) (Nat.le_refl _)]
    rfl
theorem runes_len_le (l : List UInt8) : (runes l).length ≤ l.length := by
  have h : ∀ f (l : List UInt8), l.length ≤ f → (runesF f l).length ≤ l.length := by
    intro f
    induction f with
    | zero => intro l h; simp [runesF]
    | succ f ih =>
      intro l h
      match l with
      | [] => simp [runesF]
      | b :: t =>
        have hp := dec_pos (b :: t)
        have := ih ((b :: t).drop (dec (b :: t)).2) (by simp at h ⊢; omega)
        simp only [runesF, List.length_cons] at this ⊢
        simp at this ⊢
        omega
  exact h _ l (Nat.le_refl _)
theorem runes_max {l : List UInt8} {r : Nat} (h : r ∈ runes l) : r ≤ 1114111 := by
  have key : ∀ f (l : List UInt8), ∀ r ∈ runesF f l, r ≤ 1114111 := by
    intro f
    induction f with
    | zero => intro l r h; simp [runesF] at h
    | succ f ih =>
      intro l r h
      match l with
      | [] => simp [runesF] at h
      | b :: t =>
        simp only [runesF, List.mem_cons] at h
        rcases h with rfl | h
        · exact dec_max _
        · exact ih _ _ h
  exact key _ l r h

/-- decoding with less behind it: an error stays one -/
theorem decodeN_less (n n' b0 b1 b2 b3 c1 c2 c3 : Nat) (hn : n' ≤ n) (e1 : 1 < n' → c1 = b1) (e2 : 2 < n' → c2 = b2) (e3 : 3 < n' → c3 = b3)
    (h : decodeN n b0 b1 b2 b3 = (65533, 1)) : decodeN n' b0 c1 c2 c3 = (65533, 1) := by
  rcases decodeN_shape n' b0 c1 c2 c3 with ⟨a, e⟩ | ⟨a1, a2, a3, a4, e⟩ | ⟨a1, a2, a3, a4, a5, a6, e⟩ | ⟨a1, a2, a3, a4, a5, a6, a7, e⟩ | e
  · rw [decodeN_ascii _ _ _ _ _ a] at h; rw [e]; exact h
  · exfalso
    have E1 := e1 (by omega); subst E1
    unfold decodeN at h
    rw [if_neg (by omega), if_pos (by omega), if_pos (by omega)] at h
    simp at h
  · exfalso
    have E1 := e1 (by omega); subst E1
    have E2 := e2 (by omega); subst E2
    unfold decodeN at h
    rw [if_neg (by omega), if_neg (by omega), if_pos (by omega), if_pos (by omega)] at h
    simp at h
  · exfalso
    have E1 := e1 (by omega); subst E1
    have E2 := e2 (by omega); subst E2
    have E3 := e3 (by omega); subst E3
    unfold decodeN at h
    rw [if_neg (by omega), if_neg (by omega), if_neg (by omega), if_pos (by omega), if_pos (by omega)] at h
    simp at h
  · exact e

theorem dec_take {l : List UInt8} {m : Nat} (h : (dec l).2 ≤ m) : dec (l.take m) = dec l := by
  have hm : 1 ≤ m := Nat.le_trans (dec_pos l) h
  unfold dec at h ⊢
  rw [decodeL_N] at h
  rw [decodeL_N, decodeL_N]
  have g0 : (l.take m).getD 0 0 = l.getD 0 0 := getD_takeU l m 0 hm
  have g1 : 1 < m → (l.take m).getD 1 0 = l.getD 1 0 := getD_takeU l m 1
  have g2 : 2 < m → (l.take m).getD 2 0 = l.getD 2 0 := getD_takeU l m 2
  have g3 : 3 < m → (l.take m).getD 3 0 = l.getD 3 0 := getD_takeU l m 3
  have hl : (l.take m).length = min m l.length := List.length_take
  rw [g0, hl]
  rcases decodeN_shape l.length (l.getD 0 0).toNat (l.getD 1 0).toNat (l.getD 2 0).toNat (l.getD 3 0).toNat with ⟨a, e⟩ | ⟨a1, a2, a3, a4, e⟩ | ⟨a1, a2, a3, a4, a5, a6, e⟩ | ⟨a1, a2, a3, a4, a5, a6, a7, e⟩ | e
  · rw [e, decodeN_ascii _ _ _ _ _ a]
  · rw [e] at h ⊢; simp only at h
    rw [g1 (by omega)]
    unfold decodeN
    rw [if_neg (by omega), if_pos (by omega), if_pos (by omega)]
  · rw [e] at h ⊢; simp only at h
    rw [g1 (by omega), g2 (by omega)]
    unfold decodeN
    rw [if_neg (by omega), if_neg (by omega), if_pos (by omega), if_pos (by omega)]
  · rw [e] at h ⊢; simp only at h
    rw [g1 (by omega), g2 (by omega), g3 (by omega)]
    unfold decodeN
    rw [if_neg (by omega), if_neg (by omega), if_neg (by omega), if_pos (by omega), if_pos (by omega)]
  · rw [e]
    refine decodeN_less l.length _ _ _ _ _ _ _ _ (by omega) (fun h => ?_) (fun h => ?_) (fun h => ?_) e
    · rw [g1 (by omega)]
    · rw [g2 (by omega)]
    · rw [g3 (by omega)]

/-- a rune that has an encoding of its own -/
def validR (r : Nat) : Prop := r < 55296 ∨ (57344 ≤ r ∧ r ≤ 1114111)
theorem dec_valid (l : List UInt8) : validR (dec l).1 := by
  have k0 := (l.getD 0 0).toNat_lt
  have k1 := (l.getD 1 0).toNat_lt
  have k2 := (l.getD 2 0).toNat_lt
  have k3 := (l.getD 3 0).toNat_lt
  unfold dec validR; rw [decodeL_N]
  rcases decodeN_shape l.length (l.getD 0 0).toNat (l.getD 1 0).toNat (l.getD 2 0).toNat (l.getD 3 0).toNat with ⟨_, e⟩ | ⟨_, _, _, _, e⟩ | ⟨_, _, _, _, _, _, e⟩ | ⟨_, _, _, _, _, _, _, e⟩ | e <;> rw [e] <;> simp only <;> omega

/-- a rune's bytes -/
def enc (r : Nat) : List UInt8 := encodeRune (r : Int)
theorem toU8 (x : Int) (h0 : 0 ≤ x) (h1 : x < 256) : (x.toNat.toUInt8).toNat = x.toNat := by
  rw [Nat.toUInt8]; simp; omega
theorem enc_one {r : Nat} (h : r < 128) : enc r = [UInt8.ofNat r] := by
  unfold enc encodeRune; rw [encodeRuneZ_one (by omega) (by omega)]; simp
theorem dec_enc {r : Nat} (h : validR r) (t : List UInt8) : dec (enc r ++ t) = (r, (enc r).length) := by
  unfold validR at h
  unfold dec enc encodeRune
  rw [decodeL_N]
  by_cases h1 : r ≤ 127
  · rw [encodeRuneZ_one (by omega) (by omega)]
    have e0 := toU8 (r : Int) (by omega) (by omega)
    simp only [List.map_cons, List.map_nil, List.cons_append, List.nil_append, List.getD_cons_zero, List.length_cons, List.length_nil]
    rw [e0, decodeN_ascii _ _ _ _ _ (by omega)]; simp
  by_cases h2 : r ≤ 2047
  · rw [encodeRuneZ_two (by omega) (by omega)]
    have e0 := toU8 (192 + (r : Int) / 64) (by omega) (by omega)
    have e1 := toU8 (128 + (r : Int) % 64) (by omega) (by omega)
    simp only [List.map_cons, List.map_nil, List.cons_append, List.nil_append, List.getD_cons_zero, List.getD_cons_succ, List.length_cons, List.length_nil]
    rw [e0, e1]
    unfold decodeN
    rw [if_neg (by omega), if_pos (by omega), if_pos (by omega)]
    congr 1; omega
  by_cases h3 : r ≤ 65535
  · rw [encodeRuneZ_three (by omega)]
    have e0 := toU8 (224 + (r : Int) / 4096) (by omega) (by omega)
    have e1 := toU8 (128 + (r : Int) / 64 % 64) (by omega) (by omega)
    have e2 := toU8 (128 + (r : Int) % 64) (by omega) (by omega)
    simp only [List.map_cons, List.map_nil, List.cons_append, List.nil_append, List.getD_cons_zero, List.getD_cons_succ, List.length_cons, List.length_nil]
    rw [e0, e1, e2]
    unfold decodeN
    rw [if_neg (by omega), if_neg (by omega), if_pos (by omega), if_pos (by omega)]
    congr 1; omega
  · rw [encodeRuneZ_four (by omega) (by omega)]
    have e0 := toU8 (240 + (r : Int) / 262144) (by omega) (by omega)
    have e1 := toU8 (128 + (r : Int) / 4096 % 64) (by omega) (by omega)
    have e2 := toU8 (128 + (r : Int) / 64 % 64) (by omega) (by omega)
    have e3 := toU8 (128 + (r : Int) % 64) (by omega) (by omega)
    simp only [List.map_cons, List.map_nil, List.cons_append, List.nil_append, List.getD_cons_zero, List.getD_cons_succ, List.length_cons, List.length_nil]
    rw [e0, e1, e2, e3]
    unfold decodeN
    rw [if_neg (by omega), if_neg (by omega), if_neg (by omega), if_pos (by omega), if_pos (by omega)]
    congr 1; omega
theorem enc_ne (r : Nat) : enc r ≠ [] := by
  have := (runeCells_le (r : Int)).1
  rw [runeCells_length] at this
  unfold enc; intro h; rw [h] at this; simp at this
theorem enc_dec {l : List UInt8} (h : l ≠ []) (hr : (dec l).1 ≠ 65533) : l.take (dec l).2 = enc (dec l).1 := (encode_decode l h (fun hh => hr hh.1)).symm
theorem runes_enc {r : Nat} (h : validR r) (t : List UInt8) : runes (enc r ++ t) = r :: runes t := by
  rw [runes_step (by have := enc_ne r; simp [this]), dec_enc h]
  simp
/-- bytes of a rune beyond ASCII are beyond ASCII -/
theorem enc_high {r : Nat} (h : 128 ≤ r) : ∀ b ∈ enc r, 128 ≤ b.toNat := by
  intro b hb
  unfold enc encodeRune at hb
  simp only [List.mem_map] at hb
  obtain ⟨x, hx, rfl⟩ := hb
  have hby := encodeRuneZ_byte (r : Int) x hx
  rw [toU8 x hby.1 hby.2]
  unfold encodeRuneZ at hx
  rw [if_neg (by omega)] at hx
  split at hx
  · simp at hx; omega
  split at hx
  · simp at hx; omega
  split at hx
  · simp at hx; omega
  · simp at hx; omega
end Go.Proofs.YtenonfoocjcdmaaDoor
