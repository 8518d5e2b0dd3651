/- Layer 9, plain: sets of nodes as numbers: members, least and greatest ones. Layer 9, plain: how Go's library counts the bits of a word. Layer 9: words: counting bits, the least bit, one, All, Has, Of, List walked. Layer 9: Of, List, Lowest, Highest walked; the least bit. Layer 9: Lowest, Highest, the least bit; the reference's bit, Has, List, Set walked. Layer 9: the reference's bit, Has, List, Set, All, Of, SameInts walked. Layer 9: the reference's Set, All, Of walked. Layer 9: the reference's Lowest, Highest, SameInts walked. -/
import Derived.Test.YtmkmmggimokagaaGreatDoorK1
import Derived.Laws.Bits64b
import Derived.Laws.BitsAllLaws
import Derived.Laws.ShiftsVarLaws
import Derived.Lib.TrailingZeros
import Derived.Deep.QuietTactic
import Derived.BigQuiet
namespace Go.Proofs.YtmkmmggimokagaaGreatDoor
set_option linter.unusedVariables false
open Go.RowKit
/-- one more than the greatest word -/
def M64 : Nat := 2 ^ 64
theorem M64_is : M64 = 18446744073709551616 := by decide
def memL (s : Nat) : List Nat := (List.range 64).filter (fun i => s.testBit i)
def setL (l : List Nat) : Nat := l.foldl (fun a i => a ||| 2 ^ i) 0
theorem setL_from : ∀ (l : List Nat) (a i : Nat), (l.foldl (fun a i => a ||| 2 ^ i) a).testBit i = (a.testBit i || decide (i ∈ l))
  | [], a, i => by simp
  | x :: t, a, i => by
    rw [List.foldl_cons, setL_from t, Nat.testBit_or, Nat.testBit_two_pow]
    by_cases h : x = i <;> simp [h, eq_comm]
theorem setL_bit (l : List Nat) (i : Nat) : (setL l).testBit i = decide (i ∈ l) := by unfold setL; rw [setL_from]; simp
theorem setL_snoc (l : List Nat) (i : Nat) : setL (l ++ [i]) = setL l ||| 2 ^ i := by unfold setL; rw [List.foldl_append]; rfl
theorem setL_lt {l : List Nat} (h : ∀ i ∈ l, i < 64) : setL l < M64 := by
  unfold M64
  refine Nat.lt_pow_two_of_testBit _ (fun i hi => ?_)
  rw [setL_bit]
  have : i ∉ l := fun hh => by have := h i hh; omega
  simp [this]
theorem bit_lt {s i : Nat} (hs : s < M64) (h : s.testBit i = true) : i < 64 := by
  rcases Nat.lt_or_ge i 64 with hi | hi
  · exact hi
  · have : s < 2 ^ i := Nat.lt_of_lt_of_le hs (Nat.pow_le_pow_right (by omega) hi)
    rw [Nat.testBit_lt_two_pow this] at h; cases h
theorem mem_memL {s i : Nat} : i ∈ memL s ↔ i < 64 ∧ s.testBit i = true := by unfold memL; simp
theorem setL_memL {s : Nat} (hs : s < M64) : setL (memL s) = s := by
  apply Nat.eq_of_testBit_eq
  intro i
  rw [setL_bit]
  by_cases h : s.testBit i = true
  · rw [h]; simp [mem_memL, h, bit_lt hs h]
  · have h' : s.testBit i = false := by simpa using h
    rw [h']; simp [mem_memL, h']
theorem memL_sorted (s : Nat) : (memL s).Pairwise (· < ·) := (List.pairwise_lt_range).filter _
theorem memL_nodup (s : Nat) : (memL s).Nodup := (memL_sorted s).imp (fun h => Nat.ne_of_lt h)
theorem memL_lt (s : Nat) : ∀ i ∈ memL s, i < 64 := fun i h => (mem_memL.1 h).1
theorem memL_len (s : Nat) : (memL s).length ≤ 64 := by
  have := List.length_filter_le (fun i => s.testBit i) (List.range 64)
  unfold memL; simpa using this
theorem memL_inj {a b : Nat} (ha : a < M64) (hb : b < M64) (h : memL a = memL b) : a = b := by rw [← setL_memL ha, h, setL_memL hb]
/-- two increasing lists with the same members are one -/
theorem sorted_ext : ∀ {a b : List Nat}, a.Pairwise (· < ·) → b.Pairwise (· < ·) → (∀ i, i ∈ a ↔ i ∈ b) → a = b
  | [], [], _, _, _ => rfl
  | [], y :: t, _, _, h => by have := (h y).2 (by simp); simp at this
  | x :: t, [], _, _, h => by have := (h x).1 (by simp); simp at this
  | x :: t, y :: u, ha, hb, h => by
    rw [List.pairwise_cons] at ha hb
    have hxy : x = y := by
      have h1 := (h x).1 (by simp)
      have h2 := (h y).2 (by simp)
      simp only [List.mem_cons] at h1 h2
      rcases h1 with h1 | h1
      · exact h1
      · rcases h2 with h2 | h2
        · exact h2.symm
        · have := ha.1 y h2; have := hb.1 x h1; omega
    subst hxy
    rw [sorted_ext ha.2 hb.2 (fun i => ?_)]
    have hi := h i
    simp only [List.mem_cons] at hi
    constructor
    · intro hh
      rcases hi.1 (.inr hh) with e | e
      · subst e; have := ha.1 i hh; omega
      · exact e
    · intro hh
      rcases hi.2 (.inr hh) with e | e
      · subst e; have := hb.1 i hh; omega
      · exact e
theorem memL_setL {l : List Nat} (h1 : l.Pairwise (· < ·)) (h2 : ∀ i ∈ l, i < 64) : memL (setL l) = l := by
  refine sorted_ext (memL_sorted _) h1 (fun i => ?_)
  rw [mem_memL, setL_bit]
  simp only [decide_eq_true_eq]
  exact ⟨fun h => h.2, fun h => ⟨h2 i h, h⟩⟩
/-- the first ones of an increasing list, and all others -/
theorem take_drop_mem {l : List Nat} (h : l.Nodup) (n i : Nat) : i ∈ l.take n ↔ i ∈ l ∧ i ∉ l.drop n := by
  have e := List.take_append_drop n l
  rw [← e] at h
  have hd := (List.nodup_append.1 h).2.2
  constructor
  · intro hi
    exact ⟨List.mem_of_mem_take hi, fun hj => hd i hi i hj rfl⟩
  · rintro ⟨hi, hj⟩
    rw [← e, List.mem_append] at hi
    exact hi.resolve_right hj
/-- the least one of a number's bits, cut off -/
theorem low_split {x : Nat} (h : 0 < x) : ∃ k q, x = 2 ^ (k + 1) * q + 2 ^ k := by
  induction x using Nat.strongRecOn with
  | _ x ih =>
    by_cases hx : x % 2 = 1
    · exact ⟨0, x / 2, by rw [Nat.pow_one, Nat.pow_zero]; omega⟩
    · obtain ⟨k, q, e⟩ := ih (x / 2) (by omega) (by omega)
      refine ⟨k + 1, q, ?_⟩
      have : x = 2 * (x / 2) := by omega
      rw [this, e, Nat.mul_add, ← Nat.mul_assoc, Nat.pow_succ 2 (k + 1), Nat.pow_succ 2 k]
      rw [Nat.mul_comm 2 (2 ^ k * 2), Nat.mul_comm 2 (2 ^ k)]
theorem low_bits (k q i : Nat) : (2 ^ (k + 1) * q + 2 ^ k).testBit i = if i < k then false else if i = k then true else q.testBit (i - (k + 1)) := by
  rw [Nat.testBit_two_pow_mul_add _ (Nat.pow_lt_pow_right (by omega) (by omega))]
  by_cases h1 : i < k
  · rw [if_pos (by omega), if_pos h1, Nat.testBit_two_pow]; simp; omega
  · rw [if_neg h1]
    by_cases h2 : i = k
    · subst h2; rw [if_pos (by omega), if_pos rfl, Nat.testBit_two_pow]; simp
    · rw [if_neg (by omega), if_neg h2]
theorem low_bits' (k q i : Nat) : (2 ^ (k + 1) * q + 2 ^ k - 1).testBit i = if i < k then true else if i = k then false else q.testBit (i - (k + 1)) := by
  have hp : 0 < 2 ^ k := Nat.pow_pos (by omega)
  have hlt : 2 ^ k - 1 < 2 ^ (k + 1) := Nat.lt_of_le_of_lt (Nat.sub_le _ _) (Nat.pow_lt_pow_right (by omega) (by omega))
  rw [Nat.add_sub_assoc hp, Nat.testBit_two_pow_mul_add _ hlt]
  by_cases h1 : i < k
  · rw [if_pos (by omega), if_pos h1, Nat.testBit_two_pow_sub_one]; simp [h1]
  · rw [if_neg h1]
    by_cases h2 : i = k
    · subst h2; rw [if_pos (by omega), if_pos rfl, Nat.testBit_two_pow_sub_one]; simp
    · rw [if_neg (by omega), if_neg h2]
theorem clear_low {x : Nat} (h : 0 < x) (hx : x < M64) : memL (x &&& (x - 1)) = (memL x).drop 1 := by
  obtain ⟨k, q, e⟩ := low_split h
  have hb : ∀ i, x.testBit i = if i < k then false else if i = k then true else q.testBit (i - (k + 1)) := fun i => by rw [e]; exact low_bits k q i
  have hb' : ∀ i, (x &&& (x - 1)).testBit i = (x.testBit i && !decide (i = k)) := by
    intro i
    rw [Nat.testBit_and, hb, e, low_bits']
    by_cases h1 : i < k
    · simp [h1]
    · by_cases h2 : i = k
      · simp [h2]
      · simp [h1, h2]
  have hk : k < 64 := bit_lt hx (by rw [hb]; simp)
  have hs := memL_sorted x
  have hmem : ∀ i, i ∈ memL x → k ≤ i := by
    intro i hi
    have := (mem_memL.1 hi).2
    rw [hb] at this
    split at this
    · cases this
    · omega
  have hkm : k ∈ memL x := mem_memL.2 ⟨hk, by rw [hb]; simp⟩
  cases hl : memL x with
  | nil => rw [hl] at hkm; simp at hkm
  | cons y t =>
    rw [hl] at hs hkm hmem
    rw [List.pairwise_cons] at hs
    have hy : y = k := by
      have h1 := hmem y (by simp)
      simp only [List.mem_cons] at hkm
      rcases hkm with h2 | h2
      · exact h2.symm
      · have := hs.1 k h2; omega
    refine sorted_ext (memL_sorted _) hs.2 (fun i => ?_)
    rw [mem_memL, hb']
    have hi : i ∈ y :: t ↔ i < 64 ∧ x.testBit i = true := by rw [← hl]; exact mem_memL
    simp only [List.mem_cons] at hi
    simp only [Bool.and_eq_true, Bool.not_eq_true', decide_eq_false_iff_not]
    constructor
    · rintro ⟨h1, h2, h3⟩
      rcases hi.2 ⟨h1, h2⟩ with h4 | h4
      · rw [hy] at h4; exact absurd h4 h3
      · exact h4
    · intro h1
      obtain ⟨h2, h3⟩ := hi.1 (.inr h1)
      refine ⟨h2, h3, fun h4 => ?_⟩
      have := hs.1 i h1
      omega
theorem and_lt {a b : Nat} (h : a < M64) : a &&& b < M64 := Nat.lt_of_le_of_lt Nat.and_le_left h
theorem or_lt {a b : Nat} (ha : a < M64) (hb : b < M64) : a ||| b < M64 := Nat.or_lt_two_pow ha hb
def clr : Nat → Nat → Nat
  | 0, x => x
  | n + 1, x => clr n (x &&& (x - 1))
theorem clr_succ : ∀ (n x : Nat), clr (n + 1) x = clr n x &&& (clr n x - 1)
  | 0, x => rfl
  | n + 1, x => by show clr (n + 1) (x &&& (x - 1)) = _; rw [clr_succ n]; rfl
theorem clr_lt : ∀ (n x : Nat), x < M64 → clr n x < M64
  | 0, x, h => h
  | n + 1, x, h => clr_lt n _ (and_lt h)
theorem clr_mem : ∀ (n x : Nat), x < M64 → n ≤ (memL x).length → memL (clr n x) = (memL x).drop n
  | 0, x, h, _ => by simp [clr]
  | n + 1, x, h, hn => by
    have hx : 0 < x := by
      rcases Nat.eq_zero_or_pos x with h0 | h0
      · subst h0; have e : memL 0 = [] := by kernel_rfl
        rw [e] at hn; simp at hn
      · exact h0
    show memL (clr n (x &&& (x - 1))) = _
    have h1 := clear_low hx h
    rw [clr_mem n _ (and_lt h) (by rw [h1]; simp; omega), h1, List.drop_drop, Nat.add_comm]
/-- all but some -/
def diff (a b : Nat) : Nat := a &&& (M64 - 1 - b)
theorem M_bit {b : Nat} (hb : b < M64) (i : Nat) : (M64 - 1 - b).testBit i = (decide (i < 64) && !b.testBit i) := by
  unfold M64 at hb ⊢
  have := Nat.testBit_two_pow_sub_succ hb i
  rw [show 2 ^ 64 - 1 - b = 2 ^ 64 - (b + 1) by omega]
  exact this
theorem diff_bit {a b : Nat} (ha : a < M64) (hb : b < M64) (i : Nat) : (diff a b).testBit i = (a.testBit i && !b.testBit i) := by
  unfold diff
  rw [Nat.testBit_and, M_bit hb]
  by_cases h : a.testBit i = true
  · simp [h, bit_lt ha h]
  · simp at h; simp [h]
theorem diff_lt {a b : Nat} (ha : a < M64) : diff a b < M64 := and_lt ha
def lowS (s n : Nat) : Nat := setL ((memL s).take n)
def highS (s n : Nat) : Nat := setL ((memL s).drop ((memL s).length - n))
theorem lowS_lt (s n : Nat) : lowS s n < M64 := setL_lt (fun i hi => memL_lt s i (List.mem_of_mem_take hi))
theorem highS_lt (s n : Nat) : highS s n < M64 := setL_lt (fun i hi => memL_lt s i (List.mem_of_mem_drop hi))
theorem low_is {s n : Nat} (hs : s < M64) (hn : n ≤ (memL s).length) : diff s (clr n s) = lowS s n := by
  have hc := clr_lt n s hs
  apply Nat.eq_of_testBit_eq
  intro i
  rw [diff_bit hs hc]
  unfold lowS
  rw [setL_bit, Bool.eq_iff_iff]
  simp only [Bool.and_eq_true, Bool.not_eq_true', decide_eq_true_eq]
  rw [take_drop_mem (memL_nodup s), ← clr_mem n s hs hn]
  constructor
  · rintro ⟨h1, h2⟩
    exact ⟨mem_memL.2 ⟨bit_lt hs h1, h1⟩, fun h => by have := (mem_memL.1 h).2; rw [h2] at this; cases this⟩
  · rintro ⟨h1, h2⟩
    have h3 := mem_memL.1 h1
    refine ⟨h3.2, ?_⟩
    cases hb : (clr n s).testBit i with
    | false => rfl
    | true => exact absurd (mem_memL.2 ⟨h3.1, hb⟩) h2
theorem high_is {s n : Nat} (hs : s < M64) (hn : n ≤ (memL s).length) : diff s (lowS s ((memL s).length - n)) = highS s n := by
  apply Nat.eq_of_testBit_eq
  intro i
  rw [diff_bit hs (lowS_lt _ _)]
  unfold lowS highS
  rw [setL_bit, setL_bit, Bool.eq_iff_iff]
  simp only [Bool.and_eq_true, Bool.not_eq_true', decide_eq_true_eq, decide_eq_false_iff_not]
  rw [take_drop_mem (memL_nodup s)]
  constructor
  · rintro ⟨h1, h2⟩
    have h3 : i ∈ memL s := mem_memL.2 ⟨bit_lt hs h1, h1⟩
    exact Classical.byContradiction (fun h4 => h2 ⟨h3, h4⟩)
  · intro h1
    exact ⟨(mem_memL.1 (List.mem_of_mem_drop h1)).2, fun h => h.2 h1⟩
def allS (n : Int) : Nat := 2 ^ (min n.toNat 64) - 1
theorem allS_bit (n : Int) (i : Nat) : (allS n).testBit i = (decide ((i : Int) < n) && decide (i < 64)) := by
  unfold allS
  rw [Nat.testBit_two_pow_sub_one, Bool.eq_iff_iff]
  simp only [decide_eq_true_eq, Bool.and_eq_true]
  omega
theorem allS_lt (n : Int) : allS n < M64 := by
  unfold M64
  refine Nat.lt_pow_two_of_testBit _ (fun i hi => ?_)
  rw [allS_bit]; simp; omega
theorem allS_set (n : Int) : allS n = setL (List.range (min n.toNat 64)) := by
  apply Nat.eq_of_testBit_eq
  intro i
  rw [allS_bit, setL_bit, Bool.eq_iff_iff]
  simp only [decide_eq_true_eq, Bool.and_eq_true, List.mem_range]
  omega
/-- may numbers be a set? -/
def ofOk (l : List Int) : Prop := (∀ x ∈ l, 0 ≤ x ∧ x < 64) ∧ l.Nodup
instance (l : List Int) : Decidable (ofOk l) := by unfold ofOk; infer_instance
def ofP (l : List Int) : Nat × Int := if ofOk l then (setL (l.map Int.toNat), 0) else (0, 90)
def hasP (s : Nat) (n : Int) : Bool := decide (0 ≤ n) && decide (n < 64) && s.testBit n.toNat
end Go.Proofs.YtmkmmggimokagaaGreatDoor
namespace Go.Proofs.YtmkmmggimokagaaGreatDoor
set_option linter.unusedVariables false
/-- a byte-wise map over n bytes -/
def mapB (f : Nat → Nat) : Nat → Nat → Nat
  | 0, _ => 0
  | n + 1, x => f (x % 256) + 256 * mapB f n (x / 256)
def repB (m : Nat) : Nat → Nat
  | 0 => 0
  | n + 1 => m + 256 * repB m n
theorem swar {c y m M k : Nat} (hk : k ≤ 8) (hc : c < 256) (hm : m < 2 ^ (8 - k)) : ((c + 256 * y) / 2 ^ k) &&& (m + 256 * M) = ((c / 2 ^ k) &&& m) + 256 * ((y / 2 ^ k) &&& M) := by
  have hm8 : m < 2 ^ 8 := Nat.lt_of_lt_of_le hm (Nat.pow_le_pow_right (by omega) (by omega))
  have ha : (c / 2 ^ k) &&& m < 2 ^ 8 := Nat.lt_of_le_of_lt Nat.and_le_right hm8
  apply Nat.eq_of_testBit_eq
  intro i
  have e1 : ∀ a b : Nat, b < 2 ^ 8 → ∀ j, (b + 256 * a).testBit j = if j < 8 then b.testBit j else a.testBit (j - 8) := by
    intro a b hb j
    rw [Nat.add_comm, show 256 = 2 ^ 8 by rfl]
    exact Nat.testBit_two_pow_mul_add a hb j
  rw [Nat.testBit_and, Nat.testBit_div_two_pow, e1 y c hc, e1 M m hm8, e1 _ _ ha]
  by_cases h8 : i < 8
  · rw [if_pos h8, if_pos h8, Nat.testBit_and, Nat.testBit_div_two_pow]
    by_cases h : i + k < 8
    · rw [if_pos h]
    · have : m.testBit i = false := Nat.testBit_lt_two_pow (Nat.lt_of_lt_of_le hm (Nat.pow_le_pow_right (by omega) (by omega)))
      rw [this]; simp
  · rw [if_neg h8, if_neg h8, if_neg (by omega), Nat.testBit_and, Nat.testBit_div_two_pow, show i + k - 8 = i - 8 + k by omega]
def b1 (c : Nat) : Nat := ((c / 2) &&& 85) + (c &&& 85)
def b2 (c : Nat) : Nat := ((c / 4) &&& 51) + (c &&& 51)
def b3 (c : Nat) : Nat := (c / 16 + c) % 16
def pop8 (c : Nat) : Nat := ((List.range 8).filter (fun i => c.testBit i)).length
theorem split_byte (x : Nat) : x = x % 256 + 256 * (x / 256) := by omega
theorem sw1 : ∀ (n x : Nat), x < 256 ^ n → ((x / 2) &&& repB 85 n) + (x &&& repB 85 n) = mapB b1 n x
  | 0, x, h => by simp [repB, mapB]
  | n + 1, x, h => by
    have hx := split_byte x
    have hy : x / 256 < 256 ^ n := by rw [Nat.pow_succ] at h; omega
    have h1 := swar (c := x % 256) (y := x / 256) (m := 85) (M := repB 85 n) (k := 1) (by omega) (by omega) (by decide)
    have h0 := swar (c := x % 256) (y := x / 256) (m := 85) (M := repB 85 n) (k := 0) (by omega) (by omega) (by decide)
    simp only [Nat.pow_one, Nat.pow_zero, Nat.div_one] at h1 h0
    rw [← hx] at h1 h0
    have ih := sw1 n (x / 256) hy
    show (x / 2 &&& (85 + 256 * repB 85 n)) + (x &&& (85 + 256 * repB 85 n)) = b1 (x % 256) + 256 * mapB b1 n (x / 256)
    rw [h1, h0, ← ih]; unfold b1; omega
theorem sw2 : ∀ (n x : Nat), x < 256 ^ n → ((x / 4) &&& repB 51 n) + (x &&& repB 51 n) = mapB b2 n x
  | 0, x, h => by simp [repB, mapB]
  | n + 1, x, h => by
    have hx := split_byte x
    have hy : x / 256 < 256 ^ n := by rw [Nat.pow_succ] at h; omega
    have h1 := swar (c := x % 256) (y := x / 256) (m := 51) (M := repB 51 n) (k := 2) (by omega) (by omega) (by decide)
    have h0 := swar (c := x % 256) (y := x / 256) (m := 51) (M := repB 51 n) (k := 0) (by omega) (by omega) (by decide)
    simp only [Nat.pow_zero, Nat.div_one, show 2 ^ 2 = 4 by rfl] at h1 h0
    rw [← hx] at h1 h0
    have ih := sw2 n (x / 256) hy
    show (x / 4 &&& (51 + 256 * repB 51 n)) + (x &&& (51 + 256 * repB 51 n)) = b2 (x % 256) + 256 * mapB b2 n (x / 256)
    rw [h1, h0, ← ih]; unfold b2; omega
theorem mapB_lt {f : Nat → Nat} {B : Nat} (hf : ∀ c, c < 256 → f c < 256) : ∀ (n x : Nat), mapB f n x < 256 ^ n
  | 0, x => by simp [mapB]
  | n + 1, x => by
    have h1 := mapB_lt (B := B) hf n (x / 256)
    have h2 := hf (x % 256) (by omega)
    show f (x % 256) + 256 * mapB f n (x / 256) < 256 ^ (n + 1)
    rw [Nat.pow_succ]; omega
theorem mapB_comp {f g : Nat → Nat} (hg : ∀ c, c < 256 → g c < 256) : ∀ (n x : Nat), mapB f n (mapB g n x) = mapB (fun c => f (g c)) n x
  | 0, x => rfl
  | n + 1, x => by
    have h2 := hg (x % 256) (by omega)
    show f ((g (x % 256) + 256 * mapB g n (x / 256)) % 256) + 256 * mapB f n ((g (x % 256) + 256 * mapB g n (x / 256)) / 256) = _
    rw [show (g (x % 256) + 256 * mapB g n (x / 256)) % 256 = g (x % 256) by omega, show (g (x % 256) + 256 * mapB g n (x / 256)) / 256 = mapB g n (x / 256) by omega, mapB_comp hg n]
    rfl
theorem mapB_congr {f g : Nat → Nat} (h : ∀ c, c < 256 → f c = g c) : ∀ (n x : Nat), mapB f n x = mapB g n x
  | 0, x => rfl
  | n + 1, x => by
    show f (x % 256) + 256 * mapB f n (x / 256) = g (x % 256) + 256 * mapB g n (x / 256)
    rw [h _ (by omega), mapB_congr h n]
/-- bytes of two nibbles of at most four -/
theorem sw3 {g : Nat → Nat} (hg : ∀ c, c < 256 → g c ≤ 68 ∧ g c % 16 ≤ 4) : ∀ (n x : Nat), (mapB g n x / 16 + mapB g n x) &&& repB 15 n = mapB (fun c => b3 (g c)) n x ∧ mapB g n x % 16 ≤ 4
  | 0, x => by simp [mapB]
  | n + 1, x => by
    obtain ⟨ih, i2⟩ := sw3 hg n (x / 256)
    obtain ⟨h1, h2⟩ := hg (x % 256) (by omega)
    generalize hy : mapB g n (x / 256) = y at ih i2
    generalize hc : g (x % 256) = c at h1 h2
    have e0 : mapB g (n + 1) x = c + 256 * y := by show g (x % 256) + 256 * mapB g n (x / 256) = _; rw [hc, hy]
    have e1 : (c + 256 * y) / 16 + (c + 256 * y) = (c / 16 + c + 16 * (y % 16)) + 256 * (y / 16 + y) := by omega
    have h0 := swar (c := c / 16 + c + 16 * (y % 16)) (y := y / 16 + y) (m := 15) (M := repB 15 n) (k := 0) (by omega) (by omega) (by decide)
    simp only [Nat.pow_zero, Nat.div_one] at h0
    have e2 : (c / 16 + c + 16 * (y % 16)) &&& 15 = (c / 16 + c) % 16 := by
      have := Nat.and_two_pow_sub_one_eq_mod (c / 16 + c + 16 * (y % 16)) 4
      rw [show 2 ^ 4 - 1 = 15 by rfl, show 2 ^ 4 = 16 by rfl] at this
      rw [this]; omega
    refine ⟨?_, by rw [e0]; omega⟩
    rw [e0, e1]
    show _ &&& (15 + 256 * repB 15 n) = b3 (g (x % 256)) + 256 * mapB (fun c => b3 (g c)) n (x / 256)
    rw [h0, e2, ih, hc]
    rfl
theorem b_facts : ∀ c : Fin 256, b1 c.val < 256 ∧ b2 (b1 c.val) ≤ 68 ∧ b2 (b1 c.val) % 16 ≤ 4 ∧ b3 (b2 (b1 c.val)) = pop8 c.val ∧ pop8 c.val ≤ 8 := by decide +kernel
theorem b2_lt (c : Nat) (h : c < 256) : b2 c < 256 := by
  have h1 : (c / 4) &&& 51 ≤ 51 := Nat.and_le_right
  have h2 : c &&& 51 ≤ 51 := Nat.and_le_right
  unfold b2; omega
def x1 (x : Nat) : Nat := ((x / 2) &&& 6148914691236517205) + (x &&& 6148914691236517205)
def x2 (x : Nat) : Nat := ((x1 x / 4) &&& 3689348814741910323) + (x1 x &&& 3689348814741910323)
def x3 (x : Nat) : Nat := (x2 x / 16 + x2 x) &&& 1085102592571150095
def x4 (x : Nat) : Nat := x3 x + x3 x / 256
def x5 (x : Nat) : Nat := x4 x + x4 x / 65536
def x6 (x : Nat) : Nat := x5 x + x5 x / 4294967296
theorem x_is {x : Nat} (h : x < M64) : x1 x = mapB b1 8 x ∧ x2 x = mapB (fun c => b2 (b1 c)) 8 x ∧ x3 x = mapB pop8 8 x := by
  have h8 : x < 256 ^ 8 := by unfold M64 at h; exact h
  have f1 : ∀ c, c < 256 → b1 c < 256 := fun c hc => (b_facts ⟨c, hc⟩).1
  have e1 : x1 x = mapB b1 8 x := sw1 8 x h8
  have e2 : x2 x = mapB (fun c => b2 (b1 c)) 8 x := by
    have := sw2 8 (mapB b1 8 x) (mapB_lt (B := 0) f1 8 x)
    rw [mapB_comp f1 8 x] at this
    unfold x2; rw [e1]; exact this
  refine ⟨e1, e2, ?_⟩
  have := (sw3 (g := fun c => b2 (b1 c)) (fun c hc => ⟨(b_facts ⟨c, hc⟩).2.1, (b_facts ⟨c, hc⟩).2.2.1⟩) 8 x).1
  rw [mapB_congr (f := fun c => b3 (b2 (b1 c))) (g := pop8) (fun c hc => (b_facts ⟨c, hc⟩).2.2.2.1) 8 x] at this
  unfold x3; rw [e2]; exact this
def sumB : Nat → Nat → Nat
  | 0, _ => 0
  | n + 1, x => pop8 (x % 256) + sumB n (x / 256)
theorem map_exp (f : Nat → Nat) (B : Nat) (hf : ∀ c, c < 256 → f c ≤ B) (x : Nat) : ∃ p0 p1 p2 p3 p4 p5 p6 p7 : Nat, p0 ≤ B ∧ p1 ≤ B ∧ p2 ≤ B ∧ p3 ≤ B ∧ p4 ≤ B ∧ p5 ≤ B ∧ p6 ≤ B ∧ p7 ≤ B ∧ mapB f 8 x = p0 + 256 * (p1 + 256 * (p2 + 256 * (p3 + 256 * (p4 + 256 * (p5 + 256 * (p6 + 256 * p7)))))) ∧ (∀ g : Nat → Nat → Nat, (∀ n y, g (n + 1) y = f (y % 256) + g n (y / 256)) → (∀ y, g 0 y = 0) → g 8 x = p0 + (p1 + (p2 + (p3 + (p4 + (p5 + (p6 + p7))))))) := by
  refine ⟨f (x % 256), f (x / 256 % 256), f (x / 256 / 256 % 256), f (x / 256 / 256 / 256 % 256), f (x / 256 / 256 / 256 / 256 % 256), f (x / 256 / 256 / 256 / 256 / 256 % 256), f (x / 256 / 256 / 256 / 256 / 256 / 256 % 256), f (x / 256 / 256 / 256 / 256 / 256 / 256 / 256 % 256), hf _ (by omega), hf _ (by omega), hf _ (by omega), hf _ (by omega), hf _ (by omega), hf _ (by omega), hf _ (by omega), hf _ (by omega), ?_, ?_⟩
  · simp only [mapB, Nat.mul_zero, Nat.add_zero]
  · intro g h1 h0
    rw [h1, h1, h1, h1, h1, h1, h1, h1, h0, Nat.add_zero]
theorem map_le8 {f : Nat → Nat} (hf : ∀ c, c < 256 → f c ≤ 68) (x : Nat) : mapB f 8 x ≤ 68 * 72340172838076673 := by
  obtain ⟨p0, p1, p2, p3, p4, p5, p6, p7, a0, a1, a2, a3, a4, a5, a6, a7, e, _⟩ := map_exp f 68 hf x
  rw [e]; omega
theorem div1 {a b : Nat} (h : a < 256) : (a + 256 * b) / 256 = b := by omega
theorem div2 {a b c : Nat} (h : a < 256) (h2 : b < 256) : (a + 256 * (b + 256 * c)) / 65536 = c := by omega
theorem div4 {a b c d e : Nat} (h : a < 256) (h2 : b < 256) (h3 : c < 256) (h4 : d < 256) : (a + 256 * (b + 256 * (c + 256 * (d + 256 * e)))) / 4294967296 = e := by omega
theorem sums8 {p0 p1 p2 p3 p4 p5 p6 p7 X Y Z V : Nat} (b0 : p0 ≤ 8) (b1 : p1 ≤ 8) (b2 : p2 ≤ 8) (b3 : p3 ≤ 8) (b4 : p4 ≤ 8) (b5 : p5 ≤ 8) (b6 : p6 ≤ 8) (b7 : p7 ≤ 8)
    (hX : X = p0 + 256 * (p1 + 256 * (p2 + 256 * (p3 + 256 * (p4 + 256 * (p5 + 256 * (p6 + 256 * p7))))))) (hY : Y = X + X / 256) (hZ : Z = Y + Y / 65536) (hV : V = Z + Z / 4294967296) :
    Y < 18446744073709551616 ∧ Z < 18446744073709551616 ∧ V < 9223372036854775808 ∧ V % 128 = p0 + (p1 + (p2 + (p3 + (p4 + (p5 + (p6 + p7)))))) := by
  have e1 : X / 256 = p1 + 256 * (p2 + 256 * (p3 + 256 * (p4 + 256 * (p5 + 256 * (p6 + 256 * p7))))) := by rw [hX]; exact div1 (by omega)
  have k4 : Y = p0 + p1 + 256 * (p1 + p2 + 256 * (p2 + p3 + 256 * (p3 + p4 + 256 * (p4 + p5 + 256 * (p5 + p6 + 256 * (p6 + p7 + 256 * p7)))))) := by rw [hY, e1, hX]; clear hX hY hZ hV e1; omega
  clear hX hY e1
  have e2 : Y / 65536 = p2 + p3 + 256 * (p3 + p4 + 256 * (p4 + p5 + 256 * (p5 + p6 + 256 * (p6 + p7 + 256 * p7)))) := by rw [k4]; exact div2 (by omega) (by omega)
  have k5 : Z = p0 + p1 + p2 + p3 + 256 * (p1 + p2 + p3 + p4 + 256 * (p2 + p3 + p4 + p5 + 256 * (p3 + p4 + p5 + p6 + 256 * (p4 + p5 + p6 + p7 + 256 * (p5 + p6 + p7 + 256 * (p6 + p7 + 256 * p7)))))) := by rw [hZ, e2, k4]; clear k4 hZ hV e2; omega
  clear hZ e2
  have e3 : Z / 4294967296 = p4 + p5 + p6 + p7 + 256 * (p5 + p6 + p7 + 256 * (p6 + p7 + 256 * p7)) := by rw [k5]; exact div4 (by omega) (by omega) (by omega) (by omega)
  have k6 : V = p0 + p1 + p2 + p3 + p4 + p5 + p6 + p7 + 256 * (p1 + p2 + p3 + p4 + p5 + p6 + p7 + 256 * (p2 + p3 + p4 + p5 + p6 + p7 + 256 * (p3 + p4 + p5 + p6 + p7 + 256 * (p4 + p5 + p6 + p7 + 256 * (p5 + p6 + p7 + 256 * (p6 + p7 + 256 * p7)))))) := by rw [hV, e3, k5]; clear k4 k5 hV e3; omega
  clear hV e3
  refine ⟨by rw [k4]; clear k4 k5 k6; omega, by rw [k5]; clear k4 k5 k6; omega, by rw [k6]; clear k4 k5 k6; omega, ?_⟩
  rw [k6]
  generalize p1 + p2 + p3 + p4 + p5 + p6 + p7 + 256 * (p2 + p3 + p4 + p5 + p6 + p7 + 256 * (p3 + p4 + p5 + p6 + p7 + 256 * (p4 + p5 + p6 + p7 + 256 * (p5 + p6 + p7 + 256 * (p6 + p7 + 256 * p7))))) = R
  clear k4 k5 k6
  omega
theorem x_bounds {x : Nat} (h : x < M64) : x1 x < M64 ∧ x2 x < M64 ∧ x2 x / 16 + x2 x < M64 ∧ x4 x < M64 ∧ x5 x < M64 ∧ x6 x < 9223372036854775808 ∧ x6 x % 128 = sumB 8 x := by
  obtain ⟨e1, e2, e3⟩ := x_is h
  have f1 : ∀ c, c < 256 → b1 c < 256 := fun c hc => (b_facts ⟨c, hc⟩).1
  have l1' : x1 x < M64 := by rw [e1]; exact mapB_lt (B := 0) f1 8 x
  have hp : ∀ c, c < 256 → pop8 c ≤ 8 := fun c hc => (b_facts ⟨c, hc⟩).2.2.2.2
  have hq : ∀ c, c < 256 → b2 (b1 c) ≤ 68 := fun c hc => (b_facts ⟨c, hc⟩).2.1
  have g2 : x2 x ≤ 68 * 72340172838076673 := by rw [e2]; exact map_le8 hq x
  obtain ⟨p0, p1, p2, p3, p4, p5, p6, p7, b0, b1', b2', b3', b4, b5, b6, b7, g3, g5⟩ := map_exp pop8 8 hp x
  rw [← e3] at g3
  have g4 := g5 sumB (fun _ _ => rfl) (fun _ => rfl)
  clear g5 e1 e2 e3 f1 hp hq
  have hM := M64_is
  obtain ⟨h4, h5, h6, h7⟩ := sums8 (X := x3 x) (Y := x4 x) (Z := x5 x) (V := x6 x) b0 b1' b2' b3' b4 b5 b6 b7 g3 rfl rfl rfl
  rw [hM]
  rw [hM] at l1'
  clear g3 b0 b1' b2' b3' b4 b5 b6 b7 h hM
  exact ⟨l1', by omega, by omega, h4, h5, h6, by rw [h7, g4]⟩
theorem cnt_split (n c y : Nat) (hc : c < 256) : ((List.range (8 + n)).filter (fun i => (c + 256 * y).testBit i)).length = pop8 c + ((List.range n).filter (fun i => y.testBit i)).length := by
  have hb : ∀ i, (c + 256 * y).testBit i = if i < 8 then c.testBit i else y.testBit (i - 8) := by
    intro i
    rw [Nat.add_comm, show 256 = 2 ^ 8 by rfl]
    exact Nat.testBit_two_pow_mul_add y hc i
  rw [List.range_add, List.filter_append, List.length_append]
  congr 1
  · unfold pop8
    congr 1
    apply List.filter_congr
    intro i hi
    rw [hb, if_pos (List.mem_range.1 hi)]
  · rw [List.filter_map, List.length_map]
    congr 1
    apply List.filter_congr
    intro i hi
    show (c + 256 * y).testBit (8 + i) = _
    rw [hb, if_neg (by omega), show 8 + i - 8 = i by omega]
theorem sum_cnt : ∀ (n x : Nat), sumB n x = ((List.range (8 * n)).filter (fun i => x.testBit i)).length
  | 0, x => rfl
  | n + 1, x => by
    have h := cnt_split (8 * n) (x % 256) (x / 256) (by omega)
    rw [← split_byte x, ← sum_cnt n (x / 256)] at h
    show pop8 (x % 256) + sumB n (x / 256) = _
    rw [← h, Nat.mul_succ, Nat.add_comm 8]
theorem ones_len {x : Nat} (h : x < M64) : x6 x % 128 = (memL x).length := by
  rw [(x_bounds h).2.2.2.2.2.2, sum_cnt]; rfl
end Go.Proofs.YtmkmmggimokagaaGreatDoor
namespace Go.Proofs.YtmkmmggimokagaaGreatDoor
set_option linter.unusedVariables false
open Go.RowKit
theorem and64 {a b : Nat} (ha : a < M64) (hb : b < M64) : bits .and .u64 (a : Int) (b : Int) = ((a &&& b : Nat) : Int) := u64_and_nat a b (by rw [M64_is] at ha; exact ha) (by rw [M64_is] at hb; exact hb)
theorem or64 {a b : Nat} (ha : a < M64) (hb : b < M64) : bits .or .u64 (a : Int) (b : Int) = ((a ||| b : Nat) : Int) := u64_or_nat a b (by rw [M64_is] at ha; exact ha) (by rw [M64_is] at hb; exact hb)
theorem andNot64 {a b : Nat} (ha : a < M64) (hb : b < M64) : bits .andNot .u64 (a : Int) (b : Int) = ((diff a b : Nat) : Int) := by
  rw [u64_andNot_nat a b (by rw [M64_is] at ha; exact ha) (by rw [M64_is] at hb; exact hb)]
  unfold diff
  rw [M64_is]
theorem wrap64_lt {a : Nat} (ha : a < M64) : IntKind.u64.wrap (a : Int) = (a : Int) := by rw [M64_is] at ha; rw [IntKind.wrap_u64]; omega
theorem i64_and127 {a : Nat} (ha : a < 9223372036854775808) : bits .and .i64 (a : Int) 127 = ((a % 128 : Nat) : Int) := by
  have h1 : (BitVec.ofInt 64 (a : Int)).toNat = a := by rw [BitVec.ofInt_natCast, BitVec.toNat_ofNat]; exact Nat.mod_eq_of_lt (by omega)
  have h2 : (BitVec.ofInt 64 (127 : Int)).toNat = 127 := by decide
  have h3 : a &&& 127 = a % 128 := Nat.and_two_pow_sub_one_eq_mod a 7
  show IntKind.i64.wrap ((BitVec.ofInt 64 (a : Int) &&& BitVec.ofInt 64 (127 : Int)).toNat : Int) = _
  rw [BitVec.toNat_and, h1, h2, IntKind.wrap_i64, h3]
  omega
theorem o1 {x : Nat} (hx : x < M64) : IntKind.u64.wrap (bits .and .u64 ((x : Int) / 2) 6148914691236517205 + bits .and .u64 (x : Int) 6148914691236517205) = ((x1 x : Nat) : Int) := by
  have hc : (6148914691236517205 : Nat) < M64 := by rw [M64_is]; omega
  have e1 := and64 (a := x / 2) (b := 6148914691236517205) (by omega) hc
  have e2 := and64 (a := x) (b := 6148914691236517205) hx hc
  have e3 : ((x : Int) / 2) = ((x / 2 : Nat) : Int) := by omega
  have e4 : (6148914691236517205 : Int) = ((6148914691236517205 : Nat) : Int) := rfl
  rw [e3, e4, e1, e2]
  have := wrap64_lt (x_bounds hx).1
  unfold x1 at this ⊢
  rw [← this]; congr 1
theorem o2 {x : Nat} (hx : x < M64) : IntKind.u64.wrap (bits .and .u64 (((x1 x : Nat) : Int) / 4) 3689348814741910323 + bits .and .u64 ((x1 x : Nat) : Int) 3689348814741910323) = ((x2 x : Nat) : Int) := by
  have hc : (3689348814741910323 : Nat) < M64 := by rw [M64_is]; omega
  have h1 := (x_bounds hx).1
  have e1 := and64 (a := x1 x / 4) (b := 3689348814741910323) (by omega) hc
  have e2 := and64 (a := x1 x) (b := 3689348814741910323) h1 hc
  have e3 : (((x1 x : Nat) : Int) / 4) = ((x1 x / 4 : Nat) : Int) := by omega
  have e4 : (3689348814741910323 : Int) = ((3689348814741910323 : Nat) : Int) := rfl
  rw [e3, e4, e1, e2]
  have := wrap64_lt (x_bounds hx).2.1
  unfold x2 at this ⊢
  rw [← this]; congr 1
theorem o3 {x : Nat} (hx : x < M64) : bits .and .u64 (IntKind.u64.wrap (((x2 x : Nat) : Int) / 16 + ((x2 x : Nat) : Int))) 1085102592571150095 = ((x3 x : Nat) : Int) := by
  have hc : (1085102592571150095 : Nat) < M64 := by rw [M64_is]; omega
  have h1 := (x_bounds hx).2.2.1
  have e3 : (((x2 x : Nat) : Int) / 16 + ((x2 x : Nat) : Int)) = ((x2 x / 16 + x2 x : Nat) : Int) := by omega
  have e4 : (1085102592571150095 : Int) = ((1085102592571150095 : Nat) : Int) := rfl
  rw [e3, wrap64_lt h1, e4, and64 h1 hc]
  rfl
theorem o4 {x : Nat} (hx : x < M64) : IntKind.u64.wrap (((x3 x : Nat) : Int) + ((x3 x : Nat) : Int) / 256) = ((x4 x : Nat) : Int) := by
  have e3 : (((x3 x : Nat) : Int) + ((x3 x : Nat) : Int) / 256) = ((x4 x : Nat) : Int) := by unfold x4; omega
  rw [e3, wrap64_lt (x_bounds hx).2.2.2.1]
theorem o5 {x : Nat} (hx : x < M64) : IntKind.u64.wrap (((x4 x : Nat) : Int) + ((x4 x : Nat) : Int) / 65536) = ((x5 x : Nat) : Int) := by
  have e3 : (((x4 x : Nat) : Int) + ((x4 x : Nat) : Int) / 65536) = ((x5 x : Nat) : Int) := by unfold x5; omega
  rw [e3, wrap64_lt (x_bounds hx).2.2.2.2.1]
theorem o6 {x : Nat} (hx : x < M64) : IntKind.u64.wrap (((x5 x : Nat) : Int) + ((x5 x : Nat) : Int) / 4294967296) = ((x6 x : Nat) : Int) := by
  have e3 : (((x5 x : Nat) : Int) + ((x5 x : Nat) : Int) / 4294967296) = ((x6 x : Nat) : Int) := by unfold x6; omega
  have h := (x_bounds hx).2.2.2.2.2.1
  rw [e3, wrap64_lt (by rw [M64_is]; omega)]
theorem ones_any (x : Nat) (w : World) (hx : x < M64) : Calls Tryz.prog 73 #[.int .u64 x] w fun e w' => e = .returned (.int .i64 (memL x).length) ∧ w = w' := by
  have f1 := o1 hx
  have f2 := o2 hx
  have f3 := o3 hx
  have f4 := o4 hx
  have f5 := o5 hx
  have f6 := o6 hx
  have h6 := (x_bounds hx).2.2.2.2.2.1
  have f7 : IntKind.i64.wrap ((x6 x : Nat) : Int) = ((x6 x : Nat) : Int) := IntWalk.i64_in _ (by omega)
  have f8 := i64_and127 h6
  have H := Lib.hid (ones_len hx)
  generalize x1 x = X1 at f1 f2
  generalize x2 x = X2 at f2 f3
  generalize x3 x = X3 at f3 f4
  generalize x4 x = X4 at f4 f5
  generalize x5 x = X5 at f5 f6
  generalize x6 x = X6 at f6 f7 f8 h6 H
  clear hx h6
  go_enter Tryz.func73, Tryz.ntmps73
  go_wp2
  go_ret
  exact ⟨ret_int (by rw [← H.out]; omega), rfl⟩
theorem pow_lt {n : Nat} (h : n < 64) : 2 ^ n < M64 := by unfold M64; exact Nat.pow_lt_pow_right (by omega) h
theorem one_any (n : Nat) (w : World) (hn : n < 64) : Calls Tryz.prog 96 #[.int .i64 n] w fun e w' => e = .returned (.int .u64 ((2 ^ n : Nat) : Int)) ∧ w = w' := by
  have k : IntKind.u64.wrap (n : Int) = (n : Int) := by rw [IntKind.wrap_u64]; omega
  have k2 : IntKind.u64.wrap ((2 : Int) ^ n) = ((2 ^ n : Nat) : Int) := by
    have := wrap64_lt (pow_lt hn)
    rw [← this]; congr 1
  obtain ⟨p, hp⟩ : ∃ p, 2 ^ n = p := ⟨_, rfl⟩
  rw [hp] at k2
  have H := Lib.hid hp
  clear hp
  rw [H.out]
  go_enter Tryz.func96, Tryz.ntmps96
  go_wp2
  go_ret
  exact ⟨rfl, rfl⟩
theorem all_any (n : Int) (w : World) (h1 : n ≤ 9223372036854775807) : Calls Tryz.prog 72 #[.int .i64 n] w fun e w' => e = .returned (.int .u64 (allS n)) ∧ w = w' := by
  by_cases h0 : n ≤ 0
  · have H : Hid (allS n = 0) := by show _ = _; unfold allS; rw [show n.toNat = 0 by omega]; rfl
    have t1 : decide (n ≤ 0) = true := by simpa using h0
    rw [H.out]
    clear h0
    go_enter Tryz.func72, Tryz.ntmps72
    go_wp2
    go_ret
    exact ⟨rfl, rfl⟩
  obtain ⟨m, rfl⟩ := Int.eq_ofNat_of_zero_le (show 0 ≤ n by omega)
  have hm0 : 0 < m := by omega
  by_cases h2 : 64 ≤ m
  · have H : Hid (allS m = 18446744073709551615) := by show _ = _; unfold allS; rw [show min (m : Int).toNat 64 = 64 by omega]
    rw [H.out]
    clear h0
    go_enter Tryz.func72, Tryz.ntmps72
    go_wp2
    go_ret
    exact ⟨rfl, rfl⟩
  have H : Hid (allS m = 2 ^ m - 1) := by show _ = _; unfold allS; rw [show min (m : Int).toNat 64 = m by omega]
  have hc := Lib.hid (fun v => one_any m v (by omega))
  obtain ⟨p, hp⟩ : ∃ p : Nat, Hid (2 ^ m = p) := ⟨2 ^ m, rfl⟩
  have hp0 : 0 < p := by rw [← hp.out]; exact Nat.pow_pos (by omega)
  have hpl : p < M64 := by rw [← hp.out]; exact pow_lt (by omega)
  rw [hp.out] at hc
  have k : IntKind.u64.wrap ((p : Int) - 1) = ((p - 1 : Nat) : Int) := by
    rw [← wrap64_lt (show p - 1 < M64 by omega)]; congr 1; omega
  rw [H.out, hp.out]
  generalize p - 1 = q at k
  have hm64 : m < 64 := by omega
  clear h0 h2 hp0 hpl
  go_enter Tryz.func72, Tryz.ntmps72
  go_wp2_with (go_at_call 96; refine (hc.out _).mono ?_; rintro e w' ⟨rfl, rfl⟩)
  go_ret
  exact ⟨rfl, rfl⟩
theorem and_pow {s n : Nat} : (s &&& 2 ^ n = 0) ↔ s.testBit n = false := by
  constructor
  · intro h
    have := congrArg (fun x => x.testBit n) h
    simpa [Nat.testBit_and, Nat.testBit_two_pow] using this
  · intro h
    apply Nat.eq_of_testBit_eq
    intro i
    rw [Nat.testBit_and, Nat.testBit_two_pow, Nat.zero_testBit]
    by_cases e : n = i
    · subst e; rw [h]; rfl
    · simp [e]
theorem cnt09_any (s : Nat) (w : World) (hs : s < M64) : Calls Tryz.prog 54 #[.int .u64 s] w fun e w' => e = .returned (.int .i64 (memL s).length) ∧ w = w' := by
  have hc := Lib.hid (fun v => ones_any s v hs)
  go_enter Tryz.func54, Tryz.ntmps54
  go_wp2_with (go_at_call 73; refine (hc.out _).mono ?_; rintro e w' ⟨rfl, rfl⟩)
  go_ret
  exact ⟨rfl, rfl⟩
theorem take_snocN {α : Type} {l : List α} {k : Nat} {r : α} (h : l[k]? = some r) : l.take (k + 1) = l.take k ++ [r] := by rw [List.take_add_one, h]; rfl
/-- the cells of a slice of ints, at a place -/
theorem Reads.num_at {w : World} {B n k : Nat} {A : Option Addr} {l : List Int} (h : Reads w B 1 A n (ints l)) (hk : k < n) :
    ∃ b o x, A = some ⟨b, o, none⟩ ∧ b < B ∧ Hid (l[k]? = some x) ∧ w.cell? ⟨b, o + k, none⟩ = some (.int .i64 x) := by
  obtain ⟨b, o, e, hb, hc⟩ := h.plain (by omega) (by omega)
  have hl : l.length = n := h.len
  have hx : l[k]? = some (l[k]'(by omega)) := List.getElem?_eq_getElem (by omega)
  exact ⟨b, o, _, e, hb, hx, hc k _ (by rw [ints, List.getElem?_map, hx]; rfl)⟩
theorem ofOk_snoc {l : List Int} {x : Int} (h : ofOk l) (h0 : 0 ≤ x) (h1 : x < 64) (h2 : x ∉ l) : ofOk (l ++ [x]) := by
  refine ⟨fun y hy => ?_, ?_⟩
  · rw [List.mem_append, List.mem_singleton] at hy
    rcases hy with hy | rfl
    · exact h.1 y hy
    · exact ⟨h0, h1⟩
  · rw [List.nodup_append]
    refine ⟨h.2, by simp, fun a ha b hb => ?_⟩
    rw [List.mem_singleton] at hb
    subst hb
    rintro rfl
    exact h2 ha
theorem ofP_no {l : List Int} {k : Nat} {x : Int} (h : l[k]? = some x) (hb : x < 0 ∨ 64 ≤ x ∨ x ∈ l.take k) : ofP l = (0, 90) := by
  unfold ofP
  rw [if_neg]
  rintro ⟨h1, h2⟩
  have h3 := h1 x (List.mem_of_getElem? h)
  rcases hb with hb | hb | hb
  · omega
  · omega
  · obtain ⟨j, hj, e⟩ := List.mem_take_iff_getElem.1 hb
    obtain ⟨hk, e2⟩ := List.getElem?_eq_some_iff.1 h
    have := (List.getElem_inj (h₀ := by omega) (h₁ := hk) h2).1 (e.trans e2.symm)
    omega
theorem mem_toNat {l : List Int} (h : ∀ x ∈ l, 0 ≤ x ∧ x < 64) (m : Nat) : m ∈ l.map Int.toNat ↔ (m : Int) ∈ l := by
  rw [List.mem_map]
  constructor
  · rintro ⟨x, hx, rfl⟩
    have := h x hx
    rw [Int.toNat_of_nonneg this.1]; exact hx
  · intro hm
    exact ⟨_, hm, by simp⟩
theorem of_lt {l : List Int} (h : ofOk l) : setL (l.map Int.toNat) < M64 := setL_lt (fun i hi => by
  obtain ⟨x, hx, rfl⟩ := List.mem_map.1 hi
  have := h.1 x hx; omega)
theorem Tryz.infoI : (Tryz.prog.info? 3).map (fun i => (i.zero, i.size, i.bytes)) = some (some (.int .i64 0), 1, 8) := by kernel_rfl
theorem ints_app (a b : List Int) : ints (a ++ b) = ints a ++ ints b := by simp [ints]
theorem ints_1 (l : List Int) : ∀ u ∈ ints l, u.oneCell' = true := by
  intro u hu
  simp only [ints, List.mem_map] at hu
  obtain ⟨x, _, rfl⟩ := hu
  rfl
theorem app_i {w : World} {ops : Array Oper} {rest : List Oper} {o : Oper} {a : Act} {Q : Exit → Act → World → Prop} {s x : Operand}
    (hgd : o.guard = none) (ho : o.op = .call { callee := .builtin .append, args := #[s, x], argTypes := #[38, 38] })
    (base : Nat) {v : Value} {n : Nat} {xs : List Int} (hs : a.eval s = v) (hown : Owns w base 3 1 v n (ints xs))
    {B : Nat} {A : Option Addr} {m c : Nat} {news : List Int} (hx : a.eval x = .slice A m c) (hr : Reads w B 1 A m (ints news))
    (hlen : n + m ≤ 1000000) (hbase : base ≤ w.heap.size)
    (h : ∀ v' w', Owns w' base 3 1 v' (n + m) (ints (xs ++ news)) → AppKeeps base v w w' → (v'.ownBlock = v.ownBlock ∨ v'.ownBlock = some w.heap.size) → wpList Tryz.prog ops Q rest (a.put o.dst v') w') : wpList Tryz.prog ops Q (o :: rest) a w :=
  wp_app hgd ho Tryz.underlying38 Tryz.infoI rfl (by omega) base hs hown hx hr (ints_1 _) (by simp only [maxLen]; omega) (by omega) hbase (fun v' w' h1 => h v' w' (by rw [ints_app]; exact h1))
def natI (l : List Nat) : List Int := l.map (fun (x : Nat) => (x : Int))
theorem natI_app (a b : List Nat) : natI (a ++ b) = natI a ++ natI b := by simp [natI]
/-- a call hands back numbers of its own -/
def RetNs (w : World) (l : List Nat) (e : Ending) (w' : World) : Prop :=
  ∃ v, e = .returned v ∧ Owns w' w.heap.size 3 1 v l.length (ints (natI l)) ∧ Below w.heap.size w w'
def memK (s k : Nat) : List Nat := (List.range k).filter (fun i => s.testBit i)
theorem memK_succ (s k : Nat) : memK s (k + 1) = memK s k ++ (if s.testBit k then [k] else []) := by
  unfold memK; rw [List.range_succ, List.filter_append]
  congr 1
  simp [List.filter_cons]
theorem memK_len (s k : Nat) : (memK s k).length ≤ k := by
  have := List.length_filter_le (fun i => s.testBit i) (List.range k)
  unfold memK; simpa using this
def lowP (s : Nat) (n : Int) : Nat × Bool := if n < 0 ∨ ((memL s).length : Int) < n then (0, false) else (lowS s n.toNat, true)
def highP (s : Nat) (n : Int) : Nat × Bool := if n < 0 ∨ ((memL s).length : Int) < n then (0, false) else (highS s n.toNat, true)
/-- the library's table of bits -/
def DeB (w : World) : Prop := ∀ j, j < 64 → w.cell? ⟨5, j, none⟩ = some (.int .u8 (Lib.deBruijn64tab.getD j 0 : Nat))
theorem tz_key (x a : Nat) (hx : x < 18446744073709551616) (hx0 : x ≠ 0) (hlow : x &&& (18446744073709551616 - x) = a) :
    IntKind.u64.wrap (bits BinOp.and IntKind.u64 (x : Int) (IntKind.u64.wrap (-(x : Int))) * 285870213051353865) / 288230376151711744 = ((a * 285870213051353865 % 18446744073709551616 / 288230376151711744 : Nat) : Int) := by
  have e1 : IntKind.u64.wrap (-(x : Int)) = ((18446744073709551616 - x : Nat) : Int) := by rw [IntKind.wrap_u64]; omega
  rw [e1, u64_and_nat x _ hx (by omega), hlow, IntKind.wrap_u64]
  omega
set_option maxHeartbeats 1000000 in
theorem tz_core (x k idx : Nat) (w : World) (hx0 : ((x : Int) == 0) = false)
    (key : IntKind.u64.wrap (bits BinOp.and IntKind.u64 (x : Int) (IntKind.u64.wrap (-(x : Int))) * 285870213051353865) / 288230376151711744 = (idx : Int))
    (hi : idx < 64) (hk : k < 64) (hcell : w.cell? ⟨5, idx, none⟩ = some (.int .u8 k)) :
    Calls Tryz.prog 156 #[.int .u64 x] w fun e w' => e = .returned (.int .i64 k) ∧ w = w' := by
  go_enter Tryz.func156, Tryz.ntmps156
  go_wp2_with (simp only [key])
  go_ret
  exact ⟨rfl, rfl⟩
theorem tz_zero (w : World) : Calls Tryz.prog 156 #[.int .u64 0] w fun e w' => e = .returned (.int .i64 64) ∧ w = w' := by
  go_enter Tryz.func156, Tryz.ntmps156
  go_wp2
  go_ret
  exact ⟨rfl, rfl⟩
theorem tz_any (x : Nat) (w : World) (hx : x < M64) (hT : DeB w) : Calls Tryz.prog 156 #[.int .u64 x] w fun e w' => e = .returned (.int .i64 (Lib.ctz 64 x)) ∧ w = w' := by
  have hx' : x < 18446744073709551616 := by rw [M64_is] at hx; exact hx
  by_cases hx0 : x = 0
  · subst hx0
    exact tz_zero w
  · obtain ⟨hlow, hk⟩ := Lib.lowest_bit 64 x hx0 hx'
    obtain ⟨hi, htab⟩ := Lib.deBruijn64_at _ hk
    have hcell := hT _ hi
    rw [htab] at hcell
    exact tz_core x _ _ w (by simp; omega) (tz_key x _ hx' hx0 hlow) hi hk hcell
theorem memK_end {s k : Nat} (hs : s < M64) (h : s / 2 ^ k = 0) (hk : k ≤ 64) : memK s k = memL s := by
  refine sorted_ext ((List.pairwise_lt_range).filter _) (memL_sorted s) (fun i => ?_)
  rw [mem_memL]
  unfold memK
  simp only [List.mem_filter, List.mem_range]
  constructor
  · rintro ⟨h1, h2⟩; exact ⟨by omega, h2⟩
  · rintro ⟨h1, h2⟩
    refine ⟨?_, h2⟩
    rcases Nat.lt_or_ge i k with h3 | h3
    · exact h3
    · have h4 : s < 2 ^ k := by
        rcases Nat.lt_or_ge s (2 ^ k) with h5 | h5
        · exact h5
        · have := Nat.div_pos h5 (Nat.pow_pos (by omega)); omega
      have : s < 2 ^ i := Nat.lt_of_lt_of_le h4 (Nat.pow_le_pow_right (by omega) h3)
      rw [Nat.testBit_lt_two_pow this] at h2; cases h2
theorem add_or {q m : Nat} (hq : q < M64) (hm : m < 64) (h : q.testBit m = false) : q + 2 ^ m = q ||| 2 ^ m := by
  have h1 : q < 2 ^ 65 := Nat.lt_of_lt_of_le hq (by decide)
  have hp := pow_lt hm
  have h2 : 2 ^ m < 2 ^ 65 := Nat.lt_of_lt_of_le hp (by decide)
  have hz : BitVec.ofNat 65 q &&& BitVec.ofNat 65 (2 ^ m) = 0#65 := by
    apply BitVec.eq_of_toNat_eq
    rw [BitVec.toNat_and, BitVec.toNat_ofNat, BitVec.toNat_ofNat, Nat.mod_eq_of_lt h1, Nat.mod_eq_of_lt h2]
    exact and_pow.2 h
  have e := congrArg BitVec.toNat (BitVec.add_eq_or_of_and_eq_zero _ _ hz)
  rw [BitVec.toNat_add, BitVec.toNat_or, BitVec.toNat_ofNat, BitVec.toNat_ofNat, Nat.mod_eq_of_lt h1, Nat.mod_eq_of_lt h2] at e
  rw [Nat.mod_eq_of_lt] at e
  · exact e
  · unfold M64 at hq hp; omega
theorem or_in {q m : Nat} (h : q.testBit m = true) : q ||| 2 ^ m = q := by
  apply Nat.eq_of_testBit_eq
  intro i
  rw [Nat.testBit_or, Nat.testBit_two_pow]
  by_cases e : m = i
  · subst e; simp [h]
  · simp [e]
theorem natI_at {l : List Nat} {k : Nat} {x : Int} (h : (natI l)[k]? = some x) : ∃ m : Nat, x = (m : Int) ∧ l[k]? = some m := by
  unfold natI at h
  rw [List.getElem?_map] at h
  cases hl : l[k]? with
  | none => rw [hl] at h; cases h
  | some m => rw [hl] at h; exact ⟨m, by simpa using h.symm, rfl⟩
theorem natI_len (l : List Nat) : (natI l).length = l.length := by simp [natI]
theorem range_app (k : Nat) : natI (List.range (k + 1)) = natI (List.range k) ++ [(k : Int)] := by rw [List.range_succ, natI_app]; rfl
theorem natI_toNat {l : List Int} (h : ∀ x ∈ l, 0 ≤ x ∧ x < 64) : natI (l.map Int.toNat) = l := by
  unfold natI
  rw [List.map_map]
  conv => rhs; rw [← List.map_id l]
  refine List.map_congr_left (fun x hx => ?_)
  have := h x hx
  simp; omega
theorem ofOk_nil : ofOk [] := ⟨by simp, by simp⟩
theorem ints_drop (l : List Int) (k : Nat) : (ints l).drop k = ints (l.drop k) := by simp [ints, List.map_drop]
theorem ints_take (l : List Int) (k : Nat) : (ints l).take k = ints (l.take k) := by simp [ints, List.map_take]
theorem natI_drop (l : List Nat) (k : Nat) : (natI l).drop k = natI (l.drop k) := by simp [natI, List.map_drop]
theorem natI_take (l : List Nat) (k : Nat) : (natI l).take k = natI (l.take k) := by simp [natI, List.map_take]
theorem Reads.pre1 {w : World} {B n : Nat} {A : Option Addr} {xs : List Value} (h : Reads w B 1 A n xs) {k : Nat} (hk : k ≤ n) : Reads w B 1 A k (xs.take k) := by
  refine ⟨by rw [List.length_take, h.1]; omega, fun h0 => ?_⟩
  obtain ⟨ad, e, hb, hc⟩ := h.2 (by omega)
  refine ⟨ad, e, hb, fun j u hu => hc j u ?_⟩
  rw [List.getElem?_take] at hu
  split at hu
  · exact hu
  · cases hu
theorem elemI : Tryz.prog.elem 38 = 3 := by kernel_rfl
theorem sizeI (v : World) : (sizeOf (Tryz.prog.elem 38)).run Tryz.prog v = .ok 1 v := by rw [elemI]; exact Tryz.sizeOf3 v
set_option maxRecDepth 1000000 in
theorem cut_lo {w : World} {B n c : Nat} {A : Option Addr} {l : List Nat} (h : Reads w B 1 A n (ints (natI l))) (hcap : n ≤ c) {i : Nat} (hi : i ≤ n) :
    ∃ A' c', (∀ v : World, (Instr.slice 38 (.slice A n c) (some (.int .i64 (i : Int))) none none).run Tryz.prog v = .ok (.slice A' (n - i) c') v) ∧
      (∀ v : World, (Instr.sliceAt 38 (.slice A n c) (some (.int .i64 (i : Int))) none none).run Tryz.prog v = .ok (.slice A' (n - i) c') v) ∧
      Reads w B 1 A' (n - i) (ints (natI (l.drop i))) := by
  have h1 : ∀ v : World, (Instr.slice 38 (.slice A n c) (some (.int .i64 (i : Int))) none none).run Tryz.prog v = .ok (.slice (if c = i then A else A.map (·.add (i * 1))) (n - i) (c - i)) v := by
    intro v
    rw [run_slice_l v 38 A n c Tryz.underlying38 .i64 (i : Int) (by omega) (by omega), sizeI v]
    simp [Result.andThen, sliced]
  refine ⟨_, _, h1, fun v => ?_, ?_⟩
  · rw [run_sliceAt_slice v _ _ _ _ _ Tryz.underlying38]; exact h1 v
  · have := h.cut hi hcap
    rw [Nat.mul_one] at this ⊢
    rw [ints_drop, natI_drop] at this
    exact this
set_option maxRecDepth 1000000 in
theorem cut_hi {w : World} {B n c : Nat} {A : Option Addr} {l : List Nat} (h : Reads w B 1 A n (ints (natI l))) (hcap : n ≤ c) {i : Nat} (hi : i ≤ n) :
    ∃ A' c', (∀ v : World, (Instr.slice 38 (.slice A n c) none (some (.int .i64 (i : Int))) none).run Tryz.prog v = .ok (.slice A' i c') v) ∧
      (∀ v : World, (Instr.sliceAt 38 (.slice A n c) none (some (.int .i64 (i : Int))) none).run Tryz.prog v = .ok (.slice A' i c') v) ∧
      Reads w B 1 A' i (ints (natI (l.take i))) := by
  have h1 : ∀ v : World, (Instr.slice 38 (.slice A n c) none (some (.int .i64 (i : Int))) none).run Tryz.prog v = .ok (.slice (if c = 0 then A else A.map (·.add (0 * 1))) i c) v := by
    intro v
    rw [run_slice_h v 38 A n c Tryz.underlying38 .i64 (i : Int) (by omega) (by omega), sizeI v]
    simp [Result.andThen, sliced]
  refine ⟨_, _, h1, fun v => ?_, ?_⟩
  · rw [run_sliceAt_slice v _ _ _ _ _ Tryz.underlying38]; exact h1 v
  · have h2 := (h.cut (Nat.zero_le n) hcap).pre1 (k := i) (by omega)
    rw [Nat.zero_mul] at h2 ⊢
    rw [List.drop_zero, ints_take, natI_take] at h2
    exact h2
theorem rsame_any (A A2 : Option Addr) (n m c c2 B : Nat) (l l2 : List Int) (w : World) (hr : Reads w B 1 A n (ints l)) (hr2 : Reads w B 1 A2 m (ints l2)) (hn : n ≤ 1000000) (hm : m ≤ 1000000) (hB : B ≤ w.heap.size) :
    Calls Tryz.prog 12 #[.slice A n c, .slice A2 m c2] w fun e w' => e = .returned (.bool (decide (l = l2))) ∧ Below w.heap.size w w' := by
  have hlen : Hid (l.length = n) := hr.len
  have hlen2 : Hid (l2.length = m) := hr2.len
  obtain ⟨R, hR⟩ : ∃ R, Hid (decide (l = l2) = R) := ⟨_, rfl⟩
  rw [hR.out]
  by_cases hnm : n = m
  · subst hnm
    have t0 : ((n : Int) != (n : Int)) = false := by simp
    go_enter Tryz.func12, Tryz.ntmps12
    go_wp2
    go_loopw [5] (fun i wr => ∃ (k p : Nat), k ≤ n ∧ i = .int .i64 k ∧ wr = w.drewN p ∧ Hid (l.take k = l2.take k)) (fun i _ => n - (intOf i).toNat)
    case atStart => exact ⟨0, 0, Nat.zero_le _, rfl, rfl, by show _ = _; simp⟩
    case round =>
      obtain ⟨k, p, hk, rfl, rfl, HO⟩ := hrel
      by_cases hlt : k < n
      · obtain ⟨b, o, x, rfl, hbb, hx, c0⟩ := hr.num_at hlt
        obtain ⟨b2, o2, y, rfl, hbb2, hy, d0⟩ := hr2.num_at hlt
        have hj0 : (0 : Int) ≤ (k : Int) := by omega
        have hj1 : (k : Int) < (n : Int) := by omega
        clear hr hr2
        by_cases hxy : x = y
        · have HO2 : Hid (l.take (k + 1) = l2.take (k + 1)) := by show _ = _; rw [take_snocN hx.out, take_snocN hy.out, HO.out, hxy]
          have t3 : (x != y) = false := by simpa using hxy
          clear hxy
          go_wp2
          go_quiet (fail)
          go_wp2
          go_roundw
          case rel => exact ⟨k + 1, _, by omega, by go_num, by first | rfl | exact World.drewN_drewN _ _ _, HO2⟩
          case measure => simp [intOf]; omega
        · have hF : Hid (R = false) := by
            show _ = _
            rw [← hR.out]
            simp only [decide_eq_false_iff_not]
            intro e
            have := hx.out.symm.trans ((congrArg (fun z => z[k]?) e).trans hy.out)
            exact hxy (by simpa using this)
          have t3 : (x != y) = true := by simpa using hxy
          clear hxy
          go_wp2
          go_quiet (fail)
          go_wp2
          go_ret
          rw [hF.out]
          exact ⟨rfl, below_drewN (below_drewN (Below.refl _ _) _) _⟩
      · have hT : Hid (R = true) := by
          show _ = _
          rw [← hR.out]
          have h1 := HO.out
          rw [List.take_of_length_le (by rw [hlen.out]; omega), List.take_of_length_le (by rw [hlen2.out]; omega)] at h1
          simpa using h1
        clear hr hr2
        go_wp2
        go_ret
        rw [hT.out]
        exact ⟨rfl, below_drewN (Below.refl _ _) _⟩
  · have hF : Hid (R = false) := by
      show _ = _
      rw [← hR.out]
      simp only [decide_eq_false_iff_not]
      intro e
      have := congrArg List.length e
      rw [hlen.out, hlen2.out] at this
      exact hnm this
    have t0 : ((n : Int) != (m : Int)) = true := by simp; omega
    clear hr hr2 hnm
    go_enter Tryz.func12, Tryz.ntmps12
    go_wp2
    go_ret
    rw [hF.out]
    exact ⟨rfl, Below.refl _ _⟩
end Go.Proofs.YtmkmmggimokagaaGreatDoor
