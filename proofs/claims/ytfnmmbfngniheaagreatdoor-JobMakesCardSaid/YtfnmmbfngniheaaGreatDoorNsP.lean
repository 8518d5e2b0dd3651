/- Layer 9, plain: sets of nodes as numbers: members, least and greatest ones. -/
import Derived.Test.YtfnmmbfngniheaaGreatDoorK1
namespace Go.Proofs.YtfnmmbfngniheaaGreatDoor
set_option linter.unusedVariables false
open Go.RowKit
/-- one more than the greatest word -/
def M64 : Nat := 2 ^ 64
theorem M64_is : M64 = 18446744073709551616 := by decide
def memL (s : Nat) : List Nat := (List.range 64).filter (fun i => s.testBit i)
def setL (l : List Nat) : Nat := l.foldl (fun a i => a ||| 2 ^ i) 0
theorem setL_from : ∀ (l : List Nat) (a i : Nat), (l.foldl (fun a i => a ||| 2 ^ i) a).testBit i = (a.testBit i || decide (i ∈ l))
  | [], a, i => by simp
  | x :: t, a, i => by
    rw [List.foldl_cons, setL_from t, Nat.testBit_or, Nat.testBit_two_pow]
    by_cases h : x = i <;> simp [h, eq_comm]
theorem setL_bit (l : List Nat) (i : Nat) : (setL l).testBit i = decide (i ∈ l) := by unfold setL; rw [setL_from]; simp
theorem setL_snoc (l : List Nat) (i : Nat) : setL (l ++ [i]) = setL l ||| 2 ^ i := by unfold setL; rw [List.foldl_append]; rfl
theorem setL_lt {l : List Nat} (h : ∀ i ∈ l, i < 64) : setL l < M64 := by
  unfold M64
  refine Nat.lt_pow_two_of_testBit _ (fun i hi => ?_)
  rw [setL_bit]
  have : i ∉ l := fun hh => by have := h i hh; omega
  simp [this]
theorem bit_lt {s i : Nat} (hs : s < M64) (h : s.testBit i = true) : i < 64 := by
  rcases Nat.lt_or_ge i 64 with hi | hi
  · exact hi
  · have : s < 2 ^ i := Nat.lt_of_lt_of_le hs (Nat.pow_le_pow_right (by omega) hi)
    rw [Nat.testBit_lt_two_pow this] at h; cases h
theorem mem_memL {s i : Nat} : i ∈ memL s ↔ i < 64 ∧ s.testBit i = true := by unfold memL; simp
theorem setL_memL {s : Nat} (hs : s < M64) : setL (memL s) = s := by
  apply Nat.eq_of_testBit_eq
  intro i
  rw [setL_bit]
  by_cases h : s.testBit i = true
  · rw [h]; simp [mem_memL, h, bit_lt hs h]
  · have h' : s.testBit i = false := by simpa using h
    rw [h']; simp [mem_memL, h']
theorem memL_sorted (s : Nat) : (memL s).Pairwise (· < ·) := (List.pairwise_lt_range).filter _
theorem memL_nodup (s : Nat) : (memL s).Nodup := (memL_sorted s).imp (fun h => Nat.ne_of_lt h)
theorem memL_lt (s : Nat) : ∀ i ∈ memL s, i < 64 := fun i h => (mem_memL.1 h).1
theorem memL_len (s : Nat) : (memL s).length ≤ 64 := by
  have := List.length_filter_le (fun i => s.testBit i) (List.range 64)
  unfold memL; simpa using this
theorem memL_inj {a b : Nat} (ha : a < M64) (hb : b < M64) (h : memL a = memL b) : a = b := by rw [← setL_memL ha, h, setL_memL hb]
/-- two increasing lists with the same members are one -/
theorem sorted_ext : ∀ {a b : List Nat}, a.Pairwise (· < ·) → b.Pairwise (· < ·) → (∀ i, i ∈ a ↔ i ∈ b) → a = b
  | [], [], _, _, _ => rfl
  | [], y :: t, _, _, h => by have := (h y).2 (by simp); simp at this
  | x :: t, [], _, _, h => by have := (h x).1 (by simp); simp at this
  | x :: t, y :: u, ha, hb, h => by
    rw [List.pairwise_cons] at ha hb
    have hxy : x = y := by
      have h1 := (h x).1 (by simp)
      have h2 := (h y).2 (by simp)
      simp only [List.mem_cons] at h1 h2
      rcases h1 with h1 | h1
      · exact h1
      · rcases h2 with h2 | h2
        · exact h2.symm
        · have := ha.1 y h2; have := hb.1 x h1; omega
    subst hxy
    rw [sorted_ext ha.2 hb.2 (fun i => ?_)]
    have hi := h i
    simp only [List.mem_cons] at hi
    constructor
    · intro hh
      rcases hi.1 (.inr hh) with e | e
      · subst e; have := ha.1 i hh; omega
      · exact e
    · intro hh
      rcases hi.2 (.inr hh) with e | e
      · subst e; have := hb.1 i hh; omega
      · exact e
theorem memL_setL {l : List Nat} (h1 : l.Pairwise (· < ·)) (h2 : ∀ i ∈ l, i < 64) : memL (setL l) = l := by
  refine sorted_ext (memL_sorted _) h1 (fun i => ?_)
  rw [mem_memL, setL_bit]
  simp only [decide_eq_true_eq]
  exact ⟨fun h => h.2, fun h => ⟨h2 i h, h⟩⟩
/-- the first ones of an increasing list, and all others -/
theorem take_drop_mem {l : List Nat} (h : l.Nodup) (n i : Nat) : i ∈ l.take n ↔ i ∈ l ∧ i ∉ l.drop n := by
  have e := List.take_append_drop n l
  rw [← e] at h
  have hd := (List.nodup_append.1 h).2.2
  constructor
  · intro hi
    exact ⟨List.mem_of_mem_take hi, fun hj => hd i hi i hj rfl⟩
  · rintro ⟨hi, hj⟩
    rw [← e, List.mem_append] at hi
    exact hi.resolve_right hj
/-- the least one of a number's bits, cut off -/
theorem low_split {x : Nat} (h : 0 < x) : ∃ k q, x = 2 ^ (k + 1) * q + 2 ^ k := by
  induction x using Nat.strongRecOn with
  | _ x ih =>
    by_cases hx : x % 2 = 1
    · exact ⟨0, x / 2, by rw [Nat.pow_one, Nat.pow_zero]; omega⟩
    · obtain ⟨k, q, e⟩ := ih (x / 2) (by omega) (by omega)
      refine ⟨k + 1, q, ?_⟩
      have : x = 2 * (x / 2) := by omega
      rw [this, e, Nat.mul_add, ← Nat.mul_assoc, Nat.pow_succ 2 (k + 1), Nat.pow_succ 2 k]
      rw [Nat.mul_comm 2 (2 ^ k * 2), Nat.mul_comm 2 (2 ^ k)]
theorem low_bits (k q i : Nat) : (2 ^ (k + 1) * q + 2 ^ k).testBit i = if i < k then false else if i = k then true else q.testBit (i - (k + 1)) := by
  rw [Nat.testBit_two_pow_mul_add _ (Nat.pow_lt_pow_right (by omega) (by omega))]
  by_cases h1 : i < k
  · rw [if_pos (by omega), if_pos h1, Nat.testBit_two_pow]; simp; omega
  · rw [if_neg h1]
    by_cases h2 : i = k
    · subst h2; rw [if_pos (by omega), if_pos rfl, Nat.testBit_two_pow]; simp
    · rw [if_neg (by omega), if_neg h2]
theorem low_bits' (k q i : Nat) : (2 ^ (k + 1) * q + 2 ^ k - 1).testBit i = if i < k then true else if i = k then false else q.testBit (i - (k + 1)) := by
  have hp : 0 < 2 ^ k := Nat.pow_pos (by omega)
  have hlt : 2 ^ k - 1 < 2 ^ (k + 1) := Nat.lt_of_le_of_lt (Nat.sub_le _ _) (Nat.pow_lt_pow_right (by omega) (by omega))
  rw [Nat.add_sub_assoc hp, Nat.testBit_two_pow_mul_add _ hlt]
  by_cases h1 : i < k
  · rw [if_pos (by omega), if_pos h1, Nat.testBit_two_pow_sub_one]; simp [h1]
  · rw [if_neg h1]
    by_cases h2 : i = k
    · subst h2; rw [if_pos (by omega), if_pos rfl, Nat.testBit_two_pow_sub_one]; simp
    · rw [if_neg (by omega), if_neg h2]
theorem clear_low {x : Nat} (h : 0 < x) (hx : x < M64) : memL (x &&& (x - 1)) = (memL x).drop 1 := by
  obtain ⟨k, q, e⟩ := low_split h
  have hb : ∀ i, x.testBit i = if i < k then false else if i = k then true else q.testBit (i - (k + 1)) := fun i => by rw [e]; exact low_bits k q i
  have hb' : ∀ i, (x &&& (x - 1)).testBit i = (x.testBit i && !decide (i = k)) := by
    intro i
    rw [Nat.testBit_and, hb, e, low_bits']
    by_cases h1 : i < k
    · simp [h1]
    · by_cases h2 : i = k
      · simp [h2]
      · simp [h1, h2]
  have hk : k < 64 := bit_lt hx (by rw [hb]; simp)
  have hs := memL_sorted x
  have hmem : ∀ i, i ∈ memL x → k ≤ i := by
    intro i hi
    have := (mem_memL.1 hi).2
    rw [hb] at this
    split at this
    · cases this
    · omega
  have hkm : k ∈ memL x := mem_memL.2 ⟨hk, by rw [hb]; simp⟩
  cases hl : memL x with
  | nil => rw [hl] at hkm; simp at hkm
  | cons y t =>
    rw [hl] at hs hkm hmem
    rw [List.pairwise_cons] at hs
    have hy : y = k := by
      have h1 := hmem y (by simp)
      simp only [List.mem_cons] at hkm
      rcases hkm with h2 | h2
      · exact h2.symm
      · have := hs.1 k h2; omega
    refine sorted_ext (memL_sorted _) hs.2 (fun i => ?_)
    rw [mem_memL, hb']
    have hi : i ∈ y :: t ↔ i < 64 ∧ x.testBit i = true := by rw [← hl]; exact mem_memL
    simp only [List.mem_cons] at hi
    simp only [Bool.and_eq_true, Bool.not_eq_true', decide_eq_false_iff_not]
    constructor
    · rintro ⟨h1, h2, h3⟩
      rcases hi.2 ⟨h1, h2⟩ with h4 | h4
      · rw [hy] at h4; exact absurd h4 h3
      · exact h4
    · intro h1
      obtain ⟨h2, h3⟩ := hi.1 (.inr h1)
      refine ⟨h2, h3, fun h4 => ?_⟩
      have := hs.1 i h1
      omega
theorem and_lt {a b : Nat} (h : a < M64) : a &&& b < M64 := Nat.lt_of_le_of_lt Nat.and_le_left h
theorem or_lt {a b : Nat} (ha : a < M64) (hb : b < M64) : a ||| b < M64 := Nat.or_lt_two_pow ha hb
def clr : Nat → Nat → Nat
  | 0, x => x
  | n + 1, x => clr n (x &&& (x - 1))
theorem clr_succ : ∀ (n x : Nat), clr (n + 1) x = clr n x &&& (clr n x - 1)
  | 0, x => rfl
  | n + 1, x => by show clr (n + 1) (x &&& (x - 1)) = _; rw [clr_succ n]; rfl
theorem clr_lt : ∀ (n x : Nat), x < M64 → clr n x < M64
  | 0, x, h => h
  | n + 1, x, h => clr_lt n _ (and_lt h)
theorem clr_mem : ∀ (n x : Nat), x < M64 → n ≤ (memL x).length → memL (clr n x) = (memL x).drop n
  | 0, x, h, _ => by simp [clr]
  | n + 1, x, h, hn => by
    have hx : 0 < x := by
      rcases Nat.eq_zero_or_pos x with h0 | h0
      · subst h0; have e : memL 0 = [] := by kernel_rfl
        rw [e] at hn; simp at hn
      · exact h0
    show memL (clr n (x &&& (x - 1))) = _
    have h1 := clear_low hx h
    rw [clr_mem n _ (and_lt h) (by rw [h1]; simp; omega), h1, List.drop_drop, Nat.add_comm]
/-- all but some -/
def diff (a b : Nat) : Nat := a &&& (M64 - 1 - b)
theorem M_bit {b : Nat} (hb : b < M64) (i : Nat) : (M64 - 1 - b).testBit i = (decide (i < 64) && !b.testBit i) := by
  unfold M64 at hb ⊢
  have := Nat.testBit_two_pow_sub_succ hb i
  rw [show 2 ^ 64 - 1 - b = 2 ^ 64 - (b + 1) by omega]
  exact this
theorem diff_bit {a b : Nat} (ha : a < M64) (hb : b < M64) (i : Nat) : (diff a b).testBit i = (a.testBit i && !b.testBit i) := by
  unfold diff
  rw [Nat.testBit_and, M_bit hb]
  by_cases h : a.testBit i = true
  · simp [h, bit_lt ha h]
  · simp at h; simp [h]
theorem diff_lt {a b : Nat} (ha : a < M64) : diff a b < M64 := and_lt ha
def lowS (s n : Nat) : Nat := setL ((memL s).take n)
def highS (s n : Nat) : Nat := setL ((memL s).drop ((memL s).length - n))
theorem lowS_lt (s n : Nat) : lowS s n < M64 := setL_lt (fun i hi => memL_lt s i (List.mem_of_mem_take hi))
theorem highS_lt (s n : Nat) : highS s n < M64 := setL_lt (fun i hi => memL_lt s i (List.mem_of_mem_drop hi))
theorem low_is {s n : Nat} (hs : s < M64) (hn : n ≤ (memL s).length) : diff s (clr n s) = lowS s n := by
  have hc := clr_lt n s hs
  apply Nat.eq_of_testBit_eq
  intro i
  rw [diff_bit hs hc]
  unfold lowS
  rw [setL_bit, Bool.eq_iff_iff]
  simp only [Bool.and_eq_true, Bool.not_eq_true', decide_eq_true_eq]
  rw [take_drop_mem (memL_nodup s), ← clr_mem n s hs hn]
  constructor
  · rintro ⟨h1, h2⟩
    exact ⟨mem_memL.2 ⟨bit_lt hs h1, h1⟩, fun h => by have := (mem_memL.1 h).2; rw [h2] at this; cases this⟩
  · rintro ⟨h1, h2⟩
    have h3 := mem_memL.1 h1
    refine ⟨h3.2, ?_⟩
    cases hb : (clr n s).testBit i with
    | false => rfl
    | true => exact absurd (mem_memL.2 ⟨h3.1, hb⟩) h2
theorem high_is {s n : Nat} (hs : s < M64) (hn : n ≤ (memL s).length) : diff s (lowS s ((memL s).length - n)) = highS s n := by
  apply Nat.eq_of_testBit_eq
  intro i
  rw [diff_bit hs (lowS_lt _ _)]
  unfold lowS highS
  rw [setL_bit, setL_bit, Bool.eq_iff_iff]
  simp only [Bool.and_eq_true, Bool.not_eq_true', decide_eq_true_eq, decide_eq_false_iff_not]
  rw [take_drop_mem (memL_nodup s)]
  constructor
  · rintro ⟨h1, h2⟩
    have h3 : i ∈ memL s := mem_memL.2 ⟨bit_lt hs h1, h1⟩
    exact Classical.byContradiction (fun h4 => h2 ⟨h3, h4⟩)
  · intro h1
    exact ⟨(mem_memL.1 (List.mem_of_mem_drop h1)).2, fun h => h.2 h1⟩
def allS (n : Int) : Nat := 2 ^ (min n.toNat 64) - 1
theorem allS_bit (n : Int) (i : Nat) : (allS n).testBit i = (decide ((i : Int) < n) && decide (i < 64)) := by
  unfold allS
  rw [Nat.testBit_two_pow_sub_one, Bool.eq_iff_iff]
  simp only [decide_eq_true_eq, Bool.and_eq_true]
  omega
theorem allS_lt (n : Int) : allS n < M64 := by
  unfold M64
  refine Nat.lt_pow_two_of_testBit _ (fun i hi => ?_)
  rw [allS_bit]; simp; omega
theorem allS_set (n : Int) : allS n = setL (List.range (min n.toNat 64)) := by
  apply Nat.eq_of_testBit_eq
  intro i
  rw [allS_bit, setL_bit, Bool.eq_iff_iff]
  simp only [decide_eq_true_eq, Bool.and_eq_true, List.mem_range]
  omega
/-- may numbers be a set? -/
def ofOk (l : List Int) : Prop := (∀ x ∈ l, 0 ≤ x ∧ x < 64) ∧ l.Nodup
instance (l : List Int) : Decidable (ofOk l) := by unfold ofOk; infer_instance
def ofP (l : List Int) : Nat × Int := if ofOk l then (setL (l.map Int.toNat), 0) else (0, 90)
def hasP (s : Nat) (n : Int) : Bool := decide (0 ≤ n) && decide (n < 64) && s.testBit n.toNat
end Go.Proofs.YtfnmmbfngniheaaGreatDoor
