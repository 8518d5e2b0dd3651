/- Bundle Q3. -/
import Derived.Test.YtghmcdfmbjabnaaGreatDoorK1t
import Derived.Laws.Bits64b
import Derived.Laws.BitsAllLaws
import Derived.Laws.ShiftsVarLaws
import Derived.Lib.TrailingZeros
import Derived.Deep.QuietTactic
import Derived.BigQuiet
namespace Go.Proofs.YtghmcdfmbjabnaaGreatDoor
set_option linter.unusedSimpArgs false
set_option maxRecDepth 100000
set_option linter.unusedVariables false
open Go.RowKit
def M64 : Nat := 2 ^ 64
theorem M64_is : M64 = 18446744073709551616 := by decide
def memL (s : Nat) : List Nat := (List.range 64).filter (fun i => s.testBit i)
theorem bit_lt {s i : Nat} (hs : s < M64) (h : s.testBit i = true) : i < 64 := by
  rcases Nat.lt_or_ge i 64 with hi | hi
  · exact hi
  · have : s < 2 ^ i := Nat.lt_of_lt_of_le hs (Nat.pow_le_pow_right (by omega) hi)
    rw [Nat.testBit_lt_two_pow this] at h; cases h
theorem mem_memL {s i : Nat} : i ∈ memL s ↔ i < 64 ∧ s.testBit i = true := by unfold memL; simp
theorem memL_sorted (s : Nat) : (memL s).Pairwise (· < ·) := (List.pairwise_lt_range).filter _
theorem sorted_ext : ∀ {a b : List Nat}, a.Pairwise (· < ·) → b.Pairwise (· < ·) → (∀ i, i ∈ a ↔ i ∈ b) → a = b
  | [], [], _, _, _ => rfl
  | [], y :: t, _, _, h => by have := (h y).2 (by simp); simp at this
  | x :: t, [], _, _, h => by have := (h x).1 (by simp); simp at this
  | x :: t, y :: u, ha, hb, h => by
    rw [List.pairwise_cons] at ha hb
    have hxy : x = y := by
      have h1 := (h x).1 (by simp)
      have h2 := (h y).2 (by simp)
      simp only [List.mem_cons] at h1 h2
      rcases h1 with h1 | h1
      · exact h1
      · rcases h2 with h2 | h2
        · exact h2.symm
        · have := ha.1 y h2; have := hb.1 x h1; omega
    subst hxy
    rw [sorted_ext ha.2 hb.2 (fun i => ?_)]
    have hi := h i
    simp only [List.mem_cons] at hi
    constructor
    · intro hh
      rcases hi.1 (.inr hh) with e | e
      · subst e; have := ha.1 i hh; omega
      · exact e
    · intro hh
      rcases hi.2 (.inr hh) with e | e
      · subst e; have := hb.1 i hh; omega
      · exact e
def diff (a b : Nat) : Nat := a &&& (M64 - 1 - b)
theorem M_bit {b : Nat} (hb : b < M64) (i : Nat) : (M64 - 1 - b).testBit i = (decide (i < 64) && !b.testBit i) := by
  unfold M64 at hb ⊢
  have := Nat.testBit_two_pow_sub_succ hb i
  rw [show 2 ^ 64 - 1 - b = 2 ^ 64 - (b + 1) by omega]
  exact this
theorem diff_bit {a b : Nat} (ha : a < M64) (hb : b < M64) (i : Nat) : (diff a b).testBit i = (a.testBit i && !b.testBit i) := by
  unfold diff
  rw [Nat.testBit_and, M_bit hb]
  by_cases h : a.testBit i = true
  · simp [h, bit_lt ha h]
  · simp at h; simp [h]
def allS (n : Int) : Nat := 2 ^ (min n.toNat 64) - 1
theorem allS_bit (n : Int) (i : Nat) : (allS n).testBit i = (decide ((i : Int) < n) && decide (i < 64)) := by
  unfold allS
  rw [Nat.testBit_two_pow_sub_one, Bool.eq_iff_iff]
  simp only [decide_eq_true_eq, Bool.and_eq_true]
  omega
theorem allS_lt (n : Int) : allS n < M64 := by
  unfold M64
  refine Nat.lt_pow_two_of_testBit _ (fun i hi => ?_)
  rw [allS_bit]; simp; omega
def ofOk (l : List Int) : Prop := (∀ x ∈ l, 0 ≤ x ∧ x < 64) ∧ l.Nodup
instance (l : List Int) : Decidable (ofOk l) := by unfold ofOk; infer_instance
end Go.Proofs.YtghmcdfmbjabnaaGreatDoor
namespace Go.Proofs.YtghmcdfmbjabnaaGreatDoor
set_option linter.unusedSimpArgs false
set_option maxRecDepth 100000
set_option linter.unusedVariables false
def mapB (f : Nat → Nat) : Nat → Nat → Nat
  | 0, _ => 0
  | n + 1, x => f (x % 256) + 256 * mapB f n (x / 256)
def repB (m : Nat) : Nat → Nat
  | 0 => 0
  | n + 1 => m + 256 * repB m n
theorem swar {c y m M k : Nat} (hk : k ≤ 8) (hc : c < 256) (hm : m < 2 ^ (8 - k)) : ((c + 256 * y) / 2 ^ k) &&& (m + 256 * M) = ((c / 2 ^ k) &&& m) + 256 * ((y / 2 ^ k) &&& M) := by
  have hm8 : m < 2 ^ 8 := Nat.lt_of_lt_of_le hm (Nat.pow_le_pow_right (by omega) (by omega))
  have ha : (c / 2 ^ k) &&& m < 2 ^ 8 := Nat.lt_of_le_of_lt Nat.and_le_right hm8
  apply Nat.eq_of_testBit_eq
  intro i
  have e1 : ∀ a b : Nat, b < 2 ^ 8 → ∀ j, (b + 256 * a).testBit j = if j < 8 then b.testBit j else a.testBit (j - 8) := by
    intro a b hb j
    rw [Nat.add_comm, show 256 = 2 ^ 8 by rfl]
    exact Nat.testBit_two_pow_mul_add a hb j
  rw [Nat.testBit_and, Nat.testBit_div_two_pow, e1 y c hc, e1 M m hm8, e1 _ _ ha]
  by_cases h8 : i < 8
  · rw [if_pos h8, if_pos h8, Nat.testBit_and, Nat.testBit_div_two_pow]
    by_cases h : i + k < 8
    · rw [if_pos h]
    · have : m.testBit i = false := Nat.testBit_lt_two_pow (Nat.lt_of_lt_of_le hm (Nat.pow_le_pow_right (by omega) (by omega)))
      rw [this]; simp
  · rw [if_neg h8, if_neg h8, if_neg (by omega), Nat.testBit_and, Nat.testBit_div_two_pow, show i + k - 8 = i - 8 + k by omega]
def b1 (c : Nat) : Nat := ((c / 2) &&& 85) + (c &&& 85)
def b2 (c : Nat) : Nat := ((c / 4) &&& 51) + (c &&& 51)
def b3 (c : Nat) : Nat := (c / 16 + c) % 16
def pop8 (c : Nat) : Nat := ((List.range 8).filter (fun i => c.testBit i)).length
theorem split_byte (x : Nat) : x = x % 256 + 256 * (x / 256) := by omega
theorem sw1 : ∀ (n x : Nat), x < 256 ^ n → ((x / 2) &&& repB 85 n) + (x &&& repB 85 n) = mapB b1 n x
  | 0, x, h => by simp [repB, mapB]
  | n + 1, x, h => by
    have hx := split_byte x
    have hy : x / 256 < 256 ^ n := by rw [Nat.pow_succ] at h; omega
    have h1 := swar (c := x % 256) (y := x / 256) (m := 85) (M := repB 85 n) (k := 1) (by omega) (by omega) (by decide)
    have h0 := swar (c := x % 256) (y := x / 256) (m := 85) (M := repB 85 n) (k := 0) (by omega) (by omega) (by decide)
    simp only [Nat.pow_one, Nat.pow_zero, Nat.div_one] at h1 h0
    rw [← hx] at h1 h0
    have ih := sw1 n (x / 256) hy
    show (x / 2 &&& (85 + 256 * repB 85 n)) + (x &&& (85 + 256 * repB 85 n)) = b1 (x % 256) + 256 * mapB b1 n (x / 256)
    rw [h1, h0, ← ih]; unfold b1; omega
theorem sw2 : ∀ (n x : Nat), x < 256 ^ n → ((x / 4) &&& repB 51 n) + (x &&& repB 51 n) = mapB b2 n x
  | 0, x, h => by simp [repB, mapB]
  | n + 1, x, h => by
    have hx := split_byte x
    have hy : x / 256 < 256 ^ n := by rw [Nat.pow_succ] at h; omega
    have h1 := swar (c := x % 256) (y := x / 256) (m := 51) (M := repB 51 n) (k := 2) (by omega) (by omega) (by decide)
    have h0 := swar (c := x % 256) (y := x / 256) (m := 51) (M := repB 51 n) (k := 0) (by omega) (by omega) (by decide)
    simp only [Nat.pow_zero, Nat.div_one, show 2 ^ 2 = 4 by rfl] at h1 h0
    rw [← hx] at h1 h0
    have ih := sw2 n (x / 256) hy
    show (x / 4 &&& (51 + 256 * repB 51 n)) + (x &&& (51 + 256 * repB 51 n)) = b2 (x % 256) + 256 * mapB b2 n (x / 256)
    rw [h1, h0, ← ih]; unfold b2; omega
theorem mapB_lt {f : Nat → Nat} {B : Nat} (hf : ∀ c, c < 256 → f c < 256) : ∀ (n x : Nat), mapB f n x < 256 ^ n
  | 0, x => by simp [mapB]
  | n + 1, x => by
    have h1 := mapB_lt (B := B) hf n (x / 256)
    have h2 := hf (x % 256) (by omega)
    show f (x % 256) + 256 * mapB f n (x / 256) < 256 ^ (n + 1)
    rw [Nat.pow_succ]; omega
theorem mapB_comp {f g : Nat → Nat} (hg : ∀ c, c < 256 → g c < 256) : ∀ (n x : Nat), mapB f n (mapB g n x) = mapB (fun c => f (g c)) n x
  | 0, x => rfl
  | n + 1, x => by
    have h2 := hg (x % 256) (by omega)
    show f ((g (x % 256) + 256 * mapB g n (x / 256)) % 256) + 256 * mapB f n ((g (x % 256) + 256 * mapB g n (x / 256)) / 256) = _
    rw [show (g (x % 256) + 256 * mapB g n (x / 256)) % 256 = g (x % 256) by omega, show (g (x % 256) + 256 * mapB g n (x / 256)) / 256 = mapB g n (x / 256) by omega, mapB_comp hg n]
    rfl
theorem mapB_congr {f g : Nat → Nat} (h : ∀ c, c < 256 → f c = g c) : ∀ (n x : Nat), mapB f n x = mapB g n x
  | 0, x => rfl
  | n + 1, x => by
    show f (x % 256) + 256 * mapB f n (x / 256) = g (x % 256) + 256 * mapB g n (x / 256)
    rw [h _ (by omega), mapB_congr h n]
theorem sw3 {g : Nat → Nat} (hg : ∀ c, c < 256 → g c ≤ 68 ∧ g c % 16 ≤ 4) : ∀ (n x : Nat), (mapB g n x / 16 + mapB g n x) &&& repB 15 n = mapB (fun c => b3 (g c)) n x ∧ mapB g n x % 16 ≤ 4
  | 0, x => by simp [mapB]
  | n + 1, x => by
    obtain ⟨ih, i2⟩ := sw3 hg n (x / 256)
    obtain ⟨h1, h2⟩ := hg (x % 256) (by omega)
    generalize hy : mapB g n (x / 256) = y at ih i2
    generalize hc : g (x % 256) = c at h1 h2
    have e0 : mapB g (n + 1) x = c + 256 * y := by show g (x % 256) + 256 * mapB g n (x / 256) = _; rw [hc, hy]
    have e1 : (c + 256 * y) / 16 + (c + 256 * y) = (c / 16 + c + 16 * (y % 16)) + 256 * (y / 16 + y) := by omega
    have h0 := swar (c := c / 16 + c + 16 * (y % 16)) (y := y / 16 + y) (m := 15) (M := repB 15 n) (k := 0) (by omega) (by omega) (by decide)
    simp only [Nat.pow_zero, Nat.div_one] at h0
    have e2 : (c / 16 + c + 16 * (y % 16)) &&& 15 = (c / 16 + c) % 16 := by
      have := Nat.and_two_pow_sub_one_eq_mod (c / 16 + c + 16 * (y % 16)) 4
      rw [show 2 ^ 4 - 1 = 15 by rfl, show 2 ^ 4 = 16 by rfl] at this
      rw [this]; omega
    refine ⟨?_, by rw [e0]; omega⟩
    rw [e0, e1]
    show _ &&& (15 + 256 * repB 15 n) = b3 (g (x % 256)) + 256 * mapB (fun c => b3 (g c)) n (x / 256)
    rw [h0, e2, ih, hc]
    rfl
theorem b_facts : ∀ c : Fin 256, b1 c.val < 256 ∧ b2 (b1 c.val) ≤ 68 ∧ b2 (b1 c.val) % 16 ≤ 4 ∧ b3 (b2 (b1 c.val)) = pop8 c.val ∧ pop8 c.val ≤ 8 := by decide +kernel
def x1 (x : Nat) : Nat := ((x / 2) &&& 6148914691236517205) + (x &&& 6148914691236517205)
def x2 (x : Nat) : Nat := ((x1 x / 4) &&& 3689348814741910323) + (x1 x &&& 3689348814741910323)
def x3 (x : Nat) : Nat := (x2 x / 16 + x2 x) &&& 1085102592571150095
def x4 (x : Nat) : Nat := x3 x + x3 x / 256
def x5 (x : Nat) : Nat := x4 x + x4 x / 65536
def x6 (x : Nat) : Nat := x5 x + x5 x / 4294967296
theorem x_is {x : Nat} (h : x < M64) : x1 x = mapB b1 8 x ∧ x2 x = mapB (fun c => b2 (b1 c)) 8 x ∧ x3 x = mapB pop8 8 x := by
  have h8 : x < 256 ^ 8 := by unfold M64 at h; exact h
  have f1 : ∀ c, c < 256 → b1 c < 256 := fun c hc => (b_facts ⟨c, hc⟩).1
  have e1 : x1 x = mapB b1 8 x := sw1 8 x h8
  have e2 : x2 x = mapB (fun c => b2 (b1 c)) 8 x := by
    have := sw2 8 (mapB b1 8 x) (mapB_lt (B := 0) f1 8 x)
    rw [mapB_comp f1 8 x] at this
    unfold x2; rw [e1]; exact this
  refine ⟨e1, e2, ?_⟩
  have := (sw3 (g := fun c => b2 (b1 c)) (fun c hc => ⟨(b_facts ⟨c, hc⟩).2.1, (b_facts ⟨c, hc⟩).2.2.1⟩) 8 x).1
  rw [mapB_congr (f := fun c => b3 (b2 (b1 c))) (g := pop8) (fun c hc => (b_facts ⟨c, hc⟩).2.2.2.1) 8 x] at this
  unfold x3; rw [e2]; exact this
def sumB : Nat → Nat → Nat
  | 0, _ => 0
  | n + 1, x => pop8 (x % 256) + sumB n (x / 256)
theorem map_exp (f : Nat → Nat) (B : Nat) (hf : ∀ c, c < 256 → f c ≤ B) (x : Nat) : ∃ p0 p1 p2 p3 p4 p5 p6 p7 : Nat, p0 ≤ B ∧ p1 ≤ B ∧ p2 ≤ B ∧ p3 ≤ B ∧ p4 ≤ B ∧ p5 ≤ B ∧ p6 ≤ B ∧ p7 ≤ B ∧ mapB f 8 x = p0 + 256 * (p1 + 256 * (p2 + 256 * (p3 + 256 * (p4 + 256 * (p5 + 256 * (p6 + 256 * p7)))))) ∧ (∀ g : Nat → Nat → Nat, (∀ n y, g (n + 1) y = f (y % 256) + g n (y / 256)) → (∀ y, g 0 y = 0) → g 8 x = p0 + (p1 + (p2 + (p3 + (p4 + (p5 + (p6 + p7))))))) := by
  refine ⟨f (x % 256), f (x / 256 % 256), f (x / 256 / 256 % 256), f (x / 256 / 256 / 256 % 256), f (x / 256 / 256 / 256 / 256 % 256), f (x / 256 / 256 / 256 / 256 / 256 % 256), f (x / 256 / 256 / 256 / 256 / 256 / 256 % 256), f (x / 256 / 256 / 256 / 256 / 256 / 256 / 256 % 256), hf _ (by omega), hf _ (by omega), hf _ (by omega), hf _ (by omega), hf _ (by omega), hf _ (by omega), hf _ (by omega), hf _ (by omega), ?_, ?_⟩
  · simp only [mapB, Nat.mul_zero, Nat.add_zero]
  · intro g h1 h0
    rw [h1, h1, h1, h1, h1, h1, h1, h1, h0, Nat.add_zero]
theorem map_le8 {f : Nat → Nat} (hf : ∀ c, c < 256 → f c ≤ 68) (x : Nat) : mapB f 8 x ≤ 68 * 72340172838076673 := by
  obtain ⟨p0, p1, p2, p3, p4, p5, p6, p7, a0, a1, a2, a3, a4, a5, a6, a7, e, _⟩ := map_exp f 68 hf x
  rw [e]; omega
theorem div1 {a b : Nat} (h : a < 256) : (a + 256 * b) / 256 = b := by omega
theorem div2 {a b c : Nat} (h : a < 256) (h2 : b < 256) : (a + 256 * (b + 256 * c)) / 65536 = c := by omega
theorem div4 {a b c d e : Nat} (h : a < 256) (h2 : b < 256) (h3 : c < 256) (h4 : d < 256) : (a + 256 * (b + 256 * (c + 256 * (d + 256 * e)))) / 4294967296 = e := by omega
theorem sums8 {p0 p1 p2 p3 p4 p5 p6 p7 X Y Z V : Nat} (b0 : p0 ≤ 8) (b1 : p1 ≤ 8) (b2 : p2 ≤ 8) (b3 : p3 ≤ 8) (b4 : p4 ≤ 8) (b5 : p5 ≤ 8) (b6 : p6 ≤ 8) (b7 : p7 ≤ 8)
    (hX : X = p0 + 256 * (p1 + 256 * (p2 + 256 * (p3 + 256 * (p4 + 256 * (p5 + 256 * (p6 + 256 * p7))))))) (hY : Y = X + X / 256) (hZ : Z = Y + Y / 65536) (hV : V = Z + Z / 4294967296) :
    Y < 18446744073709551616 ∧ Z < 18446744073709551616 ∧ V < 9223372036854775808 ∧ V % 128 = p0 + (p1 + (p2 + (p3 + (p4 + (p5 + (p6 + p7)))))) := by
  have e1 : X / 256 = p1 + 256 * (p2 + 256 * (p3 + 256 * (p4 + 256 * (p5 + 256 * (p6 + 256 * p7))))) := by rw [hX]; exact div1 (by omega)
  have k4 : Y = p0 + p1 + 256 * (p1 + p2 + 256 * (p2 + p3 + 256 * (p3 + p4 + 256 * (p4 + p5 + 256 * (p5 + p6 + 256 * (p6 + p7 + 256 * p7)))))) := by rw [hY, e1, hX]; clear hX hY hZ hV e1; omega
  clear hX hY e1
  have e2 : Y / 65536 = p2 + p3 + 256 * (p3 + p4 + 256 * (p4 + p5 + 256 * (p5 + p6 + 256 * (p6 + p7 + 256 * p7)))) := by rw [k4]; exact div2 (by omega) (by omega)
  have k5 : Z = p0 + p1 + p2 + p3 + 256 * (p1 + p2 + p3 + p4 + 256 * (p2 + p3 + p4 + p5 + 256 * (p3 + p4 + p5 + p6 + 256 * (p4 + p5 + p6 + p7 + 256 * (p5 + p6 + p7 + 256 * (p6 + p7 + 256 * p7)))))) := by rw [hZ, e2, k4]; clear k4 hZ hV e2; omega
  clear hZ e2
  have e3 : Z / 4294967296 = p4 + p5 + p6 + p7 + 256 * (p5 + p6 + p7 + 256 * (p6 + p7 + 256 * p7)) := by rw [k5]; exact div4 (by omega) (by omega) (by omega) (by omega)
  have k6 : V = p0 + p1 + p2 + p3 + p4 + p5 + p6 + p7 + 256 * (p1 + p2 + p3 + p4 + p5 + p6 + p7 + 256 * (p2 + p3 + p4 + p5 + p6 + p7 + 256 * (p3 + p4 + p5 + p6 + p7 + 256 * (p4 + p5 + p6 + p7 + 256 * (p5 + p6 + p7 + 256 * (p6 + p7 + 256 * p7)))))) := by rw [hV, e3, k5]; clear k4 k5 hV e3; omega
  clear hV e3
  refine ⟨by rw [k4]; clear k4 k5 k6; omega, by rw [k5]; clear k4 k5 k6; omega, by rw [k6]; clear k4 k5 k6; omega, ?_⟩
  rw [k6]
  generalize p1 + p2 + p3 + p4 + p5 + p6 + p7 + 256 * (p2 + p3 + p4 + p5 + p6 + p7 + 256 * (p3 + p4 + p5 + p6 + p7 + 256 * (p4 + p5 + p6 + p7 + 256 * (p5 + p6 + p7 + 256 * (p6 + p7 + 256 * p7))))) = R
  clear k4 k5 k6
  omega
theorem x_bounds {x : Nat} (h : x < M64) : x1 x < M64 ∧ x2 x < M64 ∧ x2 x / 16 + x2 x < M64 ∧ x4 x < M64 ∧ x5 x < M64 ∧ x6 x < 9223372036854775808 ∧ x6 x % 128 = sumB 8 x := by
  obtain ⟨e1, e2, e3⟩ := x_is h
  have f1 : ∀ c, c < 256 → b1 c < 256 := fun c hc => (b_facts ⟨c, hc⟩).1
  have l1' : x1 x < M64 := by rw [e1]; exact mapB_lt (B := 0) f1 8 x
  have hp : ∀ c, c < 256 → pop8 c ≤ 8 := fun c hc => (b_facts ⟨c, hc⟩).2.2.2.2
  have hq : ∀ c, c < 256 → b2 (b1 c) ≤ 68 := fun c hc => (b_facts ⟨c, hc⟩).2.1
  have g2 : x2 x ≤ 68 * 72340172838076673 := by rw [e2]; exact map_le8 hq x
  obtain ⟨p0, p1, p2, p3, p4, p5, p6, p7, b0, b1', b2', b3', b4, b5, b6, b7, g3, g5⟩ := map_exp pop8 8 hp x
  rw [← e3] at g3
  have g4 := g5 sumB (fun _ _ => rfl) (fun _ => rfl)
  clear g5 e1 e2 e3 f1 hp hq
  have hM := M64_is
  obtain ⟨h4, h5, h6, h7⟩ := sums8 (X := x3 x) (Y := x4 x) (Z := x5 x) (V := x6 x) b0 b1' b2' b3' b4 b5 b6 b7 g3 rfl rfl rfl
  rw [hM]
  rw [hM] at l1'
  clear g3 b0 b1' b2' b3' b4 b5 b6 b7 h hM
  exact ⟨l1', by omega, by omega, h4, h5, h6, by rw [h7, g4]⟩
theorem cnt_split (n c y : Nat) (hc : c < 256) : ((List.range (8 + n)).filter (fun i => (c + 256 * y).testBit i)).length = pop8 c + ((List.range n).filter (fun i => y.testBit i)).length := by
  have hb : ∀ i, (c + 256 * y).testBit i = if i < 8 then c.testBit i else y.testBit (i - 8) := by
    intro i
    rw [Nat.add_comm, show 256 = 2 ^ 8 by rfl]
    exact Nat.testBit_two_pow_mul_add y hc i
  rw [List.range_add, List.filter_append, List.length_append]
  congr 1
  · unfold pop8
    congr 1
    apply List.filter_congr
    intro i hi
    rw [hb, if_pos (List.mem_range.1 hi)]
  · rw [List.filter_map, List.length_map]
    congr 1
    apply List.filter_congr
    intro i hi
    show (c + 256 * y).testBit (8 + i) = _
    rw [hb, if_neg (by omega), show 8 + i - 8 = i by omega]
theorem sum_cnt : ∀ (n x : Nat), sumB n x = ((List.range (8 * n)).filter (fun i => x.testBit i)).length
  | 0, x => rfl
  | n + 1, x => by
    have h := cnt_split (8 * n) (x % 256) (x / 256) (by omega)
    rw [← split_byte x, ← sum_cnt n (x / 256)] at h
    show pop8 (x % 256) + sumB n (x / 256) = _
    rw [← h, Nat.mul_succ, Nat.add_comm 8]
theorem ones_len {x : Nat} (h : x < M64) : x6 x % 128 = (memL x).length := by
  rw [(x_bounds h).2.2.2.2.2.2, sum_cnt]; rfl
end Go.Proofs.YtghmcdfmbjabnaaGreatDoor
namespace Go.Proofs.YtghmcdfmbjabnaaGreatDoor
set_option linter.unusedSimpArgs false
set_option maxRecDepth 100000
set_option linter.unusedVariables false
open Go.RowKit
theorem and64 {a b : Nat} (ha : a < M64) (hb : b < M64) : bits .and .u64 (a : Int) (b : Int) = ((a &&& b : Nat) : Int) := u64_and_nat a b (by rw [M64_is] at ha; exact ha) (by rw [M64_is] at hb; exact hb)
theorem andNot64 {a b : Nat} (ha : a < M64) (hb : b < M64) : bits .andNot .u64 (a : Int) (b : Int) = ((diff a b : Nat) : Int) := by
  rw [u64_andNot_nat a b (by rw [M64_is] at ha; exact ha) (by rw [M64_is] at hb; exact hb)]
  unfold diff
  rw [M64_is]
theorem wrap64_lt {a : Nat} (ha : a < M64) : IntKind.u64.wrap (a : Int) = (a : Int) := by rw [M64_is] at ha; rw [IntKind.wrap_u64]; omega
theorem i64_and127 {a : Nat} (ha : a < 9223372036854775808) : bits .and .i64 (a : Int) 127 = ((a % 128 : Nat) : Int) := by
  have h1 : (BitVec.ofInt 64 (a : Int)).toNat = a := by rw [BitVec.ofInt_natCast, BitVec.toNat_ofNat]; exact Nat.mod_eq_of_lt (by omega)
  have h2 : (BitVec.ofInt 64 (127 : Int)).toNat = 127 := by decide
  have h3 : a &&& 127 = a % 128 := Nat.and_two_pow_sub_one_eq_mod a 7
  show IntKind.i64.wrap ((BitVec.ofInt 64 (a : Int) &&& BitVec.ofInt 64 (127 : Int)).toNat : Int) = _
  rw [BitVec.toNat_and, h1, h2, IntKind.wrap_i64, h3]
  omega
theorem o1 {x : Nat} (hx : x < M64) : IntKind.u64.wrap (bits .and .u64 ((x : Int) / 2) 6148914691236517205 + bits .and .u64 (x : Int) 6148914691236517205) = ((x1 x : Nat) : Int) := by
  have hc : (6148914691236517205 : Nat) < M64 := by rw [M64_is]; omega
  have e1 := and64 (a := x / 2) (b := 6148914691236517205) (by omega) hc
  have e2 := and64 (a := x) (b := 6148914691236517205) hx hc
  have e3 : ((x : Int) / 2) = ((x / 2 : Nat) : Int) := by omega
  have e4 : (6148914691236517205 : Int) = ((6148914691236517205 : Nat) : Int) := rfl
  rw [e3, e4, e1, e2]
  have := wrap64_lt (x_bounds hx).1
  unfold x1 at this ⊢
  rw [← this]; congr 1
theorem o2 {x : Nat} (hx : x < M64) : IntKind.u64.wrap (bits .and .u64 (((x1 x : Nat) : Int) / 4) 3689348814741910323 + bits .and .u64 ((x1 x : Nat) : Int) 3689348814741910323) = ((x2 x : Nat) : Int) := by
  have hc : (3689348814741910323 : Nat) < M64 := by rw [M64_is]; omega
  have h1 := (x_bounds hx).1
  have e1 := and64 (a := x1 x / 4) (b := 3689348814741910323) (by omega) hc
  have e2 := and64 (a := x1 x) (b := 3689348814741910323) h1 hc
  have e3 : (((x1 x : Nat) : Int) / 4) = ((x1 x / 4 : Nat) : Int) := by omega
  have e4 : (3689348814741910323 : Int) = ((3689348814741910323 : Nat) : Int) := rfl
  rw [e3, e4, e1, e2]
  have := wrap64_lt (x_bounds hx).2.1
  unfold x2 at this ⊢
  rw [← this]; congr 1
theorem o3 {x : Nat} (hx : x < M64) : bits .and .u64 (IntKind.u64.wrap (((x2 x : Nat) : Int) / 16 + ((x2 x : Nat) : Int))) 1085102592571150095 = ((x3 x : Nat) : Int) := by
  have hc : (1085102592571150095 : Nat) < M64 := by rw [M64_is]; omega
  have h1 := (x_bounds hx).2.2.1
  have e3 : (((x2 x : Nat) : Int) / 16 + ((x2 x : Nat) : Int)) = ((x2 x / 16 + x2 x : Nat) : Int) := by omega
  have e4 : (1085102592571150095 : Int) = ((1085102592571150095 : Nat) : Int) := rfl
  rw [e3, wrap64_lt h1, e4, and64 h1 hc]
  rfl
theorem o4 {x : Nat} (hx : x < M64) : IntKind.u64.wrap (((x3 x : Nat) : Int) + ((x3 x : Nat) : Int) / 256) = ((x4 x : Nat) : Int) := by
  have e3 : (((x3 x : Nat) : Int) + ((x3 x : Nat) : Int) / 256) = ((x4 x : Nat) : Int) := by unfold x4; omega
  rw [e3, wrap64_lt (x_bounds hx).2.2.2.1]
theorem o5 {x : Nat} (hx : x < M64) : IntKind.u64.wrap (((x4 x : Nat) : Int) + ((x4 x : Nat) : Int) / 65536) = ((x5 x : Nat) : Int) := by
  have e3 : (((x4 x : Nat) : Int) + ((x4 x : Nat) : Int) / 65536) = ((x5 x : Nat) : Int) := by unfold x5; omega
  rw [e3, wrap64_lt (x_bounds hx).2.2.2.2.1]
theorem o6 {x : Nat} (hx : x < M64) : IntKind.u64.wrap (((x5 x : Nat) : Int) + ((x5 x : Nat) : Int) / 4294967296) = ((x6 x : Nat) : Int) := by
  have e3 : (((x5 x : Nat) : Int) + ((x5 x : Nat) : Int) / 4294967296) = ((x6 x : Nat) : Int) := by unfold x6; omega
  have h := (x_bounds hx).2.2.2.2.2.1
  rw [e3, wrap64_lt (by rw [M64_is]; omega)]
theorem ones_any (x : Nat) (w : World) (hx : x < M64) : Calls Tryz.prog 157 #[.int .u64 x] w fun e w' => e = .returned (.int .i64 (memL x).length) ∧ w = w' := by
  have f1 := o1 hx
  have f2 := o2 hx
  have f3 := o3 hx
  have f4 := o4 hx
  have f5 := o5 hx
  have f6 := o6 hx
  have h6 := (x_bounds hx).2.2.2.2.2.1
  have f7 : IntKind.i64.wrap ((x6 x : Nat) : Int) = ((x6 x : Nat) : Int) := IntWalk.i64_in _ (by omega)
  have f8 := i64_and127 h6
  have H := Lib.hid (ones_len hx)
  generalize x1 x = X1 at f1 f2
  generalize x2 x = X2 at f2 f3
  generalize x3 x = X3 at f3 f4
  generalize x4 x = X4 at f4 f5
  generalize x5 x = X5 at f5 f6
  generalize x6 x = X6 at f6 f7 f8 h6 H
  clear hx h6
  go_enter Tryz.func157, Tryz.ntmps157
  go_wp2
  go_ret
  exact ⟨ret_int (by rw [← H.out]; omega), rfl⟩
theorem pow_lt {n : Nat} (h : n < 64) : 2 ^ n < M64 := by unfold M64; exact Nat.pow_lt_pow_right (by omega) h
theorem one_any (n : Nat) (w : World) (hn : n < 64) : Calls Tryz.prog 178 #[.int .i64 n] w fun e w' => e = .returned (.int .u64 ((2 ^ n : Nat) : Int)) ∧ w = w' := by
  have k : IntKind.u64.wrap (n : Int) = (n : Int) := by rw [IntKind.wrap_u64]; omega
  have k2 : IntKind.u64.wrap ((2 : Int) ^ n) = ((2 ^ n : Nat) : Int) := by
    have := wrap64_lt (pow_lt hn)
    rw [← this]; congr 1
  obtain ⟨p, hp⟩ : ∃ p, 2 ^ n = p := ⟨_, rfl⟩
  rw [hp] at k2
  have H := Lib.hid hp
  clear hp
  rw [H.out]
  go_enter Tryz.func178, Tryz.ntmps178
  go_wp2
  go_ret
  exact ⟨rfl, rfl⟩
theorem all_any (n : Int) (w : World) (h1 : n ≤ 9223372036854775807) : Calls Tryz.prog 156 #[.int .i64 n] w fun e w' => e = .returned (.int .u64 (allS n)) ∧ w = w' := by
  by_cases h0 : n ≤ 0
  · have H : Hid (allS n = 0) := by show _ = _; unfold allS; rw [show n.toNat = 0 by omega]; rfl
    have t1 : decide (n ≤ 0) = true := by simpa using h0
    rw [H.out]
    clear h0
    go_enter Tryz.func156, Tryz.ntmps156
    go_wp2
    go_ret
    exact ⟨rfl, rfl⟩
  obtain ⟨m, rfl⟩ := Int.eq_ofNat_of_zero_le (show 0 ≤ n by omega)
  have hm0 : 0 < m := by omega
  by_cases h2 : 64 ≤ m
  · have H : Hid (allS m = 18446744073709551615) := by show _ = _; unfold allS; rw [show min (m : Int).toNat 64 = 64 by omega]
    rw [H.out]
    clear h0
    go_enter Tryz.func156, Tryz.ntmps156
    go_wp2
    go_ret
    exact ⟨rfl, rfl⟩
  have H : Hid (allS m = 2 ^ m - 1) := by show _ = _; unfold allS; rw [show min (m : Int).toNat 64 = m by omega]
  have hc := Lib.hid (fun v => one_any m v (by omega))
  obtain ⟨p, hp⟩ : ∃ p : Nat, Hid (2 ^ m = p) := ⟨2 ^ m, rfl⟩
  have hp0 : 0 < p := by rw [← hp.out]; exact Nat.pow_pos (by omega)
  have hpl : p < M64 := by rw [← hp.out]; exact pow_lt (by omega)
  rw [hp.out] at hc
  have k : IntKind.u64.wrap ((p : Int) - 1) = ((p - 1 : Nat) : Int) := by
    rw [← wrap64_lt (show p - 1 < M64 by omega)]; congr 1; omega
  rw [H.out, hp.out]
  generalize p - 1 = q at k
  have hm64 : m < 64 := by omega
  clear h0 h2 hp0 hpl
  go_enter Tryz.func156, Tryz.ntmps156
  go_wp2_with (go_at_call 178; refine (hc.out _).mono ?_; rintro e w' ⟨rfl, rfl⟩)
  go_ret
  exact ⟨rfl, rfl⟩
theorem cnt09_any (s : Nat) (w : World) (hs : s < M64) : Calls Tryz.prog 100 #[.int .u64 s] w fun e w' => e = .returned (.int .i64 (memL s).length) ∧ w = w' := by
  have hc := Lib.hid (fun v => ones_any s v hs)
  go_enter Tryz.func100, Tryz.ntmps100
  go_wp2_with (go_at_call 157; refine (hc.out _).mono ?_; rintro e w' ⟨rfl, rfl⟩)
  go_ret
  exact ⟨rfl, rfl⟩
theorem take_snocN {α : Type} {l : List α} {k : Nat} {r : α} (h : l[k]? = some r) : l.take (k + 1) = l.take k ++ [r] := by rw [List.take_add_one, h]; rfl
theorem Reads.num_at {w : World} {B n k : Nat} {A : Option Addr} {l : List Int} (h : Reads w B 1 A n (ints l)) (hk : k < n) :
    ∃ b o x, A = some ⟨b, o, none⟩ ∧ b < B ∧ Hid (l[k]? = some x) ∧ w.cell? ⟨b, o + k, none⟩ = some (.int .i64 x) := by
  obtain ⟨b, o, e, hb, hc⟩ := h.plain (by omega) (by omega)
  have hl : l.length = n := h.len
  have hx : l[k]? = some (l[k]'(by omega)) := List.getElem?_eq_getElem (by omega)
  exact ⟨b, o, _, e, hb, hx, hc k _ (by rw [ints, List.getElem?_map, hx]; rfl)⟩
theorem Tryz.infoI : (Tryz.prog.info? 3).map (fun i => (i.zero, i.size, i.bytes)) = some (some (.int .i64 0), 1, 8) := by kernel_rfl
theorem ints_app (a b : List Int) : ints (a ++ b) = ints a ++ ints b := by simp [ints]
theorem ints_1 (l : List Int) : ∀ u ∈ ints l, u.oneCell' = true := by
  intro u hu
  simp only [ints, List.mem_map] at hu
  obtain ⟨x, _, rfl⟩ := hu
  rfl
theorem app_i {w : World} {ops : Array Oper} {rest : List Oper} {o : Oper} {a : Act} {Q : Exit → Act → World → Prop} {s x : Operand}
    (hgd : o.guard = none) (ho : o.op = .call { callee := .builtin .append, args := #[s, x], argTypes := #[51, 51] })
    (base : Nat) {v : Value} {n : Nat} {xs : List Int} (hs : a.eval s = v) (hown : Owns w base 3 1 v n (ints xs))
    {B : Nat} {A : Option Addr} {m c : Nat} {news : List Int} (hx : a.eval x = .slice A m c) (hr : Reads w B 1 A m (ints news))
    (hlen : n + m ≤ 1000000) (hbase : base ≤ w.heap.size)
    (h : ∀ v' w', Owns w' base 3 1 v' (n + m) (ints (xs ++ news)) → AppKeeps base v w w' → (v'.ownBlock = v.ownBlock ∨ v'.ownBlock = some w.heap.size) → wpList Tryz.prog ops Q rest (a.put o.dst v') w') : wpList Tryz.prog ops Q (o :: rest) a w :=
  wp_app hgd ho Tryz.underlying51 Tryz.infoI rfl (by omega) base hs hown hx hr (ints_1 _) (by simp only [maxLen]; omega) (by omega) hbase (fun v' w' h1 => h v' w' (by rw [ints_app]; exact h1))
def natI (l : List Nat) : List Int := l.map (fun (x : Nat) => (x : Int))
theorem natI_app (a b : List Nat) : natI (a ++ b) = natI a ++ natI b := by simp [natI]
def RetNs (w : World) (l : List Nat) (e : Ending) (w' : World) : Prop :=
  ∃ v, e = .returned v ∧ Owns w' w.heap.size 3 1 v l.length (ints (natI l)) ∧ Below w.heap.size w w'
def memK (s k : Nat) : List Nat := (List.range k).filter (fun i => s.testBit i)
theorem memK_succ (s k : Nat) : memK s (k + 1) = memK s k ++ (if s.testBit k then [k] else []) := by
  unfold memK; rw [List.range_succ, List.filter_append]
  congr 1
  simp [List.filter_cons]
theorem memK_len (s k : Nat) : (memK s k).length ≤ k := by
  have := List.length_filter_le (fun i => s.testBit i) (List.range k)
  unfold memK; simpa using this
theorem memK_end {s k : Nat} (hs : s < M64) (h : s / 2 ^ k = 0) (hk : k ≤ 64) : memK s k = memL s := by
  refine sorted_ext ((List.pairwise_lt_range).filter _) (memL_sorted s) (fun i => ?_)
  rw [mem_memL]
  unfold memK
  simp only [List.mem_filter, List.mem_range]
  constructor
  · rintro ⟨h1, h2⟩; exact ⟨by omega, h2⟩
  · rintro ⟨h1, h2⟩
    refine ⟨?_, h2⟩
    rcases Nat.lt_or_ge i k with h3 | h3
    · exact h3
    · have h4 : s < 2 ^ k := by
        rcases Nat.lt_or_ge s (2 ^ k) with h5 | h5
        · exact h5
        · have := Nat.div_pos h5 (Nat.pow_pos (by omega)); omega
      have : s < 2 ^ i := Nat.lt_of_lt_of_le h4 (Nat.pow_le_pow_right (by omega) h3)
      rw [Nat.testBit_lt_two_pow this] at h2; cases h2
set_option maxHeartbeats 1000000 in
theorem rlist_any (s : Nat) (w : World) (hs : s < M64) : Calls Tryz.prog 132 #[.int .u64 s] w (RetNs w (memL s)) := by
  go_enter Tryz.func132, Tryz.ntmps132
  go_wp2
  go_loopw [0, 3, 4] (fun x o i wr => ∃ k q : Nat, k ≤ 64 ∧ i = .int .i64 k ∧ x = .int .u64 q ∧ q < M64 ∧ Hid (s / 2 ^ k = q) ∧ Owns wr w.heap.size 3 1 o (memK s k).length (ints (natI (memK s k))) ∧ Below w.heap.size w wr) (fun _ _ i _ => 64 - (intOf i).toNat)
  case atStart => exact ⟨0, s, Nat.zero_le _, rfl, rfl, hs, (by show _ = _; simp), Owns.nil, Below.refl _ _⟩
  case round =>
    obtain ⟨k, q, hk, rfl, rfl, hql, hq, hown, hbr⟩ := hrel
    have hsz := hbr.size
    by_cases h0 : 0 < q
    · have hk64 : k < 64 := by
        rcases Nat.lt_or_ge k 64 with h | h
        · exact h
        · have e : k = 64 := by omega
          subst e
          have h2 : s / 2 ^ 64 = 0 := Nat.div_eq_of_lt hs
          have h3 := hq.out
          rw [h2] at h3; omega
      have t0 : decide ((0 : Int) < (q : Int)) = true := by simp; omega
      have hbit : s.testBit k = decide (q % 2 = 1) := by rw [Nat.testBit_eq_decide_div_mod_eq, hq.out]
      have hst := memK_succ s k
      have hkl := memK_len s k
      have hq2 : Hid (s / 2 ^ (k + 1) = q / 2) := by show _ = _; rw [Nat.pow_succ, ← Nat.div_div_eq_div_mul, hq.out]
      have k1 : (q : Int) % 2 = ((q % 2 : Nat) : Int) := by simp
      have k2 : (q : Int) / 2 = ((q / 2 : Nat) : Int) := by simp
      have hq2l : q / 2 < M64 := by omega
      obtain ⟨u, hu⟩ : ∃ u : Nat, Hid (q % 2 = u) := ⟨q % 2, rfl⟩
      rw [hu.out] at k1 hbit
      obtain ⟨v, hv⟩ : ∃ v : Nat, Hid (q / 2 = v) := ⟨q / 2, rfl⟩
      rw [hv.out] at k2 hq2 hq2l
      have kw := wrap64_lt hq2l
      have k3 : ((u : Int) == 1) = decide (u = 1) := by rw [Bool.eq_iff_iff]; simp; omega
      obtain ⟨L, hL⟩ : ∃ L, Hid (memK s k = L) := ⟨_, rfl⟩
      rw [hL.out] at hown hst hkl
      have hO := Lib.hid hown
      clear hown
      cases hb : decide (u = 1) with
      | true =>
        rw [hb] at k3
        rw [hbit, hb, if_pos rfl] at hst
        have Hst := Lib.hid hst
        clear hb hbit hst
        go_wp2_with (at_builtin; refine app_i rfl rfl w.heap.size rfl (hO.out.alloc _) (news := [(k : Int)]) rfl (Reads.made wr [Value.int .i64 (k : Int)] _) (by omega) (by simp only [World.size_alloc]; omega) ?_)
        intro v4 w4 o4 k4 _
        have kb4 := k4.below (hbr.alloc hsz _) (Nat.le_refl _) (by simp only [World.size_alloc]; omega)
        have o5 : Owns w4 w.heap.size 3 1 v4 (memK s (k + 1)).length (ints (natI (memK s (k + 1)))) := by
          rw [Hst.out, natI_app, List.length_append]; exact o4
        have O5 := Lib.hid o5
        clear k4 o4 o5
        go_wp2
        go_roundw
        case rel => exact ⟨k + 1, v, by omega, by go_num, rfl, hq2l, hq2, O5.out, kb4⟩
        case measure => simp [intOf]; omega
      | false =>
        rw [hb] at k3
        rw [hbit, hb, if_neg (by simp), List.append_nil] at hst
        have Hst := Lib.hid hst
        clear hb hbit hst
        go_wp2
        go_roundw
        case rel => exact ⟨k + 1, v, by omega, by go_num, rfl, hq2l, hq2, by rw [Hst.out]; exact hO.out, hbr⟩
        case measure => simp [intOf]; omega
    · have e := memK_end hs (by rw [hq.out]; omega) hk
      rw [e] at hown
      have t0 : decide ((0 : Int) < (q : Int)) = false := by simp; omega
      clear e
      go_wp2
      go_ret
      exact ⟨_, rfl, hown, hbr⟩
theorem rsame_any (A A2 : Option Addr) (n m c c2 B : Nat) (l l2 : List Int) (w : World) (hr : Reads w B 1 A n (ints l)) (hr2 : Reads w B 1 A2 m (ints l2)) (hn : n ≤ 1000000) (hm : m ≤ 1000000) (hB : B ≤ w.heap.size) :
    Calls Tryz.prog 26 #[.slice A n c, .slice A2 m c2] w fun e w' => e = .returned (.bool (decide (l = l2))) ∧ Below w.heap.size w w' := by
  have hlen : Hid (l.length = n) := hr.len
  have hlen2 : Hid (l2.length = m) := hr2.len
  obtain ⟨R, hR⟩ : ∃ R, Hid (decide (l = l2) = R) := ⟨_, rfl⟩
  rw [hR.out]
  by_cases hnm : n = m
  · subst hnm
    have t0 : ((n : Int) != (n : Int)) = false := by simp
    go_enter Tryz.func26, Tryz.ntmps26
    go_wp2
    go_loopw [5] (fun i wr => ∃ (k p : Nat), k ≤ n ∧ i = .int .i64 k ∧ wr = w.drewN p ∧ Hid (l.take k = l2.take k)) (fun i _ => n - (intOf i).toNat)
    case atStart => exact ⟨0, 0, Nat.zero_le _, rfl, rfl, by show _ = _; simp⟩
    case round =>
      obtain ⟨k, p, hk, rfl, rfl, HO⟩ := hrel
      by_cases hlt : k < n
      · obtain ⟨b, o, x, rfl, hbb, hx, c0⟩ := hr.num_at hlt
        obtain ⟨b2, o2, y, rfl, hbb2, hy, d0⟩ := hr2.num_at hlt
        have hj0 : (0 : Int) ≤ (k : Int) := by omega
        have hj1 : (k : Int) < (n : Int) := by omega
        clear hr hr2
        by_cases hxy : x = y
        · have HO2 : Hid (l.take (k + 1) = l2.take (k + 1)) := by show _ = _; rw [take_snocN hx.out, take_snocN hy.out, HO.out, hxy]
          have t3 : (x != y) = false := by simpa using hxy
          clear hxy
          go_wp2
          go_quiet (fail)
          go_wp2
          go_roundw
          case rel => exact ⟨k + 1, _, by omega, by go_num, by first | rfl | exact World.drewN_drewN _ _ _, HO2⟩
          case measure => simp [intOf]; omega
        · have hF : Hid (R = false) := by
            show _ = _
            rw [← hR.out]
            simp only [decide_eq_false_iff_not]
            intro e
            have := hx.out.symm.trans ((congrArg (fun z => z[k]?) e).trans hy.out)
            exact hxy (by simpa using this)
          have t3 : (x != y) = true := by simpa using hxy
          clear hxy
          go_wp2
          go_quiet (fail)
          go_wp2
          go_ret
          rw [hF.out]
          exact ⟨rfl, below_drewN (below_drewN (Below.refl _ _) _) _⟩
      · have hT : Hid (R = true) := by
          show _ = _
          rw [← hR.out]
          have h1 := HO.out
          rw [List.take_of_length_le (by rw [hlen.out]; omega), List.take_of_length_le (by rw [hlen2.out]; omega)] at h1
          simpa using h1
        clear hr hr2
        go_wp2
        go_ret
        rw [hT.out]
        exact ⟨rfl, below_drewN (Below.refl _ _) _⟩
  · have hF : Hid (R = false) := by
      show _ = _
      rw [← hR.out]
      simp only [decide_eq_false_iff_not]
      intro e
      have := congrArg List.length e
      rw [hlen.out, hlen2.out] at this
      exact hnm this
    have t0 : ((n : Int) != (m : Int)) = true := by simp; omega
    clear hr hr2 hnm
    go_enter Tryz.func26, Tryz.ntmps26
    go_wp2
    go_ret
    rw [hF.out]
    exact ⟨rfl, Below.refl _ _⟩
end Go.Proofs.YtghmcdfmbjabnaaGreatDoor
