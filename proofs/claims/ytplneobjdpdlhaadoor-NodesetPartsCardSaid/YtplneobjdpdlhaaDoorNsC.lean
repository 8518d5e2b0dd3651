/- Layer 9, plain: how Go's library counts the bits of a word. -/
import Derived.Test.YtplneobjdpdlhaaDoorNsP
namespace Go.Proofs.YtplneobjdpdlhaaDoor
set_option linter.unusedVariables false
/-- a byte-wise map over n bytes -/
def mapB (f : Nat → Nat) : Nat → Nat → Nat
  | 0, _ => 0
  | n + 1, x => f (x % 256) + 256 * mapB f n (x / 256)
def repB (m : Nat) : Nat → Nat
  | 0 => 0
  | n + 1 => m + 256 * repB m n
theorem swar {c y m M k : Nat} (hk : k ≤ 8) (hc : c < 256) (hm : m < 2 ^ (8 - k)) : ((c + 256 * y) / 2 ^ k) &&& (m + 256 * M) = ((c / 2 ^ k) &&& m) + 256 * ((y / 2 ^ k) &&& M) := by
  have hm8 : m < 2 ^ 8 := Nat.lt_of_lt_of_le hm (Nat.pow_le_pow_right (by omega) (by omega))
  have ha : (c / 2 ^ k) &&& m < 2 ^ 8 := Nat.lt_of_le_of_lt Nat.and_le_right hm8
  apply Nat.eq_of_testBit_eq
  intro i
  have e1 : ∀ a b : Nat, b < 2 ^ 8 → ∀ j, (b + 256 * a).testBit j = if j < 8 then b.testBit j else a.testBit (j - 8) := by
    intro a b hb j
    rw [Nat.add_comm, show 256 = 2 ^ 8 by rfl]
    exact Nat.testBit_two_pow_mul_add a hb j
  rw [Nat.testBit_and, Nat.testBit_div_two_pow, e1 y c hc, e1 M m hm8, e1 _ _ ha]
  by_cases h8 : i < 8
  · rw [if_pos h8, if_pos h8, Nat.testBit_and, Nat.testBit_div_two_pow]
    by_cases h : i + k < 8
    · rw [if_pos h]
    · have : m.testBit i = false := Nat.testBit_lt_two_pow (Nat.lt_of_lt_of_le hm (Nat.pow_le_pow_right (by omega) (by omega)))
      rw [this]; simp
  · rw [if_neg h8, if_neg h8, if_neg (by omega), Nat.testBit_and, Nat.testBit_div_two_pow, show i + k - 8 = i - 8 + k by omega]
def b1 (c : Nat) : Nat := ((c / 2) &&& 85) + (c &&& 85)
def b2 (c : Nat) : Nat := ((c / 4) &&& 51) + (c &&& 51)
def b3 (c : Nat) : Nat := (c / 16 + c) % 16
def pop8 (c : Nat) : Nat := ((List.range 8).filter (fun i => c.testBit i)).length
theorem split_byte (x : Nat) : x = x % 256 + 256 * (x / 256) := by omega
theorem sw1 : ∀ (n x : Nat), x < 256 ^ n → ((x / 2) &&& repB 85 n) + (x &&& repB 85 n) = mapB b1 n x
  | 0, x, h => by simp [repB, mapB]
  | n + 1, x, h => by
    have hx := split_byte x
    have hy : x / 256 < 256 ^ n := by rw [Nat.pow_succ] at h; omega
    have h1 := swar (c := x % 256) (y := x / 256) (m := 85) (M := repB 85 n) (k := 1) (by omega) (by omega) (by decide)
    have h0 := swar (c := x % 256) (y := x / 256) (m := 85) (M := repB 85 n) (k := 0) (by omega) (by omega) (by decide)
    simp only [Nat.pow_one, Nat.pow_zero, Nat.div_one] at h1 h0
    rw [← hx] at h1 h0
    have ih := sw1 n (x / 256) hy
    show (x / 2 &&& (85 + 256 * repB 85 n)) + (x &&& (85 + 256 * repB 85 n)) = b1 (x % 256) + 256 * mapB b1 n (x / 256)
    rw [h1, h0, ← ih]; unfold b1; omega
theorem sw2 : ∀ (n x : Nat), x < 256 ^ n → ((x / 4) &&& repB 51 n) + (x &&& repB 51 n) = mapB b2 n x
  | 0, x, h => by simp [repB, mapB]
  | n + 1, x, h => by
    have hx := split_byte x
    have hy : x / 256 < 256 ^ n := by rw [Nat.pow_succ] at h; omega
    have h1 := swar (c := x % 256) (y := x / 256) (m := 51) (M := repB 51 n) (k := 2) (by omega) (by omega) (by decide)
    have h0 := swar (c := x % 256) (y := x / 256) (m := 51) (M := repB 51 n) (k := 0) (by omega) (by omega) (by decide)
    simp only [Nat.pow_zero, Nat.div_one, show 2 ^ 2 = 4 by rfl] at h1 h0
    rw [← hx] at h1 h0
    have ih := sw2 n (x / 256) hy
    show (x / 4 &&& (51 + 256 * repB 51 n)) + (x &&& (51 + 256 * repB 51 n)) = b2 (x % 256) + 256 * mapB b2 n (x / 256)
    rw [h1, h0, ← ih]; unfold b2; omega
theorem mapB_lt {f : Nat → Nat} {B : Nat} (hf : ∀ c, c < 256 → f c < 256) : ∀ (n x : Nat), mapB f n x < 256 ^ n
  | 0, x => by simp [mapB]
  | n + 1, x => by
    have h1 := mapB_lt (B := B) hf n (x / 256)
    have h2 := hf (x % 256) (by omega)
    show f (x % 256) + 256 * mapB f n (x / 256) < 256 ^ (n + 1)
    rw [Nat.pow_succ]; omega
theorem mapB_comp {f g : Nat → Nat} (hg : ∀ c, c < 256 → g c < 256) : ∀ (n x : Nat), mapB f n (mapB g n x) = mapB (fun c => f (g c)) n x
  | 0, x => rfl
  | n + 1, x => by
    have h2 := hg (x % 256) (by omega)
    show f ((g (x % 256) + 256 * mapB g n (x / 256)) % 256) + 256 * mapB f n ((g (x % 256) + 256 * mapB g n (x / 256)) / 256) = _
    rw [show (g (x % 256) + 256 * mapB g n (x / 256)) % 256 = g (x % 256) by omega, show (g (x % 256) + 256 * mapB g n (x / 256)) / 256 = mapB g n (x / 256) by omega, mapB_comp hg n]
    rfl
theorem mapB_congr {f g : Nat → Nat} (h : ∀ c, c < 256 → f c = g c) : ∀ (n x : Nat), mapB f n x = mapB g n x
  | 0, x => rfl
  | n + 1, x => by
    show f (x % 256) + 256 * mapB f n (x / 256) = g (x % 256) + 256 * mapB g n (x / 256)
    rw [h _ (by omega), mapB_congr h n]
/-- bytes of two nibbles of at most four -/
theorem sw3 {g : Nat → Nat} (hg : ∀ c, c < 256 → g c ≤ 68 ∧ g c % 16 ≤ 4) : ∀ (n x : Nat), (mapB g n x / 16 + mapB g n x) &&& repB 15 n = mapB (fun c => b3 (g c)) n x ∧ mapB g n x % 16 ≤ 4
  | 0, x => by simp [mapB]
  | n + 1, x => by
    obtain ⟨ih, i2⟩ := sw3 hg n (x / 256)
    obtain ⟨h1, h2⟩ := hg (x % 256) (by omega)
    generalize hy : mapB g n (x / 256) = y at ih i2
    generalize hc : g (x % 256) = c at h1 h2
    have e0 : mapB g (n + 1) x = c + 256 * y := by show g (x % 256) + 256 * mapB g n (x / 256) = _; rw [hc, hy]
    have e1 : (c + 256 * y) / 16 + (c + 256 * y) = (c / 16 + c + 16 * (y % 16)) + 256 * (y / 16 + y) := by omega
    have h0 := swar (c := c / 16 + c + 16 * (y % 16)) (y := y / 16 + y) (m := 15) (M := repB 15 n) (k := 0) (by omega) (by omega) (by decide)
    simp only [Nat.pow_zero, Nat.div_one] at h0
    have e2 : (c / 16 + c + 16 * (y % 16)) &&& 15 = (c / 16 + c) % 16 := by
      have := Nat.and_two_pow_sub_one_eq_mod (c / 16 + c + 16 * (y % 16)) 4
      rw [show 2 ^ 4 - 1 = 15 by rfl, show 2 ^ 4 = 16 by rfl] at this
      rw [this]; omega
    refine ⟨?_, by rw [e0]; omega⟩
    rw [e0, e1]
    show _ &&& (15 + 256 * repB 15 n) = b3 (g (x % 256)) + 256 * mapB (fun c => b3 (g c)) n (x / 256)
    rw [h0, e2, ih, hc]
    rfl
theorem b_facts : ∀ c : Fin 256, b1 c.val < 256 ∧ b2 (b1 c.val) ≤ 68 ∧ b2 (b1 c.val) % 16 ≤ 4 ∧ b3 (b2 (b1 c.val)) = pop8 c.val ∧ pop8 c.val ≤ 8 := by decide +kernel
theorem b2_lt (c : Nat) (h : c < 256) : b2 c < 256 := by
  have h1 : (c / 4) &&& 51 ≤ 51 := Nat.and_le_right
  have h2 : c &&& 51 ≤ 51 := Nat.and_le_right
  unfold b2; omega
def x1 (x : Nat) : Nat := ((x / 2) &&& 6148914691236517205) + (x &&& 6148914691236517205)
def x2 (x : Nat) : Nat := ((x1 x / 4) &&& 3689348814741910323) + (x1 x &&& 3689348814741910323)
def x3 (x : Nat) : Nat := (x2 x / 16 + x2 x) &&& 1085102592571150095
def x4 (x : Nat) : Nat := x3 x + x3 x / 256
def x5 (x : Nat) : Nat := x4 x + x4 x / 65536
def x6 (x : Nat) : Nat := x5 x + x5 x / 4294967296
theorem x_is {x : Nat} (h : x < M64) : x1 x = mapB b1 8 x ∧ x2 x = mapB (fun c => b2 (b1 c)) 8 x ∧ x3 x = mapB pop8 8 x := by
  have h8 : x < 256 ^ 8 := by unfold M64 at h; exact h
  have f1 : ∀ c, c < 256 → b1 c < 256 := fun c hc => (b_facts ⟨c, hc⟩).1
  have e1 : x1 x = mapB b1 8 x := sw1 8 x h8
  have e2 : x2 x = mapB (fun c => b2 (b1 c)) 8 x := by
    have := sw2 8 (mapB b1 8 x) (mapB_lt (B := 0) f1 8 x)
    rw [mapB_comp f1 8 x] at this
    unfold x2; rw [e1]; exact this
  refine ⟨e1, e2, ?_⟩
  have := (sw3 (g := fun c => b2 (b1 c)) (fun c hc => ⟨(b_facts ⟨c, hc⟩).2.1, (b_facts ⟨c, hc⟩).2.2.1⟩) 8 x).1
  rw [mapB_congr (f := fun c => b3 (b2 (b1 c))) (g := pop8) (fun c hc => (b_facts ⟨c, hc⟩).2.2.2.1) 8 x] at this
  unfold x3; rw [e2]; exact this
def sumB : Nat → Nat → Nat
  | 0, _ => 0
  | n + 1, x => pop8 (x % 256) + sumB n (x / 256)
theorem map_exp (f : Nat → Nat) (B : Nat) (hf : ∀ c, c < 256 → f c ≤ B) (x : Nat) : ∃ p0 p1 p2 p3 p4 p5 p6 p7 : Nat, p0 ≤ B ∧ p1 ≤ B ∧ p2 ≤ B ∧ p3 ≤ B ∧ p4 ≤ B ∧ p5 ≤ B ∧ p6 ≤ B ∧ p7 ≤ B ∧ mapB f 8 x = p0 + 256 * (p1 + 256 * (p2 + 256 * (p3 + 256 * (p4 + 256 * (p5 + 256 * (p6 + 256 * p7)))))) ∧ (∀ g : Nat → Nat → Nat, (∀ n y, g (n + 1) y = f (y % 256) + g n (y / 256)) → (∀ y, g 0 y = 0) → g 8 x = p0 + (p1 + (p2 + (p3 + (p4 + (p5 + (p6 + p7))))))) := by
  refine ⟨f (x % 256), f (x / 256 % 256), f (x / 256 / 256 % 256), f (x / 256 / 256 / 256 % 256), f (x / 256 / 256 / 256 / 256 % 256), f (x / 256 / 256 / 256 / 256 / 256 % 256), f (x / 256 / 256 / 256 / 256 / 256 / 256 % 256), f (x / 256 / 256 / 256 / 256 / 256 / 256 / 256 % 256), hf _ (by omega), hf _ (by omega), hf _ (by omega), hf _ (by omega), hf _ (by omega), hf _ (by omega), hf _ (by omega), hf _ (by omega), ?_, ?_⟩
  · simp only [mapB, Nat.mul_zero, Nat.add_zero]
  · intro g h1 h0
    rw [h1, h1, h1, h1, h1, h1, h1, h1, h0, Nat.add_zero]
theorem map_le8 {f : Nat → Nat} (hf : ∀ c, c < 256 → f c ≤ 68) (x : Nat) : mapB f 8 x ≤ 68 * 72340172838076673 := by
  obtain ⟨p0, p1, p2, p3, p4, p5, p6, p7, a0, a1, a2, a3, a4, a5, a6, a7, e, _⟩ := map_exp f 68 hf x
  rw [e]; omega
theorem div1 {a b : Nat} (h : a < 256) : (a + 256 * b) / 256 = b := by omega
theorem div2 {a b c : Nat} (h : a < 256) (h2 : b < 256) : (a + 256 * (b + 256 * c)) / 65536 = c := by omega
theorem div4 {a b c d e : Nat} (h : a < 256) (h2 : b < 256) (h3 : c < 256) (h4 : d < 256) : (a + 256 * (b + 256 * (c + 256 * (d + 256 * e)))) / 4294967296 = e := by omega
theorem sums8 {p0 p1 p2 p3 p4 p5 p6 p7 X Y Z V : Nat} (b0 : p0 ≤ 8) (b1 : p1 ≤ 8) (b2 : p2 ≤ 8) (b3 : p3 ≤ 8) (b4 : p4 ≤ 8) (b5 : p5 ≤ 8) (b6 : p6 ≤ 8) (b7 : p7 ≤ 8)
    (hX : X = p0 + 256 * (p1 + 256 * (p2 + 256 * (p3 + 256 * (p4 + 256 * (p5 + 256 * (p6 + 256 * p7))))))) (hY : Y = X + X / 256) (hZ : Z = Y + Y / 65536) (hV : V = Z + Z / 4294967296) :
    Y < 18446744073709551616 ∧ Z < 18446744073709551616 ∧ V < 9223372036854775808 ∧ V % 128 = p0 + (p1 + (p2 + (p3 + (p4 + (p5 + (p6 + p7)))))) := by
  have e1 : X / 256 = p1 + 256 * (p2 + 256 * (p3 + 256 * (p4 + 256 * (p5 + 256 * (p6 + 256 * p7))))) := by rw [hX]; exact div1 (by omega)
  have k4 : Y = p0 + p1 + 256 * (p1 + p2 + 256 * (p2 + p3 + 256 * (p3 + p4 + 256 * (p4 + p5 + 256 * (p5 + p6 + 256 * (p6 + p7 + 256 * p7)))))) := by rw [hY, e1, hX]; clear hX hY hZ hV e1; omega
  clear hX hY e1
  have e2 : Y / 65536 = p2 + p3 + 256 * (p3 + p4 + 256 * (p4 + p5 + 256 * (p5 + p6 + 256 * (p6 + p7 + 256 * p7)))) := by rw [k4]; exact div2 (by omega) (by omega)
  have k5 : Z = p0 + p1 + p2 + p3 + 256 * (p1 + p2 + p3 + p4 + 256 * (p2 + p3 + p4 + p5 + 256 * (p3 + p4 + p5 + p6 + 256 * (p4 + p5 + p6 + p7 + 256 * (p5 + p6 + p7 + 256 * (p6 + p7 + 256 * p7)))))) := by rw [hZ, e2, k4]; clear k4 hZ hV e2; omega
  clear hZ e2
  have e3 : Z / 4294967296 = p4 + p5 + p6 + p7 + 256 * (p5 + p6 + p7 + 256 * (p6 + p7 + 256 * p7)) := by rw [k5]; exact div4 (by omega) (by omega) (by omega) (by omega)
  have k6 : V = p0 + p1 + p2 + p3 + p4 + p5 + p6 + p7 + 256 * (p1 + p2 + p3 + p4 + p5 + p6 + p7 + 256 * (p2 + p3 + p4 + p5 + p6 + p7 + 256 * (p3 + p4 + p5 + p6 + p7 + 256 * (p4 + p5 + p6 + p7 + 256 * (p5 + p6 + p7 + 256 * (p6 + p7 + 256 * p7)))))) := by rw [hV, e3, k5]; clear k4 k5 hV e3; omega
  clear hV e3
  refine ⟨by rw [k4]; clear k4 k5 k6; omega, by rw [k5]; clear k4 k5 k6; omega, by rw [k6]; clear k4 k5 k6; omega, ?_⟩
  rw [k6]
  generalize p1 + p2 + p3 + p4 + p5 + p6 + p7 + 256 * (p2 + p3 + p4 + p5 + p6 + p7 + 256 * (p3 + p4 + p5 + p6 + p7 + 256 * (p4 + p5 + p6 + p7 + 256 * (p5 + p6 + p7 + 256 * (p6 + p7 + 256 * p7))))) = R
  clear k4 k5 k6
  omega
theorem x_bounds {x : Nat} (h : x < M64) : x1 x < M64 ∧ x2 x < M64 ∧ x2 x / 16 + x2 x < M64 ∧ x4 x < M64 ∧ x5 x < M64 ∧ x6 x < 9223372036854775808 ∧ x6 x % 128 = sumB 8 x := by
  obtain ⟨e1, e2, e3⟩ := x_is h
  have f1 : ∀ c, c < 256 → b1 c < 256 := fun c hc => (b_facts ⟨c, hc⟩).1
  have l1' : x1 x < M64 := by rw [e1]; exact mapB_lt (B := 0) f1 8 x
  have hp : ∀ c, c < 256 → pop8 c ≤ 8 := fun c hc => (b_facts ⟨c, hc⟩).2.2.2.2
  have hq : ∀ c, c < 256 → b2 (b1 c) ≤ 68 := fun c hc => (b_facts ⟨c, hc⟩).2.1
  have g2 : x2 x ≤ 68 * 72340172838076673 := by rw [e2]; exact map_le8 hq x
  obtain ⟨p0, p1, p2, p3, p4, p5, p6, p7, b0, b1', b2', b3', b4, b5, b6, b7, g3, g5⟩ := map_exp pop8 8 hp x
  rw [← e3] at g3
  have g4 := g5 sumB (fun _ _ => rfl) (fun _ => rfl)
  clear g5 e1 e2 e3 f1 hp hq
  have hM := M64_is
  obtain ⟨h4, h5, h6, h7⟩ := sums8 (X := x3 x) (Y := x4 x) (Z := x5 x) (V := x6 x) b0 b1' b2' b3' b4 b5 b6 b7 g3 rfl rfl rfl
  rw [hM]
  rw [hM] at l1'
  clear g3 b0 b1' b2' b3' b4 b5 b6 b7 h hM
  exact ⟨l1', by omega, by omega, h4, h5, h6, by rw [h7, g4]⟩
theorem cnt_split (n c y : Nat) (hc : c < 256) : ((List.range (8 + n)).filter (fun i => (c + 256 * y).testBit i)).length = pop8 c + ((List.range n).filter (fun i => y.testBit i)).length := by
  have hb : ∀ i, (c + 256 * y).testBit i = if i < 8 then c.testBit i else y.testBit (i - 8) := by
    intro i
    rw [Nat.add_comm, show 256 = 2 ^ 8 by rfl]
    exact Nat.testBit_two_pow_mul_add y hc i
  rw [List.range_add, List.filter_append, List.length_append]
  congr 1
  · unfold pop8
    congr 1
    apply List.filter_congr
    intro i hi
    rw [hb, if_pos (List.mem_range.1 hi)]
  · rw [List.filter_map, List.length_map]
    congr 1
    apply List.filter_congr
    intro i hi
    show (c + 256 * y).testBit (8 + i) = _
    rw [hb, if_neg (by omega), show 8 + i - 8 = i by omega]
theorem sum_cnt : ∀ (n x : Nat), sumB n x = ((List.range (8 * n)).filter (fun i => x.testBit i)).length
  | 0, x => rfl
  | n + 1, x => by
    have h := cnt_split (8 * n) (x % 256) (x / 256) (by omega)
    rw [← split_byte x, ← sum_cnt n (x / 256)] at h
    show pop8 (x % 256) + sumB n (x / 256) = _
    rw [← h, Nat.mul_succ, Nat.add_comm 8]
theorem ones_len {x : Nat} (h : x < M64) : x6 x % 128 = (memL x).length := by
  rw [(x_bounds h).2.2.2.2.2.2, sum_cnt]; rfl
end Go.Proofs.YtplneobjdpdlhaaDoor
