/- Plain arithmetic for layer 1: clamped sums and products, no program in sight. -/
import Derived.Test.YtenonfoocjcdmaaDoorBase
namespace Go.Proofs.YtenonfoocjcdmaaDoor
set_option linter.unusedVariables false

/-- a number held within two ends -/
def clamp (n lo hi : Int) : Int := if n < lo then lo else if hi < n then hi else n
theorem clamp_lo {n lo hi : Int} (h : n < lo) : clamp n lo hi = lo := by simp [clamp, h]
theorem clamp_hi {n lo hi : Int} (h : ¬ n < lo) (h2 : hi < n) : clamp n lo hi = hi := by simp [clamp, h, h2]
theorem clamp_in {n lo hi : Int} (h : ¬ n < lo) (h2 : ¬ hi < n) : clamp n lo hi = n := by simp [clamp, h, h2]
theorem clamp_bd (n : Int) {E : Int} (h : 0 ≤ E) : 0 ≤ clamp n 0 E ∧ clamp n 0 E ≤ E := by unfold clamp; split <;> (try split) <;> omega
theorem clamp_cases (n : Int) {E : Int} (h : 0 ≤ E) : (n < 0 ∧ clamp n 0 E = 0) ∨ (0 ≤ n ∧ n ≤ E ∧ clamp n 0 E = n) ∨ (E < n ∧ clamp n 0 E = E) := by
  unfold clamp; split <;> (try split) <;> omega
theorem clamp_mono {a b E : Int} (h : 0 ≤ E) (hab : a ≤ b) : clamp a 0 E ≤ clamp b 0 E := by
  rcases clamp_cases a h with h1 | h1 | h1 <;> rcases clamp_cases b h with h2 | h2 | h2 <;> omega

/-- the sum of clamped numbers -/
def tot (E : Int) : List Int → Int
  | [] => 0
  | x :: r => clamp x 0 E + tot E r
theorem tot_nonneg (E : Int) (h : 0 ≤ E) (l : List Int) : 0 ≤ tot E l := by
  induction l with
  | nil => simp [tot]
  | cons x r ih => have := clamp_bd x h; simp only [tot]; omega
theorem tot_append (E : Int) (a b : List Int) : tot E (a ++ b) = tot E a + tot E b := by
  induction a with
  | nil => simp [tot]
  | cons x r ih => simp only [List.cons_append, tot, ih]; omega
theorem tot_take_succ (E : Int) (l : List Int) (k : Nat) (h : k < l.length) : tot E (l.take (k + 1)) = tot E (l.take k) + clamp (l.getD k 0) 0 E := by
  rw [List.take_succ_eq_append_getElem h, tot_append]
  simp [tot, List.getD, List.getElem?_eq_getElem h]
theorem tot_take_next {E : Int} {l : List Int} {k : Nat} {x : Int} (h : l[k]? = some x) : tot E (l.take (k + 1)) = tot E (l.take k) + clamp x 0 E := by
  obtain ⟨hk, hx⟩ := List.getElem?_eq_some_iff.1 h
  rw [tot_take_succ E l k hk]; simp [List.getD, h]
theorem tot_take_le (E : Int) (hE : 0 ≤ E) (l : List Int) (k : Nat) : tot E (l.take k) ≤ tot E l := by
  have h := tot_append E (l.take k) (l.drop k)
  rw [List.take_append_drop] at h
  have := tot_nonneg E hE (l.drop k)
  omega

/-- what is added, held at an end -/
def addV (E : Int) (l : List Int) : Int := if tot E l ≤ E then tot E l else E
/-- it was not too much -/
def fitsV (E : Int) (l : List Int) : Bool := decide (tot E l ≤ E)
theorem addV_bd (E : Int) (h : 0 ≤ E) (l : List Int) : 0 ≤ addV E l ∧ addV E l ≤ E := by
  have := tot_nonneg E h l
  unfold addV; split <;> omega
theorem addV_of_le {E : Int} {l : List Int} (h : tot E l ≤ E) : addV E l = tot E l := by simp [addV, h]
theorem addV_of_gt {E : Int} {l : List Int} (h : E < tot E l) : addV E l = E := by unfold addV; rw [if_neg (by omega)]
theorem fitsV_of_le {E : Int} {l : List Int} (h : tot E l ≤ E) : fitsV E l = true := by simp [fitsV, h]
theorem fitsV_of_gt {E : Int} {l : List Int} (h : E < tot E l) : fitsV E l = false := by simp [fitsV]; omega
/-- one step of the reference's sum -/
theorem addV_step (E : Int) (hE : 0 ≤ E) (l : List Int) (k : Nat) (x : Int) (h : l[k]? = some x) : clamp (addV E (l.take k) + clamp x 0 E) 0 E = addV E (l.take (k + 1)) := by
  have h1 := tot_take_next (E := E) h
  have h2 := clamp_bd x hE
  have h3 := tot_nonneg E hE (l.take k)
  unfold addV
  rw [h1]
  rcases clamp_cases ((if tot E (l.take k) ≤ E then tot E (l.take k) else E) + clamp x 0 E) hE with h4 | h4 | h4 <;> (try rw [h4.2.2]) <;> (try rw [h4.2]) <;> split at h4 <;> (try split) <;> omega

/-- a product of clamped numbers, held at an end -/
def mulV (E a b : Int) : Int := if clamp a 0 E * clamp b 0 E ≤ E then clamp a 0 E * clamp b 0 E else E
theorem mulV_comm (E a b : Int) : mulV E a b = mulV E b a := by unfold mulV; rw [Int.mul_comm]
theorem mulV_zero {E a b : Int} (hE : 0 ≤ E) (h : clamp a 0 E = 0 ∨ clamp b 0 E = 0) : mulV E a b = 0 := by
  unfold mulV; rcases h with h | h <;> rw [h] <;> simp [hE]
theorem mul_gt_iff {x y M : Int} (hy : 0 < y) : M / y < x ↔ M < x * y := by
  rw [Int.ediv_lt_iff_lt_mul hy]

/-- held at an end from above -/
def capM (M z : Int) : Int := if z ≤ M then z else M
theorem mulV_cap (E a b : Int) : mulV E a b = capM E (0 + clamp a 0 E * clamp b 0 E) := by rw [Int.zero_add]; rfl
theorem capM_in {M z : Int} (h : z ≤ M) : capM M z = z := by simp [capM, h]
theorem capM_out {M z : Int} (h : M ≤ z) : capM M z = M := by unfold capM; split <;> omega
theorem cap_step {M x y out r : Int} (hx : 0 ≤ x) (hxM : x ≤ M) (ho : 0 ≤ out) (hoM : out ≤ M) (hy : 0 < y) (hr : r = (y % 2) * x) :
    capM M (clamp (out + r) 0 M + clamp (x + x) 0 M * (y / 2)) = capM M (out + x * y) := by
  have hM : 0 ≤ M := by omega
  have hy2 : x * y = 2 * (x * (y / 2)) + (y % 2) * x := by
    have h : y = 2 * (y / 2) + y % 2 := by omega
    have h2 : x * y = x * (2 * (y / 2) + y % 2) := by rw [← h]
    rw [h2, Int.mul_add, Int.mul_comm x (y % 2), ← Int.mul_assoc, Int.mul_comm x 2, Int.mul_assoc]
  rw [← hr] at hy2
  have hr0 : 0 ≤ r ∧ r ≤ x := by
    rcases (by omega : y % 2 = 0 ∨ y % 2 = 1) with h | h <;> rw [h] at hr <;> omega
  have hr1 : y / 2 = 0 → r = x := fun h => by
    have : y % 2 = 1 := by omega
    rw [this] at hr; omega
  have hq : 0 ≤ x * (y / 2) := Int.mul_nonneg hx (by omega)
  have hq1 : y / 2 ≠ 0 → x ≤ x * (y / 2) := fun h => by
    have := Int.mul_le_mul_of_nonneg_left (by omega : 1 ≤ y / 2) hx
    omega
  have hqM : y / 2 ≠ 0 → M ≤ M * (y / 2) := fun h => by
    have := Int.mul_le_mul_of_nonneg_left (by omega : 1 ≤ y / 2) hM
    omega
  have hz : y / 2 = 0 → x * (y / 2) = 0 ∧ M * (y / 2) = 0 := fun h => by rw [h]; simp
  rw [hy2]
  have e2 : (x + x) * (y / 2) = 2 * (x * (y / 2)) := by rw [Int.add_mul]; omega
  rcases clamp_cases (x + x) hM with h | h | h
  · omega
  · rw [h.2.2, e2]
    rcases clamp_cases (out + r) hM with g | g | g
    · omega
    · rw [g.2.2]; congr 1; omega
    · rw [g.2, capM_out (by omega), capM_out (by omega)]
  · rw [h.2]
    by_cases h0 : y / 2 = 0
    · have := hz h0
      have := hr1 h0
      rcases clamp_cases (out + r) hM with g | g | g
      · omega
      · rw [g.2.2]; congr 1; omega
      · rw [g.2, capM_out (by omega), capM_out (by omega)]
    · have := hq1 h0
      have := hqM h0
      have := clamp_bd (out + r) hM
      rw [capM_out (by omega), capM_out (by omega)]

/-- a time less another one -/
def subV (a b : Int) : Int := clamp (clamp a 0 1000000 - clamp b 0 1000000) 0 1000000
theorem subV_max (a b : Int) : subV a b = max (clamp a 0 1000000 - clamp b 0 1000000) 0 := by
  have h1 := clamp_bd a (E := 1000000) (by omega)
  have h2 := clamp_bd b (E := 1000000) (by omega)
  unfold subV
  rcases clamp_cases (clamp a 0 1000000 - clamp b 0 1000000) (E := 1000000) (by omega) with h | h | h <;> omega
/-- half of a usage -/
def halfV (n : Int) : Int := clamp n 0 1000000000000 / 2
theorem halfV_ref (n : Int) : (clamp n 0 1000000000000 - clamp n 0 1000000000000 % 2) / 2 = halfV n := by unfold halfV; omega
end Go.Proofs.YtenonfoocjcdmaaDoor
