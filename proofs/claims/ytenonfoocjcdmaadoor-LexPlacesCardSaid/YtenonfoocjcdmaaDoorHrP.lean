/- Plain Lean on times as texts: what is written. -/
import Derived.Test.YtenonfoocjcdmaaDoorBase
import Derived.Lib.ItoaNum
namespace Go.Proofs.YtenonfoocjcdmaaDoor
set_option linter.unusedVariables false
open Go.RowKit
/-- units: ticks and signs, the greatest first -/
def tk : Nat → Nat | 0 => 86400 | 1 => 3600 | 2 => 60 | _ => 1
def sg : Nat → UInt8 | 0 => 100 | 1 => 104 | 2 => 109 | _ => 115
/-- what is left ahead of a unit -/
def rm : Nat → Nat → Nat | 0, n => n | k + 1, n => rm k n % tk k
def ct (k n : Nat) : Nat := rm k n / tk k
def pt (k n : Nat) : List UInt8 := if 0 < ct k n then Lib.decDigits (ct k n) ++ [sg k] else []
def pts : Nat → Nat → List UInt8 | 0, _ => [] | k + 1, n => pts k n ++ pt k n
def showL (n : Nat) : List UInt8 := if n = 0 then [48, 115] else pts 4 n
theorem ct_lt {n : Nat} (h : n ≤ 1000000) : ∀ k, k < 4 → ct k n < 100 := by
  intro k hk
  rcases k with _ | _ | _ | _ | k <;> simp [ct, rm, tk] <;> omega
theorem rm_le (n : Nat) : ∀ k, rm k n ≤ n
  | 0 => Nat.le_refl _
  | k + 1 => Nat.le_trans (Nat.mod_le _ _) (rm_le n k)
theorem rm4 (n : Nat) : rm 4 n = 0 := by simp [rm, tk, Nat.mod_one]
theorem pt_nil {k n : Nat} : pt k n = [] ↔ ct k n = 0 := by
  unfold pt; split
  · simp; omega
  · simp; omega
theorem pts_nil {n : Nat} : pts 4 n = [] ↔ n = 0 := by
  simp only [pts, List.append_eq_nil_iff, pt_nil, List.nil_append]
  simp only [ct, rm, tk, Nat.div_one]
  omega
theorem dd_lt {n : Nat} (h : n < 10) : Lib.decDigits n = [UInt8.ofNat (48 + n)] := by rw [Lib.decDigits, dif_pos h]
theorem dd_ge {n : Nat} (h : ¬ n < 10) : Lib.decDigits n = Lib.decDigits (n / 10) ++ [UInt8.ofNat (48 + n % 10)] := by rw [Lib.decDigits, dif_neg h]
theorem decDigits_len {n : Nat} (h : n < 100) : (Lib.decDigits n).length ≤ 2 := by
  by_cases h1 : n < 10
  · rw [dd_lt h1]; simp
  · rw [dd_ge h1, dd_lt (by omega)]; simp
theorem pt_len {n : Nat} (h : n ≤ 1000000) {k : Nat} (hk : k < 4) : (pt k n).length ≤ 3 := by
  unfold pt; split
  · have := decDigits_len (ct_lt h k hk); simp; omega
  · simp
theorem pts_len {n : Nat} (h : n ≤ 1000000) : ∀ k, k ≤ 4 → (pts k n).length ≤ 3 * k
  | 0, _ => by simp [pts]
  | k + 1, hk => by
    have h1 := pts_len h k (by omega)
    have h2 := pt_len h (k := k) (by omega)
    simp [pts]; omega
end Go.Proofs.YtenonfoocjcdmaaDoor
