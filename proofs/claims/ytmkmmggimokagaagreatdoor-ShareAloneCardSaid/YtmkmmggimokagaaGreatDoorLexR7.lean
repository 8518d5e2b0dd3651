/- Layer 5: the reference's digits, written, Check, Text. -/
import Derived.Test.YtmkmmggimokagaaGreatDoorK9
import Derived.Test.YtmkmmggimokagaaGreatDoorK8
import Derived.Test.YtmkmmggimokagaaGreatDoorK4
import Derived.Test.YtmkmmggimokagaaGreatDoorK5
namespace Go.Proofs.YtmkmmggimokagaaGreatDoor
set_option linter.unusedVariables false
open Go.RowKit
theorem str_app1 {s : ByteArray} {l : List UInt8} {b : UInt8} (h : (⟨l.toArray⟩ : ByteArray) = s) : s ++ (⟨#[b]⟩ : ByteArray) = ⟨(l ++ [b]).toArray⟩ := by
  subst h
  apply Go.WideShapes.bytes_inj
  simp [ByteArray.data_append]
theorem dd_len : ∀ (k n : Nat), 0 < k → n < 10 ^ k → (Lib.decDigits n).length ≤ k := by
  intro k
  induction k with
  | zero => intro n h; omega
  | succ k ih =>
    intro n _ hn
    by_cases h : n < 10
    · rw [dd_lt h]; simp
    · rw [dd_ge h, List.length_append]
      have hk : 0 < k := by
        rcases Nat.eq_zero_or_pos k with h0 | h0
        · subst h0; simp at hn; omega
        · exact h0
      have := ih (n / 10) hk (by rw [Nat.pow_succ] at hn; omega)
      simp; omega
/-- numbers and texts that the reference may write -/
def TkR (t : Tk) : Prop := t.text.size ≤ 1000000 ∧ t.num ≤ 9223372036854775807
theorem neq_text {a b : ByteArray} : (a.toList != b.toList) = true ↔ a ≠ b := by
  rw [bne_iff_ne, ne_eq, ne_eq, not_congr]
  constructor
  · intro h; rw [ByteArray.toList_eq, ByteArray.toList_eq] at h; exact Go.WideShapes.bytes_inj h
  · intro h; rw [h]
theorem text05_of {t : Tk} (h : checkP t = 0) : writtenR t = writtenP t := by
  unfold writtenR; rw [if_neg (fun x => by have := check_num h; omega)]
end Go.Proofs.YtmkmmggimokagaaGreatDoor
