/- Layer 9: the statements NodesetBack and NodesetParts. -/
import Derived.Test.YtplneobjdpdlhaaDoorNsL2
namespace Go.Proofs.YtplneobjdpdlhaaDoor
set_option linter.unusedVariables false
open Go.RowKit
theorem of_mem {s : Nat} (hs : s < M64) : ofP (natI (memL s)) = (s, 0) := by
  have h1 : ofOk (natI (memL s)) := by
    refine ⟨fun x hx => ?_, ?_⟩
    · obtain ⟨i, hi, rfl⟩ := List.mem_map.1 hx
      have := (mem_memL.1 hi).1
      omega
    · unfold natI
      rw [List.nodup_iff_pairwise_ne, List.pairwise_map]
      exact (memL_sorted s).imp (fun h e => by omega)
  have h2 : (natI (memL s)).map Int.toNat = memL s := by
    unfold natI
    rw [List.map_map]
    conv => rhs; rw [← List.map_id (memL s)]
    exact List.map_congr_left fun x _ => by simp
  unfold ofP
  rw [if_pos h1, h2, setL_memL hs]
theorem parts_facts {s n : Nat} (hs : s < M64) (hn : n ≤ (memL s).length) :
    lowS s n &&& highS s ((memL s).length - n) = 0 ∧ lowS s n ||| highS s ((memL s).length - n) = s ∧ (memL (lowS s n)).length = n ∧
    (highS s ((memL s).length - n) ≠ 0 → lowS s n < highS s ((memL s).length - n) &&& (M64 - highS s ((memL s).length - n))) := by
  have e : (memL s).length - ((memL s).length - n) = n := by omega
  have eh : highS s ((memL s).length - n) = setL ((memL s).drop n) := by unfold highS; rw [e]
  have hso := memL_sorted s
  have hsp : ((memL s).take n ++ (memL s).drop n).Pairwise (· < ·) := by rw [List.take_append_drop]; exact hso
  rw [List.pairwise_append] at hsp
  obtain ⟨p1, p2, p3⟩ := hsp
  have hlo : ∀ i, (lowS s n).testBit i = decide (i ∈ (memL s).take n) := fun i => by unfold lowS; rw [setL_bit]
  have hhi : ∀ i, (highS s ((memL s).length - n)).testBit i = decide (i ∈ (memL s).drop n) := fun i => by rw [eh, setL_bit]
  have hhl := highS_lt s ((memL s).length - n)
  refine ⟨?_, ?_, ?_, fun h0 => ?_⟩
  · apply Nat.eq_of_testBit_eq
    intro i
    rw [Nat.testBit_and, hlo, hhi, Nat.zero_testBit]
    cases h1 : decide (i ∈ (memL s).take n) with
    | false => rfl
    | true =>
      cases h2 : decide (i ∈ (memL s).drop n) with
      | false => rfl
      | true =>
        have := p3 i (of_decide_eq_true h1) i (of_decide_eq_true h2)
        omega
  · apply Nat.eq_of_testBit_eq
    intro i
    rw [Nat.testBit_or, hlo, hhi, Bool.eq_iff_iff]
    simp only [Bool.or_eq_true, decide_eq_true_eq]
    rw [← List.mem_append, List.take_append_drop, mem_memL]
    exact ⟨fun h => h.2, fun h => ⟨bit_lt hs h, h⟩⟩
  · unfold lowS
    rw [memL_setL p1 (fun i hi => memL_lt s i (List.mem_of_mem_take hi)), List.length_take]
    omega
  · obtain ⟨k1, k2, k3⟩ := ctz_bit h0 hhl
    have hl := (Lib.lowest_bit 64 _ h0 hhl).1
    have eM : M64 = 18446744073709551616 := M64_is
    have hl2 : highS s ((memL s).length - n) &&& (M64 - highS s ((memL s).length - n)) = 2 ^ Lib.ctz 64 (highS s ((memL s).length - n)) := hl
    rw [hl2]
    rw [hhi, decide_eq_true_eq] at k2
    refine Nat.lt_pow_two_of_testBit _ (fun i hi => ?_)
    rw [hlo, decide_eq_false_iff_not]
    intro hm
    have := p3 i hm _ k2
    omega
end Go.Proofs.YtplneobjdpdlhaaDoor
