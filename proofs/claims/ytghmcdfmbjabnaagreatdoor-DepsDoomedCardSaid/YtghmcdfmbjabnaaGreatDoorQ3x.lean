/- Layer 9, plain: sets of nodes as numbers: members, least and greatest ones. Layer 9, plain: how Go's library counts the bits of a word. Layer 9: words: counting bits, the least bit, one, All, Has, Of, List walked. Layer 9: Of, List, Lowest, Highest walked; the least bit. Layer 9: Lowest, Highest, the least bit; the reference's bit, Has, List, Set walked. Layer 9: the reference's bit, Has, List, Set, All, Of, SameInts walked. Layer 9: the reference's Set, All, Of walked. Layer 9: the reference's Lowest, Highest, SameInts walked. -/
import Derived.Test.YtghmcdfmbjabnaaGreatDoorQ3t
import Derived.Test.YtghmcdfmbjabnaaGreatDoorK1t
import Derived.Test.YtghmcdfmbjabnaaGreatDoorK1x
import Derived.Laws.Bits64b
import Derived.Laws.BitsAllLaws
import Derived.Laws.ShiftsVarLaws
import Derived.Lib.TrailingZeros
import Derived.Deep.QuietTactic
import Derived.BigQuiet
namespace Go.Proofs.YtghmcdfmbjabnaaGreatDoor
set_option linter.unusedVariables false
open Go.RowKit
def setL (l : List Nat) : Nat := l.foldl (fun a i => a ||| 2 ^ i) 0
theorem setL_from : ∀ (l : List Nat) (a i : Nat), (l.foldl (fun a i => a ||| 2 ^ i) a).testBit i = (a.testBit i || decide (i ∈ l))
  | [], a, i => by simp
  | x :: t, a, i => by
    rw [List.foldl_cons, setL_from t, Nat.testBit_or, Nat.testBit_two_pow]
    by_cases h : x = i <;> simp [h, eq_comm]
theorem setL_bit (l : List Nat) (i : Nat) : (setL l).testBit i = decide (i ∈ l) := by unfold setL; rw [setL_from]; simp
theorem setL_snoc (l : List Nat) (i : Nat) : setL (l ++ [i]) = setL l ||| 2 ^ i := by unfold setL; rw [List.foldl_append]; rfl
theorem or_lt {a b : Nat} (ha : a < M64) (hb : b < M64) : a ||| b < M64 := Nat.or_lt_two_pow ha hb
theorem allS_set (n : Int) : allS n = setL (List.range (min n.toNat 64)) := by
  apply Nat.eq_of_testBit_eq
  intro i
  rw [allS_bit, setL_bit, Bool.eq_iff_iff]
  simp only [decide_eq_true_eq, Bool.and_eq_true, List.mem_range]
  omega
def ofP (l : List Int) : Nat × Int := if ofOk l then (setL (l.map Int.toNat), 0) else (0, 90)
def hasP (s : Nat) (n : Int) : Bool := decide (0 ≤ n) && decide (n < 64) && s.testBit n.toNat
end Go.Proofs.YtghmcdfmbjabnaaGreatDoor
namespace Go.Proofs.YtghmcdfmbjabnaaGreatDoor
set_option linter.unusedVariables false
end Go.Proofs.YtghmcdfmbjabnaaGreatDoor
namespace Go.Proofs.YtghmcdfmbjabnaaGreatDoor
set_option linter.unusedVariables false
open Go.RowKit
theorem or64 {a b : Nat} (ha : a < M64) (hb : b < M64) : bits .or .u64 (a : Int) (b : Int) = ((a ||| b : Nat) : Int) := u64_or_nat a b (by rw [M64_is] at ha; exact ha) (by rw [M64_is] at hb; exact hb)
theorem and_pow {s n : Nat} : (s &&& 2 ^ n = 0) ↔ s.testBit n = false := by
  constructor
  · intro h
    have := congrArg (fun x => x.testBit n) h
    simpa [Nat.testBit_and, Nat.testBit_two_pow] using this
  · intro h
    apply Nat.eq_of_testBit_eq
    intro i
    rw [Nat.testBit_and, Nat.testBit_two_pow, Nat.zero_testBit]
    by_cases e : n = i
    · subst e; rw [h]; rfl
    · simp [e]
theorem ofOk_snoc {l : List Int} {x : Int} (h : ofOk l) (h0 : 0 ≤ x) (h1 : x < 64) (h2 : x ∉ l) : ofOk (l ++ [x]) := by
  refine ⟨fun y hy => ?_, ?_⟩
  · rw [List.mem_append, List.mem_singleton] at hy
    rcases hy with hy | rfl
    · exact h.1 y hy
    · exact ⟨h0, h1⟩
  · rw [List.nodup_append]
    refine ⟨h.2, by simp, fun a ha b hb => ?_⟩
    rw [List.mem_singleton] at hb
    subst hb
    rintro rfl
    exact h2 ha
theorem ofP_no {l : List Int} {k : Nat} {x : Int} (h : l[k]? = some x) (hb : x < 0 ∨ 64 ≤ x ∨ x ∈ l.take k) : ofP l = (0, 90) := by
  unfold ofP
  rw [if_neg]
  rintro ⟨h1, h2⟩
  have h3 := h1 x (List.mem_of_getElem? h)
  rcases hb with hb | hb | hb
  · omega
  · omega
  · obtain ⟨j, hj, e⟩ := List.mem_take_iff_getElem.1 hb
    obtain ⟨hk, e2⟩ := List.getElem?_eq_some_iff.1 h
    have := (List.getElem_inj (h₀ := by omega) (h₁ := hk) h2).1 (e.trans e2.symm)
    omega
theorem mem_toNat {l : List Int} (h : ∀ x ∈ l, 0 ≤ x ∧ x < 64) (m : Nat) : m ∈ l.map Int.toNat ↔ (m : Int) ∈ l := by
  rw [List.mem_map]
  constructor
  · rintro ⟨x, hx, rfl⟩
    have := h x hx
    rw [Int.toNat_of_nonneg this.1]; exact hx
  · intro hm
    exact ⟨_, hm, by simp⟩
/-- the library's table of bits -/
def DeB (w : World) : Prop := ∀ j, j < 64 → w.cell? ⟨5, j, none⟩ = some (.int .u8 (Lib.deBruijn64tab.getD j 0 : Nat))
theorem add_or {q m : Nat} (hq : q < M64) (hm : m < 64) (h : q.testBit m = false) : q + 2 ^ m = q ||| 2 ^ m := by
  have h1 : q < 2 ^ 65 := Nat.lt_of_lt_of_le hq (by decide)
  have hp := pow_lt hm
  have h2 : 2 ^ m < 2 ^ 65 := Nat.lt_of_lt_of_le hp (by decide)
  have hz : BitVec.ofNat 65 q &&& BitVec.ofNat 65 (2 ^ m) = 0#65 := by
    apply BitVec.eq_of_toNat_eq
    rw [BitVec.toNat_and, BitVec.toNat_ofNat, BitVec.toNat_ofNat, Nat.mod_eq_of_lt h1, Nat.mod_eq_of_lt h2]
    exact and_pow.2 h
  have e := congrArg BitVec.toNat (BitVec.add_eq_or_of_and_eq_zero _ _ hz)
  rw [BitVec.toNat_add, BitVec.toNat_or, BitVec.toNat_ofNat, BitVec.toNat_ofNat, Nat.mod_eq_of_lt h1, Nat.mod_eq_of_lt h2] at e
  rw [Nat.mod_eq_of_lt] at e
  · exact e
  · unfold M64 at hq hp; omega
theorem or_in {q m : Nat} (h : q.testBit m = true) : q ||| 2 ^ m = q := by
  apply Nat.eq_of_testBit_eq
  intro i
  rw [Nat.testBit_or, Nat.testBit_two_pow]
  by_cases e : m = i
  · subst e; simp [h]
  · simp [e]
theorem natI_at {l : List Nat} {k : Nat} {x : Int} (h : (natI l)[k]? = some x) : ∃ m : Nat, x = (m : Int) ∧ l[k]? = some m := by
  unfold natI at h
  rw [List.getElem?_map] at h
  cases hl : l[k]? with
  | none => rw [hl] at h; cases h
  | some m => rw [hl] at h; exact ⟨m, by simpa using h.symm, rfl⟩
theorem natI_len (l : List Nat) : (natI l).length = l.length := by simp [natI]
theorem range_app (k : Nat) : natI (List.range (k + 1)) = natI (List.range k) ++ [(k : Int)] := by rw [List.range_succ, natI_app]; rfl
end Go.Proofs.YtghmcdfmbjabnaaGreatDoor
