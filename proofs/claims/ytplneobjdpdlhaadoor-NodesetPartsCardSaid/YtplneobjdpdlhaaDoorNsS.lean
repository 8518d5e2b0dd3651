/- Layer 9, plain: the runs of a set's members, and its text. -/
import Derived.Test.YtplneobjdpdlhaaDoorNsW3
import Derived.Lib.Join
import Derived.Lib.ItoaNum
namespace Go.Proofs.YtplneobjdpdlhaaDoor
set_option linter.unusedVariables false
open Go.RowKit
/-- the runs of members that follow on one another: first and last -/
def runsL : List Nat → List (Nat × Nat)
  | [] => []
  | a :: l => match runsL l with
    | [] => [(a, a)]
    | (b, c) :: r => if b = a + 1 then (a, c) :: r else (a, a) :: (b, c) :: r
def segT (p : Nat × Nat) : List UInt8 := Lib.decDigits p.1 ++ (if p.1 < p.2 then [45] ++ Lib.decDigits p.2 else [])
def showN (s : Nat) : List UInt8 := if s = 0 then [45] else Lib.join ((runsL (memL s)).map segT) [44]
theorem runs_head (l : List Nat) : (runsL l).head?.map Prod.fst = l.head? := by
  cases l with
  | nil => rfl
  | cons a l =>
    unfold runsL
    cases runsL l with
    | nil => rfl
    | cons p r => dsimp only; split <;> rfl
theorem run_step : ∀ (j a : Nat) (l : List Nat), l.head? ≠ some (a + j + 1) → runsL (List.range' a (j + 1) ++ l) = (a, a + j) :: runsL l
  | 0, a, l, h => by
    show runsL (a :: l) = _
    rw [runsL]
    have hh := runs_head l
    cases hr : runsL l with
    | nil => rfl
    | cons p r =>
      obtain ⟨b, c⟩ := p
      rw [hr] at hh
      have hb : b ≠ a + 1 := by
        intro e
        subst e
        exact h (by rw [← hh]; rfl)
      dsimp only
      rw [if_neg hb]
      rfl
  | j + 1, a, l, h => by
    have e : List.range' a (j + 1 + 1) = a :: List.range' (a + 1) (j + 1) := rfl
    rw [e, List.cons_append, runsL, run_step j (a + 1) l (by rw [show a + 1 + j + 1 = a + (j + 1) + 1 by omega]; exact h)]
    dsimp only
    rw [if_pos rfl, show a + 1 + j = a + (j + 1) by omega]
theorem join_snoc {xs : List (List UInt8)} (h : xs ≠ []) (y sep : List UInt8) : Lib.join (xs ++ [y]) sep = Lib.join xs sep ++ sep ++ y := by
  cases xs with
  | nil => exact absurd rfl h
  | cons x r => rw [List.cons_append, Lib.join_cons, Lib.join_cons]; simp [Lib.joinTail, List.append_assoc]
/-- the least member, and how many follow on one another from there -/
theorem ctz_bit {x : Nat} (h0 : x ≠ 0) (hx : x < M64) : Lib.ctz 64 x < 64 ∧ x.testBit (Lib.ctz 64 x) = true ∧ ∀ i, i < Lib.ctz 64 x → x.testBit i = false := by
  obtain ⟨m, hm, hk⟩ := Lib.ctzFrom_spec 64 x (by omega) hx
  have e : Lib.ctz 64 x = Lib.ctzFrom 64 x := by unfold Lib.ctz; rw [if_neg h0]
  rw [e]
  generalize Lib.ctzFrom 64 x = k at hm hk
  have e2 : x = 2 ^ (k + 1) * m + 2 ^ k := by rw [hm, Nat.pow_succ, Nat.mul_add, Nat.mul_one, Nat.mul_assoc]
  rw [e2]
  refine ⟨hk, ?_, fun i hi => ?_⟩
  · rw [low_bits, if_neg (by omega), if_pos rfl]
  · rw [low_bits, if_pos hi]
def fromS (s : Nat) : Nat := Lib.ctz 64 s
def longS (s : Nat) : Nat := Lib.ctz 64 (M64 - 1 - s / 2 ^ fromS s)
def restS (s : Nat) : Nat := diff s (allS ((fromS s : Int) + (longS s : Int)))
theorem run_facts {s : Nat} (h0 : s ≠ 0) (hs : s < M64) :
    fromS s < 64 ∧ 1 ≤ longS s ∧ fromS s + longS s ≤ 64 ∧ (∀ i, i < fromS s → s.testBit i = false) ∧ (∀ i, fromS s ≤ i → i < fromS s + longS s → s.testBit i = true) ∧ s.testBit (fromS s + longS s) = false := by
  obtain ⟨h1, h2, h3⟩ := ctz_bit h0 hs
  have hf : fromS s = Lib.ctz 64 s := rfl
  have hl : longS s = Lib.ctz 64 (M64 - 1 - s / 2 ^ fromS s) := rfl
  rw [← hf] at h1 h2 h3
  generalize fromS s = f at h1 h2 h3 hl ⊢
  have hy : s / 2 ^ f < M64 := Nat.lt_of_le_of_lt (Nat.div_le_self _ _) hs
  have hb := M_bit hy
  have hyb : ∀ i, (s / 2 ^ f).testBit i = s.testBit (f + i) := fun i => by rw [Nat.testBit_div_two_pow, Nat.add_comm]
  generalize longS s = g at hl ⊢
  have hbig : ∀ i, 64 ≤ i → s.testBit i = false := fun i hi => by
    cases hq : s.testBit i with
    | false => rfl
    | true => have := bit_lt hs hq; omega
  by_cases hz : M64 - 1 - s / 2 ^ f = 0
  · have hg : g = 64 := by rw [hl, hz]; rfl
    have hall : ∀ i, i < 64 → s.testBit (f + i) = true := fun i hi => by
      have h4 := hb i
      rw [hz, Nat.zero_testBit, hyb i] at h4
      simpa [hi] using h4
    have hf0 : f = 0 := by
      rcases Nat.eq_zero_or_pos f with h | h
      · exact h
      · have h5 := hall 63 (by omega)
        have := bit_lt hs h5; omega
    subst hf0
    subst hg
    refine ⟨h1, by omega, by omega, fun i hi => by omega, fun i _ hi => ?_, hbig _ (by omega)⟩
    have := hall i (by omega)
    rwa [Nat.zero_add] at this
  · have hzl : M64 - 1 - s / 2 ^ f < M64 := Nat.lt_of_le_of_lt (Nat.sub_le _ _) (by decide)
    obtain ⟨k1, k2, k3⟩ := ctz_bit hz hzl
    rw [← hl] at k1 k2 k3
    have hlo : ∀ i, i < g → s.testBit (f + i) = true := fun i hi => by
      have h4 := hb i
      rw [k3 i hi, hyb i] at h4
      have : i < 64 := by omega
      simpa [this] using h4
    have hhi : s.testBit (f + g) = false := by
      have h4 := hb g
      rw [k2, hyb g] at h4
      simpa [k1] using h4
    have hg1 : 1 ≤ g := by
      rcases Nat.eq_zero_or_pos g with h | h
      · subst h; rw [Nat.add_zero, h2] at hhi; cases hhi
      · exact h
    refine ⟨h1, hg1, ?_, h3, fun i hi hj => ?_, hhi⟩
    · have := bit_lt hs (hlo (g - 1) (by omega)); omega
    · have := hlo (i - f) (by omega)
      rwa [Nat.add_sub_cancel' hi] at this
theorem restS_lt {s : Nat} (hs : s < M64) : restS s < M64 := diff_lt hs
theorem mem_split {s : Nat} (h0 : s ≠ 0) (hs : s < M64) : memL s = List.range' (fromS s) (longS s) ++ memL (restS s) := by
  obtain ⟨h1, h2, h3, h4, h5, h6⟩ := run_facts h0 hs
  have hr : ∀ i, i ∈ memL (restS s) ↔ i < 64 ∧ s.testBit i = true ∧ fromS s + longS s ≤ i := fun i => by
    rw [mem_memL]
    unfold restS
    rw [diff_bit hs (allS_lt _), allS_bit]
    constructor
    · rintro ⟨a, b⟩
      simp only [Bool.and_eq_true, Bool.not_eq_true', Bool.and_eq_false_iff, decide_eq_false_iff_not] at b
      refine ⟨a, b.1, ?_⟩
      rcases b.2 with c | c <;> omega
    · rintro ⟨a, b, c⟩
      refine ⟨a, ?_⟩
      simp only [Bool.and_eq_true, Bool.not_eq_true', Bool.and_eq_false_iff, decide_eq_false_iff_not]
      exact ⟨b, .inl (by omega)⟩
  refine sorted_ext (memL_sorted s) ?_ (fun i => ?_)
  · rw [List.pairwise_append]
    refine ⟨List.pairwise_lt_range' .., memL_sorted _, fun a ha b hb => ?_⟩
    have := (hr b).1 hb
    rw [List.mem_range'_1] at ha
    omega
  · rw [List.mem_append, hr, List.mem_range'_1, mem_memL]
    constructor
    · rintro ⟨a, b⟩
      by_cases hc : fromS s + longS s ≤ i
      · exact .inr ⟨a, b, hc⟩
      · refine .inl ⟨?_, by omega⟩
        rcases Nat.lt_or_ge i (fromS s) with h | h
        · rw [h4 i h] at b; cases b
        · exact h
    · rintro (⟨a, b⟩ | ⟨a, b, c⟩)
      · exact ⟨by omega, h5 i a b⟩
      · exact ⟨a, b⟩
theorem runs_split {s : Nat} (h0 : s ≠ 0) (hs : s < M64) : runsL (memL s) = (fromS s, fromS s + longS s - 1) :: runsL (memL (restS s)) := by
  obtain ⟨h1, h2, h3, h4, h5, h6⟩ := run_facts h0 hs
  have hsp := mem_split h0 hs
  obtain ⟨j, hj⟩ : ∃ j, longS s = j + 1 := ⟨longS s - 1, by omega⟩
  have hh : (memL (restS s)).head? ≠ some (fromS s + j + 1) := by
    intro e
    have hm : fromS s + j + 1 ∈ memL s := by
      rw [hsp]; exact List.mem_append_right _ (List.mem_of_head? e)
    rw [show fromS s + j + 1 = fromS s + longS s by omega, mem_memL, h6] at hm
    cases hm.2
  rw [hsp, hj, run_step j _ _ hh]
  congr 1
theorem memL_nil {s : Nat} (hs : s < M64) : memL s = [] ↔ s = 0 := by
  constructor
  · intro h; rw [← setL_memL hs, h]; rfl
  · rintro rfl; unfold memL; simp
end Go.Proofs.YtplneobjdpdlhaaDoor
