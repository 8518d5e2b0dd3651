/- Arguments opened: a slice of records reads as a list. -/
import Derived.Test.YtlhogedcokcmhaaRec
import Derived.Deep.Slices
import Derived.Deep.Fields
import Derived.ChangeArms
namespace Go.Proofs.Ytlhogedcokcmhaa
set_option linter.unusedVariables false
open Go.RowKit Go.ChangeShapes Go.WideShapes Go.Deep
theorem list_of_all {α : Type} {Q : Nat → α → Prop} : ∀ (n : Nat), (∀ i, i < n → ∃ a, Q i a) → ∃ l : List α, l.length = n ∧ ∀ i a, l[i]? = some a → Q i a
  | 0, _ => ⟨[], rfl, fun i a h => by simp at h⟩
  | n + 1, h => by
    obtain ⟨l, hl, hq⟩ := list_of_all n (fun i hi => h i (by omega))
    obtain ⟨a, ha⟩ := h n (by omega)
    refine ⟨l ++ [a], by simp [hl], fun i b hb => ?_⟩
    rcases Nat.lt_or_ge i n with hi | hi
    · exact hq i b (by rwa [List.getElem?_append_left (by omega)] at hb)
    · rw [List.getElem?_append_right (by omega), hl] at hb
      have h0 : i - n < 1 := by simpa using (List.getElem?_eq_some_iff.1 hb).1
      obtain rfl : i = n := by omega
      simp at hb; subst hb; exact ha
section
variable {H : Type} {enc0 : TypeId × Value → H} {w : World} {base : Nat} {held : Bool}
theorem open_list {t e : TypeId} {m : Nat} {α : Type} {enc : α → List Value} {wf : α → Prop} {fuel : Nat} {cs : List Value} {x : DataW H × List MemPlace}
    (ht : Try.prog.underlying t = some (.slice e)) (hC : Try.prog.cellsOf e = m) (hm : 0 < m) (he : ∀ a, (enc a).length = m)
    (hE : ∀ (fuel : Nat) (cs : List Value) (x : DataW H × List MemPlace), DataW.trod enc0 Try.prog w base (fun _ => true) held fuel e cs = some x → ∃ a : α, cs = enc a ∧ wf a)
    (h : DataW.trod enc0 Try.prog w base (fun _ => true) held fuel t cs = some x) :
    ∃ (A : Option Addr) (n c : Nat) (l : List α), cs = [.slice A n c] ∧ Reads w w.heap.size m A n (recs enc l) ∧ n ≤ c ∧ n ≤ maxLen ∧ ∀ a ∈ l, wf a := by
  rcases open_slice ht h with ⟨rfl, _⟩ | ⟨a, len, cap, k, n, D, Pl, rfl, hb, hl, hmx, hk, _, hx⟩
  · exact ⟨none, 0, 0, [], rfl, Reads.none_, Nat.le_refl _, Nat.zero_le _, by simp⟩
  · have hk' : k = cap := by simpa using hk
    obtain ⟨l, hll, hq⟩ := list_of_all (Q := fun i (x : α) => (∀ r v, (enc x)[r]? = some v → w.cell? (a.add (i * m + r)) = some v) ∧ wf x) len (fun i hi => by
      obtain ⟨cs', hc, ht'⟩ := hx i (by omega)
      obtain ⟨y, rfl, hy⟩ := hE _ _ _ ht'
      obtain ⟨_, _, hcell⟩ := World.cells?_some hc
      refine ⟨y, fun r v hv => ?_, hy⟩
      have hr : r < m := by rw [← he y]; exact (List.getElem?_eq_some_iff.1 hv).1
      have h1 := hcell r (by rw [hC]; exact hr)
      rw [hC, add_of_add, hv] at h1
      exact h1)
    refine ⟨some a, len, cap, l, rfl, ⟨by rw [recs_len he, hll], fun h0 => ⟨a, rfl, ?_, fun j v hv => ?_⟩⟩, hl, by omega, fun y hy => ?_⟩
    · have hx0 : l[0]? = some (l[0]'(by omega)) := List.getElem?_eq_getElem (by omega)
      have h2 := (hq 0 _ hx0).1 0 _ (List.getElem?_eq_getElem (by rw [he]; exact hm))
      have h3 := cell_lt h2
      rwa [block_of_add] at h3
    · have hj : j < l.length * m := by rw [← recs_len he]; exact (List.getElem?_eq_some_iff.1 hv).1
      have hi : j / m < l.length := (Nat.div_lt_iff_lt_mul hm).2 hj
      have hx0 : l[j / m]? = some (l[j / m]'hi) := List.getElem?_eq_getElem hi
      have e1 : j / m * m + j % m = j := by rw [Nat.mul_comm]; exact Nat.div_add_mod j m
      have h2 := (hq _ _ hx0).1 (j % m) v (by rw [← recs_at he hx0 (Nat.mod_lt _ hm), e1]; exact hv)
      rwa [e1] at h2
    · obtain ⟨i, hi⟩ := List.getElem?_of_mem hy
      exact (hq i y hi).2
end
end Go.Proofs.Ytlhogedcokcmhaa
