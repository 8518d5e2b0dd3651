/- Slices of structs: a list of records reads as the cells of its records, one behind the other. -/
import Derived.Test.YtenonfoocjcdmaaDoorBase
namespace Go.Proofs.YtenonfoocjcdmaaDoor
set_option linter.unusedVariables false
open Go.RowKit

theorem add_plain (b o j : Nat) : (Addr.add ⟨b, o, none⟩ j) = ⟨b, o + j, none⟩ := by unfold Addr.add; split <;> simp_all
theorem Reads.plain {w : World} {B size n : Nat} {A : Option Addr} {xs : List Value} (h : Reads w B size A n xs) (hn : 0 < n) (hs : 0 < size) :
    ∃ b o, A = some ⟨b, o, none⟩ ∧ b < B ∧ ∀ (j : Nat) (u : Value), xs[j]? = some u → w.cell? ⟨b, o + j, none⟩ = some u := by
  obtain ⟨⟨b, o, sp⟩, rfl, hb, hc⟩ := h.2 hn
  have h0 : 0 < xs.length := by rw [h.1]; exact Nat.mul_pos hn hs
  have h1 := hc 0 _ (List.getElem?_eq_getElem h0)
  have hsp : sp = none := by
    cases sp with
    | none => rfl
    | some s =>
      have e : (Addr.add ⟨b, o, some s⟩ 0) = ⟨b, o, some s⟩ := by simp [Addr.add]
      rw [e] at h1
      simp only [World.cell?] at h1
      split at h1 <;> simp at h1
  subst hsp
  refine ⟨b, o, rfl, hb, fun j u hu => ?_⟩
  rw [← add_plain]; exact hc j u hu

/-- the cells of a list of records, m cells each -/
def recs {α : Type} (enc : α → List Value) (l : List α) : List Value := l.flatMap enc
theorem recs_len {α : Type} {enc : α → List Value} {m : Nat} (he : ∀ x, (enc x).length = m) (l : List α) : (recs enc l).length = l.length * m := by
  induction l with
  | nil => simp [recs]
  | cons x t ih =>
    show (enc x ++ recs enc t).length = _
    rw [List.length_append, he, ih, List.length_cons, Nat.succ_mul]; omega
theorem recs_at {α : Type} {enc : α → List Value} {m : Nat} (he : ∀ x, (enc x).length = m) : ∀ {l : List α} {k j : Nat} {x : α}, l[k]? = some x → j < m → (recs enc l)[k * m + j]? = (enc x)[j]?
  | y :: t, 0, j, x, h, hj => by
    simp at h; subst h
    show (enc y ++ recs enc t)[0 * m + j]? = _
    rw [List.getElem?_append_left (by rw [he]; omega)]; simp
  | y :: t, k + 1, j, x, h, hj => by
    simp at h
    show (enc y ++ recs enc t)[(k + 1) * m + j]? = _
    rw [List.getElem?_append_right (by rw [he, Nat.succ_mul]; omega), he, show (k + 1) * m + j - m = k * m + j by rw [Nat.succ_mul]; omega]
    exact recs_at he h hj
theorem recs_append {α : Type} (enc : α → List Value) (a b : List α) : recs enc (a ++ b) = recs enc a ++ recs enc b := by simp [recs]
theorem Reads.rec_at {α : Type} {enc : α → List Value} {m : Nat} (he : ∀ x, (enc x).length = m) (hm : 0 < m) {w : World} {B n k : Nat} {A : Option Addr} {l : List α} (h : Reads w B m A n (recs enc l)) (hk : k < n) :
    ∃ b o x, A = some ⟨b, o, none⟩ ∧ b < B ∧ Hid (l[k]? = some x) ∧ ∀ j v, (enc x)[j]? = some v → w.cell? ⟨b, o + (k * m + j), none⟩ = some v := by
  obtain ⟨b, o, e, hb, hc⟩ := h.plain (by omega) hm
  have hl : l.length = n := by
    have h1 := h.1
    rw [recs_len he] at h1
    exact Nat.eq_of_mul_eq_mul_right hm h1
  have hx : l[k]? = some (l[k]'(by omega)) := List.getElem?_eq_getElem (by omega)
  refine ⟨b, o, _, e, hb, hx, fun j v hv => ?_⟩
  have hj : j < m := by rw [← he (l[k]'(by omega))]; exact (List.getElem?_eq_some_iff.1 hv).1
  exact hc _ v (by rw [recs_at he hx hj, hv])
theorem Reads.rec_len {α : Type} {enc : α → List Value} {m : Nat} (he : ∀ x, (enc x).length = m) (hm : 0 < m) {w : World} {B n : Nat} {A : Option Addr} {l : List α} (h : Reads w B m A n (recs enc l)) : Hid (l.length = n) := by
  have h1 := h.1
  rw [recs_len he] at h1
  exact Nat.eq_of_mul_eq_mul_right hm h1
theorem recs_one {α : Type} {enc : α → List Value} (he : ∀ x, ∀ u ∈ enc x, u.oneCell' = true) (l : List α) : ∀ u ∈ recs enc l, u.oneCell' = true := by
  intro u hu
  simp only [recs, List.mem_flatMap] at hu
  obtain ⟨x, _, hx⟩ := hu
  exact he x u hx
theorem recs_single {α : Type} (enc : α → List Value) (x : α) : recs enc [x] = enc x := by simp [recs]
theorem recs_take {α : Type} {enc : α → List Value} {m : Nat} (he : ∀ x, (enc x).length = m) : ∀ (l : List α) (k : Nat), recs enc (l.take k) = (recs enc l).take (k * m)
  | [], k => by simp [recs]
  | x :: t, 0 => by simp [recs]
  | x :: t, k + 1 => by
    show enc x ++ recs enc (t.take k) = (enc x ++ recs enc t).take ((k + 1) * m)
    rw [recs_take he t k, List.take_append, he, Nat.succ_mul, Nat.add_sub_cancel, List.take_of_length_le (l := enc x) (by rw [he]; omega)]
theorem recs_drop {α : Type} {enc : α → List Value} {m : Nat} (he : ∀ x, (enc x).length = m) : ∀ (l : List α) (k : Nat), recs enc (l.drop k) = (recs enc l).drop (k * m)
  | [], k => by simp [recs]
  | x :: t, 0 => by simp [recs]
  | x :: t, k + 1 => by
    show recs enc (t.drop k) = (enc x ++ recs enc t).drop ((k + 1) * m)
    rw [recs_drop he t k, List.drop_append, he, Nat.succ_mul, Nat.add_sub_cancel, List.drop_of_length_le (l := enc x) (by rw [he]; omega), List.nil_append]
/-- a store into one cell of one record -/
theorem recs_set {α : Type} {enc : α → List Value} {m : Nat} (he : ∀ x, (enc x).length = m) : ∀ {l : List α} {k j : Nat} {x y : α} {v : Value}, l[k]? = some x → j < m → enc y = (enc x).set j v → (recs enc l).set (k * m + j) v = recs enc (l.set k y)
  | z :: t, 0, j, x, y, v, h, hj, hy => by
    simp at h; subst h
    show (enc z ++ recs enc t).set (0 * m + j) v = enc y ++ recs enc t
    rw [List.set_append_left _ _ (by rw [he]; omega), hy]; simp
  | z :: t, k + 1, j, x, y, v, h, hj, hy => by
    simp at h
    show (enc z ++ recs enc t).set ((k + 1) * m + j) v = enc z ++ recs enc (t.set k y)
    rw [List.set_append_right _ _ (by rw [he, Nat.succ_mul]; omega), he, show (k + 1) * m + j - m = k * m + j by rw [Nat.succ_mul]; omega, recs_set he h hj hy]
end Go.Proofs.YtenonfoocjcdmaaDoor
