/- Contracts of the reference of layer 4 (runes). Contracts of the reference of layer 4 (runes): small letters, quoting, unquoting. Contracts of the reference of layer 4 (runes): unquoting. -/
import Derived.Test.YtmkmmggimokagaaGreatDoorK3
namespace Go.Proofs.YtmkmmggimokagaaGreatDoor
set_option linter.unusedVariables false
open Go.RowKit
/-- where the runes of a text begin -/
def startsV (l : List UInt8) (k : Nat) : List Int := (List.range k).map (fun j => (posN j l : Int))
theorem startsV_succ (l : List UInt8) (k : Nat) : startsV l (k + 1) = startsV l k ++ [(posN k l : Int)] := by simp [startsV, List.range_succ]
theorem startsV_at {l : List UInt8} {k n : Nat} (h : k < n) : (startsV l n)[k]? = some (posN k l : Int) := by simp [startsV, h]
def StartsPost (s : ByteArray) (w : World) (e : Ending) (w' : World) : Prop :=
  ∃ A c, e = .returned (.slice A ((runes (bl s)).length + 1) c) ∧ Reads w' w'.heap.size 1 A ((runes (bl s)).length + 1) (ints (startsV (bl s) ((runes (bl s)).length + 1))) ∧ Below w.heap.size w w'
theorem take_map_next {l : List UInt8} {k : Nat} {b : UInt8} (h : l[k]? = some b) : (l.take k).map lowB ++ [lowB b] = (l.take (k + 1)).map lowB := by
  rw [List.take_add_one, h]; simp
theorem esc_next {l : List UInt8} {k : Nat} {b : UInt8} (h : l[k]? = some b) : esc (l.take (k + 1)) = esc (l.take k) ++ (if b = 34 ∨ b = 92 then [92, b] else [b]) := by
  rw [List.take_add_one, h, esc_append]; simp [esc]
theorem esc_len (l : List UInt8) : (esc l).length ≤ 2 * l.length := by
  induction l with
  | nil => simp [esc]
  | cons b t ih =>
    show ((if b = 34 ∨ b = 92 then [92, b] else [b]) ++ esc t).length ≤ _
    simp only [List.length_append, List.length_cons]
    split <;> simp <;> omega
theorem bl_get {s : ByteArray} {k : Nat} (h : k < s.size) : (bl s)[k]? = some (s[k]'h) := by
  rw [List.getElem?_eq_getElem (by rw [bl_len]; exact h)]; rfl
theorem inner_len (l : List UInt8) : (inner l).length = l.length - 2 := by simp [inner]; omega
theorem inner_at {l : List UInt8} {k : Nat} {b : UInt8} (h : l[k + 1]? = some b) (hk : k < (inner l).length) : (inner l)[k]? = some b := by
  rw [inner_len] at hk
  unfold inner
  rw [List.getElem?_take, if_pos hk, List.getElem?_drop, Nat.add_comm 1 k, h]
theorem drop_b {l : List UInt8} {k : Nat} {b : UInt8} (h : l[k]? = some b) : l.drop k = b :: l.drop (k + 1) := by
  obtain ⟨hk, e⟩ := List.getElem?_eq_some_iff.1 h
  rw [← e, List.getElem_cons_drop]
theorem strip_plain {l : List UInt8} {k : Nat} {b : UInt8} (h : l[k]? = some b) (hn : b ≠ 92 ∨ l.length = k + 1) : strip (l.drop k) = b :: strip (l.drop (k + 1)) := by
  rw [drop_b h]
  rcases hn with hn | hn
  · cases he : l.drop (k + 1) with
    | nil => simp [strip]
    | cons d t => rw [strip, if_neg hn]
  · rw [List.drop_eq_nil_of_le (by omega)]; simp [strip]
theorem strip_sign {l : List UInt8} {k : Nat} {b : UInt8} (h : l[k]? = some 92) (h2 : l[k + 1]? = some b) : strip (l.drop k) = b :: strip (l.drop (k + 2)) := by
  rw [drop_b h, drop_b h2, strip, if_pos rfl]
theorem bl_mk (l : List UInt8) : bl ⟨l.toArray⟩ = l := by simp [bl]
theorem tl_bl (s : ByteArray) : s.toList = bl s := by simp [bl, Lib.toList_data]
theorem size_mk (l : List UInt8) : (⟨l.toArray⟩ : ByteArray).size = l.length := by rw [← bl_len, bl_mk]
end Go.Proofs.YtmkmmggimokagaaGreatDoor
