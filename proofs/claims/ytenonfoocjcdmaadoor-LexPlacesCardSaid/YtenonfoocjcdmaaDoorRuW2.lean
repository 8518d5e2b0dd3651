/- Contracts of the functions of layer 4 (runes): counts, cuts, small letters. -/
import Derived.Test.YtenonfoocjcdmaaDoorRuW
import Derived.Test.YtenonfoocjcdmaaDoorApp
import Derived.Deep.QuietTactic
import Derived.BigQuiet
namespace Go.Proofs.YtenonfoocjcdmaaDoor
set_option linter.unusedVariables false
open Go.RowKit


set_option maxRecDepth 100000 in
set_option maxHeartbeats 1000000 in
theorem count_any (s : ByteArray) (w : World) (hs : s.size ≤ maxLen) :
    Calls Tryd.prog 30 #[.string s] w fun e w' => e = .returned (.int .i64 (runes (bl s)).length) ∧ Below w.heap.size w w' := by
  unfold maxLen at hs
  have hrl := runes_size s
  go_enter Tryd.func30, Tryd.ntmps30
  go_wp2
  go_loopw [3] (fun n wr => ∃ k : Nat, k ≤ (runes (bl s)).length ∧ n = .int .i64 k ∧ wr.heap[w.heap.size]? = some (.stringIter s (posN k (bl s))) ∧ Below w.heap.size w wr) (fun n _ => (runes (bl s)).length - (intOf n).toNat)
  case atStart => exact ⟨0, Nat.zero_le _, rfl, iter_start w s, (Below.refl _ w).alloc (Nat.le_refl _) _⟩
  case round =>
    obtain ⟨k, hk, rfl, hit, hb⟩ := hrel
    have hsz : w.heap.size < wr.heap.size := (Array.getElem?_eq_some_iff.1 hit).1
    by_cases hlt : k < (runes (bl s)).length
    · obtain ⟨r, hr, hrm, hnx⟩ := next_rune wr _ s k hlt hit
      have hit2 := Lib.hid (Lib.iterAt_heap wr _ s _ (posN (k + 1) (bl s)) hit)
      have hb2 := Lib.below_iterAt hb (Nat.le_refl _) s (posN (k + 1) (bl s))
      clear hit
      go_wp2
      go_roundw
      case rel => exact ⟨k + 1, by omega, by go_num, hit2.out, hb2⟩
      case measure => simp [intOf]; omega
    · have hk2 : Hid (k = (runes (bl s)).length) := by show _ = _; omega
      have hnx := next_end wr _ s k hk2.out hit
      clear hit
      go_wp2
      go_ret
      exact ⟨ret_int (by rw [← hk2.out]), hb⟩

/-- the two parts of a text that is cut behind k runes -/
def cutA (s : ByteArray) (k : Nat) : ByteArray := s.extract 0 (posN k (bl s))
def cutB (s : ByteArray) (k : Nat) : ByteArray := s.extract (posN k (bl s)) s.size
theorem ba_ext {a b : ByteArray} (h : a.data.toList = b.data.toList) : a = b := by
  cases a; cases b; simp at h; rw [h]
theorem bl_extract (s : ByteArray) (i j : Nat) : bl (s.extract i j) = ((bl s).drop i).take (j - i) := Lib.extract_data s i j
theorem bl_cutA (s : ByteArray) (k : Nat) : bl (cutA s k) = (bl s).take (posN k (bl s)) := by rw [cutA, bl_extract]; simp
theorem bl_cutB (s : ByteArray) (k : Nat) : bl (cutB s k) = (bl s).drop (posN k (bl s)) := by
  rw [cutB, bl_extract, List.take_of_length_le]
  rw [List.length_drop, bl_len]; omega
theorem cutA_end (s : ByteArray) : cutA s (runes (bl s)).length = s := ba_ext (by
  show bl _ = bl _
  rw [bl_cutA, pos_end rfl, List.take_length])
theorem cutB_end (s : ByteArray) : cutB s (runes (bl s)).length = ⟨#[]⟩ := ba_ext (by
  show bl _ = _
  rw [bl_cutB, pos_end rfl, List.drop_length])

set_option maxRecDepth 100000 in
set_option maxHeartbeats 1000000 in
theorem cut_yes (s : ByteArray) (m : Nat) (w : World) (hs : s.size ≤ maxLen) (hm : m ≤ (runes (bl s)).length) :
    Calls Tryd.prog 22 #[.string s, .int .i64 m] w fun e w' => e = .returned (.tuple #[.string (cutA s m), .string (cutB s m), .bool true]) ∧ Below w.heap.size w w' := by
  unfold maxLen at hs
  have hrl := runes_size s
  go_enter Tryd.func22, Tryd.ntmps22
  go_wp2
  go_loopw [1] (fun n wr => ∃ k : Nat, k ≤ m ∧ n = .int .i64 ((m : Int) - k) ∧ wr.heap[w.heap.size]? = some (.stringIter s (posN k (bl s))) ∧ Below w.heap.size w wr) (fun n _ => (intOf n).toNat)
  case atStart => exact ⟨0, Nat.zero_le _, by simp, iter_start w s, (Below.refl _ w).alloc (Nat.le_refl _) _⟩
  case round =>
    obtain ⟨k, hk, rfl, hit, hb⟩ := hrel
    have hsz : w.heap.size < wr.heap.size := (Array.getElem?_eq_some_iff.1 hit).1
    by_cases hlt : k < (runes (bl s)).length
    · obtain ⟨r, hr, hrm, hnx⟩ := next_rune wr _ s k hlt hit
      have hit2 := Lib.hid (Lib.iterAt_heap wr _ s _ (posN (k + 1) (bl s)) hit)
      have hb2 := Lib.below_iterAt hb (Nat.le_refl _) s (posN (k + 1) (bl s))
      have hpl := pos_le k (l := bl s) (by omega)
      rw [bl_len] at hpl
      by_cases hkm : k = m
      · subst hkm
        have hz : ((k : Int) - k == 0) = true := by simp
        have hp0 : (0 : Int) ≤ (posN k (bl s) : Int) := by omega
        have hp1 : (posN k (bl s) : Int) ≤ (s.size : Int) := by omega
        clear hit
        go_wp2
        go_quiet (fail)
        go_wp2
        go_ret3
        exact ⟨rfl, below_drewN hb2 _⟩
      · have hz : ((m : Int) - k == 0) = false := by simp; omega
        have hz2 : 1 ≤ (m : Int) - k := by omega
        clear hit
        go_wp2
        go_roundw
        case rel => exact ⟨k + 1, by omega, by congr 1; omega, hit2.out, hb2⟩
        case measure => simp [intOf]; omega
    · have hk2 : k = (runes (bl s)).length := by omega
      have hkm : m = k := by omega
      have hnx := next_end wr _ s k hk2 hit
      have HA : Hid (cutA s m = s) := by rw [hkm, hk2]; exact cutA_end s
      have HB : Hid (cutB s m = ⟨#[]⟩) := by rw [hkm, hk2]; exact cutB_end s
      have hz : ¬ (0 < (m : Int) - k) := by omega
      clear hit hk2 hkm
      go_wp2
      go_ret3
      exact ⟨ret_v (by rw [HA.out, HB.out]; rfl), hb⟩
set_option maxRecDepth 100000 in
set_option maxHeartbeats 1000000 in
theorem cut_no (s : ByteArray) (m : Int) (w : World) (hs : s.size ≤ maxLen) (hm : m < 0 ∨ ((runes (bl s)).length : Int) < m) (hm2 : m ≤ 9223372036854775807) :
    Calls Tryd.prog 22 #[.string s, .int .i64 m] w fun e w' => e = .returned (.tuple #[.string ⟨#[]⟩, .string ⟨#[]⟩, .bool false]) ∧ Below w.heap.size w w' := by
  unfold maxLen at hs
  have hrl := runes_size s
  by_cases h0 : m < 0
  · go_enter Tryd.func22, Tryd.ntmps22
    go_wp2
    go_ret3
    exact ⟨rfl, Below.refl _ _⟩
  · have hm3 : ((runes (bl s)).length : Int) < m := by omega
    go_enter Tryd.func22, Tryd.ntmps22
    go_wp2
    go_loopw [1] (fun n wr => ∃ k : Nat, k ≤ (runes (bl s)).length ∧ n = .int .i64 (m - k) ∧ wr.heap[w.heap.size]? = some (.stringIter s (posN k (bl s))) ∧ Below w.heap.size w wr) (fun n _ => (intOf n).toNat)
    case atStart => exact ⟨0, Nat.zero_le _, by simp, iter_start w s, (Below.refl _ w).alloc (Nat.le_refl _) _⟩
    case round =>
      obtain ⟨k, hk, rfl, hit, hb⟩ := hrel
      have hsz : w.heap.size < wr.heap.size := (Array.getElem?_eq_some_iff.1 hit).1
      have hz2 : 1 ≤ m - k := by omega
      by_cases hlt : k < (runes (bl s)).length
      · obtain ⟨r, hr, hrm, hnx⟩ := next_rune wr _ s k hlt hit
        have hit2 := Lib.hid (Lib.iterAt_heap wr _ s _ (posN (k + 1) (bl s)) hit)
        have hb2 := Lib.below_iterAt hb (Nat.le_refl _) s (posN (k + 1) (bl s))
        have hz : (m - k == 0) = false := by simp; omega
        clear hit
        go_wp2
        go_roundw
        case rel => exact ⟨k + 1, by omega, by congr 1; omega, hit2.out, hb2⟩
        case measure => simp [intOf]; omega
      · have hk2 : k = (runes (bl s)).length := by omega
        have hnx := next_end wr _ s k hk2 hit
        clear hit hk2
        go_wp2
        go_ret3
        exact ⟨rfl, hb⟩
end Go.Proofs.YtenonfoocjcdmaaDoor
