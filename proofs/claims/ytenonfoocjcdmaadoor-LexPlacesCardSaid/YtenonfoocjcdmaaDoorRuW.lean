/- Contracts of the functions of layer 4 (runes): classes, checks, counts. -/
import Derived.Test.YtenonfoocjcdmaaDoorBld
import Derived.Test.YtenonfoocjcdmaaDoorRuP3
namespace Go.Proofs.YtenonfoocjcdmaaDoor
set_option linter.unusedVariables false
open Go.RowKit

set_option maxHeartbeats 1000000 in
theorem class_any (r : Int) (w : World) :
    Calls Tryd.prog 68 #[.int .i32 r] w fun e w' => e = .returned (.int .i64 (classV r)) ∧ w = w' := by
  go_enter Tryd.func68, Tryd.ntmps68
  go_wp2
  all_goals
    go_ret
    refine ⟨ret_int ?_, rfl⟩
    try simp only [beq_iff_eq, beq_eq_false_iff_ne] at *
    unfold classV
    repeat' split
    all_goals first | rfl | (exfalso; omega)

/-- a text's bytes as a list -/
abbrev bl (s : ByteArray) : List UInt8 := s.data.toList
theorem bl_len (s : ByteArray) : (bl s).length = s.size := rfl
theorem next_rune (wr : World) (b : Nat) (s : ByteArray) (k : Nat) (h : k < (runes (bl s)).length) (hit : wr.heap[b]? = some (.stringIter s (posN k (bl s)))) :
    ∃ r : Nat, Hid ((runes (bl s))[k]? = some r) ∧ r ≤ 1114111 ∧ ∀ ty, (Instr.next (.pointer (some ⟨b, 0, none⟩)) true ty).run Tryd.prog wr =
      .ok (.tuple #[.bool true, .int .i64 (posN k (bl s)), .int .i32 r]) (wr.iterAt b s (posN (k + 1) (bl s))) := by
  have hlt := (pos_lt_iff k (by omega)).2 h
  rw [bl_len] at hlt
  have e : Utf8.decode s (posN k (bl s)) = dec ((bl s).drop (posN k (bl s))) := (Lib.decodeL_drop s _).symm
  refine ⟨_, pos_rune k h, dec_max _, fun ty => ?_⟩
  rw [Lib.run_next_any_at wr b s _ ty hit hlt, e, pos_succ k h]
theorem next_end (wr : World) (b : Nat) (s : ByteArray) (k : Nat) (h : k = (runes (bl s)).length) (hit : wr.heap[b]? = some (.stringIter s (posN k (bl s)))) :
    ∀ ty, (Instr.next (.pointer (some ⟨b, 0, none⟩)) true ty).run Tryd.prog wr = .ok (.tuple #[.bool false]) wr := fun ty =>
  Lib.run_next_end_at wr b s _ ty hit (by rw [pos_end h, bl_len]; omega)
theorem runes_size (s : ByteArray) : (runes (bl s)).length ≤ s.size := by have := runes_len_le (bl s); rw [bl_len] at this; exact this
theorem iter_start (w : World) (s : ByteArray) : (w.iter s 0).heap[w.heap.size]? = some (.stringIter s (posN 0 (bl s))) := by
  have := World.iter_heap w s 0
  simpa [posN] using this
theorem take_good {l : List Nat} {k r : Nat} (h : l[k]? = some r) (ha : (l.take k).all (fun r => !badR r) = true) (hr : badR r = false) : (l.take (k + 1)).all (fun r => !badR r) = true := by
  rw [List.take_add_one, h]; simp only [List.all_append, ha, Option.toList, List.all_cons, hr, List.all_nil]; rfl
theorem split_at {l : List Nat} {k r : Nat} (h : l[k]? = some r) : l = l.take k ++ r :: l.drop (k + 1) := by
  obtain ⟨hk, e⟩ := List.getElem?_eq_some_iff.1 h
  rw [← e, List.getElem_cons_drop, List.take_append_drop]

set_option maxHeartbeats 1000000 in
theorem check_any (s : ByteArray) (w : World) (hs : s.size ≤ maxLen) :
    Calls Tryd.prog 102 #[.string s] w fun e w' => e = .returned (.tuple #[.int .i64 (checkN (bl s)), .int .i64 (checkE (bl s))]) ∧ Below w.heap.size w w' := by
  unfold maxLen at hs
  have hrl := runes_size s
  go_enter Tryd.func102, Tryd.ntmps102
  go_wp2
  go_loopw [4] (fun n wr => ∃ k : Nat, k ≤ (runes (bl s)).length ∧ n = .int .i64 k ∧ Hid (((runes (bl s)).take k).all (fun r => !badR r) = true) ∧ wr.heap[w.heap.size]? = some (.stringIter s (posN k (bl s))) ∧ Below w.heap.size w wr) (fun n _ => (runes (bl s)).length - (intOf n).toNat)
  case atStart => exact ⟨0, Nat.zero_le _, rfl, rfl, iter_start w s, (Below.refl _ w).alloc (Nat.le_refl _) _⟩
  case round =>
    obtain ⟨k, hk, rfl, ha, hit, hb⟩ := hrel
    have hsz : w.heap.size < wr.heap.size := (Array.getElem?_eq_some_iff.1 hit).1
    by_cases hlt : k < (runes (bl s)).length
    · obtain ⟨r, hr, hrm, hnx⟩ := next_rune wr _ s k hlt hit
      have hit2 := Lib.hid (Lib.iterAt_heap wr _ s _ (posN (k + 1) (bl s)) hit)
      have hb2 := Lib.below_iterAt hb (Nat.le_refl _) s (posN (k + 1) (bl s))
      by_cases hbad : badR r = true
      · have hc : (classV (r : Int) == 0) = true := hbad
        have hfin := Lib.hid (check_split (split_at hr.out) ha.out hbad)
        clear hbad hit
        go_wp2_with (go_at_call 68; refine (class_any _ _).mono ?_; rintro e w' ⟨rfl, rfl⟩)
        go_ret2
        exact ⟨ret_v (by rw [hfin.out.2, checkE_bad hfin.out.1]; simp; omega), hb2⟩
      · have hc : (classV (r : Int) == 0) = false := by simpa [badR] using hbad
        have ha2 := Lib.hid (take_good hr.out ha.out (by simpa using hbad))
        clear hbad hit ha
        go_wp2_with (go_at_call 68; refine (class_any _ _).mono ?_; rintro e w' ⟨rfl, rfl⟩)
        go_roundw
        case rel => exact ⟨k + 1, by omega, by go_num, ha2, hit2.out, hb2⟩
        case measure => simp [intOf]; omega
    · have hk2 : Hid (k = (runes (bl s)).length) := by show _ = _; omega
      have hnx := next_end wr _ s k hk2.out hit
      have hok : Hid (okL (bl s) = true) := by
        show _ = _
        have h := ha.out
        rw [hk2.out, List.take_length] at h
        exact h
      clear hit
      go_wp2
      go_ret2
      exact ⟨ret_v (by rw [checkN_ok hok.out, checkE_ok hok.out, ← hk2.out]; rfl), hb⟩
end Go.Proofs.YtenonfoocjcdmaaDoor
