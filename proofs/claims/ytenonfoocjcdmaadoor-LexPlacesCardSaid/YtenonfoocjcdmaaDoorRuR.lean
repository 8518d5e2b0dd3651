/- Contracts of the reference of layer 4 (runes). -/
import Derived.Test.YtenonfoocjcdmaaDoorRuW4
namespace Go.Proofs.YtenonfoocjcdmaaDoor
set_option linter.unusedVariables false
open Go.RowKit

set_option maxRecDepth 100000 in
set_option maxHeartbeats 1000000 in
theorem rclass_any (r : Int) (w : World) :
    Calls Tryd.prog 52 #[.int .i32 r] w fun e w' => e = .returned (.int .i64 (classV r)) ∧ w = w' := by
  go_enter Tryd.func52, Tryd.ntmps52
  go_wp2
  all_goals
    go_ret
    refine ⟨ret_int ?_, rfl⟩
    try simp only [beq_iff_eq, beq_eq_false_iff_ne] at *
    unfold classV
    repeat' split
    all_goals first | rfl | (exfalso; omega)

set_option maxRecDepth 100000 in
set_option maxHeartbeats 1000000 in
theorem rcheck_any (s : ByteArray) (w : World) (hs : s.size ≤ maxLen) :
    Calls Tryd.prog 104 #[.string s] w fun e w' => e = .returned (.tuple #[.int .i64 (checkN (bl s)), .int .i64 (checkE (bl s))]) ∧ Below w.heap.size w w' := by
  unfold maxLen at hs
  have hrl := runes_size s
  go_enter Tryd.func104, Tryd.ntmps104
  go_wp2
  go_loopw [4] (fun n wr => ∃ k : Nat, k ≤ (runes (bl s)).length ∧ n = .int .i64 k ∧ Hid (((runes (bl s)).take k).all (fun r => !badR r) = true) ∧ wr.heap[w.heap.size]? = some (.stringIter s (posN k (bl s))) ∧ Below w.heap.size w wr) (fun n _ => (runes (bl s)).length - (intOf n).toNat)
  case atStart => exact ⟨0, Nat.zero_le _, rfl, rfl, iter_start w s, (Below.refl _ w).alloc (Nat.le_refl _) _⟩
  case round =>
    obtain ⟨k, hk, rfl, ha, hit, hb⟩ := hrel
    have hsz : w.heap.size < wr.heap.size := (Array.getElem?_eq_some_iff.1 hit).1
    by_cases hlt : k < (runes (bl s)).length
    · obtain ⟨r, hr, hrm, hnx⟩ := next_rune wr _ s k hlt hit
      have hit2 := Lib.hid (Lib.iterAt_heap wr _ s _ (posN (k + 1) (bl s)) hit)
      have hb2 := Lib.below_iterAt hb (Nat.le_refl _) s (posN (k + 1) (bl s))
      by_cases hbad : badR r = true
      · have hc : (classV (r : Int) == 0) = true := hbad
        have hfin := Lib.hid (check_split (split_at hr.out) ha.out hbad)
        clear hbad hit
        go_wp2_with (go_at_call 52; refine (rclass_any _ _).mono ?_; rintro e w' ⟨rfl, rfl⟩)
        go_ret2
        exact ⟨ret_v (by rw [hfin.out.2, checkE_bad hfin.out.1]; simp; omega), hb2⟩
      · have hc : (classV (r : Int) == 0) = false := by simpa [badR] using hbad
        have ha2 := Lib.hid (take_good hr.out ha.out (by simpa using hbad))
        clear hbad hit ha
        go_wp2_with (go_at_call 52; refine (rclass_any _ _).mono ?_; rintro e w' ⟨rfl, rfl⟩)
        go_roundw
        case rel => exact ⟨k + 1, by omega, by go_num, ha2, hit2.out, hb2⟩
        case measure => simp [intOf]; omega
    · have hk2 : Hid (k = (runes (bl s)).length) := by show _ = _; omega
      have hnx := next_end wr _ s k hk2.out hit
      have hok : Hid (okL (bl s) = true) := by
        show _ = _
        have h := ha.out
        rw [hk2.out, List.take_length] at h
        exact h
      clear hit
      go_wp2
      go_ret2
      exact ⟨ret_v (by rw [checkN_ok hok.out, checkE_ok hok.out, ← hk2.out]; rfl), hb⟩

/-- where the runes of a text begin -/
def startsV (l : List UInt8) (k : Nat) : List Int := (List.range k).map (fun j => (posN j l : Int))
theorem startsV_succ (l : List UInt8) (k : Nat) : startsV l (k + 1) = startsV l k ++ [(posN k l : Int)] := by simp [startsV, List.range_succ]
theorem startsV_at {l : List UInt8} {k n : Nat} (h : k < n) : (startsV l n)[k]? = some (posN k l : Int) := by simp [startsV, h]
def StartsPost (s : ByteArray) (w : World) (e : Ending) (w' : World) : Prop :=
  ∃ A c, e = .returned (.slice A ((runes (bl s)).length + 1) c) ∧ Reads w' w'.heap.size 1 A ((runes (bl s)).length + 1) (ints (startsV (bl s) ((runes (bl s)).length + 1))) ∧ Below w.heap.size w w'

end Go.Proofs.YtenonfoocjcdmaaDoor
