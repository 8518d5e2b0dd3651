/- Contracts of the reference of layer 4 (runes). -/
import Derived.Test.YtkljbfijhmoelaaRuW4
namespace Go.Proofs.Ytkljbfijhmoelaa
set_option linter.unusedVariables false
open Go.RowKit

set_option maxHeartbeats 1000000 in
theorem rclass_any (r : Int) (w : World) :
    Calls Try.prog 9 #[.int .i32 r] w fun e w' => e = .returned (.int .i64 (classV r)) ∧ w = w' := by
  go_enter Try.func9, Try.ntmps9
  go_wp2
  all_goals
    go_ret
    refine ⟨ret_int ?_, rfl⟩
    try simp only [beq_iff_eq, beq_eq_false_iff_ne] at *
    unfold classV
    repeat' split
    all_goals first | rfl | (exfalso; omega)

set_option maxHeartbeats 1000000 in
theorem rcheck_any (s : ByteArray) (w : World) (hs : s.size ≤ maxLen) :
    Calls Try.prog 12 #[.string s] w fun e w' => e = .returned (.tuple #[.int .i64 (checkN (bl s)), .int .i64 (checkE (bl s))]) ∧ Below w.heap.size w w' := by
  unfold maxLen at hs
  have hrl := runes_size s
  go_enter Try.func12, Try.ntmps12
  go_wp2
  go_loopw [4] (fun n wr => ∃ k : Nat, k ≤ (runes (bl s)).length ∧ n = .int .i64 k ∧ Hid (((runes (bl s)).take k).all (fun r => !badR r) = true) ∧ wr.heap[w.heap.size]? = some (.stringIter s (posN k (bl s))) ∧ Below w.heap.size w wr) (fun n _ => (runes (bl s)).length - (intOf n).toNat)
  case atStart => exact ⟨0, Nat.zero_le _, rfl, rfl, iter_start w s, (Below.refl _ w).alloc (Nat.le_refl _) _⟩
  case round =>
    obtain ⟨k, hk, rfl, ha, hit, hb⟩ := hrel
    have hsz : w.heap.size < wr.heap.size := (Array.getElem?_eq_some_iff.1 hit).1
    by_cases hlt : k < (runes (bl s)).length
    · obtain ⟨r, hr, hrm, hnx⟩ := next_rune wr _ s k hlt hit
      have hit2 := Lib.hid (Lib.iterAt_heap wr _ s _ (posN (k + 1) (bl s)) hit)
      have hb2 := Lib.below_iterAt hb (Nat.le_refl _) s (posN (k + 1) (bl s))
      by_cases hbad : badR r = true
      · have hc : (classV (r : Int) == 0) = true := hbad
        have hfin := Lib.hid (check_split (split_at hr.out) ha.out hbad)
        clear hbad hit
        go_wp2_with (go_at_call 9; refine (rclass_any _ _).mono ?_; rintro e w' ⟨rfl, rfl⟩)
        go_ret2
        exact ⟨ret_v (by rw [hfin.out.2, checkE_bad hfin.out.1]; simp; omega), hb2⟩
      · have hc : (classV (r : Int) == 0) = false := by simpa [badR] using hbad
        have ha2 := Lib.hid (take_good hr.out ha.out (by simpa using hbad))
        clear hbad hit ha
        go_wp2_with (go_at_call 9; refine (rclass_any _ _).mono ?_; rintro e w' ⟨rfl, rfl⟩)
        go_roundw
        case rel => exact ⟨k + 1, by omega, by go_num, ha2, hit2.out, hb2⟩
        case measure => simp [intOf]; omega
    · have hk2 : Hid (k = (runes (bl s)).length) := by show _ = _; omega
      have hnx := next_end wr _ s k hk2.out hit
      have hok : Hid (okL (bl s) = true) := by
        show _ = _
        have h := ha.out
        rw [hk2.out, List.take_length] at h
        exact h
      clear hit
      go_wp2
      go_ret2
      exact ⟨ret_v (by rw [checkN_ok hok.out, checkE_ok hok.out, ← hk2.out]; rfl), hb⟩

/-- where the runes of a text begin -/
def startsV (l : List UInt8) (k : Nat) : List Int := (List.range k).map (fun j => (posN j l : Int))
theorem startsV_succ (l : List UInt8) (k : Nat) : startsV l (k + 1) = startsV l k ++ [(posN k l : Int)] := by simp [startsV, List.range_succ]
theorem startsV_at {l : List UInt8} {k n : Nat} (h : k < n) : (startsV l n)[k]? = some (posN k l : Int) := by simp [startsV, h]
def StartsPost (s : ByteArray) (w : World) (e : Ending) (w' : World) : Prop :=
  ∃ A c, e = .returned (.slice A ((runes (bl s)).length + 1) c) ∧ Reads w' w'.heap.size 1 A ((runes (bl s)).length + 1) (ints (startsV (bl s) ((runes (bl s)).length + 1))) ∧ Below w.heap.size w w'

set_option maxHeartbeats 1000000 in
theorem rstarts_any (s : ByteArray) (w : World) (hs : s.size ≤ 8796093022208) :
    Calls Try.prog 23 #[.string s] w (StartsPost s w) := by
  have hrl := runes_size s
  go_enter Try.func23, Try.ntmps23
  go_wp2
  go_loopw [3] (fun v wr => ∃ k : Nat, k ≤ (runes (bl s)).length ∧ wr.ownsRow (w.heap.size + 1) 3 1 v k (ints (startsV (bl s) k)) ∧ wr.heap[w.heap.size]? = some (.stringIter s (posN k (bl s))) ∧ Below w.heap.size w wr) (fun _ wr => (bl s).length - wr.iterPos w.heap.size)
  case atStart => exact ⟨0, Nat.zero_le _, own_nil, iter_start w s, (Below.refl _ w).alloc (Nat.le_refl _) _⟩
  case round =>
    obtain ⟨k, hk, hown, hit, hb⟩ := hrel
    have hsz : w.heap.size < wr.heap.size := (Array.getElem?_eq_some_iff.1 hit).1
    by_cases hlt : k < (runes (bl s)).length
    · obtain ⟨r, hr, hrm, hnx⟩ := next_rune wr _ s k hlt hit
      have hit2 := Lib.hid (Lib.iterAt_heap wr _ s _ (posN (k + 1) (bl s)) hit)
      have hb2 := Lib.below_iterAt hb (Nat.le_refl _) s (posN (k + 1) (bl s))
      have hown2 := own_iterAt hown hit (posN (k + 1) (bl s))
      have hpm := pos_mono k hlt
      have hpl := pos_le (k + 1) (l := bl s) (by omega)
      have hsz2 : w.heap.size < (wr.iterAt w.heap.size s (posN (k + 1) (bl s))).heap.size := by rw [Lib.iterAt_size]; omega
      have hitp := Lib.hid hit
      clear hit hown hb
      go_wp2_with (at_builtin; refine wp_app_ints (.tmp 10) (.tmp 12) rfl rfl (w.heap.size + 1) u3 k (startsV (bl s) k) rfl (hown2.alloc _) _ (some ⟨(wr.iterAt w.heap.size s (posN (k + 1) (bl s))).heap.size, 0, none⟩) 1 1 [(posN k (bl s) : Int)] rfl (Reads.made _ (ints [(posN k (bl s) : Int)]) 3) (by omega) (by simp; omega) ?_)
      intro v1 w1 hown1 hg1 hat1
      have hit3 : w1.heap[w.heap.size]? = some (.stringIter s (posN (k + 1) (bl s))) := by
        rw [hg1.block w.heap.size (by simp; omega) (fun e => by have := hown2.lt _ e.symm; omega)]
        rw [Lib.alloc_old _ _ _ hsz2]
        exact hit2.out
      have hb3 := below_app (hb2.alloc (by omega) _) (by omega) (by simp; omega) (hown2.alloc _) hg1
      rw [← startsV_succ] at hown1
      clear hg1 hat1
      go_wp2
      go_roundw
      case rel => exact ⟨k + 1, by omega, hown1, hit3, hb3⟩
      case measure => simp only [World.iterPos, hit3, hitp.out]; omega
    · have hk2 : k = (runes (bl s)).length := by omega
      have hnx := next_end wr _ s k hk2 hit
      have hpe := pos_end hk2
      have hend : Hid (startsV (bl s) k ++ [(s.size : Int)] = startsV (bl s) ((runes (bl s)).length + 1)) := by
        show _ = _
        rw [← hk2, startsV_succ, hpe, bl_len]
      clear hit
      have HK := Lib.hid hk2
      clear hk2 hpe
      go_wp2_with (at_builtin; refine wp_app_ints (.tmp 14) (.tmp 17) rfl rfl (w.heap.size + 1) u3 k (startsV (bl s) k) rfl (hown.alloc _) _ (some ⟨wr.heap.size, 0, none⟩) 1 1 [(s.size : Int)] rfl (Reads.made wr (ints [(s.size : Int)]) 3) (by omega) (by simp; omega) ?_)
      intro v1 w1 hown1 hg1 hat1
      have hb3 := below_app (hb.alloc (by omega) _) (by omega) (by simp; omega) (hown.alloc _) hg1
      obtain ⟨A1, c1, e1, _⟩ := own_slice hown1
      rw [e1] at hown1 ⊢
      have hr1 := Reads.of_own hown1
      rw [hend.out, HK.out] at hr1
      clear hown1 hg1 hat1 e1
      go_wp2
      go_ret
      exact ⟨A1, c1, ret_v (by rw [HK.out]; rfl), hr1, hb3⟩

theorem rcount_any (s : ByteArray) (w : World) (hs : s.size ≤ 8796093022208) :
    Calls Try.prog 16 #[.string s] w fun e w' => e = .returned (.int .i64 (runes (bl s)).length) ∧ Below w.heap.size w w' := by
  have hrl := runes_size s
  go_enter Try.func16, Try.ntmps16
  go_wp2_with (go_at_call 23; refine (rstarts_any s _ hs).mono ?_; rintro e w1 ⟨A, c, rfl, hr, hb⟩)
  go_ret
  exact ⟨ret_int (by omega), hb⟩

set_option maxHeartbeats 1000000 in
theorem rcut_yes (s : ByteArray) (m : Nat) (w : World) (hs : s.size ≤ 8796093022208) (hm : m ≤ (runes (bl s)).length) :
    Calls Try.prog 14 #[.string s, .int .i64 m] w fun e w' => e = .returned (.tuple #[.string (cutA s m), .string (cutB s m), .bool true]) ∧ Below w.heap.size w w' := by
  have hrl := runes_size s
  have hpl := pos_le m (l := bl s) hm
  rw [bl_len] at hpl
  go_enter Try.func14, Try.ntmps14
  go_wp2_with (go_at_call 23; refine (rstarts_any s _ hs).mono ?_; rintro e w1 ⟨A, c, rfl, hr, hb⟩)
  obtain ⟨ad, x, rfl, hbk, hx, hc⟩ := hr.int_at (k := m) (by omega)
  have hx2 : x = (posN m (bl s) : Int) := by
    have h := hx.out
    rw [startsV_at (by omega)] at h
    exact (Option.some.inj h).symm
  subst hx2
  have hp0 : (0 : Int) ≤ (posN m (bl s) : Int) := by omega
  have hp1 : (posN m (bl s) : Int) ≤ (s.size : Int) := by omega
  have hm0 : (0 : Int) ≤ (m : Int) := by omega
  have hm1 : (m : Int) < ((runes (bl s)).length : Int) + 1 := by omega
  go_quiet (fail)
  go_wp2
  go_ret3
  exact ⟨rfl, below_drewN hb _⟩
theorem rcut_no (s : ByteArray) (m : Int) (w : World) (hs : s.size ≤ 8796093022208) (hm : m < 0 ∨ ((runes (bl s)).length : Int) < m) :
    Calls Try.prog 14 #[.string s, .int .i64 m] w fun e w' => e = .returned (.tuple #[.string ⟨#[]⟩, .string ⟨#[]⟩, .bool false]) ∧ Below w.heap.size w w' := by
  have hrl := runes_size s
  by_cases h0 : m < 0
  · go_enter Try.func14, Try.ntmps14
    go_wp2_with (go_at_call 23; refine (rstarts_any s _ hs).mono ?_; rintro e w1 ⟨A, c, rfl, hr, hb⟩)
    go_ret3
    exact ⟨rfl, hb⟩
  · have hm3 : ((runes (bl s)).length : Int) + 1 ≤ m := by omega
    go_enter Try.func14, Try.ntmps14
    go_wp2_with (go_at_call 23; refine (rstarts_any s _ hs).mono ?_; rintro e w1 ⟨A, c, rfl, hr, hb⟩)
    go_ret3
    exact ⟨rfl, hb⟩
end Go.Proofs.Ytkljbfijhmoelaa
