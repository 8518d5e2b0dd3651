/- Layer 9: words: counting bits, the least bit, one, All, Has, Of, List walked. -/
import Derived.Test.YtplneobjdpdlhaaDoorNsC
import Derived.Laws.Bits64b
import Derived.Laws.BitsAllLaws
import Derived.Laws.ShiftsVarLaws
import Derived.Lib.TrailingZeros
namespace Go.Proofs.YtplneobjdpdlhaaDoor
set_option linter.unusedVariables false
open Go.RowKit
theorem and64 {a b : Nat} (ha : a < M64) (hb : b < M64) : bits .and .u64 (a : Int) (b : Int) = ((a &&& b : Nat) : Int) := u64_and_nat a b (by rw [M64_is] at ha; exact ha) (by rw [M64_is] at hb; exact hb)
theorem or64 {a b : Nat} (ha : a < M64) (hb : b < M64) : bits .or .u64 (a : Int) (b : Int) = ((a ||| b : Nat) : Int) := u64_or_nat a b (by rw [M64_is] at ha; exact ha) (by rw [M64_is] at hb; exact hb)
theorem andNot64 {a b : Nat} (ha : a < M64) (hb : b < M64) : bits .andNot .u64 (a : Int) (b : Int) = ((diff a b : Nat) : Int) := by
  rw [u64_andNot_nat a b (by rw [M64_is] at ha; exact ha) (by rw [M64_is] at hb; exact hb)]
  unfold diff
  rw [M64_is]
theorem wrap64_lt {a : Nat} (ha : a < M64) : IntKind.u64.wrap (a : Int) = (a : Int) := by rw [M64_is] at ha; rw [IntKind.wrap_u64]; omega
theorem i64_and127 {a : Nat} (ha : a < 9223372036854775808) : bits .and .i64 (a : Int) 127 = ((a % 128 : Nat) : Int) := by
  have h1 : (BitVec.ofInt 64 (a : Int)).toNat = a := by rw [BitVec.ofInt_natCast, BitVec.toNat_ofNat]; exact Nat.mod_eq_of_lt (by omega)
  have h2 : (BitVec.ofInt 64 (127 : Int)).toNat = 127 := by decide
  have h3 : a &&& 127 = a % 128 := Nat.and_two_pow_sub_one_eq_mod a 7
  show IntKind.i64.wrap ((BitVec.ofInt 64 (a : Int) &&& BitVec.ofInt 64 (127 : Int)).toNat : Int) = _
  rw [BitVec.toNat_and, h1, h2, IntKind.wrap_i64, h3]
  omega
theorem o1 {x : Nat} (hx : x < M64) : IntKind.u64.wrap (bits .and .u64 ((x : Int) / 2) 6148914691236517205 + bits .and .u64 (x : Int) 6148914691236517205) = ((x1 x : Nat) : Int) := by
  have hc : (6148914691236517205 : Nat) < M64 := by rw [M64_is]; omega
  have e1 := and64 (a := x / 2) (b := 6148914691236517205) (by omega) hc
  have e2 := and64 (a := x) (b := 6148914691236517205) hx hc
  have e3 : ((x : Int) / 2) = ((x / 2 : Nat) : Int) := by omega
  have e4 : (6148914691236517205 : Int) = ((6148914691236517205 : Nat) : Int) := rfl
  rw [e3, e4, e1, e2]
  have := wrap64_lt (x_bounds hx).1
  unfold x1 at this ⊢
  rw [← this]; congr 1
theorem o2 {x : Nat} (hx : x < M64) : IntKind.u64.wrap (bits .and .u64 (((x1 x : Nat) : Int) / 4) 3689348814741910323 + bits .and .u64 ((x1 x : Nat) : Int) 3689348814741910323) = ((x2 x : Nat) : Int) := by
  have hc : (3689348814741910323 : Nat) < M64 := by rw [M64_is]; omega
  have h1 := (x_bounds hx).1
  have e1 := and64 (a := x1 x / 4) (b := 3689348814741910323) (by omega) hc
  have e2 := and64 (a := x1 x) (b := 3689348814741910323) h1 hc
  have e3 : (((x1 x : Nat) : Int) / 4) = ((x1 x / 4 : Nat) : Int) := by omega
  have e4 : (3689348814741910323 : Int) = ((3689348814741910323 : Nat) : Int) := rfl
  rw [e3, e4, e1, e2]
  have := wrap64_lt (x_bounds hx).2.1
  unfold x2 at this ⊢
  rw [← this]; congr 1
theorem o3 {x : Nat} (hx : x < M64) : bits .and .u64 (IntKind.u64.wrap (((x2 x : Nat) : Int) / 16 + ((x2 x : Nat) : Int))) 1085102592571150095 = ((x3 x : Nat) : Int) := by
  have hc : (1085102592571150095 : Nat) < M64 := by rw [M64_is]; omega
  have h1 := (x_bounds hx).2.2.1
  have e3 : (((x2 x : Nat) : Int) / 16 + ((x2 x : Nat) : Int)) = ((x2 x / 16 + x2 x : Nat) : Int) := by omega
  have e4 : (1085102592571150095 : Int) = ((1085102592571150095 : Nat) : Int) := rfl
  rw [e3, wrap64_lt h1, e4, and64 h1 hc]
  rfl
theorem o4 {x : Nat} (hx : x < M64) : IntKind.u64.wrap (((x3 x : Nat) : Int) + ((x3 x : Nat) : Int) / 256) = ((x4 x : Nat) : Int) := by
  have e3 : (((x3 x : Nat) : Int) + ((x3 x : Nat) : Int) / 256) = ((x4 x : Nat) : Int) := by unfold x4; omega
  rw [e3, wrap64_lt (x_bounds hx).2.2.2.1]
theorem o5 {x : Nat} (hx : x < M64) : IntKind.u64.wrap (((x4 x : Nat) : Int) + ((x4 x : Nat) : Int) / 65536) = ((x5 x : Nat) : Int) := by
  have e3 : (((x4 x : Nat) : Int) + ((x4 x : Nat) : Int) / 65536) = ((x5 x : Nat) : Int) := by unfold x5; omega
  rw [e3, wrap64_lt (x_bounds hx).2.2.2.2.1]
theorem o6 {x : Nat} (hx : x < M64) : IntKind.u64.wrap (((x5 x : Nat) : Int) + ((x5 x : Nat) : Int) / 4294967296) = ((x6 x : Nat) : Int) := by
  have e3 : (((x5 x : Nat) : Int) + ((x5 x : Nat) : Int) / 4294967296) = ((x6 x : Nat) : Int) := by unfold x6; omega
  have h := (x_bounds hx).2.2.2.2.2.1
  rw [e3, wrap64_lt (by rw [M64_is]; omega)]
theorem ones_any (x : Nat) (w : World) (hx : x < M64) : Calls Tryd.prog 29 #[.int .u64 x] w fun e w' => e = .returned (.int .i64 (memL x).length) ∧ w = w' := by
  have f1 := o1 hx
  have f2 := o2 hx
  have f3 := o3 hx
  have f4 := o4 hx
  have f5 := o5 hx
  have f6 := o6 hx
  have h6 := (x_bounds hx).2.2.2.2.2.1
  have f7 : IntKind.i64.wrap ((x6 x : Nat) : Int) = ((x6 x : Nat) : Int) := IntWalk.i64_in _ (by omega)
  have f8 := i64_and127 h6
  have H := Lib.hid (ones_len hx)
  generalize x1 x = X1 at f1 f2
  generalize x2 x = X2 at f2 f3
  generalize x3 x = X3 at f3 f4
  generalize x4 x = X4 at f4 f5
  generalize x5 x = X5 at f5 f6
  generalize x6 x = X6 at f6 f7 f8 h6 H
  clear hx h6
  go_enter Tryd.func29, Tryd.ntmps29
  go_wp2
  go_ret
  exact ⟨ret_int (by rw [← H.out]; omega), rfl⟩
theorem pow_lt {n : Nat} (h : n < 64) : 2 ^ n < M64 := by unfold M64; exact Nat.pow_lt_pow_right (by omega) h
theorem one_any (n : Nat) (w : World) (hn : n < 64) : Calls Tryd.prog 27 #[.int .i64 n] w fun e w' => e = .returned (.int .u64 ((2 ^ n : Nat) : Int)) ∧ w = w' := by
  have k : IntKind.u64.wrap (n : Int) = (n : Int) := by rw [IntKind.wrap_u64]; omega
  have k2 : IntKind.u64.wrap ((2 : Int) ^ n) = ((2 ^ n : Nat) : Int) := by
    have := wrap64_lt (pow_lt hn)
    rw [← this]; congr 1
  obtain ⟨p, hp⟩ : ∃ p, 2 ^ n = p := ⟨_, rfl⟩
  rw [hp] at k2
  have H := Lib.hid hp
  clear hp
  rw [H.out]
  go_enter Tryd.func27, Tryd.ntmps27
  go_wp2
  go_ret
  exact ⟨rfl, rfl⟩
theorem all_any (n : Int) (w : World) (h1 : n ≤ 9223372036854775807) : Calls Tryd.prog 17 #[.int .i64 n] w fun e w' => e = .returned (.int .u64 (allS n)) ∧ w = w' := by
  by_cases h0 : n ≤ 0
  · have H : Hid (allS n = 0) := by show _ = _; unfold allS; rw [show n.toNat = 0 by omega]; rfl
    have t1 : decide (n ≤ 0) = true := by simpa using h0
    rw [H.out]
    clear h0
    go_enter Tryd.func17, Tryd.ntmps17
    go_wp2
    go_ret
    exact ⟨rfl, rfl⟩
  obtain ⟨m, rfl⟩ := Int.eq_ofNat_of_zero_le (show 0 ≤ n by omega)
  have hm0 : 0 < m := by omega
  by_cases h2 : 64 ≤ m
  · have H : Hid (allS m = 18446744073709551615) := by show _ = _; unfold allS; rw [show min (m : Int).toNat 64 = 64 by omega]
    rw [H.out]
    clear h0
    go_enter Tryd.func17, Tryd.ntmps17
    go_wp2
    go_ret
    exact ⟨rfl, rfl⟩
  have H : Hid (allS m = 2 ^ m - 1) := by show _ = _; unfold allS; rw [show min (m : Int).toNat 64 = m by omega]
  have hc := Lib.hid (fun v => one_any m v (by omega))
  obtain ⟨p, hp⟩ : ∃ p : Nat, Hid (2 ^ m = p) := ⟨2 ^ m, rfl⟩
  have hp0 : 0 < p := by rw [← hp.out]; exact Nat.pow_pos (by omega)
  have hpl : p < M64 := by rw [← hp.out]; exact pow_lt (by omega)
  rw [hp.out] at hc
  have k : IntKind.u64.wrap ((p : Int) - 1) = ((p - 1 : Nat) : Int) := by
    rw [← wrap64_lt (show p - 1 < M64 by omega)]; congr 1; omega
  rw [H.out, hp.out]
  generalize p - 1 = q at k
  have hm64 : m < 64 := by omega
  clear h0 h2 hp0 hpl
  go_enter Tryd.func17, Tryd.ntmps17
  go_wp2_with (go_at_call 27; refine (hc.out _).mono ?_; rintro e w' ⟨rfl, rfl⟩)
  go_ret
  exact ⟨rfl, rfl⟩
theorem and_pow {s n : Nat} : (s &&& 2 ^ n = 0) ↔ s.testBit n = false := by
  constructor
  · intro h
    have := congrArg (fun x => x.testBit n) h
    simpa [Nat.testBit_and, Nat.testBit_two_pow] using this
  · intro h
    apply Nat.eq_of_testBit_eq
    intro i
    rw [Nat.testBit_and, Nat.testBit_two_pow, Nat.zero_testBit]
    by_cases e : n = i
    · subst e; rw [h]; rfl
    · simp [e]
theorem has_any (s : Nat) (n : Int) (w : World) (hs : s < M64) : Calls Tryd.prog 15 #[.int .u64 s, .int .i64 n] w fun e w' => e = .returned (.bool (hasP s n)) ∧ w = w' := by
  by_cases h0 : 0 ≤ n
  case neg =>
    have H : Hid (hasP s n = false) := by show _ = _; unfold hasP; simp [h0]
    rw [H.out]
    have t1 : decide (0 ≤ n) = false := by simpa using h0
    go_enter Tryd.func15, Tryd.ntmps15
    go_wp2
    go_ret
    exact ⟨rfl, rfl⟩
  obtain ⟨m, rfl⟩ := Int.eq_ofNat_of_zero_le h0
  have t1 : decide ((0 : Int) ≤ (m : Int)) = true := by simp
  by_cases h1 : m < 64
  case neg =>
    have H : Hid (hasP s m = false) := by show _ = _; unfold hasP; simp; omega
    rw [H.out]
    go_enter Tryd.func15, Tryd.ntmps15
    go_wp2
    go_ret
    exact ⟨rfl, rfl⟩
  have hc := Lib.hid (fun v => one_any m v h1)
  have hand := and64 hs (pow_lt h1)
  have hz := and_pow (s := s) (n := m)
  obtain ⟨p, hp⟩ : ∃ p : Nat, Hid (2 ^ m = p) := ⟨2 ^ m, rfl⟩
  rw [hp.out] at hc hand hz
  obtain ⟨q, hq⟩ : ∃ q, Hid (s &&& p = q) := ⟨_, rfl⟩
  rw [hq.out] at hand hz
  have H : Hid (hasP s m = s.testBit m) := by show _ = _; unfold hasP; simp; omega
  rw [H.out]
  cases hb : s.testBit m with
  | true =>
    have t2 : ((q : Int) != 0) = true := by
      have : q ≠ 0 := fun e => by have := hz.1 e; rw [hb] at this; cases this
      simp; omega
    clear hz hb
    go_enter Tryd.func15, Tryd.ntmps15
    go_wp2_with (go_at_call 27; refine (hc.out _).mono ?_; rintro e w' ⟨rfl, rfl⟩)
    go_ret
    exact ⟨rfl, rfl⟩
  | false =>
    have t2 : ((q : Int) != 0) = false := by
      have := hz.2 hb
      simp; omega
    clear hz hb
    go_enter Tryd.func15, Tryd.ntmps15
    go_wp2_with (go_at_call 27; refine (hc.out _).mono ?_; rintro e w' ⟨rfl, rfl⟩)
    go_ret
    exact ⟨rfl, rfl⟩
theorem cnt09_any (s : Nat) (w : World) (hs : s < M64) : Calls Tryd.prog 14 #[.int .u64 s] w fun e w' => e = .returned (.int .i64 (memL s).length) ∧ w = w' := by
  have hc := Lib.hid (fun v => ones_any s v hs)
  go_enter Tryd.func14, Tryd.ntmps14
  go_wp2_with (go_at_call 29; refine (hc.out _).mono ?_; rintro e w' ⟨rfl, rfl⟩)
  go_ret
  exact ⟨rfl, rfl⟩
end Go.Proofs.YtplneobjdpdlhaaDoor
