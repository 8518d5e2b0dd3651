/- The document's Show of layer 6, walked. -/
import Derived.Test.YtenonfoocjcdmaaDoorHrW3
import Derived.Test.YtenonfoocjcdmaaDoorLat
import Derived.LoopTactic
namespace Go.Proofs.YtenonfoocjcdmaaDoor
set_option linter.unusedVariables false
open Go.RowKit
theorem ba_of (l : List UInt8) : ∃ b : ByteArray, Hid (b.data.toList = l) ∧ Hid (⟨l.toArray⟩ = b) ∧ b.size = l.length := ⟨⟨l.toArray⟩, (by show _ = _; simp), rfl, by simp [ByteArray.size]⟩
theorem ba_ext6 {a b : ByteArray} (h : a.data.toList = b.data.toList) : a = b := by
  cases a; cases b; simp only [ByteArray.mk.injEq]; exact Array.toList_inj.1 h
theorem out_step {O D T : ByteArray} {k N c : Nat} (h1 : O.data.toList = pts k N) (h2 : D.data.toList = Lib.decDigits c) (h3 : T.data.toList = [sg k]) (hc : ct k N = c) (hp : 0 < c) : (O ++ D ++ T).data.toList = pts (k + 1) N := by
  have e : (O ++ D ++ T).data.toList = O.data.toList ++ D.data.toList ++ T.data.toList := by simp
  rw [e, h1, h2, h3]
  simp only [pts, pt]
  rw [hc, if_pos hp]; simp
theorem div_of {R t c r : Nat} (ht : 0 < t) (h : c * t + r = R) (hr : r < t) : R / t = c ∧ R % t = r := by
  refine (Nat.div_mod_unique ht).2 ⟨?_, hr⟩
  rw [← h, Nat.mul_comm]; omega
theorem step_of {R t c r : Nat} (h : c * t + r = R) (hr : t ≤ r) : (c + 1) * t + (r - t) = R := by
  rw [Nat.succ_mul]; omega
theorem cnt_le {R t c r : Nat} (ht : 0 < t) (h : c * t + r = R) : c ≤ R := by
  have := Nat.le_mul_of_pos_right c ht; omega
theorem out_same {k N : Nat} (hc : ct k N = 0) : pts (k + 1) N = pts k N := by
  simp only [pts, pt]; rw [hc]; simp
theorem digits06_at (c : Nat) (D : ByteArray) (w : World) (hc : c < 100) (hD : ⟨(Lib.decDigits c).toArray⟩ = D) : Calls Tryd.prog 45 #[.int .i64 c] w fun e w' => e = .returned (.string D) ∧ Below w.heap.size w w' := by
  subst hD; exact digits06_any c w hc
def Sh06 (w : World) (N : Nat) (a b c : Value) (wr : World) : Prop := ∃ (k R : Nat) (O : ByteArray), k ≤ 4 ∧ a = .int .i64 R ∧ R ≤ 1000000 ∧ b = .string O ∧ c = .int .i64 k ∧ Hid (rm k N = R) ∧ Hid (O.data.toList = pts k N) ∧ O.size ≤ 3 * k ∧ Below w.heap.size w wr
set_option maxRecDepth 10000 in
set_option maxHeartbeats 2000000 in
theorem show06_ok (N : Nat) (w : World) (h : N ≤ 1000000) (h0 : 0 < N) :
    Calls Tryd.prog 13 #[.int .i64 N] w fun e w' => e = .returned (.tuple #[.string ⟨(pts 4 N).toArray⟩, .int .i64 0]) ∧ Below w.heap.size w w' := by
  have z1 : ((N : Int) == 0) = false := by simp; omega
  have z2 : decide ((N : Int) < 0) = false := by simp
  have z3 : decide (1000000 < (N : Int)) = false := by simp; omega
  go_enter Tryd.func13, Tryd.ntmps13
  go_wp2_with fail
  go_loopw [0, 4, 6] (Sh06 w N) (fun _ _ c _ => 4 - (intOf c).toNat)
  case atStart => exact ⟨0, N, ⟨#[]⟩, by omega, rfl, h, rfl, rfl, rfl, rfl, by simp [ByteArray.size], Below.refl _ _⟩
  case round =>
    obtain ⟨k, R, O, hk, rfl, hR, rfl, rfl, hrm, hO, hOs, hb⟩ := hrel
    by_cases hlt : k < 4
    · rcases (show k = 0 ∨ k = 1 ∨ k = 2 ∨ k = 3 by omega) with rfl | rfl | rfl | rfl
      · simp only [Int.natCast_zero]
        obtain ⟨t, ht⟩ : ∃ t, Hid (tk 0 = t) := ⟨_, rfl⟩
        have ht1 : 0 < t := by rw [← ht.out]; decide
        have ht2 : t ≤ 100000 := by rw [← ht.out]; decide
        go_wp2_with (go_at_call 44; refine (ticks_any 0 _ (by omega)).mono ?_; rintro e w' ⟨rfl, rfl⟩; rw [ht.out])
        go_loop [0, 9] (fun a b => ∃ c r : Nat, b = .int .i64 c ∧ a = .int .i64 r ∧ r ≤ R ∧ c ≤ R ∧ Hid (c * t + r = R)) (fun a _ => (intOf a).toNat)
        case atStart => exact ⟨0, R, rfl, rfl, Nat.le_refl _, Nat.zero_le _, (by show _ = _; omega)⟩
        case round =>
          obtain ⟨c, r, rfl, rfl, hr1, hc1, HC⟩ := hrel
          by_cases hge : t ≤ r
          · have HC2 := Lib.hid (step_of HC.out hge)
            have hc3 := cnt_le ht1 HC2.out
            go_wp2_with fail
            go_round
            case rel => exact ⟨c + 1, r - t, by go_num, by go_num, by omega, hc3, HC2⟩
            case measure => simp [intOf]; omega
          · obtain ⟨hd1, hd2⟩ := div_of ht1 HC.out (by omega)
            have hct : Hid (ct 0 N = c) := by show rm 0 N / tk 0 = c; rw [hrm.out, ht.out]; exact hd1
            have hrm2 : Hid (rm 1 N = r) := by show rm 0 N % tk 0 = r; rw [hrm.out, ht.out]; exact hd2
            have hr2 : r ≤ 1000000 := by omega
            have hc2 : c < 100 := by rw [← hct.out]; exact ct_lt h 0 (by omega)
            have hOs2 : O.size ≤ 3 * 1 := by omega
            have h4 : 1 ≤ 4 := by omega
            clear hd1 hd2
            by_cases hc0 : c = 0
            · subst hc0
              have hO2 : Hid (O.data.toList = pts 1 N) := by show _ = _; rw [hO.out]; exact (out_same hct.out).symm
              simp only [Int.natCast_zero]
              go_wp2_with fail
              go_roundw
              case rel => exact ⟨1, r, O, h4, rfl, hr2, rfl, rfl, hrm2, hO2, hOs2, hb⟩
              case measure => simp [intOf]
            · have hc3 : 0 < c := by omega
              obtain ⟨D, hD1, hD2, hD3⟩ := ba_of (Lib.decDigits c)
              have hD4 : D.size ≤ 2 := by rw [hD3]; exact decDigits_len hc2
              have HO := fun T h3 => out_step hO.out hD1.out (T := T) h3 hct.out hc3
              have HO2 := Lib.hid HO
              have k1 : IntKind.i64.wrap 1 = 1 := by decide
              clear HO hD3 hc0
              go_wp2_with fail
              refine wp_region_later (by kernel_rfl) (by kernel_rfl) ?_
              have hl_ := later_cell (wr)
              repeat (first | go_big_quiet_step (((go_at_call 45; exact later_of (digits06_at c D _ hc2 hD2.out)))) | quiet_step (((go_at_call 45; exact later_of (digits06_at c D _ hc2 hD2.out)))))
              refine wpQuiet_nil ?_
              intro w9 hx_
              obtain ⟨⟨w_, hb9⟩, e_⟩ := hx_
              have e2_ : w9 = w_ := e_
              clear e_
              subst e2_
              clear hl_
              go_wp2_with fail
              go_roundw
              case rel =>
                have hO3 := HO2.out ((⟨#[100, 104, 109, 115]⟩ : ByteArray).extract 0 1) (by decide)
                have hs3 : (O ++ D ++ (⟨#[100, 104, 109, 115]⟩ : ByteArray).extract 0 1).size ≤ 3 * 1 := by
                  have e : ((⟨#[100, 104, 109, 115]⟩ : ByteArray).extract 0 1).size = 1 := by decide
                  rw [ByteArray.size_append, ByteArray.size_append, e]; omega
                exact ⟨1, r, _, h4, rfl, hr2, rfl, rfl, hrm2, Lib.hid hO3, hs3, bt hb hb9⟩
              case measure => simp [intOf]
      · rw [show ((1 : Nat) : Int) = 1 from rfl]
        obtain ⟨t, ht⟩ : ∃ t, Hid (tk 1 = t) := ⟨_, rfl⟩
        have ht1 : 0 < t := by rw [← ht.out]; decide
        have ht2 : t ≤ 100000 := by rw [← ht.out]; decide
        go_wp2_with (go_at_call 44; refine (ticks_any 1 _ (by omega)).mono ?_; rintro e w' ⟨rfl, rfl⟩; rw [ht.out])
        go_loop [0, 9] (fun a b => ∃ c r : Nat, b = .int .i64 c ∧ a = .int .i64 r ∧ r ≤ R ∧ c ≤ R ∧ Hid (c * t + r = R)) (fun a _ => (intOf a).toNat)
        case atStart => exact ⟨0, R, rfl, rfl, Nat.le_refl _, Nat.zero_le _, (by show _ = _; omega)⟩
        case round =>
          obtain ⟨c, r, rfl, rfl, hr1, hc1, HC⟩ := hrel
          by_cases hge : t ≤ r
          · have HC2 := Lib.hid (step_of HC.out hge)
            have hc3 := cnt_le ht1 HC2.out
            go_wp2_with fail
            go_round
            case rel => exact ⟨c + 1, r - t, by go_num, by go_num, by omega, hc3, HC2⟩
            case measure => simp [intOf]; omega
          · obtain ⟨hd1, hd2⟩ := div_of ht1 HC.out (by omega)
            have hct : Hid (ct 1 N = c) := by show rm 1 N / tk 1 = c; rw [hrm.out, ht.out]; exact hd1
            have hrm2 : Hid (rm 2 N = r) := by show rm 1 N % tk 1 = r; rw [hrm.out, ht.out]; exact hd2
            have hr2 : r ≤ 1000000 := by omega
            have hc2 : c < 100 := by rw [← hct.out]; exact ct_lt h 1 (by omega)
            have hOs2 : O.size ≤ 3 * 2 := by omega
            have h4 : 2 ≤ 4 := by omega
            clear hd1 hd2
            by_cases hc0 : c = 0
            · subst hc0
              have hO2 : Hid (O.data.toList = pts 2 N) := by show _ = _; rw [hO.out]; exact (out_same hct.out).symm
              simp only [Int.natCast_zero]
              go_wp2_with fail
              go_roundw
              case rel => exact ⟨2, r, O, h4, rfl, hr2, rfl, rfl, hrm2, hO2, hOs2, hb⟩
              case measure => simp [intOf]
            · have hc3 : 0 < c := by omega
              obtain ⟨D, hD1, hD2, hD3⟩ := ba_of (Lib.decDigits c)
              have hD4 : D.size ≤ 2 := by rw [hD3]; exact decDigits_len hc2
              have HO := fun T h3 => out_step hO.out hD1.out (T := T) h3 hct.out hc3
              have HO2 := Lib.hid HO
              have k1 : IntKind.i64.wrap 2 = 2 := by decide
              clear HO hD3 hc0
              go_wp2_with fail
              refine wp_region_later (by kernel_rfl) (by kernel_rfl) ?_
              have hl_ := later_cell (wr)
              repeat (first | go_big_quiet_step (((go_at_call 45; exact later_of (digits06_at c D _ hc2 hD2.out)))) | quiet_step (((go_at_call 45; exact later_of (digits06_at c D _ hc2 hD2.out)))))
              refine wpQuiet_nil ?_
              intro w9 hx_
              obtain ⟨⟨w_, hb9⟩, e_⟩ := hx_
              have e2_ : w9 = w_ := e_
              clear e_
              subst e2_
              clear hl_
              go_wp2_with fail
              go_roundw
              case rel =>
                have hO3 := HO2.out ((⟨#[100, 104, 109, 115]⟩ : ByteArray).extract 1 2) (by decide)
                have hs3 : (O ++ D ++ (⟨#[100, 104, 109, 115]⟩ : ByteArray).extract 1 2).size ≤ 3 * 2 := by
                  have e : ((⟨#[100, 104, 109, 115]⟩ : ByteArray).extract 1 2).size = 1 := by decide
                  rw [ByteArray.size_append, ByteArray.size_append, e]; omega
                exact ⟨2, r, _, h4, rfl, hr2, rfl, rfl, hrm2, Lib.hid hO3, hs3, bt hb hb9⟩
              case measure => simp [intOf]
      · rw [show ((2 : Nat) : Int) = 2 from rfl]
        obtain ⟨t, ht⟩ : ∃ t, Hid (tk 2 = t) := ⟨_, rfl⟩
        have ht1 : 0 < t := by rw [← ht.out]; decide
        have ht2 : t ≤ 100000 := by rw [← ht.out]; decide
        go_wp2_with (go_at_call 44; refine (ticks_any 2 _ (by omega)).mono ?_; rintro e w' ⟨rfl, rfl⟩; rw [ht.out])
        go_loop [0, 9] (fun a b => ∃ c r : Nat, b = .int .i64 c ∧ a = .int .i64 r ∧ r ≤ R ∧ c ≤ R ∧ Hid (c * t + r = R)) (fun a _ => (intOf a).toNat)
        case atStart => exact ⟨0, R, rfl, rfl, Nat.le_refl _, Nat.zero_le _, (by show _ = _; omega)⟩
        case round =>
          obtain ⟨c, r, rfl, rfl, hr1, hc1, HC⟩ := hrel
          by_cases hge : t ≤ r
          · have HC2 := Lib.hid (step_of HC.out hge)
            have hc3 := cnt_le ht1 HC2.out
            go_wp2_with fail
            go_round
            case rel => exact ⟨c + 1, r - t, by go_num, by go_num, by omega, hc3, HC2⟩
            case measure => simp [intOf]; omega
          · obtain ⟨hd1, hd2⟩ := div_of ht1 HC.out (by omega)
            have hct : Hid (ct 2 N = c) := by show rm 2 N / tk 2 = c; rw [hrm.out, ht.out]; exact hd1
            have hrm2 : Hid (rm 3 N = r) := by show rm 2 N % tk 2 = r; rw [hrm.out, ht.out]; exact hd2
            have hr2 : r ≤ 1000000 := by omega
            have hc2 : c < 100 := by rw [← hct.out]; exact ct_lt h 2 (by omega)
            have hOs2 : O.size ≤ 3 * 3 := by omega
            have h4 : 3 ≤ 4 := by omega
            clear hd1 hd2
            by_cases hc0 : c = 0
            · subst hc0
              have hO2 : Hid (O.data.toList = pts 3 N) := by show _ = _; rw [hO.out]; exact (out_same hct.out).symm
              simp only [Int.natCast_zero]
              go_wp2_with fail
              go_roundw
              case rel => exact ⟨3, r, O, h4, rfl, hr2, rfl, rfl, hrm2, hO2, hOs2, hb⟩
              case measure => simp [intOf]
            · have hc3 : 0 < c := by omega
              obtain ⟨D, hD1, hD2, hD3⟩ := ba_of (Lib.decDigits c)
              have hD4 : D.size ≤ 2 := by rw [hD3]; exact decDigits_len hc2
              have HO := fun T h3 => out_step hO.out hD1.out (T := T) h3 hct.out hc3
              have HO2 := Lib.hid HO
              have k1 : IntKind.i64.wrap 3 = 3 := by decide
              clear HO hD3 hc0
              go_wp2_with fail
              refine wp_region_later (by kernel_rfl) (by kernel_rfl) ?_
              have hl_ := later_cell (wr)
              repeat (first | go_big_quiet_step (((go_at_call 45; exact later_of (digits06_at c D _ hc2 hD2.out)))) | quiet_step (((go_at_call 45; exact later_of (digits06_at c D _ hc2 hD2.out)))))
              refine wpQuiet_nil ?_
              intro w9 hx_
              obtain ⟨⟨w_, hb9⟩, e_⟩ := hx_
              have e2_ : w9 = w_ := e_
              clear e_
              subst e2_
              clear hl_
              go_wp2_with fail
              go_roundw
              case rel =>
                have hO3 := HO2.out ((⟨#[100, 104, 109, 115]⟩ : ByteArray).extract 2 3) (by decide)
                have hs3 : (O ++ D ++ (⟨#[100, 104, 109, 115]⟩ : ByteArray).extract 2 3).size ≤ 3 * 3 := by
                  have e : ((⟨#[100, 104, 109, 115]⟩ : ByteArray).extract 2 3).size = 1 := by decide
                  rw [ByteArray.size_append, ByteArray.size_append, e]; omega
                exact ⟨3, r, _, h4, rfl, hr2, rfl, rfl, hrm2, Lib.hid hO3, hs3, bt hb hb9⟩
              case measure => simp [intOf]
      · rw [show ((3 : Nat) : Int) = 3 from rfl]
        obtain ⟨t, ht⟩ : ∃ t, Hid (tk 3 = t) := ⟨_, rfl⟩
        have ht1 : 0 < t := by rw [← ht.out]; decide
        have ht2 : t ≤ 100000 := by rw [← ht.out]; decide
        go_wp2_with (go_at_call 44; refine (ticks_any 3 _ (by omega)).mono ?_; rintro e w' ⟨rfl, rfl⟩; rw [ht.out])
        go_loop [0, 9] (fun a b => ∃ c r : Nat, b = .int .i64 c ∧ a = .int .i64 r ∧ r ≤ R ∧ c ≤ R ∧ Hid (c * t + r = R)) (fun a _ => (intOf a).toNat)
        case atStart => exact ⟨0, R, rfl, rfl, Nat.le_refl _, Nat.zero_le _, (by show _ = _; omega)⟩
        case round =>
          obtain ⟨c, r, rfl, rfl, hr1, hc1, HC⟩ := hrel
          by_cases hge : t ≤ r
          · have HC2 := Lib.hid (step_of HC.out hge)
            have hc3 := cnt_le ht1 HC2.out
            go_wp2_with fail
            go_round
            case rel => exact ⟨c + 1, r - t, by go_num, by go_num, by omega, hc3, HC2⟩
            case measure => simp [intOf]; omega
          · obtain ⟨hd1, hd2⟩ := div_of ht1 HC.out (by omega)
            have hct : Hid (ct 3 N = c) := by show rm 3 N / tk 3 = c; rw [hrm.out, ht.out]; exact hd1
            have hrm2 : Hid (rm 4 N = r) := by show rm 3 N % tk 3 = r; rw [hrm.out, ht.out]; exact hd2
            have hr2 : r ≤ 1000000 := by omega
            have hc2 : c < 100 := by rw [← hct.out]; exact ct_lt h 3 (by omega)
            have hOs2 : O.size ≤ 3 * 4 := by omega
            have h4 : 4 ≤ 4 := by omega
            clear hd1 hd2
            by_cases hc0 : c = 0
            · subst hc0
              have hO2 : Hid (O.data.toList = pts 4 N) := by show _ = _; rw [hO.out]; exact (out_same hct.out).symm
              simp only [Int.natCast_zero]
              go_wp2_with fail
              go_roundw
              case rel => exact ⟨4, r, O, h4, rfl, hr2, rfl, rfl, hrm2, hO2, hOs2, hb⟩
              case measure => simp [intOf]
            · have hc3 : 0 < c := by omega
              obtain ⟨D, hD1, hD2, hD3⟩ := ba_of (Lib.decDigits c)
              have hD4 : D.size ≤ 2 := by rw [hD3]; exact decDigits_len hc2
              have HO := fun T h3 => out_step hO.out hD1.out (T := T) h3 hct.out hc3
              have HO2 := Lib.hid HO
              have k1 : IntKind.i64.wrap 4 = 4 := by decide
              clear HO hD3 hc0
              go_wp2_with fail
              refine wp_region_later (by kernel_rfl) (by kernel_rfl) ?_
              have hl_ := later_cell (wr)
              repeat (first | go_big_quiet_step (((go_at_call 45; exact later_of (digits06_at c D _ hc2 hD2.out)))) | quiet_step (((go_at_call 45; exact later_of (digits06_at c D _ hc2 hD2.out)))))
              refine wpQuiet_nil ?_
              intro w9 hx_
              obtain ⟨⟨w_, hb9⟩, e_⟩ := hx_
              have e2_ : w9 = w_ := e_
              clear e_
              subst e2_
              clear hl_
              go_wp2_with fail
              go_roundw
              case rel =>
                have hO3 := HO2.out ((⟨#[100, 104, 109, 115]⟩ : ByteArray).extract 3 4) (by decide)
                have hs3 : (O ++ D ++ (⟨#[100, 104, 109, 115]⟩ : ByteArray).extract 3 4).size ≤ 3 * 4 := by
                  have e : ((⟨#[100, 104, 109, 115]⟩ : ByteArray).extract 3 4).size = 1 := by decide
                  rw [ByteArray.size_append, ByteArray.size_append, e]; omega
                exact ⟨4, r, _, h4, rfl, hr2, rfl, rfl, hrm2, Lib.hid hO3, hs3, bt hb hb9⟩
              case measure => simp [intOf]
    · obtain rfl : k = 4 := by omega
      go_wp2_with fail
      go_ret2
      refine ⟨?_, hb⟩
      have e : (⟨(pts 4 N).toArray⟩ : ByteArray) = O := ba_ext6 (by rw [hO.out])
      rw [e]; rfl
end Go.Proofs.YtenonfoocjcdmaaDoor
