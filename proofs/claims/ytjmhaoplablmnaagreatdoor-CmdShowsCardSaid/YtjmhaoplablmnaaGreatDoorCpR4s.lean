/- Layer 8: the reference's digits, words, times. -/
import Derived.Test.YtjmhaoplablmnaaGreatDoorP9s
import Derived.Test.YtjmhaoplablmnaaGreatDoorK5s
import Derived.Test.YtjmhaoplablmnaaGreatDoorP6s
namespace Go.Proofs.YtjmhaoplablmnaaGreatDoor
set_option linter.unusedVariables false
set_option linter.unusedSimpArgs false
open Go.RowKit
set_option maxRecDepth 10000 in
theorem digits8_lt (n : Nat) (w : World) (hn : n < 10) : Calls Tryz.prog 29 #[.int .i64 n] w fun e w' => e = .returned (.string ⟨(Lib.decDigits n).toArray⟩) ∧ Below w.heap.size w w' := by
  have H := Lib.hid (dd_lt hn)
  obtain ⟨b, h1, h2⟩ := byte_of (n := 48 + n) (by omega)
  have hc := conv_one w (48 + (n : Int)) b _ 1 rfl (by omega)
  clear h2
  go_enter Tryz.func29, Tryz.ntmps29
  go_wp2_with fail
  go_ret
  exact ⟨by rw [H.out, h1.out]; rfl, (Below.refl _ _).alloc (Nat.le_refl _) _⟩
set_option maxRecDepth 10000 in
theorem digits8_k : ∀ (k n : Nat) (w : World), k ≤ 6 → n < 10 ^ (k + 1) → Calls Tryz.prog 29 #[.int .i64 n] w fun e w' => e = .returned (.string ⟨(Lib.decDigits n).toArray⟩) ∧ Below w.heap.size w w'
  | 0, n, w, _, hn => digits8_lt n w (by omega)
  | k + 1, n, w, hk, hn => by
    by_cases h : n < 10
    · exact digits8_lt n w h
    · have H := Lib.hid (dd_ge h)
      have hp : 10 ^ (k + 1 + 1) ≤ 10 ^ 7 := Nat.pow_le_pow_right (by omega) (by omega)
      have hn7 : n < 10000000 := by omega
      have hdl := dd_len9 7 (n / 10) (by omega)
      obtain ⟨q, hq⟩ : ∃ q, Hid (n / 10 = q) := ⟨_, Lib.hid rfl⟩
      obtain ⟨r, hr⟩ : ∃ r, Hid (n % 10 = r) := ⟨_, Lib.hid rfl⟩
      have hq1 : q < 10 ^ (k + 1) := by
        rw [← hq.out]
        rw [Nat.pow_succ] at hn
        exact Nat.div_lt_of_lt_mul (by rw [Nat.mul_comm]; exact hn)
      have hr1 : r < 10 := by have := hr.out; omega
      have k1 : IntKind.i64.wrap ((n : Int) / 10) = (q : Int) := by rw [IntWalk.i64_in _ (by omega)]; have := hq.out; omega
      have k2 : (n : Int).tmod 10 = (r : Int) := by rw [Int.tmod_eq_emod_of_nonneg (by omega)]; have := hr.out; omega
      have k3 : IntKind.i64.wrap (48 + (r : Int)) = 48 + (r : Int) := IntWalk.i64_in _ (by omega)
      have k4 : IntKind.u8.wrap (48 + (r : Int)) = 48 + (r : Int) := IntWalk.u8_in _ (by omega)
      obtain ⟨b, h1, h2⟩ := byte_of (n := 48 + r) (by omega)
      have hc := fun (W : World) (g : Nat) => conv_cell (w := W) (b := g) (cap := 1) (x := 48 + (r : Int)) (n := b) (by omega)
      have ih := Lib.hid (fun v => digits8_k k q v (by omega) hq1)
      have HF : Hid (Lib.decDigits n = Lib.decDigits q ++ [b]) := by show _ = _; rw [H.out, hq.out, hr.out, h1.out]
      rw [hq.out] at hdl
      obtain ⟨D, hD⟩ : ∃ D : ByteArray, (⟨(Lib.decDigits q).toArray⟩ : ByteArray) = D := ⟨_, rfl⟩
      have hs : D.size ≤ 8 := by rw [← hD]; show (Lib.decDigits q).toArray.size ≤ 8; rw [List.size_toArray]; exact hdl
      have HR : Hid ((⟨(Lib.decDigits n).toArray⟩ : ByteArray) = D ++ ⟨#[b]⟩) := by
        show _ = _
        rw [HF.out, ← hD]
        apply ByteArray.ext
        simp [ByteArray.data_append]
      obtain ⟨F, hF⟩ : ∃ D : ByteArray, (⟨(Lib.decDigits n).toArray⟩ : ByteArray) = D := ⟨_, rfl⟩
      rw [hF] at HR ⊢
      rw [hD] at ih
      have q2 : ¬ (9223372036854775807 < D.size + 1) := by omega
      clear h2 hp hn hdl hD hF hq1 hk
      go_enter Tryz.func29, Tryz.ntmps29
      go_wp2_with fail
      go_region_with (go_at_call 29; refine (ih.out _).mono ?_; rintro e w1 ⟨rfl, hb1⟩; have hcc := fun b o h => hb1.cell (p := ⟨b, o, none⟩) h)
      all_goals
        go_wp2_with fail
        go_ret
        refine ⟨by rw [HR.out]; rfl, ?_⟩
        have hz1 := hb1.size
        (try simp only [World.size_alloc, World.size_drew] at hz1)
        first
        | exact ((below_drew (Below.refl _ _)).trans (hb1.mono (by simp))).alloc (by omega) _
        | exact (below_drew ((Below.refl _ _).alloc (Nat.le_refl _) _)).trans (hb1.mono (by simp))
theorem digits8_any (n : Int) (w : World) (h0 : 0 ≤ n) (h1 : n ≤ 1000000) : Calls Tryz.prog 29 #[.int .i64 n] w fun e w' => e = .returned (.string ⟨(Lib.itoa n).toArray⟩) ∧ Below w.heap.size w w' := by
  have := digits8_k 6 n.toNat w (by omega) (by omega)
  rw [Int.toNat_of_nonneg h0] at this
  rw [itoa_nn h0]
  exact this
set_option maxHeartbeats 4000000 in
set_option maxRecDepth 100000 in
theorem verb8_any (k : Int) (w : World) (h1 : 1 ≤ k) (h2 : k ≤ 12) : Calls Tryz.prog 26 #[.int .i64 k] w fun e w' => e = .returned (.string ⟨(bWd k).toArray⟩) ∧ Below w.heap.size w w' := by
  rcases kinds12 h1 h2 with rfl | rfl | rfl | rfl | rfl | rfl | rfl | rfl | rfl | rfl | rfl | rfl
  all_goals
    go_enter Tryz.func26, Tryz.ntmps26
    go_wp2
    go_ret
    exact ⟨rfl, (Below.refl _ _).alloc (Nat.le_refl _) _⟩
theorem show06_all (n : Nat) (w : World) (h : n ≤ 1000000) : Calls Tryz.prog 59 #[.int .i64 n] w fun e w' => e = .returned (.tuple #[.string ⟨(showL n).toArray⟩, .int .i64 0]) ∧ Below w.heap.size w w' := by
  rcases Nat.eq_zero_or_pos n with rfl | h0
  · exact (show06_zero w).mono fun e w' ⟨he, hw⟩ => ⟨he, hw ▸ Below.refl _ _⟩
  · have e : showL n = pts 4 n := by unfold showL; rw [if_neg (by omega)]
    rw [e]; exact show06_ok n w h h0
theorem span8_any (n : Int) (w : World) (h0 : 0 ≤ n) (h1 : n ≤ 1000000) : Calls Tryz.prog 31 #[.int .i64 n] w fun e w' => e = .returned (.string ⟨(showL n.toNat).toArray⟩) ∧ Below w.heap.size w w' := by
  have hs := Lib.hid (show06_all n.toNat w (by omega))
  rw [Int.toNat_of_nonneg h0] at hs
  clear h0 h1
  go_enter Tryz.func31, Tryz.ntmps31
  go_wp2_with (go_at_call 59; refine hs.out.mono ?_; rintro e w1 ⟨rfl, hb1⟩)
  go_ret
  exact ⟨rfl, hb1⟩
end Go.Proofs.YtjmhaoplablmnaaGreatDoor
