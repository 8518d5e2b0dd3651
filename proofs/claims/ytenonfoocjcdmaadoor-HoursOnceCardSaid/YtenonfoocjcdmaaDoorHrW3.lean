/- Contracts of layer 6: Normal, awake; the document's Show. -/
import Derived.Test.YtenonfoocjcdmaaDoorHrW2
import Derived.Deep.RegionWith
namespace Go.Proofs.YtenonfoocjcdmaaDoor
set_option linter.unusedVariables false
open Go.RowKit
theorem hrs_cases (l : List UInt8) : (∃ n : Nat, n ≤ 1000000 ∧ hrsN l = n ∧ hrsE l = 0 ∧ hrsV l = some n) ∨ (hrsN l = 0 ∧ hrsE l = 60) ∨ (hrsN l = 0 ∧ hrsE l = 153) := by
  unfold hrsN hrsE
  cases h : hrsV l with
  | none => exact .inr (.inl ⟨rfl, rfl⟩)
  | some t =>
    by_cases ht : t ≤ 1000000
    · exact .inl ⟨t, ht, by simp [ht], by simp [ht], rfl⟩
    · exact .inr (.inr ⟨by simp [ht], by simp [ht]⟩)
theorem normal_ok (s : ByteArray) (n : Nat) (w : World) (hs : s.size ≤ maxLen) (hn : n ≤ 1000000) (h1 : hrsN s.data.toList = n) (h2 : hrsE s.data.toList = 0) :
    Calls Tryd.prog 17 #[.string s] w fun e w' => e = .returned (.tuple #[.string ⟨(showL n).toArray⟩, .int .i64 0]) ∧ Below w.heap.size w w' := by
  have H1 := Lib.hid h1
  have H2 := Lib.hid h2
  clear h1 h2
  go_enter Tryd.func17, Tryd.ntmps17
  go_wp2_with (first | (go_at_call 16; refine (parse_any s _ hs).mono ?_; rintro e w1 ⟨rfl, hb1⟩; rw [H1.out, H2.out]) | (go_at_call 12; refine (show_ok n _ hn).mono ?_; rintro e w2 ⟨rfl, hb2⟩))
  go_ret2
  exact ⟨rfl, hb1.trans (hb2.mono hb1.size)⟩
theorem normal_bad (s : ByteArray) (n : Nat) (w : World) (hs : s.size ≤ maxLen) (hn : n = 60 ∨ n = 153) (h2 : hrsE s.data.toList = n) :
    Calls Tryd.prog 17 #[.string s] w fun e w' => e = .returned (.tuple #[.string ⟨#[]⟩, .int .i64 n]) ∧ Below w.heap.size w w' := by
  have H2 := Lib.hid h2
  clear h2
  rcases hn with rfl | rfl
  all_goals
    go_enter Tryd.func17, Tryd.ntmps17
    go_wp2_with (go_at_call 16; refine (parse_any s _ hs).mono ?_; rintro e w1 ⟨rfl, hb1⟩; rw [H2.out])
    go_ret2
    exact ⟨rfl, hb1⟩
theorem show_5400 : showL 5400 = [49, 104, 51, 48, 109] := by
  have h1 : ct 0 5400 = 0 := by decide
  have h2 : ct 1 5400 = 1 := by decide
  have h3 : ct 2 5400 = 30 := by decide
  have h4 : ct 3 5400 = 0 := by decide
  simp only [showL, pts, pt, h1, h2, h3, h4]
  simp [dd_lt, dd_ge, sg]
set_option maxHeartbeats 1000000 in
theorem awake06_any (w : World) : Calls Tryd.prog 14 #[] w fun e w' => e = .returned (.bool true) ∧ Below w.heap.size w w' := by
  have a1 : hrsN (⟨#[49, 104, 51, 48, 109]⟩ : ByteArray).data.toList = (5400 : Int) := by decide
  have a2 : hrsE (⟨#[49, 104, 51, 48, 109]⟩ : ByteArray).data.toList = (0 : Int) := by decide
  have b1 : hrsN (⟨#[57, 48, 109]⟩ : ByteArray).data.toList = ((5400 : Nat) : Int) := by decide
  have b2 : hrsE (⟨#[57, 48, 109]⟩ : ByteArray).data.toList = (0 : Int) := by decide
  have c1 : hrsN (⟨#[51, 48, 109, 49, 104]⟩ : ByteArray).data.toList = (0 : Int) := by decide
  have c2 : hrsE (⟨#[51, 48, 109, 49, 104]⟩ : ByteArray).data.toList = (60 : Int) := by decide
  have A := Lib.hid (And.intro a1 (And.intro a2 (And.intro b1 (And.intro b2 (And.intro c1 c2)))))
  have S := Lib.hid show_5400
  clear a1 a2 b1 b2 c1 c2
  go_enter Tryd.func14, Tryd.ntmps14
  go_wp2_with fail
  refine (parse_any _ _ (by decide)).mono ?_; rintro e w1 ⟨rfl, hb1⟩
  rw [A.out.1, A.out.2.1]
  go_wp2_with fail
  refine (show_ok 5400 _ (by omega)).mono ?_; rintro e w2 ⟨rfl, hb2⟩
  rw [S.out]
  go_wp2_with fail
  refine (normal_ok _ 5400 _ (by decide) (by omega) A.out.2.2.1 A.out.2.2.2.1).mono ?_; rintro e w3 ⟨rfl, hb3⟩
  rw [S.out]
  go_wp2_with fail
  refine (parse_any _ _ (by decide)).mono ?_; rintro e w4 ⟨rfl, hb4⟩
  rw [A.out.2.2.2.2.1, A.out.2.2.2.2.2]
  go_wp2_with fail
  go_ret
  have b2 := hb1.trans (hb2.mono hb1.size)
  have b3 := b2.trans (hb3.mono b2.size)
  exact ⟨rfl, b3.trans (hb4.mono b3.size)⟩
theorem ticks_any (k : Nat) (w : World) (hk : k < 4) : Calls Tryd.prog 44 #[.int .u8 (sg k).toNat] w fun e w' => e = .returned (.tuple #[.int .i64 (tk k), .int .i64 (k + 1 : Nat)]) ∧ w = w' := by
  rcases (show k = 0 ∨ k = 1 ∨ k = 2 ∨ k = 3 by omega) with rfl | rfl | rfl | rfl
  all_goals
    go_enter Tryd.func44, Tryd.ntmps44
    simp only [sg]
    go_wp2
    go_ret2
    exact ⟨rfl, rfl⟩
theorem conv_one (w : World) (x : Int) (n : UInt8) (b cap : Nat) (hb : b = w.heap.size) (h : x = (n.toNat : Int)) : (convert 68 9 (.slice (some ⟨b, 0, none⟩) 1 cap)).run Tryd.prog (w.alloc (.cells #[.int .u8 x] 5)) = .ok (.string ⟨#[n]⟩) (w.alloc (.cells #[.int .u8 x] 5)) := by
  subst hb h
  exact str_of_reads (l := [n]) (Reads.made_one rfl)
theorem conv_cell {w : World} {x : Int} {n : UInt8} {b cap : Nat} (h : x = (n.toNat : Int)) (hc : w.cell? ⟨b, 0, none⟩ = some (.int .u8 x)) : (convert 68 9 (.slice (some ⟨b, 0, none⟩) 1 cap)).run Tryd.prog w = .ok (.string ⟨#[n]⟩) w := by
  subst h
  refine str_of_reads (B := b + 1) (l := [n]) ⟨rfl, fun _ => ⟨_, rfl, by simp, fun j u hu => ?_⟩⟩
  rcases j with _ | j
  · obtain rfl : Value.int .u8 n.toNat = u := by simpa [Lib.byteCells] using hu
    exact hc
  · simp [Lib.byteCells] at hu
theorem byte_of {n : Nat} (h : n < 256) : ∃ b : UInt8, Hid (UInt8.ofNat n = b) ∧ b.toNat = n := ⟨_, rfl, by rw [UInt8.toNat_ofNat', Nat.mod_eq_of_lt h]⟩
set_option maxRecDepth 10000 in
theorem digits06_lt (n : Nat) (w : World) (hn : n < 10) : Calls Tryd.prog 45 #[.int .i64 n] w fun e w' => e = .returned (.string ⟨(Lib.decDigits n).toArray⟩) ∧ Below w.heap.size w w' := by
  have H := Lib.hid (dd_lt hn)
  obtain ⟨b, h1, h2⟩ := byte_of (n := 48 + n) (by omega)
  have hc := conv_one w (48 + (n : Int)) b _ 1 rfl (by omega)
  clear h2
  go_enter Tryd.func45, Tryd.ntmps45
  go_wp2_with fail
  go_ret
  exact ⟨by rw [H.out, h1.out]; rfl, (Below.refl _ _).alloc (Nat.le_refl _) _⟩
set_option maxRecDepth 10000 in
theorem digits06_any (n : Nat) (w : World) (hn : n < 100) : Calls Tryd.prog 45 #[.int .i64 n] w fun e w' => e = .returned (.string ⟨(Lib.decDigits n).toArray⟩) ∧ Below w.heap.size w w' := by
  by_cases h : n < 10
  · exact digits06_lt n w h
  · have H := Lib.hid (dd_ge h)
    obtain ⟨q, hq⟩ : ∃ q, Hid (n / 10 = q) := ⟨_, rfl⟩
    obtain ⟨r, hr⟩ : ∃ r, Hid (n % 10 = r) := ⟨_, rfl⟩
    have hq1 : q < 10 := by have := hq.out; omega
    have hr1 : r < 10 := by have := hr.out; omega
    have k1 : IntKind.i64.wrap ((n : Int) / 10) = (q : Int) := by rw [IntWalk.i64_in _ (by omega)]; have := hq.out; omega
    have k2 : (n : Int).tmod 10 = (r : Int) := by rw [Int.tmod_eq_emod_of_nonneg (by omega)]; have := hr.out; omega
    have k3 : IntKind.i64.wrap (48 + (r : Int)) = 48 + (r : Int) := IntWalk.i64_in _ (by omega)
    have k4 : IntKind.u8.wrap (48 + (r : Int)) = 48 + (r : Int) := IntWalk.u8_in _ (by omega)
    obtain ⟨b, h1, h2⟩ := byte_of (n := 48 + r) (by omega)
    have hc := fun (W : World) (g : Nat) => conv_cell (w := W) (b := g) (cap := 1) (x := 48 + (r : Int)) (n := b) (by omega)
    obtain ⟨c, h3, _⟩ := byte_of (n := 48 + q) (by omega)
    have H2 := Lib.hid (dd_lt hq1)
    have HF : Hid (Lib.decDigits n = [c, b]) := by show _ = _; rw [H.out, hq.out, hr.out, H2.out, h3.out, h1.out]; rfl
    clear h2
    go_enter Tryd.func45, Tryd.ntmps45
    go_wp2_with fail
    go_region_with (go_at_call 45; refine (digits06_lt q _ hq1).mono ?_; rintro e w1 ⟨rfl, hb1⟩; rw [H2.out, h3.out]; have hcc := fun b o h => hb1.cell (p := ⟨b, o, none⟩) h)
    all_goals
      go_wp2_with fail
      go_ret
      refine ⟨by rw [HF.out]; rfl, ?_⟩
      have hz1 := hb1.size
      (try simp only [World.size_alloc, World.size_drew] at hz1)
      first
      | exact ((below_drew (Below.refl _ _)).trans (hb1.mono (by simp))).alloc (by omega) _
      | exact (below_drew ((Below.refl _ _).alloc (Nat.le_refl _) _)).trans (hb1.mono (by simp))
theorem show06_bad (n : Int) (w : World) (h : n < 0 ∨ 1000000 < n) :
    Calls Tryd.prog 13 #[.int .i64 n] w fun e w' => e = .returned (.tuple #[.string ⟨#[]⟩, .int .i64 153]) ∧ w = w' := by
  by_cases h1 : n < 0
  all_goals
    (try have h2 : 1000000 < n := by omega)
    go_enter Tryd.func13, Tryd.ntmps13
    go_wp2
    go_ret2
    exact ⟨rfl, rfl⟩
theorem show06_zero (w : World) :
    Calls Tryd.prog 13 #[.int .i64 0] w fun e w' => e = .returned (.tuple #[.string ⟨#[48, 115]⟩, .int .i64 0]) ∧ w = w' := by
  go_enter Tryd.func13, Tryd.ntmps13
  go_wp2
  go_ret2
  exact ⟨rfl, rfl⟩
end Go.Proofs.YtenonfoocjcdmaaDoor
