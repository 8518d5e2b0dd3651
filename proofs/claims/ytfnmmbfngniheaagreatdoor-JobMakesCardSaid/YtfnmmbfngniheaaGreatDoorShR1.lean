/- Layer 7: the reference's Check walked. -/
import Derived.Test.YtfnmmbfngniheaaGreatDoorShW5
namespace Go.Proofs.YtfnmmbfngniheaaGreatDoor
set_option linter.unusedVariables false
open Go.RowKit
def sizeB (x : Int) : Bool := decide (1 ≤ x) && decide (x ≤ 48)
def wallB (x : Int) : Bool := decide (1 ≤ x) && decide (x ≤ 100000)
theorem fine_two (a : Pr) : fineA a = (sizeB a.1 && wallB a.2) := by unfold fineA sizeB wallB; rw [Bool.and_assoc, Bool.and_assoc]
theorem rsize_any (x : Int) (w : World) : Calls Tryz.prog 185 #[.int .i64 x] w fun e w' => e = .returned (.bool (sizeB x)) ∧ w = w' := by
  unfold sizeB
  cases h1 : decide (1 ≤ x) <;> cases h2 : decide (x ≤ 48)
  all_goals
    go_enter Tryz.func185, Tryz.ntmps185
    go_wp2
    go_ret
    exact ⟨rfl, rfl⟩
theorem rwall_any (x : Int) (w : World) : Calls Tryz.prog 186 #[.int .i64 x] w fun e w' => e = .returned (.bool (wallB x)) ∧ w = w' := by
  unfold wallB
  cases h1 : decide (1 ≤ x) <;> cases h2 : decide (x ≤ 100000)
  all_goals
    go_enter Tryz.func186, Tryz.ntmps186
    go_wp2
    go_ret
    exact ⟨rfl, rfl⟩
theorem she_three {s : Sh} (h3 : s.kind = 3) : shE s = if (decide (s.alts.length = 0) && sizeB s.mn && sizeB s.mx && decide (s.mn ≤ s.mx) && wallB s.wall) = true then 0 else 70 := by
  unfold shE okS
  rw [if_neg (show ¬ s.kind = 1 by omega), if_neg (show ¬ s.kind = 2 by omega), if_pos h3]
  have e : (decide (s.alts.length = 0) && decide (s.mn ≤ s.mx) && fineA (s.mn, s.wall) && decide (s.mx ≤ 48)) = (decide (s.alts.length = 0) && sizeB s.mn && sizeB s.mx && decide (s.mn ≤ s.mx) && wallB s.wall) := by
    unfold fineA sizeB wallB
    rw [Bool.eq_iff_iff]
    simp only [Bool.and_eq_true, decide_eq_true_eq]
    constructor
    · rintro ⟨⟨⟨a, b⟩, ⟨⟨c, d⟩, e⟩, f⟩, g⟩
      exact ⟨⟨⟨⟨a, c, d⟩, by omega, g⟩, b⟩, e, f⟩
    · rintro ⟨⟨⟨⟨a, c, d⟩, _, g⟩, b⟩, e, f⟩
      exact ⟨⟨⟨a, b⟩, ⟨⟨c, d⟩, e⟩, f⟩, g⟩
  rw [e]
theorem apart_one {l : List Pr} (h : l.length ≤ 1) : apartL l = true := by
  rw [apart_iff]
  intro i j a b hij ha hb
  have := (List.getElem?_eq_some_iff.1 hb).1
  omega
theorem she_list {s : Sh} (h : s.kind = 1 ∨ s.kind = 2) : shE s = if (bareS s && decide (1 ≤ s.alts.length) && decide (s.alts.length ≤ if s.kind = 2 then 6 else 1) && apartL s.alts && s.alts.all fineA) = true then 0 else 70 := by
  unfold shE okS
  rcases h with h | h
  · rw [if_pos h, if_neg (show ¬ s.kind = 2 by omega)]
    have e : (bareS s && decide (s.alts.length = 1) && s.alts.all fineA) = (bareS s && decide (1 ≤ s.alts.length) && decide (s.alts.length ≤ 1) && apartL s.alts && s.alts.all fineA) := ?_
    · rw [e]
    by_cases h1 : s.alts.length = 1
    · rw [apart_one (by omega)]; simp [h1]
    · have e1 : decide (s.alts.length = 1) = false := decide_eq_false h1
      by_cases h2 : 1 ≤ s.alts.length
      · have e2 : decide (s.alts.length ≤ 1) = false := decide_eq_false (by omega)
        rw [e1, e2]; simp
      · have e2 : decide (1 ≤ s.alts.length) = false := decide_eq_false h2
        rw [e1, e2]; simp
  · rw [if_neg (show ¬ s.kind = 1 by omega), if_pos h, if_pos h]
set_option maxHeartbeats 2000000 in
theorem rshape_three (s : Sh) (A : Option Addr) (c : Nat) (w : World) (hk : s.kind = 3) :
    Calls Tryz.prog 137 #[shV s A c] w fun e w' => e = .returned (.int .i64 (shE s)) ∧ Below w.heap.size w w' := by
  have HE := Lib.hid (she_three hk)
  obtain ⟨R, hR⟩ : ∃ R, Hid (shE s = R) := ⟨_, rfl⟩
  rw [hR.out] at HE ⊢
  unfold shV
  obtain ⟨n, hnn⟩ : ∃ n, Hid (s.alts.length = n) := ⟨_, rfl⟩
  rw [hnn.out] at HE ⊢
  rw [hk]
  obtain ⟨kind, l, mn, mx, wall⟩ := s
  dsimp only at HE ⊢
  have c1 := Lib.hid (fun v => rsize_any mn v)
  have c2 := Lib.hid (fun v => rsize_any mx v)
  have c3 := Lib.hid (fun v => rwall_any wall v)
  obtain ⟨q1, hq1⟩ : ∃ q, sizeB mn = q := ⟨_, rfl⟩
  obtain ⟨q2, hq2⟩ : ∃ q, sizeB mx = q := ⟨_, rfl⟩
  obtain ⟨q3, hq3⟩ : ∃ q, wallB wall = q := ⟨_, rfl⟩
  rw [hq1] at c1 HE
  rw [hq2] at c2 HE
  rw [hq3] at c3 HE
  clear hk hR hq1 hq2 hq3 hnn
  by_cases h0 : 0 < n
  · have t0 : decide ((0 : Int) < (n : Int)) = true := by simp; omega
    have t0' : decide (0 < n) = true := by simp; omega
    have HR : Hid (R = 70) := by show _ = _; rw [HE.out]; simp [show ¬ n = 0 by omega]
    clear HE h0
    go_enter Tryz.func137, Tryz.ntmps137
    go_wp2
    go_ret
    exact ⟨by rw [HR.out]; rfl, (Below.refl _ _).alloc (Nat.le_refl _) _⟩
  obtain rfl : n = 0 := by omega
  clear h0
  have t2 : decide (mx < mn) = !decide (mn ≤ mx) := by
    by_cases h : mn ≤ mx
    · rw [decide_eq_true h, decide_eq_false (by omega)]; rfl
    · rw [decide_eq_false h, decide_eq_true (by omega)]; rfl
  obtain ⟨q4, hq4⟩ : ∃ q, decide (mn ≤ mx) = q := ⟨_, rfl⟩
  rw [hq4] at t2 HE
  clear hq4
  cases q1
  case false =>
    have HR : Hid (R = 70) := by show _ = _; rw [HE.out]; simp
    clear HE
    go_enter Tryz.func137, Tryz.ntmps137
    go_wp2_with (fail)
    refine (c1.out _).mono ?_; rintro e w1 ⟨rfl, rfl⟩
    go_wp2
    go_ret
    exact ⟨by rw [HR.out]; rfl, (Below.refl _ _).alloc (Nat.le_refl _) _⟩
  cases q2
  case false =>
    have HR : Hid (R = 70) := by show _ = _; rw [HE.out]; simp
    clear HE
    go_enter Tryz.func137, Tryz.ntmps137
    go_wp2_with (fail)
    refine (c1.out _).mono ?_; rintro e w1 ⟨rfl, rfl⟩
    go_wp2_with (fail)
    refine (c2.out _).mono ?_; rintro e w1 ⟨rfl, rfl⟩
    go_wp2
    go_ret
    exact ⟨by rw [HR.out]; rfl, (Below.refl _ _).alloc (Nat.le_refl _) _⟩
  cases q4
  case false =>
    have HR : Hid (R = 70) := by show _ = _; rw [HE.out]; simp
    simp only [Bool.not_false] at t2
    clear HE
    go_enter Tryz.func137, Tryz.ntmps137
    go_wp2_with (fail)
    refine (c1.out _).mono ?_; rintro e w1 ⟨rfl, rfl⟩
    go_wp2_with (fail)
    refine (c2.out _).mono ?_; rintro e w1 ⟨rfl, rfl⟩
    go_wp2
    go_ret
    exact ⟨by rw [HR.out]; rfl, (Below.refl _ _).alloc (Nat.le_refl _) _⟩
  simp only [Bool.not_true] at t2
  cases q3
  all_goals
    have HR := Lib.hid HE.out
    clear HE
    go_enter Tryz.func137, Tryz.ntmps137
    go_wp2_with (fail)
    refine (c1.out _).mono ?_; rintro e w1 ⟨rfl, rfl⟩
    go_wp2_with (fail)
    refine (c2.out _).mono ?_; rintro e w1 ⟨rfl, rfl⟩
    go_wp2_with (fail)
    refine (c3.out _).mono ?_; rintro e w1 ⟨rfl, rfl⟩
    go_wp2
    go_ret
    exact ⟨by rw [HR.out]; rfl, (Below.refl _ _).alloc (Nat.le_refl _) _⟩
end Go.Proofs.YtfnmmbfngniheaaGreatDoor
