/- Layer 7: Check walked, the other kinds. -/
import Derived.Test.YtfnmmbfngniheaaGreatDoorShW4
namespace Go.Proofs.YtfnmmbfngniheaaGreatDoor
set_option linter.unusedVariables false
open Go.RowKit
theorem any_notfine (l : List Pr) : l.any (fun x => !fineA x) = !l.all fineA := by
  induction l with
  | nil => rfl
  | cons x t ih => simp only [List.any_cons, List.all_cons, ih, Bool.not_and]
set_option maxHeartbeats 2000000 in
theorem shape_two (s : Sh) (A : Option Addr) (c B : Nat) (w : World) (hr : Reads w B 2 A s.alts.length (recs prC s.alts)) (hB : B ≤ w.heap.size) (hn : s.alts.length ≤ 1000000) (hcap : s.alts.length ≤ c) (hk : s.kind = 2) :
    Calls Tryz.prog 170 #[shV s A c] w fun e w' => e = .returned (.int .i64 (shE s)) ∧ Below w.heap.size w w' := by
  have hbc := bare_cases s
  have HE : Hid (shE s = if (bareS s && decide (1 ≤ s.alts.length) && decide (s.alts.length ≤ 6) && apartL s.alts && s.alts.all fineA) = true then 0 else 70) := by
    show _ = _
    unfold shE okS; rw [if_neg (show ¬ s.kind = 1 by omega), if_pos hk]
  obtain ⟨R, hR⟩ : ∃ R, Hid (shE s = R) := ⟨_, rfl⟩
  rw [hR.out] at HE ⊢
  unfold shV
  obtain ⟨n, hnn⟩ : ∃ n, Hid (s.alts.length = n) := ⟨_, rfl⟩
  rw [hnn.out] at HE hr hn hcap ⊢
  rw [hk]
  obtain ⟨kind, l, mn, mx, wall⟩ := s
  dsimp only at HE hr hnn hbc ⊢
  clear hk hR
  rcases hbc with ⟨e1, e2, e3, hb⟩ | ⟨hb, h⟩
  · rw [hb] at HE
    rw [e1, e2, e3]
    clear hb e1 e2 e3
    by_cases h1 : 1 ≤ n
    · have t1 : decide ((1 : Int) ≤ (n : Int)) = true := by simp; omega
      have t1' : decide (1 ≤ n) = true := by simp; omega
      by_cases h6 : n ≤ 6
      · have t6 : decide ((n : Int) ≤ 6) = true := by simp; omega
        have t6' : decide (n ≤ 6) = true := by simp; omega
        rw [t1', t6'] at HE
        have hbx : Below w.heap.size w (w.alloc (.cells #[.int .i64 2, .slice A n c, .int .i64 0, .int .i64 0, .int .i64 0] 24)) := (Below.refl _ _).alloc (Nat.le_refl _) _
        have HBX := Lib.hid hbx
        have ca := Lib.hid (apart_any A n c B l _ (hr.below (hbx.mono hB)) (by simp; omega) hn hcap)
        have eg : ∀ args w, (callFunc 192 args).run Tryz.prog w = .ok (.enter 192 args) w := enters_of Tryz.func192 (by kernel_rfl) rfl
        have cb := Lib.hid (fun v (hv : Below w.heap.size w v) => hasA_any (fun x => !fineA x) 192 #[] eg A n c B l v (hr.below (hv.mono hB)) (Nat.le_trans hB hv.size) hn (pred_notfine v))
        have HA := Lib.hid (any_notfine l)
        rw [any_notfine l] at cb
        obtain ⟨q, hq⟩ : ∃ q, apartL l = q := ⟨_, rfl⟩
        obtain ⟨p, hp⟩ : ∃ q, l.all fineA = q := ⟨_, rfl⟩
        rw [hq] at ca HE
        rw [hp] at cb HE
        clear hq hp eg hbx HA hr
        cases q
        · have HR : Hid (R = 70) := by show _ = _; rw [HE.out]; simp
          clear HE h1 h6
          go_enter Tryz.func170, Tryz.ntmps170
          go_wp2_with (fail)
          refine ca.out.mono ?_; rintro e w1 ⟨rfl, hb1⟩
          have B1 := Lib.hid (HBX.out.trans (hb1.mono (by simp)))
          clear hb1
          go_wp2
          go_ret
          exact ⟨by rw [HR.out]; rfl, B1.out⟩
        · cases p
          all_goals
            have HR := Lib.hid HE.out
            clear HE h1 h6
            go_enter Tryz.func170, Tryz.ntmps170
            go_wp2_with (fail)
            refine ca.out.mono ?_; rintro e w1 ⟨rfl, hb1⟩
            have B1 := Lib.hid (HBX.out.trans (hb1.mono (by simp)))
            have k1 : w1.cell? ⟨w.heap.size, 1, none⟩ = some (.slice A n c) := boxed_cell hb1 1
            clear hb1
            go_wp2_with (fail)
            refine (cb.out _ B1.out).mono ?_; rintro e w2 ⟨rfl, hb2⟩
            have B2 := Lib.hid (B1.out.trans (hb2.mono B1.out.size))
            clear hb2
            go_wp2
            go_ret
            exact ⟨by rw [HR.out]; rfl, B2.out⟩
      · have t6 : decide ((n : Int) ≤ 6) = false := by simp; omega
        have t6' : decide (n ≤ 6) = false := by simp; omega
        have HR : Hid (R = 70) := by show _ = _; rw [HE.out]; simp [t6']
        clear HE h1 h6 hr
        go_enter Tryz.func170, Tryz.ntmps170
        go_wp2
        go_ret
        exact ⟨by rw [HR.out]; rfl, (Below.refl _ _).alloc (Nat.le_refl _) _⟩
    · have t1 : decide ((1 : Int) ≤ (n : Int)) = false := by simp; omega
      have t1' : decide (1 ≤ n) = false := by simp; omega
      have HR : Hid (R = 70) := by show _ = _; rw [HE.out]; simp [t1']
      clear HE h1 hr
      go_enter Tryz.func170, Tryz.ntmps170
      go_wp2
      go_ret
      exact ⟨by rw [HR.out]; rfl, (Below.refl _ _).alloc (Nat.le_refl _) _⟩
  · rw [hb] at HE
    have HR : Hid (R = 70) := by show _ = _; rw [HE.out]; simp
    clear HE hb hr
    rcases h with h | ⟨e1, h⟩ | ⟨e1, e2, h⟩
    all_goals
      (try rw [e1])
      (try rw [e2])
      go_enter Tryz.func170, Tryz.ntmps170
      go_wp2
      go_ret
      exact ⟨by rw [HR.out]; rfl, (Below.refl _ _).alloc (Nat.le_refl _) _⟩
set_option maxHeartbeats 2000000 in
theorem shape_three (s : Sh) (A : Option Addr) (c : Nat) (w : World) (hk : s.kind = 3) :
    Calls Tryz.prog 170 #[shV s A c] w fun e w' => e = .returned (.int .i64 (shE s)) ∧ Below w.heap.size w w' := by
  have HE : Hid (shE s = if (decide (s.alts.length = 0) && decide (s.mn ≤ s.mx) && fineA (s.mn, s.wall) && decide (s.mx ≤ 48)) = true then 0 else 70) := by
    show _ = _
    unfold shE okS; rw [if_neg (show ¬ s.kind = 1 by omega), if_neg (show ¬ s.kind = 2 by omega), if_pos hk]
  obtain ⟨R, hR⟩ : ∃ R, Hid (shE s = R) := ⟨_, rfl⟩
  rw [hR.out] at HE ⊢
  unfold shV
  obtain ⟨n, hnn⟩ : ∃ n, Hid (s.alts.length = n) := ⟨_, rfl⟩
  rw [hnn.out] at HE ⊢
  rw [hk]
  obtain ⟨kind, l, mn, mx, wall⟩ := s
  dsimp only at HE ⊢
  have hf := Lib.hid (fun v => fine_any (mn, wall) v)
  obtain ⟨q, hq⟩ : ∃ q, fineA (mn, wall) = q := ⟨_, rfl⟩
  rw [hq] at hf HE
  dsimp only at hf
  clear hk hR hq
  cases z1 : mn == 0 <;> cases z2 : mx == 0 <;> cases z3 : wall == 0
  all_goals
    by_cases h0 : n = 0
    · subst h0
      cases t1 : decide (mn ≤ mx)
      · have HR : Hid (R = 70) := by show _ = _; rw [HE.out, t1]; simp
        clear HE
        go_enter Tryz.func170, Tryz.ntmps170
        go_wp2
        go_ret
        exact ⟨by rw [HR.out]; rfl, (Below.refl _ _).alloc (Nat.le_refl _) _⟩
      · cases q
        · have HR : Hid (R = 70) := by show _ = _; rw [HE.out]; simp
          clear HE
          go_enter Tryz.func170, Tryz.ntmps170
          go_wp2_with (fail)
          refine (hf.out _).mono ?_; rintro e w1 ⟨rfl, hb1⟩
          have B1 := Lib.hid (((Below.refl w.heap.size w).alloc (Nat.le_refl _) _).trans (hb1.mono (by simp)))
          clear hb1
          go_wp2
          go_ret
          exact ⟨by rw [HR.out]; rfl, B1.out⟩
        · cases t2 : decide (mx ≤ 48)
          all_goals
            rw [t1, t2] at HE
            have HR := Lib.hid HE.out
            clear HE
            go_enter Tryz.func170, Tryz.ntmps170
            go_wp2_with (fail)
            refine (hf.out _).mono ?_; rintro e w1 ⟨rfl, hb1⟩
            have B1 := Lib.hid (((Below.refl w.heap.size w).alloc (Nat.le_refl _) _).trans (hb1.mono (by simp)))
            have k3 : w1.cell? ⟨w.heap.size, 3, none⟩ = some (.int .i64 mx) := boxed_cell hb1 3
            clear hb1
            go_wp2
            go_ret
            exact ⟨by rw [HR.out]; rfl, B1.out⟩
    · have t0 : ((n : Int) == 0) = false := by simp; omega
      have HR : Hid (R = 70) := by show _ = _; rw [HE.out]; simp [h0]
      clear HE h0
      go_enter Tryz.func170, Tryz.ntmps170
      go_wp2
      go_ret
      exact ⟨by rw [HR.out]; rfl, (Below.refl _ _).alloc (Nat.le_refl _) _⟩
set_option maxHeartbeats 2000000 in
theorem shape_none (s : Sh) (A : Option Addr) (c : Nat) (w : World) (h1 : s.kind ≠ 1) (h2 : s.kind ≠ 2) (h3 : s.kind ≠ 3) :
    Calls Tryz.prog 170 #[shV s A c] w fun e w' => e = .returned (.int .i64 (shE s)) ∧ Below w.heap.size w w' := by
  have HE : Hid (shE s = 70) := by
    show _ = _
    unfold shE okS; rw [if_neg h1, if_neg h2, if_neg h3]; rfl
  rw [HE.out]
  unfold shV
  obtain ⟨kind, l, mn, mx, wall⟩ := s
  dsimp only at h1 h2 h3 ⊢
  have t1 : (kind == 1) = false := by simpa using h1
  have t2 : (kind == 2) = false := by simpa using h2
  have t3 : (kind == 3) = false := by simpa using h3
  clear h1 h2 h3
  cases z1 : mn == 0 <;> cases z2 : mx == 0 <;> cases z3 : wall == 0
  all_goals
    go_enter Tryz.func170, Tryz.ntmps170
    go_wp2
    go_ret
    exact ⟨rfl, (Below.refl _ _).alloc (Nat.le_refl _) _⟩
theorem shape_any (s : Sh) (A : Option Addr) (c B : Nat) (w : World) (hr : Reads w B 2 A s.alts.length (recs prC s.alts)) (hB : B ≤ w.heap.size) (hn : s.alts.length ≤ 1000000) (hcap : s.alts.length ≤ c) :
    Calls Tryz.prog 170 #[shV s A c] w fun e w' => e = .returned (.int .i64 (shE s)) ∧ Below w.heap.size w w' := by
  by_cases h1 : s.kind = 1
  · exact shape_one s A c B w hr hB hn h1
  · by_cases h2 : s.kind = 2
    · exact shape_two s A c B w hr hB hn hcap h2
    · by_cases h3 : s.kind = 3
      · exact shape_three s A c w h3
      · exact shape_none s A c w h1 h2 h3
end Go.Proofs.YtfnmmbfngniheaaGreatDoor
