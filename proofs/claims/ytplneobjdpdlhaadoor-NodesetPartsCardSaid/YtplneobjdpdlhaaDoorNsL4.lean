/- Layer 9: the statements NodesetBack and NodesetParts walked. -/
import Derived.Test.YtplneobjdpdlhaaDoorNsL3
namespace Go.Proofs.YtplneobjdpdlhaaDoor
set_option linter.unusedVariables false
open Go.RowKit
set_option maxHeartbeats 2000000 in
set_option maxRecDepth 100000 in
theorem nodesetBack_walk (s : Nat) (t : ByteArray) (w : World) (hs : s < M64) (ht : t.size ≤ maxLen) (hE : Env9 w) :
    Calls Tryd.prog 6 #[.int .u64 s, .string t] w fun e w' => e = .returned (.bool true) ∧ Below w.heap.size w w' := by
  have cA := Lib.hid (fun v hv => awake09_any v (hE.below hv))
  by_cases h : 2000 < t.size
  · have t1 : decide ((2000 : Int) < (t.size : Int)) = true := by simp; omega
    have t1' : decide (2000 < t.size) = true := by simp; omega
    clear h
    go_enter Tryd.func6, Tryd.ntmps6
    go_wp2_with (fail)
    refine (cA.out _ (Below.refl _ _)).mono ?_; rintro e w5 ⟨rfl, hb5⟩
    go_wp2
    go_ret
    exact ⟨rfl, hb5⟩
  · have t1 : decide ((2000 : Int) < (t.size : Int)) = false := by simp; omega
    have t1' : decide (2000 < t.size) = false := by simp; omega
    have hl64 := memL_len s
    have c1 := Lib.hid (fun v => list09_any s v hs)
    have c2 := Lib.hid (fun (A : Option Addr) (c B : Nat) (v : World) (hr : Reads v B 1 A (memL s).length (ints (natI (memL s)))) => of_any A (memL s).length c B (natI (memL s)) v hr (by omega))
    rw [of_mem hs] at c2
    have hsl := showN_len hs
    have hps := parse9_show hs
    obtain ⟨S, hS1, hS2, hS3⟩ := ba9 (showN s)
    rw [hS2.out] at hps
    have c3 := Lib.hid (fun v hv => show_any s v hs (Env9.below hE hv).2.1 (Env9.below hE hv).2.2)
    rw [hS2.out] at c3
    have c4 := Lib.hid (fun v hv => parse9_any S v (by omega) (Env9.below hE hv).1 (Env9.below hE hv).2.1 (Env9.below hE hv).2.2)
    rw [hps] at c4
    have c5 := Lib.hid (fun v hv => parse9_any t v (by omega) (Env9.below hE hv).1 (Env9.below hE hv).2.1 (Env9.below hE hv).2.2)
    obtain ⟨n, hn⟩ : ∃ n, Hid ((memL s).length = n) := ⟨_, rfl⟩
    rw [hn.out] at hl64
    clear hps h
    by_cases hp : showN (setP t) = t.data.toList
    · have hP : parse9 t = (setP t, 0) := by unfold parse9 parseS; rw [if_pos hp]
      have hq := setP_lt t
      rw [hP] at c5
      obtain ⟨q, hqq⟩ : ∃ q, setP t = q := ⟨_, rfl⟩
      rw [hqq] at hp hq c5
      have c6 := Lib.hid (fun v hv => show_any q v hq (Env9.below hE hv).2.1 (Env9.below hE hv).2.2)
      have e6 : (⟨(showN q).toArray⟩ : ByteArray) = t := by apply ba_ext; rw [hp]
      rw [e6] at c6
      have t2 : (t.toList == t.toList) = true := beq_self_eq_true _
      clear e6 hP hp hqq
      go_enter Tryd.func6, Tryd.ntmps6
      go_wp2_with (fail)
      refine (c1.out _).mono ?_; rintro e w1 ⟨v1, rfl, hown, hb1⟩
      obtain ⟨A1, k1, rfl, -, -⟩ := hown.slice
      have hr1 := Lib.hid hown.reads
      clear hown
      go_wp2_with (fail)
      refine (c2.out _ _ _ _ hr1.out).mono ?_; rintro e w2 ⟨rfl, rfl⟩
      go_wp2_with (fail)
      refine (c3.out _ hb1).mono ?_; rintro e w3 ⟨rfl, hb3⟩
      have B3 := bt hb1 hb3
      go_wp2_with (fail)
      refine (c4.out _ B3).mono ?_; rintro e w4 ⟨rfl, hb4⟩
      have B4 := bt B3 hb4
      go_wp2_with (fail)
      refine (c5.out _ B4).mono ?_; rintro e w5 ⟨rfl, hb5⟩
      have B5 := bt B4 hb5
      go_wp2_with (fail)
      refine (c6.out _ B5).mono ?_; rintro e w6 ⟨rfl, hb6⟩
      have B6 := bt B5 hb6
      go_wp2_with (fail)
      refine (cA.out _ B6).mono ?_; rintro e w7 ⟨rfl, hb7⟩
      go_wp2
      go_ret
      exact ⟨rfl, bt B6 hb7⟩
    · have hP : parse9 t = (0, 90) := by unfold parse9 parseS; rw [if_neg hp]
      rw [hP] at c5
      clear hP hp
      go_enter Tryd.func6, Tryd.ntmps6
      go_wp2_with (fail)
      refine (c1.out _).mono ?_; rintro e w1 ⟨v1, rfl, hown, hb1⟩
      obtain ⟨A1, k1, rfl, -, -⟩ := hown.slice
      have hr1 := Lib.hid hown.reads
      clear hown
      go_wp2_with (fail)
      refine (c2.out _ _ _ _ hr1.out).mono ?_; rintro e w2 ⟨rfl, rfl⟩
      go_wp2_with (fail)
      refine (c3.out _ hb1).mono ?_; rintro e w3 ⟨rfl, hb3⟩
      have B3 := bt hb1 hb3
      go_wp2_with (fail)
      refine (c4.out _ B3).mono ?_; rintro e w4 ⟨rfl, hb4⟩
      have B4 := bt B3 hb4
      go_wp2_with (fail)
      refine (c5.out _ B4).mono ?_; rintro e w5 ⟨rfl, hb5⟩
      have B5 := bt B4 hb5
      go_wp2_with (fail)
      refine (cA.out _ B5).mono ?_; rintro e w7 ⟨rfl, hb7⟩
      go_wp2
      go_ret
      exact ⟨rfl, bt B5 hb7⟩
set_option maxHeartbeats 2000000 in
set_option maxRecDepth 100000 in
theorem nodesetParts_walk (s : Nat) (n : Int) (w : World) (hs : s < M64) (hE : Env9 w) :
    Calls Tryd.prog 7 #[.int .u64 s, .int .i64 n] w fun e w' => e = .returned (.bool true) ∧ Below w.heap.size w w' := by
  have cA := Lib.hid (fun v hv => awake09_any v (hE.below hv))
  have c1 := Lib.hid (fun v => lowest_any s n v hs)
  have c2 := Lib.hid (fun v => cnt09_any s v hs)
  have hl64 := memL_len s
  by_cases h : n < 0 ∨ ((memL s).length : Int) < n
  · have e1 : lowP s n = (0, false) := by unfold lowP; rw [if_pos h]
    rw [e1] at c1
    obtain ⟨c, hc⟩ : ∃ c, Hid ((memL s).length = c) := ⟨_, rfl⟩
    rw [hc.out] at c2 hl64 h
    clear e1
    by_cases h0 : n < 0
    · have t0 : decide (n < 0) = true := by simpa using h0
      clear h h0
      go_enter Tryd.func7, Tryd.ntmps7
      go_wp2_with (fail)
      refine (c1.out _).mono ?_; rintro e w1 ⟨rfl, rfl⟩
      go_wp2_with (fail)
      refine (cA.out _ (Below.refl _ _)).mono ?_; rintro e w5 ⟨rfl, hb5⟩
      go_wp2
      go_ret
      exact ⟨rfl, hb5⟩
    · have t0 : decide (n < 0) = false := by simpa using h0
      have t2 : decide ((c : Int) < n) = true := by simp; omega
      clear h h0
      go_enter Tryd.func7, Tryd.ntmps7
      go_wp2_with (fail)
      refine (c1.out _).mono ?_; rintro e w1 ⟨rfl, rfl⟩
      go_wp2_with (fail)
      refine (c2.out _).mono ?_; rintro e w1 ⟨rfl, rfl⟩
      go_wp2_with (fail)
      refine (cA.out _ (Below.refl _ _)).mono ?_; rintro e w5 ⟨rfl, hb5⟩
      go_wp2
      go_ret
      exact ⟨rfl, hb5⟩
  · obtain ⟨m, rfl⟩ : ∃ m : Nat, n = (m : Int) := ⟨n.toNat, by omega⟩
    have hm : m ≤ (memL s).length := by omega
    have e1 : lowP s m = (lowS s m, true) := by unfold lowP; rw [if_neg h]; simp
    have c3 := Lib.hid (fun v => highest_any s (((memL s).length : Int) - (m : Int)) v hs)
    have e2 : highP s (((memL s).length : Int) - (m : Int)) = (highS s ((memL s).length - m), true) := by
      unfold highP
      rw [if_neg (by omega)]
      congr 2; omega
    obtain ⟨f1, f2, f3, f4⟩ := parts_facts hs hm
    have l1 := lowS_lt s m
    have l2 := highS_lt s ((memL s).length - m)
    rw [e1] at c1
    rw [e2] at c3
    clear e1 e2
    obtain ⟨lo, hlo⟩ : ∃ q, lowS s m = q := ⟨_, rfl⟩
    obtain ⟨hi, hhi⟩ : ∃ q, highS s ((memL s).length - m) = q := ⟨_, rfl⟩
    rw [hlo] at c1 f1 f2 f3 f4 l1
    rw [hhi] at c3 f1 f2 f4 l2
    clear hlo hhi
    have c4 := Lib.hid (fun v => cnt09_any lo v l1)
    rw [f3] at c4
    obtain ⟨c, hc⟩ : ∃ c, Hid ((memL s).length = c) := ⟨_, rfl⟩
    rw [hc.out] at c2 c3 hl64 h hm
    have k1 : bits .and .u64 (lo : Int) (hi : Int) = 0 := by rw [and64 l1 l2, f1]; rfl
    have k2 : bits .or .u64 (lo : Int) (hi : Int) = (s : Int) := by rw [or64 l1 l2, f2]
    clear f1 f2 f3 h
    by_cases z1 : lo = 0
    · subst z1
      clear f4
      go_enter Tryd.func7, Tryd.ntmps7
      go_wp2_with (fail)
      refine (c1.out _).mono ?_; rintro e w1 ⟨rfl, rfl⟩
      go_wp2_with (fail)
      refine (c2.out _).mono ?_; rintro e w1 ⟨rfl, rfl⟩
      go_wp2_with (fail)
      refine (c3.out _).mono ?_; rintro e w1 ⟨rfl, rfl⟩
      go_wp2_with (fail)
      refine (c4.out _).mono ?_; rintro e w1 ⟨rfl, rfl⟩
      go_wp2_with (fail)
      refine (cA.out _ (Below.refl _ _)).mono ?_; rintro e w5 ⟨rfl, hb5⟩
      go_wp2
      go_ret
      exact ⟨rfl, hb5⟩
    · have t3 : ((lo : Int) == 0) = false := by simp; omega
      by_cases z2 : hi = 0
      · subst z2
        clear f4
        go_enter Tryd.func7, Tryd.ntmps7
        go_wp2_with (fail)
        refine (c1.out _).mono ?_; rintro e w1 ⟨rfl, rfl⟩
        go_wp2_with (fail)
        refine (c2.out _).mono ?_; rintro e w1 ⟨rfl, rfl⟩
        go_wp2_with (fail)
        refine (c3.out _).mono ?_; rintro e w1 ⟨rfl, rfl⟩
        go_wp2_with (fail)
        refine (c4.out _).mono ?_; rintro e w1 ⟨rfl, rfl⟩
        go_wp2_with (fail)
        refine (cA.out _ (Below.refl _ _)).mono ?_; rintro e w5 ⟨rfl, hb5⟩
        go_wp2
        go_ret
        exact ⟨rfl, hb5⟩
      · have t4 : ((hi : Int) == 0) = false := by simp; omega
        have f5 := f4 z2
        obtain ⟨P, hP⟩ : ∃ P, hi &&& (M64 - hi) = P := ⟨_, rfl⟩
        rw [hP] at f5
        have k3 : IntKind.u64.wrap (-(hi : Int)) = ((M64 - hi : Nat) : Int) := by rw [M64_is] at l2 ⊢; rw [IntKind.wrap_u64]; omega
        have k4 : bits .and .u64 (hi : Int) ((M64 - hi : Nat) : Int) = (P : Int) := by rw [and64 l2 (by omega), hP]
        have k5 : bits .and .u64 (hi : Int) (IntKind.u64.wrap (-(hi : Int))) = (P : Int) := by rw [k3, k4]
        have t5 : decide ((lo : Int) < (P : Int)) = true := by simp; omega
        have t5' : decide (lo < P) = true := by simp; omega
        clear f4 f5 k3 k4 z1 z2 hP
        go_enter Tryd.func7, Tryd.ntmps7
        go_wp2_with (fail)
        refine (c1.out _).mono ?_; rintro e w1 ⟨rfl, rfl⟩
        go_wp2_with (fail)
        refine (c2.out _).mono ?_; rintro e w1 ⟨rfl, rfl⟩
        go_wp2_with (fail)
        refine (c3.out _).mono ?_; rintro e w1 ⟨rfl, rfl⟩
        go_wp2_with (fail)
        refine (c4.out _).mono ?_; rintro e w1 ⟨rfl, rfl⟩
        go_wp2_with (fail)
        refine (cA.out _ (Below.refl _ _)).mono ?_; rintro e w5 ⟨rfl, hb5⟩
        go_wp2
        go_ret
        exact ⟨rfl, hb5⟩
end Go.Proofs.YtplneobjdpdlhaaDoor
