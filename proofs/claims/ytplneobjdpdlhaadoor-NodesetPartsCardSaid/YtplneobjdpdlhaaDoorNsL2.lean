/- Layer 9: the statements NodesetOf, NodesetEnds, NodesetTexts walked. -/
import Derived.Test.YtplneobjdpdlhaaDoorNsL1
namespace Go.Proofs.YtplneobjdpdlhaaDoor
set_option linter.unusedVariables false
open Go.RowKit
theorem Reads.up {w : World} {B B' n size : Nat} {A : Option Addr} {xs : List Value} (h : Reads w B size A n xs) (hB : B ≤ B') : Reads w B' size A n xs :=
  ⟨h.1, fun h0 => let ⟨ad, e, hb, hc⟩ := h.2 h0; ⟨ad, e, Nat.lt_of_lt_of_le hb hB, hc⟩⟩
set_option maxHeartbeats 2000000 in
set_option maxRecDepth 100000 in
theorem nodesetEnds_walk (s : Nat) (n : Int) (w : World) (hs : s < M64) (hE : Env9 w) :
    Calls Tryd.prog 4 #[.int .u64 s, .int .i64 n] w fun e w' => e = .returned (.bool true) ∧ Below w.heap.size w w' := by
  have c1 := Lib.hid (fun v => lowest_any s n v hs)
  have c2 := Lib.hid (fun v => rlow_any s n v hs)
  have c3 := Lib.hid (fun v => highest_any s n v hs)
  have c4 := Lib.hid (fun v => rhigh_any s n v hs)
  have cA := Lib.hid (fun v hv => awake09_any v (hE.below hv))
  obtain ⟨⟨x, b⟩, hx⟩ : ∃ q, lowP s n = q := ⟨_, rfl⟩
  obtain ⟨⟨y, d⟩, hy⟩ : ∃ q, highP s n = q := ⟨_, rfl⟩
  rw [hx] at c1 c2
  rw [hy] at c3 c4
  clear hx hy
  go_enter Tryd.func4, Tryd.ntmps4
  go_wp2_with (fail)
  refine (c1.out _).mono ?_; rintro e w1 ⟨rfl, rfl⟩
  go_wp2_with (fail)
  refine (c2.out _).mono ?_; rintro e w2 ⟨rfl, hb2⟩
  go_wp2_with (fail)
  refine (c3.out _).mono ?_; rintro e w3 ⟨rfl, rfl⟩
  go_wp2_with (fail)
  refine (c4.out _).mono ?_; rintro e w4 ⟨rfl, hb4⟩
  have B4 := bt hb2 hb4
  go_wp2_with (fail)
  refine (cA.out _ B4).mono ?_; rintro e w5 ⟨rfl, hb5⟩
  go_wp2
  go_ret
  exact ⟨rfl, bt B4 hb5⟩
set_option maxHeartbeats 2000000 in
set_option maxRecDepth 100000 in
theorem nodesetTexts_walk (s : Nat) (t : ByteArray) (w : World) (hs : s < M64) (ht : t.size ≤ maxLen) (hE : Env9 w) :
    Calls Tryd.prog 5 #[.int .u64 s, .string t] w fun e w' => e = .returned (.bool true) ∧ Below w.heap.size w w' := by
  have cA := Lib.hid (fun v hv => awake09_any v (hE.below hv))
  by_cases h : 2000 < t.size
  · have t1 : decide ((2000 : Int) < (t.size : Int)) = true := by simp; omega
    have t1' : decide (2000 < t.size) = true := by simp; omega
    clear h
    go_enter Tryd.func5, Tryd.ntmps5
    go_wp2_with (fail)
    refine (cA.out _ (Below.refl _ _)).mono ?_; rintro e w5 ⟨rfl, hb5⟩
    go_wp2
    go_ret
    exact ⟨rfl, hb5⟩
  · have t1 : decide ((2000 : Int) < (t.size : Int)) = false := by simp; omega
    have t1' : decide (2000 < t.size) = false := by simp; omega
    have c1 := Lib.hid (parse9_any t w (by omega) hE.1 hE.2.1 hE.2.2)
    have c2 := Lib.hid (fun v => rparse_any t v (by omega))
    have c3 := Lib.hid (fun v hv => show_any s v hs (Env9.below hE hv).2.1 (Env9.below hE hv).2.2)
    have c4 := Lib.hid (fun v => rshow_any s v hs)
    obtain ⟨⟨x, b⟩, hx⟩ : ∃ q, parse9 t = q := ⟨_, rfl⟩
    obtain ⟨S, hS1, hS2, hS3⟩ := ba9 (showN s)
    rw [hx] at c1 c2
    rw [hS2.out] at c3 c4
    have te : (S.toList == S.toList) = true := beq_self_eq_true _
    clear hx h
    go_enter Tryd.func5, Tryd.ntmps5
    go_wp2_with (fail)
    refine c1.out.mono ?_; rintro e w1 ⟨rfl, hb1⟩
    go_wp2_with (fail)
    refine (c2.out _).mono ?_; rintro e w2 ⟨rfl, hb2⟩
    have B2 := bt hb1 hb2
    go_wp2_with (fail)
    refine (c3.out _ B2).mono ?_; rintro e w3 ⟨rfl, hb3⟩
    have B3 := bt B2 hb3
    go_wp2_with (fail)
    refine (c4.out _).mono ?_; rintro e w4 ⟨rfl, hb4⟩
    have B4 := bt B3 hb4
    go_wp2_with (fail)
    refine (cA.out _ B4).mono ?_; rintro e w5 ⟨rfl, hb5⟩
    go_wp2
    go_ret
    exact ⟨rfl, bt B4 hb5⟩
set_option maxHeartbeats 2000000 in
set_option maxRecDepth 100000 in
theorem nodesetOf_walk (A : Option Addr) (n c : Nat) (l : List Int) (s : Nat) (m : Int) (w : World) (hr : Reads w w.heap.size 1 A n (ints l)) (hn : n ≤ maxLen) (hs : s < M64) (hm : m ≤ 9223372036854775807) (hE : Env9 w) :
    Calls Tryd.prog 3 #[.slice A n c, .int .u64 s, .int .i64 m] w fun e w' => e = .returned (.bool true) ∧ Below w.heap.size w w' := by
  have cA := Lib.hid (fun v hv => awake09_any v (hE.below hv))
  by_cases h : 500 < n
  · have t1 : decide ((500 : Int) < (n : Int)) = true := by simp; omega
    have t1' : decide (500 < n) = true := by simp; omega
    clear h
    go_enter Tryd.func3, Tryd.ntmps3
    go_wp2_with (fail)
    refine (cA.out _ (Below.refl _ _)).mono ?_; rintro e w5 ⟨rfl, hb5⟩
    go_wp2
    go_ret
    exact ⟨rfl, hb5⟩
  · have t1 : decide ((500 : Int) < (n : Int)) = false := by simp; omega
    have t1' : decide (500 < n) = false := by simp; omega
    have c1 := Lib.hid (of_any A n c _ l w hr (by omega))
    have c2 := Lib.hid (rof_any A n c _ l w hr (by omega) (Nat.le_refl _))
    have c3 := Lib.hid (fun v => rlist_any s v hs)
    have c4 := Lib.hid (fun v => list09_any s v hs)
    have c5 := Lib.hid (fun v => cnt09_any s v hs)
    have c6 := Lib.hid (fun v => has_any s m v hs)
    have c7 := Lib.hid (fun v => rhas_any s m v hs)
    have c8 := Lib.hid (fun v => all_any m v hm)
    have c9 := Lib.hid (fun v => rall_any m v hm)
    have hl64 := memL_len s
    obtain ⟨⟨x, b⟩, hx⟩ : ∃ q, ofP l = q := ⟨_, rfl⟩
    rw [hx] at c1 c2
    obtain ⟨L, hL⟩ : ∃ L, memL s = L := ⟨_, rfl⟩
    rw [hL] at c3 c4 c5 hl64
    obtain ⟨a, ha⟩ : ∃ a, allS m = a := ⟨_, rfl⟩
    rw [ha] at c8 c9
    obtain ⟨k, hk⟩ : ∃ k, hasP s m = k := ⟨_, rfl⟩
    rw [hk] at c6 c7
    clear hx h hL ha hk
    go_enter Tryd.func3, Tryd.ntmps3
    go_wp2_with (fail)
    refine c1.out.mono ?_; rintro e w1 ⟨rfl, rfl⟩
    go_wp2_with (fail)
    refine c2.out.mono ?_; rintro e w2 ⟨rfl, hb2⟩
    go_wp2_with (fail)
    refine (c3.out _).mono ?_; rintro e w3 ⟨v3, rfl, hown3, hb3⟩
    obtain ⟨A3, k3, rfl, -, -⟩ := hown3.slice
    have hr3 := hown3.reads
    have B3 := bt hb2 hb3
    go_wp2_with (fail)
    refine (c4.out _).mono ?_; rintro e w4 ⟨v4, rfl, hown4, hb4⟩
    obtain ⟨A4, k4, rfl, -, -⟩ := hown4.slice
    have B4 := bt B3 hb4
    have c10 := Lib.hid (rsame_any A4 A3 L.length L.length k4 k3 _ (natI L) (natI L) w4 hown4.reads (Reads.up (hr3.below hb4) hb4.size) (by omega) (by omega) (Nat.le_refl _))
    have e10 : decide (natI L = natI L) = true := by simp
    rw [e10] at c10
    clear hown3 hown4 hr3 e10
    go_wp2_with (fail)
    refine c10.out.mono ?_; rintro e w5 ⟨rfl, hb5⟩
    have B5 := bt B4 hb5
    go_wp2_with (fail)
    refine (c5.out _).mono ?_; rintro e w6 ⟨rfl, rfl⟩
    go_wp2_with (fail)
    refine (c6.out _).mono ?_; rintro e w6 ⟨rfl, rfl⟩
    go_wp2_with (fail)
    refine (c7.out _).mono ?_; rintro e w6 ⟨rfl, rfl⟩
    go_wp2_with (fail)
    refine (c8.out _).mono ?_; rintro e w7 ⟨rfl, rfl⟩
    go_wp2_with (fail)
    refine (c9.out _).mono ?_; rintro e w8 ⟨rfl, hb8⟩
    have B8 := bt B5 hb8
    go_wp2_with (fail)
    refine (cA.out _ B8).mono ?_; rintro e w9 ⟨rfl, hb9⟩
    go_wp2
    go_ret
    exact ⟨rfl, bt B8 hb9⟩
end Go.Proofs.YtplneobjdpdlhaaDoor
