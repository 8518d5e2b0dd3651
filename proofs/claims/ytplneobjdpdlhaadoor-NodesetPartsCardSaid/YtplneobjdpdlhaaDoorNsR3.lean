/- Layer 9: the reference's Lowest, Highest, SameInts walked. -/
import Derived.Test.YtplneobjdpdlhaaDoorNsR2
import Derived.Test.YtplneobjdpdlhaaDoorNsW3
namespace Go.Proofs.YtplneobjdpdlhaaDoor
set_option linter.unusedVariables false
open Go.RowKit
theorem ints_drop (l : List Int) (k : Nat) : (ints l).drop k = ints (l.drop k) := by simp [ints, List.map_drop]
theorem ints_take (l : List Int) (k : Nat) : (ints l).take k = ints (l.take k) := by simp [ints, List.map_take]
theorem natI_drop (l : List Nat) (k : Nat) : (natI l).drop k = natI (l.drop k) := by simp [natI, List.map_drop]
theorem natI_take (l : List Nat) (k : Nat) : (natI l).take k = natI (l.take k) := by simp [natI, List.map_take]
theorem Reads.pre1 {w : World} {B n : Nat} {A : Option Addr} {xs : List Value} (h : Reads w B 1 A n xs) {k : Nat} (hk : k ≤ n) : Reads w B 1 A k (xs.take k) := by
  refine ⟨by rw [List.length_take, h.1]; omega, fun h0 => ?_⟩
  obtain ⟨ad, e, hb, hc⟩ := h.2 (by omega)
  refine ⟨ad, e, hb, fun j u hu => hc j u ?_⟩
  rw [List.getElem?_take] at hu
  split at hu
  · exact hu
  · cases hu
theorem elemI : Tryd.prog.elem 22 = 3 := by kernel_rfl
theorem sizeI (v : World) : (sizeOf (Tryd.prog.elem 22)).run Tryd.prog v = .ok 1 v := by rw [elemI]; exact Tryd.sizeOf3 v
set_option maxRecDepth 1000000 in
theorem cut_lo {w : World} {B n c : Nat} {A : Option Addr} {l : List Nat} (h : Reads w B 1 A n (ints (natI l))) (hcap : n ≤ c) {i : Nat} (hi : i ≤ n) :
    ∃ A' c', (∀ v : World, (Instr.slice 22 (.slice A n c) (some (.int .i64 (i : Int))) none none).run Tryd.prog v = .ok (.slice A' (n - i) c') v) ∧
      (∀ v : World, (Instr.sliceAt 22 (.slice A n c) (some (.int .i64 (i : Int))) none none).run Tryd.prog v = .ok (.slice A' (n - i) c') v) ∧
      Reads w B 1 A' (n - i) (ints (natI (l.drop i))) := by
  have h1 : ∀ v : World, (Instr.slice 22 (.slice A n c) (some (.int .i64 (i : Int))) none none).run Tryd.prog v = .ok (.slice (if c = i then A else A.map (·.add (i * 1))) (n - i) (c - i)) v := by
    intro v
    rw [run_slice_l v 22 A n c Tryd.underlying22 .i64 (i : Int) (by omega) (by omega), sizeI v]
    simp [Result.andThen, sliced]
  refine ⟨_, _, h1, fun v => ?_, ?_⟩
  · rw [run_sliceAt_slice v _ _ _ _ _ Tryd.underlying22]; exact h1 v
  · have := h.cut hi hcap
    rw [Nat.mul_one] at this ⊢
    rw [ints_drop, natI_drop] at this
    exact this
set_option maxRecDepth 1000000 in
theorem cut_hi {w : World} {B n c : Nat} {A : Option Addr} {l : List Nat} (h : Reads w B 1 A n (ints (natI l))) (hcap : n ≤ c) {i : Nat} (hi : i ≤ n) :
    ∃ A' c', (∀ v : World, (Instr.slice 22 (.slice A n c) none (some (.int .i64 (i : Int))) none).run Tryd.prog v = .ok (.slice A' i c') v) ∧
      (∀ v : World, (Instr.sliceAt 22 (.slice A n c) none (some (.int .i64 (i : Int))) none).run Tryd.prog v = .ok (.slice A' i c') v) ∧
      Reads w B 1 A' i (ints (natI (l.take i))) := by
  have h1 : ∀ v : World, (Instr.slice 22 (.slice A n c) none (some (.int .i64 (i : Int))) none).run Tryd.prog v = .ok (.slice (if c = 0 then A else A.map (·.add (0 * 1))) i c) v := by
    intro v
    rw [run_slice_h v 22 A n c Tryd.underlying22 .i64 (i : Int) (by omega) (by omega), sizeI v]
    simp [Result.andThen, sliced]
  refine ⟨_, _, h1, fun v => ?_, ?_⟩
  · rw [run_sliceAt_slice v _ _ _ _ _ Tryd.underlying22]; exact h1 v
  · have h2 := (h.cut (Nat.zero_le n) hcap).pre1 (k := i) (by omega)
    rw [Nat.zero_mul] at h2 ⊢
    rw [List.drop_zero, ints_take, natI_take] at h2
    exact h2
theorem rlow_no (s : Nat) (n : Int) (w : World) (hs : s < M64) (h : n < 0 ∨ ((memL s).length : Int) < n) :
    Calls Tryd.prog 20 #[.int .u64 s, .int .i64 n] w fun e w' => e = .returned (.tuple #[.int .u64 0, .bool false]) ∧ Below w.heap.size w w' := by
  have hc := Lib.hid (fun v => rlist_any s v hs)
  by_cases h0 : n < 0
  · have t0 : decide (n < 0) = true := by simpa using h0
    clear h h0
    go_enter Tryd.func20, Tryd.ntmps20
    go_wp2_with (go_at_call 11; refine (hc.out _).mono ?_; rintro e w1 ⟨v, rfl, hown, hb1⟩; obtain ⟨A, cc, rfl, -, -⟩ := hown.slice; clear hown)
    go_ret2
    exact ⟨rfl, hb1⟩
  · have t0 : decide (n < 0) = false := by simpa using h0
    have t1 : decide (((memL s).length : Int) < n) = true := by simp; omega
    obtain ⟨N, hN⟩ : ∃ N : Nat, Hid ((memL s).length = N) := ⟨_, rfl⟩
    rw [hN.out] at t1
    clear h h0
    go_enter Tryd.func20, Tryd.ntmps20
    go_wp2_with (go_at_call 11; refine (hc.out _).mono ?_; rintro e w1 ⟨v, rfl, hown, hb1⟩; obtain ⟨A, cc, rfl, -, -⟩ := hown.slice; rw [hN.out]; clear hown)
    go_ret2
    exact ⟨rfl, hb1⟩
theorem rlow_yes (s n : Nat) (w : World) (hs : s < M64) (h : n ≤ (memL s).length) :
    Calls Tryd.prog 20 #[.int .u64 s, .int .i64 n] w fun e w' => e = .returned (.tuple #[.int .u64 ((lowS s n : Nat) : Int), .bool true]) ∧ Below w.heap.size w w' := by
  have hc := Lib.hid (fun v => rlist_any s v hs)
  have hset := Lib.hid (fun (A : Option Addr) (c B : Nat) (v : World) (hr : Reads v B 1 A n (ints (natI ((memL s).take n)))) => rset_any A n c B ((memL s).take n) v hr (by have := memL_len s; omega) (fun i hi => memL_lt s i (List.mem_of_mem_take hi)))
  obtain ⟨R, hR⟩ : ∃ R : Nat, Hid (lowS s n = R) := ⟨_, rfl⟩
  have hR2 : setL ((memL s).take n) = R := hR.out
  rw [hR2] at hset
  rw [hR.out]
  obtain ⟨L, hL⟩ : ∃ L, Hid (memL s = L) := ⟨_, rfl⟩
  rw [hL.out] at h hset hc
  obtain ⟨N, hN⟩ : ∃ N : Nat, Hid (L.length = N) := ⟨_, rfl⟩
  rw [hN.out] at h
  have t0 : decide (n < 0) = false := by simp
  have t0' : decide ((n : Int) < 0) = false := by simp
  have t1 : decide (N < n) = false := by simp; omega
  have t1' : decide ((N : Int) < (n : Int)) = false := by simp; omega
  have hh := Lib.hid h
  clear h hR2
  go_enter Tryd.func20, Tryd.ntmps20
  go_wp2_with (first
    | (go_at_call 11; refine (hc.out _).mono ?_; rintro e w1 ⟨v, rfl, hown, hb1⟩
       rw [hN.out] at hown; obtain ⟨A, cc, rfl, hcap, -⟩ := hown.slice
       obtain ⟨A', c', s1, s2, hr'⟩ := cut_hi hown.reads hcap hh.out
       have hr2 := Lib.hid hr'; clear hown hr')
    | (go_at_call 28; refine (hset.out _ _ _ _ hr2.out).mono ?_; rintro e w2 ⟨rfl, rfl⟩))
  go_ret2
  exact ⟨rfl, hb1⟩
theorem rlow_any (s : Nat) (n : Int) (w : World) (hs : s < M64) : Calls Tryd.prog 20 #[.int .u64 s, .int .i64 n] w fun e w' => e = .returned (.tuple #[.int .u64 (lowP s n).1, .bool (lowP s n).2]) ∧ Below w.heap.size w w' := by
  by_cases h : n < 0 ∨ ((memL s).length : Int) < n
  · have e : lowP s n = (0, false) := by unfold lowP; rw [if_pos h]
    rw [e]; exact rlow_no s n w hs h
  · obtain ⟨m, rfl⟩ := Int.eq_ofNat_of_zero_le (show 0 ≤ n by omega)
    have e : lowP s m = (lowS s m, true) := by unfold lowP; rw [if_neg h]; simp
    rw [e]; exact rlow_yes s m w hs (by omega)
theorem rhigh_no (s : Nat) (n : Int) (w : World) (hs : s < M64) (h : n < 0 ∨ ((memL s).length : Int) < n) :
    Calls Tryd.prog 22 #[.int .u64 s, .int .i64 n] w fun e w' => e = .returned (.tuple #[.int .u64 0, .bool false]) ∧ Below w.heap.size w w' := by
  have hc := Lib.hid (fun v => rlist_any s v hs)
  by_cases h0 : n < 0
  · have t0 : decide (n < 0) = true := by simpa using h0
    clear h h0
    go_enter Tryd.func22, Tryd.ntmps22
    go_wp2_with (go_at_call 11; refine (hc.out _).mono ?_; rintro e w1 ⟨v, rfl, hown, hb1⟩; obtain ⟨A, cc, rfl, -, -⟩ := hown.slice; clear hown)
    go_ret2
    exact ⟨rfl, hb1⟩
  · have t0 : decide (n < 0) = false := by simpa using h0
    have t1 : decide (((memL s).length : Int) < n) = true := by simp; omega
    obtain ⟨N, hN⟩ : ∃ N : Nat, Hid ((memL s).length = N) := ⟨_, rfl⟩
    rw [hN.out] at t1
    clear h h0
    go_enter Tryd.func22, Tryd.ntmps22
    go_wp2_with (go_at_call 11; refine (hc.out _).mono ?_; rintro e w1 ⟨v, rfl, hown, hb1⟩; obtain ⟨A, cc, rfl, -, -⟩ := hown.slice; rw [hN.out]; clear hown)
    go_ret2
    exact ⟨rfl, hb1⟩
theorem rhigh_yes (s n : Nat) (w : World) (hs : s < M64) (h : n ≤ (memL s).length) :
    Calls Tryd.prog 22 #[.int .u64 s, .int .i64 n] w fun e w' => e = .returned (.tuple #[.int .u64 ((highS s n : Nat) : Int), .bool true]) ∧ Below w.heap.size w w' := by
  have hc := Lib.hid (fun v => rlist_any s v hs)
  have hset := Lib.hid (fun (A : Option Addr) (c B : Nat) (v : World) (hr : Reads v B 1 A n (ints (natI ((memL s).drop ((memL s).length - n))))) => rset_any A n c B ((memL s).drop ((memL s).length - n)) v hr (by have := memL_len s; omega) (fun i hi => memL_lt s i (List.mem_of_mem_drop hi)))
  obtain ⟨R, hR⟩ : ∃ R : Nat, Hid (highS s n = R) := ⟨_, rfl⟩
  have hR2 : setL ((memL s).drop ((memL s).length - n)) = R := hR.out
  rw [hR2] at hset
  rw [hR.out]
  obtain ⟨L, hL⟩ : ∃ L, Hid (memL s = L) := ⟨_, rfl⟩
  have hN64 : (memL s).length ≤ 64 := memL_len s
  rw [hL.out] at h hset hc hN64
  obtain ⟨N, hN⟩ : ∃ N : Nat, Hid (L.length = N) := ⟨_, rfl⟩
  rw [hN.out] at h hset hN64
  have k3 : (N : Int) - (n : Int) = ((N - n : Nat) : Int) := by omega
  have e3 : N - (N - n) = n := by omega
  have K3 := Lib.hid k3
  have E3 := Lib.hid e3
  have hb0 : (0 : Int) ≤ (N : Int) - (n : Int) := by omega
  have hb1' : (N : Int) - (n : Int) ≤ (N : Int) := by omega
  have t0 : decide (n < 0) = false := by simp
  have t0' : decide ((n : Int) < 0) = false := by simp
  have t1 : decide (N < n) = false := by simp; omega
  have t1' : decide ((N : Int) < (n : Int)) = false := by simp; omega
  have hh := Lib.hid h
  clear h hR2 k3 e3
  go_enter Tryd.func22, Tryd.ntmps22
  go_wp2_with (first
    | (go_at_call 11; refine (hc.out _).mono ?_; rintro e w1 ⟨v, rfl, hown, hb1⟩
       rw [hN.out] at hown; obtain ⟨A, cc, rfl, hcap, -⟩ := hown.slice
       obtain ⟨A', c', s1, s2, hr'⟩ := cut_lo hown.reads hcap (i := N - n) (Nat.sub_le _ _)
       rw [E3.out, ← K3.out] at s1 s2; rw [E3.out] at hr'
       have hr2 := Lib.hid hr'; clear hown hr')
    | (go_at_call 28; refine (hset.out _ _ _ _ hr2.out).mono ?_; rintro e w2 ⟨rfl, rfl⟩))
  go_ret2
  exact ⟨rfl, hb1⟩
theorem rhigh_any (s : Nat) (n : Int) (w : World) (hs : s < M64) : Calls Tryd.prog 22 #[.int .u64 s, .int .i64 n] w fun e w' => e = .returned (.tuple #[.int .u64 (highP s n).1, .bool (highP s n).2]) ∧ Below w.heap.size w w' := by
  by_cases h : n < 0 ∨ ((memL s).length : Int) < n
  · have e : highP s n = (0, false) := by unfold highP; rw [if_pos h]
    rw [e]; exact rhigh_no s n w hs h
  · obtain ⟨m, rfl⟩ := Int.eq_ofNat_of_zero_le (show 0 ≤ n by omega)
    have e : highP s m = (highS s m, true) := by unfold highP; rw [if_neg h]; simp
    rw [e]; exact rhigh_yes s m w hs (by omega)
theorem rsame_any (A A2 : Option Addr) (n m c c2 B : Nat) (l l2 : List Int) (w : World) (hr : Reads w B 1 A n (ints l)) (hr2 : Reads w B 1 A2 m (ints l2)) (hn : n ≤ 1000000) (hm : m ≤ 1000000) (hB : B ≤ w.heap.size) :
    Calls Tryd.prog 12 #[.slice A n c, .slice A2 m c2] w fun e w' => e = .returned (.bool (decide (l = l2))) ∧ Below w.heap.size w w' := by
  have hlen : Hid (l.length = n) := hr.len
  have hlen2 : Hid (l2.length = m) := hr2.len
  obtain ⟨R, hR⟩ : ∃ R, Hid (decide (l = l2) = R) := ⟨_, rfl⟩
  rw [hR.out]
  by_cases hnm : n = m
  · subst hnm
    have t0 : ((n : Int) != (n : Int)) = false := by simp
    go_enter Tryd.func12, Tryd.ntmps12
    go_wp2
    go_loopw [5] (fun i wr => ∃ (k p : Nat), k ≤ n ∧ i = .int .i64 k ∧ wr = w.drewN p ∧ Hid (l.take k = l2.take k)) (fun i _ => n - (intOf i).toNat)
    case atStart => exact ⟨0, 0, Nat.zero_le _, rfl, rfl, by show _ = _; simp⟩
    case round =>
      obtain ⟨k, p, hk, rfl, rfl, HO⟩ := hrel
      by_cases hlt : k < n
      · obtain ⟨b, o, x, rfl, hbb, hx, c0⟩ := hr.num_at hlt
        obtain ⟨b2, o2, y, rfl, hbb2, hy, d0⟩ := hr2.num_at hlt
        have hj0 : (0 : Int) ≤ (k : Int) := by omega
        have hj1 : (k : Int) < (n : Int) := by omega
        clear hr hr2
        by_cases hxy : x = y
        · have HO2 : Hid (l.take (k + 1) = l2.take (k + 1)) := by show _ = _; rw [take_snocN hx.out, take_snocN hy.out, HO.out, hxy]
          have t3 : (x != y) = false := by simpa using hxy
          clear hxy
          go_wp2
          go_quiet (fail)
          go_wp2
          go_roundw
          case rel => exact ⟨k + 1, _, by omega, by go_num, by first | rfl | exact World.drewN_drewN _ _ _, HO2⟩
          case measure => simp [intOf]; omega
        · have hF : Hid (R = false) := by
            show _ = _
            rw [← hR.out]
            simp only [decide_eq_false_iff_not]
            intro e
            have := hx.out.symm.trans ((congrArg (fun z => z[k]?) e).trans hy.out)
            exact hxy (by simpa using this)
          have t3 : (x != y) = true := by simpa using hxy
          clear hxy
          go_wp2
          go_quiet (fail)
          go_wp2
          go_ret
          rw [hF.out]
          exact ⟨rfl, below_drewN (below_drewN (Below.refl _ _) _) _⟩
      · have hT : Hid (R = true) := by
          show _ = _
          rw [← hR.out]
          have h1 := HO.out
          rw [List.take_of_length_le (by rw [hlen.out]; omega), List.take_of_length_le (by rw [hlen2.out]; omega)] at h1
          simpa using h1
        clear hr hr2
        go_wp2
        go_ret
        rw [hT.out]
        exact ⟨rfl, below_drewN (Below.refl _ _) _⟩
  · have hF : Hid (R = false) := by
      show _ = _
      rw [← hR.out]
      simp only [decide_eq_false_iff_not]
      intro e
      have := congrArg List.length e
      rw [hlen.out, hlen2.out] at this
      exact hnm this
    have t0 : ((n : Int) != (m : Int)) = true := by simp; omega
    clear hr hr2 hnm
    go_enter Tryd.func12, Tryd.ntmps12
    go_wp2
    go_ret
    rw [hF.out]
    exact ⟨rfl, Below.refl _ _⟩
end Go.Proofs.YtplneobjdpdlhaaDoor
