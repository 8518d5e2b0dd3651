/- Layer 7: Same walked. -/
import Derived.Test.YtfnmmbfngniheaaGreatDoorShW1
import Derived.Laws.StructEq
import Derived.Deep.QuietTactic
namespace Go.Proofs.YtfnmmbfngniheaaGreatDoor
set_option linter.unusedVariables false
open Go.RowKit
set_option maxRecDepth 100000 in
theorem prA_equalIn (x y : Pr) (v : World) : (Op.equalIn 10000 114 (.agg #[.int .i64 x.1, .int .i64 x.2]) (.agg #[.int .i64 y.1, .int .i64 y.2])).run Tryz.prog v = .ok (decide (x = y)) v := by
  rw [run_equalIn_agg v _ _ _ _ (by kernel_rfl) (by kernel_rfl)]
  have e : (Tryz.prog.fieldsOf 114).toList = [{ name := "Nodes", type := 3, offset := 0, embedded := false, tag := "", pkgPath := "", byteOffset := 0 }, { name := "Wall", type := 3, offset := 1, embedded := false, tag := "", pkgPath := "", byteOffset := 8 }] := by kernel_rfl
  rw [e]
  obtain ⟨x1, x2⟩ := x
  obtain ⟨y1, y2⟩ := y
  simp [go_sem, Op.eqFields]
  repeat' split
  all_goals simp_all
theorem prA_neq (x y : Pr) (v : World) : (binOp .neq 114 (.agg #[.int .i64 x.1, .int .i64 x.2]) (.agg #[.int .i64 y.1, .int .i64 y.2])).run Tryz.prog v = .ok (.bool (!decide (x = y))) v := by
  rw [run_neq_struct, prA_equalIn]; rfl
set_option maxHeartbeats 1000000 in
theorem equalA_any (A A2 : Option Addr) (n m c c2 B : Nat) (l l2 : List Pr) (w : World) (hr : Reads w B 2 A n (recs prC l)) (hr2 : Reads w B 2 A2 m (recs prC l2)) (hn : n ≤ 1000000) (hm : m ≤ 1000000) (hB : B ≤ w.heap.size) :
    Calls Tryz.prog 147 #[.slice A n c, .slice A2 m c2] w fun e w' => e = .returned (.bool (decide (l = l2))) ∧ Below w.heap.size w w' := by
  have hlen : Hid (l.length = n) := hr.rec_len prC_len (by omega)
  have hlen2 : Hid (l2.length = m) := hr2.rec_len prC_len (by omega)
  obtain ⟨R, hR⟩ : ∃ R, Hid (decide (l = l2) = R) := ⟨_, rfl⟩
  rw [hR.out]
  by_cases hnm : n = m
  · subst hnm
    have t0 : ((n : Int) != (n : Int)) = false := by simp
    go_enter Tryz.func147, Tryz.ntmps147
    go_wp2
    go_loopw [5, 13] (fun _ i wr => ∃ (k p : Nat), k ≤ n ∧ i = .int .i64 k ∧ wr = w.drewN p ∧ Hid (l.take k = l2.take k)) (fun _ i _ => n - (intOf i).toNat)
    case atStart => exact ⟨0, 0, Nat.zero_le _, rfl, rfl, by show _ = _; simp⟩
    case round =>
      obtain ⟨k, p, hk, rfl, rfl, HO⟩ := hrel
      by_cases hlt : k < n
      · have t1 : decide ((k : Int) < (n : Int)) = true := by simp; omega
        obtain ⟨b, o, x, rfl, hbb, hx, c0, c1⟩ := hr.pr_at hlt
        obtain ⟨b2, o2, y, rfl, hbb2, hy, d0, d1⟩ := hr2.pr_at hlt
        have hj0 : (0 : Int) ≤ (k : Int) := by omega
        have hj1 : (k : Int) < (n : Int) := by omega
        have hneq := fun v => prA_neq x y v
        by_cases hxy : x = y
        · have e : decide (x = y) = true := decide_eq_true hxy
          rw [e] at hneq
          have HO2 : Hid (l.take (k + 1) = l2.take (k + 1)) := by
            show _ = _
            rw [List.take_add_one, List.take_add_one, hx.out, hy.out, HO.out, hxy]
          clear e hxy hr hr2
          go_wp2
          go_quiet (fail)
          go_wp2
          go_roundw
          case rel => exact ⟨k + 1, _, by omega, by go_num, by first | rfl | exact World.drewN_drewN _ _ _, HO2⟩
          case measure => simp [intOf]; omega
        · have e : decide (x = y) = false := decide_eq_false hxy
          rw [e] at hneq
          have HR : Hid (R = false) := by
            show _ = _
            rw [← hR.out]
            refine decide_eq_false (fun hl => hxy ?_)
            have h1 := hx.out
            rw [hl, hy.out] at h1
            exact (Option.some.inj h1).symm
          clear e hxy hr hr2
          go_wp2
          go_quiet (fail)
          go_wp2
          go_ret
          exact ⟨by rw [HR.out]; rfl, below_drewN (below_drewN (Below.refl _ _) _) _⟩
      · obtain rfl : k = n := by omega
        have t1 : decide ((k : Int) < (k : Int)) = false := by simp
        have HR : Hid (R = true) := by
          show _ = _
          rw [← hR.out]
          refine decide_eq_true ?_
          have h1 := HO.out
          rwa [List.take_of_length_le (by rw [hlen.out]; exact Nat.le_refl _), List.take_of_length_le (by rw [hlen2.out]; exact Nat.le_refl _)] at h1
        go_wp2
        go_ret
        exact ⟨by rw [HR.out]; rfl, below_drewN (Below.refl _ _) _⟩
  · have t0 : ((n : Int) != (m : Int)) = true := by simp; omega
    have HR : Hid (R = false) := by
      show _ = _
      rw [← hR.out]
      exact decide_eq_false (fun hl => hnm (by rw [← hlen.out, ← hlen2.out, hl]))
    clear hnm
    go_enter Tryz.func147, Tryz.ntmps147
    go_wp2
    go_ret
    exact ⟨by rw [HR.out]; rfl, Below.refl _ _⟩
set_option maxHeartbeats 1000000 in
theorem sameS_any (a b : Sh) (A A2 : Option Addr) (c c2 B : Nat) (w : World) (hr : Reads w B 2 A a.alts.length (recs prC a.alts)) (hr2 : Reads w B 2 A2 b.alts.length (recs prC b.alts)) (hn : a.alts.length ≤ 1000000) (hm : b.alts.length ≤ 1000000) (hB : B ≤ w.heap.size) :
    Calls Tryz.prog 80 #[shV a A c, shV b A2 c2] w fun e w' => e = .returned (.bool (sameS a b)) ∧ Below w.heap.size w w' := by
  have hc := Lib.hid (fun v (hv : Below w.heap.size w v) => equalA_any A A2 _ _ c c2 B a.alts b.alts v (hr.below (hv.mono hB)) (hr2.below (hv.mono hB)) hn hm (Nat.le_trans hB hv.size))
  unfold shV sameS
  obtain ⟨q, hq⟩ : ∃ q, decide (a.alts = b.alts) = q := ⟨_, rfl⟩
  rw [hq] at hc ⊢
  clear hq hr hr2
  obtain ⟨n, hnn⟩ : ∃ n, a.alts.length = n := ⟨_, rfl⟩
  obtain ⟨m, hmm⟩ : ∃ n, b.alts.length = n := ⟨_, rfl⟩
  rw [hnn, hmm] at hc ⊢
  obtain ⟨k1, l1, x1, y1, z1⟩ := a
  obtain ⟨k2, l2, x2, y2, z2⟩ := b
  dsimp only at hc ⊢
  clear hnn hmm hn hm
  cases t1 : k1 == k2
  · go_enter Tryz.func80, Tryz.ntmps80
    go_wp2
    go_ret
    exact ⟨rfl, ((Below.refl _ _).alloc (Nat.le_refl _) _).alloc (by simp) _⟩
  cases t2 : x1 == x2
  · go_enter Tryz.func80, Tryz.ntmps80
    go_wp2
    go_ret
    exact ⟨rfl, ((Below.refl _ _).alloc (Nat.le_refl _) _).alloc (by simp) _⟩
  cases t3 : y1 == y2
  · go_enter Tryz.func80, Tryz.ntmps80
    go_wp2
    go_ret
    exact ⟨rfl, ((Below.refl _ _).alloc (Nat.le_refl _) _).alloc (by simp) _⟩
  cases t4 : z1 == z2
  · go_enter Tryz.func80, Tryz.ntmps80
    go_wp2
    go_ret
    exact ⟨rfl, ((Below.refl _ _).alloc (Nat.le_refl _) _).alloc (by simp) _⟩
  have hbx := Lib.hid (((Below.refl w.heap.size w).alloc (Nat.le_refl _) (.cells #[.int .i64 k1, .slice A n c, .int .i64 x1, .int .i64 y1, .int .i64 z1] 24)).alloc (by simp) (.cells #[.int .i64 k2, .slice A2 m c2, .int .i64 x2, .int .i64 y2, .int .i64 z2] 24))
  go_enter Tryz.func80, Tryz.ntmps80
  go_wp2_with (fail)
  refine (hc.out _ hbx.out).mono ?_; rintro e w1 ⟨rfl, hb1⟩
  go_wp2
  go_ret
  exact ⟨rfl, bt hbx.out hb1⟩
end Go.Proofs.YtfnmmbfngniheaaGreatDoor
