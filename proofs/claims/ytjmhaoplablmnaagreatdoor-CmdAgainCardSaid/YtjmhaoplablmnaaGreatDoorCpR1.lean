/- Layer 8: the reference's Same walked (printed by a program of my own). -/
import Derived.Test.YtjmhaoplablmnaaGreatDoorCdW4
import Derived.Test.YtjmhaoplablmnaaGreatDoorQ1
import Derived.Test.YtjmhaoplablmnaaGreatDoorS3
import Derived.Deep.DeepCutAuto
namespace Go.Proofs.YtjmhaoplablmnaaGreatDoor
set_option linter.unusedVariables false
set_option linter.unusedSimpArgs false
open Go.RowKit
set_option maxHeartbeats 8000000 in
set_option maxRecDepth 100000 in
theorem rsame8_any (x y : Cm) (A A2 D D2 : Option Addr) (c c2 d d2 B : Nat) (w : World) (hx : CmAt w B x A c A2 c2) (hy : CmAt w B y D d D2 d2) (hB : B ≤ w.heap.size) :
    Calls Tryz.prog 14 #[cmV x A c A2 c2, cmV y D d D2 d2] w fun e w' => e = .returned (.bool (sameC x y)) ∧ Below w.heap.size w w' := by
  obtain ⟨R, hR⟩ : ∃ R, Hid (sameC x y = R) := ⟨_, Lib.hid rfl⟩
  rw [hR.out, cmV_is x, cmV_is y]
  have hs := Lib.hid (fun v (hv : Below w.heap.size w v) => rsameS_any x.shape y.shape A D c d B v (hx.1.below (hv.mono hB)) (hy.1.below (hv.mono hB)) (by have := hx.2.2.1; omega) (by have := hy.2.2.1; omega) (Nat.le_trans hB hv.size))
  unfold shV at hs
  have e0 : (cmA x A c A2 c2)[0]? = some (.int .i64 x.kind) := rfl
  have e1 : (cmA x A c A2 c2)[1]? = some (.int .i64 x.job) := rfl
  have e2 : (cmA x A c A2 c2)[2]? = some (.string x.name) := rfl
  have e3 : (cmA x A c A2 c2)[3]? = some (.string x.user) := rfl
  have e4 : (cmA x A c A2 c2)[4]? = some (.string x.account) := rfl
  have e5 : (cmA x A c A2 c2)[5]? = some (.int .i64 x.shape.kind) := rfl
  have e6 : (cmA x A c A2 c2)[6]? = some (.slice A x.shape.alts.length c) := rfl
  have e7 : (cmA x A c A2 c2)[7]? = some (.int .i64 x.shape.mn) := rfl
  have e8 : (cmA x A c A2 c2)[8]? = some (.int .i64 x.shape.mx) := rfl
  have e9 : (cmA x A c A2 c2)[9]? = some (.int .i64 x.shape.wall) := rfl
  have e10 : (cmA x A c A2 c2)[10]? = some (.int .i64 x.prio) := rfl
  have e11 : (cmA x A c A2 c2)[11]? = some (.bool x.hasPrio) := rfl
  have e12 : (cmA x A c A2 c2)[12]? = some (.int .i64 x.time) := rfl
  have e13 : (cmA x A c A2 c2)[13]? = some (.bool x.hasTime) := rfl
  have e14 : (cmA x A c A2 c2)[14]? = some (.slice A2 x.after.length c2) := rfl
  have e15 : (cmA x A c A2 c2)[15]? = some (.int .i64 x.node) := rfl
  have e16 : (cmA x A c A2 c2)[16]? = some (.int .i64 x.nodes) := rfl
  have e17 : (cmA x A c A2 c2)[17]? = some (.int .i64 x.frm) := rfl
  have f0 : (cmA y D d D2 d2)[0]? = some (.int .i64 y.kind) := rfl
  have f1 : (cmA y D d D2 d2)[1]? = some (.int .i64 y.job) := rfl
  have f2 : (cmA y D d D2 d2)[2]? = some (.string y.name) := rfl
  have f3 : (cmA y D d D2 d2)[3]? = some (.string y.user) := rfl
  have f4 : (cmA y D d D2 d2)[4]? = some (.string y.account) := rfl
  have f5 : (cmA y D d D2 d2)[5]? = some (.int .i64 y.shape.kind) := rfl
  have f6 : (cmA y D d D2 d2)[6]? = some (.slice D y.shape.alts.length d) := rfl
  have f7 : (cmA y D d D2 d2)[7]? = some (.int .i64 y.shape.mn) := rfl
  have f8 : (cmA y D d D2 d2)[8]? = some (.int .i64 y.shape.mx) := rfl
  have f9 : (cmA y D d D2 d2)[9]? = some (.int .i64 y.shape.wall) := rfl
  have f10 : (cmA y D d D2 d2)[10]? = some (.int .i64 y.prio) := rfl
  have f11 : (cmA y D d D2 d2)[11]? = some (.bool y.hasPrio) := rfl
  have f12 : (cmA y D d D2 d2)[12]? = some (.int .i64 y.time) := rfl
  have f13 : (cmA y D d D2 d2)[13]? = some (.bool y.hasTime) := rfl
  have f14 : (cmA y D d D2 d2)[14]? = some (.slice D2 y.after.length d2) := rfl
  have f15 : (cmA y D d D2 d2)[15]? = some (.int .i64 y.node) := rfl
  have f16 : (cmA y D d D2 d2)[16]? = some (.int .i64 y.nodes) := rfl
  have f17 : (cmA y D d D2 d2)[17]? = some (.int .i64 y.frm) := rfl
  have HSX := Lib.hid (cmA_size x A c A2 c2)
  have HSY := Lib.hid (cmA_size y D d D2 d2)
  obtain ⟨cs, hcs⟩ : ∃ cs, cmA x A c A2 c2 = cs := ⟨_, rfl⟩
  obtain ⟨ds, hds⟩ : ∃ cs, cmA y D d D2 d2 = cs := ⟨_, rfl⟩
  rw [hcs, hds]
  rw [hcs] at e0 e1 e2 e3 e4 e5 e6 e7 e8 e9 e10 e11 e12 e13 e14 e15 e16 e17 HSX
  rw [hds] at f0 f1 f2 f3 f4 f5 f6 f7 f8 f9 f10 f11 f12 f13 f14 f15 f16 f17 HSY
  clear hcs hds
  obtain ⟨W0, hW0⟩ : ∃ W0, Hid ((w.alloc (.cells cs 27)).alloc (.cells ds 27) = W0) := ⟨_, Lib.hid rfl⟩
  have hz0 : W0.heap.size = w.heap.size + 2 := by rw [← hW0.out]; simp
  have HBX : Hid (Below w.heap.size w W0) := by rw [← hW0.out]; exact ((Below.refl _ _).alloc (Nat.le_refl _) _).alloc (by simp) _
  have hcx : W0.heap[w.heap.size]? = some (.cells cs 27 (0, 0)) := by rw [← hW0.out]; exact (Below.heap_alloc _ _ _ (by simp)).trans (heap_alloc_new w _)
  have hcy : W0.heap[w.heap.size + 1]? = some (.cells ds 27 (0, 0)) := by
    rw [← hW0.out]
    have h := heap_alloc_new (w.alloc (.cells cs 27)) (.cells ds 27)
    rwa [World.size_alloc] at h
  have X0 := Lib.hid ((cell_of_row W0 _ 0 _ _ _ hcx).trans e0)
  have X1 := Lib.hid ((cell_of_row W0 _ 1 _ _ _ hcx).trans e1)
  have X2 := Lib.hid ((cell_of_row W0 _ 2 _ _ _ hcx).trans e2)
  have X3 := Lib.hid ((cell_of_row W0 _ 3 _ _ _ hcx).trans e3)
  have X4 := Lib.hid ((cell_of_row W0 _ 4 _ _ _ hcx).trans e4)
  have X5 := Lib.hid ((cell_of_row W0 _ 5 _ _ _ hcx).trans e5)
  have X6 := Lib.hid ((cell_of_row W0 _ 6 _ _ _ hcx).trans e6)
  have X7 := Lib.hid ((cell_of_row W0 _ 7 _ _ _ hcx).trans e7)
  have X8 := Lib.hid ((cell_of_row W0 _ 8 _ _ _ hcx).trans e8)
  have X9 := Lib.hid ((cell_of_row W0 _ 9 _ _ _ hcx).trans e9)
  have X10 := Lib.hid ((cell_of_row W0 _ 10 _ _ _ hcx).trans e10)
  have X11 := Lib.hid ((cell_of_row W0 _ 11 _ _ _ hcx).trans e11)
  have X12 := Lib.hid ((cell_of_row W0 _ 12 _ _ _ hcx).trans e12)
  have X13 := Lib.hid ((cell_of_row W0 _ 13 _ _ _ hcx).trans e13)
  have X14 := Lib.hid ((cell_of_row W0 _ 14 _ _ _ hcx).trans e14)
  have X15 := Lib.hid ((cell_of_row W0 _ 15 _ _ _ hcx).trans e15)
  have X16 := Lib.hid ((cell_of_row W0 _ 16 _ _ _ hcx).trans e16)
  have X17 := Lib.hid ((cell_of_row W0 _ 17 _ _ _ hcx).trans e17)
  have Y0 := Lib.hid ((cell_of_row W0 _ 0 _ _ _ hcy).trans f0)
  have Y1 := Lib.hid ((cell_of_row W0 _ 1 _ _ _ hcy).trans f1)
  have Y2 := Lib.hid ((cell_of_row W0 _ 2 _ _ _ hcy).trans f2)
  have Y3 := Lib.hid ((cell_of_row W0 _ 3 _ _ _ hcy).trans f3)
  have Y4 := Lib.hid ((cell_of_row W0 _ 4 _ _ _ hcy).trans f4)
  have Y5 := Lib.hid ((cell_of_row W0 _ 5 _ _ _ hcy).trans f5)
  have Y6 := Lib.hid ((cell_of_row W0 _ 6 _ _ _ hcy).trans f6)
  have Y7 := Lib.hid ((cell_of_row W0 _ 7 _ _ _ hcy).trans f7)
  have Y8 := Lib.hid ((cell_of_row W0 _ 8 _ _ _ hcy).trans f8)
  have Y9 := Lib.hid ((cell_of_row W0 _ 9 _ _ _ hcy).trans f9)
  have Y10 := Lib.hid ((cell_of_row W0 _ 10 _ _ _ hcy).trans f10)
  have Y11 := Lib.hid ((cell_of_row W0 _ 11 _ _ _ hcy).trans f11)
  have Y12 := Lib.hid ((cell_of_row W0 _ 12 _ _ _ hcy).trans f12)
  have Y13 := Lib.hid ((cell_of_row W0 _ 13 _ _ _ hcy).trans f13)
  have Y14 := Lib.hid ((cell_of_row W0 _ 14 _ _ _ hcy).trans f14)
  have Y15 := Lib.hid ((cell_of_row W0 _ 15 _ _ _ hcy).trans f15)
  have Y16 := Lib.hid ((cell_of_row W0 _ 16 _ _ _ hcy).trans f16)
  have Y17 := Lib.hid ((cell_of_row W0 _ 17 _ _ _ hcy).trans f17)
  clear hcx hcy e0 f0 e1 f1 e2 f2 e3 f3 e4 f4 e5 f5 e6 f6 e7 f7 e8 f8 e9 f9 e10 f10 e11 f11 e12 f12 e13 f13 e14 f14 e15 f15 e16 f16 e17 f17
  have hlx := Lib.hid (hx.2.1.below (HBX.out.mono hB))
  have hly := Lib.hid (hy.2.1.below (HBX.out.mono hB))
  have hmx : x.after.length ≤ 1000000 := by have := hx.2.2.2.1; omega
  have hmy : y.after.length ≤ 1000000 := by have := hy.2.2.2.1; omega
  clear hx hy
  have HR : Hid (R = (sameS x.shape y.shape && (decide (x.after = y.after) && ((((x.name.toList == y.name.toList && (x.user.toList == y.user.toList && (x.account.toList == y.account.toList)))) && ((x.kind == y.kind && (x.job == y.job && (x.prio == y.prio && (x.time == y.time && (x.node == y.node && (x.nodes == y.nodes && (x.frm == y.frm))))))))) && ((x.hasPrio == y.hasPrio) && (x.hasTime == y.hasTime)))))) := by
    show _ = _
    rw [← hR.out]; unfold sameC
    ac_rfl
  clear hR
  obtain ⟨p1, hp1⟩ : ∃ q, (x.name.toList == y.name.toList) = q := ⟨_, rfl⟩
  obtain ⟨p2, hp2⟩ : ∃ q, (x.user.toList == y.user.toList) = q := ⟨_, rfl⟩
  obtain ⟨p3, hp3⟩ : ∃ q, (x.account.toList == y.account.toList) = q := ⟨_, rfl⟩
  obtain ⟨q1, hq1⟩ : ∃ q, (x.kind == y.kind) = q := ⟨_, rfl⟩
  obtain ⟨q2, hq2⟩ : ∃ q, (x.job == y.job) = q := ⟨_, rfl⟩
  obtain ⟨q3, hq3⟩ : ∃ q, (x.prio == y.prio) = q := ⟨_, rfl⟩
  obtain ⟨q4, hq4⟩ : ∃ q, (x.time == y.time) = q := ⟨_, rfl⟩
  obtain ⟨q5, hq5⟩ : ∃ q, (x.node == y.node) = q := ⟨_, rfl⟩
  obtain ⟨q6, hq6⟩ : ∃ q, (x.nodes == y.nodes) = q := ⟨_, rfl⟩
  obtain ⟨q7, hq7⟩ : ∃ q, (x.frm == y.frm) = q := ⟨_, rfl⟩
  obtain ⟨r1, hr1⟩ : ∃ q, (x.hasPrio == y.hasPrio) = q := ⟨_, rfl⟩
  obtain ⟨r2, hr2⟩ : ∃ q, (x.hasTime == y.hasTime) = q := ⟨_, rfl⟩
  rw [hp1, hp2, hp3, hq1, hq2, hq3, hq4, hq5, hq6, hq7, hr1, hr2] at HR
  replace hp1 := Lib.hid hp1
  replace hp2 := Lib.hid hp2
  replace hp3 := Lib.hid hp3
  replace hq1 := Lib.hid hq1
  replace hq2 := Lib.hid hq2
  replace hq3 := Lib.hid hq3
  replace hq4 := Lib.hid hq4
  replace hq5 := Lib.hid hq5
  replace hq6 := Lib.hid hq6
  replace hq7 := Lib.hid hq7
  replace hr1 := Lib.hid hr1
  replace hr2 := Lib.hid hr2
  obtain ⟨s0, hs0⟩ : ∃ q, sameS x.shape y.shape = q := ⟨_, rfl⟩
  rw [hs0] at hs HR
  clear hs0
  obtain ⟨n, hn⟩ : ∃ q, Hid (x.after.length = q) := ⟨_, Lib.hid rfl⟩
  obtain ⟨m, hm⟩ : ∃ q, Hid (y.after.length = q) := ⟨_, Lib.hid rfl⟩
  rw [hn.out] at hlx X14 hmx
  rw [hm.out] at hly Y14 hmy
  have x14 := X14.out
  have y14 := Y14.out
  by_cases hnm : n = m
  case neg =>
    have t0 : ((n : Int) != (m : Int)) = true := by simp; omega
    have HRf : Hid (R = false) := by
      show _ = _
      rw [HR.out, decide_eq_false (fun e => hnm (by rw [← hn.out, ← hm.out, e]))]
      simp
    clear HR hnm
    go_enter Tryz.func14, Tryz.ntmps14
    go_upto_region 1 with (fail)
    rw [hW0.out]
    go_wp2
    go_ret
    exact ⟨by rw [HRf.out]; rfl, HBX.out⟩
  subst hnm
  have t0 : ((n : Int) != (n : Int)) = false := by simp
  go_enter Tryz.func14, Tryz.ntmps14
  go_upto_region 1 with (fail)
  rw [hW0.out]
  go_wp2
  go_loopw [5] (fun i wr => ∃ (k q : Nat), k ≤ n ∧ i = .int .i64 k ∧ wr = W0.drewN q ∧ Hid (x.after.take k = y.after.take k)) (fun i _ => n - (intOf i).toNat)
  case atStart => exact ⟨0, 0, Nat.zero_le _, rfl, rfl, by show _ = _; simp⟩
  case round =>
    obtain ⟨k, q, hk, rfl, rfl, HO⟩ := hrel
    by_cases hlt : k < n
    · have t1 : decide ((k : Int) < (n : Int)) = true := by simp; omega
      obtain ⟨b, o, u, rfl, hbb, hu, c0, c1⟩ := hlx.out.pr_at hlt
      obtain ⟨b2, o2, v, rfl, hbb2, hv, d0, d1⟩ := hly.out.pr_at hlt
      have hj0 : (0 : Int) ≤ (k : Int) := by omega
      have hj1 : (k : Int) < (n : Int) := by omega
      have huv : u = v ↔ u.1 = v.1 ∧ u.2 = v.2 := by
        obtain ⟨u1, u2⟩ := u
        obtain ⟨v1, v2⟩ := v
        simp
      cases u1 : u.1 != v.1
      · cases u2 : u.2 != v.2
        · have e : u = v := huv.2 ⟨by simpa using u1, by simpa using u2⟩
          have HO2 : Hid (x.after.take (k + 1) = y.after.take (k + 1)) := by
            show _ = _
            rw [List.take_add_one, List.take_add_one, hu.out, hv.out, HO.out, e]
          clear e huv HR
          go_wp2
          go_quiet (fail)
          go_wp2
          go_roundw
          case rel => exact ⟨k + 1, _, by omega, by simp, by first | rfl | exact World.drewN_drewN _ _ _, HO2⟩
          case measure => simp [intOf]; omega
        · have HRf : Hid (R = false) := by
            show _ = _
            rw [HR.out, decide_eq_false (fun hl => ?_)]
            · simp
            have h1 := hu.out
            rw [hl, hv.out] at h1
            rw [Option.some.inj h1] at u2
            simp at u2
          clear huv HR
          go_wp2
          go_quiet (fail)
          go_wp2
          go_ret
          exact ⟨by rw [HRf.out]; rfl, HBX.out.trans (below_drewN (below_drewN (Below.refl _ _) _) _ |>.mono HBX.out.size)⟩
      · have HRf : Hid (R = false) := by
          show _ = _
          rw [HR.out, decide_eq_false (fun hl => ?_)]
          · simp
          have h1 := hu.out
          rw [hl, hv.out] at h1
          rw [Option.some.inj h1] at u1
          simp at u1
        clear huv HR
        go_wp2
        go_quiet (fail)
        go_wp2
        go_ret
        exact ⟨by rw [HRf.out]; rfl, HBX.out.trans (below_drewN (below_drewN (Below.refl _ _) _) _ |>.mono HBX.out.size)⟩
    · obtain rfl : k = n := by omega
      have t1 : decide ((k : Int) < (k : Int)) = false := by simp
      have HRe : Hid (R = (s0 && (((p1 && (p2 && (p3)))) && ((q1 && (q2 && (q3 && (q4 && (q5 && (q6 && (q7))))))))) && (r1 && r2))) := by
        have e : x.after = y.after := by
          have h := HO.out
          rwa [List.take_of_length_le (by rw [hn.out]; exact Nat.le_refl _), List.take_of_length_le (by rw [hm.out]; exact Nat.le_refl _)] at h
        show _ = _
        rw [HR.out, decide_eq_true e, Bool.true_and, ← Bool.and_assoc]
      clear HR HO hlt hk
      have x2 : (W0.drewN q).cell? ⟨w.heap.size, 2, none⟩ = _ := X2.out
      have y2 : (W0.drewN q).cell? ⟨w.heap.size + 1, 2, none⟩ = _ := Y2.out
      have x3 : (W0.drewN q).cell? ⟨w.heap.size, 3, none⟩ = _ := X3.out
      have y3 : (W0.drewN q).cell? ⟨w.heap.size + 1, 3, none⟩ = _ := Y3.out
      have x4 : (W0.drewN q).cell? ⟨w.heap.size, 4, none⟩ = _ := X4.out
      have y4 : (W0.drewN q).cell? ⟨w.heap.size + 1, 4, none⟩ = _ := Y4.out
      have p1t : (x.name.toList == y.name.toList) = p1 := hp1.out
      have p2t : (x.user.toList == y.user.toList) = p2 := hp2.out
      have p3t : (x.account.toList == y.account.toList) = p3 := hp3.out
      go_upto_region 8 with (fail)
      go_cut [6] (fun u wc => u = .bool ((p1 && (p2 && (p3)))) ∧ (W0.drewN q) = wc)
      case first =>
        cases p1
        · go_wp2_with (fail)
          go_meet
          exact ⟨rfl, rfl⟩
        · skip
          cases p2
          · go_wp2_with (fail)
            go_meet
            exact ⟨rfl, rfl⟩
          · skip
            cases p3
            · go_wp2_with (fail)
              go_meet
              exact ⟨rfl, rfl⟩
            · skip
              go_wp2_with (fail)
              go_meet
              exact ⟨rfl, rfl⟩
      case rest =>
        obtain ⟨rfl, hwc⟩ := hcut
        subst hwc
        obtain ⟨TT, hTT⟩ : ∃ q, ((p1 && (p2 && (p3)))) = q := ⟨_, rfl⟩
        rw [hTT] at HRe ⊢
        clear hTT x2 y2 x3 y3 x4 y4 p1t p2t p3t hp1 hp2 hp3 p1 p2 p3
        have x0 : (W0.drewN q).cell? ⟨w.heap.size, 0, none⟩ = _ := X0.out
        have y0 : (W0.drewN q).cell? ⟨w.heap.size + 1, 0, none⟩ = _ := Y0.out
        have x1 : (W0.drewN q).cell? ⟨w.heap.size, 1, none⟩ = _ := X1.out
        have y1 : (W0.drewN q).cell? ⟨w.heap.size + 1, 1, none⟩ = _ := Y1.out
        have x10 : (W0.drewN q).cell? ⟨w.heap.size, 10, none⟩ = _ := X10.out
        have y10 : (W0.drewN q).cell? ⟨w.heap.size + 1, 10, none⟩ = _ := Y10.out
        have x12 : (W0.drewN q).cell? ⟨w.heap.size, 12, none⟩ = _ := X12.out
        have y12 : (W0.drewN q).cell? ⟨w.heap.size + 1, 12, none⟩ = _ := Y12.out
        have x15 : (W0.drewN q).cell? ⟨w.heap.size, 15, none⟩ = _ := X15.out
        have y15 : (W0.drewN q).cell? ⟨w.heap.size + 1, 15, none⟩ = _ := Y15.out
        have x16 : (W0.drewN q).cell? ⟨w.heap.size, 16, none⟩ = _ := X16.out
        have y16 : (W0.drewN q).cell? ⟨w.heap.size + 1, 16, none⟩ = _ := Y16.out
        have x17 : (W0.drewN q).cell? ⟨w.heap.size, 17, none⟩ = _ := X17.out
        have y17 : (W0.drewN q).cell? ⟨w.heap.size + 1, 17, none⟩ = _ := Y17.out
        have q1t : (x.kind == y.kind) = q1 := hq1.out
        have q2t : (x.job == y.job) = q2 := hq2.out
        have q3t : (x.prio == y.prio) = q3 := hq3.out
        have q4t : (x.time == y.time) = q4 := hq4.out
        have q5t : (x.node == y.node) = q5 := hq5.out
        have q6t : (x.nodes == y.nodes) = q6 := hq6.out
        have q7t : (x.frm == y.frm) = q7 := hq7.out
        go_upto_region 9 with (fail)
        go_cut [7] (fun u wc => u = .bool ((q1 && (q2 && (q3 && (q4 && (q5 && (q6 && (q7)))))))) ∧ (W0.drewN q) = wc)
        case first =>
          cases q1
          · go_wp2_with (fail)
            go_meet
            exact ⟨rfl, rfl⟩
          · skip
            cases q2
            · go_wp2_with (fail)
              go_meet
              exact ⟨rfl, rfl⟩
            · skip
              cases q3
              · go_wp2_with (fail)
                go_meet
                exact ⟨rfl, rfl⟩
              · skip
                cases q4
                · go_wp2_with (fail)
                  go_meet
                  exact ⟨rfl, rfl⟩
                · skip
                  cases q5
                  · go_wp2_with (fail)
                    go_meet
                    exact ⟨rfl, rfl⟩
                  · skip
                    cases q6
                    · go_wp2_with (fail)
                      go_meet
                      exact ⟨rfl, rfl⟩
                    · skip
                      cases q7
                      · go_wp2_with (fail)
                        go_meet
                        exact ⟨rfl, rfl⟩
                      · skip
                        go_wp2_with (fail)
                        go_meet
                        exact ⟨rfl, rfl⟩
        case rest =>
          obtain ⟨rfl, hwc⟩ := hcut
          subst hwc
          obtain ⟨NN, hNN⟩ : ∃ q, ((q1 && (q2 && (q3 && (q4 && (q5 && (q6 && (q7)))))))) = q := ⟨_, rfl⟩
          rw [hNN] at HRe ⊢
          clear hNN x0 y0 x1 y1 x10 y10 x12 y12 x15 y15 x16 y16 x17 y17 q1t q2t q3t q4t q5t q6t q7t hq1 hq2 hq3 hq4 hq5 hq6 hq7 q1 q2 q3 q4 q5 q6 q7
          have x5 : (W0.drewN q).cell? ⟨w.heap.size, 5, none⟩ = _ := X5.out
          have y5 : (W0.drewN q).cell? ⟨w.heap.size + 1, 5, none⟩ = _ := Y5.out
          have x6 : (W0.drewN q).cell? ⟨w.heap.size, 6, none⟩ = _ := X6.out
          have y6 : (W0.drewN q).cell? ⟨w.heap.size + 1, 6, none⟩ = _ := Y6.out
          have x7 : (W0.drewN q).cell? ⟨w.heap.size, 7, none⟩ = _ := X7.out
          have y7 : (W0.drewN q).cell? ⟨w.heap.size + 1, 7, none⟩ = _ := Y7.out
          have x8 : (W0.drewN q).cell? ⟨w.heap.size, 8, none⟩ = _ := X8.out
          have y8 : (W0.drewN q).cell? ⟨w.heap.size + 1, 8, none⟩ = _ := Y8.out
          have x9 : (W0.drewN q).cell? ⟨w.heap.size, 9, none⟩ = _ := X9.out
          have y9 : (W0.drewN q).cell? ⟨w.heap.size + 1, 9, none⟩ = _ := Y9.out
          have x11 : (W0.drewN q).cell? ⟨w.heap.size, 11, none⟩ = _ := X11.out
          have y11 : (W0.drewN q).cell? ⟨w.heap.size + 1, 11, none⟩ = _ := Y11.out
          have x13 : (W0.drewN q).cell? ⟨w.heap.size, 13, none⟩ = _ := X13.out
          have y13 : (W0.drewN q).cell? ⟨w.heap.size + 1, 13, none⟩ = _ := Y13.out
          have r1t : (x.hasPrio == y.hasPrio) = r1 := hr1.out
          have r2t : (x.hasTime == y.hasTime) = r2 := hr2.out
          cases TT
          · go_wp2
            go_ret
            exact ⟨by rw [HRe.out]; simp, HBX.out.trans ((below_drewN (Below.refl _ _) q).mono HBX.out.size)⟩
          · skip
            cases NN
            · go_wp2
              go_ret
              exact ⟨by rw [HRe.out]; simp, HBX.out.trans ((below_drewN (Below.refl _ _) q).mono HBX.out.size)⟩
            · skip
              cases r1
              · go_wp2
                go_ret
                exact ⟨by rw [HRe.out]; simp, HBX.out.trans ((below_drewN (Below.refl _ _) q).mono HBX.out.size)⟩
              · skip
                cases r2
                · go_wp2
                  go_ret
                  exact ⟨by rw [HRe.out]; simp, HBX.out.trans ((below_drewN (Below.refl _ _) q).mono HBX.out.size)⟩
                · skip
                  go_wp2_with (fail)
                  refine (hs.out _ (below_drewN HBX.out _)).mono ?_; rintro e w1 ⟨rfl, hb1⟩
                  have B1 := Lib.hid (HBX.out.trans ((below_drewN (Below.refl _ _) q).trans (hb1.mono (Nat.le_refl _)) |>.mono HBX.out.size)); clear hb1
                  go_wp2
                  go_ret
                  exact ⟨by rw [HRe.out]; simp, B1.out⟩
end Go.Proofs.YtjmhaoplablmnaaGreatDoor
