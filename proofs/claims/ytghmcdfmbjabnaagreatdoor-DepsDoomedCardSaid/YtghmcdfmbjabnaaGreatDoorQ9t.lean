/- Bundle Q9. -/
import Derived.Test.YtghmcdfmbjabnaaGreatDoorJbW1t
import Derived.Test.YtghmcdfmbjabnaaGreatDoorS3t
import Derived.Test.YtghmcdfmbjabnaaGreatDoorQ7t
import Derived.Test.YtghmcdfmbjabnaaGreatDoorQ0t
import Derived.OpenShut
import Derived.MakeChecks
namespace Go.Proofs.YtghmcdfmbjabnaaGreatDoor
set_option linter.unusedSimpArgs false
set_option maxRecDepth 100000
set_option linter.unusedVariables false
open Go.RowKit
set_option maxHeartbeats 16000000 in
theorem rsameJ_any (x y : Jb) (A A2 D D2 : Option Addr) (c c2 d d2 B : Nat) (w : World) (hx : JbAt w B x A c A2 c2) (hy : JbAt w B y D d D2 d2) (hB : B ≤ w.heap.size) :
    Calls Tryz.prog 17 #[jbV x A c A2 c2, jbV y D d D2 d2] w fun e w' => e = .returned (.bool (sameJ x y)) ∧ Below w.heap.size w w' := by
  have hs := Lib.hid (fun v (hv : Below w.heap.size w v) => rsameS_any x.shape y.shape A D c d B v (hx.1.below (hv.mono hB)) (hy.1.below (hv.mono hB)) (by have := hx.2.2.1; omega) (by have := hy.2.2.1; omega) (Nat.le_trans hB hv.size))
  have hl1 := Lib.hid (fun v (hv : Below w.heap.size w v) => hx.2.1.below (hv.mono hB))
  have hl2 := Lib.hid (fun v (hv : Below w.heap.size w v) => hy.2.1.below (hv.mono hB))
  have hn1 := hx.2.2.2.1
  have hn2 := hy.2.2.2.1
  obtain ⟨R, hR⟩ : ∃ R, sameJ x y = R := ⟨_, rfl⟩
  have HQ : Hid (R = sameJ x y) := hR.symm
  rw [hR]
  clear hR
  unfold sameJ at HQ
  unfold jbV
  obtain ⟨q, hq⟩ : ∃ q, sameS x.shape y.shape = q := ⟨_, rfl⟩
  rw [hq] at hs HQ
  unfold shV at hs
  clear hq hx hy
  obtain ⟨n1, e1⟩ : ∃ n, x.shape.alts.length = n := ⟨_, rfl⟩
  obtain ⟨n2, e2⟩ : ∃ n, y.shape.alts.length = n := ⟨_, rfl⟩
  obtain ⟨m1, e3⟩ : ∃ n, x.after.length = n := ⟨_, rfl⟩
  obtain ⟨m2, e4⟩ : ∃ n, y.after.length = n := ⟨_, rfl⟩
  rw [e1, e2] at hs ⊢
  rw [e3] at hl1 hn1 ⊢
  rw [e4] at hl2 hn2 ⊢
  have E3 := Lib.hid e3
  have E4 := Lib.hid e4
  clear e1 e2 e3 e4
  obtain ⟨xid, xname, xuser, xaccount, ⟨xk, xl, xm, xn, xo⟩, xprio, xafter, xstate, xheld, xborn, xpromise, xchoice, xstart, xlimit, xnodes, xused⟩ := x
  obtain ⟨yid, yname, yuser, yaccount, ⟨yk, yl, ym, yn, yo⟩, yprio, yafter, ystate, yheld, yborn, ypromise, ychoice, ystart, ylimit, ynodes, yused⟩ := y
  dsimp only at hs hl1 hl2 HQ E3 E4 ⊢
  have HBX : Hid (Below w.heap.size w ((w.alloc (.cells #[.int .i64 xid, .string xname, .string xuser, .string xaccount, .int .i64 xk, .slice A n1 c, .int .i64 xm, .int .i64 xn, .int .i64 xo, .int .i64 xprio, .slice A2 m1 c2, .int .i64 xstate, .bool xheld, .int .i64 xborn, .int .i64 xpromise, .int .i64 xchoice, .int .i64 xstart, .int .i64 xlimit, .int .u64 (xnodes : Nat), .int .i64 xused] 28)).alloc (.cells #[.int .i64 yid, .string yname, .string yuser, .string yaccount, .int .i64 yk, .slice D n2 d, .int .i64 ym, .int .i64 yn, .int .i64 yo, .int .i64 yprio, .slice D2 m2 d2, .int .i64 ystate, .bool yheld, .int .i64 yborn, .int .i64 ypromise, .int .i64 ychoice, .int .i64 ystart, .int .i64 ylimit, .int .u64 (ynodes : Nat), .int .i64 yused] 28))) := ((Below.refl _ _).alloc (Nat.le_refl _) _).alloc (by simp) _
  obtain ⟨W0, hW0⟩ : ∃ W0, Hid (((w.alloc (.cells #[.int .i64 xid, .string xname, .string xuser, .string xaccount, .int .i64 xk, .slice A n1 c, .int .i64 xm, .int .i64 xn, .int .i64 xo, .int .i64 xprio, .slice A2 m1 c2, .int .i64 xstate, .bool xheld, .int .i64 xborn, .int .i64 xpromise, .int .i64 xchoice, .int .i64 xstart, .int .i64 xlimit, .int .u64 (xnodes : Nat), .int .i64 xused] 28)).alloc (.cells #[.int .i64 yid, .string yname, .string yuser, .string yaccount, .int .i64 yk, .slice D n2 d, .int .i64 ym, .int .i64 yn, .int .i64 yo, .int .i64 yprio, .slice D2 m2 d2, .int .i64 ystate, .bool yheld, .int .i64 yborn, .int .i64 ypromise, .int .i64 ychoice, .int .i64 ystart, .int .i64 ylimit, .int .u64 (ynodes : Nat), .int .i64 yused] 28)) = W0) := ⟨_, rfl⟩
  have hz0 : W0.heap.size = w.heap.size + 2 := by rw [← hW0.out]; simp
  have hcx : W0.heap[w.heap.size]? = some (.cells #[.int .i64 xid, .string xname, .string xuser, .string xaccount, .int .i64 xk, .slice A n1 c, .int .i64 xm, .int .i64 xn, .int .i64 xo, .int .i64 xprio, .slice A2 m1 c2, .int .i64 xstate, .bool xheld, .int .i64 xborn, .int .i64 xpromise, .int .i64 xchoice, .int .i64 xstart, .int .i64 xlimit, .int .u64 (xnodes : Nat), .int .i64 xused] 28 (0, 0)) := by
    rw [← hW0.out]
    exact (Below.heap_alloc _ _ _ (by simp)).trans (heap_alloc_new w _)
  have hcy : W0.heap[w.heap.size + 1]? = some (.cells #[.int .i64 yid, .string yname, .string yuser, .string yaccount, .int .i64 yk, .slice D n2 d, .int .i64 ym, .int .i64 yn, .int .i64 yo, .int .i64 yprio, .slice D2 m2 d2, .int .i64 ystate, .bool yheld, .int .i64 yborn, .int .i64 ypromise, .int .i64 ychoice, .int .i64 ystart, .int .i64 ylimit, .int .u64 (ynodes : Nat), .int .i64 yused] 28 (0, 0)) := by
    rw [← hW0.out]
    have h := heap_alloc_new (w.alloc (.cells #[.int .i64 xid, .string xname, .string xuser, .string xaccount, .int .i64 xk, .slice A n1 c, .int .i64 xm, .int .i64 xn, .int .i64 xo, .int .i64 xprio, .slice A2 m1 c2, .int .i64 xstate, .bool xheld, .int .i64 xborn, .int .i64 xpromise, .int .i64 xchoice, .int .i64 xstart, .int .i64 xlimit, .int .u64 (xnodes : Nat), .int .i64 xused] 28)) (.cells #[.int .i64 yid, .string yname, .string yuser, .string yaccount, .int .i64 yk, .slice D n2 d, .int .i64 ym, .int .i64 yn, .int .i64 yo, .int .i64 yprio, .slice D2 m2 d2, .int .i64 ystate, .bool yheld, .int .i64 yborn, .int .i64 ypromise, .int .i64 ychoice, .int .i64 ystart, .int .i64 ylimit, .int .u64 (ynodes : Nat), .int .i64 yused] 28)
    rwa [World.size_alloc] at h
  rw [hW0.out] at HBX
  have HCX := Lib.hid hcx
  have HCY := Lib.hid hcy
  clear hcx hcy
  by_cases hnm : m1 = m2
  case neg =>
    have t0 : ((m1 : Int) != (m2 : Int)) = true := by simp; omega
    have HR : Hid (R = false) := by
      show _ = _
      have : decide (xafter = yafter) = false := decide_eq_false (fun h => hnm (by rw [← E3.out, ← E4.out, h]))
      rw [HQ.out, this]; simp only [Bool.false_and, Bool.and_false]
    clear hnm
    go_enter Tryz.func17, Tryz.ntmps17
    go_wp2
    go_ret
    rw [hW0.out]
    exact ⟨by rw [HR.out]; rfl, HBX.out⟩
  subst hnm
  have t0 : ((m1 : Int) != (m1 : Int)) = false := by simp
  go_enter Tryz.func17, Tryz.ntmps17
  go_wp2_with (fail)
  rw [hW0.out]
  refine (hs.out _ HBX.out).mono ?_; rintro e w1 ⟨rfl, hb1⟩
  have B1 := Lib.hid (bt HBX.out hb1)
  have gx := Lib.hid ((hb1.block _ (by omega)).trans HCX.out)
  have gy := Lib.hid ((hb1.block _ (by omega)).trans HCY.out)
  have hz1 := hb1.size
  have hl1' := Lib.hid (hl1.out _ B1.out)
  have hl2' := Lib.hid (hl2.out _ B1.out)
  clear hb1 hl1 hl2
  cases q
  case false =>
    have HR : Hid (R = false) := by show _ = _; rw [HQ.out]; simp only [Bool.false_and, Bool.and_false]
    go_wp2
    go_ret
    exact ⟨by rw [HR.out]; rfl, B1.out⟩
  have x10 : w1.cell? ⟨w.heap.size, 10, none⟩ = some (.slice A2 m1 c2) := cell_of_row w1 w.heap.size 10 _ _ _ gx.out
  have y10 : w1.cell? ⟨w.heap.size + 1, 10, none⟩ = some (.slice D2 m1 d2) := cell_of_row w1 (w.heap.size + 1) 10 _ _ _ gy.out
  go_wp2
  go_loopw [5] (fun i wr => ∃ (k p : Nat), k ≤ m1 ∧ i = .int .i64 k ∧ wr = w1.drewN p ∧ Hid (xafter.take k = yafter.take k)) (fun i _ => m1 - (intOf i).toNat)
  case atStart => exact ⟨0, 0, Nat.zero_le _, rfl, rfl, by show _ = _; simp⟩
  case round =>
    obtain ⟨k, p, hk, rfl, rfl, HO⟩ := hrel
    by_cases hlt : k < m1
    · have t1 : decide ((k : Int) < (m1 : Int)) = true := by simp; omega
      obtain ⟨b, o, u, rfl, hbb, hu, u0, u1⟩ := hl1'.out.pr_at hlt
      obtain ⟨b2, o2, v, rfl, hbb2, hv, v0, v1⟩ := hl2'.out.pr_at hlt
      have hj0 : (0 : Int) ≤ (k : Int) := by omega
      have hj1 : (k : Int) < (m1 : Int) := by omega
      have hneq := fun z => prD_neq u v z
      by_cases hxy : u = v
      · have e : decide (u = v) = true := decide_eq_true hxy
        rw [e] at hneq
        have HO2 : Hid (xafter.take (k + 1) = yafter.take (k + 1)) := by
          show _ = _
          rw [List.take_add_one, List.take_add_one, hu.out, hv.out, HO.out, hxy]
        clear e hxy
        go_wp2
        go_quiet (fail)
        go_wp2
        go_roundw
        case rel => exact ⟨k + 1, _, by omega, by go_num, by first | rfl | exact World.drewN_drewN _ _ _, HO2⟩
        case measure => simp [intOf]; omega
      · have e : decide (u = v) = false := decide_eq_false hxy
        rw [e] at hneq
        have HR : Hid (R = false) := by
          show _ = _
          have : decide (xafter = yafter) = false := decide_eq_false (fun hl => hxy (by
            have h1 := hu.out
            rw [hl, hv.out] at h1
            exact (Option.some.inj h1).symm))
          rw [HQ.out, this]; simp only [Bool.false_and, Bool.and_false]
        clear e hxy
        go_wp2
        go_quiet (fail)
        go_wp2
        go_ret
        exact ⟨by rw [HR.out]; rfl, below_drewN (below_drewN B1.out _) _⟩
    · obtain rfl : k = m1 := by omega
      have t1 : decide ((k : Int) < (k : Int)) = false := by simp
      have HA : decide (xafter = yafter) = true := by
        refine decide_eq_true ?_
        have h1 := HO.out
        rwa [List.take_of_length_le (by rw [E3.out]; exact Nat.le_refl _), List.take_of_length_le (by rw [E4.out]; exact Nat.le_refl _)] at h1
      rw [HA] at HQ
      clear HA
      have x0 : w1.cell? ⟨w.heap.size, 0, none⟩ = some (.int .i64 xid) := cell_of_row w1 w.heap.size 0 _ _ _ gx.out
      have y0 : w1.cell? ⟨w.heap.size + 1, 0, none⟩ = some (.int .i64 yid) := cell_of_row w1 (w.heap.size + 1) 0 _ _ _ gy.out
      cases t0 : (xid == yid)
      case false =>
        have HR : Hid (R = false) := by show _ = _; rw [HQ.out, t0]; simp only [Bool.false_and, Bool.and_false]
        go_wp2
        go_ret
        exact ⟨by rw [HR.out]; rfl, below_drewN B1.out _⟩
      have x1 : w1.cell? ⟨w.heap.size, 1, none⟩ = some (.string xname) := cell_of_row w1 w.heap.size 1 _ _ _ gx.out
      have y1 : w1.cell? ⟨w.heap.size + 1, 1, none⟩ = some (.string yname) := cell_of_row w1 (w.heap.size + 1) 1 _ _ _ gy.out
      cases t1 : (xname.toList == yname.toList)
      case false =>
        have HR : Hid (R = false) := by show _ = _; rw [HQ.out, t1]; simp only [Bool.false_and, Bool.and_false]
        go_wp2
        go_ret
        exact ⟨by rw [HR.out]; rfl, below_drewN B1.out _⟩
      have x2 : w1.cell? ⟨w.heap.size, 2, none⟩ = some (.string xuser) := cell_of_row w1 w.heap.size 2 _ _ _ gx.out
      have y2 : w1.cell? ⟨w.heap.size + 1, 2, none⟩ = some (.string yuser) := cell_of_row w1 (w.heap.size + 1) 2 _ _ _ gy.out
      cases t2 : (xuser.toList == yuser.toList)
      case false =>
        have HR : Hid (R = false) := by show _ = _; rw [HQ.out, t2]; simp only [Bool.false_and, Bool.and_false]
        go_wp2
        go_ret
        exact ⟨by rw [HR.out]; rfl, below_drewN B1.out _⟩
      have x3 : w1.cell? ⟨w.heap.size, 3, none⟩ = some (.string xaccount) := cell_of_row w1 w.heap.size 3 _ _ _ gx.out
      have y3 : w1.cell? ⟨w.heap.size + 1, 3, none⟩ = some (.string yaccount) := cell_of_row w1 (w.heap.size + 1) 3 _ _ _ gy.out
      cases t3 : (xaccount.toList == yaccount.toList)
      case false =>
        have HR : Hid (R = false) := by show _ = _; rw [HQ.out, t3]; simp only [Bool.false_and, Bool.and_false]
        go_wp2
        go_ret
        exact ⟨by rw [HR.out]; rfl, below_drewN B1.out _⟩
      have x9 : w1.cell? ⟨w.heap.size, 9, none⟩ = some (.int .i64 xprio) := cell_of_row w1 w.heap.size 9 _ _ _ gx.out
      have y9 : w1.cell? ⟨w.heap.size + 1, 9, none⟩ = some (.int .i64 yprio) := cell_of_row w1 (w.heap.size + 1) 9 _ _ _ gy.out
      cases t9 : (xprio == yprio)
      case false =>
        have HR : Hid (R = false) := by show _ = _; rw [HQ.out, t9]; simp only [Bool.false_and, Bool.and_false]
        go_wp2
        go_ret
        exact ⟨by rw [HR.out]; rfl, below_drewN B1.out _⟩
      have x11 : w1.cell? ⟨w.heap.size, 11, none⟩ = some (.int .i64 xstate) := cell_of_row w1 w.heap.size 11 _ _ _ gx.out
      have y11 : w1.cell? ⟨w.heap.size + 1, 11, none⟩ = some (.int .i64 ystate) := cell_of_row w1 (w.heap.size + 1) 11 _ _ _ gy.out
      cases t11 : (xstate == ystate)
      case false =>
        have HR : Hid (R = false) := by show _ = _; rw [HQ.out, t11]; simp only [Bool.false_and, Bool.and_false]
        go_wp2
        go_ret
        exact ⟨by rw [HR.out]; rfl, below_drewN B1.out _⟩
      have x12 : w1.cell? ⟨w.heap.size, 12, none⟩ = some (.bool xheld) := cell_of_row w1 w.heap.size 12 _ _ _ gx.out
      have y12 : w1.cell? ⟨w.heap.size + 1, 12, none⟩ = some (.bool yheld) := cell_of_row w1 (w.heap.size + 1) 12 _ _ _ gy.out
      cases t12 : (xheld == yheld)
      case false =>
        have HR : Hid (R = false) := by show _ = _; rw [HQ.out, t12]; simp only [Bool.false_and, Bool.and_false]
        go_wp2
        go_ret
        exact ⟨by rw [HR.out]; rfl, below_drewN B1.out _⟩
      have x13 : w1.cell? ⟨w.heap.size, 13, none⟩ = some (.int .i64 xborn) := cell_of_row w1 w.heap.size 13 _ _ _ gx.out
      have y13 : w1.cell? ⟨w.heap.size + 1, 13, none⟩ = some (.int .i64 yborn) := cell_of_row w1 (w.heap.size + 1) 13 _ _ _ gy.out
      cases t13 : (xborn == yborn)
      case false =>
        have HR : Hid (R = false) := by show _ = _; rw [HQ.out, t13]; simp only [Bool.false_and, Bool.and_false]
        go_wp2
        go_ret
        exact ⟨by rw [HR.out]; rfl, below_drewN B1.out _⟩
      have x14 : w1.cell? ⟨w.heap.size, 14, none⟩ = some (.int .i64 xpromise) := cell_of_row w1 w.heap.size 14 _ _ _ gx.out
      have y14 : w1.cell? ⟨w.heap.size + 1, 14, none⟩ = some (.int .i64 ypromise) := cell_of_row w1 (w.heap.size + 1) 14 _ _ _ gy.out
      cases t14 : (xpromise == ypromise)
      case false =>
        have HR : Hid (R = false) := by show _ = _; rw [HQ.out, t14]; simp only [Bool.false_and, Bool.and_false]
        go_wp2
        go_ret
        exact ⟨by rw [HR.out]; rfl, below_drewN B1.out _⟩
      have x15 : w1.cell? ⟨w.heap.size, 15, none⟩ = some (.int .i64 xchoice) := cell_of_row w1 w.heap.size 15 _ _ _ gx.out
      have y15 : w1.cell? ⟨w.heap.size + 1, 15, none⟩ = some (.int .i64 ychoice) := cell_of_row w1 (w.heap.size + 1) 15 _ _ _ gy.out
      cases t15 : (xchoice == ychoice)
      case false =>
        have HR : Hid (R = false) := by show _ = _; rw [HQ.out, t15]; simp only [Bool.false_and, Bool.and_false]
        go_wp2
        go_ret
        exact ⟨by rw [HR.out]; rfl, below_drewN B1.out _⟩
      have x16 : w1.cell? ⟨w.heap.size, 16, none⟩ = some (.int .i64 xstart) := cell_of_row w1 w.heap.size 16 _ _ _ gx.out
      have y16 : w1.cell? ⟨w.heap.size + 1, 16, none⟩ = some (.int .i64 ystart) := cell_of_row w1 (w.heap.size + 1) 16 _ _ _ gy.out
      cases t16 : (xstart == ystart)
      case false =>
        have HR : Hid (R = false) := by show _ = _; rw [HQ.out, t16]; simp only [Bool.false_and, Bool.and_false]
        go_wp2
        go_ret
        exact ⟨by rw [HR.out]; rfl, below_drewN B1.out _⟩
      have x17 : w1.cell? ⟨w.heap.size, 17, none⟩ = some (.int .i64 xlimit) := cell_of_row w1 w.heap.size 17 _ _ _ gx.out
      have y17 : w1.cell? ⟨w.heap.size + 1, 17, none⟩ = some (.int .i64 ylimit) := cell_of_row w1 (w.heap.size + 1) 17 _ _ _ gy.out
      cases t17 : (xlimit == ylimit)
      case false =>
        have HR : Hid (R = false) := by show _ = _; rw [HQ.out, t17]; simp only [Bool.false_and, Bool.and_false]
        go_wp2
        go_ret
        exact ⟨by rw [HR.out]; rfl, below_drewN B1.out _⟩
      have x18 : w1.cell? ⟨w.heap.size, 18, none⟩ = some (.int .u64 (xnodes : Nat)) := cell_of_row w1 w.heap.size 18 _ _ _ gx.out
      have y18 : w1.cell? ⟨w.heap.size + 1, 18, none⟩ = some (.int .u64 (ynodes : Nat)) := cell_of_row w1 (w.heap.size + 1) 18 _ _ _ gy.out
      cases t18 : ((xnodes : Int) == (ynodes : Int))
      case false =>
        have HR : Hid (R = false) := by show _ = _; rw [HQ.out, t18]; simp only [Bool.false_and, Bool.and_false]
        go_wp2
        go_ret
        exact ⟨by rw [HR.out]; rfl, below_drewN B1.out _⟩
      have x19 : w1.cell? ⟨w.heap.size, 19, none⟩ = some (.int .i64 xused) := cell_of_row w1 w.heap.size 19 _ _ _ gx.out
      have y19 : w1.cell? ⟨w.heap.size + 1, 19, none⟩ = some (.int .i64 yused) := cell_of_row w1 (w.heap.size + 1) 19 _ _ _ gy.out
      cases t19 : (xused == yused)
      case false =>
        have HR : Hid (R = false) := by show _ = _; rw [HQ.out, t19]; simp only [Bool.false_and, Bool.and_false]
        go_wp2
        go_ret
        exact ⟨by rw [HR.out]; rfl, below_drewN B1.out _⟩
      have HR : Hid (R = true) := by show _ = _; rw [HQ.out, t1, t2, t3, t0, t9, t11, t12, t13, t14, t15, t16, t17, t18, t19]; simp only [Bool.and_true, Bool.true_and]
      go_wp2
      go_ret
      exact ⟨by rw [HR.out]; rfl, below_drewN B1.out _⟩
theorem wpList_load_row_g {P : Program} {ops : Array Oper} {rest : List Oper} {o : Oper} {a : Act} {w : World} {Q : Exit → Act → World → Prop} (hgd : Region.wanted o (yielded ops a.tmps) = true) (ty : TypeId) (x : Operand) (ho : o.op = .load ty x)
    (g : Nat) (hx : a.eval x = .pointer (some ⟨g, 0, none⟩)) (t : TypeId) (cs : Array Value) (fr : Nat × Nat) (d : TypeDesc) (hg : w.heap[g]? = some (.cells cs t fr))
    (hu : P.underlying ty = some d) (hd : (match d with | .struct _ | .array _ _ => true | _ => false) = true) (hi : (P.info? ty).map (·.size) = some cs.size)
    (h : wpList P ops Q rest (a.put o.dst (.agg cs)) w) : wpList P ops Q (o :: rest) a w :=
  wpList_step fun _ hK => by rw [if_pos hgd]; exact wp_load_row ty x ho g hx t cs fr d hg hu hd hi (hK _ _ h)
theorem over14_any (x : Jb) (A A2 : Option Addr) (c c2 B : Nat) (w : World) (hx : JbAt w B x A c A2 c2) (hB : B ≤ w.heap.size) (hz : JbSz x) :
    Calls Tryz.prog 35 #[jbV x A c A2 c2] w fun e w' => e = .returned (.bool (okJ x && endedB x.state)) ∧ Below w.heap.size w w' := by
  have hck := Lib.hid (fun v (hv : Below w.heap.size w v) => jcheck_any x A A2 c c2 B v (hx.below (hv.mono hB)) (Nat.le_trans hB hv.size) hz)
  have q1 := Lib.hid (fun v => ended_any x.state v)
  clear hx hB hz
  rw [jbV_is] at hck ⊢
  have e11 : (jbA x A c A2 c2)[11]? = some (.int .i64 x.state) := rfl
  have HS := Lib.hid (jbA_size x A c A2 c2)
  obtain ⟨cs, hcs⟩ : ∃ cs, Hid (jbA x A c A2 c2 = cs) := ⟨_, rfl⟩
  rw [hcs.out] at hck e11 HS ⊢
  obtain ⟨z, hz⟩ : ∃ q, endedB x.state = q := ⟨_, rfl⟩
  rw [hz] at q1 ⊢
  clear hz
  cases hk : okJ x
  · rw [jobE_f hk] at hck
    clear hk
    go_enter Tryz.func35, Tryz.ntmps35
    go_wp2_with (refine wpList_load_row rfl 28 _ rfl (w.heap.size) rfl 28 _ (0, 0) _ (heap_alloc_new w _) Tryz.underlying28 rfl (info30 HS.out) ?_)
    refine (hck.out _ bx0).mono ?_; rintro e w1 ⟨rfl, b1⟩
    go_wp2
    go_ret
    exact ⟨rfl, bt bx0 b1⟩
  · rw [jobE_t hk] at hck
    clear hk
    go_enter Tryz.func35, Tryz.ntmps35
    go_wp2_with (refine wpList_load_row rfl 28 _ rfl (w.heap.size) rfl 28 _ (0, 0) _ (heap_alloc_new w _) Tryz.underlying28 rfl (info30 HS.out) ?_)
    refine (hck.out _ bx0).mono ?_; rintro e w1 ⟨rfl, hb1⟩
    obtain ⟨g1, hb, s1⟩ := box_row hb1
    have B1 := Lib.hid hb
    have m11 : w1.cell? ⟨w.heap.size, 11, none⟩ = some (.int .i64 x.state) := (cell_of_row w1 _ 11 _ _ _ g1).trans e11
    clear hb1 hb g1
    go_wp2_with (go_at_call 83; refine (q1.out _).mono ?_; rintro e w2 ⟨rfl, rfl⟩)
    go_ret
    exact ⟨rfl, B1.out⟩
def fewA (s : Sh) : Bool := decide (s.alts.length ≤ 100)
def fewT (a b c : ByteArray) : Bool := decide (a.size ≤ 1000) && (decide (b.size ≤ 1000) && decide (c.size ≤ 1000))
def fewJ (x : Jb) : Bool := fewA x.shape && (decide (x.after.length ≤ 100) && fewT x.name x.user x.account)
def fewC (x : Cm) : Bool := fewA x.shape && (decide (x.after.length ≤ 100) && fewT x.name x.user x.account)
theorem le_int1 (n : Nat) : decide ((n : Int) ≤ 100) = decide (n ≤ 100) := by congr 1; apply propext; omega
theorem le_int2 (n : Nat) : decide ((n : Int) ≤ 1000) = decide (n ≤ 1000) := by congr 1; apply propext; omega
theorem few07_any (s : Sh) (A : Option Addr) (c : Nat) (w : World) : Calls Tryz.prog 47 #[shV s A c] w fun e w' => e = .returned (.bool (fewA s)) ∧ Below w.heap.size w w' := by
  unfold shV fewA
  obtain ⟨n, hn⟩ : ∃ n, s.alts.length = n := ⟨_, rfl⟩
  rw [hn]
  clear hn
  have i1 := le_int1 n
  obtain ⟨q1, h⟩ : ∃ q, decide (n ≤ 100) = q := ⟨_, rfl⟩
  rw [h] at i1 ⊢
  clear h
  cases q1
  all_goals
    go_enter Tryz.func47, Tryz.ntmps47
    go_wp2
    go_ret
    exact ⟨rfl, bx0⟩
set_option maxHeartbeats 4000000 in
theorem few14_any (x : Jb) (A A2 : Option Addr) (c c2 : Nat) (w : World) : Calls Tryz.prog 12 #[jbV x A c A2 c2] w fun e w' => e = .returned (.bool (fewJ x)) ∧ Below w.heap.size w w' := by
  have q := Lib.hid (fun v => few07_any x.shape A c v)
  unfold fewJ fewT
  unfold shV at q
  obtain ⟨z, hz⟩ : ∃ z, fewA x.shape = z := ⟨_, rfl⟩
  rw [hz] at q ⊢
  clear hz
  rw [jbV_is]
  have e1 : (jbA x A c A2 c2)[1]? = some (.string x.name) := rfl
  have e2 : (jbA x A c A2 c2)[2]? = some (.string x.user) := rfl
  have e3 : (jbA x A c A2 c2)[3]? = some (.string x.account) := rfl
  have e4 : (jbA x A c A2 c2)[4]? = some (.int .i64 x.shape.kind) := rfl
  have e5 : (jbA x A c A2 c2)[5]? = some (.slice A x.shape.alts.length c) := rfl
  have e6 : (jbA x A c A2 c2)[6]? = some (.int .i64 x.shape.mn) := rfl
  have e7 : (jbA x A c A2 c2)[7]? = some (.int .i64 x.shape.mx) := rfl
  have e8 : (jbA x A c A2 c2)[8]? = some (.int .i64 x.shape.wall) := rfl
  have e10 : (jbA x A c A2 c2)[10]? = some (.slice A2 x.after.length c2) := rfl
  have HS := Lib.hid (jbA_size x A c A2 c2)
  have H1 := Lib.hid (jbA_one x A c A2 c2)
  obtain ⟨cs, hcs⟩ : ∃ cs, Hid (jbA x A c A2 c2 = cs) := ⟨_, rfl⟩
  rw [hcs.out] at HS H1 e1 e2 e3 e4 e5 e6 e7 e8 e10 ⊢
  obtain ⟨n, hn⟩ : ∃ n, x.shape.alts.length = n := ⟨_, rfl⟩
  obtain ⟨m, hm⟩ : ∃ n, x.after.length = n := ⟨_, rfl⟩
  rw [hn] at q e5
  rw [hm] at e10 ⊢
  clear hn hm
  have i1 := le_int1 m
  have i2 := le_int2 x.name.size
  have i3 := le_int2 x.user.size
  have i4 := le_int2 x.account.size
  obtain ⟨q1, h1⟩ : ∃ q, decide (m ≤ 100) = q := ⟨_, rfl⟩
  obtain ⟨q2, h2⟩ : ∃ q, decide (x.name.size ≤ 1000) = q := ⟨_, rfl⟩
  obtain ⟨q3, h3⟩ : ∃ q, decide (x.user.size ≤ 1000) = q := ⟨_, rfl⟩
  obtain ⟨q4, h4⟩ : ∃ q, decide (x.account.size ≤ 1000) = q := ⟨_, rfl⟩
  rw [h1] at i1 ⊢
  rw [h2] at i2 ⊢
  rw [h3] at i3 ⊢
  rw [h4] at i4 ⊢
  clear h1 h2 h3 h4
  cases z
  case false =>
    go_enter Tryz.func12, Tryz.ntmps12
    go_wp2_with (fail)
    refine (q.out _).mono ?_; rintro e w1 ⟨rfl, hb1⟩
    go_wp2
    go_ret
    exact ⟨rfl, bt bx0 hb1⟩
  go_enter Tryz.func12, Tryz.ntmps12
  go_wp2_with (fail)
  refine (q.out _).mono ?_; rintro e w1 ⟨rfl, hb1⟩
  obtain ⟨g1, hb, s1⟩ := box_row hb1
  have B1 := Lib.hid hb
  have m1 : w1.cell? ⟨w.heap.size, 1, none⟩ = some (.string x.name) := (cell_of_row w1 _ 1 _ _ _ g1).trans e1
  have m2 : w1.cell? ⟨w.heap.size, 2, none⟩ = some (.string x.user) := (cell_of_row w1 _ 2 _ _ _ g1).trans e2
  have m3 : w1.cell? ⟨w.heap.size, 3, none⟩ = some (.string x.account) := (cell_of_row w1 _ 3 _ _ _ g1).trans e3
  have m10 : w1.cell? ⟨w.heap.size, 10, none⟩ = some (.slice A2 m c2) := (cell_of_row w1 _ 10 _ _ _ g1).trans e10
  clear hb1 hb g1
  cases q1
  case false =>
    go_wp2
    go_ret
    exact ⟨rfl, B1.out⟩
  cases q2
  case false =>
    go_wp2
    go_ret
    exact ⟨rfl, B1.out⟩
  cases q3
  case false =>
    go_wp2
    go_ret
    exact ⟨rfl, B1.out⟩
  cases q4
  all_goals
    go_wp2
    go_ret
    exact ⟨rfl, B1.out⟩
theorem Reads.only_ {w w' : World} {B size n p : Nat} {A : Option Addr} {xs : List Value} (h : Reads w B size A n xs) (ho : Off (p + 1) A n) (hw : Only p w w') : Reads w' B size A n xs := h.only ho (Nat.lt_succ_self p) hw
theorem sameJ_refl (x : Jb) : sameJ x x = true := by unfold sameJ sameS; simp
theorem fewA_len {s : Sh} (h : fewA s = true) : s.alts.length ≤ 100 := by unfold fewA at h; simpa using h
theorem fewJ_of {x : Jb} (h : fewJ x = true) : x.shape.alts.length ≤ 100 ∧ x.after.length ≤ 100 ∧ x.name.size ≤ 1000 ∧ x.user.size ≤ 1000 ∧ x.account.size ≤ 1000 := by
  unfold fewJ fewT at h
  simp only [Bool.and_eq_true, decide_eq_true_eq] at h
  exact ⟨fewA_len h.1, h.2.1, h.2.2.1, h.2.2.2.1, h.2.2.2.2⟩
theorem fewC_of {x : Cm} (h : fewC x = true) : x.shape.alts.length ≤ 100 ∧ x.after.length ≤ 100 ∧ x.name.size ≤ 1000 ∧ x.user.size ≤ 1000 ∧ x.account.size ≤ 1000 := by
  unfold fewC fewT at h
  simp only [Bool.and_eq_true, decide_eq_true_eq] at h
  exact ⟨fewA_len h.1, h.2.1, h.2.2.1, h.2.2.2.1, h.2.2.2.2⟩
def JbIn (w : World) (x : Jb) (A : Option Addr) (c : Nat) (A2 : Option Addr) (c2 : Nat) : Prop :=
  Reads w w.heap.size 2 A x.shape.alts.length (recs prC x.shape.alts) ∧ Reads w w.heap.size 2 A2 x.after.length (recs prC x.after) ∧ x.shape.alts.length ≤ c ∧ x.after.length ≤ c2 ∧ x.nodes < M64
def CmIn (w : World) (x : Cm) (A : Option Addr) (c : Nat) (A2 : Option Addr) (c2 : Nat) : Prop :=
  Reads w w.heap.size 2 A x.shape.alts.length (recs prC x.shape.alts) ∧ Reads w w.heap.size 2 A2 x.after.length (recs prC x.after) ∧ x.shape.alts.length ≤ c ∧ x.after.length ≤ c2
theorem JbIn.at_ {w : World} {x : Jb} {A : Option Addr} {c : Nat} {A2 : Option Addr} {c2 : Nat} (h : JbIn w x A c A2 c2) (hf : fewJ x = true) : JbAt w w.heap.size x A c A2 c2 ∧ JbSz x := by
  obtain ⟨h1, h2, h3, h4, h5⟩ := h
  obtain ⟨f1, f2, f3, f4, f5⟩ := fewJ_of hf
  exact ⟨⟨h1, h2, by omega, by omega, h3, h4⟩, ⟨by omega, by omega, by omega⟩, h5⟩
theorem CmIn.at_ {w : World} {x : Cm} {A : Option Addr} {c : Nat} {A2 : Option Addr} {c2 : Nat} (h : CmIn w x A c A2 c2) (hf : fewC x = true) : CmAt w w.heap.size x A c A2 c2 ∧ CmSz x := by
  obtain ⟨h1, h2, h3, h4⟩ := h
  obtain ⟨f1, f2, f3, f4, f5⟩ := fewC_of hf
  exact ⟨⟨h1, h2, by omega, by omega, h3, h4⟩, by omega, by omega, by omega⟩
end Go.Proofs.YtghmcdfmbjabnaaGreatDoor
namespace Go.Proofs.YtghmcdfmbjabnaaGreatDoor
set_option linter.unusedSimpArgs false
set_option maxRecDepth 100000
set_option linter.unusedVariables false
open Go.RowKit Go.ChangeShapes Go.WideShapes Go.Deep
section
variable {H : Type} {enc0 : TypeId × Value → H} {w : World} {base : Nat} {held : Bool}
theorem open_alt {fuel : Nat} {cs : List Value} {x : DataW H × List MemPlace} (h : DataW.trod enc0 Tryz.prog w base (fun _ => true) held fuel 103 cs = some x) : ∃ t : Pr, cs = prC t ∧ True := by
  obtain ⟨xs, n, _, _, hlen, hxl, hf⟩ := DataW.trod_struct Tryz.underlying103 h
  have hl : cs.length = 2 := hlen.trans (by kernel_rfl)
  match cs, hl, xs, hxl with
  | [c0, c1], _, [y0, y1], _ =>
    obtain ⟨n0, e0, _⟩ := DataW.trod_int Tryz.underlying3 (hf 0 _ rfl)
    obtain ⟨n1, e1, _⟩ := DataW.trod_int Tryz.underlying3 (hf 1 _ rfl)
    have k2 : Tryz.prog.cellsOf 3 = 1 := by kernel_rfl
    simp [k2] at e0 e1
    subst e0; subst e1
    exact ⟨(n0, n1), rfl, trivial⟩
theorem open_dep {fuel : Nat} {cs : List Value} {x : DataW H × List MemPlace} (h : DataW.trod enc0 Tryz.prog w base (fun _ => true) held fuel 85 cs = some x) : ∃ t : Pr, cs = prC t ∧ True := by
  obtain ⟨xs, n, _, _, hlen, hxl, hf⟩ := DataW.trod_struct Tryz.underlying85 h
  have hl : cs.length = 2 := hlen.trans (by kernel_rfl)
  match cs, hl, xs, hxl with
  | [c0, c1], _, [y0, y1], _ =>
    obtain ⟨n0, e0, _⟩ := DataW.trod_int Tryz.underlying3 (hf 0 _ rfl)
    obtain ⟨n1, e1, _⟩ := DataW.trod_int Tryz.underlying3 (hf 1 _ rfl)
    have k2 : Tryz.prog.cellsOf 3 = 1 := by kernel_rfl
    simp [k2] at e0 e1
    subst e0; subst e1
    exact ⟨(n0, n1), rfl, trivial⟩
theorem list_len {A : Option Addr} {n B : Nat} {l : List Pr} (h : Reads w B 2 A n (recs prC l)) : l.length = n := by
  have := h.1
  rw [recs_len prC_len] at this
  omega
theorem open_alts {fuel : Nat} {cs : List Value} {x : DataW H × List MemPlace} (h : DataW.trod enc0 Tryz.prog w base (fun _ => true) held fuel 22 cs = some x) :
    ∃ (A : Option Addr) (c : Nat) (l : List Pr), cs = [.slice A l.length c] ∧ Reads w w.heap.size 2 A l.length (recs prC l) ∧ l.length ≤ c := by
  obtain ⟨A, n, c, l, e, hr, h1, h2, _⟩ := open_list (m := 2) Tryz.underlying22 (by kernel_rfl) (by omega) prC_len (fun _ _ _ h => open_alt h) h
  have hl := list_len hr
  subst hl
  exact ⟨A, c, l, e, hr, h1⟩
theorem open_deps {fuel : Nat} {cs : List Value} {x : DataW H × List MemPlace} (h : DataW.trod enc0 Tryz.prog w base (fun _ => true) held fuel 25 cs = some x) :
    ∃ (A : Option Addr) (c : Nat) (l : List Pr), cs = [.slice A l.length c] ∧ Reads w w.heap.size 2 A l.length (recs prC l) ∧ l.length ≤ c := by
  obtain ⟨A, n, c, l, e, hr, h1, h2, _⟩ := open_list (m := 2) Tryz.underlying25 (by kernel_rfl) (by omega) prC_len (fun _ _ _ h => open_dep h) h
  have hl := list_len hr
  subst hl
  exact ⟨A, c, l, e, hr, h1⟩
theorem open_sh {fuel : Nat} {cs : List Value} {x : DataW H × List MemPlace} (h : DataW.trod enc0 Tryz.prog w base (fun _ => true) held fuel 24 cs = some x) :
    ∃ (s : Sh) (A : Option Addr) (c : Nat), cs = shC s A c ∧ Reads w w.heap.size 2 A s.alts.length (recs prC s.alts) ∧ s.alts.length ≤ c := by
  obtain ⟨xs, n, _, _, hlen, hxl, hf⟩ := DataW.trod_struct Tryz.underlying24 h
  have hl : cs.length = 5 := hlen.trans (by kernel_rfl)
  match cs, hl, xs, hxl with
  | [c0, c1, c2, c3, c4], _, [y0, y1, y2, y3, y4], _ =>
    have k1 : Tryz.prog.cellsOf 22 = 1 := by kernel_rfl
    have k2 : Tryz.prog.cellsOf 3 = 1 := by kernel_rfl
    obtain ⟨n0, e0, _⟩ := DataW.trod_int Tryz.underlying3 (hf 0 _ rfl)
    obtain ⟨A, c, l, e1, hr, hc⟩ := open_alts (hf 1 _ rfl)
    obtain ⟨n2, e2, _⟩ := DataW.trod_int Tryz.underlying3 (hf 2 _ rfl)
    obtain ⟨n3, e3, _⟩ := DataW.trod_int Tryz.underlying3 (hf 3 _ rfl)
    obtain ⟨n4, e4, _⟩ := DataW.trod_int Tryz.underlying3 (hf 4 _ rfl)
    simp [k1, k2] at e0 e1 e2 e3 e4
    subst e0; subst e1; subst e2; subst e3; subst e4
    exact ⟨⟨n0, l, n2, n3, n4⟩, A, c, rfl, hr, hc⟩
def JbWf (x : Jb) : Prop := (x.name.size ≤ maxLen ∧ x.user.size ≤ maxLen ∧ x.account.size ≤ maxLen) ∧ x.nodes < M64
set_option maxHeartbeats 1000000 in
theorem open_jb {b0 : Nat} {r : Reach} {v : Value} {d : DataW H} {p : List MemPlace} (hv : Value.okWide Tryz.prog w r b0 28 v) (h : DataW.Trod enc0 Tryz.prog w base (fun _ => true) held 28 v d p) :
    ∃ (x : Jb) (A A2 : Option Addr) (c c2 : Nat), v = jbV x A c A2 c2 ∧ Reads w w.heap.size 2 A x.shape.alts.length (recs prC x.shape.alts) ∧ Reads w w.heap.size 2 A2 x.after.length (recs prC x.after) ∧ x.shape.alts.length ≤ c ∧ x.after.length ≤ c2 ∧ JbWf x := by
  obtain ⟨cv, rfl, hsz⟩ := okWide_struct Tryz.underlying28 hv
  obtain ⟨fuel, hf0⟩ := h
  obtain ⟨xs, n, _, _, hlen, hxl, hf⟩ := DataW.trod_struct Tryz.underlying28 hf0
  obtain ⟨cs⟩ := cv
  have hl : cs.length = 20 := by simpa using hsz.trans (by kernel_rfl)
  match cs, hl, xs, hxl with
  | [c0, c1, c2, c3, c4, c5, c6, c7, c8, c9, c10, c11, c12, c13, c14, c15, c16, c17, c18, c19], _, [y0, y1, y2, y3, y4, y5, y6, y7, y8, y9, y10, y11, y12, y13, y14, y15], _ =>
    have k1 : Tryz.prog.cellsOf 25 = 1 := by kernel_rfl
    have k2 : Tryz.prog.cellsOf 3 = 1 := by kernel_rfl
    have k3 : Tryz.prog.cellsOf 9 = 1 := by kernel_rfl
    have k4 : Tryz.prog.cellsOf 4 = 1 := by kernel_rfl
    have k5 : Tryz.prog.cellsOf 24 = 5 := by kernel_rfl
    have k6 : Tryz.prog.cellsOf 26 = 1 := by kernel_rfl
    obtain ⟨n0, e0, _⟩ := DataW.trod_int Tryz.underlying3 (hf 0 _ rfl)
    obtain ⟨s1, e1, _, m1⟩ := DataW.trod_string Tryz.underlying9 (hf 1 _ rfl)
    obtain ⟨s2, e2, _, m2⟩ := DataW.trod_string Tryz.underlying9 (hf 2 _ rfl)
    obtain ⟨s3, e3, _, m3⟩ := DataW.trod_string Tryz.underlying9 (hf 3 _ rfl)
    obtain ⟨s, A, c, e4, hr, hc⟩ := open_sh (hf 4 _ rfl)
    obtain ⟨n5, e5, _⟩ := DataW.trod_int Tryz.underlying3 (hf 5 _ rfl)
    obtain ⟨A2, c2, l, e6, hr2, hc2⟩ := open_deps (hf 6 _ rfl)
    obtain ⟨n7, e7, _⟩ := DataW.trod_int Tryz.underlying3 (hf 7 _ rfl)
    obtain ⟨b8, e8, _⟩ := DataW.trod_bool Tryz.underlying4 (hf 8 _ rfl)
    obtain ⟨n9, e9, _⟩ := DataW.trod_int Tryz.underlying3 (hf 9 _ rfl)
    obtain ⟨n10, e10, _⟩ := DataW.trod_int Tryz.underlying3 (hf 10 _ rfl)
    obtain ⟨n11, e11, _⟩ := DataW.trod_int Tryz.underlying3 (hf 11 _ rfl)
    obtain ⟨n12, e12, _⟩ := DataW.trod_int Tryz.underlying3 (hf 12 _ rfl)
    obtain ⟨n13, e13, _⟩ := DataW.trod_int Tryz.underlying3 (hf 13 _ rfl)
    obtain ⟨n14, e14, _, m14⟩ := DataW.trod_int Tryz.underlying26 (hf 14 _ rfl)
    obtain ⟨n15, e15, _⟩ := DataW.trod_int Tryz.underlying3 (hf 15 _ rfl)
    obtain ⟨u, hu, hu2⟩ : ∃ s : Nat, n14 = (s : Int) ∧ s < M64 := by
      obtain ⟨h0, h1⟩ := Go.bounds_u64 m14
      exact ⟨n14.toNat, by omega, by rw [M64_is]; omega⟩
    subst hu
    unfold shC at e4
    simp [k1, k2, k3, k4, k5, k6, Value.cells] at e0 e1 e2 e3 e4 e5 e6 e7 e8 e9 e10 e11 e12 e13 e14 e15
    obtain ⟨f1, f2, f3, f4, f5⟩ := e4
    subst e0 e1 e2 e3 f1 f2 f3 f4 f5 e5 e6 e7 e8 e9 e10 e11 e12 e13 e14 e15
    exact ⟨⟨n0, s1, s2, s3, s, n5, l, n7, b8, n9, n10, n11, n12, n13, u, n15⟩, A, A2, c, c2, rfl, hr, hr2, hc, hc2, ⟨m1, m2, m3⟩, hu2⟩
end
end Go.Proofs.YtghmcdfmbjabnaaGreatDoor
