/- Layer 14: the reference's Same walked (printed by a program of my own). -/
import Derived.Test.YtfnmmbfngniheaaGreatDoorJbW1
import Derived.Test.YtfnmmbfngniheaaGreatDoorShR5
namespace Go.Proofs.YtfnmmbfngniheaaGreatDoor
set_option linter.unusedVariables false
open Go.RowKit
set_option linter.unusedSimpArgs false in
set_option maxHeartbeats 16000000 in
set_option maxRecDepth 100000 in
theorem rsameJ_any (x y : Jb) (A A2 D D2 : Option Addr) (c c2 d d2 B : Nat) (w : World) (hx : JbAt w B x A c A2 c2) (hy : JbAt w B y D d D2 d2) (hB : B ≤ w.heap.size) :
    Calls Tryz.prog 20 #[jbV x A c A2 c2, jbV y D d D2 d2] w fun e w' => e = .returned (.bool (sameJ x y)) ∧ Below w.heap.size w w' := by
  have hs := Lib.hid (fun v (hv : Below w.heap.size w v) => rsameS_any x.shape y.shape A D c d B v (hx.1.below (hv.mono hB)) (hy.1.below (hv.mono hB)) (by have := hx.2.2.1; omega) (by have := hy.2.2.1; omega) (Nat.le_trans hB hv.size))
  have hl1 := Lib.hid (fun v (hv : Below w.heap.size w v) => hx.2.1.below (hv.mono hB))
  have hl2 := Lib.hid (fun v (hv : Below w.heap.size w v) => hy.2.1.below (hv.mono hB))
  have hn1 := hx.2.2.2.1
  have hn2 := hy.2.2.2.1
  obtain ⟨R, hR⟩ : ∃ R, sameJ x y = R := ⟨_, rfl⟩
  have HQ : Hid (R = sameJ x y) := hR.symm
  rw [hR]
  clear hR
  unfold sameJ at HQ
  unfold jbV
  obtain ⟨q, hq⟩ : ∃ q, sameS x.shape y.shape = q := ⟨_, rfl⟩
  rw [hq] at hs HQ
  unfold shV at hs
  clear hq hx hy
  obtain ⟨n1, e1⟩ : ∃ n, x.shape.alts.length = n := ⟨_, rfl⟩
  obtain ⟨n2, e2⟩ : ∃ n, y.shape.alts.length = n := ⟨_, rfl⟩
  obtain ⟨m1, e3⟩ : ∃ n, x.after.length = n := ⟨_, rfl⟩
  obtain ⟨m2, e4⟩ : ∃ n, y.after.length = n := ⟨_, rfl⟩
  rw [e1, e2] at hs ⊢
  rw [e3] at hl1 hn1 ⊢
  rw [e4] at hl2 hn2 ⊢
  have E3 := Lib.hid e3
  have E4 := Lib.hid e4
  clear e1 e2 e3 e4
  obtain ⟨xid, xname, xuser, xaccount, ⟨xk, xl, xm, xn, xo⟩, xprio, xafter, xstate, xheld, xborn, xpromise, xchoice, xstart, xlimit, xnodes, xused⟩ := x
  obtain ⟨yid, yname, yuser, yaccount, ⟨yk, yl, ym, yn, yo⟩, yprio, yafter, ystate, yheld, yborn, ypromise, ychoice, ystart, ylimit, ynodes, yused⟩ := y
  dsimp only at hs hl1 hl2 HQ E3 E4 ⊢
  have HBX : Hid (Below w.heap.size w ((w.alloc (.cells #[.int .i64 xid, .string xname, .string xuser, .string xaccount, .int .i64 xk, .slice A n1 c, .int .i64 xm, .int .i64 xn, .int .i64 xo, .int .i64 xprio, .slice A2 m1 c2, .int .i64 xstate, .bool xheld, .int .i64 xborn, .int .i64 xpromise, .int .i64 xchoice, .int .i64 xstart, .int .i64 xlimit, .int .u64 (xnodes : Nat), .int .i64 xused] 30)).alloc (.cells #[.int .i64 yid, .string yname, .string yuser, .string yaccount, .int .i64 yk, .slice D n2 d, .int .i64 ym, .int .i64 yn, .int .i64 yo, .int .i64 yprio, .slice D2 m2 d2, .int .i64 ystate, .bool yheld, .int .i64 yborn, .int .i64 ypromise, .int .i64 ychoice, .int .i64 ystart, .int .i64 ylimit, .int .u64 (ynodes : Nat), .int .i64 yused] 30))) := ((Below.refl _ _).alloc (Nat.le_refl _) _).alloc (by simp) _
  obtain ⟨W0, hW0⟩ : ∃ W0, Hid (((w.alloc (.cells #[.int .i64 xid, .string xname, .string xuser, .string xaccount, .int .i64 xk, .slice A n1 c, .int .i64 xm, .int .i64 xn, .int .i64 xo, .int .i64 xprio, .slice A2 m1 c2, .int .i64 xstate, .bool xheld, .int .i64 xborn, .int .i64 xpromise, .int .i64 xchoice, .int .i64 xstart, .int .i64 xlimit, .int .u64 (xnodes : Nat), .int .i64 xused] 30)).alloc (.cells #[.int .i64 yid, .string yname, .string yuser, .string yaccount, .int .i64 yk, .slice D n2 d, .int .i64 ym, .int .i64 yn, .int .i64 yo, .int .i64 yprio, .slice D2 m2 d2, .int .i64 ystate, .bool yheld, .int .i64 yborn, .int .i64 ypromise, .int .i64 ychoice, .int .i64 ystart, .int .i64 ylimit, .int .u64 (ynodes : Nat), .int .i64 yused] 30)) = W0) := ⟨_, rfl⟩
  have hz0 : W0.heap.size = w.heap.size + 2 := by rw [← hW0.out]; simp
  have hcx : W0.heap[w.heap.size]? = some (.cells #[.int .i64 xid, .string xname, .string xuser, .string xaccount, .int .i64 xk, .slice A n1 c, .int .i64 xm, .int .i64 xn, .int .i64 xo, .int .i64 xprio, .slice A2 m1 c2, .int .i64 xstate, .bool xheld, .int .i64 xborn, .int .i64 xpromise, .int .i64 xchoice, .int .i64 xstart, .int .i64 xlimit, .int .u64 (xnodes : Nat), .int .i64 xused] 30 (0, 0)) := by
    rw [← hW0.out]
    exact (Below.heap_alloc _ _ _ (by simp)).trans (heap_alloc_new w _)
  have hcy : W0.heap[w.heap.size + 1]? = some (.cells #[.int .i64 yid, .string yname, .string yuser, .string yaccount, .int .i64 yk, .slice D n2 d, .int .i64 ym, .int .i64 yn, .int .i64 yo, .int .i64 yprio, .slice D2 m2 d2, .int .i64 ystate, .bool yheld, .int .i64 yborn, .int .i64 ypromise, .int .i64 ychoice, .int .i64 ystart, .int .i64 ylimit, .int .u64 (ynodes : Nat), .int .i64 yused] 30 (0, 0)) := by
    rw [← hW0.out]
    have h := heap_alloc_new (w.alloc (.cells #[.int .i64 xid, .string xname, .string xuser, .string xaccount, .int .i64 xk, .slice A n1 c, .int .i64 xm, .int .i64 xn, .int .i64 xo, .int .i64 xprio, .slice A2 m1 c2, .int .i64 xstate, .bool xheld, .int .i64 xborn, .int .i64 xpromise, .int .i64 xchoice, .int .i64 xstart, .int .i64 xlimit, .int .u64 (xnodes : Nat), .int .i64 xused] 30)) (.cells #[.int .i64 yid, .string yname, .string yuser, .string yaccount, .int .i64 yk, .slice D n2 d, .int .i64 ym, .int .i64 yn, .int .i64 yo, .int .i64 yprio, .slice D2 m2 d2, .int .i64 ystate, .bool yheld, .int .i64 yborn, .int .i64 ypromise, .int .i64 ychoice, .int .i64 ystart, .int .i64 ylimit, .int .u64 (ynodes : Nat), .int .i64 yused] 30)
    rwa [World.size_alloc] at h
  rw [hW0.out] at HBX
  have HCX := Lib.hid hcx
  have HCY := Lib.hid hcy
  clear hcx hcy
  by_cases hnm : m1 = m2
  case neg =>
    have t0 : ((m1 : Int) != (m2 : Int)) = true := by simp; omega
    have HR : Hid (R = false) := by
      show _ = _
      have : decide (xafter = yafter) = false := decide_eq_false (fun h => hnm (by rw [← E3.out, ← E4.out, h]))
      rw [HQ.out, this]; simp only [Bool.false_and, Bool.and_false]
    clear hnm
    go_enter Tryz.func20, Tryz.ntmps20
    go_wp2
    go_ret
    rw [hW0.out]
    exact ⟨by rw [HR.out]; rfl, HBX.out⟩
  subst hnm
  have t0 : ((m1 : Int) != (m1 : Int)) = false := by simp
  go_enter Tryz.func20, Tryz.ntmps20
  go_wp2_with (fail)
  rw [hW0.out]
  refine (hs.out _ HBX.out).mono ?_; rintro e w1 ⟨rfl, hb1⟩
  have B1 := Lib.hid (bt HBX.out hb1)
  have gx := Lib.hid ((hb1.block _ (by omega)).trans HCX.out)
  have gy := Lib.hid ((hb1.block _ (by omega)).trans HCY.out)
  have hz1 := hb1.size
  have hl1' := Lib.hid (hl1.out _ B1.out)
  have hl2' := Lib.hid (hl2.out _ B1.out)
  clear hb1 hl1 hl2
  cases q
  case false =>
    have HR : Hid (R = false) := by show _ = _; rw [HQ.out]; simp only [Bool.false_and, Bool.and_false]
    go_wp2
    go_ret
    exact ⟨by rw [HR.out]; rfl, B1.out⟩
  have x10 : w1.cell? ⟨w.heap.size, 10, none⟩ = some (.slice A2 m1 c2) := cell_of_row w1 w.heap.size 10 _ _ _ gx.out
  have y10 : w1.cell? ⟨w.heap.size + 1, 10, none⟩ = some (.slice D2 m1 d2) := cell_of_row w1 (w.heap.size + 1) 10 _ _ _ gy.out
  go_wp2
  go_loopw [5] (fun i wr => ∃ (k p : Nat), k ≤ m1 ∧ i = .int .i64 k ∧ wr = w1.drewN p ∧ Hid (xafter.take k = yafter.take k)) (fun i _ => m1 - (intOf i).toNat)
  case atStart => exact ⟨0, 0, Nat.zero_le _, rfl, rfl, by show _ = _; simp⟩
  case round =>
    obtain ⟨k, p, hk, rfl, rfl, HO⟩ := hrel
    by_cases hlt : k < m1
    · have t1 : decide ((k : Int) < (m1 : Int)) = true := by simp; omega
      obtain ⟨b, o, u, rfl, hbb, hu, u0, u1⟩ := hl1'.out.pr_at hlt
      obtain ⟨b2, o2, v, rfl, hbb2, hv, v0, v1⟩ := hl2'.out.pr_at hlt
      have hj0 : (0 : Int) ≤ (k : Int) := by omega
      have hj1 : (k : Int) < (m1 : Int) := by omega
      have hneq := fun z => prD_neq u v z
      by_cases hxy : u = v
      · have e : decide (u = v) = true := decide_eq_true hxy
        rw [e] at hneq
        have HO2 : Hid (xafter.take (k + 1) = yafter.take (k + 1)) := by
          show _ = _
          rw [List.take_add_one, List.take_add_one, hu.out, hv.out, HO.out, hxy]
        clear e hxy
        go_wp2
        go_quiet (fail)
        go_wp2
        go_roundw
        case rel => exact ⟨k + 1, _, by omega, by go_num, by first | rfl | exact World.drewN_drewN _ _ _, HO2⟩
        case measure => simp [intOf]; omega
      · have e : decide (u = v) = false := decide_eq_false hxy
        rw [e] at hneq
        have HR : Hid (R = false) := by
          show _ = _
          have : decide (xafter = yafter) = false := decide_eq_false (fun hl => hxy (by
            have h1 := hu.out
            rw [hl, hv.out] at h1
            exact (Option.some.inj h1).symm))
          rw [HQ.out, this]; simp only [Bool.false_and, Bool.and_false]
        clear e hxy
        go_wp2
        go_quiet (fail)
        go_wp2
        go_ret
        exact ⟨by rw [HR.out]; rfl, below_drewN (below_drewN B1.out _) _⟩
    · obtain rfl : k = m1 := by omega
      have t1 : decide ((k : Int) < (k : Int)) = false := by simp
      have HA : decide (xafter = yafter) = true := by
        refine decide_eq_true ?_
        have h1 := HO.out
        rwa [List.take_of_length_le (by rw [E3.out]; exact Nat.le_refl _), List.take_of_length_le (by rw [E4.out]; exact Nat.le_refl _)] at h1
      rw [HA] at HQ
      clear HA
      have x0 : w1.cell? ⟨w.heap.size, 0, none⟩ = some (.int .i64 xid) := cell_of_row w1 w.heap.size 0 _ _ _ gx.out
      have y0 : w1.cell? ⟨w.heap.size + 1, 0, none⟩ = some (.int .i64 yid) := cell_of_row w1 (w.heap.size + 1) 0 _ _ _ gy.out
      cases t0 : (xid == yid)
      case false =>
        have HR : Hid (R = false) := by show _ = _; rw [HQ.out, t0]; simp only [Bool.false_and, Bool.and_false]
        go_wp2
        go_ret
        exact ⟨by rw [HR.out]; rfl, below_drewN B1.out _⟩
      have x1 : w1.cell? ⟨w.heap.size, 1, none⟩ = some (.string xname) := cell_of_row w1 w.heap.size 1 _ _ _ gx.out
      have y1 : w1.cell? ⟨w.heap.size + 1, 1, none⟩ = some (.string yname) := cell_of_row w1 (w.heap.size + 1) 1 _ _ _ gy.out
      cases t1 : (xname.toList == yname.toList)
      case false =>
        have HR : Hid (R = false) := by show _ = _; rw [HQ.out, t1]; simp only [Bool.false_and, Bool.and_false]
        go_wp2
        go_ret
        exact ⟨by rw [HR.out]; rfl, below_drewN B1.out _⟩
      have x2 : w1.cell? ⟨w.heap.size, 2, none⟩ = some (.string xuser) := cell_of_row w1 w.heap.size 2 _ _ _ gx.out
      have y2 : w1.cell? ⟨w.heap.size + 1, 2, none⟩ = some (.string yuser) := cell_of_row w1 (w.heap.size + 1) 2 _ _ _ gy.out
      cases t2 : (xuser.toList == yuser.toList)
      case false =>
        have HR : Hid (R = false) := by show _ = _; rw [HQ.out, t2]; simp only [Bool.false_and, Bool.and_false]
        go_wp2
        go_ret
        exact ⟨by rw [HR.out]; rfl, below_drewN B1.out _⟩
      have x3 : w1.cell? ⟨w.heap.size, 3, none⟩ = some (.string xaccount) := cell_of_row w1 w.heap.size 3 _ _ _ gx.out
      have y3 : w1.cell? ⟨w.heap.size + 1, 3, none⟩ = some (.string yaccount) := cell_of_row w1 (w.heap.size + 1) 3 _ _ _ gy.out
      cases t3 : (xaccount.toList == yaccount.toList)
      case false =>
        have HR : Hid (R = false) := by show _ = _; rw [HQ.out, t3]; simp only [Bool.false_and, Bool.and_false]
        go_wp2
        go_ret
        exact ⟨by rw [HR.out]; rfl, below_drewN B1.out _⟩
      have x9 : w1.cell? ⟨w.heap.size, 9, none⟩ = some (.int .i64 xprio) := cell_of_row w1 w.heap.size 9 _ _ _ gx.out
      have y9 : w1.cell? ⟨w.heap.size + 1, 9, none⟩ = some (.int .i64 yprio) := cell_of_row w1 (w.heap.size + 1) 9 _ _ _ gy.out
      cases t9 : (xprio == yprio)
      case false =>
        have HR : Hid (R = false) := by show _ = _; rw [HQ.out, t9]; simp only [Bool.false_and, Bool.and_false]
        go_wp2
        go_ret
        exact ⟨by rw [HR.out]; rfl, below_drewN B1.out _⟩
      have x11 : w1.cell? ⟨w.heap.size, 11, none⟩ = some (.int .i64 xstate) := cell_of_row w1 w.heap.size 11 _ _ _ gx.out
      have y11 : w1.cell? ⟨w.heap.size + 1, 11, none⟩ = some (.int .i64 ystate) := cell_of_row w1 (w.heap.size + 1) 11 _ _ _ gy.out
      cases t11 : (xstate == ystate)
      case false =>
        have HR : Hid (R = false) := by show _ = _; rw [HQ.out, t11]; simp only [Bool.false_and, Bool.and_false]
        go_wp2
        go_ret
        exact ⟨by rw [HR.out]; rfl, below_drewN B1.out _⟩
      have x12 : w1.cell? ⟨w.heap.size, 12, none⟩ = some (.bool xheld) := cell_of_row w1 w.heap.size 12 _ _ _ gx.out
      have y12 : w1.cell? ⟨w.heap.size + 1, 12, none⟩ = some (.bool yheld) := cell_of_row w1 (w.heap.size + 1) 12 _ _ _ gy.out
      cases t12 : (xheld == yheld)
      case false =>
        have HR : Hid (R = false) := by show _ = _; rw [HQ.out, t12]; simp only [Bool.false_and, Bool.and_false]
        go_wp2
        go_ret
        exact ⟨by rw [HR.out]; rfl, below_drewN B1.out _⟩
      have x13 : w1.cell? ⟨w.heap.size, 13, none⟩ = some (.int .i64 xborn) := cell_of_row w1 w.heap.size 13 _ _ _ gx.out
      have y13 : w1.cell? ⟨w.heap.size + 1, 13, none⟩ = some (.int .i64 yborn) := cell_of_row w1 (w.heap.size + 1) 13 _ _ _ gy.out
      cases t13 : (xborn == yborn)
      case false =>
        have HR : Hid (R = false) := by show _ = _; rw [HQ.out, t13]; simp only [Bool.false_and, Bool.and_false]
        go_wp2
        go_ret
        exact ⟨by rw [HR.out]; rfl, below_drewN B1.out _⟩
      have x14 : w1.cell? ⟨w.heap.size, 14, none⟩ = some (.int .i64 xpromise) := cell_of_row w1 w.heap.size 14 _ _ _ gx.out
      have y14 : w1.cell? ⟨w.heap.size + 1, 14, none⟩ = some (.int .i64 ypromise) := cell_of_row w1 (w.heap.size + 1) 14 _ _ _ gy.out
      cases t14 : (xpromise == ypromise)
      case false =>
        have HR : Hid (R = false) := by show _ = _; rw [HQ.out, t14]; simp only [Bool.false_and, Bool.and_false]
        go_wp2
        go_ret
        exact ⟨by rw [HR.out]; rfl, below_drewN B1.out _⟩
      have x15 : w1.cell? ⟨w.heap.size, 15, none⟩ = some (.int .i64 xchoice) := cell_of_row w1 w.heap.size 15 _ _ _ gx.out
      have y15 : w1.cell? ⟨w.heap.size + 1, 15, none⟩ = some (.int .i64 ychoice) := cell_of_row w1 (w.heap.size + 1) 15 _ _ _ gy.out
      cases t15 : (xchoice == ychoice)
      case false =>
        have HR : Hid (R = false) := by show _ = _; rw [HQ.out, t15]; simp only [Bool.false_and, Bool.and_false]
        go_wp2
        go_ret
        exact ⟨by rw [HR.out]; rfl, below_drewN B1.out _⟩
      have x16 : w1.cell? ⟨w.heap.size, 16, none⟩ = some (.int .i64 xstart) := cell_of_row w1 w.heap.size 16 _ _ _ gx.out
      have y16 : w1.cell? ⟨w.heap.size + 1, 16, none⟩ = some (.int .i64 ystart) := cell_of_row w1 (w.heap.size + 1) 16 _ _ _ gy.out
      cases t16 : (xstart == ystart)
      case false =>
        have HR : Hid (R = false) := by show _ = _; rw [HQ.out, t16]; simp only [Bool.false_and, Bool.and_false]
        go_wp2
        go_ret
        exact ⟨by rw [HR.out]; rfl, below_drewN B1.out _⟩
      have x17 : w1.cell? ⟨w.heap.size, 17, none⟩ = some (.int .i64 xlimit) := cell_of_row w1 w.heap.size 17 _ _ _ gx.out
      have y17 : w1.cell? ⟨w.heap.size + 1, 17, none⟩ = some (.int .i64 ylimit) := cell_of_row w1 (w.heap.size + 1) 17 _ _ _ gy.out
      cases t17 : (xlimit == ylimit)
      case false =>
        have HR : Hid (R = false) := by show _ = _; rw [HQ.out, t17]; simp only [Bool.false_and, Bool.and_false]
        go_wp2
        go_ret
        exact ⟨by rw [HR.out]; rfl, below_drewN B1.out _⟩
      have x18 : w1.cell? ⟨w.heap.size, 18, none⟩ = some (.int .u64 (xnodes : Nat)) := cell_of_row w1 w.heap.size 18 _ _ _ gx.out
      have y18 : w1.cell? ⟨w.heap.size + 1, 18, none⟩ = some (.int .u64 (ynodes : Nat)) := cell_of_row w1 (w.heap.size + 1) 18 _ _ _ gy.out
      cases t18 : ((xnodes : Int) == (ynodes : Int))
      case false =>
        have HR : Hid (R = false) := by show _ = _; rw [HQ.out, t18]; simp only [Bool.false_and, Bool.and_false]
        go_wp2
        go_ret
        exact ⟨by rw [HR.out]; rfl, below_drewN B1.out _⟩
      have x19 : w1.cell? ⟨w.heap.size, 19, none⟩ = some (.int .i64 xused) := cell_of_row w1 w.heap.size 19 _ _ _ gx.out
      have y19 : w1.cell? ⟨w.heap.size + 1, 19, none⟩ = some (.int .i64 yused) := cell_of_row w1 (w.heap.size + 1) 19 _ _ _ gy.out
      cases t19 : (xused == yused)
      case false =>
        have HR : Hid (R = false) := by show _ = _; rw [HQ.out, t19]; simp only [Bool.false_and, Bool.and_false]
        go_wp2
        go_ret
        exact ⟨by rw [HR.out]; rfl, below_drewN B1.out _⟩
      have HR : Hid (R = true) := by show _ = _; rw [HQ.out, t1, t2, t3, t0, t9, t11, t12, t13, t14, t15, t16, t17, t18, t19]; simp only [Bool.and_true, Bool.true_and]
      go_wp2
      go_ret
      exact ⟨by rw [HR.out]; rfl, below_drewN B1.out _⟩
end Go.Proofs.YtfnmmbfngniheaaGreatDoor
