/- Layer 14: Same walked (printed by a program of my own). -/
import Derived.Test.YtghmcdfmbjabnaaGreatDoorQ0t
import Derived.Test.YtghmcdfmbjabnaaGreatDoorS1t
namespace Go.Proofs.YtghmcdfmbjabnaaGreatDoor
set_option linter.unusedVariables false
open Go.RowKit
set_option maxHeartbeats 16000000 in
theorem sameJ_any (x y : Jb) (A A2 D D2 : Option Addr) (c c2 d d2 B : Nat) (w : World) (hx : JbAt w B x A c A2 c2) (hy : JbAt w B y D d D2 d2) (hB : B ≤ w.heap.size) :
    Calls Tryz.prog 54 #[jbV x A c A2 c2, jbV y D d D2 d2] w fun e w' => e = .returned (.bool (sameJ x y)) ∧ Below w.heap.size w w' := by
  have hs := Lib.hid (fun v (hv : Below w.heap.size w v) => sameS_any x.shape y.shape A D c d B v (hx.1.below (hv.mono hB)) (hy.1.below (hv.mono hB)) (by have := hx.2.2.1; omega) (by have := hy.2.2.1; omega) (Nat.le_trans hB hv.size))
  have hd := Lib.hid (fun v (hv : Below w.heap.size w v) => equalD_any A2 D2 _ _ c2 d2 B x.after y.after v (hx.2.1.below (hv.mono hB)) (hy.2.1.below (hv.mono hB)) (by have := hx.2.2.2.1; omega) (by have := hy.2.2.2.1; omega) (Nat.le_trans hB hv.size))
  unfold jbV sameJ
  obtain ⟨q, hq⟩ : ∃ q, sameS x.shape y.shape = q := ⟨_, rfl⟩
  obtain ⟨p, hp⟩ : ∃ q, decide (x.after = y.after) = q := ⟨_, rfl⟩
  rw [hq] at hs ⊢
  rw [hp] at hd ⊢
  unfold shV at hs
  clear hq hp hx hy hB
  obtain ⟨n1, e1⟩ : ∃ n, x.shape.alts.length = n := ⟨_, rfl⟩
  obtain ⟨n2, e2⟩ : ∃ n, y.shape.alts.length = n := ⟨_, rfl⟩
  obtain ⟨m1, e3⟩ : ∃ n, x.after.length = n := ⟨_, rfl⟩
  obtain ⟨m2, e4⟩ : ∃ n, y.after.length = n := ⟨_, rfl⟩
  rw [e1, e2] at hs ⊢
  rw [e3, e4] at hd ⊢
  clear e1 e2 e3 e4
  obtain ⟨xid, xname, xuser, xaccount, ⟨xk, xl, xm, xn, xo⟩, xprio, xafter, xstate, xheld, xborn, xpromise, xchoice, xstart, xlimit, xnodes, xused⟩ := x
  obtain ⟨yid, yname, yuser, yaccount, ⟨yk, yl, ym, yn, yo⟩, yprio, yafter, ystate, yheld, yborn, ypromise, ychoice, ystart, ylimit, ynodes, yused⟩ := y
  dsimp only at hs hd ⊢
  have HBX : Hid (Below w.heap.size w ((w.alloc (.cells #[.int .i64 xid, .string xname, .string xuser, .string xaccount, .int .i64 xk, .slice A n1 c, .int .i64 xm, .int .i64 xn, .int .i64 xo, .int .i64 xprio, .slice A2 m1 c2, .int .i64 xstate, .bool xheld, .int .i64 xborn, .int .i64 xpromise, .int .i64 xchoice, .int .i64 xstart, .int .i64 xlimit, .int .u64 (xnodes : Nat), .int .i64 xused] 28)).alloc (.cells #[.int .i64 yid, .string yname, .string yuser, .string yaccount, .int .i64 yk, .slice D n2 d, .int .i64 ym, .int .i64 yn, .int .i64 yo, .int .i64 yprio, .slice D2 m2 d2, .int .i64 ystate, .bool yheld, .int .i64 yborn, .int .i64 ypromise, .int .i64 ychoice, .int .i64 ystart, .int .i64 ylimit, .int .u64 (ynodes : Nat), .int .i64 yused] 28))) := ((Below.refl _ _).alloc (Nat.le_refl _) _).alloc (by simp) _
  obtain ⟨W0, hW0⟩ : ∃ W0, Hid (((w.alloc (.cells #[.int .i64 xid, .string xname, .string xuser, .string xaccount, .int .i64 xk, .slice A n1 c, .int .i64 xm, .int .i64 xn, .int .i64 xo, .int .i64 xprio, .slice A2 m1 c2, .int .i64 xstate, .bool xheld, .int .i64 xborn, .int .i64 xpromise, .int .i64 xchoice, .int .i64 xstart, .int .i64 xlimit, .int .u64 (xnodes : Nat), .int .i64 xused] 28)).alloc (.cells #[.int .i64 yid, .string yname, .string yuser, .string yaccount, .int .i64 yk, .slice D n2 d, .int .i64 ym, .int .i64 yn, .int .i64 yo, .int .i64 yprio, .slice D2 m2 d2, .int .i64 ystate, .bool yheld, .int .i64 yborn, .int .i64 ypromise, .int .i64 ychoice, .int .i64 ystart, .int .i64 ylimit, .int .u64 (ynodes : Nat), .int .i64 yused] 28)) = W0) := ⟨_, rfl⟩
  have hz0 : W0.heap.size = w.heap.size + 2 := by rw [← hW0.out]; simp
  have hcx : W0.heap[w.heap.size]? = some (.cells #[.int .i64 xid, .string xname, .string xuser, .string xaccount, .int .i64 xk, .slice A n1 c, .int .i64 xm, .int .i64 xn, .int .i64 xo, .int .i64 xprio, .slice A2 m1 c2, .int .i64 xstate, .bool xheld, .int .i64 xborn, .int .i64 xpromise, .int .i64 xchoice, .int .i64 xstart, .int .i64 xlimit, .int .u64 (xnodes : Nat), .int .i64 xused] 28 (0, 0)) := by
    rw [← hW0.out]
    exact (Below.heap_alloc _ _ _ (by simp)).trans (heap_alloc_new w _)
  have hcy : W0.heap[w.heap.size + 1]? = some (.cells #[.int .i64 yid, .string yname, .string yuser, .string yaccount, .int .i64 yk, .slice D n2 d, .int .i64 ym, .int .i64 yn, .int .i64 yo, .int .i64 yprio, .slice D2 m2 d2, .int .i64 ystate, .bool yheld, .int .i64 yborn, .int .i64 ypromise, .int .i64 ychoice, .int .i64 ystart, .int .i64 ylimit, .int .u64 (ynodes : Nat), .int .i64 yused] 28 (0, 0)) := by
    rw [← hW0.out]
    have h := heap_alloc_new (w.alloc (.cells #[.int .i64 xid, .string xname, .string xuser, .string xaccount, .int .i64 xk, .slice A n1 c, .int .i64 xm, .int .i64 xn, .int .i64 xo, .int .i64 xprio, .slice A2 m1 c2, .int .i64 xstate, .bool xheld, .int .i64 xborn, .int .i64 xpromise, .int .i64 xchoice, .int .i64 xstart, .int .i64 xlimit, .int .u64 (xnodes : Nat), .int .i64 xused] 28)) (.cells #[.int .i64 yid, .string yname, .string yuser, .string yaccount, .int .i64 yk, .slice D n2 d, .int .i64 ym, .int .i64 yn, .int .i64 yo, .int .i64 yprio, .slice D2 m2 d2, .int .i64 ystate, .bool yheld, .int .i64 yborn, .int .i64 ypromise, .int .i64 ychoice, .int .i64 ystart, .int .i64 ylimit, .int .u64 (ynodes : Nat), .int .i64 yused] 28)
    rwa [World.size_alloc] at h
  rw [hW0.out] at HBX
  have HCX := Lib.hid hcx
  have HCY := Lib.hid hcy
  clear hcx hcy
  go_enter Tryz.func54, Tryz.ntmps54
  go_wp2_with (fail)
  rw [hW0.out]
  refine (hs.out _ HBX.out).mono ?_; rintro e w1 ⟨rfl, hb1⟩
  have B1 := Lib.hid (bt HBX.out hb1)
  have bx := Lib.hid ((hb1.block _ (by omega)).trans HCX.out)
  have by_ := Lib.hid ((hb1.block _ (by omega)).trans HCY.out)
  have hz1 := hb1.size
  have x10 : w1.cell? ⟨w.heap.size, 10, none⟩ = some (.slice A2 m1 c2) := cell_of_row w1 w.heap.size 10 _ _ _ bx.out
  have y10 : w1.cell? ⟨w.heap.size + 1, 10, none⟩ = some (.slice D2 m2 d2) := cell_of_row w1 (w.heap.size + 1) 10 _ _ _ by_.out
  clear hb1
  cases q
  case false =>
    go_wp2
    go_ret
    exact ⟨rfl, B1.out⟩
  go_wp2_with (fail)
  refine (hd.out _ B1.out).mono ?_; rintro e w2 ⟨rfl, hb2⟩
  have B2 := Lib.hid (bt B1.out hb2)
  have gx := Lib.hid ((hb2.block _ (by omega)).trans bx.out)
  have gy := Lib.hid ((hb2.block _ (by omega)).trans by_.out)
  have hz2 := hb2.size
  clear hb2 x10 y10
  cases p
  case false =>
    go_wp2
    go_ret
    exact ⟨rfl, B2.out⟩
  have x1 : w2.cell? ⟨w.heap.size, 1, none⟩ = some (.string xname) := cell_of_row w2 w.heap.size 1 _ _ _ gx.out
  have y1 : w2.cell? ⟨w.heap.size + 1, 1, none⟩ = some (.string yname) := cell_of_row w2 (w.heap.size + 1) 1 _ _ _ gy.out
  cases t1 : (xname.toList == yname.toList)
  case false =>
    go_wp2
    go_ret
    exact ⟨by rw [t1]; rfl, B2.out⟩
  have x2 : w2.cell? ⟨w.heap.size, 2, none⟩ = some (.string xuser) := cell_of_row w2 w.heap.size 2 _ _ _ gx.out
  have y2 : w2.cell? ⟨w.heap.size + 1, 2, none⟩ = some (.string yuser) := cell_of_row w2 (w.heap.size + 1) 2 _ _ _ gy.out
  cases t2 : (xuser.toList == yuser.toList)
  case false =>
    go_wp2
    go_ret
    exact ⟨by rw [t1, t2]; rfl, B2.out⟩
  have x3 : w2.cell? ⟨w.heap.size, 3, none⟩ = some (.string xaccount) := cell_of_row w2 w.heap.size 3 _ _ _ gx.out
  have y3 : w2.cell? ⟨w.heap.size + 1, 3, none⟩ = some (.string yaccount) := cell_of_row w2 (w.heap.size + 1) 3 _ _ _ gy.out
  cases t3 : (xaccount.toList == yaccount.toList)
  case false =>
    go_wp2
    go_ret
    exact ⟨by rw [t1, t2, t3]; rfl, B2.out⟩
  have x0 : w2.cell? ⟨w.heap.size, 0, none⟩ = some (.int .i64 xid) := cell_of_row w2 w.heap.size 0 _ _ _ gx.out
  have y0 : w2.cell? ⟨w.heap.size + 1, 0, none⟩ = some (.int .i64 yid) := cell_of_row w2 (w.heap.size + 1) 0 _ _ _ gy.out
  cases t0 : (xid == yid)
  case false =>
    go_wp2
    go_ret
    exact ⟨by rw [t1, t2, t3, t0]; rfl, B2.out⟩
  have x9 : w2.cell? ⟨w.heap.size, 9, none⟩ = some (.int .i64 xprio) := cell_of_row w2 w.heap.size 9 _ _ _ gx.out
  have y9 : w2.cell? ⟨w.heap.size + 1, 9, none⟩ = some (.int .i64 yprio) := cell_of_row w2 (w.heap.size + 1) 9 _ _ _ gy.out
  cases t9 : (xprio == yprio)
  case false =>
    go_wp2
    go_ret
    exact ⟨by rw [t1, t2, t3, t0, t9]; rfl, B2.out⟩
  have x11 : w2.cell? ⟨w.heap.size, 11, none⟩ = some (.int .i64 xstate) := cell_of_row w2 w.heap.size 11 _ _ _ gx.out
  have y11 : w2.cell? ⟨w.heap.size + 1, 11, none⟩ = some (.int .i64 ystate) := cell_of_row w2 (w.heap.size + 1) 11 _ _ _ gy.out
  cases t11 : (xstate == ystate)
  case false =>
    go_wp2
    go_ret
    exact ⟨by rw [t1, t2, t3, t0, t9, t11]; rfl, B2.out⟩
  have x12 : w2.cell? ⟨w.heap.size, 12, none⟩ = some (.bool xheld) := cell_of_row w2 w.heap.size 12 _ _ _ gx.out
  have y12 : w2.cell? ⟨w.heap.size + 1, 12, none⟩ = some (.bool yheld) := cell_of_row w2 (w.heap.size + 1) 12 _ _ _ gy.out
  cases t12 : (xheld == yheld)
  case false =>
    go_wp2
    go_ret
    exact ⟨by rw [t1, t2, t3, t0, t9, t11, t12]; rfl, B2.out⟩
  have x13 : w2.cell? ⟨w.heap.size, 13, none⟩ = some (.int .i64 xborn) := cell_of_row w2 w.heap.size 13 _ _ _ gx.out
  have y13 : w2.cell? ⟨w.heap.size + 1, 13, none⟩ = some (.int .i64 yborn) := cell_of_row w2 (w.heap.size + 1) 13 _ _ _ gy.out
  cases t13 : (xborn == yborn)
  case false =>
    go_wp2
    go_ret
    exact ⟨by rw [t1, t2, t3, t0, t9, t11, t12, t13]; rfl, B2.out⟩
  have x14 : w2.cell? ⟨w.heap.size, 14, none⟩ = some (.int .i64 xpromise) := cell_of_row w2 w.heap.size 14 _ _ _ gx.out
  have y14 : w2.cell? ⟨w.heap.size + 1, 14, none⟩ = some (.int .i64 ypromise) := cell_of_row w2 (w.heap.size + 1) 14 _ _ _ gy.out
  cases t14 : (xpromise == ypromise)
  case false =>
    go_wp2
    go_ret
    exact ⟨by rw [t1, t2, t3, t0, t9, t11, t12, t13, t14]; rfl, B2.out⟩
  have x15 : w2.cell? ⟨w.heap.size, 15, none⟩ = some (.int .i64 xchoice) := cell_of_row w2 w.heap.size 15 _ _ _ gx.out
  have y15 : w2.cell? ⟨w.heap.size + 1, 15, none⟩ = some (.int .i64 ychoice) := cell_of_row w2 (w.heap.size + 1) 15 _ _ _ gy.out
  cases t15 : (xchoice == ychoice)
  case false =>
    go_wp2
    go_ret
    exact ⟨by rw [t1, t2, t3, t0, t9, t11, t12, t13, t14, t15]; rfl, B2.out⟩
  have x16 : w2.cell? ⟨w.heap.size, 16, none⟩ = some (.int .i64 xstart) := cell_of_row w2 w.heap.size 16 _ _ _ gx.out
  have y16 : w2.cell? ⟨w.heap.size + 1, 16, none⟩ = some (.int .i64 ystart) := cell_of_row w2 (w.heap.size + 1) 16 _ _ _ gy.out
  cases t16 : (xstart == ystart)
  case false =>
    go_wp2
    go_ret
    exact ⟨by rw [t1, t2, t3, t0, t9, t11, t12, t13, t14, t15, t16]; rfl, B2.out⟩
  have x17 : w2.cell? ⟨w.heap.size, 17, none⟩ = some (.int .i64 xlimit) := cell_of_row w2 w.heap.size 17 _ _ _ gx.out
  have y17 : w2.cell? ⟨w.heap.size + 1, 17, none⟩ = some (.int .i64 ylimit) := cell_of_row w2 (w.heap.size + 1) 17 _ _ _ gy.out
  cases t17 : (xlimit == ylimit)
  case false =>
    go_wp2
    go_ret
    exact ⟨by rw [t1, t2, t3, t0, t9, t11, t12, t13, t14, t15, t16, t17]; rfl, B2.out⟩
  have x18 : w2.cell? ⟨w.heap.size, 18, none⟩ = some (.int .u64 (xnodes : Nat)) := cell_of_row w2 w.heap.size 18 _ _ _ gx.out
  have y18 : w2.cell? ⟨w.heap.size + 1, 18, none⟩ = some (.int .u64 (ynodes : Nat)) := cell_of_row w2 (w.heap.size + 1) 18 _ _ _ gy.out
  cases t18 : ((xnodes : Int) == (ynodes : Int))
  case false =>
    go_wp2
    go_ret
    exact ⟨by rw [t1, t2, t3, t0, t9, t11, t12, t13, t14, t15, t16, t17, t18]; rfl, B2.out⟩
  have x19 : w2.cell? ⟨w.heap.size, 19, none⟩ = some (.int .i64 xused) := cell_of_row w2 w.heap.size 19 _ _ _ gx.out
  have y19 : w2.cell? ⟨w.heap.size + 1, 19, none⟩ = some (.int .i64 yused) := cell_of_row w2 (w.heap.size + 1) 19 _ _ _ gy.out
  cases t19 : (xused == yused)
  case false =>
    go_wp2
    go_ret
    exact ⟨by rw [t1, t2, t3, t0, t9, t11, t12, t13, t14, t15, t16, t17, t18, t19]; rfl, B2.out⟩
  go_wp2
  go_ret
  exact ⟨by rw [t1, t2, t3, t0, t9, t11, t12, t13, t14, t15, t16, t17, t18, t19]; rfl, B2.out⟩
end Go.Proofs.YtghmcdfmbjabnaaGreatDoor
