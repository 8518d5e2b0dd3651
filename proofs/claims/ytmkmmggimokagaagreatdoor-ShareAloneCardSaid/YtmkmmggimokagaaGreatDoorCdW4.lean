/- Layer 8: Same walked (printed by a program of my own). -/
import Derived.Test.YtmkmmggimokagaaGreatDoorC1
import Derived.Test.YtmkmmggimokagaaGreatDoorS1
namespace Go.Proofs.YtmkmmggimokagaaGreatDoor
set_option linter.unusedVariables false
open Go.RowKit
def sameC (x y : Cm) : Bool := sameS x.shape y.shape && (decide (x.after = y.after) && ((x.kind == y.kind) && ((x.job == y.job) && ((x.name.toList == y.name.toList) && ((x.user.toList == y.user.toList) && ((x.account.toList == y.account.toList) && ((x.prio == y.prio) && ((x.hasPrio == y.hasPrio) && ((x.time == y.time) && ((x.hasTime == y.hasTime) && ((x.node == y.node) && ((x.nodes == y.nodes) && ((x.frm == y.frm))))))))))))))
set_option maxHeartbeats 8000000 in
set_option maxRecDepth 100000 in
theorem sameC_any (x y : Cm) (A A2 D D2 : Option Addr) (c c2 d d2 B : Nat) (w : World) (hx : CmAt w B x A c A2 c2) (hy : CmAt w B y D d D2 d2) (hB : B ≤ w.heap.size) :
    Calls Tryz.prog 48 #[cmV x A c A2 c2, cmV y D d D2 d2] w fun e w' => e = .returned (.bool (sameC x y)) ∧ Below w.heap.size w w' := by
  have hs := Lib.hid (fun v (hv : Below w.heap.size w v) => sameS_any x.shape y.shape A D c d B v (hx.1.below (hv.mono hB)) (hy.1.below (hv.mono hB)) (by have := hx.2.2.1; omega) (by have := hy.2.2.1; omega) (Nat.le_trans hB hv.size))
  have hd := Lib.hid (fun v (hv : Below w.heap.size w v) => equalD_any A2 D2 _ _ c2 d2 B x.after y.after v (hx.2.1.below (hv.mono hB)) (hy.2.1.below (hv.mono hB)) (by have := hx.2.2.2.1; omega) (by have := hy.2.2.2.1; omega) (Nat.le_trans hB hv.size))
  unfold cmV sameC
  obtain ⟨q, hq⟩ : ∃ q, sameS x.shape y.shape = q := ⟨_, rfl⟩
  obtain ⟨p, hp⟩ : ∃ q, decide (x.after = y.after) = q := ⟨_, rfl⟩
  rw [hq] at hs ⊢
  rw [hp] at hd ⊢
  unfold shV at hs
  clear hq hp hx hy hB
  obtain ⟨n1, e1⟩ : ∃ n, x.shape.alts.length = n := ⟨_, rfl⟩
  obtain ⟨n2, e2⟩ : ∃ n, y.shape.alts.length = n := ⟨_, rfl⟩
  obtain ⟨m1, e3⟩ : ∃ n, x.after.length = n := ⟨_, rfl⟩
  obtain ⟨m2, e4⟩ : ∃ n, y.after.length = n := ⟨_, rfl⟩
  rw [e1, e2] at hs ⊢
  rw [e3, e4] at hd ⊢
  clear e1 e2 e3 e4
  obtain ⟨xkind, xjob, xname, xuser, xaccount, ⟨xk, xl, xm, xn, xo⟩, xprio, xhasPrio, xtime, xhasTime, xafter, xnode, xnodes, xfrm⟩ := x
  obtain ⟨ykind, yjob, yname, yuser, yaccount, ⟨yk, yl, ym, yn, yo⟩, yprio, yhasPrio, ytime, yhasTime, yafter, ynode, ynodes, yfrm⟩ := y
  dsimp only at hs hd ⊢
  have HBX : Hid (Below w.heap.size w ((w.alloc (.cells #[.int .i64 xkind, .int .i64 xjob, .string xname, .string xuser, .string xaccount, .int .i64 xk, .slice A n1 c, .int .i64 xm, .int .i64 xn, .int .i64 xo, .int .i64 xprio, .bool xhasPrio, .int .i64 xtime, .bool xhasTime, .slice A2 m1 c2, .int .i64 xnode, .int .i64 xnodes, .int .i64 xfrm] 77)).alloc (.cells #[.int .i64 ykind, .int .i64 yjob, .string yname, .string yuser, .string yaccount, .int .i64 yk, .slice D n2 d, .int .i64 ym, .int .i64 yn, .int .i64 yo, .int .i64 yprio, .bool yhasPrio, .int .i64 ytime, .bool yhasTime, .slice D2 m2 d2, .int .i64 ynode, .int .i64 ynodes, .int .i64 yfrm] 77))) := ((Below.refl _ _).alloc (Nat.le_refl _) _).alloc (by simp) _
  obtain ⟨W0, hW0⟩ : ∃ W0, Hid (((w.alloc (.cells #[.int .i64 xkind, .int .i64 xjob, .string xname, .string xuser, .string xaccount, .int .i64 xk, .slice A n1 c, .int .i64 xm, .int .i64 xn, .int .i64 xo, .int .i64 xprio, .bool xhasPrio, .int .i64 xtime, .bool xhasTime, .slice A2 m1 c2, .int .i64 xnode, .int .i64 xnodes, .int .i64 xfrm] 77)).alloc (.cells #[.int .i64 ykind, .int .i64 yjob, .string yname, .string yuser, .string yaccount, .int .i64 yk, .slice D n2 d, .int .i64 ym, .int .i64 yn, .int .i64 yo, .int .i64 yprio, .bool yhasPrio, .int .i64 ytime, .bool yhasTime, .slice D2 m2 d2, .int .i64 ynode, .int .i64 ynodes, .int .i64 yfrm] 77)) = W0) := ⟨_, rfl⟩
  have hz0 : W0.heap.size = w.heap.size + 2 := by rw [← hW0.out]; simp
  have hcx : W0.heap[w.heap.size]? = some (.cells #[.int .i64 xkind, .int .i64 xjob, .string xname, .string xuser, .string xaccount, .int .i64 xk, .slice A n1 c, .int .i64 xm, .int .i64 xn, .int .i64 xo, .int .i64 xprio, .bool xhasPrio, .int .i64 xtime, .bool xhasTime, .slice A2 m1 c2, .int .i64 xnode, .int .i64 xnodes, .int .i64 xfrm] 77 (0, 0)) := by
    rw [← hW0.out]
    exact (Below.heap_alloc _ _ _ (by simp)).trans (heap_alloc_new w _)
  have hcy : W0.heap[w.heap.size + 1]? = some (.cells #[.int .i64 ykind, .int .i64 yjob, .string yname, .string yuser, .string yaccount, .int .i64 yk, .slice D n2 d, .int .i64 ym, .int .i64 yn, .int .i64 yo, .int .i64 yprio, .bool yhasPrio, .int .i64 ytime, .bool yhasTime, .slice D2 m2 d2, .int .i64 ynode, .int .i64 ynodes, .int .i64 yfrm] 77 (0, 0)) := by
    rw [← hW0.out]
    have h := heap_alloc_new (w.alloc (.cells #[.int .i64 xkind, .int .i64 xjob, .string xname, .string xuser, .string xaccount, .int .i64 xk, .slice A n1 c, .int .i64 xm, .int .i64 xn, .int .i64 xo, .int .i64 xprio, .bool xhasPrio, .int .i64 xtime, .bool xhasTime, .slice A2 m1 c2, .int .i64 xnode, .int .i64 xnodes, .int .i64 xfrm] 77)) (.cells #[.int .i64 ykind, .int .i64 yjob, .string yname, .string yuser, .string yaccount, .int .i64 yk, .slice D n2 d, .int .i64 ym, .int .i64 yn, .int .i64 yo, .int .i64 yprio, .bool yhasPrio, .int .i64 ytime, .bool yhasTime, .slice D2 m2 d2, .int .i64 ynode, .int .i64 ynodes, .int .i64 yfrm] 77)
    rwa [World.size_alloc] at h
  rw [hW0.out] at HBX
  have HCX := Lib.hid hcx
  have HCY := Lib.hid hcy
  clear hcx hcy
  cases q
  case false =>
    go_enter Tryz.func48, Tryz.ntmps48
    go_wp2_with (fail)
    rw [hW0.out]
    refine (hs.out _ HBX.out).mono ?_; rintro e w1 ⟨rfl, hb1⟩
    go_wp2
    go_ret
    exact ⟨rfl, bt HBX.out hb1⟩
  cases p
  case false =>
    go_enter Tryz.func48, Tryz.ntmps48
    go_wp2_with (fail)
    rw [hW0.out]
    refine (hs.out _ HBX.out).mono ?_; rintro e w1 ⟨rfl, hb1⟩
    have B1 := Lib.hid (bt HBX.out hb1)
    have bx := (hb1.block _ (by omega)).trans HCX.out
    have by_ := (hb1.block _ (by omega)).trans HCY.out
    have hz1 := hb1.size
    have x14 : w1.cell? ⟨w.heap.size, 14, none⟩ = some (.slice A2 m1 c2) := cell_of_row w1 w.heap.size 14 _ _ _ bx
    have y14 : w1.cell? ⟨w.heap.size + 1, 14, none⟩ = some (.slice D2 m2 d2) := cell_of_row w1 (w.heap.size + 1) 14 _ _ _ by_
    clear hb1
    go_wp2_with (fail)
    refine (hd.out _ B1.out).mono ?_; rintro e w2 ⟨rfl, hb2⟩
    have B2 := Lib.hid (bt B1.out hb2)
    clear hb2
    go_wp2
    go_ret
    exact ⟨rfl, B2.out⟩
  cases t0 : (xkind == ykind)
  case false =>
    go_enter Tryz.func48, Tryz.ntmps48
    go_wp2_with (fail)
    rw [hW0.out]
    refine (hs.out _ HBX.out).mono ?_; rintro e w1 ⟨rfl, hb1⟩
    have B1 := Lib.hid (bt HBX.out hb1)
    have bx := (hb1.block _ (by omega)).trans HCX.out
    have by_ := (hb1.block _ (by omega)).trans HCY.out
    have hz1 := hb1.size
    have x14 : w1.cell? ⟨w.heap.size, 14, none⟩ = some (.slice A2 m1 c2) := cell_of_row w1 w.heap.size 14 _ _ _ bx
    have y14 : w1.cell? ⟨w.heap.size + 1, 14, none⟩ = some (.slice D2 m2 d2) := cell_of_row w1 (w.heap.size + 1) 14 _ _ _ by_
    clear hb1
    go_wp2_with (fail)
    refine (hd.out _ B1.out).mono ?_; rintro e w2 ⟨rfl, hb2⟩
    have B2 := Lib.hid (bt B1.out hb2)
    have gx := (hb2.block _ (by omega)).trans bx
    have gy := (hb2.block _ (by omega)).trans by_
    have x0 : w2.cell? ⟨w.heap.size, 0, none⟩ = some (.int .i64 xkind) := cell_of_row w2 w.heap.size 0 _ _ _ gx
    have y0 : w2.cell? ⟨w.heap.size + 1, 0, none⟩ = some (.int .i64 ykind) := cell_of_row w2 (w.heap.size + 1) 0 _ _ _ gy
    clear gx gy bx by_
    clear hb2
    go_wp2
    go_ret
    exact ⟨rfl, B2.out⟩
  cases t1 : (xjob == yjob)
  case false =>
    go_enter Tryz.func48, Tryz.ntmps48
    go_wp2_with (fail)
    rw [hW0.out]
    refine (hs.out _ HBX.out).mono ?_; rintro e w1 ⟨rfl, hb1⟩
    have B1 := Lib.hid (bt HBX.out hb1)
    have bx := (hb1.block _ (by omega)).trans HCX.out
    have by_ := (hb1.block _ (by omega)).trans HCY.out
    have hz1 := hb1.size
    have x14 : w1.cell? ⟨w.heap.size, 14, none⟩ = some (.slice A2 m1 c2) := cell_of_row w1 w.heap.size 14 _ _ _ bx
    have y14 : w1.cell? ⟨w.heap.size + 1, 14, none⟩ = some (.slice D2 m2 d2) := cell_of_row w1 (w.heap.size + 1) 14 _ _ _ by_
    clear hb1
    go_wp2_with (fail)
    refine (hd.out _ B1.out).mono ?_; rintro e w2 ⟨rfl, hb2⟩
    have B2 := Lib.hid (bt B1.out hb2)
    have gx := (hb2.block _ (by omega)).trans bx
    have gy := (hb2.block _ (by omega)).trans by_
    have x0 : w2.cell? ⟨w.heap.size, 0, none⟩ = some (.int .i64 xkind) := cell_of_row w2 w.heap.size 0 _ _ _ gx
    have y0 : w2.cell? ⟨w.heap.size + 1, 0, none⟩ = some (.int .i64 ykind) := cell_of_row w2 (w.heap.size + 1) 0 _ _ _ gy
    have x1 : w2.cell? ⟨w.heap.size, 1, none⟩ = some (.int .i64 xjob) := cell_of_row w2 w.heap.size 1 _ _ _ gx
    have y1 : w2.cell? ⟨w.heap.size + 1, 1, none⟩ = some (.int .i64 yjob) := cell_of_row w2 (w.heap.size + 1) 1 _ _ _ gy
    clear gx gy bx by_
    clear hb2
    go_wp2
    go_ret
    exact ⟨rfl, B2.out⟩
  cases t2 : (xname.toList == yname.toList)
  case false =>
    go_enter Tryz.func48, Tryz.ntmps48
    go_wp2_with (fail)
    rw [hW0.out]
    refine (hs.out _ HBX.out).mono ?_; rintro e w1 ⟨rfl, hb1⟩
    have B1 := Lib.hid (bt HBX.out hb1)
    have bx := (hb1.block _ (by omega)).trans HCX.out
    have by_ := (hb1.block _ (by omega)).trans HCY.out
    have hz1 := hb1.size
    have x14 : w1.cell? ⟨w.heap.size, 14, none⟩ = some (.slice A2 m1 c2) := cell_of_row w1 w.heap.size 14 _ _ _ bx
    have y14 : w1.cell? ⟨w.heap.size + 1, 14, none⟩ = some (.slice D2 m2 d2) := cell_of_row w1 (w.heap.size + 1) 14 _ _ _ by_
    clear hb1
    go_wp2_with (fail)
    refine (hd.out _ B1.out).mono ?_; rintro e w2 ⟨rfl, hb2⟩
    have B2 := Lib.hid (bt B1.out hb2)
    have gx := (hb2.block _ (by omega)).trans bx
    have gy := (hb2.block _ (by omega)).trans by_
    have x0 : w2.cell? ⟨w.heap.size, 0, none⟩ = some (.int .i64 xkind) := cell_of_row w2 w.heap.size 0 _ _ _ gx
    have y0 : w2.cell? ⟨w.heap.size + 1, 0, none⟩ = some (.int .i64 ykind) := cell_of_row w2 (w.heap.size + 1) 0 _ _ _ gy
    have x1 : w2.cell? ⟨w.heap.size, 1, none⟩ = some (.int .i64 xjob) := cell_of_row w2 w.heap.size 1 _ _ _ gx
    have y1 : w2.cell? ⟨w.heap.size + 1, 1, none⟩ = some (.int .i64 yjob) := cell_of_row w2 (w.heap.size + 1) 1 _ _ _ gy
    have x2 : w2.cell? ⟨w.heap.size, 2, none⟩ = some (.string xname) := cell_of_row w2 w.heap.size 2 _ _ _ gx
    have y2 : w2.cell? ⟨w.heap.size + 1, 2, none⟩ = some (.string yname) := cell_of_row w2 (w.heap.size + 1) 2 _ _ _ gy
    clear gx gy bx by_
    clear hb2
    go_wp2
    go_ret
    exact ⟨rfl, B2.out⟩
  cases t3 : (xuser.toList == yuser.toList)
  case false =>
    go_enter Tryz.func48, Tryz.ntmps48
    go_wp2_with (fail)
    rw [hW0.out]
    refine (hs.out _ HBX.out).mono ?_; rintro e w1 ⟨rfl, hb1⟩
    have B1 := Lib.hid (bt HBX.out hb1)
    have bx := (hb1.block _ (by omega)).trans HCX.out
    have by_ := (hb1.block _ (by omega)).trans HCY.out
    have hz1 := hb1.size
    have x14 : w1.cell? ⟨w.heap.size, 14, none⟩ = some (.slice A2 m1 c2) := cell_of_row w1 w.heap.size 14 _ _ _ bx
    have y14 : w1.cell? ⟨w.heap.size + 1, 14, none⟩ = some (.slice D2 m2 d2) := cell_of_row w1 (w.heap.size + 1) 14 _ _ _ by_
    clear hb1
    go_wp2_with (fail)
    refine (hd.out _ B1.out).mono ?_; rintro e w2 ⟨rfl, hb2⟩
    have B2 := Lib.hid (bt B1.out hb2)
    have gx := (hb2.block _ (by omega)).trans bx
    have gy := (hb2.block _ (by omega)).trans by_
    have x0 : w2.cell? ⟨w.heap.size, 0, none⟩ = some (.int .i64 xkind) := cell_of_row w2 w.heap.size 0 _ _ _ gx
    have y0 : w2.cell? ⟨w.heap.size + 1, 0, none⟩ = some (.int .i64 ykind) := cell_of_row w2 (w.heap.size + 1) 0 _ _ _ gy
    have x1 : w2.cell? ⟨w.heap.size, 1, none⟩ = some (.int .i64 xjob) := cell_of_row w2 w.heap.size 1 _ _ _ gx
    have y1 : w2.cell? ⟨w.heap.size + 1, 1, none⟩ = some (.int .i64 yjob) := cell_of_row w2 (w.heap.size + 1) 1 _ _ _ gy
    have x2 : w2.cell? ⟨w.heap.size, 2, none⟩ = some (.string xname) := cell_of_row w2 w.heap.size 2 _ _ _ gx
    have y2 : w2.cell? ⟨w.heap.size + 1, 2, none⟩ = some (.string yname) := cell_of_row w2 (w.heap.size + 1) 2 _ _ _ gy
    have x3 : w2.cell? ⟨w.heap.size, 3, none⟩ = some (.string xuser) := cell_of_row w2 w.heap.size 3 _ _ _ gx
    have y3 : w2.cell? ⟨w.heap.size + 1, 3, none⟩ = some (.string yuser) := cell_of_row w2 (w.heap.size + 1) 3 _ _ _ gy
    clear gx gy bx by_
    clear hb2
    go_wp2
    go_ret
    exact ⟨rfl, B2.out⟩
  cases t4 : (xaccount.toList == yaccount.toList)
  case false =>
    go_enter Tryz.func48, Tryz.ntmps48
    go_wp2_with (fail)
    rw [hW0.out]
    refine (hs.out _ HBX.out).mono ?_; rintro e w1 ⟨rfl, hb1⟩
    have B1 := Lib.hid (bt HBX.out hb1)
    have bx := (hb1.block _ (by omega)).trans HCX.out
    have by_ := (hb1.block _ (by omega)).trans HCY.out
    have hz1 := hb1.size
    have x14 : w1.cell? ⟨w.heap.size, 14, none⟩ = some (.slice A2 m1 c2) := cell_of_row w1 w.heap.size 14 _ _ _ bx
    have y14 : w1.cell? ⟨w.heap.size + 1, 14, none⟩ = some (.slice D2 m2 d2) := cell_of_row w1 (w.heap.size + 1) 14 _ _ _ by_
    clear hb1
    go_wp2_with (fail)
    refine (hd.out _ B1.out).mono ?_; rintro e w2 ⟨rfl, hb2⟩
    have B2 := Lib.hid (bt B1.out hb2)
    have gx := (hb2.block _ (by omega)).trans bx
    have gy := (hb2.block _ (by omega)).trans by_
    have x0 : w2.cell? ⟨w.heap.size, 0, none⟩ = some (.int .i64 xkind) := cell_of_row w2 w.heap.size 0 _ _ _ gx
    have y0 : w2.cell? ⟨w.heap.size + 1, 0, none⟩ = some (.int .i64 ykind) := cell_of_row w2 (w.heap.size + 1) 0 _ _ _ gy
    have x1 : w2.cell? ⟨w.heap.size, 1, none⟩ = some (.int .i64 xjob) := cell_of_row w2 w.heap.size 1 _ _ _ gx
    have y1 : w2.cell? ⟨w.heap.size + 1, 1, none⟩ = some (.int .i64 yjob) := cell_of_row w2 (w.heap.size + 1) 1 _ _ _ gy
    have x2 : w2.cell? ⟨w.heap.size, 2, none⟩ = some (.string xname) := cell_of_row w2 w.heap.size 2 _ _ _ gx
    have y2 : w2.cell? ⟨w.heap.size + 1, 2, none⟩ = some (.string yname) := cell_of_row w2 (w.heap.size + 1) 2 _ _ _ gy
    have x3 : w2.cell? ⟨w.heap.size, 3, none⟩ = some (.string xuser) := cell_of_row w2 w.heap.size 3 _ _ _ gx
    have y3 : w2.cell? ⟨w.heap.size + 1, 3, none⟩ = some (.string yuser) := cell_of_row w2 (w.heap.size + 1) 3 _ _ _ gy
    have x4 : w2.cell? ⟨w.heap.size, 4, none⟩ = some (.string xaccount) := cell_of_row w2 w.heap.size 4 _ _ _ gx
    have y4 : w2.cell? ⟨w.heap.size + 1, 4, none⟩ = some (.string yaccount) := cell_of_row w2 (w.heap.size + 1) 4 _ _ _ gy
    clear gx gy bx by_
    clear hb2
    go_wp2
    go_ret
    exact ⟨rfl, B2.out⟩
  cases t10 : (xprio == yprio)
  case false =>
    go_enter Tryz.func48, Tryz.ntmps48
    go_wp2_with (fail)
    rw [hW0.out]
    refine (hs.out _ HBX.out).mono ?_; rintro e w1 ⟨rfl, hb1⟩
    have B1 := Lib.hid (bt HBX.out hb1)
    have bx := (hb1.block _ (by omega)).trans HCX.out
    have by_ := (hb1.block _ (by omega)).trans HCY.out
    have hz1 := hb1.size
    have x14 : w1.cell? ⟨w.heap.size, 14, none⟩ = some (.slice A2 m1 c2) := cell_of_row w1 w.heap.size 14 _ _ _ bx
    have y14 : w1.cell? ⟨w.heap.size + 1, 14, none⟩ = some (.slice D2 m2 d2) := cell_of_row w1 (w.heap.size + 1) 14 _ _ _ by_
    clear hb1
    go_wp2_with (fail)
    refine (hd.out _ B1.out).mono ?_; rintro e w2 ⟨rfl, hb2⟩
    have B2 := Lib.hid (bt B1.out hb2)
    have gx := (hb2.block _ (by omega)).trans bx
    have gy := (hb2.block _ (by omega)).trans by_
    have x0 : w2.cell? ⟨w.heap.size, 0, none⟩ = some (.int .i64 xkind) := cell_of_row w2 w.heap.size 0 _ _ _ gx
    have y0 : w2.cell? ⟨w.heap.size + 1, 0, none⟩ = some (.int .i64 ykind) := cell_of_row w2 (w.heap.size + 1) 0 _ _ _ gy
    have x1 : w2.cell? ⟨w.heap.size, 1, none⟩ = some (.int .i64 xjob) := cell_of_row w2 w.heap.size 1 _ _ _ gx
    have y1 : w2.cell? ⟨w.heap.size + 1, 1, none⟩ = some (.int .i64 yjob) := cell_of_row w2 (w.heap.size + 1) 1 _ _ _ gy
    have x2 : w2.cell? ⟨w.heap.size, 2, none⟩ = some (.string xname) := cell_of_row w2 w.heap.size 2 _ _ _ gx
    have y2 : w2.cell? ⟨w.heap.size + 1, 2, none⟩ = some (.string yname) := cell_of_row w2 (w.heap.size + 1) 2 _ _ _ gy
    have x3 : w2.cell? ⟨w.heap.size, 3, none⟩ = some (.string xuser) := cell_of_row w2 w.heap.size 3 _ _ _ gx
    have y3 : w2.cell? ⟨w.heap.size + 1, 3, none⟩ = some (.string yuser) := cell_of_row w2 (w.heap.size + 1) 3 _ _ _ gy
    have x4 : w2.cell? ⟨w.heap.size, 4, none⟩ = some (.string xaccount) := cell_of_row w2 w.heap.size 4 _ _ _ gx
    have y4 : w2.cell? ⟨w.heap.size + 1, 4, none⟩ = some (.string yaccount) := cell_of_row w2 (w.heap.size + 1) 4 _ _ _ gy
    have x10 : w2.cell? ⟨w.heap.size, 10, none⟩ = some (.int .i64 xprio) := cell_of_row w2 w.heap.size 10 _ _ _ gx
    have y10 : w2.cell? ⟨w.heap.size + 1, 10, none⟩ = some (.int .i64 yprio) := cell_of_row w2 (w.heap.size + 1) 10 _ _ _ gy
    clear gx gy bx by_
    clear hb2
    go_wp2
    go_ret
    exact ⟨rfl, B2.out⟩
  cases t11 : (xhasPrio == yhasPrio)
  case false =>
    go_enter Tryz.func48, Tryz.ntmps48
    go_wp2_with (fail)
    rw [hW0.out]
    refine (hs.out _ HBX.out).mono ?_; rintro e w1 ⟨rfl, hb1⟩
    have B1 := Lib.hid (bt HBX.out hb1)
    have bx := (hb1.block _ (by omega)).trans HCX.out
    have by_ := (hb1.block _ (by omega)).trans HCY.out
    have hz1 := hb1.size
    have x14 : w1.cell? ⟨w.heap.size, 14, none⟩ = some (.slice A2 m1 c2) := cell_of_row w1 w.heap.size 14 _ _ _ bx
    have y14 : w1.cell? ⟨w.heap.size + 1, 14, none⟩ = some (.slice D2 m2 d2) := cell_of_row w1 (w.heap.size + 1) 14 _ _ _ by_
    clear hb1
    go_wp2_with (fail)
    refine (hd.out _ B1.out).mono ?_; rintro e w2 ⟨rfl, hb2⟩
    have B2 := Lib.hid (bt B1.out hb2)
    have gx := (hb2.block _ (by omega)).trans bx
    have gy := (hb2.block _ (by omega)).trans by_
    have x0 : w2.cell? ⟨w.heap.size, 0, none⟩ = some (.int .i64 xkind) := cell_of_row w2 w.heap.size 0 _ _ _ gx
    have y0 : w2.cell? ⟨w.heap.size + 1, 0, none⟩ = some (.int .i64 ykind) := cell_of_row w2 (w.heap.size + 1) 0 _ _ _ gy
    have x1 : w2.cell? ⟨w.heap.size, 1, none⟩ = some (.int .i64 xjob) := cell_of_row w2 w.heap.size 1 _ _ _ gx
    have y1 : w2.cell? ⟨w.heap.size + 1, 1, none⟩ = some (.int .i64 yjob) := cell_of_row w2 (w.heap.size + 1) 1 _ _ _ gy
    have x2 : w2.cell? ⟨w.heap.size, 2, none⟩ = some (.string xname) := cell_of_row w2 w.heap.size 2 _ _ _ gx
    have y2 : w2.cell? ⟨w.heap.size + 1, 2, none⟩ = some (.string yname) := cell_of_row w2 (w.heap.size + 1) 2 _ _ _ gy
    have x3 : w2.cell? ⟨w.heap.size, 3, none⟩ = some (.string xuser) := cell_of_row w2 w.heap.size 3 _ _ _ gx
    have y3 : w2.cell? ⟨w.heap.size + 1, 3, none⟩ = some (.string yuser) := cell_of_row w2 (w.heap.size + 1) 3 _ _ _ gy
    have x4 : w2.cell? ⟨w.heap.size, 4, none⟩ = some (.string xaccount) := cell_of_row w2 w.heap.size 4 _ _ _ gx
    have y4 : w2.cell? ⟨w.heap.size + 1, 4, none⟩ = some (.string yaccount) := cell_of_row w2 (w.heap.size + 1) 4 _ _ _ gy
    have x10 : w2.cell? ⟨w.heap.size, 10, none⟩ = some (.int .i64 xprio) := cell_of_row w2 w.heap.size 10 _ _ _ gx
    have y10 : w2.cell? ⟨w.heap.size + 1, 10, none⟩ = some (.int .i64 yprio) := cell_of_row w2 (w.heap.size + 1) 10 _ _ _ gy
    have x11 : w2.cell? ⟨w.heap.size, 11, none⟩ = some (.bool xhasPrio) := cell_of_row w2 w.heap.size 11 _ _ _ gx
    have y11 : w2.cell? ⟨w.heap.size + 1, 11, none⟩ = some (.bool yhasPrio) := cell_of_row w2 (w.heap.size + 1) 11 _ _ _ gy
    clear gx gy bx by_
    clear hb2
    go_wp2
    go_ret
    exact ⟨rfl, B2.out⟩
  cases t12 : (xtime == ytime)
  case false =>
    go_enter Tryz.func48, Tryz.ntmps48
    go_wp2_with (fail)
    rw [hW0.out]
    refine (hs.out _ HBX.out).mono ?_; rintro e w1 ⟨rfl, hb1⟩
    have B1 := Lib.hid (bt HBX.out hb1)
    have bx := (hb1.block _ (by omega)).trans HCX.out
    have by_ := (hb1.block _ (by omega)).trans HCY.out
    have hz1 := hb1.size
    have x14 : w1.cell? ⟨w.heap.size, 14, none⟩ = some (.slice A2 m1 c2) := cell_of_row w1 w.heap.size 14 _ _ _ bx
    have y14 : w1.cell? ⟨w.heap.size + 1, 14, none⟩ = some (.slice D2 m2 d2) := cell_of_row w1 (w.heap.size + 1) 14 _ _ _ by_
    clear hb1
    go_wp2_with (fail)
    refine (hd.out _ B1.out).mono ?_; rintro e w2 ⟨rfl, hb2⟩
    have B2 := Lib.hid (bt B1.out hb2)
    have gx := (hb2.block _ (by omega)).trans bx
    have gy := (hb2.block _ (by omega)).trans by_
    have x0 : w2.cell? ⟨w.heap.size, 0, none⟩ = some (.int .i64 xkind) := cell_of_row w2 w.heap.size 0 _ _ _ gx
    have y0 : w2.cell? ⟨w.heap.size + 1, 0, none⟩ = some (.int .i64 ykind) := cell_of_row w2 (w.heap.size + 1) 0 _ _ _ gy
    have x1 : w2.cell? ⟨w.heap.size, 1, none⟩ = some (.int .i64 xjob) := cell_of_row w2 w.heap.size 1 _ _ _ gx
    have y1 : w2.cell? ⟨w.heap.size + 1, 1, none⟩ = some (.int .i64 yjob) := cell_of_row w2 (w.heap.size + 1) 1 _ _ _ gy
    have x2 : w2.cell? ⟨w.heap.size, 2, none⟩ = some (.string xname) := cell_of_row w2 w.heap.size 2 _ _ _ gx
    have y2 : w2.cell? ⟨w.heap.size + 1, 2, none⟩ = some (.string yname) := cell_of_row w2 (w.heap.size + 1) 2 _ _ _ gy
    have x3 : w2.cell? ⟨w.heap.size, 3, none⟩ = some (.string xuser) := cell_of_row w2 w.heap.size 3 _ _ _ gx
    have y3 : w2.cell? ⟨w.heap.size + 1, 3, none⟩ = some (.string yuser) := cell_of_row w2 (w.heap.size + 1) 3 _ _ _ gy
    have x4 : w2.cell? ⟨w.heap.size, 4, none⟩ = some (.string xaccount) := cell_of_row w2 w.heap.size 4 _ _ _ gx
    have y4 : w2.cell? ⟨w.heap.size + 1, 4, none⟩ = some (.string yaccount) := cell_of_row w2 (w.heap.size + 1) 4 _ _ _ gy
    have x10 : w2.cell? ⟨w.heap.size, 10, none⟩ = some (.int .i64 xprio) := cell_of_row w2 w.heap.size 10 _ _ _ gx
    have y10 : w2.cell? ⟨w.heap.size + 1, 10, none⟩ = some (.int .i64 yprio) := cell_of_row w2 (w.heap.size + 1) 10 _ _ _ gy
    have x11 : w2.cell? ⟨w.heap.size, 11, none⟩ = some (.bool xhasPrio) := cell_of_row w2 w.heap.size 11 _ _ _ gx
    have y11 : w2.cell? ⟨w.heap.size + 1, 11, none⟩ = some (.bool yhasPrio) := cell_of_row w2 (w.heap.size + 1) 11 _ _ _ gy
    have x12 : w2.cell? ⟨w.heap.size, 12, none⟩ = some (.int .i64 xtime) := cell_of_row w2 w.heap.size 12 _ _ _ gx
    have y12 : w2.cell? ⟨w.heap.size + 1, 12, none⟩ = some (.int .i64 ytime) := cell_of_row w2 (w.heap.size + 1) 12 _ _ _ gy
    clear gx gy bx by_
    clear hb2
    go_wp2
    go_ret
    exact ⟨rfl, B2.out⟩
  cases t13 : (xhasTime == yhasTime)
  case false =>
    go_enter Tryz.func48, Tryz.ntmps48
    go_wp2_with (fail)
    rw [hW0.out]
    refine (hs.out _ HBX.out).mono ?_; rintro e w1 ⟨rfl, hb1⟩
    have B1 := Lib.hid (bt HBX.out hb1)
    have bx := (hb1.block _ (by omega)).trans HCX.out
    have by_ := (hb1.block _ (by omega)).trans HCY.out
    have hz1 := hb1.size
    have x14 : w1.cell? ⟨w.heap.size, 14, none⟩ = some (.slice A2 m1 c2) := cell_of_row w1 w.heap.size 14 _ _ _ bx
    have y14 : w1.cell? ⟨w.heap.size + 1, 14, none⟩ = some (.slice D2 m2 d2) := cell_of_row w1 (w.heap.size + 1) 14 _ _ _ by_
    clear hb1
    go_wp2_with (fail)
    refine (hd.out _ B1.out).mono ?_; rintro e w2 ⟨rfl, hb2⟩
    have B2 := Lib.hid (bt B1.out hb2)
    have gx := (hb2.block _ (by omega)).trans bx
    have gy := (hb2.block _ (by omega)).trans by_
    have x0 : w2.cell? ⟨w.heap.size, 0, none⟩ = some (.int .i64 xkind) := cell_of_row w2 w.heap.size 0 _ _ _ gx
    have y0 : w2.cell? ⟨w.heap.size + 1, 0, none⟩ = some (.int .i64 ykind) := cell_of_row w2 (w.heap.size + 1) 0 _ _ _ gy
    have x1 : w2.cell? ⟨w.heap.size, 1, none⟩ = some (.int .i64 xjob) := cell_of_row w2 w.heap.size 1 _ _ _ gx
    have y1 : w2.cell? ⟨w.heap.size + 1, 1, none⟩ = some (.int .i64 yjob) := cell_of_row w2 (w.heap.size + 1) 1 _ _ _ gy
    have x2 : w2.cell? ⟨w.heap.size, 2, none⟩ = some (.string xname) := cell_of_row w2 w.heap.size 2 _ _ _ gx
    have y2 : w2.cell? ⟨w.heap.size + 1, 2, none⟩ = some (.string yname) := cell_of_row w2 (w.heap.size + 1) 2 _ _ _ gy
    have x3 : w2.cell? ⟨w.heap.size, 3, none⟩ = some (.string xuser) := cell_of_row w2 w.heap.size 3 _ _ _ gx
    have y3 : w2.cell? ⟨w.heap.size + 1, 3, none⟩ = some (.string yuser) := cell_of_row w2 (w.heap.size + 1) 3 _ _ _ gy
    have x4 : w2.cell? ⟨w.heap.size, 4, none⟩ = some (.string xaccount) := cell_of_row w2 w.heap.size 4 _ _ _ gx
    have y4 : w2.cell? ⟨w.heap.size + 1, 4, none⟩ = some (.string yaccount) := cell_of_row w2 (w.heap.size + 1) 4 _ _ _ gy
    have x10 : w2.cell? ⟨w.heap.size, 10, none⟩ = some (.int .i64 xprio) := cell_of_row w2 w.heap.size 10 _ _ _ gx
    have y10 : w2.cell? ⟨w.heap.size + 1, 10, none⟩ = some (.int .i64 yprio) := cell_of_row w2 (w.heap.size + 1) 10 _ _ _ gy
    have x11 : w2.cell? ⟨w.heap.size, 11, none⟩ = some (.bool xhasPrio) := cell_of_row w2 w.heap.size 11 _ _ _ gx
    have y11 : w2.cell? ⟨w.heap.size + 1, 11, none⟩ = some (.bool yhasPrio) := cell_of_row w2 (w.heap.size + 1) 11 _ _ _ gy
    have x12 : w2.cell? ⟨w.heap.size, 12, none⟩ = some (.int .i64 xtime) := cell_of_row w2 w.heap.size 12 _ _ _ gx
    have y12 : w2.cell? ⟨w.heap.size + 1, 12, none⟩ = some (.int .i64 ytime) := cell_of_row w2 (w.heap.size + 1) 12 _ _ _ gy
    have x13 : w2.cell? ⟨w.heap.size, 13, none⟩ = some (.bool xhasTime) := cell_of_row w2 w.heap.size 13 _ _ _ gx
    have y13 : w2.cell? ⟨w.heap.size + 1, 13, none⟩ = some (.bool yhasTime) := cell_of_row w2 (w.heap.size + 1) 13 _ _ _ gy
    clear gx gy bx by_
    clear hb2
    go_wp2
    go_ret
    exact ⟨rfl, B2.out⟩
  cases t15 : (xnode == ynode)
  case false =>
    go_enter Tryz.func48, Tryz.ntmps48
    go_wp2_with (fail)
    rw [hW0.out]
    refine (hs.out _ HBX.out).mono ?_; rintro e w1 ⟨rfl, hb1⟩
    have B1 := Lib.hid (bt HBX.out hb1)
    have bx := (hb1.block _ (by omega)).trans HCX.out
    have by_ := (hb1.block _ (by omega)).trans HCY.out
    have hz1 := hb1.size
    have x14 : w1.cell? ⟨w.heap.size, 14, none⟩ = some (.slice A2 m1 c2) := cell_of_row w1 w.heap.size 14 _ _ _ bx
    have y14 : w1.cell? ⟨w.heap.size + 1, 14, none⟩ = some (.slice D2 m2 d2) := cell_of_row w1 (w.heap.size + 1) 14 _ _ _ by_
    clear hb1
    go_wp2_with (fail)
    refine (hd.out _ B1.out).mono ?_; rintro e w2 ⟨rfl, hb2⟩
    have B2 := Lib.hid (bt B1.out hb2)
    have gx := (hb2.block _ (by omega)).trans bx
    have gy := (hb2.block _ (by omega)).trans by_
    have x0 : w2.cell? ⟨w.heap.size, 0, none⟩ = some (.int .i64 xkind) := cell_of_row w2 w.heap.size 0 _ _ _ gx
    have y0 : w2.cell? ⟨w.heap.size + 1, 0, none⟩ = some (.int .i64 ykind) := cell_of_row w2 (w.heap.size + 1) 0 _ _ _ gy
    have x1 : w2.cell? ⟨w.heap.size, 1, none⟩ = some (.int .i64 xjob) := cell_of_row w2 w.heap.size 1 _ _ _ gx
    have y1 : w2.cell? ⟨w.heap.size + 1, 1, none⟩ = some (.int .i64 yjob) := cell_of_row w2 (w.heap.size + 1) 1 _ _ _ gy
    have x2 : w2.cell? ⟨w.heap.size, 2, none⟩ = some (.string xname) := cell_of_row w2 w.heap.size 2 _ _ _ gx
    have y2 : w2.cell? ⟨w.heap.size + 1, 2, none⟩ = some (.string yname) := cell_of_row w2 (w.heap.size + 1) 2 _ _ _ gy
    have x3 : w2.cell? ⟨w.heap.size, 3, none⟩ = some (.string xuser) := cell_of_row w2 w.heap.size 3 _ _ _ gx
    have y3 : w2.cell? ⟨w.heap.size + 1, 3, none⟩ = some (.string yuser) := cell_of_row w2 (w.heap.size + 1) 3 _ _ _ gy
    have x4 : w2.cell? ⟨w.heap.size, 4, none⟩ = some (.string xaccount) := cell_of_row w2 w.heap.size 4 _ _ _ gx
    have y4 : w2.cell? ⟨w.heap.size + 1, 4, none⟩ = some (.string yaccount) := cell_of_row w2 (w.heap.size + 1) 4 _ _ _ gy
    have x10 : w2.cell? ⟨w.heap.size, 10, none⟩ = some (.int .i64 xprio) := cell_of_row w2 w.heap.size 10 _ _ _ gx
    have y10 : w2.cell? ⟨w.heap.size + 1, 10, none⟩ = some (.int .i64 yprio) := cell_of_row w2 (w.heap.size + 1) 10 _ _ _ gy
    have x11 : w2.cell? ⟨w.heap.size, 11, none⟩ = some (.bool xhasPrio) := cell_of_row w2 w.heap.size 11 _ _ _ gx
    have y11 : w2.cell? ⟨w.heap.size + 1, 11, none⟩ = some (.bool yhasPrio) := cell_of_row w2 (w.heap.size + 1) 11 _ _ _ gy
    have x12 : w2.cell? ⟨w.heap.size, 12, none⟩ = some (.int .i64 xtime) := cell_of_row w2 w.heap.size 12 _ _ _ gx
    have y12 : w2.cell? ⟨w.heap.size + 1, 12, none⟩ = some (.int .i64 ytime) := cell_of_row w2 (w.heap.size + 1) 12 _ _ _ gy
    have x13 : w2.cell? ⟨w.heap.size, 13, none⟩ = some (.bool xhasTime) := cell_of_row w2 w.heap.size 13 _ _ _ gx
    have y13 : w2.cell? ⟨w.heap.size + 1, 13, none⟩ = some (.bool yhasTime) := cell_of_row w2 (w.heap.size + 1) 13 _ _ _ gy
    have x15 : w2.cell? ⟨w.heap.size, 15, none⟩ = some (.int .i64 xnode) := cell_of_row w2 w.heap.size 15 _ _ _ gx
    have y15 : w2.cell? ⟨w.heap.size + 1, 15, none⟩ = some (.int .i64 ynode) := cell_of_row w2 (w.heap.size + 1) 15 _ _ _ gy
    clear gx gy bx by_
    clear hb2
    go_wp2
    go_ret
    exact ⟨rfl, B2.out⟩
  cases t16 : (xnodes == ynodes)
  case false =>
    go_enter Tryz.func48, Tryz.ntmps48
    go_wp2_with (fail)
    rw [hW0.out]
    refine (hs.out _ HBX.out).mono ?_; rintro e w1 ⟨rfl, hb1⟩
    have B1 := Lib.hid (bt HBX.out hb1)
    have bx := (hb1.block _ (by omega)).trans HCX.out
    have by_ := (hb1.block _ (by omega)).trans HCY.out
    have hz1 := hb1.size
    have x14 : w1.cell? ⟨w.heap.size, 14, none⟩ = some (.slice A2 m1 c2) := cell_of_row w1 w.heap.size 14 _ _ _ bx
    have y14 : w1.cell? ⟨w.heap.size + 1, 14, none⟩ = some (.slice D2 m2 d2) := cell_of_row w1 (w.heap.size + 1) 14 _ _ _ by_
    clear hb1
    go_wp2_with (fail)
    refine (hd.out _ B1.out).mono ?_; rintro e w2 ⟨rfl, hb2⟩
    have B2 := Lib.hid (bt B1.out hb2)
    have gx := (hb2.block _ (by omega)).trans bx
    have gy := (hb2.block _ (by omega)).trans by_
    have x0 : w2.cell? ⟨w.heap.size, 0, none⟩ = some (.int .i64 xkind) := cell_of_row w2 w.heap.size 0 _ _ _ gx
    have y0 : w2.cell? ⟨w.heap.size + 1, 0, none⟩ = some (.int .i64 ykind) := cell_of_row w2 (w.heap.size + 1) 0 _ _ _ gy
    have x1 : w2.cell? ⟨w.heap.size, 1, none⟩ = some (.int .i64 xjob) := cell_of_row w2 w.heap.size 1 _ _ _ gx
    have y1 : w2.cell? ⟨w.heap.size + 1, 1, none⟩ = some (.int .i64 yjob) := cell_of_row w2 (w.heap.size + 1) 1 _ _ _ gy
    have x2 : w2.cell? ⟨w.heap.size, 2, none⟩ = some (.string xname) := cell_of_row w2 w.heap.size 2 _ _ _ gx
    have y2 : w2.cell? ⟨w.heap.size + 1, 2, none⟩ = some (.string yname) := cell_of_row w2 (w.heap.size + 1) 2 _ _ _ gy
    have x3 : w2.cell? ⟨w.heap.size, 3, none⟩ = some (.string xuser) := cell_of_row w2 w.heap.size 3 _ _ _ gx
    have y3 : w2.cell? ⟨w.heap.size + 1, 3, none⟩ = some (.string yuser) := cell_of_row w2 (w.heap.size + 1) 3 _ _ _ gy
    have x4 : w2.cell? ⟨w.heap.size, 4, none⟩ = some (.string xaccount) := cell_of_row w2 w.heap.size 4 _ _ _ gx
    have y4 : w2.cell? ⟨w.heap.size + 1, 4, none⟩ = some (.string yaccount) := cell_of_row w2 (w.heap.size + 1) 4 _ _ _ gy
    have x10 : w2.cell? ⟨w.heap.size, 10, none⟩ = some (.int .i64 xprio) := cell_of_row w2 w.heap.size 10 _ _ _ gx
    have y10 : w2.cell? ⟨w.heap.size + 1, 10, none⟩ = some (.int .i64 yprio) := cell_of_row w2 (w.heap.size + 1) 10 _ _ _ gy
    have x11 : w2.cell? ⟨w.heap.size, 11, none⟩ = some (.bool xhasPrio) := cell_of_row w2 w.heap.size 11 _ _ _ gx
    have y11 : w2.cell? ⟨w.heap.size + 1, 11, none⟩ = some (.bool yhasPrio) := cell_of_row w2 (w.heap.size + 1) 11 _ _ _ gy
    have x12 : w2.cell? ⟨w.heap.size, 12, none⟩ = some (.int .i64 xtime) := cell_of_row w2 w.heap.size 12 _ _ _ gx
    have y12 : w2.cell? ⟨w.heap.size + 1, 12, none⟩ = some (.int .i64 ytime) := cell_of_row w2 (w.heap.size + 1) 12 _ _ _ gy
    have x13 : w2.cell? ⟨w.heap.size, 13, none⟩ = some (.bool xhasTime) := cell_of_row w2 w.heap.size 13 _ _ _ gx
    have y13 : w2.cell? ⟨w.heap.size + 1, 13, none⟩ = some (.bool yhasTime) := cell_of_row w2 (w.heap.size + 1) 13 _ _ _ gy
    have x15 : w2.cell? ⟨w.heap.size, 15, none⟩ = some (.int .i64 xnode) := cell_of_row w2 w.heap.size 15 _ _ _ gx
    have y15 : w2.cell? ⟨w.heap.size + 1, 15, none⟩ = some (.int .i64 ynode) := cell_of_row w2 (w.heap.size + 1) 15 _ _ _ gy
    have x16 : w2.cell? ⟨w.heap.size, 16, none⟩ = some (.int .i64 xnodes) := cell_of_row w2 w.heap.size 16 _ _ _ gx
    have y16 : w2.cell? ⟨w.heap.size + 1, 16, none⟩ = some (.int .i64 ynodes) := cell_of_row w2 (w.heap.size + 1) 16 _ _ _ gy
    clear gx gy bx by_
    clear hb2
    go_wp2
    go_ret
    exact ⟨rfl, B2.out⟩
  cases t17 : (xfrm == yfrm)
  case false =>
    go_enter Tryz.func48, Tryz.ntmps48
    go_wp2_with (fail)
    rw [hW0.out]
    refine (hs.out _ HBX.out).mono ?_; rintro e w1 ⟨rfl, hb1⟩
    have B1 := Lib.hid (bt HBX.out hb1)
    have bx := (hb1.block _ (by omega)).trans HCX.out
    have by_ := (hb1.block _ (by omega)).trans HCY.out
    have hz1 := hb1.size
    have x14 : w1.cell? ⟨w.heap.size, 14, none⟩ = some (.slice A2 m1 c2) := cell_of_row w1 w.heap.size 14 _ _ _ bx
    have y14 : w1.cell? ⟨w.heap.size + 1, 14, none⟩ = some (.slice D2 m2 d2) := cell_of_row w1 (w.heap.size + 1) 14 _ _ _ by_
    clear hb1
    go_wp2_with (fail)
    refine (hd.out _ B1.out).mono ?_; rintro e w2 ⟨rfl, hb2⟩
    have B2 := Lib.hid (bt B1.out hb2)
    have gx := (hb2.block _ (by omega)).trans bx
    have gy := (hb2.block _ (by omega)).trans by_
    have x0 : w2.cell? ⟨w.heap.size, 0, none⟩ = some (.int .i64 xkind) := cell_of_row w2 w.heap.size 0 _ _ _ gx
    have y0 : w2.cell? ⟨w.heap.size + 1, 0, none⟩ = some (.int .i64 ykind) := cell_of_row w2 (w.heap.size + 1) 0 _ _ _ gy
    have x1 : w2.cell? ⟨w.heap.size, 1, none⟩ = some (.int .i64 xjob) := cell_of_row w2 w.heap.size 1 _ _ _ gx
    have y1 : w2.cell? ⟨w.heap.size + 1, 1, none⟩ = some (.int .i64 yjob) := cell_of_row w2 (w.heap.size + 1) 1 _ _ _ gy
    have x2 : w2.cell? ⟨w.heap.size, 2, none⟩ = some (.string xname) := cell_of_row w2 w.heap.size 2 _ _ _ gx
    have y2 : w2.cell? ⟨w.heap.size + 1, 2, none⟩ = some (.string yname) := cell_of_row w2 (w.heap.size + 1) 2 _ _ _ gy
    have x3 : w2.cell? ⟨w.heap.size, 3, none⟩ = some (.string xuser) := cell_of_row w2 w.heap.size 3 _ _ _ gx
    have y3 : w2.cell? ⟨w.heap.size + 1, 3, none⟩ = some (.string yuser) := cell_of_row w2 (w.heap.size + 1) 3 _ _ _ gy
    have x4 : w2.cell? ⟨w.heap.size, 4, none⟩ = some (.string xaccount) := cell_of_row w2 w.heap.size 4 _ _ _ gx
    have y4 : w2.cell? ⟨w.heap.size + 1, 4, none⟩ = some (.string yaccount) := cell_of_row w2 (w.heap.size + 1) 4 _ _ _ gy
    have x10 : w2.cell? ⟨w.heap.size, 10, none⟩ = some (.int .i64 xprio) := cell_of_row w2 w.heap.size 10 _ _ _ gx
    have y10 : w2.cell? ⟨w.heap.size + 1, 10, none⟩ = some (.int .i64 yprio) := cell_of_row w2 (w.heap.size + 1) 10 _ _ _ gy
    have x11 : w2.cell? ⟨w.heap.size, 11, none⟩ = some (.bool xhasPrio) := cell_of_row w2 w.heap.size 11 _ _ _ gx
    have y11 : w2.cell? ⟨w.heap.size + 1, 11, none⟩ = some (.bool yhasPrio) := cell_of_row w2 (w.heap.size + 1) 11 _ _ _ gy
    have x12 : w2.cell? ⟨w.heap.size, 12, none⟩ = some (.int .i64 xtime) := cell_of_row w2 w.heap.size 12 _ _ _ gx
    have y12 : w2.cell? ⟨w.heap.size + 1, 12, none⟩ = some (.int .i64 ytime) := cell_of_row w2 (w.heap.size + 1) 12 _ _ _ gy
    have x13 : w2.cell? ⟨w.heap.size, 13, none⟩ = some (.bool xhasTime) := cell_of_row w2 w.heap.size 13 _ _ _ gx
    have y13 : w2.cell? ⟨w.heap.size + 1, 13, none⟩ = some (.bool yhasTime) := cell_of_row w2 (w.heap.size + 1) 13 _ _ _ gy
    have x15 : w2.cell? ⟨w.heap.size, 15, none⟩ = some (.int .i64 xnode) := cell_of_row w2 w.heap.size 15 _ _ _ gx
    have y15 : w2.cell? ⟨w.heap.size + 1, 15, none⟩ = some (.int .i64 ynode) := cell_of_row w2 (w.heap.size + 1) 15 _ _ _ gy
    have x16 : w2.cell? ⟨w.heap.size, 16, none⟩ = some (.int .i64 xnodes) := cell_of_row w2 w.heap.size 16 _ _ _ gx
    have y16 : w2.cell? ⟨w.heap.size + 1, 16, none⟩ = some (.int .i64 ynodes) := cell_of_row w2 (w.heap.size + 1) 16 _ _ _ gy
    have x17 : w2.cell? ⟨w.heap.size, 17, none⟩ = some (.int .i64 xfrm) := cell_of_row w2 w.heap.size 17 _ _ _ gx
    have y17 : w2.cell? ⟨w.heap.size + 1, 17, none⟩ = some (.int .i64 yfrm) := cell_of_row w2 (w.heap.size + 1) 17 _ _ _ gy
    clear gx gy bx by_
    clear hb2
    go_wp2
    go_ret
    exact ⟨rfl, B2.out⟩
  go_enter Tryz.func48, Tryz.ntmps48
  go_wp2_with (fail)
  rw [hW0.out]
  refine (hs.out _ HBX.out).mono ?_; rintro e w1 ⟨rfl, hb1⟩
  have B1 := Lib.hid (bt HBX.out hb1)
  have bx := (hb1.block _ (by omega)).trans HCX.out
  have by_ := (hb1.block _ (by omega)).trans HCY.out
  have hz1 := hb1.size
  have x14 : w1.cell? ⟨w.heap.size, 14, none⟩ = some (.slice A2 m1 c2) := cell_of_row w1 w.heap.size 14 _ _ _ bx
  have y14 : w1.cell? ⟨w.heap.size + 1, 14, none⟩ = some (.slice D2 m2 d2) := cell_of_row w1 (w.heap.size + 1) 14 _ _ _ by_
  clear hb1
  go_wp2_with (fail)
  refine (hd.out _ B1.out).mono ?_; rintro e w2 ⟨rfl, hb2⟩
  have B2 := Lib.hid (bt B1.out hb2)
  have gx := (hb2.block _ (by omega)).trans bx
  have gy := (hb2.block _ (by omega)).trans by_
  have x0 : w2.cell? ⟨w.heap.size, 0, none⟩ = some (.int .i64 xkind) := cell_of_row w2 w.heap.size 0 _ _ _ gx
  have y0 : w2.cell? ⟨w.heap.size + 1, 0, none⟩ = some (.int .i64 ykind) := cell_of_row w2 (w.heap.size + 1) 0 _ _ _ gy
  have x1 : w2.cell? ⟨w.heap.size, 1, none⟩ = some (.int .i64 xjob) := cell_of_row w2 w.heap.size 1 _ _ _ gx
  have y1 : w2.cell? ⟨w.heap.size + 1, 1, none⟩ = some (.int .i64 yjob) := cell_of_row w2 (w.heap.size + 1) 1 _ _ _ gy
  have x2 : w2.cell? ⟨w.heap.size, 2, none⟩ = some (.string xname) := cell_of_row w2 w.heap.size 2 _ _ _ gx
  have y2 : w2.cell? ⟨w.heap.size + 1, 2, none⟩ = some (.string yname) := cell_of_row w2 (w.heap.size + 1) 2 _ _ _ gy
  have x3 : w2.cell? ⟨w.heap.size, 3, none⟩ = some (.string xuser) := cell_of_row w2 w.heap.size 3 _ _ _ gx
  have y3 : w2.cell? ⟨w.heap.size + 1, 3, none⟩ = some (.string yuser) := cell_of_row w2 (w.heap.size + 1) 3 _ _ _ gy
  have x4 : w2.cell? ⟨w.heap.size, 4, none⟩ = some (.string xaccount) := cell_of_row w2 w.heap.size 4 _ _ _ gx
  have y4 : w2.cell? ⟨w.heap.size + 1, 4, none⟩ = some (.string yaccount) := cell_of_row w2 (w.heap.size + 1) 4 _ _ _ gy
  have x10 : w2.cell? ⟨w.heap.size, 10, none⟩ = some (.int .i64 xprio) := cell_of_row w2 w.heap.size 10 _ _ _ gx
  have y10 : w2.cell? ⟨w.heap.size + 1, 10, none⟩ = some (.int .i64 yprio) := cell_of_row w2 (w.heap.size + 1) 10 _ _ _ gy
  have x11 : w2.cell? ⟨w.heap.size, 11, none⟩ = some (.bool xhasPrio) := cell_of_row w2 w.heap.size 11 _ _ _ gx
  have y11 : w2.cell? ⟨w.heap.size + 1, 11, none⟩ = some (.bool yhasPrio) := cell_of_row w2 (w.heap.size + 1) 11 _ _ _ gy
  have x12 : w2.cell? ⟨w.heap.size, 12, none⟩ = some (.int .i64 xtime) := cell_of_row w2 w.heap.size 12 _ _ _ gx
  have y12 : w2.cell? ⟨w.heap.size + 1, 12, none⟩ = some (.int .i64 ytime) := cell_of_row w2 (w.heap.size + 1) 12 _ _ _ gy
  have x13 : w2.cell? ⟨w.heap.size, 13, none⟩ = some (.bool xhasTime) := cell_of_row w2 w.heap.size 13 _ _ _ gx
  have y13 : w2.cell? ⟨w.heap.size + 1, 13, none⟩ = some (.bool yhasTime) := cell_of_row w2 (w.heap.size + 1) 13 _ _ _ gy
  have x15 : w2.cell? ⟨w.heap.size, 15, none⟩ = some (.int .i64 xnode) := cell_of_row w2 w.heap.size 15 _ _ _ gx
  have y15 : w2.cell? ⟨w.heap.size + 1, 15, none⟩ = some (.int .i64 ynode) := cell_of_row w2 (w.heap.size + 1) 15 _ _ _ gy
  have x16 : w2.cell? ⟨w.heap.size, 16, none⟩ = some (.int .i64 xnodes) := cell_of_row w2 w.heap.size 16 _ _ _ gx
  have y16 : w2.cell? ⟨w.heap.size + 1, 16, none⟩ = some (.int .i64 ynodes) := cell_of_row w2 (w.heap.size + 1) 16 _ _ _ gy
  have x17 : w2.cell? ⟨w.heap.size, 17, none⟩ = some (.int .i64 xfrm) := cell_of_row w2 w.heap.size 17 _ _ _ gx
  have y17 : w2.cell? ⟨w.heap.size + 1, 17, none⟩ = some (.int .i64 yfrm) := cell_of_row w2 (w.heap.size + 1) 17 _ _ _ gy
  clear gx gy bx by_
  clear hb2
  go_wp2
  go_ret
  exact ⟨rfl, B2.out⟩
end Go.Proofs.YtmkmmggimokagaaGreatDoor
