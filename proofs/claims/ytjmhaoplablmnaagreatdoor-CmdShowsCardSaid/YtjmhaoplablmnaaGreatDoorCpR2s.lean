/- Layer 8: the reference's none at all kinds (printed by a program of my own). -/
import Derived.Test.YtjmhaoplablmnaaGreatDoorQ2s
import Derived.Test.YtjmhaoplablmnaaGreatDoorS3s
namespace Go.Proofs.YtjmhaoplablmnaaGreatDoor
set_option linter.unusedVariables false
set_option linter.unusedSimpArgs false
open Go.RowKit
def noneT (x : Cm) : Bool := (x.name.toList == []) && ((x.user.toList == []) && ((x.account.toList == []) && ((x.after.length == 0) && sameS x.shape sh0)))
def noneJ8 (x : Cm) : Bool := (!x.hasPrio) && ((!x.hasTime) && ((x.node == 0) && ((x.nodes == 0) && ((x.frm == 0) && noneT x))))
set_option maxHeartbeats 8000000 in
theorem rnoneJ_any (x : Cm) (A A2 : Option Addr) (c c2 B : Nat) (w : World) (ha : CmAt w B x A c A2 c2) (hB : B ≤ w.heap.size) :
    Calls Tryz.prog 34 #[cmV x A c A2 c2, .bool false, .bool true, .bool true, .bool true, .bool true, .bool true, .bool true] w fun e w' => e = .returned (.bool (noneJ8 x)) ∧ Below w.heap.size w w' := by
  have hs := Lib.hid (fun v (hv : Below w.heap.size w v) => rsameS_any x.shape sh0 A none c 0 B v (ha.1.below (hv.mono hB)) Reads.none_ (by have := ha.2.2.1; omega) (by decide) (Nat.le_trans hB hv.size))
  unfold noneJ8 noneT
  obtain ⟨y7, h7⟩ : ∃ q, sameS x.shape sh0 = q := ⟨_, rfl⟩
  rw [h7] at hs ⊢
  unfold shV sh0 at hs
  dsimp only [List.length_nil] at hs
  clear ha hB h7
  rw [cmV_is]
  have e2 : (cmA x A c A2 c2)[2]? = some (.string x.name) := rfl
  have e3 : (cmA x A c A2 c2)[3]? = some (.string x.user) := rfl
  have e4 : (cmA x A c A2 c2)[4]? = some (.string x.account) := rfl
  have e5 : (cmA x A c A2 c2)[5]? = some (.int .i64 x.shape.kind) := rfl
  have e6 : (cmA x A c A2 c2)[6]? = some (.slice A x.shape.alts.length c) := rfl
  have e7 : (cmA x A c A2 c2)[7]? = some (.int .i64 x.shape.mn) := rfl
  have e8 : (cmA x A c A2 c2)[8]? = some (.int .i64 x.shape.mx) := rfl
  have e9 : (cmA x A c A2 c2)[9]? = some (.int .i64 x.shape.wall) := rfl
  have e14 : (cmA x A c A2 c2)[14]? = some (.slice A2 x.after.length c2) := rfl
  have e11 : (cmA x A c A2 c2)[11]? = some (.bool x.hasPrio) := rfl
  have e13 : (cmA x A c A2 c2)[13]? = some (.bool x.hasTime) := rfl
  have e15 : (cmA x A c A2 c2)[15]? = some (.int .i64 x.node) := rfl
  have e16 : (cmA x A c A2 c2)[16]? = some (.int .i64 x.nodes) := rfl
  have e17 : (cmA x A c A2 c2)[17]? = some (.int .i64 x.frm) := rfl
  have HS := Lib.hid (cmA_size x A c A2 c2)
  obtain ⟨cs, hcs⟩ : ∃ cs, Hid (cmA x A c A2 c2 = cs) := ⟨_, rfl⟩
  rw [hcs.out] at HS e2 e3 e4 e5 e6 e7 e8 e9 e14 e11 e13 e15 e16 e17 ⊢
  obtain ⟨n, hn⟩ : ∃ n, x.shape.alts.length = n := ⟨_, rfl⟩
  obtain ⟨m, hm⟩ : ∃ n, x.after.length = n := ⟨_, rfl⟩
  rw [hn] at hs e6
  rw [hm] at e14 ⊢
  clear hcs hn hm
  obtain ⟨bprio, tprio⟩ : ∃ q, x.hasPrio = !q := ⟨!x.hasPrio, by simp⟩
  rw [tprio] at e11 ⊢
  obtain ⟨btime, ttime⟩ : ∃ q, x.hasTime = !q := ⟨!x.hasTime, by simp⟩
  rw [ttime] at e13 ⊢
  obtain ⟨bnode, tnode⟩ : ∃ q, (x.node == 0) = q := ⟨_, rfl⟩
  have tnodex : (x.node != 0) = !bnode := by rw [← tnode]; rfl
  obtain ⟨bnodes, tnodes⟩ : ∃ q, (x.nodes == 0) = q := ⟨_, rfl⟩
  have tnodesx : (x.nodes != 0) = !bnodes := by rw [← tnodes]; rfl
  obtain ⟨bfrm, tfrm⟩ : ∃ q, (x.frm == 0) = q := ⟨_, rfl⟩
  have tfrmx : (x.frm != 0) = !bfrm := by rw [← tfrm]; rfl
  obtain ⟨bname, tname⟩ : ∃ q, (x.name.toList == []) = q := ⟨_, rfl⟩
  obtain ⟨buser, tuser⟩ : ∃ q, (x.user.toList == []) = q := ⟨_, rfl⟩
  obtain ⟨baccount, taccount⟩ : ∃ q, (x.account.toList == []) = q := ⟨_, rfl⟩
  obtain ⟨bm, tm⟩ : ∃ q, (m == 0) = q := ⟨_, rfl⟩
  have tmx : ((m : Int) == 0) = bm := by rw [← tm, Bool.eq_iff_iff, beq_iff_eq, beq_iff_eq]; omega
  rw [tnode, tnodes, tfrm, tname, tuser, taccount, tm]
  clear tprio ttime tm
  obtain ⟨R, HR⟩ : ∃ R, Hid (R = (!!bprio && (!!btime && (bnode && (bnodes && (bfrm && (bname && (buser && (baccount && (bm && (y7))))))))))) := ⟨_, Lib.hid rfl⟩
  rw [← HR.out]
  cases bprio
  case false =>
    go_enter Tryz.func34, Tryz.ntmps34
    go_wp2_with (go_at_call 41; refine (hs.out _ cbx).mono ?_; rintro e w1 ⟨rfl, hb1⟩)
    go_ret
    exact ⟨by rw [HR.out] <;> rfl, (by first | exact bx hb1 | exact cbx)⟩
  cases btime
  case false =>
    go_enter Tryz.func34, Tryz.ntmps34
    go_wp2_with (go_at_call 41; refine (hs.out _ cbx).mono ?_; rintro e w1 ⟨rfl, hb1⟩)
    go_ret
    exact ⟨by rw [HR.out] <;> rfl, (by first | exact bx hb1 | exact cbx)⟩
  cases bnode
  case false =>
    go_enter Tryz.func34, Tryz.ntmps34
    go_wp2_with (go_at_call 41; refine (hs.out _ cbx).mono ?_; rintro e w1 ⟨rfl, hb1⟩)
    go_ret
    exact ⟨by rw [HR.out] <;> rfl, (by first | exact bx hb1 | exact cbx)⟩
  cases bnodes
  case false =>
    go_enter Tryz.func34, Tryz.ntmps34
    go_wp2_with (go_at_call 41; refine (hs.out _ cbx).mono ?_; rintro e w1 ⟨rfl, hb1⟩)
    go_ret
    exact ⟨by rw [HR.out] <;> rfl, (by first | exact bx hb1 | exact cbx)⟩
  cases bfrm
  case false =>
    go_enter Tryz.func34, Tryz.ntmps34
    go_wp2_with (go_at_call 41; refine (hs.out _ cbx).mono ?_; rintro e w1 ⟨rfl, hb1⟩)
    go_ret
    exact ⟨by rw [HR.out] <;> rfl, (by first | exact bx hb1 | exact cbx)⟩
  cases bname
  case false =>
    go_enter Tryz.func34, Tryz.ntmps34
    go_wp2_with (go_at_call 41; refine (hs.out _ cbx).mono ?_; rintro e w1 ⟨rfl, hb1⟩)
    go_ret
    exact ⟨by rw [HR.out] <;> rfl, (by first | exact bx hb1 | exact cbx)⟩
  cases buser
  case false =>
    go_enter Tryz.func34, Tryz.ntmps34
    go_wp2_with (go_at_call 41; refine (hs.out _ cbx).mono ?_; rintro e w1 ⟨rfl, hb1⟩)
    go_ret
    exact ⟨by rw [HR.out] <;> rfl, (by first | exact bx hb1 | exact cbx)⟩
  cases baccount
  case false =>
    go_enter Tryz.func34, Tryz.ntmps34
    go_wp2_with (go_at_call 41; refine (hs.out _ cbx).mono ?_; rintro e w1 ⟨rfl, hb1⟩)
    go_ret
    exact ⟨by rw [HR.out] <;> rfl, (by first | exact bx hb1 | exact cbx)⟩
  cases bm
  case false =>
    go_enter Tryz.func34, Tryz.ntmps34
    go_wp2_with (go_at_call 41; refine (hs.out _ cbx).mono ?_; rintro e w1 ⟨rfl, hb1⟩)
    go_ret
    exact ⟨by rw [HR.out] <;> rfl, (by first | exact bx hb1 | exact cbx)⟩
  go_enter Tryz.func34, Tryz.ntmps34
  go_wp2_with (go_at_call 41; refine (hs.out _ cbx).mono ?_; rintro e w1 ⟨rfl, hb1⟩)
  go_ret
  exact ⟨by rw [HR.out] <;> rfl, (by first | exact bx hb1 | exact cbx)⟩
def noneR8 (x : Cm) : Bool := (!x.hasPrio) && ((!x.hasTime) && ((x.node == 0) && ((x.frm == 0) && noneT x)))
set_option maxHeartbeats 8000000 in
theorem rnoneR_any (x : Cm) (A A2 : Option Addr) (c c2 B : Nat) (w : World) (ha : CmAt w B x A c A2 c2) (hB : B ≤ w.heap.size) :
    Calls Tryz.prog 34 #[cmV x A c A2 c2, .bool false, .bool true, .bool true, .bool true, .bool true, .bool false, .bool true] w fun e w' => e = .returned (.bool (noneR8 x)) ∧ Below w.heap.size w w' := by
  have hs := Lib.hid (fun v (hv : Below w.heap.size w v) => rsameS_any x.shape sh0 A none c 0 B v (ha.1.below (hv.mono hB)) Reads.none_ (by have := ha.2.2.1; omega) (by decide) (Nat.le_trans hB hv.size))
  unfold noneR8 noneT
  obtain ⟨y7, h7⟩ : ∃ q, sameS x.shape sh0 = q := ⟨_, rfl⟩
  rw [h7] at hs ⊢
  unfold shV sh0 at hs
  dsimp only [List.length_nil] at hs
  clear ha hB h7
  rw [cmV_is]
  have e2 : (cmA x A c A2 c2)[2]? = some (.string x.name) := rfl
  have e3 : (cmA x A c A2 c2)[3]? = some (.string x.user) := rfl
  have e4 : (cmA x A c A2 c2)[4]? = some (.string x.account) := rfl
  have e5 : (cmA x A c A2 c2)[5]? = some (.int .i64 x.shape.kind) := rfl
  have e6 : (cmA x A c A2 c2)[6]? = some (.slice A x.shape.alts.length c) := rfl
  have e7 : (cmA x A c A2 c2)[7]? = some (.int .i64 x.shape.mn) := rfl
  have e8 : (cmA x A c A2 c2)[8]? = some (.int .i64 x.shape.mx) := rfl
  have e9 : (cmA x A c A2 c2)[9]? = some (.int .i64 x.shape.wall) := rfl
  have e14 : (cmA x A c A2 c2)[14]? = some (.slice A2 x.after.length c2) := rfl
  have e11 : (cmA x A c A2 c2)[11]? = some (.bool x.hasPrio) := rfl
  have e13 : (cmA x A c A2 c2)[13]? = some (.bool x.hasTime) := rfl
  have e15 : (cmA x A c A2 c2)[15]? = some (.int .i64 x.node) := rfl
  have e17 : (cmA x A c A2 c2)[17]? = some (.int .i64 x.frm) := rfl
  have HS := Lib.hid (cmA_size x A c A2 c2)
  obtain ⟨cs, hcs⟩ : ∃ cs, Hid (cmA x A c A2 c2 = cs) := ⟨_, rfl⟩
  rw [hcs.out] at HS e2 e3 e4 e5 e6 e7 e8 e9 e14 e11 e13 e15 e17 ⊢
  obtain ⟨n, hn⟩ : ∃ n, x.shape.alts.length = n := ⟨_, rfl⟩
  obtain ⟨m, hm⟩ : ∃ n, x.after.length = n := ⟨_, rfl⟩
  rw [hn] at hs e6
  rw [hm] at e14 ⊢
  clear hcs hn hm
  obtain ⟨bprio, tprio⟩ : ∃ q, x.hasPrio = !q := ⟨!x.hasPrio, by simp⟩
  rw [tprio] at e11 ⊢
  obtain ⟨btime, ttime⟩ : ∃ q, x.hasTime = !q := ⟨!x.hasTime, by simp⟩
  rw [ttime] at e13 ⊢
  obtain ⟨bnode, tnode⟩ : ∃ q, (x.node == 0) = q := ⟨_, rfl⟩
  have tnodex : (x.node != 0) = !bnode := by rw [← tnode]; rfl
  obtain ⟨bfrm, tfrm⟩ : ∃ q, (x.frm == 0) = q := ⟨_, rfl⟩
  have tfrmx : (x.frm != 0) = !bfrm := by rw [← tfrm]; rfl
  obtain ⟨bname, tname⟩ : ∃ q, (x.name.toList == []) = q := ⟨_, rfl⟩
  obtain ⟨buser, tuser⟩ : ∃ q, (x.user.toList == []) = q := ⟨_, rfl⟩
  obtain ⟨baccount, taccount⟩ : ∃ q, (x.account.toList == []) = q := ⟨_, rfl⟩
  obtain ⟨bm, tm⟩ : ∃ q, (m == 0) = q := ⟨_, rfl⟩
  have tmx : ((m : Int) == 0) = bm := by rw [← tm, Bool.eq_iff_iff, beq_iff_eq, beq_iff_eq]; omega
  rw [tnode, tfrm, tname, tuser, taccount, tm]
  clear tprio ttime tm
  obtain ⟨R, HR⟩ : ∃ R, Hid (R = (!!bprio && (!!btime && (bnode && (bfrm && (bname && (buser && (baccount && (bm && (y7)))))))))) := ⟨_, Lib.hid rfl⟩
  rw [← HR.out]
  cases bprio
  case false =>
    go_enter Tryz.func34, Tryz.ntmps34
    go_wp2_with (go_at_call 41; refine (hs.out _ cbx).mono ?_; rintro e w1 ⟨rfl, hb1⟩)
    go_ret
    exact ⟨by rw [HR.out] <;> rfl, (by first | exact bx hb1 | exact cbx)⟩
  cases btime
  case false =>
    go_enter Tryz.func34, Tryz.ntmps34
    go_wp2_with (go_at_call 41; refine (hs.out _ cbx).mono ?_; rintro e w1 ⟨rfl, hb1⟩)
    go_ret
    exact ⟨by rw [HR.out] <;> rfl, (by first | exact bx hb1 | exact cbx)⟩
  cases bnode
  case false =>
    go_enter Tryz.func34, Tryz.ntmps34
    go_wp2_with (go_at_call 41; refine (hs.out _ cbx).mono ?_; rintro e w1 ⟨rfl, hb1⟩)
    go_ret
    exact ⟨by rw [HR.out] <;> rfl, (by first | exact bx hb1 | exact cbx)⟩
  cases bfrm
  case false =>
    go_enter Tryz.func34, Tryz.ntmps34
    go_wp2_with (go_at_call 41; refine (hs.out _ cbx).mono ?_; rintro e w1 ⟨rfl, hb1⟩)
    go_ret
    exact ⟨by rw [HR.out] <;> rfl, (by first | exact bx hb1 | exact cbx)⟩
  cases bname
  case false =>
    go_enter Tryz.func34, Tryz.ntmps34
    go_wp2_with (go_at_call 41; refine (hs.out _ cbx).mono ?_; rintro e w1 ⟨rfl, hb1⟩)
    go_ret
    exact ⟨by rw [HR.out] <;> rfl, (by first | exact bx hb1 | exact cbx)⟩
  cases buser
  case false =>
    go_enter Tryz.func34, Tryz.ntmps34
    go_wp2_with (go_at_call 41; refine (hs.out _ cbx).mono ?_; rintro e w1 ⟨rfl, hb1⟩)
    go_ret
    exact ⟨by rw [HR.out] <;> rfl, (by first | exact bx hb1 | exact cbx)⟩
  cases baccount
  case false =>
    go_enter Tryz.func34, Tryz.ntmps34
    go_wp2_with (go_at_call 41; refine (hs.out _ cbx).mono ?_; rintro e w1 ⟨rfl, hb1⟩)
    go_ret
    exact ⟨by rw [HR.out] <;> rfl, (by first | exact bx hb1 | exact cbx)⟩
  cases bm
  case false =>
    go_enter Tryz.func34, Tryz.ntmps34
    go_wp2_with (go_at_call 41; refine (hs.out _ cbx).mono ?_; rintro e w1 ⟨rfl, hb1⟩)
    go_ret
    exact ⟨by rw [HR.out] <;> rfl, (by first | exact bx hb1 | exact cbx)⟩
  go_enter Tryz.func34, Tryz.ntmps34
  go_wp2_with (go_at_call 41; refine (hs.out _ cbx).mono ?_; rintro e w1 ⟨rfl, hb1⟩)
  go_ret
  exact ⟨by rw [HR.out] <;> rfl, (by first | exact bx hb1 | exact cbx)⟩
def noneN8 (x : Cm) : Bool := (x.job == 0) && ((!x.hasPrio) && ((!x.hasTime) && ((x.nodes == 0) && ((x.frm == 0) && noneT x))))
set_option maxHeartbeats 8000000 in
theorem rnoneN_any (x : Cm) (A A2 : Option Addr) (c c2 B : Nat) (w : World) (ha : CmAt w B x A c A2 c2) (hB : B ≤ w.heap.size) :
    Calls Tryz.prog 34 #[cmV x A c A2 c2, .bool true, .bool true, .bool true, .bool true, .bool false, .bool true, .bool true] w fun e w' => e = .returned (.bool (noneN8 x)) ∧ Below w.heap.size w w' := by
  have hs := Lib.hid (fun v (hv : Below w.heap.size w v) => rsameS_any x.shape sh0 A none c 0 B v (ha.1.below (hv.mono hB)) Reads.none_ (by have := ha.2.2.1; omega) (by decide) (Nat.le_trans hB hv.size))
  unfold noneN8 noneT
  obtain ⟨y7, h7⟩ : ∃ q, sameS x.shape sh0 = q := ⟨_, rfl⟩
  rw [h7] at hs ⊢
  unfold shV sh0 at hs
  dsimp only [List.length_nil] at hs
  clear ha hB h7
  rw [cmV_is]
  have e2 : (cmA x A c A2 c2)[2]? = some (.string x.name) := rfl
  have e3 : (cmA x A c A2 c2)[3]? = some (.string x.user) := rfl
  have e4 : (cmA x A c A2 c2)[4]? = some (.string x.account) := rfl
  have e5 : (cmA x A c A2 c2)[5]? = some (.int .i64 x.shape.kind) := rfl
  have e6 : (cmA x A c A2 c2)[6]? = some (.slice A x.shape.alts.length c) := rfl
  have e7 : (cmA x A c A2 c2)[7]? = some (.int .i64 x.shape.mn) := rfl
  have e8 : (cmA x A c A2 c2)[8]? = some (.int .i64 x.shape.mx) := rfl
  have e9 : (cmA x A c A2 c2)[9]? = some (.int .i64 x.shape.wall) := rfl
  have e14 : (cmA x A c A2 c2)[14]? = some (.slice A2 x.after.length c2) := rfl
  have e1 : (cmA x A c A2 c2)[1]? = some (.int .i64 x.job) := rfl
  have e11 : (cmA x A c A2 c2)[11]? = some (.bool x.hasPrio) := rfl
  have e13 : (cmA x A c A2 c2)[13]? = some (.bool x.hasTime) := rfl
  have e16 : (cmA x A c A2 c2)[16]? = some (.int .i64 x.nodes) := rfl
  have e17 : (cmA x A c A2 c2)[17]? = some (.int .i64 x.frm) := rfl
  have HS := Lib.hid (cmA_size x A c A2 c2)
  obtain ⟨cs, hcs⟩ : ∃ cs, Hid (cmA x A c A2 c2 = cs) := ⟨_, rfl⟩
  rw [hcs.out] at HS e2 e3 e4 e5 e6 e7 e8 e9 e14 e1 e11 e13 e16 e17 ⊢
  obtain ⟨n, hn⟩ : ∃ n, x.shape.alts.length = n := ⟨_, rfl⟩
  obtain ⟨m, hm⟩ : ∃ n, x.after.length = n := ⟨_, rfl⟩
  rw [hn] at hs e6
  rw [hm] at e14 ⊢
  clear hcs hn hm
  obtain ⟨bjob, tjob⟩ : ∃ q, (x.job == 0) = q := ⟨_, rfl⟩
  have tjobx : (x.job != 0) = !bjob := by rw [← tjob]; rfl
  obtain ⟨bprio, tprio⟩ : ∃ q, x.hasPrio = !q := ⟨!x.hasPrio, by simp⟩
  rw [tprio] at e11 ⊢
  obtain ⟨btime, ttime⟩ : ∃ q, x.hasTime = !q := ⟨!x.hasTime, by simp⟩
  rw [ttime] at e13 ⊢
  obtain ⟨bnodes, tnodes⟩ : ∃ q, (x.nodes == 0) = q := ⟨_, rfl⟩
  have tnodesx : (x.nodes != 0) = !bnodes := by rw [← tnodes]; rfl
  obtain ⟨bfrm, tfrm⟩ : ∃ q, (x.frm == 0) = q := ⟨_, rfl⟩
  have tfrmx : (x.frm != 0) = !bfrm := by rw [← tfrm]; rfl
  obtain ⟨bname, tname⟩ : ∃ q, (x.name.toList == []) = q := ⟨_, rfl⟩
  obtain ⟨buser, tuser⟩ : ∃ q, (x.user.toList == []) = q := ⟨_, rfl⟩
  obtain ⟨baccount, taccount⟩ : ∃ q, (x.account.toList == []) = q := ⟨_, rfl⟩
  obtain ⟨bm, tm⟩ : ∃ q, (m == 0) = q := ⟨_, rfl⟩
  have tmx : ((m : Int) == 0) = bm := by rw [← tm, Bool.eq_iff_iff, beq_iff_eq, beq_iff_eq]; omega
  rw [tjob, tnodes, tfrm, tname, tuser, taccount, tm]
  clear tprio ttime tm
  obtain ⟨R, HR⟩ : ∃ R, Hid (R = (bjob && (!!bprio && (!!btime && (bnodes && (bfrm && (bname && (buser && (baccount && (bm && (y7))))))))))) := ⟨_, Lib.hid rfl⟩
  rw [← HR.out]
  cases bjob
  case false =>
    go_enter Tryz.func34, Tryz.ntmps34
    go_wp2_with (go_at_call 41; refine (hs.out _ cbx).mono ?_; rintro e w1 ⟨rfl, hb1⟩)
    go_ret
    exact ⟨by rw [HR.out] <;> rfl, (by first | exact bx hb1 | exact cbx)⟩
  cases bprio
  case false =>
    go_enter Tryz.func34, Tryz.ntmps34
    go_wp2_with (go_at_call 41; refine (hs.out _ cbx).mono ?_; rintro e w1 ⟨rfl, hb1⟩)
    go_ret
    exact ⟨by rw [HR.out] <;> rfl, (by first | exact bx hb1 | exact cbx)⟩
  cases btime
  case false =>
    go_enter Tryz.func34, Tryz.ntmps34
    go_wp2_with (go_at_call 41; refine (hs.out _ cbx).mono ?_; rintro e w1 ⟨rfl, hb1⟩)
    go_ret
    exact ⟨by rw [HR.out] <;> rfl, (by first | exact bx hb1 | exact cbx)⟩
  cases bnodes
  case false =>
    go_enter Tryz.func34, Tryz.ntmps34
    go_wp2_with (go_at_call 41; refine (hs.out _ cbx).mono ?_; rintro e w1 ⟨rfl, hb1⟩)
    go_ret
    exact ⟨by rw [HR.out] <;> rfl, (by first | exact bx hb1 | exact cbx)⟩
  cases bfrm
  case false =>
    go_enter Tryz.func34, Tryz.ntmps34
    go_wp2_with (go_at_call 41; refine (hs.out _ cbx).mono ?_; rintro e w1 ⟨rfl, hb1⟩)
    go_ret
    exact ⟨by rw [HR.out] <;> rfl, (by first | exact bx hb1 | exact cbx)⟩
  cases bname
  case false =>
    go_enter Tryz.func34, Tryz.ntmps34
    go_wp2_with (go_at_call 41; refine (hs.out _ cbx).mono ?_; rintro e w1 ⟨rfl, hb1⟩)
    go_ret
    exact ⟨by rw [HR.out] <;> rfl, (by first | exact bx hb1 | exact cbx)⟩
  cases buser
  case false =>
    go_enter Tryz.func34, Tryz.ntmps34
    go_wp2_with (go_at_call 41; refine (hs.out _ cbx).mono ?_; rintro e w1 ⟨rfl, hb1⟩)
    go_ret
    exact ⟨by rw [HR.out] <;> rfl, (by first | exact bx hb1 | exact cbx)⟩
  cases baccount
  case false =>
    go_enter Tryz.func34, Tryz.ntmps34
    go_wp2_with (go_at_call 41; refine (hs.out _ cbx).mono ?_; rintro e w1 ⟨rfl, hb1⟩)
    go_ret
    exact ⟨by rw [HR.out] <;> rfl, (by first | exact bx hb1 | exact cbx)⟩
  cases bm
  case false =>
    go_enter Tryz.func34, Tryz.ntmps34
    go_wp2_with (go_at_call 41; refine (hs.out _ cbx).mono ?_; rintro e w1 ⟨rfl, hb1⟩)
    go_ret
    exact ⟨by rw [HR.out] <;> rfl, (by first | exact bx hb1 | exact cbx)⟩
  go_enter Tryz.func34, Tryz.ntmps34
  go_wp2_with (go_at_call 41; refine (hs.out _ cbx).mono ?_; rintro e w1 ⟨rfl, hb1⟩)
  go_ret
  exact ⟨by rw [HR.out] <;> rfl, (by first | exact bx hb1 | exact cbx)⟩
def noneV8 (x : Cm) : Bool := (x.job == 0) && ((!x.hasPrio) && ((x.node == 0) && noneT x))
set_option maxHeartbeats 8000000 in
theorem rnoneV_any (x : Cm) (A A2 : Option Addr) (c c2 B : Nat) (w : World) (ha : CmAt w B x A c A2 c2) (hB : B ≤ w.heap.size) :
    Calls Tryz.prog 34 #[cmV x A c A2 c2, .bool true, .bool true, .bool true, .bool false, .bool true, .bool false, .bool false] w fun e w' => e = .returned (.bool (noneV8 x)) ∧ Below w.heap.size w w' := by
  have hs := Lib.hid (fun v (hv : Below w.heap.size w v) => rsameS_any x.shape sh0 A none c 0 B v (ha.1.below (hv.mono hB)) Reads.none_ (by have := ha.2.2.1; omega) (by decide) (Nat.le_trans hB hv.size))
  unfold noneV8 noneT
  obtain ⟨y7, h7⟩ : ∃ q, sameS x.shape sh0 = q := ⟨_, rfl⟩
  rw [h7] at hs ⊢
  unfold shV sh0 at hs
  dsimp only [List.length_nil] at hs
  clear ha hB h7
  rw [cmV_is]
  have e2 : (cmA x A c A2 c2)[2]? = some (.string x.name) := rfl
  have e3 : (cmA x A c A2 c2)[3]? = some (.string x.user) := rfl
  have e4 : (cmA x A c A2 c2)[4]? = some (.string x.account) := rfl
  have e5 : (cmA x A c A2 c2)[5]? = some (.int .i64 x.shape.kind) := rfl
  have e6 : (cmA x A c A2 c2)[6]? = some (.slice A x.shape.alts.length c) := rfl
  have e7 : (cmA x A c A2 c2)[7]? = some (.int .i64 x.shape.mn) := rfl
  have e8 : (cmA x A c A2 c2)[8]? = some (.int .i64 x.shape.mx) := rfl
  have e9 : (cmA x A c A2 c2)[9]? = some (.int .i64 x.shape.wall) := rfl
  have e14 : (cmA x A c A2 c2)[14]? = some (.slice A2 x.after.length c2) := rfl
  have e1 : (cmA x A c A2 c2)[1]? = some (.int .i64 x.job) := rfl
  have e11 : (cmA x A c A2 c2)[11]? = some (.bool x.hasPrio) := rfl
  have e15 : (cmA x A c A2 c2)[15]? = some (.int .i64 x.node) := rfl
  have HS := Lib.hid (cmA_size x A c A2 c2)
  obtain ⟨cs, hcs⟩ : ∃ cs, Hid (cmA x A c A2 c2 = cs) := ⟨_, rfl⟩
  rw [hcs.out] at HS e2 e3 e4 e5 e6 e7 e8 e9 e14 e1 e11 e15 ⊢
  obtain ⟨n, hn⟩ : ∃ n, x.shape.alts.length = n := ⟨_, rfl⟩
  obtain ⟨m, hm⟩ : ∃ n, x.after.length = n := ⟨_, rfl⟩
  rw [hn] at hs e6
  rw [hm] at e14 ⊢
  clear hcs hn hm
  obtain ⟨bjob, tjob⟩ : ∃ q, (x.job == 0) = q := ⟨_, rfl⟩
  have tjobx : (x.job != 0) = !bjob := by rw [← tjob]; rfl
  obtain ⟨bprio, tprio⟩ : ∃ q, x.hasPrio = !q := ⟨!x.hasPrio, by simp⟩
  rw [tprio] at e11 ⊢
  obtain ⟨bnode, tnode⟩ : ∃ q, (x.node == 0) = q := ⟨_, rfl⟩
  have tnodex : (x.node != 0) = !bnode := by rw [← tnode]; rfl
  obtain ⟨bname, tname⟩ : ∃ q, (x.name.toList == []) = q := ⟨_, rfl⟩
  obtain ⟨buser, tuser⟩ : ∃ q, (x.user.toList == []) = q := ⟨_, rfl⟩
  obtain ⟨baccount, taccount⟩ : ∃ q, (x.account.toList == []) = q := ⟨_, rfl⟩
  obtain ⟨bm, tm⟩ : ∃ q, (m == 0) = q := ⟨_, rfl⟩
  have tmx : ((m : Int) == 0) = bm := by rw [← tm, Bool.eq_iff_iff, beq_iff_eq, beq_iff_eq]; omega
  rw [tjob, tnode, tname, tuser, taccount, tm]
  clear tprio tm
  obtain ⟨R, HR⟩ : ∃ R, Hid (R = (bjob && (!!bprio && (bnode && (bname && (buser && (baccount && (bm && (y7))))))))) := ⟨_, Lib.hid rfl⟩
  rw [← HR.out]
  cases bjob
  case false =>
    go_enter Tryz.func34, Tryz.ntmps34
    go_wp2_with (go_at_call 41; refine (hs.out _ cbx).mono ?_; rintro e w1 ⟨rfl, hb1⟩)
    go_ret
    exact ⟨by rw [HR.out] <;> rfl, (by first | exact bx hb1 | exact cbx)⟩
  cases bprio
  case false =>
    go_enter Tryz.func34, Tryz.ntmps34
    go_wp2_with (go_at_call 41; refine (hs.out _ cbx).mono ?_; rintro e w1 ⟨rfl, hb1⟩)
    go_ret
    exact ⟨by rw [HR.out] <;> rfl, (by first | exact bx hb1 | exact cbx)⟩
  cases bnode
  case false =>
    go_enter Tryz.func34, Tryz.ntmps34
    go_wp2_with (go_at_call 41; refine (hs.out _ cbx).mono ?_; rintro e w1 ⟨rfl, hb1⟩)
    go_ret
    exact ⟨by rw [HR.out] <;> rfl, (by first | exact bx hb1 | exact cbx)⟩
  cases bname
  case false =>
    go_enter Tryz.func34, Tryz.ntmps34
    go_wp2_with (go_at_call 41; refine (hs.out _ cbx).mono ?_; rintro e w1 ⟨rfl, hb1⟩)
    go_ret
    exact ⟨by rw [HR.out] <;> rfl, (by first | exact bx hb1 | exact cbx)⟩
  cases buser
  case false =>
    go_enter Tryz.func34, Tryz.ntmps34
    go_wp2_with (go_at_call 41; refine (hs.out _ cbx).mono ?_; rintro e w1 ⟨rfl, hb1⟩)
    go_ret
    exact ⟨by rw [HR.out] <;> rfl, (by first | exact bx hb1 | exact cbx)⟩
  cases baccount
  case false =>
    go_enter Tryz.func34, Tryz.ntmps34
    go_wp2_with (go_at_call 41; refine (hs.out _ cbx).mono ?_; rintro e w1 ⟨rfl, hb1⟩)
    go_ret
    exact ⟨by rw [HR.out] <;> rfl, (by first | exact bx hb1 | exact cbx)⟩
  cases bm
  case false =>
    go_enter Tryz.func34, Tryz.ntmps34
    go_wp2_with (go_at_call 41; refine (hs.out _ cbx).mono ?_; rintro e w1 ⟨rfl, hb1⟩)
    go_ret
    exact ⟨by rw [HR.out] <;> rfl, (by first | exact bx hb1 | exact cbx)⟩
  go_enter Tryz.func34, Tryz.ntmps34
  go_wp2_with (go_at_call 41; refine (hs.out _ cbx).mono ?_; rintro e w1 ⟨rfl, hb1⟩)
  go_ret
  exact ⟨by rw [HR.out] <;> rfl, (by first | exact bx hb1 | exact cbx)⟩
def noneA8 (x : Cm) : Bool := (x.node == 0) && ((x.nodes == 0) && ((x.frm == 0) && noneT x))
set_option maxHeartbeats 8000000 in
theorem rnoneA_any (x : Cm) (A A2 : Option Addr) (c c2 B : Nat) (w : World) (ha : CmAt w B x A c A2 c2) (hB : B ≤ w.heap.size) :
    Calls Tryz.prog 34 #[cmV x A c A2 c2, .bool false, .bool true, .bool false, .bool false, .bool true, .bool true, .bool true] w fun e w' => e = .returned (.bool (noneA8 x)) ∧ Below w.heap.size w w' := by
  have hs := Lib.hid (fun v (hv : Below w.heap.size w v) => rsameS_any x.shape sh0 A none c 0 B v (ha.1.below (hv.mono hB)) Reads.none_ (by have := ha.2.2.1; omega) (by decide) (Nat.le_trans hB hv.size))
  unfold noneA8 noneT
  obtain ⟨y7, h7⟩ : ∃ q, sameS x.shape sh0 = q := ⟨_, rfl⟩
  rw [h7] at hs ⊢
  unfold shV sh0 at hs
  dsimp only [List.length_nil] at hs
  clear ha hB h7
  rw [cmV_is]
  have e2 : (cmA x A c A2 c2)[2]? = some (.string x.name) := rfl
  have e3 : (cmA x A c A2 c2)[3]? = some (.string x.user) := rfl
  have e4 : (cmA x A c A2 c2)[4]? = some (.string x.account) := rfl
  have e5 : (cmA x A c A2 c2)[5]? = some (.int .i64 x.shape.kind) := rfl
  have e6 : (cmA x A c A2 c2)[6]? = some (.slice A x.shape.alts.length c) := rfl
  have e7 : (cmA x A c A2 c2)[7]? = some (.int .i64 x.shape.mn) := rfl
  have e8 : (cmA x A c A2 c2)[8]? = some (.int .i64 x.shape.mx) := rfl
  have e9 : (cmA x A c A2 c2)[9]? = some (.int .i64 x.shape.wall) := rfl
  have e14 : (cmA x A c A2 c2)[14]? = some (.slice A2 x.after.length c2) := rfl
  have e15 : (cmA x A c A2 c2)[15]? = some (.int .i64 x.node) := rfl
  have e16 : (cmA x A c A2 c2)[16]? = some (.int .i64 x.nodes) := rfl
  have e17 : (cmA x A c A2 c2)[17]? = some (.int .i64 x.frm) := rfl
  have HS := Lib.hid (cmA_size x A c A2 c2)
  obtain ⟨cs, hcs⟩ : ∃ cs, Hid (cmA x A c A2 c2 = cs) := ⟨_, rfl⟩
  rw [hcs.out] at HS e2 e3 e4 e5 e6 e7 e8 e9 e14 e15 e16 e17 ⊢
  obtain ⟨n, hn⟩ : ∃ n, x.shape.alts.length = n := ⟨_, rfl⟩
  obtain ⟨m, hm⟩ : ∃ n, x.after.length = n := ⟨_, rfl⟩
  rw [hn] at hs e6
  rw [hm] at e14 ⊢
  clear hcs hn hm
  obtain ⟨bnode, tnode⟩ : ∃ q, (x.node == 0) = q := ⟨_, rfl⟩
  have tnodex : (x.node != 0) = !bnode := by rw [← tnode]; rfl
  obtain ⟨bnodes, tnodes⟩ : ∃ q, (x.nodes == 0) = q := ⟨_, rfl⟩
  have tnodesx : (x.nodes != 0) = !bnodes := by rw [← tnodes]; rfl
  obtain ⟨bfrm, tfrm⟩ : ∃ q, (x.frm == 0) = q := ⟨_, rfl⟩
  have tfrmx : (x.frm != 0) = !bfrm := by rw [← tfrm]; rfl
  obtain ⟨bname, tname⟩ : ∃ q, (x.name.toList == []) = q := ⟨_, rfl⟩
  obtain ⟨buser, tuser⟩ : ∃ q, (x.user.toList == []) = q := ⟨_, rfl⟩
  obtain ⟨baccount, taccount⟩ : ∃ q, (x.account.toList == []) = q := ⟨_, rfl⟩
  obtain ⟨bm, tm⟩ : ∃ q, (m == 0) = q := ⟨_, rfl⟩
  have tmx : ((m : Int) == 0) = bm := by rw [← tm, Bool.eq_iff_iff, beq_iff_eq, beq_iff_eq]; omega
  rw [tnode, tnodes, tfrm, tname, tuser, taccount, tm]
  clear tm
  obtain ⟨R, HR⟩ : ∃ R, Hid (R = (bnode && (bnodes && (bfrm && (bname && (buser && (baccount && (bm && (y7))))))))) := ⟨_, Lib.hid rfl⟩
  rw [← HR.out]
  cases bnode
  case false =>
    go_enter Tryz.func34, Tryz.ntmps34
    go_wp2_with (go_at_call 41; refine (hs.out _ cbx).mono ?_; rintro e w1 ⟨rfl, hb1⟩)
    go_ret
    exact ⟨by rw [HR.out] <;> rfl, (by first | exact bx hb1 | exact cbx)⟩
  cases bnodes
  case false =>
    go_enter Tryz.func34, Tryz.ntmps34
    go_wp2_with (go_at_call 41; refine (hs.out _ cbx).mono ?_; rintro e w1 ⟨rfl, hb1⟩)
    go_ret
    exact ⟨by rw [HR.out] <;> rfl, (by first | exact bx hb1 | exact cbx)⟩
  cases bfrm
  case false =>
    go_enter Tryz.func34, Tryz.ntmps34
    go_wp2_with (go_at_call 41; refine (hs.out _ cbx).mono ?_; rintro e w1 ⟨rfl, hb1⟩)
    go_ret
    exact ⟨by rw [HR.out] <;> rfl, (by first | exact bx hb1 | exact cbx)⟩
  cases bname
  case false =>
    go_enter Tryz.func34, Tryz.ntmps34
    go_wp2_with (go_at_call 41; refine (hs.out _ cbx).mono ?_; rintro e w1 ⟨rfl, hb1⟩)
    go_ret
    exact ⟨by rw [HR.out] <;> rfl, (by first | exact bx hb1 | exact cbx)⟩
  cases buser
  case false =>
    go_enter Tryz.func34, Tryz.ntmps34
    go_wp2_with (go_at_call 41; refine (hs.out _ cbx).mono ?_; rintro e w1 ⟨rfl, hb1⟩)
    go_ret
    exact ⟨by rw [HR.out] <;> rfl, (by first | exact bx hb1 | exact cbx)⟩
  cases baccount
  case false =>
    go_enter Tryz.func34, Tryz.ntmps34
    go_wp2_with (go_at_call 41; refine (hs.out _ cbx).mono ?_; rintro e w1 ⟨rfl, hb1⟩)
    go_ret
    exact ⟨by rw [HR.out] <;> rfl, (by first | exact bx hb1 | exact cbx)⟩
  cases bm
  case false =>
    go_enter Tryz.func34, Tryz.ntmps34
    go_wp2_with (go_at_call 41; refine (hs.out _ cbx).mono ?_; rintro e w1 ⟨rfl, hb1⟩)
    go_ret
    exact ⟨by rw [HR.out] <;> rfl, (by first | exact bx hb1 | exact cbx)⟩
  go_enter Tryz.func34, Tryz.ntmps34
  go_wp2_with (go_at_call 41; refine (hs.out _ cbx).mono ?_; rintro e w1 ⟨rfl, hb1⟩)
  go_ret
  exact ⟨by rw [HR.out] <;> rfl, (by first | exact bx hb1 | exact cbx)⟩
end Go.Proofs.YtjmhaoplablmnaaGreatDoor
