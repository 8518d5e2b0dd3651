/- Layer 8: the reference's Check at alterations (printed by a program of my own). Layer 8: the reference's Check at alterations (printed by a program of my own). Layer 8: the reference's Check at alterations (printed by a program of my own). The document's answer of layer 7: Walls, walked. Layer 14: the reference's Start walked (printed by a program of my own). Layer 14: the reference's Alter walked (printed by a program of my own). -/
import Derived.Test.YtghmcdfmbjabnaaGreatDoorQ2t
import Derived.Test.YtghmcdfmbjabnaaGreatDoorS3t
import Derived.Test.YtghmcdfmbjabnaaGreatDoorQ11y
import Derived.Deep.RegionLaw
import Derived.Test.YtghmcdfmbjabnaaGreatDoorQ10y
import Derived.Test.YtghmcdfmbjabnaaGreatDoorQ14y
import Derived.Test.YtghmcdfmbjabnaaGreatDoorQ0t
import Derived.Deep.DeepCutAuto
import Derived.Deep.CutBlock
import Derived.Deep.RegionWith
import Derived.Test.YtghmcdfmbjabnaaGreatDoorQ4t
import Derived.Test.YtghmcdfmbjabnaaGreatDoorQ4y
namespace Go.Proofs.YtghmcdfmbjabnaaGreatDoor
set_option linter.unusedVariables false
open Go.RowKit
/-- an alteration has nothing of the other kinds -/
def noneA (x : Cm) : Bool := (x.node == 0) && ((x.nodes == 0) && ((x.frm == 0) && ((x.name.toList == []) && ((x.user.toList == []) && ((x.account.toList == []) && ((x.after.length == 0) && sameS x.shape sh0))))))
def raltB (x : Cm) : Bool := noneA x && (inB x.job 1 99999 && ((x.hasPrio || x.hasTime) && ((if x.hasPrio = true then inB x.prio 0 100 else x.prio == 0) && (if x.hasTime = true then inB x.time 1 100000 else x.time == 0))))
set_option linter.unusedSimpArgs false in
set_option maxHeartbeats 8000000 in
set_option maxRecDepth 100000 in
theorem rnone_alter (x : Cm) (A A2 : Option Addr) (c c2 B : Nat) (w : World) (ha : CmAt w B x A c A2 c2) (hB : B ≤ w.heap.size) :
    Calls Tryz.prog 163 #[cmV x A c A2 c2, .bool false, .bool true, .bool false, .bool false, .bool true, .bool true, .bool true] w fun e w' => e = .returned (.bool (noneA x)) ∧ Below w.heap.size w w' := by
  have hs := Lib.hid (fun v (hv : Below w.heap.size w v) => rsameS_any x.shape sh0 A none c 0 B v (ha.1.below (hv.mono hB)) Reads.none_ (by have := ha.2.2.1; omega) (by decide) (Nat.le_trans hB hv.size))
  unfold noneA
  obtain ⟨y7, h7⟩ : ∃ q, sameS x.shape sh0 = q := ⟨_, rfl⟩
  rw [h7] at hs ⊢
  unfold shV sh0 at hs
  dsimp only [List.length_nil] at hs
  clear ha hB h7
  rw [cmV_is]
  have e2 : (cmA x A c A2 c2)[2]? = some (.string x.name) := rfl
  have e3 : (cmA x A c A2 c2)[3]? = some (.string x.user) := rfl
  have e4 : (cmA x A c A2 c2)[4]? = some (.string x.account) := rfl
  have e5 : (cmA x A c A2 c2)[5]? = some (.int .i64 x.shape.kind) := rfl
  have e6 : (cmA x A c A2 c2)[6]? = some (.slice A x.shape.alts.length c) := rfl
  have e7 : (cmA x A c A2 c2)[7]? = some (.int .i64 x.shape.mn) := rfl
  have e8 : (cmA x A c A2 c2)[8]? = some (.int .i64 x.shape.mx) := rfl
  have e9 : (cmA x A c A2 c2)[9]? = some (.int .i64 x.shape.wall) := rfl
  have e14 : (cmA x A c A2 c2)[14]? = some (.slice A2 x.after.length c2) := rfl
  have e15 : (cmA x A c A2 c2)[15]? = some (.int .i64 x.node) := rfl
  have e16 : (cmA x A c A2 c2)[16]? = some (.int .i64 x.nodes) := rfl
  have e17 : (cmA x A c A2 c2)[17]? = some (.int .i64 x.frm) := rfl
  have HS := Lib.hid (cmA_size x A c A2 c2)
  obtain ⟨cs, hcs⟩ : ∃ cs, Hid (cmA x A c A2 c2 = cs) := ⟨_, rfl⟩
  rw [hcs.out] at HS e2 e3 e4 e5 e6 e7 e8 e9 e14 e15 e16 e17 ⊢
  obtain ⟨n, hn⟩ : ∃ n, x.shape.alts.length = n := ⟨_, rfl⟩
  obtain ⟨m, hm⟩ : ∃ n, x.after.length = n := ⟨_, rfl⟩
  rw [hn] at hs e6
  rw [hm] at e14 ⊢
  clear hcs hn hm
  obtain ⟨R, HR⟩ : ∃ R, Hid ((x.node == 0 && (x.nodes == 0 && (x.frm == 0 && (x.name.toList == [] && (x.user.toList == [] && (x.account.toList == [] && (m == 0 && y7))))))) = R) := ⟨_, rfl⟩
  rw [HR.out]
  cases t15 : (x.node == 0)
  case false =>
    have t15x := bne_of8 t15
    have HQ : Hid (R = _) := HR.out.symm
    rw [t15] at HQ
    go_enter Tryz.func163, Tryz.ntmps163
    go_wp2_with (go_at_call 68; refine (hs.out _ cbx).mono ?_; rintro e w1 ⟨rfl, hb1⟩)
    go_ret
    exact ⟨by rw [HQ.out] <;> rfl, (by first | exact bx hb1 | exact cbx)⟩
  have t15x : (x.node != 0) = false := by show (!(x.node == 0)) = false; rw [t15]; rfl
  cases t16 : (x.nodes == 0)
  case false =>
    have t16x := bne_of8 t16
    have HQ : Hid (R = _) := HR.out.symm
    rw [t15, t16] at HQ
    go_enter Tryz.func163, Tryz.ntmps163
    go_wp2_with (go_at_call 68; refine (hs.out _ cbx).mono ?_; rintro e w1 ⟨rfl, hb1⟩)
    go_ret
    exact ⟨by rw [HQ.out] <;> rfl, (by first | exact bx hb1 | exact cbx)⟩
  have t16x : (x.nodes != 0) = false := by show (!(x.nodes == 0)) = false; rw [t16]; rfl
  cases t17 : (x.frm == 0)
  case false =>
    have t17x := bne_of8 t17
    have HQ : Hid (R = _) := HR.out.symm
    rw [t15, t16, t17] at HQ
    go_enter Tryz.func163, Tryz.ntmps163
    go_wp2_with (go_at_call 68; refine (hs.out _ cbx).mono ?_; rintro e w1 ⟨rfl, hb1⟩)
    go_ret
    exact ⟨by rw [HQ.out] <;> rfl, (by first | exact bx hb1 | exact cbx)⟩
  have t17x : (x.frm != 0) = false := by show (!(x.frm == 0)) = false; rw [t17]; rfl
  cases t2 : (x.name.toList == [])
  case false =>
    have HQ : Hid (R = _) := HR.out.symm
    rw [t15, t16, t17, t2] at HQ
    go_enter Tryz.func163, Tryz.ntmps163
    go_wp2_with (go_at_call 68; refine (hs.out _ cbx).mono ?_; rintro e w1 ⟨rfl, hb1⟩)
    go_ret
    exact ⟨by rw [HQ.out] <;> rfl, (by first | exact bx hb1 | exact cbx)⟩
  cases t3 : (x.user.toList == [])
  case false =>
    have HQ : Hid (R = _) := HR.out.symm
    rw [t15, t16, t17, t2, t3] at HQ
    go_enter Tryz.func163, Tryz.ntmps163
    go_wp2_with (go_at_call 68; refine (hs.out _ cbx).mono ?_; rintro e w1 ⟨rfl, hb1⟩)
    go_ret
    exact ⟨by rw [HQ.out] <;> rfl, (by first | exact bx hb1 | exact cbx)⟩
  cases t4 : (x.account.toList == [])
  case false =>
    have HQ : Hid (R = _) := HR.out.symm
    rw [t15, t16, t17, t2, t3, t4] at HQ
    go_enter Tryz.func163, Tryz.ntmps163
    go_wp2_with (go_at_call 68; refine (hs.out _ cbx).mono ?_; rintro e w1 ⟨rfl, hb1⟩)
    go_ret
    exact ⟨by rw [HQ.out] <;> rfl, (by first | exact bx hb1 | exact cbx)⟩
  cases t14 : (m == 0)
  case false =>
    have t14x : ((m : Int) == 0) = false := by rw [beq_eq_false_iff_ne] at t14 ⊢; omega
    have HQ : Hid (R = _) := HR.out.symm
    rw [t15, t16, t17, t2, t3, t4, t14] at HQ
    go_enter Tryz.func163, Tryz.ntmps163
    go_wp2_with (go_at_call 68; refine (hs.out _ cbx).mono ?_; rintro e w1 ⟨rfl, hb1⟩)
    go_ret
    exact ⟨by rw [HQ.out] <;> rfl, (by first | exact bx hb1 | exact cbx)⟩
  have t14x : ((m : Int) == 0) = true := by rw [beq_iff_eq] at t14 ⊢; omega
  have HQ : Hid (R = _) := HR.out.symm
  rw [t15, t16, t17, t2, t3, t4, t14] at HQ
  go_enter Tryz.func163, Tryz.ntmps163
  go_wp2_with (go_at_call 68; refine (hs.out _ cbx).mono ?_; rintro e w1 ⟨rfl, hb1⟩)
  go_ret
  exact ⟨by rw [HQ.out] <;> rfl, (by first | exact bx hb1 | exact cbx)⟩
set_option linter.unusedSimpArgs false in
set_option maxHeartbeats 16000000 in
set_option maxRecDepth 100000 in
theorem rcheck_alter (x : Cm) (A A2 : Option Addr) (c c2 B : Nat) (w : World) (hk : x.kind = 5) (ha : CmAt w B x A c A2 c2) (hB : B ≤ w.heap.size) :
    Calls Tryz.prog 135 #[cmV x A c A2 c2] w fun e w' => e = .returned (.int .i64 (if raltB x = true then 0 else 80)) ∧ Below w.heap.size w w' := by
  have n0 := Lib.hid (fun v (hv : Below w.heap.size w v) => rnone_alter x A A2 c c2 B v (ha.below (hv.mono hB)) (Nat.le_trans hB hv.size))
  have q0 := Lib.hid (fun v => rin8_any x.job 1 99999 v)
  have q1 := Lib.hid (fun v => rin8_any x.prio 0 100 v)
  have q2 := Lib.hid (fun v => rin8_any x.time 1 100000 v)
  unfold raltB
  obtain ⟨y0, g0⟩ : ∃ q, noneA x = q := ⟨_, rfl⟩
  rw [g0] at n0 ⊢
  obtain ⟨z0, h0⟩ : ∃ q, inB x.job 1 99999 = q := ⟨_, rfl⟩
  rw [h0] at q0 ⊢
  obtain ⟨z1, h1⟩ : ∃ q, inB x.prio 0 100 = q := ⟨_, rfl⟩
  rw [h1] at q1 ⊢
  obtain ⟨z2, h2⟩ : ∃ q, inB x.time 1 100000 = q := ⟨_, rfl⟩
  rw [h2] at q2 ⊢
  clear g0 h0 h1 h2 ha hB
  rw [cmV_is] at n0 ⊢
  have e0 : (cmA x A c A2 c2)[0]? = some (.int .i64 5) := by rw [← hk]; rfl
  have e1 : (cmA x A c A2 c2)[1]? = some (.int .i64 x.job) := rfl
  have e10 : (cmA x A c A2 c2)[10]? = some (.int .i64 x.prio) := rfl
  have e11 : (cmA x A c A2 c2)[11]? = some (.bool x.hasPrio) := rfl
  have e12 : (cmA x A c A2 c2)[12]? = some (.int .i64 x.time) := rfl
  have e13 : (cmA x A c A2 c2)[13]? = some (.bool x.hasTime) := rfl
  have HS := Lib.hid (cmA_size x A c A2 c2)
  obtain ⟨cs, hcs⟩ : ∃ cs, Hid (cmA x A c A2 c2 = cs) := ⟨_, rfl⟩
  rw [hcs.out] at HS e0 e1 e10 e11 e12 e13 n0 ⊢
  clear hcs hk
  obtain ⟨hp, hhp⟩ : ∃ b, x.hasPrio = b := ⟨_, rfl⟩
  obtain ⟨ht, hht⟩ : ∃ b, x.hasTime = b := ⟨_, rfl⟩
  rw [hhp] at e11 ⊢
  rw [hht] at e13 ⊢
  clear hhp hht
  obtain ⟨R, HE⟩ : ∃ R : Int, Hid ((if (y0 && (z0 && ((hp || ht) && ((if hp = true then z1 else x.prio == 0) && (if ht = true then z2 else x.time == 0))))) = true then (0 : Int) else 80) = R) := ⟨_, rfl⟩
  rw [HE.out]
  go_enter Tryz.func135, Tryz.ntmps135
  go_upto_region 14 with (fail)
  go_wp2_with (refine wpList_load_row rfl 30 _ rfl (w.heap.size) rfl 30 _ (0, 0) _ (heap_alloc_new w _) Tryz.underlying30 rfl (info27 HS.out) ?_)
  refine (n0.out _ cbx).mono ?_; rintro e w0 ⟨rfl, hb⟩
  have s0 := lt_bx hb
  have m1 : w0.cell? ⟨w.heap.size, 1, none⟩ = some (.int .i64 x.job) := (boxed_cell hb 1).trans e1
  have m10 : w0.cell? ⟨w.heap.size, 10, none⟩ = some (.int .i64 x.prio) := (boxed_cell hb 10).trans e10
  have m11 : w0.cell? ⟨w.heap.size, 11, none⟩ = some (.bool hp) := (boxed_cell hb 11).trans e11
  have m12 : w0.cell? ⟨w.heap.size, 12, none⟩ = some (.int .i64 x.time) := (boxed_cell hb 12).trans e12
  have m13 : w0.cell? ⟨w.heap.size, 13, none⟩ = some (.bool ht) := (boxed_cell hb 13).trans e13
  have B0 := Lib.hid hb
  clear hb n0 e0 e1 e10 e11 e12 e13
  cases hp <;> cases ht
  · cases y0
    case false =>
      have HR : Hid (80 = R) := by show _ = _; rw [← HE.out]; rfl
      go_wp2_with (fail)
      go_ret
      exact ⟨by rw [← HR.out] <;> rfl, bx B0.out⟩
    go_wp2_with (fail)
    refine (q0.out _).mono ?_; rintro e w9 ⟨rfl, rfl⟩
    cases z0
    case false =>
      have HR : Hid (80 = R) := by show _ = _; rw [← HE.out]; rfl
      go_wp2_with (fail)
      go_ret
      exact ⟨by rw [← HR.out] <;> rfl, bx B0.out⟩
    have HR : Hid (80 = R) := by show _ = _; rw [← HE.out]; rfl
    go_wp2_with (fail)
    go_ret
    exact ⟨by rw [← HR.out] <;> rfl, bx B0.out⟩
  · cases y0
    case false =>
      have HR : Hid (80 = R) := by show _ = _; rw [← HE.out]; rfl
      go_wp2_with (fail)
      go_ret
      exact ⟨by rw [← HR.out] <;> rfl, bx B0.out⟩
    go_wp2_with (fail)
    refine (q0.out _).mono ?_; rintro e w9 ⟨rfl, rfl⟩
    cases z0
    case false =>
      have HR : Hid (80 = R) := by show _ = _; rw [← HE.out]; rfl
      go_wp2_with (fail)
      go_ret
      exact ⟨by rw [← HR.out] <;> rfl, bx B0.out⟩
    cases tp : x.prio == 0
    case false =>
      have HR : Hid (80 = R) := by show _ = _; rw [← HE.out, tp]; rfl
      go_wp2_with (fail)
      go_ret
      exact ⟨by rw [← HR.out] <;> rfl, bx B0.out⟩
    go_wp2_with (fail)
    refine (q2.out _).mono ?_; rintro e w9 ⟨rfl, rfl⟩
    cases z2
    case false =>
      have HR : Hid (80 = R) := by show _ = _; rw [← HE.out, tp]; rfl
      go_wp2_with (fail)
      go_ret
      exact ⟨by rw [← HR.out] <;> rfl, bx B0.out⟩
    have HR : Hid (0 = R) := by show _ = _; rw [← HE.out, tp]; rfl
    go_wp2_with (fail)
    go_ret
    exact ⟨by rw [← HR.out] <;> rfl, bx B0.out⟩
  · cases y0
    case false =>
      have HR : Hid (80 = R) := by show _ = _; rw [← HE.out]; rfl
      go_wp2_with (fail)
      go_ret
      exact ⟨by rw [← HR.out] <;> rfl, bx B0.out⟩
    go_wp2_with (fail)
    refine (q0.out _).mono ?_; rintro e w9 ⟨rfl, rfl⟩
    cases z0
    case false =>
      have HR : Hid (80 = R) := by show _ = _; rw [← HE.out]; rfl
      go_wp2_with (fail)
      go_ret
      exact ⟨by rw [← HR.out] <;> rfl, bx B0.out⟩
    go_wp2_with (fail)
    refine (q1.out _).mono ?_; rintro e w9 ⟨rfl, rfl⟩
    cases z1
    case false =>
      have HR : Hid (80 = R) := by show _ = _; rw [← HE.out]; rfl
      go_wp2_with (fail)
      go_ret
      exact ⟨by rw [← HR.out] <;> rfl, bx B0.out⟩
    cases tt : x.time == 0
    case false =>
      have HR : Hid (80 = R) := by show _ = _; rw [← HE.out, tt]; rfl
      go_wp2_with (fail)
      go_ret
      exact ⟨by rw [← HR.out] <;> rfl, bx B0.out⟩
    have HR : Hid (0 = R) := by show _ = _; rw [← HE.out, tt]; rfl
    go_wp2_with (fail)
    go_ret
    exact ⟨by rw [← HR.out] <;> rfl, bx B0.out⟩
  · cases y0
    case false =>
      have HR : Hid (80 = R) := by show _ = _; rw [← HE.out]; rfl
      go_wp2_with (fail)
      go_ret
      exact ⟨by rw [← HR.out] <;> rfl, bx B0.out⟩
    go_wp2_with (fail)
    refine (q0.out _).mono ?_; rintro e w9 ⟨rfl, rfl⟩
    cases z0
    case false =>
      have HR : Hid (80 = R) := by show _ = _; rw [← HE.out]; rfl
      go_wp2_with (fail)
      go_ret
      exact ⟨by rw [← HR.out] <;> rfl, bx B0.out⟩
    go_wp2_with (fail)
    refine (q1.out _).mono ?_; rintro e w9 ⟨rfl, rfl⟩
    cases z1
    case false =>
      have HR : Hid (80 = R) := by show _ = _; rw [← HE.out]; rfl
      go_wp2_with (fail)
      go_ret
      exact ⟨by rw [← HR.out] <;> rfl, bx B0.out⟩
    go_wp2_with (fail)
    refine (q2.out _).mono ?_; rintro e w9 ⟨rfl, rfl⟩
    cases z2
    case false =>
      have HR : Hid (80 = R) := by show _ = _; rw [← HE.out]; rfl
      go_wp2_with (fail)
      go_ret
      exact ⟨by rw [← HR.out] <;> rfl, bx B0.out⟩
    have HR : Hid (0 = R) := by show _ = _; rw [← HE.out]; rfl
    go_wp2_with (fail)
    go_ret
    exact ⟨by rw [← HR.out] <;> rfl, bx B0.out⟩
theorem chk_alter {x : Cm} (h5 : x.kind = 5) : chkB x = raltB x := by
  obtain ⟨kind, job, name, user, account, s, prio, hp, time, ht, after, node, nodes, frm⟩ := x
  dsimp only at h5
  subst h5
  have key : sameS s sh0 = true → s.alts.length ≤ 6 := by
    unfold sameS sh0
    simp only [Bool.and_eq_true, decide_eq_true_eq]
    rintro ⟨_, h⟩
    rw [h]
    exact Nat.zero_le _
  have e1 : chkB ⟨5, job, name, user, account, s, prio, hp, time, ht, after, node, nodes, frm⟩ = (decide (s.alts.length ≤ 6) && (decide (after.length ≤ 4) && ((((if hp = true then inB prio 0 100 else prio == 0) && (if ht = true then inB time 1 100000 else time == 0)) && (inB job 1 99999 && (hp || ht))) && sameC ⟨5, job, name, user, account, s, prio, hp, time, ht, after, node, nodes, frm⟩ ⟨5, job, ⟨#[]⟩, ⟨#[]⟩, ⟨#[]⟩, sh0, prio, hp, time, ht, [], 0, 0, 0⟩))) := rfl
  rw [e1]
  unfold raltB noneA sameC
  dsimp only
  have e2 : decide (after = []) = (after.length == 0) := by cases after <;> simp
  have e3 : (⟨#[]⟩ : ByteArray).toList = [] := by unfold ByteArray.toList; unfold ByteArray.toList.loop; rfl
  rw [e2, e3]
  simp only [beq_self_eq_true, Bool.true_and]
  generalize (if hp = true then inB prio 0 100 else prio == 0) = a1
  generalize (if ht = true then inB time 1 100000 else time == 0) = a2
  generalize inB job 1 99999 = a3
  generalize sameS s sh0 = a4 at key ⊢
  cases hl : (after.length == 0)
  · simp
  · have h4 : after.length ≤ 4 := by rw [beq_iff_eq] at hl; omega
    rw [decide_eq_true h4]
    cases a4
    · simp
    · rw [decide_eq_true (key rfl)]
      generalize (name.toList == []) = b1
      generalize (user.toList == []) = b2
      generalize (account.toList == []) = b3
      generalize (node == 0) = b4
      generalize (nodes == 0) = b5
      generalize (frm == 0) = b6
      cases a1 <;> cases a2 <;> cases a3 <;> cases hp <;> cases ht <;> simp <;> ac_rfl
theorem cmd_alter {x : Cm} (h5 : x.kind = 5) : cmdE x = if raltB x = true then 0 else 80 := by unfold cmdE; rw [chk_alter h5]
theorem step_a {w : World} {ops : Array Oper} {o : Oper} {a : Act} {K : Act → World → Prop} {Q : Exit → Act → World → Prop} {E : Prop} {s x : Operand}
    (hgd : o.guard = none) (ho : o.op = .call { callee := .builtin .append, args := #[s, x], argTypes := #[22, 22] })
    (base : Nat) {v : Value} {n : Nat} {xs : List Pr} (hs : a.eval s = v) (hown : Owns w base 103 2 v n (recs prC xs))
    {B : Nat} {A : Option Addr} {m c : Nat} {news : List Pr} (hx : a.eval x = .slice A m c) (hr : Reads w B 2 A m (recs prC news))
    (hlen : n + m ≤ 1000000) (hbase : base ≤ w.heap.size)
    (h : ∀ v' w', Owns w' base 103 2 v' (n + m) (recs prC (xs ++ news)) → AppKeeps base v w w' → (v'.ownBlock = v.ownBlock ∨ v'.ownBlock = some w.heap.size) → K (a.put o.dst v') w') :
    if Region.wanted o (yielded ops a.tmps) = true then Oper.wp Tryz.prog o a w K Q else E :=
  step_app hgd ho Tryz.underlying22 Tryz.infoA rfl (by omega) base hs hown hx hr (recs_one prC_one _) (by simp only [maxLen]; omega) (by omega) hbase (fun v' w' h1 => h v' w' (by rw [recs_append]; exact h1))
theorem lt_al {w : World} {b : Nat} {o : Obj} (h : b < w.heap.size) : b < (w.alloc o).drew.heap.size := by show b < (w.alloc o).heap.size; rw [World.size_alloc]; omega
theorem le_al {w : World} {b : Nat} {o : Obj} (h : b ≤ w.heap.size) : b ≤ (w.alloc o).drew.heap.size := by show b ≤ (w.alloc o).heap.size; rw [World.size_alloc]; omega
theorem AppKeeps.block_low {w w' : World} {base b : Nat} {v : Value} (hk : AppKeeps base v w w') (h1 : b < w.heap.size) (h2 : b < base) : w'.heap[b]? = w.heap[b]? := by
  obtain ⟨row, hg, hrow⟩ := hk
  exact hg.block b h1 (fun e => by have := (hrow _ e.symm).2; omega)
set_option linter.unusedSimpArgs false in
set_option maxHeartbeats 2000000 in
set_option maxRecDepth 100000 in
theorem rwalls_any (kind mn mx wall t : Int) (l : List Pr) (A : Option Addr) (c B : Nat) (w : World) (hr : Reads w B 2 A l.length (recs prC l)) (hB : B ≤ w.heap.size) (hn : l.length ≤ 100000) :
    Calls Tryz.prog 136 #[.agg #[.int .i64 kind, .slice A l.length c, .int .i64 mn, .int .i64 mx, .int .i64 wall], .int .i64 t] w fun e w' =>
      ∃ A2 c2, e = .returned (.agg #[.int .i64 kind, .slice A2 l.length c2, .int .i64 mn, .int .i64 mx, .int .i64 (if kind = 3 then t else wall)]) ∧ Owns w' w.heap.size 103 2 (.slice A2 l.length c2) l.length (recs prC (l.map fun a => (a.1, t))) ∧ Below w.heap.size w w' := by
  obtain ⟨X, hX⟩ : ∃ X, Hid ((if kind = 3 then t else wall) = X) := ⟨_, rfl⟩
  rw [hX.out]
  obtain ⟨n, hln⟩ : ∃ n, Hid (l.length = n) := ⟨_, rfl⟩
  rw [hln.out] at hr hn ⊢
  have R2 : Hid ((((w.alloc (.cells #[.int .i64 kind, .slice A n c, .int .i64 mn, .int .i64 mx, .int .i64 wall] 24)).alloc (.cells #[.int .i64 0, .slice none 0 0, .int .i64 0, .int .i64 0, .int .i64 0] 24)).alloc (.cells #[.int .i64 0, .slice none 0 0, .int .i64 0, .int .i64 0, .int .i64 0] 24)).heap[w.heap.size + 1 + 1]? = some (.cells #[.int .i64 0, .slice none 0 0, .int .i64 0, .int .i64 0, .int .i64 0] 24 (0, 0))) :=
    allocs_at [.cells #[.int .i64 kind, .slice A n c, .int .i64 mn, .int .i64 mx, .int .i64 wall] 24, .cells #[.int .i64 0, .slice none 0 0, .int .i64 0, .int .i64 0, .int .i64 0] 24, .cells #[.int .i64 0, .slice none 0 0, .int .i64 0, .int .i64 0, .int .i64 0] 24] w 2 _ rfl
  obtain ⟨W0, hW⟩ : ∃ W0, Hid ((((w.alloc (.cells #[.int .i64 kind, .slice A n c, .int .i64 mn, .int .i64 mx, .int .i64 wall] 24)).alloc (.cells #[.int .i64 0, .slice none 0 0, .int .i64 0, .int .i64 0, .int .i64 0] 24)).alloc (.cells #[.int .i64 kind, .slice none 0 0, .int .i64 mn, .int .i64 mx, .int .i64 wall] 24)) = W0) := ⟨_, rfl⟩
  have HROW : Hid ((((w.alloc (.cells #[.int .i64 kind, .slice A n c, .int .i64 mn, .int .i64 mx, .int .i64 wall] 24)).alloc (.cells #[.int .i64 0, .slice none 0 0, .int .i64 0, .int .i64 0, .int .i64 0] 24)).alloc (.cells #[.int .i64 0, .slice none 0 0, .int .i64 0, .int .i64 0, .int .i64 0] 24)).setRow (w.heap.size + 1 + 1) #[.int .i64 kind, .slice none 0 0, .int .i64 mn, .int .i64 mx, .int .i64 wall] = W0) := by
    show _ = _
    have hrow := World.setRow_alloc_new ((w.alloc (.cells #[.int .i64 kind, .slice A n c, .int .i64 mn, .int .i64 mx, .int .i64 wall] 24)).alloc (.cells #[.int .i64 0, .slice none 0 0, .int .i64 0, .int .i64 0, .int .i64 0] 24)) #[.int .i64 0, .slice none 0 0, .int .i64 0, .int .i64 0, .int .i64 0] #[.int .i64 kind, .slice none 0 0, .int .i64 mn, .int .i64 mx, .int .i64 wall] 24
    rw [World.size_alloc, World.size_alloc] at hrow
    rw [hrow, hW.out]
  have b0' : Below w.heap.size w (((w.alloc (.cells #[.int .i64 kind, .slice A n c, .int .i64 mn, .int .i64 mx, .int .i64 wall] 24)).alloc (.cells #[.int .i64 0, .slice none 0 0, .int .i64 0, .int .i64 0, .int .i64 0] 24)).alloc (.cells #[.int .i64 kind, .slice none 0 0, .int .i64 mn, .int .i64 mx, .int .i64 wall] 24)) := allocs_below [.cells #[.int .i64 kind, .slice A n c, .int .i64 mn, .int .i64 mx, .int .i64 wall] 24, .cells #[.int .i64 0, .slice none 0 0, .int .i64 0, .int .i64 0, .int .i64 0] 24, .cells #[.int .i64 kind, .slice none 0 0, .int .i64 mn, .int .i64 mx, .int .i64 wall] 24] w
  have z0' : (((w.alloc (.cells #[.int .i64 kind, .slice A n c, .int .i64 mn, .int .i64 mx, .int .i64 wall] 24)).alloc (.cells #[.int .i64 0, .slice none 0 0, .int .i64 0, .int .i64 0, .int .i64 0] 24)).alloc (.cells #[.int .i64 kind, .slice none 0 0, .int .i64 mn, .int .i64 mx, .int .i64 wall] 24)).heap.size = w.heap.size + 3 := allocs_size [.cells #[.int .i64 kind, .slice A n c, .int .i64 mn, .int .i64 mx, .int .i64 wall] 24, .cells #[.int .i64 0, .slice none 0 0, .int .i64 0, .int .i64 0, .int .i64 0] 24, .cells #[.int .i64 kind, .slice none 0 0, .int .i64 mn, .int .i64 mx, .int .i64 wall] 24] w
  have s0' : (((w.alloc (.cells #[.int .i64 kind, .slice A n c, .int .i64 mn, .int .i64 mx, .int .i64 wall] 24)).alloc (.cells #[.int .i64 0, .slice none 0 0, .int .i64 0, .int .i64 0, .int .i64 0] 24)).alloc (.cells #[.int .i64 kind, .slice none 0 0, .int .i64 mn, .int .i64 mx, .int .i64 wall] 24)).heap[w.heap.size]? = some (.cells #[.int .i64 kind, .slice A n c, .int .i64 mn, .int .i64 mx, .int .i64 wall] 24 (0, 0)) := allocs_at [.cells #[.int .i64 kind, .slice A n c, .int .i64 mn, .int .i64 mx, .int .i64 wall] 24, .cells #[.int .i64 0, .slice none 0 0, .int .i64 0, .int .i64 0, .int .i64 0] 24, .cells #[.int .i64 kind, .slice none 0 0, .int .i64 mn, .int .i64 mx, .int .i64 wall] 24] w 0 _ rfl
  have r0' : (((w.alloc (.cells #[.int .i64 kind, .slice A n c, .int .i64 mn, .int .i64 mx, .int .i64 wall] 24)).alloc (.cells #[.int .i64 0, .slice none 0 0, .int .i64 0, .int .i64 0, .int .i64 0] 24)).alloc (.cells #[.int .i64 kind, .slice none 0 0, .int .i64 mn, .int .i64 mx, .int .i64 wall] 24)).heap[w.heap.size + 1]? = some (.cells #[.int .i64 0, .slice none 0 0, .int .i64 0, .int .i64 0, .int .i64 0] 24 (0, 0)) := allocs_at [.cells #[.int .i64 kind, .slice A n c, .int .i64 mn, .int .i64 mx, .int .i64 wall] 24, .cells #[.int .i64 0, .slice none 0 0, .int .i64 0, .int .i64 0, .int .i64 0] 24, .cells #[.int .i64 kind, .slice none 0 0, .int .i64 mn, .int .i64 mx, .int .i64 wall] 24] w 1 _ rfl
  have o0' : (((w.alloc (.cells #[.int .i64 kind, .slice A n c, .int .i64 mn, .int .i64 mx, .int .i64 wall] 24)).alloc (.cells #[.int .i64 0, .slice none 0 0, .int .i64 0, .int .i64 0, .int .i64 0] 24)).alloc (.cells #[.int .i64 kind, .slice none 0 0, .int .i64 mn, .int .i64 mx, .int .i64 wall] 24)).heap[w.heap.size + 1 + 1]? = some (.cells #[.int .i64 kind, .slice none 0 0, .int .i64 mn, .int .i64 mx, .int .i64 wall] 24 (0, 0)) := allocs_at [.cells #[.int .i64 kind, .slice A n c, .int .i64 mn, .int .i64 mx, .int .i64 wall] 24, .cells #[.int .i64 0, .slice none 0 0, .int .i64 0, .int .i64 0, .int .i64 0] 24, .cells #[.int .i64 kind, .slice none 0 0, .int .i64 mn, .int .i64 mx, .int .i64 wall] 24] w 2 _ rfl
  rw [hW.out] at b0' z0' s0' r0' o0'
  have b0 := Lib.hid b0'
  have z0 := Lib.hid z0'
  have s0 := Lib.hid s0'
  have r0 := Lib.hid r0'
  have o0 := Lib.hid o0'
  clear b0' z0' s0' r0' o0'
  have hz0 : w.heap.size + 3 = W0.heap.size := z0.out.symm
  have hr1 := Lib.hid (hr.below (b0.out.mono hB))
  have hBW : B ≤ W0.heap.size := by omega
  clear hr z0
  go_enter Tryz.func136, Tryz.ntmps136
  go_upto_region 2 with (refine wpList_store_row rfl 24 _ _ rfl (w.heap.size + 1 + 1) _ rfl rfl 24 _ R2.out (by kernel_rfl) rfl (by rw [List.all_toArray]; rfl) ?_)
  rw [HROW.out]
  go_wp2
  go_loopw [6] (fun i wr => ∃ k : Nat, k ≤ n ∧ i = .int .i64 k ∧ ∃ v : Value, Owns wr W0.heap.size 103 2 v k (recs prC ((l.take k).map fun a => (a.1, t))) ∧ Below w.heap.size w wr ∧ Hid (Reads wr B 2 A n (recs prC l)) ∧ Hid (wr.heap[w.heap.size]? = some (.cells #[.int .i64 kind, .slice A n c, .int .i64 mn, .int .i64 mx, .int .i64 wall] 24 (0, 0))) ∧ Hid (wr.heap[w.heap.size + 1]? = some (.cells #[.int .i64 0, .slice none 0 0, .int .i64 0, .int .i64 0, .int .i64 0] 24 (0, 0))) ∧ Hid (wr.heap[w.heap.size + 1 + 1]? = some (.cells #[.int .i64 kind, v, .int .i64 mn, .int .i64 mx, .int .i64 wall] 24 (0, 0))) ∧ W0.heap.size ≤ wr.heap.size) (fun i _ => n - (intOf i).toNat)
  case atStart => exact ⟨0, Nat.zero_le _, rfl, _, Owns.nil, b0.out, hr1, s0, r0, o0, Nat.le_refl _⟩
  case round =>
    obtain ⟨k, hk, rfl, v, ho, hb, HR, S4, R4, O4, hzr⟩ := hrel
    obtain ⟨A2, c2, rfl, _, _⟩ := ho.slice
    have hO := Lib.hid ho
    clear ho
    have k1 : wr.cell? ⟨w.heap.size, 1, none⟩ = some (.slice A n c) := cell_of_row wr _ 1 _ _ _ S4.out
    by_cases hlt : k < n
    · obtain ⟨b, o, u, rfl, hbb, hx, c0, c1⟩ := HR.out.pr_at hlt
      have v1 : wr.cell? ⟨w.heap.size + 1 + 1, 1, none⟩ = some (.slice A2 k c2) := cell_of_row wr _ 1 _ _ _ O4.out
      have hst : Hid ((l.take (k + 1)).map (fun a => (a.1, t)) = (l.take k).map (fun a => (a.1, t)) ++ [(u.1, t)]) := by
        show _ = _
        rw [List.take_add_one, hx.out]
        simp
      have hi0 : (0 : Int) ≤ (k : Int) := by omega
      have hi1 : (k : Int) < (n : Int) := by omega
      have t0 : decide ((k : Int) < (n : Int)) = true := by simp; omega
      have hbw : b < wr.heap.size := by omega
      have hpw : w.heap.size + 1 + 1 < wr.heap.size := by omega
      go_upto_region 5 with (fail)
      go_region_law (refine step_a rfl rfl W0.heap.size rfl (hO.out.alloc _) (news := [(u.1, t)]) rfl (Reads.madeRec wr (u.1, t) _ (prC_len _)) (by omega) (le_al (by omega)) ?_; intro v4 w4 o4 k4 _; obtain ⟨A5, c5, rfl, hc5, _⟩ := o4.slice; have g4 := (k4.block_low (b := w.heap.size + 1 + 1) (lt_al (by omega)) (by omega)).trans ((Below.heap_alloc _ _ _ (by omega)).trans O4.out); have g1 := (k4.block_low (b := w.heap.size + 1) (lt_al (by omega)) (by omega)).trans ((Below.heap_alloc _ _ _ (by omega)).trans R4.out); have g0 := (k4.block_low (b := w.heap.size) (lt_al (by omega)) (by omega)).trans ((Below.heap_alloc _ _ _ (by omega)).trans S4.out); have f4 : w4.frozen? ⟨w.heap.size + 1 + 1, 1, none⟩ = false := (by simp [World.frozen?, g4]); have v4c : w4.cell? ⟨w.heap.size + 1 + 1, 1, none⟩ = some (.slice A2 k c2) := cell_of_row w4 _ 1 _ _ _ g4; have kb4 := k4.below (below_drew (hb.alloc (by omega) _)) (by omega) (le_al (by omega)); have kr4 := k4.reads ((HR.out.alloc (by omega) _).drew) (by omega) (le_al (by omega)); have sz4 := k4.hsize; have G4 := Lib.hid g4; have G1 := Lib.hid g1; have G0 := Lib.hid g0; have O5 := Lib.hid o4; have KR := Lib.hid kr4; clear g4 g1 g0 o4 k4 kr4)
      all_goals
        have sz5 : wr.heap.size + 1 ≤ w4.heap.size := by have h := sz4; change (wr.alloc _).heap.size ≤ _ at h; rw [World.size_alloc] at h; exact h
        clear sz4
        go_wp2
        go_roundw
        case rel =>
          refine ⟨k + 1, by omega, by go_num, .slice A5 (k + 1) c5, ?_, ?_, ?_, ?_, ?_, ?_, ?_⟩
          · rw [hst.out]; exact (O5.out.setBelow (p := ⟨w.heap.size + 1 + 1, 1, none⟩) (show w.heap.size + 1 + 1 < W0.heap.size by omega) _)
          · exact kb4.setCell (p := ⟨w.heap.size + 1 + 1, 1, none⟩) (show w.heap.size ≤ w.heap.size + 1 + 1 by omega) _
          · exact Lib.hid (KR.out.setCell (p := ⟨w.heap.size + 1 + 1, 1, none⟩) (show B ≤ w.heap.size + 1 + 1 by omega) _)
          · exact Lib.hid (row_off (k := 1) G0.out (show w.heap.size ≠ w.heap.size + 1 + 1 by omega))
          · exact Lib.hid (row_off (k := 1) G1.out (show w.heap.size + 1 ≠ w.heap.size + 1 + 1 by omega))
          · exact Lib.hid (setCell_blk (k := 1) G4.out)
          · show W0.heap.size ≤ (w4.setCell _ _).heap.size
            rw [World.size_setCell]; omega
        case measure => simp [intOf]; omega
    · obtain rfl : k = n := by omega
      have t0 : decide ((k : Int) < (k : Int)) = false := by simp
      have HL : Hid ((l.take k).map (fun a => (a.1, t)) = l.map (fun a => (a.1, t))) := by
        show _ = _
        rw [List.take_of_length_le (Nat.le_of_eq hln.out)]
      have k0 : wr.cell? ⟨w.heap.size, 0, none⟩ = some (.int .i64 kind) := cell_of_row wr _ 0 _ _ _ S4.out
      have k4 : wr.cell? ⟨w.heap.size + 1 + 1, 4, none⟩ = some (.int .i64 wall) := cell_of_row wr _ 4 _ _ _ O4.out
      have hf4 : wr.frozen? ⟨w.heap.size + 1 + 1, 4, none⟩ = false := by simp [World.frozen?, O4.out]
      have HB := Lib.hid hb
      clear hb
      by_cases hk3 : kind = 3
      · have t3 : (kind == 3) = true := by simpa using hk3
        have hX1 : Hid (t = X) := by show _ = _; rw [← hX.out, if_pos hk3]
        have S5 : Hid ((wr.setCell ⟨w.heap.size + 1 + 1, 4, none⟩ (.int .i64 t)).heap[w.heap.size + 1 + 1]? = some (.cells #[.int .i64 kind, .slice A2 k c2, .int .i64 mn, .int .i64 mx, .int .i64 t] 24 (0, 0))) := setCell_blk (k := 4) O4.out
        have R5 := Lib.hid (row_off (k := 4) (u := .int .i64 t) R4.out (show w.heap.size + 1 ≠ w.heap.size + 1 + 1 by omega))
        clear hk3
        go_wp2_with (first
          | (refine wpList_load_row rfl 24 _ rfl (w.heap.size + 1 + 1) rfl 24 _ (0, 0) _ S5.out Tryz.underlying24 rfl (by kernel_rfl) ?_)
          | (refine wpList_store_row rfl 24 _ _ rfl (w.heap.size + 1) _ rfl rfl 24 _ R5.out (by kernel_rfl) rfl (by rw [List.all_toArray]; rfl) ?_))
        (try simp only [Exit.inBlock, Exit.then])
        refine bodyPost_ret (results_cell_row rfl _ _ (w.heap.size + 1) _ _ _ _ rfl (setRow_heap _ _ _ _ _ _ R5.out) Tryz.underlying24 rfl (by kernel_rfl)) rfl ?_
        refine ⟨A2, c2, by rw [hX1.out], ?_, below_row (HB.out.setCell (p := ⟨w.heap.size + 1 + 1, 4, none⟩) (show w.heap.size ≤ w.heap.size + 1 + 1 by omega) _) (by omega) _⟩
        rw [← HL.out]
        refine Owns.mono (Owns.keep hO.out (fun g hg hgW _ => ?_)) (show w.heap.size ≤ W0.heap.size by omega)
        rw [Go.setRow_other _ (w.heap.size + 1) g _ (by omega)]
        exact Below.heap_setCell _ _ _ _ (by show g ≠ w.heap.size + 1 + 1; omega)
      · have t3 : (kind == 3) = false := by simpa using hk3
        have hX1 : Hid (wall = X) := by show _ = _; rw [← hX.out, if_neg hk3]
        clear hk3
        go_wp2_with (first
          | (refine wpList_load_row rfl 24 _ rfl (w.heap.size + 1 + 1) rfl 24 _ (0, 0) _ O4.out Tryz.underlying24 rfl (by kernel_rfl) ?_)
          | (refine wpList_store_row rfl 24 _ _ rfl (w.heap.size + 1) _ rfl rfl 24 _ R4.out (by kernel_rfl) rfl (by rw [List.all_toArray]; rfl) ?_))
        (try simp only [Exit.inBlock, Exit.then])
        refine bodyPost_ret (results_cell_row rfl _ _ (w.heap.size + 1) _ _ _ _ rfl (setRow_heap _ _ _ _ _ _ R4.out) Tryz.underlying24 rfl (by kernel_rfl)) rfl ?_
        refine ⟨A2, c2, by rw [hX1.out], ?_, below_row HB.out (by omega) _⟩
        rw [← HL.out]
        refine Owns.mono (Owns.keep hO.out (fun g hg hgW _ => ?_)) (show w.heap.size ≤ W0.heap.size by omega)
        rw [Go.setRow_other _ (w.heap.size + 1) g _ (by omega)]
theorem start_opt {s : Sh} {ch : Int} (h : hasO s ch = true) : ∃ k : Nat, ch = k ∧ k < (optS s).length ∧ (optS s)[k]? = some (optAt s ch) := by
  unfold hasO at h
  simp only [Bool.not_eq_true', Bool.or_eq_false_iff, decide_eq_false_iff_not] at h
  obtain ⟨k, rfl⟩ : ∃ k : Nat, ch = k := ⟨ch.toNat, by omega⟩
  have hk : k < (optS s).length := by omega
  refine ⟨k, rfl, hk, ?_⟩
  unfold optAt
  rw [if_neg (by omega), Int.toNat_natCast, List.getD_eq_getElem?_getD, List.getElem?_eq_getElem hk]; rfl
theorem startM_1 (x : Jb) (now : Int) (s : Nat) (h : (x.state == 1) = false) : startM x now s = 141 := by unfold startM; rw [h]; rfl
theorem startM_2 (x : Jb) (now : Int) (s : Nat) (h : x.promise = -1) : startM x now s = 141 := by unfold startM; rw [h]; simp
theorem startM_3 (x : Jb) (now : Int) (s : Nat) (h : x.promise < now) : startM x now s = 141 := by unfold startM; rw [decide_eq_false (show ¬ now ≤ x.promise by omega)]; simp
theorem startM_is (x : Jb) (now : Int) (s : Nat) (h1 : (x.state == 1) = true) (h2 : 0 ≤ x.promise) (h3 : now ≤ x.promise) : startM x now s = (if (fewS s && (((memL s).length : Int) == (optAt x.shape x.choice).1)) = true then (if (tickB now && !overT now (optAt x.shape x.choice).2) = true then 0 else 153) else 152) := by unfold startM; rw [h1, decide_eq_true h2, decide_eq_true h3]; rfl
theorem queued_has {x : Jb} (hx : okJ x = true) (h : x.state = 1) (hp : (x.promise == -1) = false) : 0 ≤ x.promise ∧ hasO x.shape x.choice = true := by
  rw [beq_eq_false_iff_ne] at hp
  rcases (of_queued (st_q h ((okJ_iff x).1 hx).2.2.2.2.2.2)).2.2.2 with h | h
  · exact absurd h.1 hp
  · exact ⟨(of_inB h.1).1, h.2.1⟩
theorem gen_late {w1 wc w5 : World} {T_ : TypeId} {z cs : Array Value} (hw : Below w1.heap.size w1 wc) (hb5 : Below wc.heap.size wc w5) :
    Hid (((w5.alloc (.cells z T_)).setRow w5.heap.size cs).heap[w5.heap.size]? = some (.cells cs T_ (0, 0))) ∧ w1.heap.size ≤ w5.heap.size ∧ Hid (Below w1.heap.size w1 ((w5.alloc (.cells z T_)).setRow w5.heap.size cs)) := by
  have h2 := Nat.le_trans hw.size hb5.size
  exact ⟨setRow_heap _ _ _ _ _ _ (heap_alloc_new w5 _), h2, (hw.trans (hb5.mono hw.size)).trans ((below_row bx0 (Nat.le_refl _) _ : Below w5.heap.size w5 _).mono h2)⟩
theorem gen_new {w1 wc w5 : World} {T_ : TypeId} {cs : Array Value} (hw : Below w1.heap.size w1 wc) (hb5 : Below wc.heap.size wc w5) :
    Hid ((w5.alloc (.cells cs T_)).heap[w5.heap.size]? = some (.cells cs T_ (0, 0))) ∧ w1.heap.size ≤ w5.heap.size ∧ Hid (Below w1.heap.size w1 (w5.alloc (.cells cs T_))) := by
  have h2 := Nat.le_trans hw.size hb5.size
  exact ⟨heap_alloc_new w5 _, h2, (hw.trans (hb5.mono hw.size)).trans ((bx0 : Below w5.heap.size w5 _).mono h2)⟩
theorem gen_early {w1 wc w5 : World} {T_ : TypeId} {z cs : Array Value} {g : Nat} (hw : Below w1.heap.size w1 wc) (hz : wc.heap[g]? = some (.cells z T_)) (hg : w1.heap.size ≤ g) (hb5 : Below wc.heap.size wc w5) :
    Hid ((w5.setRow g cs).heap[g]? = some (.cells cs T_ (0, 0))) ∧ w1.heap.size ≤ g ∧ Hid (Below w1.heap.size w1 (w5.setRow g cs)) := by
  have hz1 : g < wc.heap.size := (Array.getElem?_eq_some_iff.1 hz).1
  exact ⟨setRow_heap _ _ _ _ _ _ ((hb5.block _ hz1).trans hz), hg, below_row (hw.trans (hb5.mono hw.size)) hg _⟩
set_option linter.unusedSimpArgs false in
set_option maxHeartbeats 8000000 in
set_option maxRecDepth 100000 in
theorem rstart_any (x : Jb) (now : Int) (s : Nat) (A A2 : Option Addr) (c c2 B : Nat) (w : World) (hx : JbAt w B x A c A2 c2) (hB : B ≤ w.heap.size) (hz : JbSz x) (hs0 : s < M64) :
    Calls Tryz.prog 63 #[jbV x A c A2 c2, .int .i64 now, .int .u64 s] w (RetJZ w B (startJ x now s)) := by
  have hck := Lib.hid (fun v (hv : Below w.heap.size w v) => rcheck14_any x A A2 c c2 B v (hx.below (hv.mono hB)) (Nat.le_trans hB hv.size) hz)
  obtain ⟨Q, HQ0⟩ : ∃ Q, Hid (startJ x now s = Q) := ⟨_, rfl⟩
  rw [HQ0.out]
  have HAT := Lib.hid hx
  have HB := Lib.hid hB
  have q1 := Lib.hid (fun v => rtick_any now v)
  have q4 := Lib.hid (fun v => rfew_any s v)
  have hop := Lib.hid (fun v (hv : Below w.heap.size w v) => ropts_any x.shape A c B v (hx.1.below (hv.mono hB)) (Nat.le_trans hB hv.size) hx.2.2.1 hx.2.2.2.2.1)
  have hli := Lib.hid (fun v => rlist_len s v hs0)
  have HOA := fun (h : hasO x.shape x.choice = true) => start_opt h
  have HOB := fun (h : hasO x.shape x.choice = true) => opt_bounds h
  have HM := fun h1 h2 h3 => Lib.hid (startM_is x now s h1 h2 h3)
  have HM1 := fun h => Lib.hid (startM_1 x now s h)
  have HM2 := fun h => Lib.hid (startM_2 x now s h)
  have HM3 := fun h => Lib.hid (startM_3 x now s h)
  have HD0 : Hid (startD x now s = { x with state := 2, start := now, limit := now + (optAt x.shape x.choice).2, nodes := s }) := rfl
  obtain ⟨a, ha⟩ : ∃ a, optAt x.shape x.choice = a := ⟨_, rfl⟩
  rw [ha] at HOA HOB HM HD0
  obtain ⟨l, hl⟩ : ∃ l, optS x.shape = l := ⟨_, rfl⟩
  rw [hl] at HOA hop
  obtain ⟨N, hN⟩ : ∃ n : Nat, l.length = n := ⟨_, rfl⟩
  unfold RetOpt at hop
  rw [hN] at hop HOA
  obtain ⟨cn, hcn⟩ : ∃ n : Nat, (memL s).length = n := ⟨_, rfl⟩
  rw [hcn] at hli HM
  obtain ⟨z1, hz1⟩ : ∃ q, Hid (tickB now = q) := ⟨_, rfl⟩
  rw [hz1.out] at q1 HM
  obtain ⟨z4, hz4⟩ : ∃ q, Hid (fewS s = q) := ⟨_, rfl⟩
  rw [hz4.out] at q4 HM
  clear hcn hs0 ha hl hN
  unfold shV at hop
  clear hx hB hz
  rw [jbV_is] at hck ⊢
  have e4 : (jbA x A c A2 c2)[4]? = some (.int .i64 x.shape.kind) := rfl
  have e5 : (jbA x A c A2 c2)[5]? = some (.slice A x.shape.alts.length c) := rfl
  have e6 : (jbA x A c A2 c2)[6]? = some (.int .i64 x.shape.mn) := rfl
  have e7 : (jbA x A c A2 c2)[7]? = some (.int .i64 x.shape.mx) := rfl
  have e8 : (jbA x A c A2 c2)[8]? = some (.int .i64 x.shape.wall) := rfl
  have e11 : (jbA x A c A2 c2)[11]? = some (.int .i64 x.state) := rfl
  have e14 : (jbA x A c A2 c2)[14]? = some (.int .i64 x.promise) := rfl
  have e15 : (jbA x A c A2 c2)[15]? = some (.int .i64 x.choice) := rfl
  have e16 : (jbA x A c A2 c2)[16]? = some (.int .i64 x.start) := rfl
  have e17 : (jbA x A c A2 c2)[17]? = some (.int .i64 x.limit) := rfl
  have e18 : (jbA x A c A2 c2)[18]? = some (.int .u64 x.nodes) := rfl
  have HS := Lib.hid (jbA_size x A c A2 c2)
  have H1 := Lib.hid (jbA_one x A c A2 c2)
  obtain ⟨cs, hcs⟩ : ∃ cs, Hid (jbA x A c A2 c2 = cs) := ⟨_, rfl⟩
  rw [hcs.out] at HS H1 e4 e5 e6 e7 e8 e11 e14 e15 e16 e17 e18 hck ⊢
  obtain ⟨n, HN⟩ : ∃ n, Hid (x.shape.alts.length = n) := ⟨_, rfl⟩
  rw [HN.out] at e5
  obtain ⟨u, HU⟩ : ∃ u : Int, Hid ((x.nodes : Int) = u) := ⟨_, rfl⟩
  rw [HU.out] at e18
  rw [HN.out] at hop
  cases hk : okJ x
  case false =>
    rw [jobE_f hk] at hck
    have HK := Lib.hid hk
    clear hk
    go_enter Tryz.func63, Tryz.ntmps63
    go_wp2_with (refine wpList_load_row rfl 28 _ rfl (w.heap.size) rfl 28 _ (0, 0) _ (three_two w _ _).1 Tryz.underlying28 rfl (info30 HS.out) ?_)
    refine (hck.out _ (((Below.refl _ _).alloc (Nat.le_refl _) _).alloc (by simp) _)).mono ?_; rintro e w1 ⟨rfl, b1⟩
    obtain ⟨g1, g2, s1⟩ := two_block b1
    have B1 := Lib.hid (two_below b1)
    have G1 := Lib.hid g1
    have G2 := Lib.hid g2
    clear b1 g1 g2
    have HQ : Hid (Q = (noJ, 140)) := by show _ = _; rw [← HQ0.out]; exact turnJ_f HK.out
    go_wp2_with (first | (refine wpList_store_row rfl 28 _ _ rfl (w.heap.size + 1) _ rfl rfl 28 _ G2.out (by kernel_rfl) rfl (by rw [List.all_toArray]; rfl) ?_))
    (try simp only [Exit.inBlock, Exit.then])
    refine bodyPost_ret (results_cell2 rfl _ _ (w.heap.size + 1) _ _ _ _ rfl (setRow_heap _ _ _ _ _ _ G2.out) Tryz.underlying28 rfl (by kernel_rfl)) rfl ?_
    rw [HQ.out]
    exact retJZ_no (below_row B1.out (by omega) _)
  rw [jobE_t hk] at hck
  have HK := Lib.hid hk
  clear hk
  go_enter Tryz.func63, Tryz.ntmps63
  go_wp2_with (refine wpList_load_row rfl 28 _ rfl (w.heap.size) rfl 28 _ (0, 0) _ (three_two w _ _).1 Tryz.underlying28 rfl (info30 HS.out) ?_)
  refine (hck.out _ (((Below.refl _ _).alloc (Nat.le_refl _) _).alloc (by simp) _)).mono ?_; rintro e w1 ⟨rfl, b1⟩
  obtain ⟨g1, g2, s1⟩ := two_block b1
  have B1 := Lib.hid (two_below b1)
  have x4 : w1.cell? ⟨w.heap.size, 4, none⟩ = some (.int .i64 x.shape.kind) := (cell_of_row w1 _ 4 _ _ _ g1).trans e4
  have x5 : w1.cell? ⟨w.heap.size, 5, none⟩ = some (.slice A n c) := (cell_of_row w1 _ 5 _ _ _ g1).trans e5
  have x6 : w1.cell? ⟨w.heap.size, 6, none⟩ = some (.int .i64 x.shape.mn) := (cell_of_row w1 _ 6 _ _ _ g1).trans e6
  have x7 : w1.cell? ⟨w.heap.size, 7, none⟩ = some (.int .i64 x.shape.mx) := (cell_of_row w1 _ 7 _ _ _ g1).trans e7
  have x8 : w1.cell? ⟨w.heap.size, 8, none⟩ = some (.int .i64 x.shape.wall) := (cell_of_row w1 _ 8 _ _ _ g1).trans e8
  have x11 : w1.cell? ⟨w.heap.size, 11, none⟩ = some (.int .i64 x.state) := (cell_of_row w1 _ 11 _ _ _ g1).trans e11
  have x14 : w1.cell? ⟨w.heap.size, 14, none⟩ = some (.int .i64 x.promise) := (cell_of_row w1 _ 14 _ _ _ g1).trans e14
  have x15 : w1.cell? ⟨w.heap.size, 15, none⟩ = some (.int .i64 x.choice) := (cell_of_row w1 _ 15 _ _ _ g1).trans e15
  have x16 : w1.cell? ⟨w.heap.size, 16, none⟩ = some (.int .i64 x.start) := (cell_of_row w1 _ 16 _ _ _ g1).trans e16
  have x17 : w1.cell? ⟨w.heap.size, 17, none⟩ = some (.int .i64 x.limit) := (cell_of_row w1 _ 17 _ _ _ g1).trans e17
  have x18 : w1.cell? ⟨w.heap.size, 18, none⟩ = some (.int .u64 u) := (cell_of_row w1 _ 18 _ _ _ g1).trans e18
  have hf1 : ∀ j, w1.frozen? ⟨w.heap.size, j, none⟩ = false := fun j => by simp [World.frozen?, g1]
  have G1 := Lib.hid g1
  have G2 := Lib.hid g2
  clear b1 g1 g2
  have s0 : w.heap.size < w1.heap.size := by omega
  cases t1 : x.state == 1
  case false =>
    have t1x := bne_of_false t1
    have HQ : Hid (Q = (noJ, 141)) := by show _ = _; rw [← HQ0.out]; exact turnJ_e HK.out ((HM1 t1).out) (by decide)
    go_wp2_with (first | (refine wpList_store_row rfl 28 _ _ rfl (w.heap.size + 1) _ rfl rfl 28 _ G2.out (by kernel_rfl) rfl (by rw [List.all_toArray]; rfl) ?_))
    (try simp only [Exit.inBlock, Exit.then])
    refine bodyPost_ret (results_cell2 rfl _ _ (w.heap.size + 1) _ _ _ _ rfl (setRow_heap _ _ _ _ _ _ G2.out) Tryz.underlying28 rfl (by kernel_rfl)) rfl ?_
    rw [HQ.out]
    exact retJZ_no (below_row B1.out (by omega) _)
  have t1x := bne_of_true t1
  cases tp : x.promise == -1
  case true =>
    have HQ : Hid (Q = (noJ, 141)) := by show _ = _; rw [← HQ0.out]; exact turnJ_e HK.out ((HM2 (beq_iff_eq.1 tp)).out) (by decide)
    go_wp2_with (first | (refine wpList_store_row rfl 28 _ _ rfl (w.heap.size + 1) _ rfl rfl 28 _ G2.out (by kernel_rfl) rfl (by rw [List.all_toArray]; rfl) ?_))
    (try simp only [Exit.inBlock, Exit.then])
    refine bodyPost_ret (results_cell2 rfl _ _ (w.heap.size + 1) _ _ _ _ rfl (setRow_heap _ _ _ _ _ _ G2.out) Tryz.underlying28 rfl (by kernel_rfl)) rfl ?_
    rw [HQ.out]
    exact retJZ_no (below_row B1.out (by omega) _)
  have hqh := queued_has HK.out (beq_iff_eq.1 t1) tp
  by_cases hn : now ≤ x.promise
  case neg =>
    have tn : decide (x.promise < now) = true := decide_eq_true (by omega)
    have HQ : Hid (Q = (noJ, 141)) := by show _ = _; rw [← HQ0.out]; exact turnJ_e HK.out ((HM3 (by omega)).out) (by decide)
    go_wp2_with (first | (refine wpList_store_row rfl 28 _ _ rfl (w.heap.size + 1) _ rfl rfl 28 _ G2.out (by kernel_rfl) rfl (by rw [List.all_toArray]; rfl) ?_))
    (try simp only [Exit.inBlock, Exit.then])
    refine bodyPost_ret (results_cell2 rfl _ _ (w.heap.size + 1) _ _ _ _ rfl (setRow_heap _ _ _ _ _ _ G2.out) Tryz.underlying28 rfl (by kernel_rfl)) rfl ?_
    rw [HQ.out]
    exact retJZ_no (below_row B1.out (by omega) _)
  have tn : decide (x.promise < now) = false := decide_eq_false (by omega)
  have HM4 := HM t1 hqh.1 hn
  obtain ⟨kc, hkc, hkl, hka⟩ := HOA hqh.2
  have hob := HOB hqh.2
  have HKA := Lib.hid hka
  rw [hkc] at x15
  have hj0 : (0 : Int) ≤ (kc : Int) := by omega
  have hj1 : (kc : Int) < (N : Int) := by omega
  clear HM HM1 HM2 HM3 HOA HOB hqh hka hkc
  go_upto_region 5 with (fail)
  go_cut [8] (fun p wx => ∃ g : Nat, p = .pointer (some ⟨g, 0, none⟩) ∧ Hid (wx.heap[g]? = some (.cells #[.int .i64 a.1, .int .i64 a.2] 103 (0, 0))) ∧ w1.heap.size ≤ g ∧ Hid (Below w1.heap.size w1 wx))
  case first =>
    refine wp_region_held_drew (S := (fun w' => (∀ b o, b < w1.heap.size → w'.cell? ⟨b, o, none⟩ = w1.cell? ⟨b, o, none⟩) ∧ Below w1.heap.size w1 w')) (by kernel_rfl) ?_ (fun hHeld => ?_)
    · (try dsimp only); (first | assumption | exact hk_drew | exact hk_call (by assumption) (by assumption) | exact hk_mk (by assumption) | (refine hk_alloc (by assumption) _) | (refine hk_row (by assumption) (by first | exact Nat.le_refl _ | exact hk_size (by assumption) | omega | (simp; done) | (simp; omega)) _) | (refine hk_set (by assumption) (by first | exact Nat.le_refl _ | exact hk_size (by assumption) | omega | (simp; done) | (simp; omega)) _))
    refine wpAnyH_take (i := 0) (oi := ⟨_, _, _, _, _, _⟩) (v := ?v_1) rfl (by kernel_rfl) (by kernel_rfl) (by kernel_rfl) (fun _ _ _ h => h) (Or.inl ⟨by rfl, ?hy_1⟩) (by assumption) ?r_1
    case hy_1 => (intro w_ hS_; (try dsimp only at hS_); go_simp; try with_reducible rfl)
    try simp only [Act.put, List.setIfInBounds_toArray, List.set_cons_zero, List.set_cons_succ]
    refine wpAnyH_take (i := 1) (oi := ⟨_, _, _, _, _, _⟩) (v := ?v_2) rfl (by kernel_rfl) (by kernel_rfl) (by kernel_rfl) (fun _ _ _ h => h) (Or.inl ⟨by rfl, ?hy_2⟩) (by assumption) ?r_2
    case hy_2 => (intro w_ hS_; (try dsimp only at hS_); go_simp; try with_reducible rfl)
    try simp only [Act.put, List.setIfInBounds_toArray, List.set_cons_zero, List.set_cons_succ]
    refine wpAnyH_take (i := 3) (oi := ⟨_, _, _, _, _, _⟩) (v := ?v_3) rfl (by kernel_rfl) (by kernel_rfl) (by kernel_rfl) (fun _ _ _ h => h) (Or.inl ⟨by rfl, ?hy_3⟩) (by assumption) ?r_3
    case hy_3 => (intro w_ hS_; (try dsimp only at hS_); go_simp; try with_reducible rfl)
    try simp only [Act.put, List.setIfInBounds_toArray, List.set_cons_zero, List.set_cons_succ]
    refine wpAnyH_take (i := 4) (oi := ⟨_, _, _, _, _, _⟩) (v := ?v_4) rfl (by kernel_rfl) (by kernel_rfl) (by kernel_rfl) (fun _ _ _ h => h) (Or.inl ⟨by rfl, ?hy_4⟩) (by assumption) ?r_4
    case hy_4 => (intro w_ hS_; (try dsimp only at hS_); go_simp; try with_reducible rfl)
    try simp only [Act.put, List.setIfInBounds_toArray, List.set_cons_zero, List.set_cons_succ]
    refine wpAnyH_ready (rs := [2, 7]) (by kernel_rfl) (by simp) ?_
    refine AllReadyH.cons (o := ⟨_, _, _, _, _, _⟩) rfl (fun K hK => ?_) ?_
    · go_simp
      (first | (go_at_call 130; refine (hop.out _ (bt B1.out (And.right (by assumption)))).mono ?_; rintro e w5 ⟨A5, c5, rfl, hc5, hr5, hb5⟩; obtain ⟨b, o, a5, rfl, hbb, hx, c0, c1⟩ := hr5.pr_at hkl; have ea : a5 = a := (by have h := hx.out; rw [HKA.out] at h; exact (Option.some.inj h).symm); rw [ea] at c0 c1; clear hr5 hx ea))
      try go_wp2_with (fail)
      refine hK.out _ _ ?_ (fun hHeld => ?_)
      · (try dsimp only); (first | exact hk_call (by assumption) (by assumption) | assumption | exact hk_mk (by assumption))
      clear hK K
      try simp only [Act.put, List.setIfInBounds_toArray, List.set_cons_zero, List.set_cons_succ]
      refine wpAnyH_take (i := 5) (oi := ⟨_, _, _, _, _, _⟩) (v := ?v_5) rfl (by kernel_rfl) (by kernel_rfl) (by kernel_rfl) (fun _ _ _ h => h) (Or.inl ⟨by rfl, ?hy_5⟩) (by assumption) ?r_5
      case hy_5 => (intro w_ hS_; (try dsimp only at hS_); go_simp; try with_reducible rfl)
      try simp only [Act.put, List.setIfInBounds_toArray, List.set_cons_zero, List.set_cons_succ]
      refine wpAnyH_ready (rs := [6, 7]) (by kernel_rfl) (by simp) ?_
      refine AllReadyH.cons (o := ⟨_, _, _, _, _, _⟩) rfl (fun K hK => ?_) ?_
      · go_simp
        refine hK.out _ _ ?_ (fun hHeld => ?_)
        · (try dsimp only); (first | assumption | exact hk_drew | exact hk_call (by assumption) (by assumption) | exact hk_mk (by assumption) | (refine hk_alloc (by assumption) _) | (refine hk_row (by assumption) (by first | exact Nat.le_refl _ | exact hk_size (by assumption) | omega | (simp; done) | (simp; omega)) _) | (refine hk_set (by assumption) (by first | exact Nat.le_refl _ | exact hk_size (by assumption) | omega | (simp; done) | (simp; omega)) _))
        clear hK K
        try simp only [Act.put, List.setIfInBounds_toArray, List.set_cons_zero, List.set_cons_succ]
        refine wpAnyH_ready (rs := [7]) (by kernel_rfl) (by simp) ?_
        refine AllReadyH.cons (o := ⟨_, _, _, _, _, _⟩) rfl (fun K hK => ?_) AllReadyH.nil
        go_simp
        refine hK.out _ _ ?_ (fun hHeld => ?_)
        · (try dsimp only); (first | assumption | (refine hk_alloc (by assumption) _))
        clear hK K
        try simp only [Act.put, List.setIfInBounds_toArray, List.set_cons_zero, List.set_cons_succ]
        refine wpAnyH_ready (rs := [8]) (by kernel_rfl) (by simp) ?_
        refine AllReadyH.cons (o := ⟨_, _, _, _, _, _⟩) rfl (fun K hK => ?_) AllReadyH.nil
        first | (rw [if_pos (by rfl)]; first | (refine wp_store_row 103 _ _ rfl _ #[.int .i64 a.1, .int .i64 a.2] rfl rfl 103 _ (heap_alloc_new _ _) (by kernel_rfl) rfl (by rw [List.all_toArray]; rfl) ?_) | (refine wp_store_row 103 _ _ rfl _ #[.int .i64 a.1, .int .i64 a.2] rfl rfl 103 _ ((hb5.block _ (by simp)).trans (heap_alloc_new _ _)) (by kernel_rfl) rfl (by rw [List.all_toArray]; rfl) ?_)) | go_simp
        refine hK.out _ _ ?_ (fun hHeld => ?_)
        · (try dsimp only); (first | assumption | (refine hk_row (by assumption) (by first | exact Nat.le_refl _ | exact hk_size (by assumption) | omega | (simp; done) | (simp; omega)) _) | (refine hk_set (by assumption) (by first | exact Nat.le_refl _ | exact hk_size (by assumption) | omega | (simp; done) | (simp; omega)) _))
        clear hK K
        try simp only [Act.put, List.setIfInBounds_toArray, List.set_cons_zero, List.set_cons_succ]
        refine wpAnyH_done (by kernel_rfl) ?_ _
        (go_wp2_with (fail); go_meet; first | exact ⟨_, rfl, gen_late (below_drew (Below.refl _ _)) hb5⟩ | exact ⟨_, rfl, gen_new (below_drew (Below.refl _ _)) hb5⟩ | exact ⟨_, rfl, gen_early (below_drew bx0) (heap_alloc_new _ _) (Nat.le_refl _) hb5⟩)
      refine AllReadyH.cons (o := ⟨_, _, _, _, _, _⟩) rfl (fun K hK => ?_) AllReadyH.nil
      go_simp
      refine hK.out _ _ ?_ (fun hHeld => ?_)
      · (try dsimp only); (first | assumption | (refine hk_alloc (by assumption) _))
      clear hK K
      try simp only [Act.put, List.setIfInBounds_toArray, List.set_cons_zero, List.set_cons_succ]
      refine wpAnyH_ready (rs := [6]) (by kernel_rfl) (by simp) ?_
      refine AllReadyH.cons (o := ⟨_, _, _, _, _, _⟩) rfl (fun K hK => ?_) AllReadyH.nil
      go_simp
      refine hK.out _ _ ?_ (fun hHeld => ?_)
      · (try dsimp only); (first | assumption | exact hk_drew | exact hk_call (by assumption) (by assumption) | exact hk_mk (by assumption) | (refine hk_alloc (by assumption) _) | (refine hk_row (by assumption) (by first | exact Nat.le_refl _ | exact hk_size (by assumption) | omega | (simp; done) | (simp; omega)) _) | (refine hk_set (by assumption) (by first | exact Nat.le_refl _ | exact hk_size (by assumption) | omega | (simp; done) | (simp; omega)) _))
      clear hK K
      try simp only [Act.put, List.setIfInBounds_toArray, List.set_cons_zero, List.set_cons_succ]
      refine wpAnyH_ready (rs := [8]) (by kernel_rfl) (by simp) ?_
      refine AllReadyH.cons (o := ⟨_, _, _, _, _, _⟩) rfl (fun K hK => ?_) AllReadyH.nil
      first | (rw [if_pos (by rfl)]; first | (refine wp_store_row 103 _ _ rfl _ #[.int .i64 a.1, .int .i64 a.2] rfl rfl 103 _ (heap_alloc_new _ _) (by kernel_rfl) rfl (by rw [List.all_toArray]; rfl) ?_) | (refine wp_store_row 103 _ _ rfl _ #[.int .i64 a.1, .int .i64 a.2] rfl rfl 103 _ ((hb5.block _ (by simp)).trans (heap_alloc_new _ _)) (by kernel_rfl) rfl (by rw [List.all_toArray]; rfl) ?_)) | go_simp
      refine hK.out _ _ ?_ (fun hHeld => ?_)
      · (try dsimp only); (first | assumption | (refine hk_row (by assumption) (by first | exact Nat.le_refl _ | exact hk_size (by assumption) | omega | (simp; done) | (simp; omega)) _) | (refine hk_set (by assumption) (by first | exact Nat.le_refl _ | exact hk_size (by assumption) | omega | (simp; done) | (simp; omega)) _))
      clear hK K
      try simp only [Act.put, List.setIfInBounds_toArray, List.set_cons_zero, List.set_cons_succ]
      refine wpAnyH_done (by kernel_rfl) ?_ _
      (go_wp2_with (fail); go_meet; first | exact ⟨_, rfl, gen_late (below_drew (Below.refl _ _)) hb5⟩ | exact ⟨_, rfl, gen_new (below_drew (Below.refl _ _)) hb5⟩ | exact ⟨_, rfl, gen_early (below_drew bx0) (heap_alloc_new _ _) (Nat.le_refl _) hb5⟩)
    refine AllReadyH.cons (o := ⟨_, _, _, _, _, _⟩) rfl (fun K hK => ?_) AllReadyH.nil
    go_simp
    refine hK.out _ _ ?_ (fun hHeld => ?_)
    · (try dsimp only); (first | assumption | (refine hk_alloc (by assumption) _))
    clear hK K
    try simp only [Act.put, List.setIfInBounds_toArray, List.set_cons_zero, List.set_cons_succ]
    refine wpAnyH_ready (rs := [2]) (by kernel_rfl) (by simp) ?_
    refine AllReadyH.cons (o := ⟨_, _, _, _, _, _⟩) rfl (fun K hK => ?_) AllReadyH.nil
    go_simp
    (first | (go_at_call 130; refine (hop.out _ (bt B1.out (And.right (by assumption)))).mono ?_; rintro e w5 ⟨A5, c5, rfl, hc5, hr5, hb5⟩; obtain ⟨b, o, a5, rfl, hbb, hx, c0, c1⟩ := hr5.pr_at hkl; have ea : a5 = a := (by have h := hx.out; rw [HKA.out] at h; exact (Option.some.inj h).symm); rw [ea] at c0 c1; clear hr5 hx ea))
    try go_wp2_with (fail)
    refine hK.out _ _ ?_ (fun hHeld => ?_)
    · (try dsimp only); (first | exact hk_call (by assumption) (by assumption) | assumption | exact hk_mk (by assumption))
    clear hK K
    try simp only [Act.put, List.setIfInBounds_toArray, List.set_cons_zero, List.set_cons_succ]
    refine wpAnyH_take (i := 5) (oi := ⟨_, _, _, _, _, _⟩) (v := ?v_6) rfl (by kernel_rfl) (by kernel_rfl) (by kernel_rfl) (fun _ _ _ h => h) (Or.inl ⟨by rfl, ?hy_6⟩) (by assumption) ?r_6
    case hy_6 => (intro w_ hS_; (try dsimp only at hS_); go_simp; try with_reducible rfl)
    try simp only [Act.put, List.setIfInBounds_toArray, List.set_cons_zero, List.set_cons_succ]
    refine wpAnyH_ready (rs := [6]) (by kernel_rfl) (by simp) ?_
    refine AllReadyH.cons (o := ⟨_, _, _, _, _, _⟩) rfl (fun K hK => ?_) AllReadyH.nil
    go_simp
    refine hK.out _ _ ?_ (fun hHeld => ?_)
    · (try dsimp only); (first | assumption | exact hk_drew | exact hk_call (by assumption) (by assumption) | exact hk_mk (by assumption) | (refine hk_alloc (by assumption) _) | (refine hk_row (by assumption) (by first | exact Nat.le_refl _ | exact hk_size (by assumption) | omega | (simp; done) | (simp; omega)) _) | (refine hk_set (by assumption) (by first | exact Nat.le_refl _ | exact hk_size (by assumption) | omega | (simp; done) | (simp; omega)) _))
    clear hK K
    try simp only [Act.put, List.setIfInBounds_toArray, List.set_cons_zero, List.set_cons_succ]
    refine wpAnyH_ready (rs := [8]) (by kernel_rfl) (by simp) ?_
    refine AllReadyH.cons (o := ⟨_, _, _, _, _, _⟩) rfl (fun K hK => ?_) AllReadyH.nil
    first | (rw [if_pos (by rfl)]; first | (refine wp_store_row 103 _ _ rfl _ #[.int .i64 a.1, .int .i64 a.2] rfl rfl 103 _ (heap_alloc_new _ _) (by kernel_rfl) rfl (by rw [List.all_toArray]; rfl) ?_) | (refine wp_store_row 103 _ _ rfl _ #[.int .i64 a.1, .int .i64 a.2] rfl rfl 103 _ ((hb5.block _ (by simp)).trans (heap_alloc_new _ _)) (by kernel_rfl) rfl (by rw [List.all_toArray]; rfl) ?_)) | go_simp
    refine hK.out _ _ ?_ (fun hHeld => ?_)
    · (try dsimp only); (first | assumption | (refine hk_row (by assumption) (by first | exact Nat.le_refl _ | exact hk_size (by assumption) | omega | (simp; done) | (simp; omega)) _) | (refine hk_set (by assumption) (by first | exact Nat.le_refl _ | exact hk_size (by assumption) | omega | (simp; done) | (simp; omega)) _))
    clear hK K
    try simp only [Act.put, List.setIfInBounds_toArray, List.set_cons_zero, List.set_cons_succ]
    refine wpAnyH_done (by kernel_rfl) ?_ _
    (go_wp2_with (fail); go_meet; first | exact ⟨_, rfl, gen_late (below_drew (Below.refl _ _)) hb5⟩ | exact ⟨_, rfl, gen_new (below_drew (Below.refl _ _)) hb5⟩ | exact ⟨_, rfl, gen_early (below_drew bx0) (heap_alloc_new _ _) (Nat.le_refl _) hb5⟩)
  case rest =>
    obtain ⟨g, rfl, JG, hg, BC⟩ := hcut
    obtain ⟨w7, hw7⟩ : ∃ w7 : World, w7 = wc := ⟨_, rfl⟩
    subst hw7
    have sg : g < w7.heap.size := (Array.getElem?_eq_some_iff.1 JG.out).1
    have d0 : w7.cell? ⟨g, 0, none⟩ = some (.int .i64 a.1) := cell_of_row w7 _ 0 _ _ _ JG.out
    have K1 := Lib.hid ((BC.out.block _ s0).trans G1.out)
    have K2 := Lib.hid ((BC.out.block _ s1).trans G2.out)
    have B7 := Lib.hid (bt B1.out BC.out)
    have s7 : w.heap.size + 1 < w7.heap.size := by have := BC.out.size; omega
    have s70 : w.heap.size < w7.heap.size := by omega
    clear hf1 hop x4 x5 x6 x7 x8 x11 x14 x15 x16 x17 x18
    go_upto_region 6 with (fail)
    cases z4
    case false =>
      refine wp_region_later (by kernel_rfl) (by kernel_rfl) ?_
      have hl_ := later_cell (w7)
      repeat (first | go_big_quiet_step (((go_at_call 131; exact later_same (q4.out _)))) | quiet_step (((go_at_call 131; exact later_same (q4.out _)))))
      refine wpQuiet_nil ?_
      intro w9 hx_
      obtain ⟨⟨w_, hb9⟩, e_⟩ := hx_
      have e2_ : w9 = w_ := e_
      clear e_
      subst e2_
      clear hl_
      have J2 := Lib.hid ((hb9.block _ s7).trans K2.out)
      have B9 := Lib.hid (bt B7.out hb9)
      clear hb9
      have HQ : Hid (Q = (noJ, 152)) := by show _ = _; rw [← HQ0.out]; exact turnJ_e HK.out (by rw [HM4.out]; rfl) (by decide)
      go_wp2_with (first | (refine wpList_store_row rfl 28 _ _ rfl (w.heap.size + 1) _ rfl rfl 28 _ J2.out (by kernel_rfl) rfl (by rw [List.all_toArray]; rfl) ?_))
      (try simp only [Exit.inBlock, Exit.then])
      refine bodyPost_ret (results_cell2 rfl _ _ (w.heap.size + 1) _ _ _ _ rfl (setRow_heap _ _ _ _ _ _ J2.out) Tryz.underlying28 rfl (by kernel_rfl)) rfl ?_
      rw [HQ.out]
      exact retJZ_no (below_row B9.out (by omega) _)
    refine wp_region_held_drew (S := (fun w' => (∀ b o, b < w7.heap.size → w'.cell? ⟨b, o, none⟩ = w7.cell? ⟨b, o, none⟩) ∧ Below w7.heap.size w7 w')) (by kernel_rfl) ?_ (fun hHeld => ?_)
    · (try dsimp only); (first | assumption | exact hk_drew | exact hk_call (by assumption) (by assumption) | exact hk_mk (by assumption) | (refine hk_alloc (by assumption) _) | (refine hk_row (by assumption) (by first | exact Nat.le_refl _ | exact hk_size (by assumption) | omega | (simp; done) | (simp; omega)) _) | (refine hk_set (by assumption) (by first | exact Nat.le_refl _ | exact hk_size (by assumption) | omega | (simp; done) | (simp; omega)) _))
    refine wpAnyH_take (i := 0) (oi := ⟨_, _, _, _, _, _⟩) (v := ?v_7) rfl (by kernel_rfl) (by kernel_rfl) (by kernel_rfl) (fun _ _ _ h => h) (Or.inl ⟨by rfl, ?hy_7⟩) (by assumption) ?r_7
    case hy_7 => (intro w_ hS_; (try dsimp only at hS_); go_simp; try with_reducible rfl)
    try simp only [Act.put, List.setIfInBounds_toArray, List.set_cons_zero, List.set_cons_succ]
    refine wpAnyH_ready (rs := [1]) (by kernel_rfl) (by simp) ?_
    refine AllReadyH.cons (o := ⟨_, _, _, _, _, _⟩) rfl (fun K hK => ?_) AllReadyH.nil
    go_simp
    (first | (go_at_call 131; refine (q4.out _).mono ?_; rintro e w5 ⟨rfl, rfl⟩) | (go_at_call 132; refine (hli.out _).mono ?_; rintro e w6 ⟨A3, c3, rfl, hb6⟩))
    try go_wp2_with (fail)
    refine hK.out _ _ ?_ (fun hHeld => ?_)
    · (try dsimp only); (first | exact hk_call (by assumption) (by assumption) | assumption | exact hk_mk (by assumption))
    clear hK K
    try simp only [Act.put, List.setIfInBounds_toArray, List.set_cons_zero, List.set_cons_succ]
    refine wpAnyH_take (i := 2) (oi := ⟨_, _, _, _, _, _⟩) (v := ?v_8) rfl (by kernel_rfl) (by kernel_rfl) (by kernel_rfl) (fun _ _ _ h => h) (Or.inl ⟨by rfl, ?hy_8⟩) (by assumption) ?r_8
    case hy_8 => (intro w_ hS_; (try dsimp only at hS_); go_simp; try with_reducible rfl)
    try simp only [Act.put, List.setIfInBounds_toArray, List.set_cons_zero, List.set_cons_succ]
    refine wpAnyH_take (i := 3) (oi := ⟨_, _, _, _, _, _⟩) (v := ?v_9) rfl (by kernel_rfl) (by kernel_rfl) (by kernel_rfl) (fun _ _ _ h => h) (Or.inl ⟨by rfl, ?hy_9⟩) (by assumption) ?r_9
    case hy_9 => (intro w_ hS_; (try dsimp only at hS_); go_simp; try with_reducible rfl)
    try simp only [Act.put, List.setIfInBounds_toArray, List.set_cons_zero, List.set_cons_succ]
    refine wpAnyH_take (i := 4) (oi := ⟨_, _, _, _, _, _⟩) (v := ?v_10) rfl (by kernel_rfl) (by kernel_rfl) (by kernel_rfl) (fun _ _ _ h => h) (Or.inl ⟨by rfl, ?hy_10⟩) (by assumption) ?r_10
    case hy_10 => (intro w_ hS_; (try dsimp only at hS_); go_simp; try with_reducible rfl)
    try simp only [Act.put, List.setIfInBounds_toArray, List.set_cons_zero, List.set_cons_succ]
    refine wpAnyH_take (i := 7) (oi := ⟨_, _, _, _, _, _⟩) (v := ?v_11) rfl (by kernel_rfl) (by kernel_rfl) (by kernel_rfl) (fun _ _ _ h => h) (Or.inl ⟨by rfl, ?hy_11⟩) (by assumption) ?r_11
    case hy_11 => (intro w_ hS_; (try dsimp only at hS_); go_simp; try with_reducible rfl)
    try simp only [Act.put, List.setIfInBounds_toArray, List.set_cons_zero, List.set_cons_succ]
    refine wpAnyH_take (i := 8) (oi := ⟨_, _, _, _, _, _⟩) (v := ?v_12) rfl (by kernel_rfl) (by kernel_rfl) (by kernel_rfl) (fun _ _ _ h => h) (Or.inl ⟨by rfl, ?hy_12⟩) (by assumption) ?r_12
    case hy_12 => (intro w_ hS_; (try dsimp only at hS_); go_simp; try with_reducible rfl)
    try simp only [Act.put, List.setIfInBounds_toArray, List.set_cons_zero, List.set_cons_succ]
    refine wpAnyH_ready (rs := [5]) (by kernel_rfl) (by simp) ?_
    refine AllReadyH.cons (o := ⟨_, _, _, _, _, _⟩) rfl (fun K hK => ?_) AllReadyH.nil
    go_simp
    (first | (go_at_call 131; refine (q4.out _).mono ?_; rintro e w5 ⟨rfl, rfl⟩) | (go_at_call 132; refine (hli.out _).mono ?_; rintro e w6 ⟨A3, c3, rfl, hb6⟩))
    try go_wp2_with (fail)
    refine hK.out _ _ ?_ (fun hHeld => ?_)
    · (try dsimp only); (first | exact hk_call (by assumption) (by assumption) | assumption | exact hk_mk (by assumption))
    clear hK K
    try simp only [Act.put, List.setIfInBounds_toArray, List.set_cons_zero, List.set_cons_succ]
    refine wpAnyH_take (i := 6) (oi := ⟨_, _, _, _, _, _⟩) (v := ?v_13) rfl (by kernel_rfl) (by kernel_rfl) (by kernel_rfl) (fun _ _ _ h => h) (Or.inl ⟨by rfl, ?hy_13⟩) (by assumption) ?r_13
    case hy_13 => (intro w_ hS_; (try dsimp only at hS_); go_simp; try with_reducible rfl)
    try simp only [Act.put, List.setIfInBounds_toArray, List.set_cons_zero, List.set_cons_succ]
    refine wpAnyH_take (i := 9) (oi := ⟨_, _, _, _, _, _⟩) (v := ?v_14) rfl (by kernel_rfl) (by kernel_rfl) (by kernel_rfl) (fun _ _ _ h => h) (Or.inl ⟨by rfl, ?hy_14⟩) (by assumption) ?r_14
    case hy_14 => (intro w_ hS_; (try dsimp only at hS_); go_simp; try with_reducible rfl)
    try simp only [Act.put, List.setIfInBounds_toArray, List.set_cons_zero, List.set_cons_succ]
    refine wpAnyH_take (i := 10) (oi := ⟨_, _, _, _, _, _⟩) (v := ?v_15) rfl (by kernel_rfl) (by kernel_rfl) (by kernel_rfl) (fun _ _ _ h => h) (Or.inl ⟨by rfl, ?hy_15⟩) (by assumption) ?r_15
    case hy_15 => (intro w_ hS_; (try dsimp only at hS_); go_simp; try with_reducible rfl)
    try simp only [Act.put, List.setIfInBounds_toArray, List.set_cons_zero, List.set_cons_succ]
    refine wpAnyH_done (by kernel_rfl) ?_ _
    (have hb9 := hHeld.2; iterate 8 (try clear hHeld))
    have j1 := (hb9.block _ s70).trans K1.out
    have J1 := Lib.hid j1
    have J2 := Lib.hid ((hb9.block _ s7).trans K2.out)
    have jg := (hb9.block _ sg).trans JG.out
    have d1 : w6.cell? ⟨g, 1, none⟩ = some (.int .i64 a.2) := cell_of_row w6 _ 1 _ _ _ jg
    have B9 := Lib.hid (bt B7.out hb9)
    have s9 : w.heap.size + 1 < w6.heap.size := by have := hb9.size; omega
    have hf7 : ∀ j, w6.frozen? ⟨w.heap.size, j, none⟩ = false := fun j => by simp [World.frozen?, j1]
    have JG6 := Lib.hid jg
    have gw : g ≠ w.heap.size := by omega
    have gw2 : g ≠ w.heap.size + 1 := by omega
    have z11 : w6.cell? ⟨w.heap.size, 11, none⟩ = some (.int .i64 x.state) := (cell_of_row w6 _ 11 _ _ _ j1).trans e11
    have z16 : w6.cell? ⟨w.heap.size, 16, none⟩ = some (.int .i64 x.start) := (cell_of_row w6 _ 16 _ _ _ j1).trans e16
    have z17 : w6.cell? ⟨w.heap.size, 17, none⟩ = some (.int .i64 x.limit) := (cell_of_row w6 _ 17 _ _ _ j1).trans e17
    have z18 : w6.cell? ⟨w.heap.size, 18, none⟩ = some (.int .u64 u) := (cell_of_row w6 _ 18 _ _ _ j1).trans e18
    clear j1 jg hb9 d0 hb6
    cases t9 : ((cn : Int) == a.1)
    case false =>
      have t9x := bne_of_false t9
      have HQ : Hid (Q = (noJ, 152)) := by show _ = _; rw [← HQ0.out]; exact turnJ_e HK.out (by rw [HM4.out, t9]; rfl) (by decide)
      go_wp2_with (first | (refine wpList_store_row rfl 28 _ _ rfl (w.heap.size + 1) _ rfl rfl 28 _ J2.out (by kernel_rfl) rfl (by rw [List.all_toArray]; rfl) ?_))
      (try simp only [Exit.inBlock, Exit.then])
      refine bodyPost_ret (results_cell2 rfl _ _ (w.heap.size + 1) _ _ _ _ rfl (setRow_heap _ _ _ _ _ _ J2.out) Tryz.underlying28 rfl (by kernel_rfl)) rfl ?_
      rw [HQ.out]
      exact retJZ_no (below_row B9.out (by omega) _)
    have t9x := bne_of_true t9
    cases z1
    case false =>
      have HQ : Hid (Q = (noJ, 153)) := by show _ = _; rw [← HQ0.out]; exact turnJ_e HK.out (by rw [HM4.out, t9]; rfl) (by decide)
      go_wp2_with (first | (go_at_call 128; refine (q1.out _).mono ?_; rintro e w2 ⟨rfl, rfl⟩) | (refine wpList_store_row rfl 28 _ _ rfl (w.heap.size + 1) _ rfl rfl 28 _ J2.out (by kernel_rfl) rfl (by rw [List.all_toArray]; rfl) ?_))
      (try simp only [Exit.inBlock, Exit.then])
      refine bodyPost_ret (results_cell2 rfl _ _ (w.heap.size + 1) _ _ _ _ rfl (setRow_heap _ _ _ _ _ _ J2.out) Tryz.underlying28 rfl (by kernel_rfl)) rfl ?_
      rw [HQ.out]
      exact retJZ_no (below_row B9.out (by omega) _)
    have hnow := of_inB hz1.out
    have hw1 : IntKind.i64.wrap (1000000 - now) = 1000000 - now := wrap_small (by omega) (by omega)
    have hw2 : IntKind.i64.wrap (now + a.2) = now + a.2 := wrap_small (by omega) (by omega)
    have hov := fits_two (a := now) (b := a.2) hnow.1 hnow.2 (by omega) (by omega)
    by_cases h5 : 1000000 - now < a.2
    case pos =>
      have t5 : decide (1000000 - now < a.2) = true := decide_eq_true h5
      have HQ : Hid (Q = (noJ, 153)) := by show _ = _; rw [← HQ0.out]; exact turnJ_e HK.out (by rw [HM4.out, t9, hov, decide_eq_true (by omega)]; rfl) (by decide)
      go_wp2_with (first | (go_at_call 128; refine (q1.out _).mono ?_; rintro e w2 ⟨rfl, rfl⟩) | (refine wpList_store_row rfl 28 _ _ rfl (w.heap.size + 1) _ rfl rfl 28 _ J2.out (by kernel_rfl) rfl (by rw [List.all_toArray]; rfl) ?_))
      (try simp only [Exit.inBlock, Exit.then])
      refine bodyPost_ret (results_cell2 rfl _ _ (w.heap.size + 1) _ _ _ _ rfl (setRow_heap _ _ _ _ _ _ J2.out) Tryz.underlying28 rfl (by kernel_rfl)) rfl ?_
      rw [HQ.out]
      exact retJZ_no (below_row B9.out (by omega) _)
    have t5 : decide (1000000 - now < a.2) = false := decide_eq_false h5
    have HMZ : Hid (startM x now s = 0) := by show _ = _; rw [HM4.out, t9, hov, decide_eq_false (by omega)]; rfl
    clear hov HM4 hnow
    go_upto_region 12 with (go_at_call 128; refine (q1.out _).mono ?_; rintro e w2 ⟨rfl, rfl⟩)
    have gj_ : ((w6.setCell ⟨w.heap.size, 11, none⟩ (.int .i64 2)).setCell ⟨w.heap.size, 16, none⟩ (.int .i64 now)).heap[w.heap.size]? = some (.cells (jbA ({ x with state := 2, start := now }) A c A2 c2) 28 (0, 0)) := by
      refine Eq.trans ((setCell_blk (k := 16) (a := .int .i64 now) (setCell_blk (k := 11) (a := .int .i64 2) J1.out))) ?_
      rw [← hcs.out]
      rfl
    have gr_ : ((w6.setCell ⟨w.heap.size, 11, none⟩ (.int .i64 2)).setCell ⟨w.heap.size, 16, none⟩ (.int .i64 now)).heap[w.heap.size + 1]? = _ := ((Below.heap_setCell _ _ _ _ (by simp)).trans ((Below.heap_setCell _ _ _ _ (by simp)).trans J2.out))
    have bb_ : Below w.heap.size w ((w6.setCell ⟨w.heap.size, 11, none⟩ (.int .i64 2)).setCell ⟨w.heap.size, 16, none⟩ (.int .i64 now)) := (Below.setCell (Below.setCell B9.out (p := ⟨w.heap.size, 11, none⟩) (Nat.le_refl _) (.int .i64 2)) (p := ⟨w.heap.size, 16, none⟩) (Nat.le_refl _) (.int .i64 now))
    obtain ⟨W2, hw_⟩ : ∃ W, ((w6.setCell ⟨w.heap.size, 11, none⟩ (.int .i64 2)).setCell ⟨w.heap.size, 16, none⟩ (.int .i64 now)) = W := ⟨_, rfl⟩
    rw [hw_] at gj_ gr_ bb_
    obtain ⟨cs2, hcs2⟩ : ∃ cs, Hid (jbA ({ x with state := 2, start := now }) A c A2 c2 = cs) := ⟨_, rfl⟩
    rw [hcs2.out] at gj_
    have y17 : W2.cell? ⟨w.heap.size, 17, none⟩ = some (.int .i64 x.limit) := (cell_of_row W2 _ 17 _ _ _ gj_).trans (by rw [← hcs2.out]; rfl)
    have y18 : W2.cell? ⟨w.heap.size, 18, none⟩ = some (.int .u64 x.nodes) := (cell_of_row W2 _ 18 _ _ _ gj_).trans (by rw [← hcs2.out]; rfl)
    have fy : ∀ j, W2.frozen? ⟨w.heap.size, j, none⟩ = false := fun j => by simp [World.frozen?, gj_]
    have GJ2 := Lib.hid gj_
    have GR2 := Lib.hid gr_
    have BB2 := Lib.hid bb_
    clear gj_ gr_ bb_
    have e1 : W2.cell? ⟨g, 1, none⟩ = some (.int .i64 a.2) := by rw [← hw_, World.cell?_setCell_other _ _ _ _ (by simp [gw]), World.cell?_setCell_other _ _ _ _ (by simp [gw])]; exact d1
    rw [hw_]
    clear hw_ z11 z16 z17 z18 hf7 d1 J1 J2 JG6 B9 sg gw gw2
    have HQ : Hid (Q = (startD x now s, 0)) := by show _ = _; rw [← HQ0.out]; exact turnJ_g HK.out HMZ.out
    have HJ : Hid (((W2.setCell ⟨w.heap.size, 17, none⟩ (.int .i64 (now + a.2))).setCell ⟨w.heap.size, 18, none⟩ (.int .u64 s)).heap[w.heap.size]? = some (.cells (jbA (startD x now s) A c A2 c2) 28 (0, 0))) := by
      show _ = _
      refine Eq.trans ((setCell_blk (k := 18) (a := .int .u64 s) (setCell_blk (k := 17) (a := .int .i64 (now + a.2)) GJ2.out))) ?_
      rw [HD0.out, ← hcs2.out]
      rfl
    have HR_ : Hid (((W2.setCell ⟨w.heap.size, 17, none⟩ (.int .i64 (now + a.2))).setCell ⟨w.heap.size, 18, none⟩ (.int .u64 s)).heap[w.heap.size + 1]? = _) := ((Below.heap_setCell _ _ _ _ (by simp)).trans ((Below.heap_setCell _ _ _ _ (by simp)).trans GR2.out))
    go_wp2_with (first | (refine wpList_load_row rfl 28 _ rfl (w.heap.size) rfl 28 _ (0, 0) _ HJ.out Tryz.underlying28 rfl (info30 (jbA_size _ _ _ _ _)) ?_) | (refine wpList_store_row rfl 28 _ _ rfl (w.heap.size + 1) _ rfl rfl 28 _ HR_.out (info30 (jbA_size _ _ _ _ _)) rfl (jbA_one _ _ _ _ _) ?_))
    (try simp only [Exit.inBlock, Exit.then])
    refine bodyPost_ret (results_cell2 rfl _ _ (w.heap.size + 1) _ _ _ _ rfl (setRow_heap _ _ _ _ _ _ HR_.out) Tryz.underlying28 rfl (info30 (jbA_size _ _ _ _ _))) rfl ?_
    rw [HQ.out]
    refine retZ_end (y := startD x now s) HAT.out HB.out ?_ ?_ ?_ (by omega)
    · rw [HD0.out]
    · rw [HD0.out]
    · exact (Below.setCell (Below.setCell BB2.out (p := ⟨w.heap.size, 17, none⟩) (Nat.le_refl _) (.int .i64 (now + a.2))) (p := ⟨w.heap.size, 18, none⟩) (Nat.le_refl _) (.int .u64 s))
theorem rwalls_sh (s : Sh) (t : Int) (A : Option Addr) (c B : Nat) (w : World) (hr : Reads w B 2 A s.alts.length (recs prC s.alts)) (hB : B ≤ w.heap.size) (hn : s.alts.length ≤ 100000) :
    Calls Tryz.prog 136 #[shV s A c, .int .i64 t] w fun e w' => ∃ A2 c2, e = .returned (shV (wallsS s t) A2 c2) ∧ Owns w' w.heap.size 103 2 (.slice A2 (wallsS s t).alts.length c2) (wallsS s t).alts.length (recs prC (wallsS s t).alts) ∧ Below w.heap.size w w' := by
  have h := rwalls_any s.kind s.mn s.mx s.wall t s.alts A c B w hr hB hn
  refine h.mono ?_
  rintro e w' ⟨A2, c2, rfl, ho, hb⟩
  have e1 : (wallsS s t).alts.length = s.alts.length := by simp [wallsS]
  refine ⟨A2, c2, ?_, ?_, hb⟩
  · unfold shV; rw [e1]; rfl
  · rw [e1]; exact ho
theorem alt_chk (y : Cm) (D D2 : Option Addr) (d d2 B : Nat) (w : World) (h5 : y.kind = 5) (hy : CmAt w B y D d D2 d2) (hB : B ≤ w.heap.size) :
    Calls Tryz.prog 135 #[cmV y D d D2 d2] w fun e w' => e = .returned (.int .i64 (cmdE y)) ∧ Below w.heap.size w w' := by
  rw [cmd_alter h5]; exact rcheck_alter y D D2 d d2 B w h5 hy hB
theorem retY_walls {w W : World} {y : Jb} {B H r : Nat} {A5 A2 : Option Addr} {c5 c2 : Nat} (ho : Owns W H 103 2 (.slice A5 y.shape.alts.length c5) y.shape.alts.length (recs prC y.shape.alts)) (hd : Reads w B 2 A2 y.after.length (recs prC y.after)) (hB : B ≤ w.heap.size)
    (hl1 : y.shape.alts.length ≤ 100000) (hl2 : y.after.length ≤ 100000) (hl3 : y.after.length ≤ c2) (hb : Below w.heap.size w W) (hr : w.heap.size ≤ r) (hr2 : r < H) (hwH : w.heap.size ≤ H) :
    RetJZ w B (y, 0) (.returned (.tuple #[.agg (jbA y A5 c5 A2 c2), .int .i64 0])) (W.setRow r (jbA y A5 c5 A2 c2)) := by
  have h := below_row hb hr (jbA y A5 c5 A2 c2)
  obtain ⟨_, _, e1, hc, _⟩ := ho.slice
  have e2 : c5 = _ := (Value.slice.inj e1).2.2
  refine ⟨A5, c5, A2, c2, rfl, ⟨(ho.keep (fun g _ hg _ => Go.setRow_other _ _ _ _ (by omega))).reads, (hd.below (h.mono hB)).upR (Nat.le_trans hB h.size), hl1, hl2, by rw [e2]; exact hc, hl3⟩, fun p hp hpw => ⟨fun hn ad e => by have := ho.off hn ad e; omega, away_of_reads hd hp⟩, h⟩
theorem wallsS_len (s : Sh) (t : Int) : (wallsS s t).alts.length = s.alts.length := by simp [wallsS]
set_option linter.unusedSimpArgs false in
set_option maxHeartbeats 8000000 in
set_option maxRecDepth 100000 in
theorem ralter_any (x : Jb) (y : Cm) (A A2 D D2 : Option Addr) (c c2 d d2 B : Nat) (w : World) (hx : JbAt w B x A c A2 c2) (hB : B ≤ w.heap.size) (hz : JbSz x) (hy : CmAt w B y D d D2 d2) (hzc : CmSz y) :
    Calls Tryz.prog 66 #[jbV x A c A2 c2, cmV y D d D2 d2] w (RetJZ w B (altJ x y)) := by
  have hck := Lib.hid (fun v (hv : Below w.heap.size w v) => rcheck14_any x A A2 c c2 B v (hx.below (hv.mono hB)) (Nat.le_trans hB hv.size) hz)
  have hcc := fun (h5 : y.kind = 5) => Lib.hid (fun v (hv : Below w.heap.size w v) => alt_chk y D D2 d d2 B v h5 (hy.below (hv.mono hB)) (Nat.le_trans hB hv.size))
  have hwl := Lib.hid (fun v (hv : Below w.heap.size w v) => rwalls_sh x.shape y.time A c B v (hx.1.below (hv.mono hB)) (Nat.le_trans hB hv.size) hx.2.2.1)
  obtain ⟨Q, HQ0⟩ : ∃ Q, Hid (altJ x y = Q) := ⟨_, rfl⟩
  rw [HQ0.out]
  have HAT := Lib.hid hx
  have HB := Lib.hid hB
  have HL5p := wallsS_len x.shape y.time
  obtain ⟨S5, hS5⟩ : ∃ S, Hid (wallsS x.shape y.time = S) := ⟨_, rfl⟩
  rw [hS5.out] at hwl HL5p
  unfold shV at hwl
  obtain ⟨ce, hce⟩ : ∃ e, Hid (cmdE y = e) := ⟨_, rfl⟩
  rw [hce.out] at hcc
  have HM := fun (h1 : (y.kind == 5) = true) (h2 : (ce == 0) = true) => (show altM x y = whenE (x.state == 1) by unfold altM; rw [hce.out, h1, h2]; rfl)
  have HM1 := fun (h1 : (y.kind == 5) = false) => (show altM x y = 80 by unfold altM; rw [h1]; rfl)
  have HM2 := fun (h2 : (ce == 0) = false) => (show altM x y = 80 by unfold altM; rw [hce.out, h2, Bool.and_false]; rfl)
  have HD0 : Hid (altD x y = if y.hasTime = true then { (if y.hasPrio = true then { x with prio := y.prio } else x) with shape := S5, promise := -1, choice := 0 } else (if y.hasPrio = true then { x with prio := y.prio } else x)) := by show _ = _; rw [← hS5.out]; rfl
  clear hx hB hz hy hzc
  rw [jbV_is] at hck ⊢
  have e4 : (jbA x A c A2 c2)[4]? = some (.int .i64 x.shape.kind) := rfl
  have e5 : (jbA x A c A2 c2)[5]? = some (.slice A x.shape.alts.length c) := rfl
  have e6 : (jbA x A c A2 c2)[6]? = some (.int .i64 x.shape.mn) := rfl
  have e7 : (jbA x A c A2 c2)[7]? = some (.int .i64 x.shape.mx) := rfl
  have e8 : (jbA x A c A2 c2)[8]? = some (.int .i64 x.shape.wall) := rfl
  have e9 : (jbA x A c A2 c2)[9]? = some (.int .i64 x.prio) := rfl
  have e11 : (jbA x A c A2 c2)[11]? = some (.int .i64 x.state) := rfl
  have e14 : (jbA x A c A2 c2)[14]? = some (.int .i64 x.promise) := rfl
  have e15 : (jbA x A c A2 c2)[15]? = some (.int .i64 x.choice) := rfl
  have HS := Lib.hid (jbA_size x A c A2 c2)
  have H1 := Lib.hid (jbA_one x A c A2 c2)
  obtain ⟨cs, hcs⟩ : ∃ cs, Hid (jbA x A c A2 c2 = cs) := ⟨_, rfl⟩
  rw [hcs.out] at HS H1 e4 e5 e6 e7 e8 e9 e11 e14 e15 hck ⊢
  obtain ⟨n, HN⟩ : ∃ n, Hid (x.shape.alts.length = n) := ⟨_, rfl⟩
  rw [HN.out] at e5
  rw [HN.out] at hwl HL5p
  have HL5 := Lib.hid HL5p
  clear HL5p
  rw [cmV_is] at hcc ⊢
  have f0 : (cmA y D d D2 d2)[0]? = some (.int .i64 y.kind) := rfl
  have f10 : (cmA y D d D2 d2)[10]? = some (.int .i64 y.prio) := rfl
  have f11 : (cmA y D d D2 d2)[11]? = some (.bool y.hasPrio) := rfl
  have f12 : (cmA y D d D2 d2)[12]? = some (.int .i64 y.time) := rfl
  have f13 : (cmA y D d D2 d2)[13]? = some (.bool y.hasTime) := rfl
  have HSC := Lib.hid (cmA_size y D d D2 d2)
  obtain ⟨ds, hds⟩ : ∃ ds, Hid (cmA y D d D2 d2 = ds) := ⟨_, rfl⟩
  rw [hds.out] at f0 f10 f11 f12 f13 hcc HSC ⊢
  obtain ⟨V, hV⟩ : ∃ V, Hid ((((w.alloc (.cells cs 28)).alloc (.cells ds 30)).alloc (.cells #[.int .i64 0, .string ⟨#[]⟩, .string ⟨#[]⟩, .string ⟨#[]⟩, .int .i64 0, .slice none 0 0, .int .i64 0, .int .i64 0, .int .i64 0, .int .i64 0, .slice none 0 0, .int .i64 0, .bool false, .int .i64 0, .int .i64 0, .int .i64 0, .int .i64 0, .int .i64 0, .int .u64 0, .int .i64 0] 28)) = V) := ⟨_, rfl⟩
  have hb : Below w.heap.size w (((w.alloc (.cells cs 28)).alloc (.cells ds 30)).alloc (.cells #[.int .i64 0, .string ⟨#[]⟩, .string ⟨#[]⟩, .string ⟨#[]⟩, .int .i64 0, .slice none 0 0, .int .i64 0, .int .i64 0, .int .i64 0, .int .i64 0, .slice none 0 0, .int .i64 0, .bool false, .int .i64 0, .int .i64 0, .int .i64 0, .int .i64 0, .int .i64 0, .int .u64 0, .int .i64 0] 28)) := allocs_below [.cells cs 28, .cells ds 30, .cells #[.int .i64 0, .string ⟨#[]⟩, .string ⟨#[]⟩, .string ⟨#[]⟩, .int .i64 0, .slice none 0 0, .int .i64 0, .int .i64 0, .int .i64 0, .int .i64 0, .slice none 0 0, .int .i64 0, .bool false, .int .i64 0, .int .i64 0, .int .i64 0, .int .i64 0, .int .i64 0, .int .u64 0, .int .i64 0] 28] w
  have hz : (((w.alloc (.cells cs 28)).alloc (.cells ds 30)).alloc (.cells #[.int .i64 0, .string ⟨#[]⟩, .string ⟨#[]⟩, .string ⟨#[]⟩, .int .i64 0, .slice none 0 0, .int .i64 0, .int .i64 0, .int .i64 0, .int .i64 0, .slice none 0 0, .int .i64 0, .bool false, .int .i64 0, .int .i64 0, .int .i64 0, .int .i64 0, .int .i64 0, .int .u64 0, .int .i64 0] 28)).heap.size = w.heap.size + 3 := allocs_size [.cells cs 28, .cells ds 30, .cells #[.int .i64 0, .string ⟨#[]⟩, .string ⟨#[]⟩, .string ⟨#[]⟩, .int .i64 0, .slice none 0 0, .int .i64 0, .int .i64 0, .int .i64 0, .int .i64 0, .slice none 0 0, .int .i64 0, .bool false, .int .i64 0, .int .i64 0, .int .i64 0, .int .i64 0, .int .i64 0, .int .u64 0, .int .i64 0] 28] w
  have g0 : (((w.alloc (.cells cs 28)).alloc (.cells ds 30)).alloc (.cells #[.int .i64 0, .string ⟨#[]⟩, .string ⟨#[]⟩, .string ⟨#[]⟩, .int .i64 0, .slice none 0 0, .int .i64 0, .int .i64 0, .int .i64 0, .int .i64 0, .slice none 0 0, .int .i64 0, .bool false, .int .i64 0, .int .i64 0, .int .i64 0, .int .i64 0, .int .i64 0, .int .u64 0, .int .i64 0] 28)).heap[w.heap.size]? = some (.cells cs 28) := allocs_at [.cells cs 28, .cells ds 30, .cells #[.int .i64 0, .string ⟨#[]⟩, .string ⟨#[]⟩, .string ⟨#[]⟩, .int .i64 0, .slice none 0 0, .int .i64 0, .int .i64 0, .int .i64 0, .int .i64 0, .slice none 0 0, .int .i64 0, .bool false, .int .i64 0, .int .i64 0, .int .i64 0, .int .i64 0, .int .i64 0, .int .u64 0, .int .i64 0] 28] w 0 _ rfl
  have g1 : (((w.alloc (.cells cs 28)).alloc (.cells ds 30)).alloc (.cells #[.int .i64 0, .string ⟨#[]⟩, .string ⟨#[]⟩, .string ⟨#[]⟩, .int .i64 0, .slice none 0 0, .int .i64 0, .int .i64 0, .int .i64 0, .int .i64 0, .slice none 0 0, .int .i64 0, .bool false, .int .i64 0, .int .i64 0, .int .i64 0, .int .i64 0, .int .i64 0, .int .u64 0, .int .i64 0] 28)).heap[w.heap.size + 1]? = some (.cells ds 30) := allocs_at [.cells cs 28, .cells ds 30, .cells #[.int .i64 0, .string ⟨#[]⟩, .string ⟨#[]⟩, .string ⟨#[]⟩, .int .i64 0, .slice none 0 0, .int .i64 0, .int .i64 0, .int .i64 0, .int .i64 0, .slice none 0 0, .int .i64 0, .bool false, .int .i64 0, .int .i64 0, .int .i64 0, .int .i64 0, .int .i64 0, .int .u64 0, .int .i64 0] 28] w 1 _ rfl
  have g2 : (((w.alloc (.cells cs 28)).alloc (.cells ds 30)).alloc (.cells #[.int .i64 0, .string ⟨#[]⟩, .string ⟨#[]⟩, .string ⟨#[]⟩, .int .i64 0, .slice none 0 0, .int .i64 0, .int .i64 0, .int .i64 0, .int .i64 0, .slice none 0 0, .int .i64 0, .bool false, .int .i64 0, .int .i64 0, .int .i64 0, .int .i64 0, .int .i64 0, .int .u64 0, .int .i64 0] 28)).heap[w.heap.size + 2]? = some (.cells #[.int .i64 0, .string ⟨#[]⟩, .string ⟨#[]⟩, .string ⟨#[]⟩, .int .i64 0, .slice none 0 0, .int .i64 0, .int .i64 0, .int .i64 0, .int .i64 0, .slice none 0 0, .int .i64 0, .bool false, .int .i64 0, .int .i64 0, .int .i64 0, .int .i64 0, .int .i64 0, .int .u64 0, .int .i64 0] 28) := allocs_at [.cells cs 28, .cells ds 30, .cells #[.int .i64 0, .string ⟨#[]⟩, .string ⟨#[]⟩, .string ⟨#[]⟩, .int .i64 0, .slice none 0 0, .int .i64 0, .int .i64 0, .int .i64 0, .int .i64 0, .slice none 0 0, .int .i64 0, .bool false, .int .i64 0, .int .i64 0, .int .i64 0, .int .i64 0, .int .i64 0, .int .u64 0, .int .i64 0] 28] w 2 _ rfl
  have G0 : Hid ((((w.alloc (.cells cs 28)).alloc (.cells ds 30)).alloc (.cells #[.int .i64 0, .string ⟨#[]⟩, .string ⟨#[]⟩, .string ⟨#[]⟩, .int .i64 0, .slice none 0 0, .int .i64 0, .int .i64 0, .int .i64 0, .int .i64 0, .slice none 0 0, .int .i64 0, .bool false, .int .i64 0, .int .i64 0, .int .i64 0, .int .i64 0, .int .i64 0, .int .u64 0, .int .i64 0] 28)).heap[w.heap.size]? = some (.cells cs 28 (0, 0))) := g0
  rw [hV.out] at hb hz g0 g1 g2
  have GV0 := Lib.hid g0
  have GV1 := Lib.hid g1
  have GV2 := Lib.hid g2
  have HBV := Lib.hid hb
  have sv : w.heap.size + 2 < V.heap.size := by omega
  clear hb hz g0 g1 g2
  cases hk : okJ x
  case false =>
    rw [jobE_f hk] at hck
    have HK := Lib.hid hk
    clear hk
    go_enter Tryz.func66, Tryz.ntmps66
    go_wp2_with (refine wpList_load_row rfl 28 _ rfl (w.heap.size) rfl 28 _ (0, 0) _ G0.out Tryz.underlying28 rfl (info30 HS.out) ?_)
    rw [hV.out]
    refine (hck.out _ HBV.out).mono ?_; rintro e w1 ⟨rfl, b1⟩
    have g0 := (b1.block _ (by omega)).trans GV0.out
    have g1 := (b1.block _ (by omega)).trans GV1.out
    have g2 := (b1.block _ sv).trans GV2.out
    have s1 : w.heap.size + 2 < w1.heap.size := (Array.getElem?_eq_some_iff.1 g2).1
    have B1 := Lib.hid (bt HBV.out b1)
    have G0 := Lib.hid g0
    have G1 := Lib.hid g1
    have G2 := Lib.hid g2
    clear b1 g0 g1 g2 GV0 GV1 GV2 HBV hV sv
    have HQ : Hid (Q = (noJ, 140)) := by show _ = _; rw [← HQ0.out]; exact turnJ_f HK.out
    go_wp2_with (first | (refine wpList_store_row rfl 28 _ _ rfl (w.heap.size + 2) _ rfl rfl 28 _ G2.out (by kernel_rfl) rfl (by rw [List.all_toArray]; rfl) ?_))
    (try simp only [Exit.inBlock, Exit.then])
    refine bodyPost_ret (results_cell2 rfl _ _ (w.heap.size + 2) _ _ _ _ rfl (setRow_heap _ _ _ _ _ _ G2.out) Tryz.underlying28 rfl (by kernel_rfl)) rfl ?_
    rw [HQ.out]
    exact retJZ_no (below_row B1.out (by omega) _)
  rw [jobE_t hk] at hck
  have HK := Lib.hid hk
  clear hk
  go_enter Tryz.func66, Tryz.ntmps66
  go_wp2_with (refine wpList_load_row rfl 28 _ rfl (w.heap.size) rfl 28 _ (0, 0) _ G0.out Tryz.underlying28 rfl (info30 HS.out) ?_)
  rw [hV.out]
  refine (hck.out _ HBV.out).mono ?_; rintro e w1 ⟨rfl, b1⟩
  have g0 := (b1.block _ (by omega)).trans GV0.out
  have g1 := (b1.block _ (by omega)).trans GV1.out
  have g2 := (b1.block _ sv).trans GV2.out
  have s1 : w.heap.size + 2 < w1.heap.size := (Array.getElem?_eq_some_iff.1 g2).1
  have B1 := Lib.hid (bt HBV.out b1)
  have k0 : w1.cell? ⟨w.heap.size + 1, 0, none⟩ = some (.int .i64 y.kind) := (cell_of_row w1 _ 0 _ _ _ g1).trans f0
  have G0 := Lib.hid g0
  have G1 := Lib.hid g1
  have G2 := Lib.hid g2
  clear b1 g0 g1 g2 GV0 GV1 GV2 HBV hV sv
  by_cases h5 : y.kind = 5
  case neg =>
    have t5 : (y.kind == 5) = false := beq_eq_false_iff_ne.2 h5
    have t5x := bne_of_false t5
    have HQ : Hid (Q = (noJ, 80)) := by show _ = _; rw [← HQ0.out]; exact turnJ_e HK.out (HM1 t5) (by decide)
    go_wp2_with (first | (refine wpList_store_row rfl 28 _ _ rfl (w.heap.size + 2) _ rfl rfl 28 _ G2.out (by kernel_rfl) rfl (by rw [List.all_toArray]; rfl) ?_))
    (try simp only [Exit.inBlock, Exit.then])
    refine bodyPost_ret (results_cell2 rfl _ _ (w.heap.size + 2) _ _ _ _ rfl (setRow_heap _ _ _ _ _ _ G2.out) Tryz.underlying28 rfl (by kernel_rfl)) rfl ?_
    rw [HQ.out]
    exact retJZ_no (below_row B1.out (by omega) _)
  have t5 : (y.kind == 5) = true := beq_iff_eq.2 h5
  have t5x := bne_of_true t5
  go_upto_region 3 with (fail)
  go_wp2_with (refine wpList_load_row_g (by kernel_rfl) 30 _ rfl (w.heap.size + 1) rfl 30 _ (0, 0) _ G1.out Tryz.underlying30 rfl (info27 HSC.out) ?_)
  refine ((hcc h5).out _ B1.out).mono ?_
  rintro e w2 ⟨rfl, b2⟩
  have g0 := (b2.block _ (by omega)).trans G0.out
  have g1 := (b2.block _ (by omega)).trans G1.out
  have g2 := (b2.block _ s1).trans G2.out
  have s2 : w.heap.size + 2 < w2.heap.size := (Array.getElem?_eq_some_iff.1 g2).1
  have B2 := Lib.hid (bt B1.out b2)
  have k10 : w2.cell? ⟨w.heap.size + 1, 10, none⟩ = some (.int .i64 y.prio) := (cell_of_row w2 _ 10 _ _ _ g1).trans f10
  have k11 : w2.cell? ⟨w.heap.size + 1, 11, none⟩ = some (.bool y.hasPrio) := (cell_of_row w2 _ 11 _ _ _ g1).trans f11
  have k12 : w2.cell? ⟨w.heap.size + 1, 12, none⟩ = some (.int .i64 y.time) := (cell_of_row w2 _ 12 _ _ _ g1).trans f12
  have k13 : w2.cell? ⟨w.heap.size + 1, 13, none⟩ = some (.bool y.hasTime) := (cell_of_row w2 _ 13 _ _ _ g1).trans f13
  have x11 : w2.cell? ⟨w.heap.size, 11, none⟩ = some (.int .i64 x.state) := (cell_of_row w2 _ 11 _ _ _ g0).trans e11
  have x4 : w2.cell? ⟨w.heap.size, 4, none⟩ = some (.int .i64 x.shape.kind) := (cell_of_row w2 _ 4 _ _ _ g0).trans e4
  have x5 : w2.cell? ⟨w.heap.size, 5, none⟩ = some (.slice A n c) := (cell_of_row w2 _ 5 _ _ _ g0).trans e5
  have x6 : w2.cell? ⟨w.heap.size, 6, none⟩ = some (.int .i64 x.shape.mn) := (cell_of_row w2 _ 6 _ _ _ g0).trans e6
  have x7 : w2.cell? ⟨w.heap.size, 7, none⟩ = some (.int .i64 x.shape.mx) := (cell_of_row w2 _ 7 _ _ _ g0).trans e7
  have x8 : w2.cell? ⟨w.heap.size, 8, none⟩ = some (.int .i64 x.shape.wall) := (cell_of_row w2 _ 8 _ _ _ g0).trans e8
  have x9 : w2.cell? ⟨w.heap.size, 9, none⟩ = some (.int .i64 x.prio) := (cell_of_row w2 _ 9 _ _ _ g0).trans e9
  have x14 : w2.cell? ⟨w.heap.size, 14, none⟩ = some (.int .i64 x.promise) := (cell_of_row w2 _ 14 _ _ _ g0).trans e14
  have x15 : w2.cell? ⟨w.heap.size, 15, none⟩ = some (.int .i64 x.choice) := (cell_of_row w2 _ 15 _ _ _ g0).trans e15
  have hf2 : ∀ j, w2.frozen? ⟨w.heap.size, j, none⟩ = false := (fun j => by simp [World.frozen?, g0])
  have J0 := Lib.hid g0
  have J1 := Lib.hid g1
  have J2 := Lib.hid g2
  clear b2 g0 g1 g2 k0
  cases te : (ce == 0)
  case false =>
    have tex := bne_of_false te
    have HQ : Hid (Q = (noJ, 80)) := by show _ = _; rw [← HQ0.out]; exact turnJ_e HK.out (HM2 te) (by decide)
    go_wp2_with (first | (refine wpList_store_row rfl 28 _ _ rfl (w.heap.size + 2) _ rfl rfl 28 _ J2.out (by kernel_rfl) rfl (by rw [List.all_toArray]; rfl) ?_))
    (try simp only [Exit.inBlock, Exit.then])
    refine bodyPost_ret (results_cell2 rfl _ _ (w.heap.size + 2) _ _ _ _ rfl (setRow_heap _ _ _ _ _ _ J2.out) Tryz.underlying28 rfl (by kernel_rfl)) rfl ?_
    rw [HQ.out]
    exact retJZ_no (below_row B2.out (by omega) _)
  have tex := bne_of_true te
  have HMM := Lib.hid (HM t5 te)
  cases t1 : (x.state == 1)
  case false =>
    have t1x := bne_of_false t1
    have HQ : Hid (Q = (noJ, 141)) := by show _ = _; rw [← HQ0.out]; exact turnJ_e HK.out (by rw [HMM.out, t1]; rfl) (by decide)
    go_wp2_with (first | (refine wpList_store_row rfl 28 _ _ rfl (w.heap.size + 2) _ rfl rfl 28 _ J2.out (by kernel_rfl) rfl (by rw [List.all_toArray]; rfl) ?_))
    (try simp only [Exit.inBlock, Exit.then])
    refine bodyPost_ret (results_cell2 rfl _ _ (w.heap.size + 2) _ _ _ _ rfl (setRow_heap _ _ _ _ _ _ J2.out) Tryz.underlying28 rfl (by kernel_rfl)) rfl ?_
    rw [HQ.out]
    exact retJZ_no (below_row B2.out (by omega) _)
  have t1x := bne_of_true t1
  have HM0 : Hid (altM x y = 0) := by show _ = _; rw [HMM.out, t1]; rfl
  clear HM HM1 HM2 HMM hcc t5 te
  go_upto_region 7 with (fail)
  cases hp : y.hasPrio
  case false =>
    rw [hp] at k11
    go_upto_region 9 with (fail)
    cases ht : y.hasTime
    case false =>
      rw [ht] at k13
      have HD1 : Hid (altD x y = x) := by show _ = _; rw [HD0.out, ht, hp]; rfl
      have HQ : Hid (Q = (altD x y, 0)) := by show _ = _; rw [← HQ0.out]; exact turnJ_g HK.out HM0.out
      have HJ : Hid (w2.heap[w.heap.size]? = some (.cells (jbA (altD x y) A c A2 c2) 28 (0, 0))) := by
        show _ = _
        refine Eq.trans (J0.out) ?_
        rw [HD1.out, ← hcs.out]
      have HR_ : Hid (w2.heap[w.heap.size + 2]? = _) := J2.out
      go_wp2_with (first | (refine wpList_load_row rfl 28 _ rfl (w.heap.size) rfl 28 _ (0, 0) _ HJ.out Tryz.underlying28 rfl (info30 (jbA_size _ _ _ _ _)) ?_) | (refine wpList_store_row rfl 28 _ _ rfl (w.heap.size + 2) _ rfl rfl 28 _ HR_.out (info30 (jbA_size _ _ _ _ _)) rfl (jbA_one _ _ _ _ _) ?_))
      (try simp only [Exit.inBlock, Exit.then])
      refine bodyPost_ret (results_cell2 rfl _ _ (w.heap.size + 2) _ _ _ _ rfl (setRow_heap _ _ _ _ _ _ HR_.out) Tryz.underlying28 rfl (info30 (jbA_size _ _ _ _ _))) rfl ?_
      rw [HQ.out]
      refine retZ_end (y := altD x y) HAT.out HB.out ?_ ?_ ?_ (by omega)
      · rw [HD1.out]
      · rw [HD1.out]
      · exact B2.out
    case true =>
      rw [ht] at k13
      have HD1 : Hid (altD x y = ({ (x) with shape := S5, promise := -1, choice := 0 } : Jb)) := by show _ = _; rw [HD0.out, ht, hp]; rfl
      go_upto_region 11 with (go_at_call 136; refine (hwl.out _ B2.out).mono ?_; rintro e w4 ⟨A5, c5, rfl, ho5, hb5⟩; have q0 := (hb5.block _ (by omega)).trans J0.out; have q2 := (hb5.block _ (by omega)).trans J2.out; have B4 := Lib.hid (bt B2.out hb5); have v4 : w4.cell? ⟨w.heap.size, 4, none⟩ = some (.int .i64 x.shape.kind) := (cell_of_row w4 _ 4 _ _ _ q0).trans (by rw [← hcs.out]; rfl); have v5 : w4.cell? ⟨w.heap.size, 5, none⟩ = some (.slice A n c) := (cell_of_row w4 _ 5 _ _ _ q0).trans (by rw [← hcs.out]; rw [← HN.out]; rfl); have v6 : w4.cell? ⟨w.heap.size, 6, none⟩ = some (.int .i64 x.shape.mn) := (cell_of_row w4 _ 6 _ _ _ q0).trans (by rw [← hcs.out]; rfl); have v7 : w4.cell? ⟨w.heap.size, 7, none⟩ = some (.int .i64 x.shape.mx) := (cell_of_row w4 _ 7 _ _ _ q0).trans (by rw [← hcs.out]; rfl); have v8 : w4.cell? ⟨w.heap.size, 8, none⟩ = some (.int .i64 x.shape.wall) := (cell_of_row w4 _ 8 _ _ _ q0).trans (by rw [← hcs.out]; rfl); have hf4 : ∀ j, w4.frozen? ⟨w.heap.size, j, none⟩ = false := (fun j => by simp [World.frozen?, q0]); have Q0 := Lib.hid q0; have Q2 := Lib.hid q2; have s4 : w.heap.size + 2 < w4.heap.size := (Array.getElem?_eq_some_iff.1 q2).1; have HO5 := Lib.hid ho5; clear q0 q2 hb5 ho5)
      have gj_ : (((((w4.setCell ⟨w.heap.size, 4, none⟩ (.int .i64 S5.kind)).setCell ⟨w.heap.size, 5, none⟩ (.slice A5 S5.alts.length c5)).setCell ⟨w.heap.size, 6, none⟩ (.int .i64 S5.mn)).setCell ⟨w.heap.size, 7, none⟩ (.int .i64 S5.mx)).setCell ⟨w.heap.size, 8, none⟩ (.int .i64 S5.wall)).heap[w.heap.size]? = some (.cells (jbA (({ (x) with shape := S5 } : Jb)) A5 c5 A2 c2) 28 (0, 0)) := by
        refine Eq.trans ((setCell_blk (k := 8) (a := .int .i64 S5.wall) (setCell_blk (k := 7) (a := .int .i64 S5.mx) (setCell_blk (k := 6) (a := .int .i64 S5.mn) (setCell_blk (k := 5) (a := .slice A5 S5.alts.length c5) (setCell_blk (k := 4) (a := .int .i64 S5.kind) Q0.out)))))) ?_
        rw [← hcs.out]
        rfl
      have gr_ : (((((w4.setCell ⟨w.heap.size, 4, none⟩ (.int .i64 S5.kind)).setCell ⟨w.heap.size, 5, none⟩ (.slice A5 S5.alts.length c5)).setCell ⟨w.heap.size, 6, none⟩ (.int .i64 S5.mn)).setCell ⟨w.heap.size, 7, none⟩ (.int .i64 S5.mx)).setCell ⟨w.heap.size, 8, none⟩ (.int .i64 S5.wall)).heap[w.heap.size + 2]? = _ := ((Below.heap_setCell _ _ _ _ (by simp)).trans ((Below.heap_setCell _ _ _ _ (by simp)).trans ((Below.heap_setCell _ _ _ _ (by simp)).trans ((Below.heap_setCell _ _ _ _ (by simp)).trans ((Below.heap_setCell _ _ _ _ (by simp)).trans Q2.out)))))
      have bb_ : Below w.heap.size w (((((w4.setCell ⟨w.heap.size, 4, none⟩ (.int .i64 S5.kind)).setCell ⟨w.heap.size, 5, none⟩ (.slice A5 S5.alts.length c5)).setCell ⟨w.heap.size, 6, none⟩ (.int .i64 S5.mn)).setCell ⟨w.heap.size, 7, none⟩ (.int .i64 S5.mx)).setCell ⟨w.heap.size, 8, none⟩ (.int .i64 S5.wall)) := (Below.setCell (Below.setCell (Below.setCell (Below.setCell (Below.setCell B4.out (p := ⟨w.heap.size, 4, none⟩) (Nat.le_refl _) (.int .i64 S5.kind)) (p := ⟨w.heap.size, 5, none⟩) (Nat.le_refl _) (.slice A5 S5.alts.length c5)) (p := ⟨w.heap.size, 6, none⟩) (Nat.le_refl _) (.int .i64 S5.mn)) (p := ⟨w.heap.size, 7, none⟩) (Nat.le_refl _) (.int .i64 S5.mx)) (p := ⟨w.heap.size, 8, none⟩) (Nat.le_refl _) (.int .i64 S5.wall))
      obtain ⟨W5, hw_⟩ : ∃ W, (((((w4.setCell ⟨w.heap.size, 4, none⟩ (.int .i64 S5.kind)).setCell ⟨w.heap.size, 5, none⟩ (.slice A5 S5.alts.length c5)).setCell ⟨w.heap.size, 6, none⟩ (.int .i64 S5.mn)).setCell ⟨w.heap.size, 7, none⟩ (.int .i64 S5.mx)).setCell ⟨w.heap.size, 8, none⟩ (.int .i64 S5.wall)) = W := ⟨_, rfl⟩
      rw [hw_] at gj_ gr_ bb_
      obtain ⟨cs5, hcs5⟩ : ∃ cs, Hid (jbA (({ (x) with shape := S5 } : Jb)) A5 c5 A2 c2 = cs) := ⟨_, rfl⟩
      rw [hcs5.out] at gj_
      have y14 : W5.cell? ⟨w.heap.size, 14, none⟩ = some (.int .i64 x.promise) := (cell_of_row W5 _ 14 _ _ _ gj_).trans (by rw [← hcs5.out]; rfl)
      have y15 : W5.cell? ⟨w.heap.size, 15, none⟩ = some (.int .i64 x.choice) := (cell_of_row W5 _ 15 _ _ _ gj_).trans (by rw [← hcs5.out]; rfl)
      have fy : ∀ j, W5.frozen? ⟨w.heap.size, j, none⟩ = false := fun j => by simp [World.frozen?, gj_]
      have GJ2 := Lib.hid gj_
      have GR2 := Lib.hid gr_
      have BB2 := Lib.hid bb_
      clear gj_ gr_ bb_
      have ho6 : Owns (((((w4.setCell ⟨w.heap.size, 4, none⟩ (.int .i64 S5.kind)).setCell ⟨w.heap.size, 5, none⟩ (.slice A5 S5.alts.length c5)).setCell ⟨w.heap.size, 6, none⟩ (.int .i64 S5.mn)).setCell ⟨w.heap.size, 7, none⟩ (.int .i64 S5.mx)).setCell ⟨w.heap.size, 8, none⟩ (.int .i64 S5.wall)) w2.heap.size 103 2 (.slice A5 S5.alts.length c5) S5.alts.length (recs prC S5.alts) := (((((HO5.out.setBelow (p := ⟨w.heap.size, 4, none⟩) (show w.heap.size < w2.heap.size by omega) _).setBelow (p := ⟨w.heap.size, 5, none⟩) (show w.heap.size < w2.heap.size by omega) _).setBelow (p := ⟨w.heap.size, 6, none⟩) (show w.heap.size < w2.heap.size by omega) _).setBelow (p := ⟨w.heap.size, 7, none⟩) (show w.heap.size < w2.heap.size by omega) _).setBelow (p := ⟨w.heap.size, 8, none⟩) (show w.heap.size < w2.heap.size by omega) _)
      rw [hw_] at ho6
      have HO6 := Lib.hid ho6
      clear ho6 HO5
      rw [hw_]
      clear hw_ hf4 v4 v5 v6 v7 v8
      have HQ : Hid (Q = (({ (x) with shape := S5, promise := -1, choice := 0 } : Jb), 0)) := by show _ = _; rw [← HQ0.out, ← HD1.out]; exact turnJ_g HK.out HM0.out
      have HJ : Hid (((W5.setCell ⟨w.heap.size, 14, none⟩ (.int .i64 (-1))).setCell ⟨w.heap.size, 15, none⟩ (.int .i64 0)).heap[w.heap.size]? = some (.cells (jbA (({ (x) with shape := S5, promise := -1, choice := 0 } : Jb)) A5 c5 A2 c2) 28 (0, 0))) := by
        show _ = _
        refine Eq.trans (setCell_blk (k := 15) (a := .int .i64 0) (setCell_blk (k := 14) (a := .int .i64 (-1)) GJ2.out)) ?_
        rw [← hcs5.out]
        rfl
      have HR_ : Hid (((W5.setCell ⟨w.heap.size, 14, none⟩ (.int .i64 (-1))).setCell ⟨w.heap.size, 15, none⟩ (.int .i64 0)).heap[w.heap.size + 2]? = _) := (Below.heap_setCell _ _ _ _ (by simp)).trans ((Below.heap_setCell _ _ _ _ (by simp)).trans GR2.out)
      go_wp2_with (first | (refine wpList_load_row rfl 28 _ rfl (w.heap.size) rfl 28 _ (0, 0) _ HJ.out Tryz.underlying28 rfl (info30 (jbA_size _ _ _ _ _)) ?_) | (refine wpList_store_row rfl 28 _ _ rfl (w.heap.size + 2) _ rfl rfl 28 _ HR_.out (info30 (jbA_size _ _ _ _ _)) rfl (jbA_one _ _ _ _ _) ?_))
      (try simp only [Exit.inBlock, Exit.then])
      refine bodyPost_ret (results_cell2 rfl _ _ (w.heap.size + 2) _ _ _ _ rfl (setRow_heap _ _ _ _ _ _ HR_.out) Tryz.underlying28 rfl (info30 (jbA_size _ _ _ _ _))) rfl ?_
      rw [HQ.out]
      refine retY_walls (y := ({ (x) with shape := S5, promise := -1, choice := 0 } : Jb)) (H := w2.heap.size) ?_ HAT.out.2.1 HB.out ?_ HAT.out.2.2.2.1 HAT.out.2.2.2.2.2 ?_ (by omega) (by omega) (by omega)
      · exact (HO6.out.setBelow (p := ⟨w.heap.size, 14, none⟩) (show w.heap.size < w2.heap.size by omega) _).setBelow (p := ⟨w.heap.size, 15, none⟩) (show w.heap.size < w2.heap.size by omega) _
      · show S5.alts.length ≤ 100000
        have h1 := HL5.out
        have h2 := HAT.out.2.2.1
        have h3 := HN.out
        omega
      · exact (BB2.out.setCell (p := ⟨w.heap.size, 14, none⟩) (Nat.le_refl _) _).setCell (p := ⟨w.heap.size, 15, none⟩) (Nat.le_refl _) _
  case true =>
    rw [hp] at k11
    go_upto_region 9 with (fail)
    have gj_ : (w2.setCell ⟨w.heap.size, 9, none⟩ (.int .i64 y.prio)).heap[w.heap.size]? = some (.cells (jbA (({ x with prio := y.prio } : Jb)) A c A2 c2) 28 (0, 0)) := by
      refine Eq.trans ((setCell_blk (k := 9) (a := .int .i64 y.prio) J0.out)) ?_
      rw [← hcs.out]
      rfl
    have gr_ : (w2.setCell ⟨w.heap.size, 9, none⟩ (.int .i64 y.prio)).heap[w.heap.size + 2]? = _ := ((Below.heap_setCell _ _ _ _ (by simp)).trans J2.out)
    have bb_ : Below w.heap.size w (w2.setCell ⟨w.heap.size, 9, none⟩ (.int .i64 y.prio)) := (Below.setCell B2.out (p := ⟨w.heap.size, 9, none⟩) (Nat.le_refl _) (.int .i64 y.prio))
    obtain ⟨W3, hw_⟩ : ∃ W, (w2.setCell ⟨w.heap.size, 9, none⟩ (.int .i64 y.prio)) = W := ⟨_, rfl⟩
    rw [hw_] at gj_ gr_ bb_
    obtain ⟨cs3, hcs3⟩ : ∃ cs, Hid (jbA (({ x with prio := y.prio } : Jb)) A c A2 c2 = cs) := ⟨_, rfl⟩
    rw [hcs3.out] at gj_
    have y4 : W3.cell? ⟨w.heap.size, 4, none⟩ = some (.int .i64 x.shape.kind) := (cell_of_row W3 _ 4 _ _ _ gj_).trans (by rw [← hcs3.out]; rfl)
    have y6 : W3.cell? ⟨w.heap.size, 6, none⟩ = some (.int .i64 x.shape.mn) := (cell_of_row W3 _ 6 _ _ _ gj_).trans (by rw [← hcs3.out]; rfl)
    have y7 : W3.cell? ⟨w.heap.size, 7, none⟩ = some (.int .i64 x.shape.mx) := (cell_of_row W3 _ 7 _ _ _ gj_).trans (by rw [← hcs3.out]; rfl)
    have y8 : W3.cell? ⟨w.heap.size, 8, none⟩ = some (.int .i64 x.shape.wall) := (cell_of_row W3 _ 8 _ _ _ gj_).trans (by rw [← hcs3.out]; rfl)
    have y14 : W3.cell? ⟨w.heap.size, 14, none⟩ = some (.int .i64 x.promise) := (cell_of_row W3 _ 14 _ _ _ gj_).trans (by rw [← hcs3.out]; rfl)
    have y15 : W3.cell? ⟨w.heap.size, 15, none⟩ = some (.int .i64 x.choice) := (cell_of_row W3 _ 15 _ _ _ gj_).trans (by rw [← hcs3.out]; rfl)
    have fy : ∀ j, W3.frozen? ⟨w.heap.size, j, none⟩ = false := fun j => by simp [World.frozen?, gj_]
    have GJ3 := Lib.hid gj_
    have GR3 := Lib.hid gr_
    have BB3 := Lib.hid bb_
    clear gj_ gr_ bb_
    have y5 : W3.cell? ⟨w.heap.size, 5, none⟩ = some (.slice A n c) := (cell_of_row W3 _ 5 _ _ _ GJ3.out).trans (by rw [← hcs3.out]; rw [← HN.out]; rfl)
    have m12 : W3.cell? ⟨w.heap.size + 1, 12, none⟩ = some (.int .i64 y.time) := by rw [← hw_, World.cell?_setCell_other _ _ _ _ (by simp)]; exact k12
    have m13 : W3.cell? ⟨w.heap.size + 1, 13, none⟩ = some (.bool y.hasTime) := by rw [← hw_, World.cell?_setCell_other _ _ _ _ (by simp)]; exact k13
    have s3 : w.heap.size + 2 < W3.heap.size := (Array.getElem?_eq_some_iff.1 GR3.out).1
    rw [hw_]
    clear hw_ k10 k11 k12 k13 hf2 x4 x5 x6 x7 x8 x9 x11 x14 x15
    cases ht : y.hasTime
    case false =>
      rw [ht] at m13
      have HD1 : Hid (altD x y = ({ x with prio := y.prio } : Jb)) := by show _ = _; rw [HD0.out, ht, hp]; rfl
      have HQ : Hid (Q = (altD x y, 0)) := by show _ = _; rw [← HQ0.out]; exact turnJ_g HK.out HM0.out
      have HJ : Hid (W3.heap[w.heap.size]? = some (.cells (jbA (altD x y) A c A2 c2) 28 (0, 0))) := by
        show _ = _
        refine Eq.trans (GJ3.out) ?_
        rw [HD1.out, ← hcs3.out]
      have HR_ : Hid (W3.heap[w.heap.size + 2]? = _) := GR3.out
      go_wp2_with (first | (refine wpList_load_row rfl 28 _ rfl (w.heap.size) rfl 28 _ (0, 0) _ HJ.out Tryz.underlying28 rfl (info30 (jbA_size _ _ _ _ _)) ?_) | (refine wpList_store_row rfl 28 _ _ rfl (w.heap.size + 2) _ rfl rfl 28 _ HR_.out (info30 (jbA_size _ _ _ _ _)) rfl (jbA_one _ _ _ _ _) ?_))
      (try simp only [Exit.inBlock, Exit.then])
      refine bodyPost_ret (results_cell2 rfl _ _ (w.heap.size + 2) _ _ _ _ rfl (setRow_heap _ _ _ _ _ _ HR_.out) Tryz.underlying28 rfl (info30 (jbA_size _ _ _ _ _))) rfl ?_
      rw [HQ.out]
      refine retZ_end (y := altD x y) HAT.out HB.out ?_ ?_ ?_ (by omega)
      · rw [HD1.out]
      · rw [HD1.out]
      · exact BB3.out
    case true =>
      rw [ht] at m13
      have HD1 : Hid (altD x y = ({ (({ x with prio := y.prio } : Jb)) with shape := S5, promise := -1, choice := 0 } : Jb)) := by show _ = _; rw [HD0.out, ht, hp]; rfl
      go_upto_region 11 with (go_at_call 136; refine (hwl.out _ BB3.out).mono ?_; rintro e w4 ⟨A5, c5, rfl, ho5, hb5⟩; have q0 := (hb5.block _ (by omega)).trans GJ3.out; have q2 := (hb5.block _ (by omega)).trans GR3.out; have B4 := Lib.hid (bt BB3.out hb5); have v4 : w4.cell? ⟨w.heap.size, 4, none⟩ = some (.int .i64 x.shape.kind) := (cell_of_row w4 _ 4 _ _ _ q0).trans (by rw [← hcs3.out]; rfl); have v5 : w4.cell? ⟨w.heap.size, 5, none⟩ = some (.slice A n c) := (cell_of_row w4 _ 5 _ _ _ q0).trans (by rw [← hcs3.out]; rw [← HN.out]; rfl); have v6 : w4.cell? ⟨w.heap.size, 6, none⟩ = some (.int .i64 x.shape.mn) := (cell_of_row w4 _ 6 _ _ _ q0).trans (by rw [← hcs3.out]; rfl); have v7 : w4.cell? ⟨w.heap.size, 7, none⟩ = some (.int .i64 x.shape.mx) := (cell_of_row w4 _ 7 _ _ _ q0).trans (by rw [← hcs3.out]; rfl); have v8 : w4.cell? ⟨w.heap.size, 8, none⟩ = some (.int .i64 x.shape.wall) := (cell_of_row w4 _ 8 _ _ _ q0).trans (by rw [← hcs3.out]; rfl); have hf4 : ∀ j, w4.frozen? ⟨w.heap.size, j, none⟩ = false := (fun j => by simp [World.frozen?, q0]); have Q0 := Lib.hid q0; have Q2 := Lib.hid q2; have s4 : w.heap.size + 2 < w4.heap.size := (Array.getElem?_eq_some_iff.1 q2).1; have HO5 := Lib.hid ho5; clear q0 q2 hb5 ho5)
      have gj_ : (((((w4.setCell ⟨w.heap.size, 4, none⟩ (.int .i64 S5.kind)).setCell ⟨w.heap.size, 5, none⟩ (.slice A5 S5.alts.length c5)).setCell ⟨w.heap.size, 6, none⟩ (.int .i64 S5.mn)).setCell ⟨w.heap.size, 7, none⟩ (.int .i64 S5.mx)).setCell ⟨w.heap.size, 8, none⟩ (.int .i64 S5.wall)).heap[w.heap.size]? = some (.cells (jbA (({ (({ x with prio := y.prio } : Jb)) with shape := S5 } : Jb)) A5 c5 A2 c2) 28 (0, 0)) := by
        refine Eq.trans ((setCell_blk (k := 8) (a := .int .i64 S5.wall) (setCell_blk (k := 7) (a := .int .i64 S5.mx) (setCell_blk (k := 6) (a := .int .i64 S5.mn) (setCell_blk (k := 5) (a := .slice A5 S5.alts.length c5) (setCell_blk (k := 4) (a := .int .i64 S5.kind) Q0.out)))))) ?_
        rw [← hcs3.out]
        rfl
      have gr_ : (((((w4.setCell ⟨w.heap.size, 4, none⟩ (.int .i64 S5.kind)).setCell ⟨w.heap.size, 5, none⟩ (.slice A5 S5.alts.length c5)).setCell ⟨w.heap.size, 6, none⟩ (.int .i64 S5.mn)).setCell ⟨w.heap.size, 7, none⟩ (.int .i64 S5.mx)).setCell ⟨w.heap.size, 8, none⟩ (.int .i64 S5.wall)).heap[w.heap.size + 2]? = _ := ((Below.heap_setCell _ _ _ _ (by simp)).trans ((Below.heap_setCell _ _ _ _ (by simp)).trans ((Below.heap_setCell _ _ _ _ (by simp)).trans ((Below.heap_setCell _ _ _ _ (by simp)).trans ((Below.heap_setCell _ _ _ _ (by simp)).trans Q2.out)))))
      have bb_ : Below w.heap.size w (((((w4.setCell ⟨w.heap.size, 4, none⟩ (.int .i64 S5.kind)).setCell ⟨w.heap.size, 5, none⟩ (.slice A5 S5.alts.length c5)).setCell ⟨w.heap.size, 6, none⟩ (.int .i64 S5.mn)).setCell ⟨w.heap.size, 7, none⟩ (.int .i64 S5.mx)).setCell ⟨w.heap.size, 8, none⟩ (.int .i64 S5.wall)) := (Below.setCell (Below.setCell (Below.setCell (Below.setCell (Below.setCell B4.out (p := ⟨w.heap.size, 4, none⟩) (Nat.le_refl _) (.int .i64 S5.kind)) (p := ⟨w.heap.size, 5, none⟩) (Nat.le_refl _) (.slice A5 S5.alts.length c5)) (p := ⟨w.heap.size, 6, none⟩) (Nat.le_refl _) (.int .i64 S5.mn)) (p := ⟨w.heap.size, 7, none⟩) (Nat.le_refl _) (.int .i64 S5.mx)) (p := ⟨w.heap.size, 8, none⟩) (Nat.le_refl _) (.int .i64 S5.wall))
      obtain ⟨W5, hw_⟩ : ∃ W, (((((w4.setCell ⟨w.heap.size, 4, none⟩ (.int .i64 S5.kind)).setCell ⟨w.heap.size, 5, none⟩ (.slice A5 S5.alts.length c5)).setCell ⟨w.heap.size, 6, none⟩ (.int .i64 S5.mn)).setCell ⟨w.heap.size, 7, none⟩ (.int .i64 S5.mx)).setCell ⟨w.heap.size, 8, none⟩ (.int .i64 S5.wall)) = W := ⟨_, rfl⟩
      rw [hw_] at gj_ gr_ bb_
      obtain ⟨cs5, hcs5⟩ : ∃ cs, Hid (jbA (({ (({ x with prio := y.prio } : Jb)) with shape := S5 } : Jb)) A5 c5 A2 c2 = cs) := ⟨_, rfl⟩
      rw [hcs5.out] at gj_
      have y14 : W5.cell? ⟨w.heap.size, 14, none⟩ = some (.int .i64 x.promise) := (cell_of_row W5 _ 14 _ _ _ gj_).trans (by rw [← hcs5.out]; rfl)
      have y15 : W5.cell? ⟨w.heap.size, 15, none⟩ = some (.int .i64 x.choice) := (cell_of_row W5 _ 15 _ _ _ gj_).trans (by rw [← hcs5.out]; rfl)
      have fy : ∀ j, W5.frozen? ⟨w.heap.size, j, none⟩ = false := fun j => by simp [World.frozen?, gj_]
      have GJ2 := Lib.hid gj_
      have GR2 := Lib.hid gr_
      have BB2 := Lib.hid bb_
      clear gj_ gr_ bb_
      have ho6 : Owns (((((w4.setCell ⟨w.heap.size, 4, none⟩ (.int .i64 S5.kind)).setCell ⟨w.heap.size, 5, none⟩ (.slice A5 S5.alts.length c5)).setCell ⟨w.heap.size, 6, none⟩ (.int .i64 S5.mn)).setCell ⟨w.heap.size, 7, none⟩ (.int .i64 S5.mx)).setCell ⟨w.heap.size, 8, none⟩ (.int .i64 S5.wall)) W3.heap.size 103 2 (.slice A5 S5.alts.length c5) S5.alts.length (recs prC S5.alts) := (((((HO5.out.setBelow (p := ⟨w.heap.size, 4, none⟩) (show w.heap.size < W3.heap.size by omega) _).setBelow (p := ⟨w.heap.size, 5, none⟩) (show w.heap.size < W3.heap.size by omega) _).setBelow (p := ⟨w.heap.size, 6, none⟩) (show w.heap.size < W3.heap.size by omega) _).setBelow (p := ⟨w.heap.size, 7, none⟩) (show w.heap.size < W3.heap.size by omega) _).setBelow (p := ⟨w.heap.size, 8, none⟩) (show w.heap.size < W3.heap.size by omega) _)
      rw [hw_] at ho6
      have HO6 := Lib.hid ho6
      clear ho6 HO5
      rw [hw_]
      clear hw_ hf4 v4 v5 v6 v7 v8
      have HQ : Hid (Q = (({ (({ x with prio := y.prio } : Jb)) with shape := S5, promise := -1, choice := 0 } : Jb), 0)) := by show _ = _; rw [← HQ0.out, ← HD1.out]; exact turnJ_g HK.out HM0.out
      have HJ : Hid (((W5.setCell ⟨w.heap.size, 14, none⟩ (.int .i64 (-1))).setCell ⟨w.heap.size, 15, none⟩ (.int .i64 0)).heap[w.heap.size]? = some (.cells (jbA (({ (({ x with prio := y.prio } : Jb)) with shape := S5, promise := -1, choice := 0 } : Jb)) A5 c5 A2 c2) 28 (0, 0))) := by
        show _ = _
        refine Eq.trans (setCell_blk (k := 15) (a := .int .i64 0) (setCell_blk (k := 14) (a := .int .i64 (-1)) GJ2.out)) ?_
        rw [← hcs5.out]
        rfl
      have HR_ : Hid (((W5.setCell ⟨w.heap.size, 14, none⟩ (.int .i64 (-1))).setCell ⟨w.heap.size, 15, none⟩ (.int .i64 0)).heap[w.heap.size + 2]? = _) := (Below.heap_setCell _ _ _ _ (by simp)).trans ((Below.heap_setCell _ _ _ _ (by simp)).trans GR2.out)
      go_wp2_with (first | (refine wpList_load_row rfl 28 _ rfl (w.heap.size) rfl 28 _ (0, 0) _ HJ.out Tryz.underlying28 rfl (info30 (jbA_size _ _ _ _ _)) ?_) | (refine wpList_store_row rfl 28 _ _ rfl (w.heap.size + 2) _ rfl rfl 28 _ HR_.out (info30 (jbA_size _ _ _ _ _)) rfl (jbA_one _ _ _ _ _) ?_))
      (try simp only [Exit.inBlock, Exit.then])
      refine bodyPost_ret (results_cell2 rfl _ _ (w.heap.size + 2) _ _ _ _ rfl (setRow_heap _ _ _ _ _ _ HR_.out) Tryz.underlying28 rfl (info30 (jbA_size _ _ _ _ _))) rfl ?_
      rw [HQ.out]
      refine retY_walls (y := ({ (({ x with prio := y.prio } : Jb)) with shape := S5, promise := -1, choice := 0 } : Jb)) (H := W3.heap.size) ?_ HAT.out.2.1 HB.out ?_ HAT.out.2.2.2.1 HAT.out.2.2.2.2.2 ?_ (by omega) (by omega) (by omega)
      · exact (HO6.out.setBelow (p := ⟨w.heap.size, 14, none⟩) (show w.heap.size < W3.heap.size by omega) _).setBelow (p := ⟨w.heap.size, 15, none⟩) (show w.heap.size < W3.heap.size by omega) _
      · show S5.alts.length ≤ 100000
        have h1 := HL5.out
        have h2 := HAT.out.2.2.1
        have h3 := HN.out
        omega
      · exact (BB2.out.setCell (p := ⟨w.heap.size, 14, none⟩) (Nat.le_refl _) _).setCell (p := ⟨w.heap.size, 15, none⟩) (Nat.le_refl _) _
end Go.Proofs.YtghmcdfmbjabnaaGreatDoor
