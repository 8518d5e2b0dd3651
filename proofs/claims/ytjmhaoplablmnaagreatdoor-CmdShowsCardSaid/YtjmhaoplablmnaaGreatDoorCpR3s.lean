/- Layer 8: the reference's Check at all kinds (printed by a program of my own). -/
import Derived.Test.YtjmhaoplablmnaaGreatDoorCpR2s
import Derived.Test.YtjmhaoplablmnaaGreatDoorQ2s
import Derived.Deep.DeepCutAuto
import Derived.Deep.CutBlock
namespace Go.Proofs.YtjmhaoplablmnaaGreatDoor
set_option linter.unusedVariables false
set_option linter.unusedSimpArgs false
open Go.RowKit
def kindR (x : Cm) : Bool :=
  if x.kind = 2 ∨ x.kind = 3 ∨ x.kind = 4 ∨ x.kind = 11 then noneJ8 x && inB x.job 1 99999
  else if x.kind = 12 then noneJ8 x && inB x.job 0 99999
  else if x.kind = 5 then noneA8 x && (inB x.job 1 99999 && (x.hasPrio || x.hasTime))
  else if x.kind = 6 then noneR8 x && (inB x.job 1 99999 && inB x.nodes 1 48)
  else if x.kind = 7 ∨ x.kind = 8 ∨ x.kind = 9 then noneN8 x && inB x.node 0 47
  else if x.kind = 10 then noneV8 x && (inB x.frm 0 1000000 && (x.hasTime && inB x.nodes 1 48))
  else false
def rchkB (x : Cm) : Bool := kindR x && ((if x.hasPrio = true then inB x.prio 0 100 else x.prio == 0) && (if x.hasTime = true then inB x.time 1 100000 else x.time == 0))
set_option maxHeartbeats 16000000 in
set_option maxRecDepth 100000 in
theorem rcheck_gen (x : Cm) (A A2 : Option Addr) (c c2 B : Nat) (w : World) (hk1 : (x.kind == 1) = false) (ha : CmAt w B x A c A2 c2) (hB : B ≤ w.heap.size) :
    Calls Tryz.prog 12 #[cmV x A c A2 c2] w fun e w' => e = .returned (.int .i64 (if rchkB x = true then 0 else 80)) ∧ Below w.heap.size w w' := by
  have nJ := Lib.hid (fun v (hv : Below w.heap.size w v) => rnoneJ_any x A A2 c c2 B v (ha.below (hv.mono hB)) (Nat.le_trans hB hv.size))
  have nA := Lib.hid (fun v (hv : Below w.heap.size w v) => rnoneA_any x A A2 c c2 B v (ha.below (hv.mono hB)) (Nat.le_trans hB hv.size))
  have nR := Lib.hid (fun v (hv : Below w.heap.size w v) => rnoneR_any x A A2 c c2 B v (ha.below (hv.mono hB)) (Nat.le_trans hB hv.size))
  have nN := Lib.hid (fun v (hv : Below w.heap.size w v) => rnoneN_any x A A2 c c2 B v (ha.below (hv.mono hB)) (Nat.le_trans hB hv.size))
  have nV := Lib.hid (fun v (hv : Below w.heap.size w v) => rnoneV_any x A A2 c c2 B v (ha.below (hv.mono hB)) (Nat.le_trans hB hv.size))
  have i1 := Lib.hid (fun v => rin8_any x.job 1 99999 v)
  have i2 := Lib.hid (fun v => rin8_any x.job 0 99999 v)
  have i3 := Lib.hid (fun v => rin8_any x.nodes 1 48 v)
  have i4 := Lib.hid (fun v => rin8_any x.node 0 47 v)
  have i5 := Lib.hid (fun v => rin8_any x.frm 0 1000000 v)
  have i6 := Lib.hid (fun v => rin8_any x.prio 0 100 v)
  have i7 := Lib.hid (fun v => rin8_any x.time 1 100000 v)
  obtain ⟨KB, hKB⟩ : ∃ q, Hid (kindR x = q) := ⟨_, Lib.hid rfl⟩
  have HKB : Hid (KB = kindR x) := Lib.hid hKB.out.symm
  have HX : Hid ((if rchkB x = true then (0 : Int) else 80) = if (KB && ((if x.hasPrio = true then inB x.prio 0 100 else x.prio == 0) && (if x.hasTime = true then inB x.time 1 100000 else x.time == 0))) = true then 0 else 80) := by show _ = _; unfold rchkB; rw [hKB.out]
  obtain ⟨R, hR⟩ : ∃ q, (if rchkB x = true then (0 : Int) else 80) = q := ⟨_, rfl⟩
  rw [hR] at HX ⊢
  rw [cmV_is] at nJ nA nR nN nV ⊢
  have e0 : (cmA x A c A2 c2)[0]? = some (.int .i64 x.kind) := rfl
  have e1 : (cmA x A c A2 c2)[1]? = some (.int .i64 x.job) := rfl
  have e10 : (cmA x A c A2 c2)[10]? = some (.int .i64 x.prio) := rfl
  have e11 : (cmA x A c A2 c2)[11]? = some (.bool x.hasPrio) := rfl
  have e12 : (cmA x A c A2 c2)[12]? = some (.int .i64 x.time) := rfl
  have e13 : (cmA x A c A2 c2)[13]? = some (.bool x.hasTime) := rfl
  have e15 : (cmA x A c A2 c2)[15]? = some (.int .i64 x.node) := rfl
  have e16 : (cmA x A c A2 c2)[16]? = some (.int .i64 x.nodes) := rfl
  have e17 : (cmA x A c A2 c2)[17]? = some (.int .i64 x.frm) := rfl
  have HS := Lib.hid (info27 (cmA_size x A c A2 c2))
  obtain ⟨cs, hcs⟩ : ∃ cs, cmA x A c A2 c2 = cs := ⟨_, rfl⟩
  rw [hcs] at HS nJ nA nR nN nV e0 e1 e10 e11 e12 e13 e15 e16 e17 ⊢
  replace e0 := Lib.hid e0
  replace e1 := Lib.hid e1
  replace e10 := Lib.hid e10
  replace e11 := Lib.hid e11
  replace e12 := Lib.hid e12
  replace e13 := Lib.hid e13
  replace e15 := Lib.hid e15
  replace e16 := Lib.hid e16
  replace e17 := Lib.hid e17
  obtain ⟨W0, hW0⟩ : ∃ q, Hid (w.alloc (.cells cs 27) = q) := ⟨_, Lib.hid rfl⟩
  have HBX : Hid (Below w.heap.size w W0) := by rw [← hW0.out]; exact (Below.refl _ _).alloc (Nat.le_refl _) _
  have HCX : Hid (W0.heap[w.heap.size]? = some (.cells cs 27 (0, 0))) := by show _ = _; rw [← hW0.out]; exact heap_alloc_new w _
  have hl0 := lt_of_block HCX.out
  have HC : Hid (∀ v, Below W0.heap.size W0 v → ∀ k u, cs[k]? = some u → v.cell? ⟨w.heap.size, k, none⟩ = some u) := fun v hv k u hu => (hv.cell (p := ⟨w.heap.size, k, none⟩) hl0).trans ((cell_of_row W0 _ k _ _ _ HCX.out).trans hu)
  have x0 := HC.out _ (Below.refl _ _) 0 _ e0.out
  clear hcs ha hB hR hKB
  obtain ⟨K, hK⟩ : ∃ q, x.kind = q := ⟨_, rfl⟩
  rw [hK] at hk1 x0
  obtain ⟨hp, hhp⟩ : ∃ b, x.hasPrio = b := ⟨_, rfl⟩
  obtain ⟨ht, hht⟩ : ∃ b, x.hasTime = b := ⟨_, rfl⟩
  rw [hhp, hht] at HX
  rw [hhp] at e11
  rw [hht] at e13
  go_enter Tryz.func12, Tryz.ntmps12
  go_upto_region 1 with (fail)
  rw [hW0.out]
  go_upto_block 0 with (fail)
  go_cut [3] (fun v wc => v = .bool KB ∧ Below W0.heap.size W0 wc)
  case first =>
    by_cases k : K = 2 ∨ K = 3 ∨ K = 4 ∨ K = 11
    · rcases k with rfl | rfl | rfl | rfl
      all_goals
        have HK2 : Hid (KB = (noneJ8 x && inB x.job 1 99999)) := by show _ = _; rw [HKB.out]; unfold kindR; rw [hK]; rfl
        clear HKB hK HX
        go_wp2_with (refine wpList_load_row rfl 27 _ rfl (w.heap.size) rfl 27 _ (0, 0) _ HCX.out Tryz.underlying27 rfl HS.out ?_)
        refine (nJ.out _ HBX.out).mono ?_; rintro e w1 ⟨rfl, hb1⟩
        have B1 := Lib.hid hb1
        have m1 := HC.out _ hb1 1 _ e1.out
        have m11 := HC.out _ hb1 11 _ e11.out
        have m13 := HC.out _ hb1 13 _ e13.out
        have m15 := HC.out _ hb1 15 _ e15.out
        have m16 := HC.out _ hb1 16 _ e16.out
        have m17 := HC.out _ hb1 17 _ e17.out
        clear hb1
        obtain ⟨y0, g0⟩ : ∃ q, noneJ8 x = q := ⟨_, rfl⟩
        rw [g0] at HK2 ⊢
        clear g0
        obtain ⟨i1_, hi1⟩ : ∃ q, inB x.job 1 99999 = q := ⟨_, rfl⟩
        rw [hi1] at i1 HK2
        cases y0
        case false =>
          go_wp2_with (fail)
          go_meet
          exact ⟨by rw [HK2.out] <;> rfl, B1.out⟩
        go_wp2_with (fail)
        refine (i1.out _).mono ?_; rintro e w9 ⟨rfl, rfl⟩
        cases i1_
        case false =>
          go_wp2_with (fail)
          go_meet
          exact ⟨by rw [HK2.out] <;> rfl, B1.out⟩
        go_wp2_with (fail)
        go_meet
        exact ⟨by rw [HK2.out] <;> rfl, B1.out⟩
    by_cases k : K = 12
    · subst k
      have HK2 : Hid (KB = (noneJ8 x && inB x.job 0 99999)) := by show _ = _; rw [HKB.out]; unfold kindR; rw [hK]; rfl
      clear HKB hK HX
      go_wp2_with (refine wpList_load_row rfl 27 _ rfl (w.heap.size) rfl 27 _ (0, 0) _ HCX.out Tryz.underlying27 rfl HS.out ?_)
      refine (nJ.out _ HBX.out).mono ?_; rintro e w1 ⟨rfl, hb1⟩
      have B1 := Lib.hid hb1
      have m1 := HC.out _ hb1 1 _ e1.out
      have m11 := HC.out _ hb1 11 _ e11.out
      have m13 := HC.out _ hb1 13 _ e13.out
      have m15 := HC.out _ hb1 15 _ e15.out
      have m16 := HC.out _ hb1 16 _ e16.out
      have m17 := HC.out _ hb1 17 _ e17.out
      clear hb1
      obtain ⟨y0, g0⟩ : ∃ q, noneJ8 x = q := ⟨_, rfl⟩
      rw [g0] at HK2 ⊢
      clear g0
      obtain ⟨i2_, hi2⟩ : ∃ q, inB x.job 0 99999 = q := ⟨_, rfl⟩
      rw [hi2] at i2 HK2
      cases y0
      case false =>
        go_wp2_with (fail)
        go_meet
        exact ⟨by rw [HK2.out] <;> rfl, B1.out⟩
      go_wp2_with (fail)
      refine (i2.out _).mono ?_; rintro e w9 ⟨rfl, rfl⟩
      cases i2_
      case false =>
        go_wp2_with (fail)
        go_meet
        exact ⟨by rw [HK2.out] <;> rfl, B1.out⟩
      go_wp2_with (fail)
      go_meet
      exact ⟨by rw [HK2.out] <;> rfl, B1.out⟩
    by_cases k : K = 5
    · subst k
      have HK2 : Hid (KB = (noneA8 x && (inB x.job 1 99999 && (x.hasPrio || x.hasTime)))) := by show _ = _; rw [HKB.out]; unfold kindR; rw [hK]; rfl
      clear HKB hK HX
      go_wp2_with (refine wpList_load_row rfl 27 _ rfl (w.heap.size) rfl 27 _ (0, 0) _ HCX.out Tryz.underlying27 rfl HS.out ?_)
      refine (nA.out _ HBX.out).mono ?_; rintro e w1 ⟨rfl, hb1⟩
      have B1 := Lib.hid hb1
      have m1 := HC.out _ hb1 1 _ e1.out
      have m11 := HC.out _ hb1 11 _ e11.out
      have m13 := HC.out _ hb1 13 _ e13.out
      have m15 := HC.out _ hb1 15 _ e15.out
      have m16 := HC.out _ hb1 16 _ e16.out
      have m17 := HC.out _ hb1 17 _ e17.out
      clear hb1
      obtain ⟨y0, g0⟩ : ∃ q, noneA8 x = q := ⟨_, rfl⟩
      rw [g0] at HK2 ⊢
      clear g0
      obtain ⟨i1_, hi1⟩ : ∃ q, inB x.job 1 99999 = q := ⟨_, rfl⟩
      rw [hi1] at i1 HK2
      rw [hhp, hht] at HK2
      cases y0
      case false =>
        go_wp2_with (fail)
        go_meet
        exact ⟨by rw [HK2.out] <;> rfl, B1.out⟩
      go_wp2_with (fail)
      refine (i1.out _).mono ?_; rintro e w9 ⟨rfl, rfl⟩
      cases i1_
      case false =>
        go_wp2_with (fail)
        go_meet
        exact ⟨by rw [HK2.out] <;> rfl, B1.out⟩
      cases hp
      case true =>
        go_wp2_with (fail)
        go_meet
        exact ⟨by rw [HK2.out] <;> rfl, B1.out⟩
      cases ht
      case false =>
        go_wp2_with (fail)
        go_meet
        exact ⟨by rw [HK2.out] <;> rfl, B1.out⟩
      go_wp2_with (fail)
      go_meet
      exact ⟨by rw [HK2.out] <;> rfl, B1.out⟩
    by_cases k : K = 6
    · subst k
      have HK2 : Hid (KB = (noneR8 x && (inB x.job 1 99999 && inB x.nodes 1 48))) := by show _ = _; rw [HKB.out]; unfold kindR; rw [hK]; rfl
      clear HKB hK HX
      go_wp2_with (refine wpList_load_row rfl 27 _ rfl (w.heap.size) rfl 27 _ (0, 0) _ HCX.out Tryz.underlying27 rfl HS.out ?_)
      refine (nR.out _ HBX.out).mono ?_; rintro e w1 ⟨rfl, hb1⟩
      have B1 := Lib.hid hb1
      have m1 := HC.out _ hb1 1 _ e1.out
      have m11 := HC.out _ hb1 11 _ e11.out
      have m13 := HC.out _ hb1 13 _ e13.out
      have m15 := HC.out _ hb1 15 _ e15.out
      have m16 := HC.out _ hb1 16 _ e16.out
      have m17 := HC.out _ hb1 17 _ e17.out
      clear hb1
      obtain ⟨y0, g0⟩ : ∃ q, noneR8 x = q := ⟨_, rfl⟩
      rw [g0] at HK2 ⊢
      clear g0
      obtain ⟨i1_, hi1⟩ : ∃ q, inB x.job 1 99999 = q := ⟨_, rfl⟩
      rw [hi1] at i1 HK2
      obtain ⟨i3_, hi3⟩ : ∃ q, inB x.nodes 1 48 = q := ⟨_, rfl⟩
      rw [hi3] at i3 HK2
      cases y0
      case false =>
        go_wp2_with (fail)
        go_meet
        exact ⟨by rw [HK2.out] <;> rfl, B1.out⟩
      go_wp2_with (fail)
      refine (i1.out _).mono ?_; rintro e w9 ⟨rfl, rfl⟩
      cases i1_
      case false =>
        go_wp2_with (fail)
        go_meet
        exact ⟨by rw [HK2.out] <;> rfl, B1.out⟩
      go_wp2_with (fail)
      refine (i3.out _).mono ?_; rintro e w9 ⟨rfl, rfl⟩
      cases i3_
      case false =>
        go_wp2_with (fail)
        go_meet
        exact ⟨by rw [HK2.out] <;> rfl, B1.out⟩
      go_wp2_with (fail)
      go_meet
      exact ⟨by rw [HK2.out] <;> rfl, B1.out⟩
    by_cases k : K = 7 ∨ K = 8 ∨ K = 9
    · rcases k with rfl | rfl | rfl
      all_goals
        have HK2 : Hid (KB = (noneN8 x && inB x.node 0 47)) := by show _ = _; rw [HKB.out]; unfold kindR; rw [hK]; rfl
        clear HKB hK HX
        go_wp2_with (refine wpList_load_row rfl 27 _ rfl (w.heap.size) rfl 27 _ (0, 0) _ HCX.out Tryz.underlying27 rfl HS.out ?_)
        refine (nN.out _ HBX.out).mono ?_; rintro e w1 ⟨rfl, hb1⟩
        have B1 := Lib.hid hb1
        have m1 := HC.out _ hb1 1 _ e1.out
        have m11 := HC.out _ hb1 11 _ e11.out
        have m13 := HC.out _ hb1 13 _ e13.out
        have m15 := HC.out _ hb1 15 _ e15.out
        have m16 := HC.out _ hb1 16 _ e16.out
        have m17 := HC.out _ hb1 17 _ e17.out
        clear hb1
        obtain ⟨y0, g0⟩ : ∃ q, noneN8 x = q := ⟨_, rfl⟩
        rw [g0] at HK2 ⊢
        clear g0
        obtain ⟨i4_, hi4⟩ : ∃ q, inB x.node 0 47 = q := ⟨_, rfl⟩
        rw [hi4] at i4 HK2
        cases y0
        case false =>
          go_wp2_with (fail)
          go_meet
          exact ⟨by rw [HK2.out] <;> rfl, B1.out⟩
        go_wp2_with (fail)
        refine (i4.out _).mono ?_; rintro e w9 ⟨rfl, rfl⟩
        cases i4_
        case false =>
          go_wp2_with (fail)
          go_meet
          exact ⟨by rw [HK2.out] <;> rfl, B1.out⟩
        go_wp2_with (fail)
        go_meet
        exact ⟨by rw [HK2.out] <;> rfl, B1.out⟩
    by_cases k : K = 10
    · subst k
      have HK2 : Hid (KB = (noneV8 x && (inB x.frm 0 1000000 && (x.hasTime && inB x.nodes 1 48)))) := by show _ = _; rw [HKB.out]; unfold kindR; rw [hK]; rfl
      clear HKB hK HX
      go_wp2_with (refine wpList_load_row rfl 27 _ rfl (w.heap.size) rfl 27 _ (0, 0) _ HCX.out Tryz.underlying27 rfl HS.out ?_)
      refine (nV.out _ HBX.out).mono ?_; rintro e w1 ⟨rfl, hb1⟩
      have B1 := Lib.hid hb1
      have m1 := HC.out _ hb1 1 _ e1.out
      have m11 := HC.out _ hb1 11 _ e11.out
      have m13 := HC.out _ hb1 13 _ e13.out
      have m15 := HC.out _ hb1 15 _ e15.out
      have m16 := HC.out _ hb1 16 _ e16.out
      have m17 := HC.out _ hb1 17 _ e17.out
      clear hb1
      obtain ⟨y0, g0⟩ : ∃ q, noneV8 x = q := ⟨_, rfl⟩
      rw [g0] at HK2 ⊢
      clear g0
      obtain ⟨i5_, hi5⟩ : ∃ q, inB x.frm 0 1000000 = q := ⟨_, rfl⟩
      rw [hi5] at i5 HK2
      rw [hht] at HK2
      obtain ⟨i3_, hi3⟩ : ∃ q, inB x.nodes 1 48 = q := ⟨_, rfl⟩
      rw [hi3] at i3 HK2
      cases y0
      case false =>
        go_wp2_with (fail)
        go_meet
        exact ⟨by rw [HK2.out] <;> rfl, B1.out⟩
      go_wp2_with (fail)
      refine (i5.out _).mono ?_; rintro e w9 ⟨rfl, rfl⟩
      cases i5_
      case false =>
        go_wp2_with (fail)
        go_meet
        exact ⟨by rw [HK2.out] <;> rfl, B1.out⟩
      cases ht
      case false =>
        go_wp2_with (fail)
        go_meet
        exact ⟨by rw [HK2.out] <;> rfl, B1.out⟩
      go_wp2_with (fail)
      refine (i3.out _).mono ?_; rintro e w9 ⟨rfl, rfl⟩
      cases i3_
      case false =>
        go_wp2_with (fail)
        go_meet
        exact ⟨by rw [HK2.out] <;> rfl, B1.out⟩
      go_wp2_with (fail)
      go_meet
      exact ⟨by rw [HK2.out] <;> rfl, B1.out⟩
    have HK2 : Hid (KB = false) := by show _ = _; rw [HKB.out]; unfold kindR; rw [hK, if_neg (by omega), if_neg (by omega), if_neg (by omega), if_neg (by omega), if_neg (by omega), if_neg (by omega)]
    have t2 : (K == 2) = false := by simp; omega
    have t3 : (K == 3) = false := by simp; omega
    have t4 : (K == 4) = false := by simp; omega
    have t5 : (K == 5) = false := by simp; omega
    have t6 : (K == 6) = false := by simp; omega
    have t7 : (K == 7) = false := by simp; omega
    have t8 : (K == 8) = false := by simp; omega
    have t9 : (K == 9) = false := by simp; omega
    have t10 : (K == 10) = false := by simp; omega
    have t11 : (K == 11) = false := by simp; omega
    have t12 : (K == 12) = false := by simp; omega
    clear HKB hK HX
    go_wp2_with (fail)
    go_meet
    exact ⟨by rw [HK2.out] <;> rfl, Below.refl _ _⟩
  case rest =>
    obtain ⟨rfl, hbc⟩ := hcut
    clear HKB hK x0 hk1
    have m10 := HC.out _ hbc 10 _ e10.out
    have m11 := HC.out _ hbc 11 _ e11.out
    have m12 := HC.out _ hbc 12 _ e12.out
    have m13 := HC.out _ hbc 13 _ e13.out
    have BC := Lib.hid (bt HBX.out hbc)
    clear hbc
    obtain ⟨i6_, hi6⟩ : ∃ q, inB x.prio 0 100 = q := ⟨_, rfl⟩
    rw [hi6] at i6 HX
    obtain ⟨i7_, hi7⟩ : ∃ q, inB x.time 1 100000 = q := ⟨_, rfl⟩
    rw [hi7] at i7 HX
    obtain ⟨p0, hp0⟩ : ∃ q, (x.prio == 0) = q := ⟨_, rfl⟩
    obtain ⟨t0, ht0⟩ : ∃ q, (x.time == 0) = q := ⟨_, rfl⟩
    rw [hp0, ht0] at HX
    cases KB
    case false =>
      cases hp <;> cases ht
      all_goals
        go_wp2_with (fail)
        go_ret
        exact ⟨by rw [HX.out] <;> rfl, BC.out⟩
    cases hp
    case false =>
      cases p0
      case false =>
        cases ht
        all_goals
          go_wp2_with (fail)
          go_ret
          exact ⟨by rw [HX.out] <;> rfl, BC.out⟩
      cases ht
      case false =>
        cases t0
        all_goals
          go_wp2_with (fail)
          go_ret
          exact ⟨by rw [HX.out] <;> rfl, BC.out⟩
      go_wp2_with (fail)
      refine (i7.out _).mono ?_; rintro e w9 ⟨rfl, rfl⟩
      cases i7_
      all_goals
        go_wp2_with (fail)
        go_ret
        exact ⟨by rw [HX.out] <;> rfl, BC.out⟩
    go_wp2_with (fail)
    refine (i6.out _).mono ?_; rintro e w9 ⟨rfl, rfl⟩
    cases i6_
    case false =>
      cases ht
      all_goals
        go_wp2_with (fail)
        go_ret
        exact ⟨by rw [HX.out] <;> rfl, BC.out⟩
    cases ht
    case false =>
      cases t0
      all_goals
        go_wp2_with (fail)
        go_ret
        exact ⟨by rw [HX.out] <;> rfl, BC.out⟩
    go_wp2_with (fail)
    refine (i7.out _).mono ?_; rintro e w9 ⟨rfl, rfl⟩
    cases i7_
    all_goals
      go_wp2_with (fail)
      go_ret
      exact ⟨by rw [HX.out] <;> rfl, BC.out⟩
end Go.Proofs.YtjmhaoplablmnaaGreatDoor
