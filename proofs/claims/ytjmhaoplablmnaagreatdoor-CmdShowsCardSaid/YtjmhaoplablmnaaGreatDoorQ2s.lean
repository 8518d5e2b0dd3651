/- Bundle Q2. -/
import Derived.Test.YtjmhaoplablmnaaGreatDoorC3s
import Derived.Test.YtjmhaoplablmnaaGreatDoorK4s
import Derived.Test.YtjmhaoplablmnaaGreatDoorLexR7s
import Derived.Deep.QuietTactic
import Derived.Test.YtjmhaoplablmnaaGreatDoorS3s
import Derived.Test.YtjmhaoplablmnaaGreatDoorQ1s
namespace Go.Proofs.YtjmhaoplablmnaaGreatDoor
set_option linter.unusedSimpArgs false
set_option maxRecDepth 100000
set_option linter.unusedVariables false
open Go.RowKit
theorem rname8_any (s : ByteArray) (w : World) (hs : s.size ≤ 1000000) : Calls Tryz.prog 35 #[.string s] w fun e w' => e = .returned (.bool (nameB s)) ∧ Below w.heap.size w w' := by
  have hc := Lib.hid (rcheck_any s w (by unfold maxLen; omega))
  have HB : Hid (nameB s = ((checkE (bl s) == 0) && inB (checkN (bl s)) 1 16)) := rfl
  unfold inB at HB
  obtain ⟨er, he⟩ : ∃ n, checkE (bl s) = n := ⟨_, rfl⟩
  obtain ⟨n, hn⟩ : ∃ n : Int, checkN (bl s) = n := ⟨_, rfl⟩
  rw [he] at hc HB
  rw [hn] at hc HB
  clear he hn
  rw [HB.out]
  by_cases h0 : er = 0
  · subst h0
    cases h1 : decide (1 ≤ n) <;> cases h2 : decide (n ≤ 16)
    all_goals
      go_enter Tryz.func35, Tryz.ntmps35
      go_wp2_with (fail)
      refine hc.out.mono ?_; rintro e w1 ⟨rfl, hb1⟩
      go_wp2
      go_ret
      exact ⟨rfl, hb1⟩
  · have t0 : (er == 0) = false := by simpa using h0
    rw [t0]
    clear h0
    go_enter Tryz.func35, Tryz.ntmps35
    go_wp2_with (fail)
    refine hc.out.mono ?_; rintro e w1 ⟨rfl, hb1⟩
    go_wp2
    go_ret
    exact ⟨rfl, hb1⟩
theorem rword8_any (s : ByteArray) (w : World) (hs : s.size ≤ 1000000) : Calls Tryz.prog 27 #[.string s] w fun e w' => e = .returned (.bool (wordB s)) ∧ Below w.heap.size w w' := by
  have hc := Lib.hid (check05_any ⟨1, s, 0, 0⟩ w ⟨hs, by show (0 : Int) ≤ 9223372036854775807; decide⟩)
  unfold wordB
  unfold tkV at hc
  obtain ⟨n, hn⟩ : ∃ n : Int, checkP ⟨1, s, 0, 0⟩ = n := ⟨_, rfl⟩
  rw [hn] at hc ⊢
  clear hn
  dsimp only at hc
  go_enter Tryz.func27, Tryz.ntmps27
  go_wp2_with (fail)
  refine hc.out.mono ?_; rintro e w1 ⟨rfl, hb1⟩
  go_wp2
  go_ret
  exact ⟨rfl, hb1⟩
theorem rin8_any (n a b : Int) (w : World) : Calls Tryz.prog 38 #[.int .i64 n, .int .i64 a, .int .i64 b] w fun e w' => e = .returned (.bool (inB n a b)) ∧ w = w' := by
  unfold inB
  cases h1 : decide (a ≤ n) <;> cases h2 : decide (n ≤ b)
  all_goals
    go_enter Tryz.func38, Tryz.ntmps38
    go_wp2
    go_ret
    exact ⟨rfl, rfl⟩
def NoJob (l : List Pr) (k : Nat) (x : Pr) : Prop := ∀ j b, j < k → l[j]? = some b → b.2 ≠ x.2
theorem noJob_any {l : List Pr} {k : Nat} {x : Pr} (h : NoJob l k x) : (l.take k).any (fun y => y.2 == x.2) = false := by
  rw [List.any_eq_false]
  intro y hy
  obtain ⟨j, hj, e⟩ := List.mem_iff_getElem.1 hy
  rw [List.length_take] at hj
  have := h j y (by omega) (by rw [← e, List.getElem_take]; exact List.getElem?_eq_getElem (by omega))
  simpa using this
theorem job_any {l : List Pr} {i j : Nat} {x y : Pr} (hj : j < i) (hy : l[j]? = some y) (e : y.2 = x.2) : (l.take i).any (fun y => y.2 == x.2) = true := by
  rw [List.any_eq_true]
  exact ⟨y, List.mem_of_getElem? (i := j) (by rw [List.getElem?_take, if_pos hj]; exact hy), by simpa using e⟩
set_option maxHeartbeats 4000000 in
theorem rwaits_any (A : Option Addr) (n c B : Nat) (l : List Pr) (w : World) (hr : Reads w B 2 A n (recs prC l)) (hB : B ≤ w.heap.size) (hn : n ≤ 1000000) :
    Calls Tryz.prog 36 #[.slice A n c] w fun e w' => e = .returned (.bool (depsB l)) ∧ Below w.heap.size w w' := by
  have hlen := hr.rec_len prC_len (by omega)
  by_cases hm : n ≤ 4
  case neg =>
    have t2 : decide ((4 : Int) < (n : Int)) = true := by simp; omega
    have t2' : decide (4 < n) = true := by simp; omega
    have HR : Hid (depsB l = false) := by
      show _ = _
      unfold depsB
      rw [hlen.out, decide_eq_false hm, Bool.and_false]
    clear hm hr
    go_enter Tryz.func36, Tryz.ntmps36
    go_wp2
    go_ret
    exact ⟨by rw [HR.out]; rfl, Below.refl _ _⟩
  have t2 : decide ((4 : Int) < (n : Int)) = false := by simp; omega
  have t2' : decide (4 < n) = false := by simp; omega
  have HRd := Lib.hid hr
  clear hr
  go_enter Tryz.func36, Tryz.ntmps36
  go_wp2
  go_loopw [3, 4] (fun i _ wr => ∃ (k p : Nat), k ≤ n ∧ i = .int .i64 k ∧ wr = w.drewN p ∧ Hid (DepTo l k)) (fun i _ _ => n - (intOf i).toNat)
  case atStart => exact ⟨0, 0, Nat.zero_le _, rfl, rfl, Lib.hid ⟨fun j a h1 => by omega, fun j k a b h1 h2 => by omega⟩⟩
  case round =>
    obtain ⟨k, p, hk, rfl, rfl, HG⟩ := hrel
    by_cases hlt : k < n
    · obtain ⟨b, o, x, rfl, hbb, hx, c0, c1⟩ := HRd.out.pr_at hlt
      have hi0 : (0 : Int) ≤ (k : Int) := by omega
      have hi1 : (k : Int) < (n : Int) := by omega
      have t0 : decide ((k : Int) < (n : Int)) = true := by simp; omega
      have q1 := Lib.hid (fun v => rin8_any x.1 1 3 v)
      have q2 := Lib.hid (fun v => rin8_any x.2 1 99999 v)
      have hf : okDep x = (inB x.1 1 3 && inB x.2 1 99999) := rfl
      obtain ⟨z1, hz1⟩ : ∃ q, inB x.1 1 3 = q := ⟨_, rfl⟩
      obtain ⟨z2, hz2⟩ : ∃ q, inB x.2 1 99999 = q := ⟨_, rfl⟩
      rw [hz1] at q1 hf
      rw [hz2] at q2 hf
      clear hz1 hz2
      cases z1
      case false =>
        have HR : Hid (depsB l = false) := by show _ = _; exact dep_bad hx.out hf
        clear hf
        go_wp2_with (fail)
        refine (q1.out _).mono ?_; rintro e w1 ⟨rfl, rfl⟩
        go_wp2
        go_ret
        exact ⟨by rw [HR.out]; rfl, below_drewN (Below.refl _ _) _⟩
      cases z2
      case false =>
        have HR : Hid (depsB l = false) := by show _ = _; exact dep_bad hx.out hf
        clear hf
        go_wp2_with (fail)
        refine (q1.out _).mono ?_; rintro e w1 ⟨rfl, rfl⟩
        go_wp2_with (fail)
        refine (q2.out _).mono ?_; rintro e w1 ⟨rfl, rfl⟩
        go_wp2
        go_ret
        exact ⟨by rw [HR.out]; rfl, below_drewN (Below.refl _ _) _⟩
      have HF := Lib.hid hf
      clear hf
      go_wp2_with (fail)
      refine (q1.out _).mono ?_; rintro e w1 ⟨rfl, rfl⟩
      go_wp2_with (fail)
      refine (q2.out _).mono ?_; rintro e w1 ⟨rfl, rfl⟩
      go_wp2_with (fail)
      go_loopw [4] (fun i wr => ∃ (j p : Nat), j ≤ k ∧ i = .int .i64 j ∧ wr = w.drewN p ∧ Hid (NoJob l j x)) (fun i _ => k - (intOf i).toNat)
      case atStart => exact ⟨0, p, by omega, by simp, rfl, Lib.hid (fun j b h1 => by omega)⟩
      case round =>
        obtain ⟨j, p2, hj, rfl, rfl, HN⟩ := hrel
        by_cases hjn : j < k
        · obtain ⟨b', o', y, e', _, hy, d0, d1⟩ := HRd.out.pr_at (show j < n by omega)
          have e1 : b = b' ∧ o = o' := by simpa using e'
          rw [← e1.1, ← e1.2] at d1
          clear e' e1 d0
          have hj0 : (0 : Int) ≤ (j : Int) := by omega
          have hj1 : (j : Int) < (n : Int) := by omega
          have t4 : decide ((j : Int) < (k : Int)) = true := by simp; omega
          by_cases hxy : y.2 = x.2
          · have t5 : (y.2 == x.2) = true := by simpa using hxy
            have HR : Hid (depsB l = false) := by show _ = _; exact dep_twice hx.out (job_any hjn hy.out hxy)
            clear hxy
            go_wp2
            go_quiet (fail)
            go_wp2
            go_ret
            exact ⟨by rw [HR.out]; rfl, below_drewN (below_drewN (Below.refl _ _) _) _⟩
          · have t5 : (y.2 == x.2) = false := by simpa using hxy
            have HN2 : Hid (NoJob l (j + 1) x) := by
              intro i b hi hb
              by_cases e : i = j
              · subst e; rw [hy.out] at hb; rw [← Option.some.inj hb]; exact hxy
              · exact HN.out i b (by omega) hb
            clear hxy
            go_wp2
            go_quiet (fail)
            go_wp2
            go_roundw
            case rel => exact ⟨j + 1, _, by omega, by simp, by first | rfl | exact World.drewN_drewN _ _ _, HN2⟩
            case measure => simp [intOf]; omega
        · obtain rfl : j = k := by omega
          have t4 : decide ((j : Int) < (j : Int)) = false := by simp
          have HG2 : Hid (DepTo l (j + 1)) := depTo_next HG.out hx.out HF.out (noJob_any HN.out)
          go_wp2
          go_roundw
          case rel => exact ⟨j + 1, _, by omega, by simp, rfl, HG2⟩
          case measure => simp [intOf]; omega
    · obtain rfl : k = n := by omega
      have t0 : decide ((k : Int) < (k : Int)) = false := by simp
      have HR : Hid (depsB l = true) := by
        show _ = _
        unfold depsB
        rw [depTo_all (by rw [hlen.out]; exact HG.out), hlen.out, decide_eq_true hm]; rfl
      go_wp2
      go_ret
      exact ⟨by rw [HR.out]; rfl, below_drewN (Below.refl _ _) _⟩
def noneS (x : Cm) : Bool := (x.job == 0) && (!x.hasTime && ((x.node == 0) && ((x.nodes == 0) && (x.frm == 0))))
def rsubB (x : Cm) : Bool := noneS x && (subB x && ((if x.hasPrio = true then inB x.prio 0 100 else x.prio == 0) && (x.time == 0)))
theorem cbx {w : World} {o : Obj} : Below w.heap.size w (w.alloc o) := (Below.refl _ _).alloc (Nat.le_refl _) _
set_option maxHeartbeats 8000000 in
theorem rnone_submit (x : Cm) (A A2 : Option Addr) (c c2 : Nat) (w : World) :
    Calls Tryz.prog 34 #[cmV x A c A2 c2, .bool true, .bool false, .bool false, .bool true, .bool true, .bool true, .bool true] w fun e w' => e = .returned (.bool (noneS x)) ∧ Below w.heap.size w w' := by
  unfold cmV noneS
  obtain ⟨n1, e1⟩ : ∃ n, x.shape.alts.length = n := ⟨_, rfl⟩
  obtain ⟨m1, e3⟩ : ∃ n, x.after.length = n := ⟨_, rfl⟩
  rw [e1, e3]
  clear e1 e3
  obtain ⟨kind, job, name, user, account, ⟨sk, sl, sm, sn, so⟩, prio, hp, time, ht, after, node, nodes, frm⟩ := x
  dsimp only
  cases t1 : job == 0
  · have t1' := bne_of8 t1
    go_enter Tryz.func34, Tryz.ntmps34
    go_wp2
    go_ret
    exact ⟨rfl, cbx⟩
  have t1' : (job != 0) = false := by show (!(job == 0)) = false; rw [t1]; rfl
  cases ht
  case true =>
    go_enter Tryz.func34, Tryz.ntmps34
    go_wp2
    go_ret
    exact ⟨rfl, cbx⟩
  cases t2 : node == 0
  · have t2' := bne_of8 t2
    go_enter Tryz.func34, Tryz.ntmps34
    go_wp2
    go_ret
    exact ⟨rfl, cbx⟩
  have t2' : (node != 0) = false := by show (!(node == 0)) = false; rw [t2]; rfl
  cases t3 : nodes == 0
  · have t3' := bne_of8 t3
    go_enter Tryz.func34, Tryz.ntmps34
    go_wp2
    go_ret
    exact ⟨rfl, cbx⟩
  have t3' : (nodes != 0) = false := by show (!(nodes == 0)) = false; rw [t3]; rfl
  cases t4 : frm == 0
  · have t4' := bne_of8 t4
    go_enter Tryz.func34, Tryz.ntmps34
    go_wp2
    go_ret
    exact ⟨rfl, cbx⟩
  have t4' : (frm != 0) = false := by show (!(frm == 0)) = false; rw [t4]; rfl
  go_enter Tryz.func34, Tryz.ntmps34
  go_wp2
  go_ret
  exact ⟨rfl, cbx⟩
set_option maxHeartbeats 16000000 in
theorem rcheck_submit_a (x : Cm) (A A2 : Option Addr) (c c2 B : Nat) (w : World) (hy : noneS x = false) (hk : x.kind = 1) (ha : CmAt w B x A c A2 c2) (hB : B ≤ w.heap.size) (hz : CmSz x) :
    Calls Tryz.prog 12 #[cmV x A c A2 c2] w fun e w' => e = .returned (.int .i64 (if rsubB x = true then 0 else 80)) ∧ Below w.heap.size w w' := by
  have n0 := Lib.hid (fun v => rnone_submit x A A2 c c2 v)
  have q1 := Lib.hid (fun v => rin8_any x.prio 0 100 v)
  have n1 := Lib.hid (fun v => rname8_any x.name v hz.1)
  have n2 := Lib.hid (fun v => rname8_any x.user v hz.2.1)
  have n3 := Lib.hid (fun v => rname8_any x.account v hz.2.2)
  have o2 := Lib.hid (fun v => rword8_any x.user v hz.2.1)
  have o3 := Lib.hid (fun v => rword8_any x.account v hz.2.2)
  have hd := Lib.hid (fun v (hv : Below w.heap.size w v) => rwaits_any A2 x.after.length c2 B x.after v (ha.2.1.below (hv.mono hB)) (Nat.le_trans hB hv.size) (by have := ha.2.2.2.1; omega))
  have hs := Lib.hid (fun v (hv : Below w.heap.size w v) => rshape_any x.shape A c B v (ha.1.below (hv.mono hB)) (Nat.le_trans hB hv.size) ha.2.2.1)
  have H0 : noneS x = true → x.hasTime = false := by
    unfold noneS
    intro h
    simp only [Bool.and_eq_true, Bool.not_eq_true'] at h
    exact h.2.1
  unfold shV at hs
  unfold rsubB subB
  clear ha hB hz
  obtain ⟨y0, g0⟩ : ∃ q, noneS x = q := ⟨_, rfl⟩
  obtain ⟨y1, g1⟩ : ∃ q, nameB x.name = q := ⟨_, rfl⟩
  obtain ⟨y2, g2⟩ : ∃ q, nameB x.user = q := ⟨_, rfl⟩
  obtain ⟨y3, g3⟩ : ∃ q, nameB x.account = q := ⟨_, rfl⟩
  obtain ⟨y4, g4⟩ : ∃ q, wordB x.user = q := ⟨_, rfl⟩
  obtain ⟨y5, g5⟩ : ∃ q, wordB x.account = q := ⟨_, rfl⟩
  obtain ⟨y6, g6⟩ : ∃ q, depsB x.after = q := ⟨_, rfl⟩
  obtain ⟨y7, g7⟩ : ∃ q, shE x.shape = q := ⟨_, rfl⟩
  rw [g0] at n0 H0 hy ⊢
  rw [g1] at n1 ⊢
  rw [g2] at n2 ⊢
  rw [g3] at n3 ⊢
  rw [g4] at o2 ⊢
  rw [g5] at o3 ⊢
  rw [g6] at hd ⊢
  rw [g7] at hs ⊢
  clear g0 g1 g2 g3 g4 g5 g6 g7
  obtain ⟨z1, hz1⟩ : ∃ q, inB x.prio 0 100 = q := ⟨_, rfl⟩
  rw [hz1] at q1 ⊢
  clear hz1
  rw [cmV_is] at n0 ⊢
  have f0 : (cmA x A c A2 c2)[0]? = some (.int .i64 x.kind) := rfl
  have e2 : (cmA x A c A2 c2)[2]? = some (.string x.name) := rfl
  have e3 : (cmA x A c A2 c2)[3]? = some (.string x.user) := rfl
  have e4 : (cmA x A c A2 c2)[4]? = some (.string x.account) := rfl
  have e5 : (cmA x A c A2 c2)[5]? = some (.int .i64 x.shape.kind) := rfl
  have e6 : (cmA x A c A2 c2)[6]? = some (.slice A x.shape.alts.length c) := rfl
  have e7 : (cmA x A c A2 c2)[7]? = some (.int .i64 x.shape.mn) := rfl
  have e8 : (cmA x A c A2 c2)[8]? = some (.int .i64 x.shape.mx) := rfl
  have e9 : (cmA x A c A2 c2)[9]? = some (.int .i64 x.shape.wall) := rfl
  have e10 : (cmA x A c A2 c2)[10]? = some (.int .i64 x.prio) := rfl
  have e11 : (cmA x A c A2 c2)[11]? = some (.bool x.hasPrio) := rfl
  have e12 : (cmA x A c A2 c2)[12]? = some (.int .i64 x.time) := rfl
  have e13 : (cmA x A c A2 c2)[13]? = some (.bool x.hasTime) := rfl
  have e14 : (cmA x A c A2 c2)[14]? = some (.slice A2 x.after.length c2) := rfl
  have HS := Lib.hid (cmA_size x A c A2 c2)
  obtain ⟨cs, hcs⟩ : ∃ cs, cmA x A c A2 c2 = cs := ⟨_, rfl⟩
  rw [hcs] at f0 e2 e3 e4 e5 e6 e7 e8 e9 e10 e11 e12 e13 e14 HS n0 ⊢
  obtain ⟨n, hn⟩ : ∃ n, x.shape.alts.length = n := ⟨_, rfl⟩
  obtain ⟨m, hm⟩ : ∃ n, x.after.length = n := ⟨_, rfl⟩
  rw [hn] at hs e6
  rw [hm] at hd e14
  clear hcs hn hm
  rw [hk] at f0
  clear hk
  obtain ⟨hp, hhp⟩ : ∃ b, x.hasPrio = b := ⟨_, rfl⟩
  obtain ⟨ht, hht⟩ : ∃ b, x.hasTime = b := ⟨_, rfl⟩
  rw [hhp] at e11 ⊢
  (try rw [hhp] at hy)
  rw [hht] at e13 H0
  clear hhp hht
  obtain ⟨R, HE⟩ : ∃ R : Int, Hid (R = if (y0 && (y1 && y2 && y3 && y4 && y5 && y6 && y7 == 0 && ((if hp = true then z1 else x.prio == 0) && x.time == 0))) = true then 0 else 80) := ⟨_, rfl⟩
  rw [show (if (y0 && (y1 && y2 && y3 && y4 && y5 && y6 && y7 == 0 && ((if hp = true then z1 else x.prio == 0) && x.time == 0))) = true then (0 : Int) else 80) = R from HE.out.symm]
  subst hy
  clear H0
  have HR : Hid (R = 80) := by show _ = _; rw [HE.out]; rfl
  clear HE
  cases hp <;> cases ht
  · go_enter Tryz.func12, Tryz.ntmps12
    go_wp2_with (refine wpList_load_row rfl 27 _ rfl (w.heap.size) rfl 27 _ (0, 0) _ (heap_alloc_new w _) Tryz.underlying27 rfl (info27 HS.out) ?_)
    refine (n0.out _).mono ?_; rintro e w0 ⟨rfl, B0⟩
    have s0 := lt_bx B0
    have B0 := Lib.hid B0
    have m10 : w0.cell? ⟨w.heap.size, 10, none⟩ = some (.int .i64 x.prio) := (boxed_cell B0.out 10).trans e10
    have m11 : w0.cell? ⟨w.heap.size, 11, none⟩ = some (.bool false) := (boxed_cell B0.out 11).trans e11
    have m12 : w0.cell? ⟨w.heap.size, 12, none⟩ = some (.int .i64 x.time) := (boxed_cell B0.out 12).trans e12
    have m13 : w0.cell? ⟨w.heap.size, 13, none⟩ = some (.bool false) := (boxed_cell B0.out 13).trans e13
    go_wp2
    go_ret
    exact ⟨by rw [HR.out]; rfl, bx B0.out⟩
  · go_enter Tryz.func12, Tryz.ntmps12
    go_wp2_with (refine wpList_load_row rfl 27 _ rfl (w.heap.size) rfl 27 _ (0, 0) _ (heap_alloc_new w _) Tryz.underlying27 rfl (info27 HS.out) ?_)
    refine (n0.out _).mono ?_; rintro e w0 ⟨rfl, B0⟩
    have s0 := lt_bx B0
    have B0 := Lib.hid B0
    have m10 : w0.cell? ⟨w.heap.size, 10, none⟩ = some (.int .i64 x.prio) := (boxed_cell B0.out 10).trans e10
    have m11 : w0.cell? ⟨w.heap.size, 11, none⟩ = some (.bool false) := (boxed_cell B0.out 11).trans e11
    have m12 : w0.cell? ⟨w.heap.size, 12, none⟩ = some (.int .i64 x.time) := (boxed_cell B0.out 12).trans e12
    have m13 : w0.cell? ⟨w.heap.size, 13, none⟩ = some (.bool true) := (boxed_cell B0.out 13).trans e13
    go_wp2
    go_ret
    exact ⟨by rw [HR.out]; rfl, bx B0.out⟩
  · go_enter Tryz.func12, Tryz.ntmps12
    go_wp2_with (refine wpList_load_row rfl 27 _ rfl (w.heap.size) rfl 27 _ (0, 0) _ (heap_alloc_new w _) Tryz.underlying27 rfl (info27 HS.out) ?_)
    refine (n0.out _).mono ?_; rintro e w0 ⟨rfl, B0⟩
    have s0 := lt_bx B0
    have B0 := Lib.hid B0
    have m10 : w0.cell? ⟨w.heap.size, 10, none⟩ = some (.int .i64 x.prio) := (boxed_cell B0.out 10).trans e10
    have m11 : w0.cell? ⟨w.heap.size, 11, none⟩ = some (.bool true) := (boxed_cell B0.out 11).trans e11
    have m12 : w0.cell? ⟨w.heap.size, 12, none⟩ = some (.int .i64 x.time) := (boxed_cell B0.out 12).trans e12
    have m13 : w0.cell? ⟨w.heap.size, 13, none⟩ = some (.bool false) := (boxed_cell B0.out 13).trans e13
    go_wp2
    go_ret
    exact ⟨by rw [HR.out]; rfl, bx B0.out⟩
  · go_enter Tryz.func12, Tryz.ntmps12
    go_wp2_with (refine wpList_load_row rfl 27 _ rfl (w.heap.size) rfl 27 _ (0, 0) _ (heap_alloc_new w _) Tryz.underlying27 rfl (info27 HS.out) ?_)
    refine (n0.out _).mono ?_; rintro e w0 ⟨rfl, B0⟩
    have s0 := lt_bx B0
    have B0 := Lib.hid B0
    have m10 : w0.cell? ⟨w.heap.size, 10, none⟩ = some (.int .i64 x.prio) := (boxed_cell B0.out 10).trans e10
    have m11 : w0.cell? ⟨w.heap.size, 11, none⟩ = some (.bool true) := (boxed_cell B0.out 11).trans e11
    have m12 : w0.cell? ⟨w.heap.size, 12, none⟩ = some (.int .i64 x.time) := (boxed_cell B0.out 12).trans e12
    have m13 : w0.cell? ⟨w.heap.size, 13, none⟩ = some (.bool true) := (boxed_cell B0.out 13).trans e13
    go_wp2
    go_ret
    exact ⟨by rw [HR.out]; rfl, bx B0.out⟩
set_option maxHeartbeats 16000000 in
theorem rcheck_submit_f (x : Cm) (A A2 : Option Addr) (c c2 B : Nat) (w : World) (hy : noneS x = true ∧ x.hasPrio = false) (hk : x.kind = 1) (ha : CmAt w B x A c A2 c2) (hB : B ≤ w.heap.size) (hz : CmSz x) :
    Calls Tryz.prog 12 #[cmV x A c A2 c2] w fun e w' => e = .returned (.int .i64 (if rsubB x = true then 0 else 80)) ∧ Below w.heap.size w w' := by
  have n0 := Lib.hid (fun v => rnone_submit x A A2 c c2 v)
  have q1 := Lib.hid (fun v => rin8_any x.prio 0 100 v)
  have n1 := Lib.hid (fun v => rname8_any x.name v hz.1)
  have n2 := Lib.hid (fun v => rname8_any x.user v hz.2.1)
  have n3 := Lib.hid (fun v => rname8_any x.account v hz.2.2)
  have o2 := Lib.hid (fun v => rword8_any x.user v hz.2.1)
  have o3 := Lib.hid (fun v => rword8_any x.account v hz.2.2)
  have hd := Lib.hid (fun v (hv : Below w.heap.size w v) => rwaits_any A2 x.after.length c2 B x.after v (ha.2.1.below (hv.mono hB)) (Nat.le_trans hB hv.size) (by have := ha.2.2.2.1; omega))
  have hs := Lib.hid (fun v (hv : Below w.heap.size w v) => rshape_any x.shape A c B v (ha.1.below (hv.mono hB)) (Nat.le_trans hB hv.size) ha.2.2.1)
  have H0 : noneS x = true → x.hasTime = false := by
    unfold noneS
    intro h
    simp only [Bool.and_eq_true, Bool.not_eq_true'] at h
    exact h.2.1
  unfold shV at hs
  unfold rsubB subB
  clear ha hB hz
  obtain ⟨y0, g0⟩ : ∃ q, noneS x = q := ⟨_, rfl⟩
  obtain ⟨y1, g1⟩ : ∃ q, nameB x.name = q := ⟨_, rfl⟩
  obtain ⟨y2, g2⟩ : ∃ q, nameB x.user = q := ⟨_, rfl⟩
  obtain ⟨y3, g3⟩ : ∃ q, nameB x.account = q := ⟨_, rfl⟩
  obtain ⟨y4, g4⟩ : ∃ q, wordB x.user = q := ⟨_, rfl⟩
  obtain ⟨y5, g5⟩ : ∃ q, wordB x.account = q := ⟨_, rfl⟩
  obtain ⟨y6, g6⟩ : ∃ q, depsB x.after = q := ⟨_, rfl⟩
  obtain ⟨y7, g7⟩ : ∃ q, shE x.shape = q := ⟨_, rfl⟩
  rw [g0] at n0 H0 hy ⊢
  rw [g1] at n1 ⊢
  rw [g2] at n2 ⊢
  rw [g3] at n3 ⊢
  rw [g4] at o2 ⊢
  rw [g5] at o3 ⊢
  rw [g6] at hd ⊢
  rw [g7] at hs ⊢
  clear g0 g1 g2 g3 g4 g5 g6 g7
  obtain ⟨z1, hz1⟩ : ∃ q, inB x.prio 0 100 = q := ⟨_, rfl⟩
  rw [hz1] at q1 ⊢
  clear hz1
  rw [cmV_is] at n0 ⊢
  have f0 : (cmA x A c A2 c2)[0]? = some (.int .i64 x.kind) := rfl
  have e2 : (cmA x A c A2 c2)[2]? = some (.string x.name) := rfl
  have e3 : (cmA x A c A2 c2)[3]? = some (.string x.user) := rfl
  have e4 : (cmA x A c A2 c2)[4]? = some (.string x.account) := rfl
  have e5 : (cmA x A c A2 c2)[5]? = some (.int .i64 x.shape.kind) := rfl
  have e6 : (cmA x A c A2 c2)[6]? = some (.slice A x.shape.alts.length c) := rfl
  have e7 : (cmA x A c A2 c2)[7]? = some (.int .i64 x.shape.mn) := rfl
  have e8 : (cmA x A c A2 c2)[8]? = some (.int .i64 x.shape.mx) := rfl
  have e9 : (cmA x A c A2 c2)[9]? = some (.int .i64 x.shape.wall) := rfl
  have e10 : (cmA x A c A2 c2)[10]? = some (.int .i64 x.prio) := rfl
  have e11 : (cmA x A c A2 c2)[11]? = some (.bool x.hasPrio) := rfl
  have e12 : (cmA x A c A2 c2)[12]? = some (.int .i64 x.time) := rfl
  have e13 : (cmA x A c A2 c2)[13]? = some (.bool x.hasTime) := rfl
  have e14 : (cmA x A c A2 c2)[14]? = some (.slice A2 x.after.length c2) := rfl
  have HS := Lib.hid (cmA_size x A c A2 c2)
  obtain ⟨cs, hcs⟩ : ∃ cs, cmA x A c A2 c2 = cs := ⟨_, rfl⟩
  rw [hcs] at f0 e2 e3 e4 e5 e6 e7 e8 e9 e10 e11 e12 e13 e14 HS n0 ⊢
  obtain ⟨n, hn⟩ : ∃ n, x.shape.alts.length = n := ⟨_, rfl⟩
  obtain ⟨m, hm⟩ : ∃ n, x.after.length = n := ⟨_, rfl⟩
  rw [hn] at hs e6
  rw [hm] at hd e14
  clear hcs hn hm
  rw [hk] at f0
  clear hk
  obtain ⟨hp, hhp⟩ : ∃ b, x.hasPrio = b := ⟨_, rfl⟩
  obtain ⟨ht, hht⟩ : ∃ b, x.hasTime = b := ⟨_, rfl⟩
  rw [hhp] at e11 ⊢
  (try rw [hhp] at hy)
  rw [hht] at e13 H0
  clear hhp hht
  obtain ⟨R, HE⟩ : ∃ R : Int, Hid (R = if (y0 && (y1 && y2 && y3 && y4 && y5 && y6 && y7 == 0 && ((if hp = true then z1 else x.prio == 0) && x.time == 0))) = true then 0 else 80) := ⟨_, rfl⟩
  rw [show (if (y0 && (y1 && y2 && y3 && y4 && y5 && y6 && y7 == 0 && ((if hp = true then z1 else x.prio == 0) && x.time == 0))) = true then (0 : Int) else 80) = R from HE.out.symm]
  obtain ⟨hy, hy2⟩ := hy
  subst hy
  subst hy2
  have H1 := H0 rfl
  subst H1
  clear H0
  go_enter Tryz.func12, Tryz.ntmps12
  go_wp2_with (refine wpList_load_row rfl 27 _ rfl (w.heap.size) rfl 27 _ (0, 0) _ (heap_alloc_new w _) Tryz.underlying27 rfl (info27 HS.out) ?_)
  refine (n0.out _).mono ?_; rintro e w0 ⟨rfl, hb⟩
  have s0 := lt_bx hb
  have B0 := Lib.hid hb
  clear hb
  have m2 : w0.cell? ⟨w.heap.size, 2, none⟩ = some (.string x.name) := (boxed_cell B0.out 2).trans e2
  have m10 : w0.cell? ⟨w.heap.size, 10, none⟩ = some (.int .i64 x.prio) := (boxed_cell B0.out 10).trans e10
  have m11 : w0.cell? ⟨w.heap.size, 11, none⟩ = some (.bool false) := (boxed_cell B0.out 11).trans e11
  have m12 : w0.cell? ⟨w.heap.size, 12, none⟩ = some (.int .i64 x.time) := (boxed_cell B0.out 12).trans e12
  have m13 : w0.cell? ⟨w.heap.size, 13, none⟩ = some (.bool false) := (boxed_cell B0.out 13).trans e13
  go_wp2_with (fail)
  refine (n1.out _).mono ?_; rintro e w1 ⟨rfl, hb⟩
  have B1 := Lib.hid (B0.out.trans (hb.mono B0.out.size))
  clear hb
  clear s0 B0 m2 m10 m11 m12 m13
  have s1 := lt_bx B1.out
  have m3 : w1.cell? ⟨w.heap.size, 3, none⟩ = some (.string x.user) := (boxed_cell B1.out 3).trans e3
  have m10 : w1.cell? ⟨w.heap.size, 10, none⟩ = some (.int .i64 x.prio) := (boxed_cell B1.out 10).trans e10
  have m11 : w1.cell? ⟨w.heap.size, 11, none⟩ = some (.bool false) := (boxed_cell B1.out 11).trans e11
  have m12 : w1.cell? ⟨w.heap.size, 12, none⟩ = some (.int .i64 x.time) := (boxed_cell B1.out 12).trans e12
  have m13 : w1.cell? ⟨w.heap.size, 13, none⟩ = some (.bool false) := (boxed_cell B1.out 13).trans e13
  cases y1
  · skip
    have HR : Hid (R = 80) := by show _ = _; rw [HE.out]; rfl
    clear HE
    go_wp2
    go_ret
    exact ⟨by rw [HR.out]; rfl, bx B1.out⟩
  go_wp2_with (fail)
  refine (n2.out _).mono ?_; rintro e w2 ⟨rfl, hb⟩
  have B2 := Lib.hid (B1.out.trans (hb.mono B1.out.size))
  clear hb
  clear s1 B1 m3 m10 m11 m12 m13
  have s2 := lt_bx B2.out
  have m4 : w2.cell? ⟨w.heap.size, 4, none⟩ = some (.string x.account) := (boxed_cell B2.out 4).trans e4
  have m10 : w2.cell? ⟨w.heap.size, 10, none⟩ = some (.int .i64 x.prio) := (boxed_cell B2.out 10).trans e10
  have m11 : w2.cell? ⟨w.heap.size, 11, none⟩ = some (.bool false) := (boxed_cell B2.out 11).trans e11
  have m12 : w2.cell? ⟨w.heap.size, 12, none⟩ = some (.int .i64 x.time) := (boxed_cell B2.out 12).trans e12
  have m13 : w2.cell? ⟨w.heap.size, 13, none⟩ = some (.bool false) := (boxed_cell B2.out 13).trans e13
  cases y2
  · skip
    have HR : Hid (R = 80) := by show _ = _; rw [HE.out]; rfl
    clear HE
    go_wp2
    go_ret
    exact ⟨by rw [HR.out]; rfl, bx B2.out⟩
  go_wp2_with (fail)
  refine (n3.out _).mono ?_; rintro e w3 ⟨rfl, hb⟩
  have B3 := Lib.hid (B2.out.trans (hb.mono B2.out.size))
  clear hb
  clear s2 B2 m4 m10 m11 m12 m13
  have s3 := lt_bx B3.out
  have m3 : w3.cell? ⟨w.heap.size, 3, none⟩ = some (.string x.user) := (boxed_cell B3.out 3).trans e3
  have m10 : w3.cell? ⟨w.heap.size, 10, none⟩ = some (.int .i64 x.prio) := (boxed_cell B3.out 10).trans e10
  have m11 : w3.cell? ⟨w.heap.size, 11, none⟩ = some (.bool false) := (boxed_cell B3.out 11).trans e11
  have m12 : w3.cell? ⟨w.heap.size, 12, none⟩ = some (.int .i64 x.time) := (boxed_cell B3.out 12).trans e12
  have m13 : w3.cell? ⟨w.heap.size, 13, none⟩ = some (.bool false) := (boxed_cell B3.out 13).trans e13
  cases y3
  · skip
    have HR : Hid (R = 80) := by show _ = _; rw [HE.out]; rfl
    clear HE
    go_wp2
    go_ret
    exact ⟨by rw [HR.out]; rfl, bx B3.out⟩
  go_wp2_with (fail)
  refine (o2.out _).mono ?_; rintro e w4 ⟨rfl, hb⟩
  have B4 := Lib.hid (B3.out.trans (hb.mono B3.out.size))
  clear hb
  clear s3 B3 m3 m10 m11 m12 m13
  have s4 := lt_bx B4.out
  have m4 : w4.cell? ⟨w.heap.size, 4, none⟩ = some (.string x.account) := (boxed_cell B4.out 4).trans e4
  have m10 : w4.cell? ⟨w.heap.size, 10, none⟩ = some (.int .i64 x.prio) := (boxed_cell B4.out 10).trans e10
  have m11 : w4.cell? ⟨w.heap.size, 11, none⟩ = some (.bool false) := (boxed_cell B4.out 11).trans e11
  have m12 : w4.cell? ⟨w.heap.size, 12, none⟩ = some (.int .i64 x.time) := (boxed_cell B4.out 12).trans e12
  have m13 : w4.cell? ⟨w.heap.size, 13, none⟩ = some (.bool false) := (boxed_cell B4.out 13).trans e13
  cases y4
  · skip
    have HR : Hid (R = 80) := by show _ = _; rw [HE.out]; rfl
    clear HE
    go_wp2
    go_ret
    exact ⟨by rw [HR.out]; rfl, bx B4.out⟩
  go_wp2_with (fail)
  refine (o3.out _).mono ?_; rintro e w5 ⟨rfl, hb⟩
  have B5 := Lib.hid (B4.out.trans (hb.mono B4.out.size))
  clear hb
  clear s4 B4 m4 m10 m11 m12 m13
  have s5 := lt_bx B5.out
  have m14 : w5.cell? ⟨w.heap.size, 14, none⟩ = some (.slice A2 m c2) := (boxed_cell B5.out 14).trans e14
  have m10 : w5.cell? ⟨w.heap.size, 10, none⟩ = some (.int .i64 x.prio) := (boxed_cell B5.out 10).trans e10
  have m11 : w5.cell? ⟨w.heap.size, 11, none⟩ = some (.bool false) := (boxed_cell B5.out 11).trans e11
  have m12 : w5.cell? ⟨w.heap.size, 12, none⟩ = some (.int .i64 x.time) := (boxed_cell B5.out 12).trans e12
  have m13 : w5.cell? ⟨w.heap.size, 13, none⟩ = some (.bool false) := (boxed_cell B5.out 13).trans e13
  cases y5
  · skip
    have HR : Hid (R = 80) := by show _ = _; rw [HE.out]; rfl
    clear HE
    go_wp2
    go_ret
    exact ⟨by rw [HR.out]; rfl, bx B5.out⟩
  go_wp2_with (fail)
  refine (hd.out _ (bx B5.out)).mono ?_; rintro e w6 ⟨rfl, hb⟩
  have B6 := Lib.hid (B5.out.trans (hb.mono B5.out.size))
  clear hb
  clear s5 B5 m14 m10 m11 m12 m13
  have s6 := lt_bx B6.out
  have m5 : w6.cell? ⟨w.heap.size, 5, none⟩ = some (.int .i64 x.shape.kind) := (boxed_cell B6.out 5).trans e5
  have m6 : w6.cell? ⟨w.heap.size, 6, none⟩ = some (.slice A n c) := (boxed_cell B6.out 6).trans e6
  have m7 : w6.cell? ⟨w.heap.size, 7, none⟩ = some (.int .i64 x.shape.mn) := (boxed_cell B6.out 7).trans e7
  have m8 : w6.cell? ⟨w.heap.size, 8, none⟩ = some (.int .i64 x.shape.mx) := (boxed_cell B6.out 8).trans e8
  have m9 : w6.cell? ⟨w.heap.size, 9, none⟩ = some (.int .i64 x.shape.wall) := (boxed_cell B6.out 9).trans e9
  have m10 : w6.cell? ⟨w.heap.size, 10, none⟩ = some (.int .i64 x.prio) := (boxed_cell B6.out 10).trans e10
  have m11 : w6.cell? ⟨w.heap.size, 11, none⟩ = some (.bool false) := (boxed_cell B6.out 11).trans e11
  have m12 : w6.cell? ⟨w.heap.size, 12, none⟩ = some (.int .i64 x.time) := (boxed_cell B6.out 12).trans e12
  have m13 : w6.cell? ⟨w.heap.size, 13, none⟩ = some (.bool false) := (boxed_cell B6.out 13).trans e13
  cases y6
  · skip
    have HR : Hid (R = 80) := by show _ = _; rw [HE.out]; rfl
    clear HE
    go_wp2
    go_ret
    exact ⟨by rw [HR.out]; rfl, bx B6.out⟩
  go_wp2_with (fail)
  refine (hs.out _ (bx B6.out)).mono ?_; rintro e w7 ⟨rfl, hb⟩
  have B7 := Lib.hid (B6.out.trans (hb.mono B6.out.size))
  clear hb
  clear s6 B6 m5 m6 m7 m8 m9 m10 m11 m12 m13
  have s7 := lt_bx B7.out
  have m10 : w7.cell? ⟨w.heap.size, 10, none⟩ = some (.int .i64 x.prio) := (boxed_cell B7.out 10).trans e10
  have m11 : w7.cell? ⟨w.heap.size, 11, none⟩ = some (.bool false) := (boxed_cell B7.out 11).trans e11
  have m12 : w7.cell? ⟨w.heap.size, 12, none⟩ = some (.int .i64 x.time) := (boxed_cell B7.out 12).trans e12
  have m13 : w7.cell? ⟨w.heap.size, 13, none⟩ = some (.bool false) := (boxed_cell B7.out 13).trans e13
  cases t7 : y7 == 0
  · have t7' := bne_of8 t7
    have HR : Hid (R = 80) := by show _ = _; rw [HE.out, t7]; rfl
    clear HE
    go_wp2
    go_ret
    exact ⟨by rw [HR.out]; rfl, bx B7.out⟩
  cases tp : x.prio == 0
  case false =>
    have HR : Hid (R = 80) := by show _ = _; rw [HE.out, t7, tp]; rfl
    clear HE
    go_wp2
    go_ret
    exact ⟨by rw [HR.out]; rfl, bx B7.out⟩
  cases tt : x.time == 0
  case false =>
    have HR : Hid (R = 80) := by show _ = _; rw [HE.out, t7, tp, tt]; rfl
    clear HE
    go_wp2
    go_ret
    exact ⟨by rw [HR.out]; rfl, bx B7.out⟩
  have HR : Hid (R = 0) := by show _ = _; rw [HE.out, t7, tp, tt]; rfl
  clear HE
  go_wp2
  go_ret
  exact ⟨by rw [HR.out]; rfl, bx B7.out⟩
set_option maxHeartbeats 16000000 in
theorem rcheck_submit_t (x : Cm) (A A2 : Option Addr) (c c2 B : Nat) (w : World) (hy : noneS x = true ∧ x.hasPrio = true) (hk : x.kind = 1) (ha : CmAt w B x A c A2 c2) (hB : B ≤ w.heap.size) (hz : CmSz x) :
    Calls Tryz.prog 12 #[cmV x A c A2 c2] w fun e w' => e = .returned (.int .i64 (if rsubB x = true then 0 else 80)) ∧ Below w.heap.size w w' := by
  have n0 := Lib.hid (fun v => rnone_submit x A A2 c c2 v)
  have q1 := Lib.hid (fun v => rin8_any x.prio 0 100 v)
  have n1 := Lib.hid (fun v => rname8_any x.name v hz.1)
  have n2 := Lib.hid (fun v => rname8_any x.user v hz.2.1)
  have n3 := Lib.hid (fun v => rname8_any x.account v hz.2.2)
  have o2 := Lib.hid (fun v => rword8_any x.user v hz.2.1)
  have o3 := Lib.hid (fun v => rword8_any x.account v hz.2.2)
  have hd := Lib.hid (fun v (hv : Below w.heap.size w v) => rwaits_any A2 x.after.length c2 B x.after v (ha.2.1.below (hv.mono hB)) (Nat.le_trans hB hv.size) (by have := ha.2.2.2.1; omega))
  have hs := Lib.hid (fun v (hv : Below w.heap.size w v) => rshape_any x.shape A c B v (ha.1.below (hv.mono hB)) (Nat.le_trans hB hv.size) ha.2.2.1)
  have H0 : noneS x = true → x.hasTime = false := by
    unfold noneS
    intro h
    simp only [Bool.and_eq_true, Bool.not_eq_true'] at h
    exact h.2.1
  unfold shV at hs
  unfold rsubB subB
  clear ha hB hz
  obtain ⟨y0, g0⟩ : ∃ q, noneS x = q := ⟨_, rfl⟩
  obtain ⟨y1, g1⟩ : ∃ q, nameB x.name = q := ⟨_, rfl⟩
  obtain ⟨y2, g2⟩ : ∃ q, nameB x.user = q := ⟨_, rfl⟩
  obtain ⟨y3, g3⟩ : ∃ q, nameB x.account = q := ⟨_, rfl⟩
  obtain ⟨y4, g4⟩ : ∃ q, wordB x.user = q := ⟨_, rfl⟩
  obtain ⟨y5, g5⟩ : ∃ q, wordB x.account = q := ⟨_, rfl⟩
  obtain ⟨y6, g6⟩ : ∃ q, depsB x.after = q := ⟨_, rfl⟩
  obtain ⟨y7, g7⟩ : ∃ q, shE x.shape = q := ⟨_, rfl⟩
  rw [g0] at n0 H0 hy ⊢
  rw [g1] at n1 ⊢
  rw [g2] at n2 ⊢
  rw [g3] at n3 ⊢
  rw [g4] at o2 ⊢
  rw [g5] at o3 ⊢
  rw [g6] at hd ⊢
  rw [g7] at hs ⊢
  clear g0 g1 g2 g3 g4 g5 g6 g7
  obtain ⟨z1, hz1⟩ : ∃ q, inB x.prio 0 100 = q := ⟨_, rfl⟩
  rw [hz1] at q1 ⊢
  clear hz1
  rw [cmV_is] at n0 ⊢
  have f0 : (cmA x A c A2 c2)[0]? = some (.int .i64 x.kind) := rfl
  have e2 : (cmA x A c A2 c2)[2]? = some (.string x.name) := rfl
  have e3 : (cmA x A c A2 c2)[3]? = some (.string x.user) := rfl
  have e4 : (cmA x A c A2 c2)[4]? = some (.string x.account) := rfl
  have e5 : (cmA x A c A2 c2)[5]? = some (.int .i64 x.shape.kind) := rfl
  have e6 : (cmA x A c A2 c2)[6]? = some (.slice A x.shape.alts.length c) := rfl
  have e7 : (cmA x A c A2 c2)[7]? = some (.int .i64 x.shape.mn) := rfl
  have e8 : (cmA x A c A2 c2)[8]? = some (.int .i64 x.shape.mx) := rfl
  have e9 : (cmA x A c A2 c2)[9]? = some (.int .i64 x.shape.wall) := rfl
  have e10 : (cmA x A c A2 c2)[10]? = some (.int .i64 x.prio) := rfl
  have e11 : (cmA x A c A2 c2)[11]? = some (.bool x.hasPrio) := rfl
  have e12 : (cmA x A c A2 c2)[12]? = some (.int .i64 x.time) := rfl
  have e13 : (cmA x A c A2 c2)[13]? = some (.bool x.hasTime) := rfl
  have e14 : (cmA x A c A2 c2)[14]? = some (.slice A2 x.after.length c2) := rfl
  have HS := Lib.hid (cmA_size x A c A2 c2)
  obtain ⟨cs, hcs⟩ : ∃ cs, cmA x A c A2 c2 = cs := ⟨_, rfl⟩
  rw [hcs] at f0 e2 e3 e4 e5 e6 e7 e8 e9 e10 e11 e12 e13 e14 HS n0 ⊢
  obtain ⟨n, hn⟩ : ∃ n, x.shape.alts.length = n := ⟨_, rfl⟩
  obtain ⟨m, hm⟩ : ∃ n, x.after.length = n := ⟨_, rfl⟩
  rw [hn] at hs e6
  rw [hm] at hd e14
  clear hcs hn hm
  rw [hk] at f0
  clear hk
  obtain ⟨hp, hhp⟩ : ∃ b, x.hasPrio = b := ⟨_, rfl⟩
  obtain ⟨ht, hht⟩ : ∃ b, x.hasTime = b := ⟨_, rfl⟩
  rw [hhp] at e11 ⊢
  (try rw [hhp] at hy)
  rw [hht] at e13 H0
  clear hhp hht
  obtain ⟨R, HE⟩ : ∃ R : Int, Hid (R = if (y0 && (y1 && y2 && y3 && y4 && y5 && y6 && y7 == 0 && ((if hp = true then z1 else x.prio == 0) && x.time == 0))) = true then 0 else 80) := ⟨_, rfl⟩
  rw [show (if (y0 && (y1 && y2 && y3 && y4 && y5 && y6 && y7 == 0 && ((if hp = true then z1 else x.prio == 0) && x.time == 0))) = true then (0 : Int) else 80) = R from HE.out.symm]
  obtain ⟨hy, hy2⟩ := hy
  subst hy
  subst hy2
  have H1 := H0 rfl
  subst H1
  clear H0
  go_enter Tryz.func12, Tryz.ntmps12
  go_wp2_with (refine wpList_load_row rfl 27 _ rfl (w.heap.size) rfl 27 _ (0, 0) _ (heap_alloc_new w _) Tryz.underlying27 rfl (info27 HS.out) ?_)
  refine (n0.out _).mono ?_; rintro e w0 ⟨rfl, hb⟩
  have s0 := lt_bx hb
  have B0 := Lib.hid hb
  clear hb
  have m2 : w0.cell? ⟨w.heap.size, 2, none⟩ = some (.string x.name) := (boxed_cell B0.out 2).trans e2
  have m10 : w0.cell? ⟨w.heap.size, 10, none⟩ = some (.int .i64 x.prio) := (boxed_cell B0.out 10).trans e10
  have m11 : w0.cell? ⟨w.heap.size, 11, none⟩ = some (.bool true) := (boxed_cell B0.out 11).trans e11
  have m12 : w0.cell? ⟨w.heap.size, 12, none⟩ = some (.int .i64 x.time) := (boxed_cell B0.out 12).trans e12
  have m13 : w0.cell? ⟨w.heap.size, 13, none⟩ = some (.bool false) := (boxed_cell B0.out 13).trans e13
  go_wp2_with (fail)
  refine (n1.out _).mono ?_; rintro e w1 ⟨rfl, hb⟩
  have B1 := Lib.hid (B0.out.trans (hb.mono B0.out.size))
  clear hb
  clear s0 B0 m2 m10 m11 m12 m13
  have s1 := lt_bx B1.out
  have m3 : w1.cell? ⟨w.heap.size, 3, none⟩ = some (.string x.user) := (boxed_cell B1.out 3).trans e3
  have m10 : w1.cell? ⟨w.heap.size, 10, none⟩ = some (.int .i64 x.prio) := (boxed_cell B1.out 10).trans e10
  have m11 : w1.cell? ⟨w.heap.size, 11, none⟩ = some (.bool true) := (boxed_cell B1.out 11).trans e11
  have m12 : w1.cell? ⟨w.heap.size, 12, none⟩ = some (.int .i64 x.time) := (boxed_cell B1.out 12).trans e12
  have m13 : w1.cell? ⟨w.heap.size, 13, none⟩ = some (.bool false) := (boxed_cell B1.out 13).trans e13
  cases y1
  · skip
    have HR : Hid (R = 80) := by show _ = _; rw [HE.out]; rfl
    clear HE
    go_wp2
    go_ret
    exact ⟨by rw [HR.out]; rfl, bx B1.out⟩
  go_wp2_with (fail)
  refine (n2.out _).mono ?_; rintro e w2 ⟨rfl, hb⟩
  have B2 := Lib.hid (B1.out.trans (hb.mono B1.out.size))
  clear hb
  clear s1 B1 m3 m10 m11 m12 m13
  have s2 := lt_bx B2.out
  have m4 : w2.cell? ⟨w.heap.size, 4, none⟩ = some (.string x.account) := (boxed_cell B2.out 4).trans e4
  have m10 : w2.cell? ⟨w.heap.size, 10, none⟩ = some (.int .i64 x.prio) := (boxed_cell B2.out 10).trans e10
  have m11 : w2.cell? ⟨w.heap.size, 11, none⟩ = some (.bool true) := (boxed_cell B2.out 11).trans e11
  have m12 : w2.cell? ⟨w.heap.size, 12, none⟩ = some (.int .i64 x.time) := (boxed_cell B2.out 12).trans e12
  have m13 : w2.cell? ⟨w.heap.size, 13, none⟩ = some (.bool false) := (boxed_cell B2.out 13).trans e13
  cases y2
  · skip
    have HR : Hid (R = 80) := by show _ = _; rw [HE.out]; rfl
    clear HE
    go_wp2
    go_ret
    exact ⟨by rw [HR.out]; rfl, bx B2.out⟩
  go_wp2_with (fail)
  refine (n3.out _).mono ?_; rintro e w3 ⟨rfl, hb⟩
  have B3 := Lib.hid (B2.out.trans (hb.mono B2.out.size))
  clear hb
  clear s2 B2 m4 m10 m11 m12 m13
  have s3 := lt_bx B3.out
  have m3 : w3.cell? ⟨w.heap.size, 3, none⟩ = some (.string x.user) := (boxed_cell B3.out 3).trans e3
  have m10 : w3.cell? ⟨w.heap.size, 10, none⟩ = some (.int .i64 x.prio) := (boxed_cell B3.out 10).trans e10
  have m11 : w3.cell? ⟨w.heap.size, 11, none⟩ = some (.bool true) := (boxed_cell B3.out 11).trans e11
  have m12 : w3.cell? ⟨w.heap.size, 12, none⟩ = some (.int .i64 x.time) := (boxed_cell B3.out 12).trans e12
  have m13 : w3.cell? ⟨w.heap.size, 13, none⟩ = some (.bool false) := (boxed_cell B3.out 13).trans e13
  cases y3
  · skip
    have HR : Hid (R = 80) := by show _ = _; rw [HE.out]; rfl
    clear HE
    go_wp2
    go_ret
    exact ⟨by rw [HR.out]; rfl, bx B3.out⟩
  go_wp2_with (fail)
  refine (o2.out _).mono ?_; rintro e w4 ⟨rfl, hb⟩
  have B4 := Lib.hid (B3.out.trans (hb.mono B3.out.size))
  clear hb
  clear s3 B3 m3 m10 m11 m12 m13
  have s4 := lt_bx B4.out
  have m4 : w4.cell? ⟨w.heap.size, 4, none⟩ = some (.string x.account) := (boxed_cell B4.out 4).trans e4
  have m10 : w4.cell? ⟨w.heap.size, 10, none⟩ = some (.int .i64 x.prio) := (boxed_cell B4.out 10).trans e10
  have m11 : w4.cell? ⟨w.heap.size, 11, none⟩ = some (.bool true) := (boxed_cell B4.out 11).trans e11
  have m12 : w4.cell? ⟨w.heap.size, 12, none⟩ = some (.int .i64 x.time) := (boxed_cell B4.out 12).trans e12
  have m13 : w4.cell? ⟨w.heap.size, 13, none⟩ = some (.bool false) := (boxed_cell B4.out 13).trans e13
  cases y4
  · skip
    have HR : Hid (R = 80) := by show _ = _; rw [HE.out]; rfl
    clear HE
    go_wp2
    go_ret
    exact ⟨by rw [HR.out]; rfl, bx B4.out⟩
  go_wp2_with (fail)
  refine (o3.out _).mono ?_; rintro e w5 ⟨rfl, hb⟩
  have B5 := Lib.hid (B4.out.trans (hb.mono B4.out.size))
  clear hb
  clear s4 B4 m4 m10 m11 m12 m13
  have s5 := lt_bx B5.out
  have m14 : w5.cell? ⟨w.heap.size, 14, none⟩ = some (.slice A2 m c2) := (boxed_cell B5.out 14).trans e14
  have m10 : w5.cell? ⟨w.heap.size, 10, none⟩ = some (.int .i64 x.prio) := (boxed_cell B5.out 10).trans e10
  have m11 : w5.cell? ⟨w.heap.size, 11, none⟩ = some (.bool true) := (boxed_cell B5.out 11).trans e11
  have m12 : w5.cell? ⟨w.heap.size, 12, none⟩ = some (.int .i64 x.time) := (boxed_cell B5.out 12).trans e12
  have m13 : w5.cell? ⟨w.heap.size, 13, none⟩ = some (.bool false) := (boxed_cell B5.out 13).trans e13
  cases y5
  · skip
    have HR : Hid (R = 80) := by show _ = _; rw [HE.out]; rfl
    clear HE
    go_wp2
    go_ret
    exact ⟨by rw [HR.out]; rfl, bx B5.out⟩
  go_wp2_with (fail)
  refine (hd.out _ (bx B5.out)).mono ?_; rintro e w6 ⟨rfl, hb⟩
  have B6 := Lib.hid (B5.out.trans (hb.mono B5.out.size))
  clear hb
  clear s5 B5 m14 m10 m11 m12 m13
  have s6 := lt_bx B6.out
  have m5 : w6.cell? ⟨w.heap.size, 5, none⟩ = some (.int .i64 x.shape.kind) := (boxed_cell B6.out 5).trans e5
  have m6 : w6.cell? ⟨w.heap.size, 6, none⟩ = some (.slice A n c) := (boxed_cell B6.out 6).trans e6
  have m7 : w6.cell? ⟨w.heap.size, 7, none⟩ = some (.int .i64 x.shape.mn) := (boxed_cell B6.out 7).trans e7
  have m8 : w6.cell? ⟨w.heap.size, 8, none⟩ = some (.int .i64 x.shape.mx) := (boxed_cell B6.out 8).trans e8
  have m9 : w6.cell? ⟨w.heap.size, 9, none⟩ = some (.int .i64 x.shape.wall) := (boxed_cell B6.out 9).trans e9
  have m10 : w6.cell? ⟨w.heap.size, 10, none⟩ = some (.int .i64 x.prio) := (boxed_cell B6.out 10).trans e10
  have m11 : w6.cell? ⟨w.heap.size, 11, none⟩ = some (.bool true) := (boxed_cell B6.out 11).trans e11
  have m12 : w6.cell? ⟨w.heap.size, 12, none⟩ = some (.int .i64 x.time) := (boxed_cell B6.out 12).trans e12
  have m13 : w6.cell? ⟨w.heap.size, 13, none⟩ = some (.bool false) := (boxed_cell B6.out 13).trans e13
  cases y6
  · skip
    have HR : Hid (R = 80) := by show _ = _; rw [HE.out]; rfl
    clear HE
    go_wp2
    go_ret
    exact ⟨by rw [HR.out]; rfl, bx B6.out⟩
  go_wp2_with (fail)
  refine (hs.out _ (bx B6.out)).mono ?_; rintro e w7 ⟨rfl, hb⟩
  have B7 := Lib.hid (B6.out.trans (hb.mono B6.out.size))
  clear hb
  clear s6 B6 m5 m6 m7 m8 m9 m10 m11 m12 m13
  have s7 := lt_bx B7.out
  have m10 : w7.cell? ⟨w.heap.size, 10, none⟩ = some (.int .i64 x.prio) := (boxed_cell B7.out 10).trans e10
  have m11 : w7.cell? ⟨w.heap.size, 11, none⟩ = some (.bool true) := (boxed_cell B7.out 11).trans e11
  have m12 : w7.cell? ⟨w.heap.size, 12, none⟩ = some (.int .i64 x.time) := (boxed_cell B7.out 12).trans e12
  have m13 : w7.cell? ⟨w.heap.size, 13, none⟩ = some (.bool false) := (boxed_cell B7.out 13).trans e13
  cases t7 : y7 == 0
  · have t7' := bne_of8 t7
    have HR : Hid (R = 80) := by show _ = _; rw [HE.out, t7]; rfl
    clear HE
    go_wp2
    go_ret
    exact ⟨by rw [HR.out]; rfl, bx B7.out⟩
  go_wp2_with (fail)
  refine (q1.out _).mono ?_; rintro e w9 ⟨rfl, rfl⟩
  cases z1
  case false =>
    have HR : Hid (R = 80) := by show _ = _; rw [HE.out, t7]; rfl
    clear HE
    go_wp2
    go_ret
    exact ⟨by rw [HR.out]; rfl, bx B7.out⟩
  cases tt : x.time == 0
  case false =>
    have HR : Hid (R = 80) := by show _ = _; rw [HE.out, t7, tt]; rfl
    clear HE
    go_wp2
    go_ret
    exact ⟨by rw [HR.out]; rfl, bx B7.out⟩
  have HR : Hid (R = 0) := by show _ = _; rw [HE.out, t7, tt]; rfl
  clear HE
  go_wp2
  go_ret
  exact ⟨by rw [HR.out]; rfl, bx B7.out⟩
theorem rcheck_submit (x : Cm) (A A2 : Option Addr) (c c2 B : Nat) (w : World) (hk : x.kind = 1) (ha : CmAt w B x A c A2 c2) (hB : B ≤ w.heap.size) (hz : CmSz x) :
    Calls Tryz.prog 12 #[cmV x A c A2 c2] w fun e w' => e = .returned (.int .i64 (if rsubB x = true then 0 else 80)) ∧ Below w.heap.size w w' := by
  cases h : noneS x
  · exact rcheck_submit_a x A A2 c c2 B w h hk ha hB hz
  · cases h2 : x.hasPrio
    · exact rcheck_submit_f x A A2 c c2 B w ⟨h, h2⟩ hk ha hB hz
    · exact rcheck_submit_t x A A2 c c2 B w ⟨h, h2⟩ hk ha hB hz
theorem sameS_refl (s : Sh) : sameS s s = true := by unfold sameS; simp
theorem okS_alts {s : Sh} (h : okS s = true) : s.alts.length ≤ 6 := by
  unfold okS at h
  split at h
  · simp only [Bool.and_eq_true, decide_eq_true_eq] at h; omega
  · split at h
    · simp only [Bool.and_eq_true, decide_eq_true_eq] at h; omega
    · split at h
      · simp only [Bool.and_eq_true, decide_eq_true_eq] at h; omega
      · cases h
theorem she_alts {s : Sh} (h : shE s = 0) : s.alts.length ≤ 6 := by
  unfold shE at h
  split at h
  case isTrue hk => exact okS_alts hk
  case isFalse => omega
theorem subB_lens {x : Cm} (h : subB x = true) : x.shape.alts.length ≤ 6 ∧ x.after.length ≤ 4 := by
  unfold subB depsB at h
  simp only [Bool.and_eq_true, decide_eq_true_eq, beq_iff_eq] at h
  exact ⟨she_alts h.2, h.1.2.2⟩
theorem chk_submit {x : Cm} (h1 : x.kind = 1) : chkB x = rsubB x := by
  obtain ⟨kind, job, name, user, account, s, prio, hp, time, ht, after, node, nodes, frm⟩ := x
  dsimp only at h1
  subst h1
  rw [Bool.eq_iff_iff]
  have HL := @subB_lens ⟨1, job, name, user, account, s, prio, hp, time, ht, after, node, nodes, frm⟩
  unfold chkB rsubB fitB preB noneS sameC bareC
  simp only [if_true, sameS_refl, Bool.and_eq_true, decide_eq_true_eq, beq_self_eq_true, true_and, and_true, Bool.not_eq_true', beq_iff_eq]
  generalize subB ⟨1, job, name, user, account, s, prio, hp, time, ht, after, node, nodes, frm⟩ = q at HL ⊢
  cases ht
  · simp only [Bool.false_eq_true, if_false, beq_iff_eq]
    constructor
    · rintro ⟨a, b, ⟨⟨c, d⟩, e⟩, f⟩
      simp_all
    · rintro ⟨f, e, c, d⟩
      have := HL e
      simp_all
  · simp
theorem cmd_submit {x : Cm} (h1 : x.kind = 1) : cmdE x = if rsubB x = true then 0 else 80 := by unfold cmdE; rw [chk_submit h1]
end Go.Proofs.YtjmhaoplablmnaaGreatDoor
