/- Layer 18: ShareOrder walked. -/
import Derived.Test.YtmkmmggimokagaaGreatDoorR3
import Derived.Test.YtmkmmggimokagaaGreatDoorQ1
namespace Go.Proofs.YtmkmmggimokagaaGreatDoor
set_option linter.unusedVariables false
set_option linter.unusedSimpArgs false
open Go.RowKit
theorem mid_of {W : World} {g : Nat} {cs ds : List Value} {t : TypeId} (k : Nat) (h : W.heap[g]? = some (.cells cs.toArray t (0, 0))) (hd : ∀ j v, ds[j]? = some v → cs[k + j]? = some v) : W.rangeAt g k ds := by
  intro j v hv
  refine (cell_of_row W g (k + j) _ _ _ h).trans ?_
  have := hd j v hv
  simpa using this
set_option maxHeartbeats 4000000 in
set_option maxRecDepth 100000 in
theorem shareOrder_walk (us : List U) (U : Option Addr) (nu cu : Nat) (a b d : JR) (w : World) (hnu : nu ≤ maxLen) (hr : Reads w w.heap.size 4 U nu (recs ucells us)) :
    Calls Tryz.prog 3 #[.slice U nu cu, .agg (jrC a ++ jrC b).toArray, .agg (jrC d).toArray] w fun e w' => e = .returned (.bool true) ∧ Below w.heap.size w w' := by
  have f0 := Lib.hid (fun v (hv : Below w.heap.size w v) => few_any U nu cu w.heap.size us v hnu (hr.below hv))
  have f1 := Lib.hid (fun v => few_r a v)
  have f2 := Lib.hid (fun v => few_r b v)
  have f3 := Lib.hid (fun v => few_r d v)
  have qa := Lib.hid (fun (x y : JR) v (hv : Below w.heap.size w v) => ahead_any U nu cu w.heap.size us x y v hnu (hr.below hv) hv.size)
  have q1 := Lib.hid (fun v (hv : Below w.heap.size w v) => qa.out a b v hv)
  have q2 := Lib.hid (fun v (hv : Below w.heap.size w v) => qa.out b a v hv)
  have q3 := Lib.hid (fun v (hv : Below w.heap.size w v) => qa.out a a v hv)
  have q4 := Lib.hid (fun v (hv : Below w.heap.size w v) => qa.out b d v hv)
  have q5 := Lib.hid (fun v (hv : Below w.heap.size w v) => qa.out a d v hv)
  clear qa hr
  simp only [ahead_rk] at q1 q2 q3 q4 q5
  obtain ⟨sh, hsh⟩ : ∃ s, shU us = s := ⟨_, rfl⟩
  rw [hsh] at q1 q2 q3 q4 q5
  clear hsh
  have p1 : rkLt (rkOf sh a.x) (rkOf sh a.x) = false := rk_irr _
  rw [p1] at q3
  have p2 := Lib.hid (fun (h1 : rkLt (rkOf sh a.x) (rkOf sh b.x) = true) (h2 : rkLt (rkOf sh b.x) (rkOf sh d.x) = true) => rk_trans h1 h2)
  have p3 : Hid (∃ (t : Bool), (a.x.id != b.x.id) = t ∧ ((t = true ∧ rkLt (rkOf sh a.x) (rkOf sh b.x) = true ∧ rkLt (rkOf sh b.x) (rkOf sh a.x) = false) ∨ (t = true ∧ rkLt (rkOf sh a.x) (rkOf sh b.x) = false ∧ rkLt (rkOf sh b.x) (rkOf sh a.x) = true) ∨ (t = false ∧ rkLt (rkOf sh a.x) (rkOf sh b.x) = true ∧ rkLt (rkOf sh b.x) (rkOf sh a.x) = false) ∨ (t = false ∧ rkLt (rkOf sh a.x) (rkOf sh b.x) = false ∧ rkLt (rkOf sh b.x) (rkOf sh a.x) = true) ∨ (t = false ∧ rkLt (rkOf sh a.x) (rkOf sh b.x) = false ∧ rkLt (rkOf sh b.x) (rkOf sh a.x) = false))) := by
    show ∃ _, _
    refine ⟨_, rfl, ?_⟩
    have ha := @rk_asym (rkOf sh a.x) (rkOf sh b.x)
    have ht := @rk_total (rkOf sh a.x) (rkOf sh b.x)
    have hi : ((rkOf sh a.x).id ≠ (rkOf sh b.x).id) ↔ (a.x.id != b.x.id) = true := by show (a.x.id ≠ b.x.id) ↔ _; simp
    rw [hi] at ht
    cases h1 : rkLt (rkOf sh a.x) (rkOf sh b.x) <;> cases h2 : rkLt (rkOf sh b.x) (rkOf sh a.x) <;> cases h3 : (a.x.id != b.x.id) <;> simp_all
  have e0 : (jrC a)[0]? = some (.int .i64 a.x.id) := rfl
  have e1 : (jrC b)[0]? = some (.int .i64 b.x.id) := rfl
  have L1 := jrC_len a
  have L2 := jrC_len b
  have I1 := Lib.hid (jrC_info (r := a))
  have I2 := Lib.hid (jrC_info (r := b))
  have I3 := Lib.hid (jrC_info (r := d))
  obtain ⟨ia, hia⟩ : ∃ q, a.x.id = q := ⟨_, rfl⟩
  obtain ⟨ib, hib⟩ : ∃ q, b.x.id = q := ⟨_, rfl⟩
  rw [hia] at e0 p3
  rw [hib] at e1 p3
  obtain ⟨P1, hP1⟩ : ∃ q, rkLt (rkOf sh a.x) (rkOf sh b.x) = q := ⟨_, rfl⟩
  obtain ⟨P2, hP2⟩ : ∃ q, rkLt (rkOf sh b.x) (rkOf sh a.x) = q := ⟨_, rfl⟩
  obtain ⟨P4, hP4⟩ : ∃ q, rkLt (rkOf sh b.x) (rkOf sh d.x) = q := ⟨_, rfl⟩
  obtain ⟨P5, hP5⟩ : ∃ q, rkLt (rkOf sh a.x) (rkOf sh d.x) = q := ⟨_, rfl⟩
  rw [hP1] at q1 p2 p3
  rw [hP2] at q2 p3
  rw [hP4] at q4 p2
  rw [hP5] at q5 p2
  obtain ⟨xa, hxa⟩ : ∃ q, a.x = q := ⟨_, rfl⟩
  obtain ⟨xb, hxb⟩ : ∃ q, b.x = q := ⟨_, rfl⟩
  obtain ⟨xd, hxd⟩ : ∃ q, d.x = q := ⟨_, rfl⟩
  obtain ⟨x1, has⟩ : ∃ q, jrC a = q := ⟨_, rfl⟩
  obtain ⟨x2, hbs⟩ : ∃ q, jrC b = q := ⟨_, rfl⟩
  obtain ⟨x3, hds⟩ : ∃ q, jrC d = q := ⟨_, rfl⟩
  rw [hxa, has] at f1
  rw [hxb, hbs] at f2
  rw [hxd, hds] at f3
  rw [has] at e0 L1 I1 q1 q2 q3 q5 ⊢
  rw [hbs] at e1 L2 I2 q1 q2 q4 ⊢
  rw [hds] at I3 q4 q5 ⊢
  clear p1 hia hib hP1 hP2 hP4 hP5 hxa hxb hxd has hbs hds
  obtain ⟨W0, hW0⟩ : ∃ W0, Hid ((w.alloc (.cells (x1 ++ x2).toArray 31)).alloc (.cells x3.toArray 29) = W0) := ⟨_, Lib.hid rfl⟩
  have B0 : Hid (Below w.heap.size w W0) := by rw [← hW0.out]; exact ((Below.refl _ _).alloc (Nat.le_refl _) _).alloc (by simp) _
  obtain ⟨g1, g2⟩ := two_new w (.cells (x1 ++ x2).toArray 31) (.cells x3.toArray 29)
  rw [hW0.out] at g1 g2
  have ra := mid_of (ds := x1) 0 g1 (fun j v hv => by rw [Nat.zero_add]; exact (List.getElem?_append_left (List.getElem?_eq_some_iff.1 hv).1).trans hv)
  have rb := mid_of (ds := x2) 20 g1 (fun j v hv => by rw [List.getElem?_append_right (by omega), L1, Nat.add_sub_cancel_left]; exact hv)
  have rd := mid_of (ds := x3) 0 g2 (fun j v hv => by rw [Nat.zero_add]; exact hv)
  have RA := Lib.hid (fun v (hv : Below W0.heap.size W0 v) => range_later ra hv)
  have RB := Lib.hid (fun v (hv : Below W0.heap.size W0 v) => range_later rb hv)
  have RD := Lib.hid (fun v (hv : Below W0.heap.size W0 v) => range_later rd hv)
  have CA := Lib.hid (fun v (hv : Below W0.heap.size W0 v) => (by have := range_cell (j := 0) (RA.out v hv) e0; simpa using this : v.cell? ⟨w.heap.size, 0, none⟩ = some (.int .i64 ia)))
  have CB := Lib.hid (fun v (hv : Below W0.heap.size W0 v) => (by have := range_cell (j := 0) (RB.out v hv) e1; simpa using this : v.cell? ⟨w.heap.size, 20, none⟩ = some (.int .i64 ib)))
  clear g1 g2 ra rb rd e0 e1 L1 L2
  have HW := hW0
  cases z0 : fewV us
  case false =>
    rw [z0] at f0
    clear f1 f2 f3 q1 q2 q3 q4 q5
    go_enter Tryz.func3, Tryz.ntmps3
    go_upto_region 1 with (fail)
    rw [HW.out]
    go_wp2_with (fail)
    refine (f0.out _ B0.out).mono ?_; rintro e w1 ⟨rfl, rfl⟩
    go_wp2_with (fail)
    refine (awake18_any _).mono ?_; rintro e wz ⟨rfl, hwz⟩
    go_wp2
    go_ret
    exact ⟨rfl, bt B0.out hwz⟩
  rw [z0] at f0
  cases z1 : fewJ xa
  case false =>
    rw [z1] at f1
    clear f2 f3 q1 q2 q3 q4 q5
    go_enter Tryz.func3, Tryz.ntmps3
    go_upto_region 1 with (fail)
    rw [HW.out]
    go_wp2_with (fail)
    refine (f0.out _ B0.out).mono ?_; rintro e w1 ⟨rfl, rfl⟩
    go_wp2_with (refine wpList_load_mid_h (by kernel_rfl) 29 _ rfl (w.heap.size) 0 rfl x1 _ (RA.out _ (Below.refl _ _)) Tryz.underlying29 rfl I1.out ?_)
    refine (f1.out _).mono ?_; rintro e w2 ⟨rfl, h2⟩
    go_wp2_with (fail)
    refine (awake18_any _).mono ?_; rintro e wz ⟨rfl, hwz⟩
    go_wp2
    go_ret
    exact ⟨rfl, bt (bt B0.out h2) hwz⟩
  rw [z1] at f1
  cases z2 : fewJ xb
  case false =>
    rw [z2] at f2
    clear f3 q1 q2 q3 q4 q5
    go_enter Tryz.func3, Tryz.ntmps3
    go_upto_region 1 with (fail)
    rw [HW.out]
    go_wp2_with (fail)
    refine (f0.out _ B0.out).mono ?_; rintro e w1 ⟨rfl, rfl⟩
    go_wp2_with (refine wpList_load_mid_h (by kernel_rfl) 29 _ rfl (w.heap.size) 0 rfl x1 _ (RA.out _ (Below.refl _ _)) Tryz.underlying29 rfl I1.out ?_)
    refine (f1.out _).mono ?_; rintro e w2 ⟨rfl, h2⟩
    go_wp2_with (refine wpList_load_mid_h (by kernel_rfl) 29 _ rfl (w.heap.size) 20 rfl x2 _ (RB.out _ h2) Tryz.underlying29 rfl I2.out ?_)
    refine (f2.out _).mono ?_; rintro e w3 ⟨rfl, h3⟩
    go_wp2_with (fail)
    refine (awake18_any _).mono ?_; rintro e wz ⟨rfl, hwz⟩
    go_wp2
    go_ret
    exact ⟨rfl, bt (bt B0.out (bt h2 h3)) hwz⟩
  rw [z2] at f2
  go_enter Tryz.func3, Tryz.ntmps3
  go_upto_region 1 with (fail)
  rw [HW.out]
  go_wp2_with (fail)
  refine (f0.out _ B0.out).mono ?_; rintro e w1 ⟨rfl, rfl⟩
  go_wp2_with (refine wpList_load_mid_h (by kernel_rfl) 29 _ rfl (w.heap.size) 0 rfl x1 _ (RA.out _ (Below.refl _ _)) Tryz.underlying29 rfl I1.out ?_)
  refine (f1.out _).mono ?_; rintro e w2 ⟨rfl, h2⟩
  go_wp2_with (refine wpList_load_mid_h (by kernel_rfl) 29 _ rfl (w.heap.size) 20 rfl x2 _ (RB.out _ h2) Tryz.underlying29 rfl I2.out ?_)
  refine (f2.out _).mono ?_; rintro e w3 ⟨rfl, h3⟩
  have B3 := Lib.hid (bt h2 h3)
  clear h2 h3
  go_wp2_with (refine wpList_load_mid_h (by kernel_rfl) 29 _ rfl (w.heap.size + 1) 0 rfl x3 _ (RD.out _ B3.out) Tryz.underlying29 rfl I3.out ?_)
  refine (f3.out _).mono ?_; rintro e w4 ⟨rfl, h4⟩
  have B4 := Lib.hid (bt B3.out h4)
  clear h4 f0 f1 f2 f3 HW hW0
  cases z3 : fewJ xd
  case false =>
    clear q1 q2 q3 q4 q5
    go_wp2_with (fail)
    refine (awake18_any _).mono ?_; rintro e wz ⟨rfl, hwz⟩
    go_wp2
    go_ret
    exact ⟨rfl, bt (bt B0.out B4.out) hwz⟩
  go_upto_region 3 with (fail)
  have W4 := Lib.hid (bt B0.out B4.out)
  refine wp_region_later (by kernel_rfl) (by kernel_rfl) ?_
  have hl_ := later_cell (w4)
  try simp only [Act.put]
  repeat (first | (go_big_quiet_want; refine quiet_load_mid 29 _ rfl (w.heap.size) 0 rfl _ _ (later_range (RA.out _ B4.out)) Tryz.underlying29 rfl (I1.out) ?_; go_simp; go_big_quiet_on) | (go_big_quiet_want; refine quiet_load_mid 29 _ rfl (w.heap.size) 20 rfl _ _ (later_range (RB.out _ B4.out)) Tryz.underlying29 rfl (I2.out) ?_; go_simp; go_big_quiet_on) | go_big_quiet_step (((go_at_call 8; first | (with_reducible exact later_of (q1.out _ (W4.out.trans ((Later.below _).mono W4.out.size)))) | (with_reducible exact later_of (q2.out _ (W4.out.trans ((Later.below _).mono W4.out.size))))))) | quiet_step (((go_at_call 8; first | (with_reducible exact later_of (q1.out _ (W4.out.trans ((Later.below _).mono W4.out.size)))) | (with_reducible exact later_of (q2.out _ (W4.out.trans ((Later.below _).mono W4.out.size))))))))
  refine wpQuiet_nil ?_
  intro w5 hx_
  obtain ⟨⟨w_, hb5⟩, e_⟩ := hx_
  have e2_ : w5 = w_ := e_
  clear e_
  subst e2_
  clear hl_
  have B5 := Lib.hid (bt B4.out hb5)
  have W5 := Lib.hid (bt B0.out B5.out)
  clear hb5 B3 B4 W4 q1 q2 z0 z1 z2 z3
  have ca := CA.out _ B5.out
  have cb := CB.out _ B5.out
  obtain ⟨t, ht, hc⟩ := p3.out
  rcases hc with ⟨rfl, rfl, rfl⟩ | ⟨rfl, rfl, rfl⟩ | ⟨rfl, rfl, rfl⟩ | ⟨rfl, rfl, rfl⟩ | ⟨rfl, rfl, rfl⟩
  all_goals
    go_wp2_with (refine wpList_load_mid_h (by kernel_rfl) 29 _ rfl (w.heap.size) 0 rfl x1 _ (RA.out _ B5.out) Tryz.underlying29 rfl I1.out ?_)
    refine (q3.out _ W5.out).mono ?_; rintro e w6 ⟨rfl, h6⟩
    have B6 := Lib.hid (bt B5.out h6)
    clear h6 ca cb
  all_goals first
    | (go_wp2_with (fail)
       refine (awake18_any _).mono ?_; rintro e wz ⟨rfl, hwz⟩
       go_wp2
       go_ret
       exact ⟨rfl, bt (bt B0.out B6.out) hwz⟩)
    | (go_wp2_with (first | (refine wpList_load_mid_h (by kernel_rfl) 29 _ rfl (w.heap.size) 20 rfl x2 _ (RB.out _ B6.out) Tryz.underlying29 rfl I2.out ?_) | (refine wpList_load_mid_h (by kernel_rfl) 29 _ rfl (w.heap.size + 1) 0 rfl x3 _ (RD.out _ B6.out) Tryz.underlying29 rfl I3.out ?_))
       refine (q4.out _ (bt B0.out B6.out)).mono ?_; rintro e w7 ⟨rfl, h7⟩
       have B7 := Lib.hid (bt B6.out h7)
       clear h7
       cases P4 with
       | false =>
         go_wp2_with (fail)
         refine (awake18_any _).mono ?_; rintro e wz ⟨rfl, hwz⟩
         go_wp2
         go_ret
         exact ⟨rfl, bt (bt B0.out B7.out) hwz⟩
       | true =>
         have h5 := p2.out (by simp) (by simp)
         subst h5
         go_wp2_with (first | (refine wpList_load_mid_h (by kernel_rfl) 29 _ rfl (w.heap.size) 0 rfl x1 _ (RA.out _ B7.out) Tryz.underlying29 rfl I1.out ?_) | (refine wpList_load_mid_h (by kernel_rfl) 29 _ rfl (w.heap.size + 1) 0 rfl x3 _ (RD.out _ B7.out) Tryz.underlying29 rfl I3.out ?_))
         refine (q5.out _ (bt B0.out B7.out)).mono ?_; rintro e w8 ⟨rfl, h8⟩
         have B8 := Lib.hid (bt B7.out h8)
         clear h8
         go_wp2_with (fail)
         refine (awake18_any _).mono ?_; rintro e wz ⟨rfl, hwz⟩
         go_wp2
         go_ret
         exact ⟨rfl, bt (bt B0.out B8.out) hwz⟩)
end Go.Proofs.YtmkmmggimokagaaGreatDoor
