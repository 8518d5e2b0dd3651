/- Bundle Q8. -/
import Derived.Test.YtghmcdfmbjabnaaGreatDoorQ4t
import Derived.Test.YtghmcdfmbjabnaaGreatDoorQ3t
import Derived.Test.YtghmcdfmbjabnaaGreatDoorS3t
import Derived.Test.YtghmcdfmbjabnaaGreatDoorQ5t
import Derived.Deep.QuietTactic
import Derived.BigQuiet
namespace Go.Proofs.YtghmcdfmbjabnaaGreatDoor
set_option linter.unusedSimpArgs false
set_option maxRecDepth 100000
set_option linter.unusedVariables false
open Go.RowKit
theorem rtick_any (n : Int) (w : World) : Calls Tryz.prog 128 #[.int .i64 n] w fun e w' => e = .returned (.bool (tickB n)) ∧ w = w' := by
  unfold tickB inB
  cases h1 : decide (0 ≤ n) <;> cases h2 : decide (n ≤ 1000000)
  all_goals
    go_enter Tryz.func128, Tryz.ntmps128
    go_wp2
    go_ret
    exact ⟨rfl, rfl⟩
theorem rended_any (n : Int) (w : World) : Calls Tryz.prog 134 #[.int .i64 n] w fun e w' => e = .returned (.bool (endedB n)) ∧ w = w' := by
  unfold endedB inB
  cases h1 : decide (3 ≤ n) <;> cases h2 : decide (n ≤ 7)
  all_goals
    go_enter Tryz.func134, Tryz.ntmps134
    go_wp2
    go_ret
    exact ⟨rfl, rfl⟩
theorem rfew_any (s : Nat) (w : World) : Calls Tryz.prog 131 #[.int .u64 s] w fun e w' => e = .returned (.bool (fewS s)) ∧ w = w' := by
  unfold fewS
  obtain ⟨z, hz⟩ : ∃ z, decide (s < 281474976710656) = z := ⟨_, rfl⟩
  have t0 : decide ((s : Int) < 281474976710656) = z := by rw [← hz]; congr 1; apply propext; omega
  rw [hz]
  go_enter Tryz.func131, Tryz.ntmps131
  go_wp2
  go_ret
  exact ⟨rfl, rfl⟩
set_option maxHeartbeats 2000000 in
theorem rwall14_any (s : Sh) (A : Option Addr) (c B : Nat) (ch : Int) (w : World) (hr : Reads w B 2 A s.alts.length (recs prC s.alts)) (hB : B ≤ w.heap.size) (hn : s.alts.length ≤ 100000) (hcap : s.alts.length ≤ c) :
    Calls Tryz.prog 129 #[shV s A c, .int .i64 ch] w fun e w' => e = .returned (.int .i64 (wallS s ch)) ∧ Below w.heap.size w w' := by
  have hc := Lib.hid (fun v (hv : Below w.heap.size w v) => ropts_any s A c B v (hr.below (hv.mono hB)) (Nat.le_trans hB hv.size) hn hcap)
  have HO : Hid (wallS s ch = (if ch < 0 ∨ ((optS s).length : Int) ≤ ch then (0, 0) else (optS s).getD ch.toNat (0, 0) : Pr).2) := rfl
  have hol := optS_len s hn
  obtain ⟨R, hR⟩ : ∃ p, wallS s ch = p := ⟨_, rfl⟩
  rw [hR] at HO ⊢
  clear hR
  obtain ⟨l, hl⟩ : ∃ l, optS s = l := ⟨_, rfl⟩
  rw [hl] at hc hol HO
  clear hl hr hB
  unfold shV at hc ⊢
  obtain ⟨n1, e1⟩ : ∃ n, s.alts.length = n := ⟨_, rfl⟩
  rw [e1] at hc ⊢
  clear e1
  go_enter Tryz.func129, Tryz.ntmps129
  go_wp2_with (fail)
  refine (hc.out _ ((Below.refl _ _).alloc (Nat.le_refl _) _)).mono ?_; rintro e w1 ⟨A3, c3, rfl, hl3, hr3, hb1⟩
  have B1 := Lib.hid (bt ((Below.refl _ _).alloc (Nat.le_refl _) _ : Below w.heap.size w _) hb1)
  clear hb1
  by_cases h0 : ch < 0
  · have t0 : decide (ch < 0) = true := decide_eq_true h0
    have HP : Hid (R = 0) := by show _ = _; rw [HO.out, if_pos (Or.inl h0)]
    clear h0
    go_wp2
    go_ret
    exact ⟨by rw [HP.out]; rfl, B1.out⟩
  have t0 : decide (ch < 0) = false := decide_eq_false h0
  by_cases h1 : (l.length : Int) ≤ ch
  · have t1 : decide ((l.length : Int) ≤ ch) = true := decide_eq_true h1
    have HP : Hid (R = 0) := by show _ = _; rw [HO.out, if_pos (Or.inr h1)]
    clear h0 h1
    go_wp2
    go_ret
    exact ⟨by rw [HP.out]; rfl, B1.out⟩
  · have t1 : decide ((l.length : Int) ≤ ch) = false := decide_eq_false h1
    obtain ⟨k, hk⟩ : ∃ k : Nat, ch = k := ⟨ch.toNat, by omega⟩
    subst hk
    obtain ⟨b, o, a, rfl, hbb, hx, c0, c1⟩ := hr3.pr_at (show k < l.length by omega)
    have HP : Hid (R = a.2) := by
      show _ = _
      rw [HO.out, if_neg (by omega), List.getD_eq_getElem?_getD, Int.toNat_natCast, hx.out]; rfl
    have hj0 : (0 : Int) ≤ (k : Int) := by omega
    have hj1 : (k : Int) < (l.length : Int) := by omega
    clear h0 h1 hol
    go_wp2
    go_ret
    exact ⟨by rw [HP.out]; rfl, B1.out⟩
theorem wrap_of {d : Int} (h1 : -9223372036854775808 ≤ d) (h2 : d ≤ 9223372036854775807) : IntKind.i64.wrap d = d := by
  rw [IntKind.wrap_i64]
  omega
theorem wall_le (s : Sh) (ch : Int) : 0 ≤ wallS s ch ∧ wallS s ch ≤ 100000 := by
  cases h : hasO s ch
  · unfold wallS; rw [opt_none h]; exact ⟨by decide, by decide⟩
  · have := opt_bounds h; unfold wallS; omega
theorem ne_nat (n : Nat) : ((n : Int) == 0) = (n == 0) := by rw [Bool.eq_iff_iff]; simp
theorem queuedB_is (x : Jb) : queuedB x = ((x.start == 0) && ((x.limit == 0) && ((x.nodes == 0) && (((x.promise == -1) && (x.choice == 0)) || (tickB x.promise && (hasO x.shape x.choice && !x.held)))))) := rfl
theorem runB_is (x : Jb) : runB x = (hasO x.shape x.choice && (!x.held && (tickB x.start && (tickB x.promise && (decide (x.start ≤ x.promise) && (tickB x.limit && ((x.limit == x.start + wallS x.shape x.choice) && (fewS x.nodes && allowS x.shape x.choice (memL x.nodes).length)))))))) := rfl
theorem endB_is (x : Jb) : (endedB x.state && overB x) = (endedB x.state && ((x.nodes == 0) && (tickB x.start && (tickB x.limit && ((decide (-1 ≤ x.promise) && decide (x.promise ≤ 1000000)) && (decide (0 ≤ x.choice) && decide (x.choice ≤ 48))))))) := rfl
theorem owns_slice {w : World} {b : Nat} {e : TypeId} {size n : Nat} {v : Value} {xs : List Value} (h : Owns w b e size v n xs) : ∃ A c, v = .slice A n c := by
  obtain ⟨A, c, e, _⟩ := h.slice
  exact ⟨A, c, e⟩
theorem rlist_len (s : Nat) (w : World) (hs : s < M64) : Calls Tryz.prog 132 #[.int .u64 s] w fun e w' => ∃ A3 c3, e = .returned (.slice A3 (memL s).length c3) ∧ Below w.heap.size w w' := by
  refine (rlist_any s w hs).mono ?_
  rintro e w' ⟨v', rfl, hown, hb⟩
  obtain ⟨A3, c3, rfl⟩ := owns_slice hown
  exact ⟨A3, c3, rfl, hb⟩
theorem bne_f {a b : Int} (h : (a == b) = false) : (a != b) = true := by show (!(a == b)) = true; rw [h]; rfl
theorem bne_t {a b : Int} (h : (a == b) = true) : (a != b) = false := by show (!(a == b)) = false; rw [h]; rfl
set_option maxHeartbeats 16000000 in
theorem rstate_queued (x : Jb) (A A2 : Option Addr) (c c2 B : Nat) (w : World) (hx : JbAt w B x A c A2 c2) (hB : B ≤ w.heap.size) (hm : x.nodes < M64) (hs : x.state = 1) :
    Calls Tryz.prog 143 #[jbV x A c A2 c2] w fun e w' => e = .returned (.bool (queuedB x)) ∧ Below w.heap.size w w' := by
  have hwl := Lib.hid (fun v (hv : Below w.heap.size w v) => rwall14_any x.shape A c B x.choice v (hx.1.below (hv.mono hB)) (Nat.le_trans hB hv.size) hx.2.2.1 hx.2.2.2.2.1)
  have hal := Lib.hid (fun v (hv : Below w.heap.size w v) => rallows_any x.shape A c B x.choice ((memL x.nodes).length : Nat) v (hx.1.below (hv.mono hB)) (Nat.le_trans hB hv.size) hx.2.2.1 hx.2.2.2.2.1)
  have hli := Lib.hid (fun v => rlist_len x.nodes v hm)
  have q1 := Lib.hid (fun v => rtick_any x.start v)
  have q2 := Lib.hid (fun v => rtick_any x.promise v)
  have q3 := Lib.hid (fun v => rtick_any x.limit v)
  have q4 := Lib.hid (fun v => rfew_any x.nodes v)
  have q5 := Lib.hid (fun v => rended_any x.state v)
  have HT1 : tickB x.start = true → 0 ≤ x.start ∧ x.start ≤ 1000000 := by intro h; unfold tickB inB at h; simpa using h
  have HW := hasO_wall x.shape x.choice
  have HT2 : (x.promise == -1) = true → tickB x.promise = false := by intro h; rw [beq_iff_eq] at h; rw [h]; rfl
  have HZ := hasO_zero x.shape x.choice
  have HWL := wall_le x.shape x.choice
  have HN := ne_nat x.nodes
  have HE := Lib.hid (queuedB_is x)
  clear hx hB hm
  obtain ⟨R, hR⟩ : ∃ R, queuedB x = R := ⟨_, rfl⟩
  rw [hR] at HE ⊢
  clear hR
  rw [jbV_is]
  have e4 : (jbA x A c A2 c2)[4]? = some (.int .i64 x.shape.kind) := rfl
  have e5 : (jbA x A c A2 c2)[5]? = some (.slice A x.shape.alts.length c) := rfl
  have e6 : (jbA x A c A2 c2)[6]? = some (.int .i64 x.shape.mn) := rfl
  have e7 : (jbA x A c A2 c2)[7]? = some (.int .i64 x.shape.mx) := rfl
  have e8 : (jbA x A c A2 c2)[8]? = some (.int .i64 x.shape.wall) := rfl
  have e11 : (jbA x A c A2 c2)[11]? = some (.int .i64 x.state) := rfl
  have e12 : (jbA x A c A2 c2)[12]? = some (.bool x.held) := rfl
  have e14 : (jbA x A c A2 c2)[14]? = some (.int .i64 x.promise) := rfl
  have e15 : (jbA x A c A2 c2)[15]? = some (.int .i64 x.choice) := rfl
  have e16 : (jbA x A c A2 c2)[16]? = some (.int .i64 x.start) := rfl
  have e17 : (jbA x A c A2 c2)[17]? = some (.int .i64 x.limit) := rfl
  have e18 : (jbA x A c A2 c2)[18]? = some (.int .u64 x.nodes) := rfl
  obtain ⟨cs, hcs⟩ : ∃ cs, jbA x A c A2 c2 = cs := ⟨_, rfl⟩
  rw [hcs] at e4 e5 e6 e7 e8 e11 e12 e14 e15 e16 e17 e18 ⊢
  clear hcs
  unfold shV at hal hwl
  obtain ⟨wl, h⟩ : ∃ a, wallS x.shape x.choice = a := ⟨_, rfl⟩
  (try rw [h] at HE)
  rw [h] at hwl HW HZ HWL
  clear h
  obtain ⟨ok, h⟩ : ∃ a, hasO x.shape x.choice = a := ⟨_, rfl⟩
  (try rw [h] at HE)
  rw [h] at HW HZ
  clear h
  replace HW := HW.symm
  obtain ⟨cn, h⟩ : ∃ n : Nat, (memL x.nodes).length = n := ⟨_, rfl⟩
  (try rw [h] at HE)
  rw [h] at hal
  rw [h] at hli
  clear h
  obtain ⟨z5, h⟩ : ∃ q, allowS x.shape x.choice (cn : Int) = q := ⟨_, rfl⟩
  (try rw [h] at HE)
  rw [h] at hal
  clear h
  obtain ⟨z1, h⟩ : ∃ q, tickB x.start = q := ⟨_, rfl⟩
  (try rw [h] at HE)
  rw [h] at q1 HT1
  clear h
  obtain ⟨z2, h⟩ : ∃ q, tickB x.promise = q := ⟨_, rfl⟩
  (try rw [h] at HE)
  rw [h] at q2 HT2
  clear h
  obtain ⟨z3, h⟩ : ∃ q, tickB x.limit = q := ⟨_, rfl⟩
  (try rw [h] at HE)
  rw [h] at q3
  clear h
  obtain ⟨z4, h⟩ : ∃ q, fewS x.nodes = q := ⟨_, rfl⟩
  (try rw [h] at HE)
  rw [h] at q4
  clear h
  obtain ⟨z6, h⟩ : ∃ q, endedB x.state = q := ⟨_, rfl⟩
  (try rw [h] at HE)
  rw [h] at q5
  clear h
  obtain ⟨z7, h⟩ : ∃ q, (x.nodes == 0) = q := ⟨_, rfl⟩
  (try rw [h] at HE)
  rw [h] at HN
  clear h
  obtain ⟨u, h⟩ : ∃ u : Int, (x.nodes : Int) = u := ⟨_, rfl⟩
  rw [h] at hli q4 HN e18
  clear h
  obtain ⟨n1, e1⟩ : ∃ n, x.shape.alts.length = n := ⟨_, rfl⟩
  rw [e1] at hal hwl e5
  clear e1
  obtain ⟨id, name, user, account, ⟨sk, sl, sm, sn, so⟩, prio, after, state, held, born, promise, choice, start, limit, nodes, used⟩ := x
  dsimp only at hwl hal q1 q2 q3 q4 q5 HE HT1 HT2 hs e4 e5 e6 e7 e8 e11 e12 e14 e15 e16 e17 e18 ⊢
  subst hs
  go_enter Tryz.func143, Tryz.ntmps143
  go_wp2_with (fail)
  refine (hli.out _).mono ?_; rintro e w1 ⟨A3, c3, rfl, hb1⟩
  have B1 := Lib.hid (bt ((Below.refl _ _).alloc (Nat.le_refl _) _ : Below w.heap.size w _) hb1)
  have s1 : w.heap.size < w1.heap.size := by have := hb1.size; rw [World.size_alloc] at this; omega
  have m4 : w1.cell? ⟨w.heap.size, 4, none⟩ = some (.int .i64 sk) := (boxed_cell hb1 4).trans e4
  have m5 : w1.cell? ⟨w.heap.size, 5, none⟩ = some (.slice A n1 c) := (boxed_cell hb1 5).trans e5
  have m6 : w1.cell? ⟨w.heap.size, 6, none⟩ = some (.int .i64 sm) := (boxed_cell hb1 6).trans e6
  have m7 : w1.cell? ⟨w.heap.size, 7, none⟩ = some (.int .i64 sn) := (boxed_cell hb1 7).trans e7
  have m8 : w1.cell? ⟨w.heap.size, 8, none⟩ = some (.int .i64 so) := (boxed_cell hb1 8).trans e8
  have m11 : w1.cell? ⟨w.heap.size, 11, none⟩ = some (.int .i64 1) := (boxed_cell hb1 11).trans e11
  have m12 : w1.cell? ⟨w.heap.size, 12, none⟩ = some (.bool held) := (boxed_cell hb1 12).trans e12
  have m14 : w1.cell? ⟨w.heap.size, 14, none⟩ = some (.int .i64 promise) := (boxed_cell hb1 14).trans e14
  have m15 : w1.cell? ⟨w.heap.size, 15, none⟩ = some (.int .i64 choice) := (boxed_cell hb1 15).trans e15
  have m16 : w1.cell? ⟨w.heap.size, 16, none⟩ = some (.int .i64 start) := (boxed_cell hb1 16).trans e16
  have m17 : w1.cell? ⟨w.heap.size, 17, none⟩ = some (.int .i64 limit) := (boxed_cell hb1 17).trans e17
  have m18 : w1.cell? ⟨w.heap.size, 18, none⟩ = some (.int .u64 u) := (boxed_cell hb1 18).trans e18
  clear hb1
  cases p1 : start == 0
  case false =>
    have p1n := bne_f p1
    have HR : Hid (R = _) := HE.out
    rw [p1] at HR
    simp only [Bool.true_and, Bool.false_and, Bool.and_true, Bool.and_false, Bool.or_true, Bool.true_or, Bool.or_false, Bool.false_or, Bool.not_true, Bool.not_false] at HR
    clear HE
    go_wp2_with (first | (go_at_call 128; (first | (with_reducible refine (q1.out _).mono ?_) | (with_reducible refine (q2.out _).mono ?_) | (with_reducible refine (q3.out _).mono ?_)); rintro e w2 ⟨rfl, rfl⟩) | (go_at_call 131; refine (q4.out _).mono ?_; rintro e w2 ⟨rfl, rfl⟩) | (go_at_call 134; refine (q5.out _).mono ?_; rintro e w2 ⟨rfl, rfl⟩))
    go_ret
    exact ⟨by rw [HR.out] <;> rfl, B1.out⟩
  have p1n := bne_t p1
  cases p2 : limit == 0
  case false =>
    have p2n := bne_f p2
    have HR : Hid (R = _) := HE.out
    rw [p1, p2] at HR
    simp only [Bool.true_and, Bool.false_and, Bool.and_true, Bool.and_false, Bool.or_true, Bool.true_or, Bool.or_false, Bool.false_or, Bool.not_true, Bool.not_false] at HR
    clear HE
    go_wp2_with (first | (go_at_call 128; (first | (with_reducible refine (q1.out _).mono ?_) | (with_reducible refine (q2.out _).mono ?_) | (with_reducible refine (q3.out _).mono ?_)); rintro e w2 ⟨rfl, rfl⟩) | (go_at_call 131; refine (q4.out _).mono ?_; rintro e w2 ⟨rfl, rfl⟩) | (go_at_call 134; refine (q5.out _).mono ?_; rintro e w2 ⟨rfl, rfl⟩))
    go_ret
    exact ⟨by rw [HR.out] <;> rfl, B1.out⟩
  have p2n := bne_t p2
  cases z7
  case false =>
    have pn := bne_f HN
    have HR : Hid (R = _) := HE.out
    rw [p1, p2] at HR
    simp only [Bool.true_and, Bool.false_and, Bool.and_true, Bool.and_false, Bool.or_true, Bool.true_or, Bool.or_false, Bool.false_or, Bool.not_true, Bool.not_false] at HR
    clear HE
    go_wp2_with (first | (go_at_call 128; (first | (with_reducible refine (q1.out _).mono ?_) | (with_reducible refine (q2.out _).mono ?_) | (with_reducible refine (q3.out _).mono ?_)); rintro e w2 ⟨rfl, rfl⟩) | (go_at_call 131; refine (q4.out _).mono ?_; rintro e w2 ⟨rfl, rfl⟩) | (go_at_call 134; refine (q5.out _).mono ?_; rintro e w2 ⟨rfl, rfl⟩))
    go_ret
    exact ⟨by rw [HR.out] <;> rfl, B1.out⟩
  have pn := bne_t HN
  cases p3 : promise == -1
  case true =>
    cases p4 : choice == 0
    all_goals
      have hz2 : z2 = false := HT2 p3
      subst hz2
      have HR : Hid (R = _) := HE.out
      rw [p1, p2, p3, p4] at HR
      simp only [Bool.true_and, Bool.false_and, Bool.and_true, Bool.and_false, Bool.or_true, Bool.true_or, Bool.or_false, Bool.false_or, Bool.not_true, Bool.not_false] at HR
      clear HE
      go_wp2_with (first | (go_at_call 128; (first | (with_reducible refine (q1.out _).mono ?_) | (with_reducible refine (q2.out _).mono ?_) | (with_reducible refine (q3.out _).mono ?_)); rintro e w2 ⟨rfl, rfl⟩) | (go_at_call 131; refine (q4.out _).mono ?_; rintro e w2 ⟨rfl, rfl⟩) | (go_at_call 134; refine (q5.out _).mono ?_; rintro e w2 ⟨rfl, rfl⟩))
      go_ret
      exact ⟨by rw [HR.out] <;> rfl, B1.out⟩
  cases z2
  case false =>
    have HR : Hid (R = _) := HE.out
    rw [p1, p2, p3] at HR
    simp only [Bool.true_and, Bool.false_and, Bool.and_true, Bool.and_false, Bool.or_true, Bool.true_or, Bool.or_false, Bool.false_or, Bool.not_true, Bool.not_false] at HR
    clear HE
    go_wp2_with (first | (go_at_call 128; (first | (with_reducible refine (q1.out _).mono ?_) | (with_reducible refine (q2.out _).mono ?_) | (with_reducible refine (q3.out _).mono ?_)); rintro e w2 ⟨rfl, rfl⟩) | (go_at_call 131; refine (q4.out _).mono ?_; rintro e w2 ⟨rfl, rfl⟩) | (go_at_call 134; refine (q5.out _).mono ?_; rintro e w2 ⟨rfl, rfl⟩))
    go_ret
    exact ⟨by rw [HR.out] <;> rfl, B1.out⟩
  go_wp2_with (first | (go_at_call 128; (first | (with_reducible refine (q1.out _).mono ?_) | (with_reducible refine (q2.out _).mono ?_) | (with_reducible refine (q3.out _).mono ?_)); rintro e w2 ⟨rfl, rfl⟩) | (go_at_call 131; refine (q4.out _).mono ?_; rintro e w2 ⟨rfl, rfl⟩) | (go_at_call 134; refine (q5.out _).mono ?_; rintro e w2 ⟨rfl, rfl⟩))
  refine (hwl.out _ B1.out).mono ?_; rintro e w3 ⟨rfl, hb3⟩
  have B3 := Lib.hid (bt B1.out hb3)
  have s3 : w.heap.size < w3.heap.size := Nat.lt_of_lt_of_le s1 hb3.size
  have k12 : w3.cell? ⟨w.heap.size, 12, none⟩ = some (.bool held) := ((bcell hb3).1 _ _ s1).trans m12
  clear hb3
  cases ok
  case false =>
    have HR : Hid (R = _) := HE.out
    rw [p1, p2, p3] at HR
    simp only [Bool.true_and, Bool.false_and, Bool.and_true, Bool.and_false, Bool.or_true, Bool.true_or, Bool.or_false, Bool.false_or, Bool.not_true, Bool.not_false] at HR
    clear HE
    go_wp2_with (first | (go_at_call 128; (first | (with_reducible refine (q1.out _).mono ?_) | (with_reducible refine (q2.out _).mono ?_) | (with_reducible refine (q3.out _).mono ?_)); rintro e w2 ⟨rfl, rfl⟩) | (go_at_call 131; refine (q4.out _).mono ?_; rintro e w2 ⟨rfl, rfl⟩) | (go_at_call 134; refine (q5.out _).mono ?_; rintro e w2 ⟨rfl, rfl⟩))
    go_ret
    exact ⟨by rw [HR.out] <;> rfl, B3.out⟩
  cases held
  all_goals
    have HR : Hid (R = _) := HE.out
    rw [p1, p2, p3] at HR
    simp only [Bool.true_and, Bool.false_and, Bool.and_true, Bool.and_false, Bool.or_true, Bool.true_or, Bool.or_false, Bool.false_or, Bool.not_true, Bool.not_false] at HR
    clear HE
    go_wp2_with (first | (go_at_call 128; (first | (with_reducible refine (q1.out _).mono ?_) | (with_reducible refine (q2.out _).mono ?_) | (with_reducible refine (q3.out _).mono ?_)); rintro e w2 ⟨rfl, rfl⟩) | (go_at_call 131; refine (q4.out _).mono ?_; rintro e w2 ⟨rfl, rfl⟩) | (go_at_call 134; refine (q5.out _).mono ?_; rintro e w2 ⟨rfl, rfl⟩))
    go_ret
    exact ⟨by rw [HR.out] <;> rfl, B3.out⟩
set_option maxHeartbeats 16000000 in
theorem rstate_run (x : Jb) (A A2 : Option Addr) (c c2 B : Nat) (w : World) (hx : JbAt w B x A c A2 c2) (hB : B ≤ w.heap.size) (hm : x.nodes < M64) (hs : x.state = 2) :
    Calls Tryz.prog 143 #[jbV x A c A2 c2] w fun e w' => e = .returned (.bool (runB x)) ∧ Below w.heap.size w w' := by
  have hwl := Lib.hid (fun v (hv : Below w.heap.size w v) => rwall14_any x.shape A c B x.choice v (hx.1.below (hv.mono hB)) (Nat.le_trans hB hv.size) hx.2.2.1 hx.2.2.2.2.1)
  have hal := Lib.hid (fun v (hv : Below w.heap.size w v) => rallows_any x.shape A c B x.choice ((memL x.nodes).length : Nat) v (hx.1.below (hv.mono hB)) (Nat.le_trans hB hv.size) hx.2.2.1 hx.2.2.2.2.1)
  have hli := Lib.hid (fun v => rlist_len x.nodes v hm)
  have q1 := Lib.hid (fun v => rtick_any x.start v)
  have q2 := Lib.hid (fun v => rtick_any x.promise v)
  have q3 := Lib.hid (fun v => rtick_any x.limit v)
  have q4 := Lib.hid (fun v => rfew_any x.nodes v)
  have q5 := Lib.hid (fun v => rended_any x.state v)
  have HT1 : tickB x.start = true → 0 ≤ x.start ∧ x.start ≤ 1000000 := by intro h; unfold tickB inB at h; simpa using h
  have HW := hasO_wall x.shape x.choice
  have HT2 : (x.promise == -1) = true → tickB x.promise = false := by intro h; rw [beq_iff_eq] at h; rw [h]; rfl
  have HZ := hasO_zero x.shape x.choice
  have HWL := wall_le x.shape x.choice
  have HN := ne_nat x.nodes
  have HE := Lib.hid (runB_is x)
  clear hx hB hm
  obtain ⟨R, hR⟩ : ∃ R, runB x = R := ⟨_, rfl⟩
  rw [hR] at HE ⊢
  clear hR
  rw [jbV_is]
  have e4 : (jbA x A c A2 c2)[4]? = some (.int .i64 x.shape.kind) := rfl
  have e5 : (jbA x A c A2 c2)[5]? = some (.slice A x.shape.alts.length c) := rfl
  have e6 : (jbA x A c A2 c2)[6]? = some (.int .i64 x.shape.mn) := rfl
  have e7 : (jbA x A c A2 c2)[7]? = some (.int .i64 x.shape.mx) := rfl
  have e8 : (jbA x A c A2 c2)[8]? = some (.int .i64 x.shape.wall) := rfl
  have e11 : (jbA x A c A2 c2)[11]? = some (.int .i64 x.state) := rfl
  have e12 : (jbA x A c A2 c2)[12]? = some (.bool x.held) := rfl
  have e14 : (jbA x A c A2 c2)[14]? = some (.int .i64 x.promise) := rfl
  have e15 : (jbA x A c A2 c2)[15]? = some (.int .i64 x.choice) := rfl
  have e16 : (jbA x A c A2 c2)[16]? = some (.int .i64 x.start) := rfl
  have e17 : (jbA x A c A2 c2)[17]? = some (.int .i64 x.limit) := rfl
  have e18 : (jbA x A c A2 c2)[18]? = some (.int .u64 x.nodes) := rfl
  obtain ⟨cs, hcs⟩ : ∃ cs, jbA x A c A2 c2 = cs := ⟨_, rfl⟩
  rw [hcs] at e4 e5 e6 e7 e8 e11 e12 e14 e15 e16 e17 e18 ⊢
  clear hcs
  unfold shV at hal hwl
  obtain ⟨wl, h⟩ : ∃ a, wallS x.shape x.choice = a := ⟨_, rfl⟩
  (try rw [h] at HE)
  rw [h] at hwl HW HZ HWL
  clear h
  obtain ⟨ok, h⟩ : ∃ a, hasO x.shape x.choice = a := ⟨_, rfl⟩
  (try rw [h] at HE)
  rw [h] at HW HZ
  clear h
  replace HW := HW.symm
  obtain ⟨cn, h⟩ : ∃ n : Nat, (memL x.nodes).length = n := ⟨_, rfl⟩
  (try rw [h] at HE)
  rw [h] at hal
  rw [h] at hli
  clear h
  obtain ⟨z5, h⟩ : ∃ q, allowS x.shape x.choice (cn : Int) = q := ⟨_, rfl⟩
  (try rw [h] at HE)
  rw [h] at hal
  clear h
  obtain ⟨z1, h⟩ : ∃ q, tickB x.start = q := ⟨_, rfl⟩
  (try rw [h] at HE)
  rw [h] at q1 HT1
  clear h
  obtain ⟨z2, h⟩ : ∃ q, tickB x.promise = q := ⟨_, rfl⟩
  (try rw [h] at HE)
  rw [h] at q2 HT2
  clear h
  obtain ⟨z3, h⟩ : ∃ q, tickB x.limit = q := ⟨_, rfl⟩
  (try rw [h] at HE)
  rw [h] at q3
  clear h
  obtain ⟨z4, h⟩ : ∃ q, fewS x.nodes = q := ⟨_, rfl⟩
  (try rw [h] at HE)
  rw [h] at q4
  clear h
  obtain ⟨z6, h⟩ : ∃ q, endedB x.state = q := ⟨_, rfl⟩
  (try rw [h] at HE)
  rw [h] at q5
  clear h
  obtain ⟨z7, h⟩ : ∃ q, (x.nodes == 0) = q := ⟨_, rfl⟩
  (try rw [h] at HE)
  rw [h] at HN
  clear h
  obtain ⟨u, h⟩ : ∃ u : Int, (x.nodes : Int) = u := ⟨_, rfl⟩
  rw [h] at hli q4 HN e18
  clear h
  obtain ⟨n1, e1⟩ : ∃ n, x.shape.alts.length = n := ⟨_, rfl⟩
  rw [e1] at hal hwl e5
  clear e1
  obtain ⟨id, name, user, account, ⟨sk, sl, sm, sn, so⟩, prio, after, state, held, born, promise, choice, start, limit, nodes, used⟩ := x
  dsimp only at hwl hal q1 q2 q3 q4 q5 HE HT1 HT2 hs e4 e5 e6 e7 e8 e11 e12 e14 e15 e16 e17 e18 ⊢
  subst hs
  go_enter Tryz.func143, Tryz.ntmps143
  go_wp2_with (fail)
  refine (hli.out _).mono ?_; rintro e w1 ⟨A3, c3, rfl, hb1⟩
  have B1 := Lib.hid (bt ((Below.refl _ _).alloc (Nat.le_refl _) _ : Below w.heap.size w _) hb1)
  have s1 : w.heap.size < w1.heap.size := by have := hb1.size; rw [World.size_alloc] at this; omega
  have m4 : w1.cell? ⟨w.heap.size, 4, none⟩ = some (.int .i64 sk) := (boxed_cell hb1 4).trans e4
  have m5 : w1.cell? ⟨w.heap.size, 5, none⟩ = some (.slice A n1 c) := (boxed_cell hb1 5).trans e5
  have m6 : w1.cell? ⟨w.heap.size, 6, none⟩ = some (.int .i64 sm) := (boxed_cell hb1 6).trans e6
  have m7 : w1.cell? ⟨w.heap.size, 7, none⟩ = some (.int .i64 sn) := (boxed_cell hb1 7).trans e7
  have m8 : w1.cell? ⟨w.heap.size, 8, none⟩ = some (.int .i64 so) := (boxed_cell hb1 8).trans e8
  have m11 : w1.cell? ⟨w.heap.size, 11, none⟩ = some (.int .i64 2) := (boxed_cell hb1 11).trans e11
  have m12 : w1.cell? ⟨w.heap.size, 12, none⟩ = some (.bool held) := (boxed_cell hb1 12).trans e12
  have m14 : w1.cell? ⟨w.heap.size, 14, none⟩ = some (.int .i64 promise) := (boxed_cell hb1 14).trans e14
  have m15 : w1.cell? ⟨w.heap.size, 15, none⟩ = some (.int .i64 choice) := (boxed_cell hb1 15).trans e15
  have m16 : w1.cell? ⟨w.heap.size, 16, none⟩ = some (.int .i64 start) := (boxed_cell hb1 16).trans e16
  have m17 : w1.cell? ⟨w.heap.size, 17, none⟩ = some (.int .i64 limit) := (boxed_cell hb1 17).trans e17
  have m18 : w1.cell? ⟨w.heap.size, 18, none⟩ = some (.int .u64 u) := (boxed_cell hb1 18).trans e18
  clear hb1
  go_wp2_with (fail)
  refine (hwl.out _ B1.out).mono ?_; rintro e w3 ⟨rfl, hb3⟩
  have B3 := Lib.hid (bt B1.out hb3)
  have s3 : w.heap.size < w3.heap.size := Nat.lt_of_lt_of_le s1 hb3.size
  have k4 : w3.cell? ⟨w.heap.size, 4, none⟩ = some (.int .i64 sk) := ((bcell hb3).1 _ _ s1).trans m4
  have k5 : w3.cell? ⟨w.heap.size, 5, none⟩ = some (.slice A n1 c) := ((bcell hb3).1 _ _ s1).trans m5
  have k6 : w3.cell? ⟨w.heap.size, 6, none⟩ = some (.int .i64 sm) := ((bcell hb3).1 _ _ s1).trans m6
  have k7 : w3.cell? ⟨w.heap.size, 7, none⟩ = some (.int .i64 sn) := ((bcell hb3).1 _ _ s1).trans m7
  have k8 : w3.cell? ⟨w.heap.size, 8, none⟩ = some (.int .i64 so) := ((bcell hb3).1 _ _ s1).trans m8
  have k12 : w3.cell? ⟨w.heap.size, 12, none⟩ = some (.bool held) := ((bcell hb3).1 _ _ s1).trans m12
  have k14 : w3.cell? ⟨w.heap.size, 14, none⟩ = some (.int .i64 promise) := ((bcell hb3).1 _ _ s1).trans m14
  have k15 : w3.cell? ⟨w.heap.size, 15, none⟩ = some (.int .i64 choice) := ((bcell hb3).1 _ _ s1).trans m15
  have k16 : w3.cell? ⟨w.heap.size, 16, none⟩ = some (.int .i64 start) := ((bcell hb3).1 _ _ s1).trans m16
  have k17 : w3.cell? ⟨w.heap.size, 17, none⟩ = some (.int .i64 limit) := ((bcell hb3).1 _ _ s1).trans m17
  have k18 : w3.cell? ⟨w.heap.size, 18, none⟩ = some (.int .u64 u) := ((bcell hb3).1 _ _ s1).trans m18
  clear hb3 s1 m4 m5 m6 m7 m8 m11 m12 m14 m15 m16 m17 m18
  cases ok
  case false =>
    have HR : Hid (R = _) := HE.out
    simp only [Bool.true_and, Bool.false_and, Bool.and_true, Bool.and_false, Bool.or_true, Bool.true_or, Bool.or_false, Bool.false_or, Bool.not_true, Bool.not_false] at HR
    clear HE
    go_wp2_with (first | (go_at_call 128; (first | (with_reducible refine (q1.out _).mono ?_) | (with_reducible refine (q2.out _).mono ?_) | (with_reducible refine (q3.out _).mono ?_)); rintro e w2 ⟨rfl, rfl⟩) | (go_at_call 131; refine (q4.out _).mono ?_; rintro e w2 ⟨rfl, rfl⟩) | (go_at_call 134; refine (q5.out _).mono ?_; rintro e w2 ⟨rfl, rfl⟩))
    go_ret
    exact ⟨by rw [HR.out] <;> rfl, B3.out⟩
  cases held
  case true =>
    have HR : Hid (R = _) := HE.out
    simp only [Bool.true_and, Bool.false_and, Bool.and_true, Bool.and_false, Bool.or_true, Bool.true_or, Bool.or_false, Bool.false_or, Bool.not_true, Bool.not_false] at HR
    clear HE
    go_wp2_with (first | (go_at_call 128; (first | (with_reducible refine (q1.out _).mono ?_) | (with_reducible refine (q2.out _).mono ?_) | (with_reducible refine (q3.out _).mono ?_)); rintro e w2 ⟨rfl, rfl⟩) | (go_at_call 131; refine (q4.out _).mono ?_; rintro e w2 ⟨rfl, rfl⟩) | (go_at_call 134; refine (q5.out _).mono ?_; rintro e w2 ⟨rfl, rfl⟩))
    go_ret
    exact ⟨by rw [HR.out] <;> rfl, B3.out⟩
  cases z1
  case false =>
    have HR : Hid (R = _) := HE.out
    simp only [Bool.true_and, Bool.false_and, Bool.and_true, Bool.and_false, Bool.or_true, Bool.true_or, Bool.or_false, Bool.false_or, Bool.not_true, Bool.not_false] at HR
    clear HE
    go_wp2_with (first | (go_at_call 128; (first | (with_reducible refine (q1.out _).mono ?_) | (with_reducible refine (q2.out _).mono ?_) | (with_reducible refine (q3.out _).mono ?_)); rintro e w2 ⟨rfl, rfl⟩) | (go_at_call 131; refine (q4.out _).mono ?_; rintro e w2 ⟨rfl, rfl⟩) | (go_at_call 134; refine (q5.out _).mono ?_; rintro e w2 ⟨rfl, rfl⟩))
    go_ret
    exact ⟨by rw [HR.out] <;> rfl, B3.out⟩
  cases z2
  case false =>
    have HR : Hid (R = _) := HE.out
    simp only [Bool.true_and, Bool.false_and, Bool.and_true, Bool.and_false, Bool.or_true, Bool.true_or, Bool.or_false, Bool.false_or, Bool.not_true, Bool.not_false] at HR
    clear HE
    go_wp2_with (first | (go_at_call 128; (first | (with_reducible refine (q1.out _).mono ?_) | (with_reducible refine (q2.out _).mono ?_) | (with_reducible refine (q3.out _).mono ?_)); rintro e w2 ⟨rfl, rfl⟩) | (go_at_call 131; refine (q4.out _).mono ?_; rintro e w2 ⟨rfl, rfl⟩) | (go_at_call 134; refine (q5.out _).mono ?_; rintro e w2 ⟨rfl, rfl⟩))
    go_ret
    exact ⟨by rw [HR.out] <;> rfl, B3.out⟩
  by_cases h5 : start ≤ promise
  case neg =>
    have p5 : decide (start ≤ promise) = false := decide_eq_false h5
    have p5n : decide (promise < start) = true := decide_eq_true (by omega)
    clear h5
    have HR : Hid (R = _) := HE.out
    rw [p5] at HR
    simp only [Bool.true_and, Bool.false_and, Bool.and_true, Bool.and_false, Bool.or_true, Bool.true_or, Bool.or_false, Bool.false_or, Bool.not_true, Bool.not_false] at HR
    clear HE
    go_wp2_with (first | (go_at_call 128; (first | (with_reducible refine (q1.out _).mono ?_) | (with_reducible refine (q2.out _).mono ?_) | (with_reducible refine (q3.out _).mono ?_)); rintro e w2 ⟨rfl, rfl⟩) | (go_at_call 131; refine (q4.out _).mono ?_; rintro e w2 ⟨rfl, rfl⟩) | (go_at_call 134; refine (q5.out _).mono ?_; rintro e w2 ⟨rfl, rfl⟩))
    go_ret
    exact ⟨by rw [HR.out] <;> rfl, B3.out⟩
  have p5 : decide (start ≤ promise) = true := decide_eq_true h5
  have p5n : decide (promise < start) = false := decide_eq_false (by omega)
  clear h5
  cases z3
  case false =>
    have HR : Hid (R = _) := HE.out
    rw [p5] at HR
    simp only [Bool.true_and, Bool.false_and, Bool.and_true, Bool.and_false, Bool.or_true, Bool.true_or, Bool.or_false, Bool.false_or, Bool.not_true, Bool.not_false] at HR
    clear HE
    go_wp2_with (first | (go_at_call 128; (first | (with_reducible refine (q1.out _).mono ?_) | (with_reducible refine (q2.out _).mono ?_) | (with_reducible refine (q3.out _).mono ?_)); rintro e w2 ⟨rfl, rfl⟩) | (go_at_call 131; refine (q4.out _).mono ?_; rintro e w2 ⟨rfl, rfl⟩) | (go_at_call 134; refine (q5.out _).mono ?_; rintro e w2 ⟨rfl, rfl⟩))
    go_ret
    exact ⟨by rw [HR.out] <;> rfl, B3.out⟩
  obtain ⟨b1, b2⟩ := HT1 rfl
  have hw : IntKind.i64.wrap (start + wl) = start + wl := wrap_of (by omega) (by omega)
  obtain ⟨b3, b4⟩ := HWL
  clear HT1 HT2
  cases p6 : limit == start + wl
  case false =>
    have p6n := bne_f p6
    have HR : Hid (R = _) := HE.out
    rw [p5, p6] at HR
    simp only [Bool.true_and, Bool.false_and, Bool.and_true, Bool.and_false, Bool.or_true, Bool.true_or, Bool.or_false, Bool.false_or, Bool.not_true, Bool.not_false] at HR
    clear HE
    go_wp2_with (first | (go_at_call 128; (first | (with_reducible refine (q1.out _).mono ?_) | (with_reducible refine (q2.out _).mono ?_) | (with_reducible refine (q3.out _).mono ?_)); rintro e w2 ⟨rfl, rfl⟩) | (go_at_call 131; refine (q4.out _).mono ?_; rintro e w2 ⟨rfl, rfl⟩) | (go_at_call 134; refine (q5.out _).mono ?_; rintro e w2 ⟨rfl, rfl⟩))
    go_ret
    exact ⟨by rw [HR.out] <;> rfl, B3.out⟩
  have p6n := bne_t p6
  cases z4
  case false =>
    have HR : Hid (R = _) := HE.out
    rw [p5, p6] at HR
    simp only [Bool.true_and, Bool.false_and, Bool.and_true, Bool.and_false, Bool.or_true, Bool.true_or, Bool.or_false, Bool.false_or, Bool.not_true, Bool.not_false] at HR
    clear HE
    go_wp2_with (first | (go_at_call 128; (first | (with_reducible refine (q1.out _).mono ?_) | (with_reducible refine (q2.out _).mono ?_) | (with_reducible refine (q3.out _).mono ?_)); rintro e w2 ⟨rfl, rfl⟩) | (go_at_call 131; refine (q4.out _).mono ?_; rintro e w2 ⟨rfl, rfl⟩) | (go_at_call 134; refine (q5.out _).mono ?_; rintro e w2 ⟨rfl, rfl⟩))
    go_ret
    exact ⟨by rw [HR.out] <;> rfl, B3.out⟩
  have HR : Hid (R = z5) := by show _ = _; rw [HE.out, p5, p6]; simp only [Bool.true_and, Bool.false_and, Bool.and_true, Bool.and_false, Bool.or_true, Bool.true_or, Bool.or_false, Bool.false_or, Bool.not_true, Bool.not_false]
  clear HE
  go_wp2_with (first | (go_at_call 133; refine (hal.out _ B3.out).mono ?_; rintro e w4 ⟨rfl, hb4⟩) | (first | (go_at_call 128; (first | (with_reducible refine (q1.out _).mono ?_) | (with_reducible refine (q2.out _).mono ?_) | (with_reducible refine (q3.out _).mono ?_)); rintro e w2 ⟨rfl, rfl⟩) | (go_at_call 131; refine (q4.out _).mono ?_; rintro e w2 ⟨rfl, rfl⟩) | (go_at_call 134; refine (q5.out _).mono ?_; rintro e w2 ⟨rfl, rfl⟩)))
  go_ret
  exact ⟨by rw [HR.out] <;> rfl, bt B3.out hb4⟩
set_option maxHeartbeats 16000000 in
theorem rstate_end (x : Jb) (A A2 : Option Addr) (c c2 B : Nat) (w : World) (hx : JbAt w B x A c A2 c2) (hB : B ≤ w.heap.size) (hm : x.nodes < M64) (hs : x.state ≠ 1 ∧ x.state ≠ 2) :
    Calls Tryz.prog 143 #[jbV x A c A2 c2] w fun e w' => e = .returned (.bool (endedB x.state && overB x)) ∧ Below w.heap.size w w' := by
  have hwl := Lib.hid (fun v (hv : Below w.heap.size w v) => rwall14_any x.shape A c B x.choice v (hx.1.below (hv.mono hB)) (Nat.le_trans hB hv.size) hx.2.2.1 hx.2.2.2.2.1)
  have hal := Lib.hid (fun v (hv : Below w.heap.size w v) => rallows_any x.shape A c B x.choice ((memL x.nodes).length : Nat) v (hx.1.below (hv.mono hB)) (Nat.le_trans hB hv.size) hx.2.2.1 hx.2.2.2.2.1)
  have hli := Lib.hid (fun v => rlist_len x.nodes v hm)
  have q1 := Lib.hid (fun v => rtick_any x.start v)
  have q2 := Lib.hid (fun v => rtick_any x.promise v)
  have q3 := Lib.hid (fun v => rtick_any x.limit v)
  have q4 := Lib.hid (fun v => rfew_any x.nodes v)
  have q5 := Lib.hid (fun v => rended_any x.state v)
  have HT1 : tickB x.start = true → 0 ≤ x.start ∧ x.start ≤ 1000000 := by intro h; unfold tickB inB at h; simpa using h
  have HW := hasO_wall x.shape x.choice
  have HT2 : (x.promise == -1) = true → tickB x.promise = false := by intro h; rw [beq_iff_eq] at h; rw [h]; rfl
  have HZ := hasO_zero x.shape x.choice
  have HWL := wall_le x.shape x.choice
  have HN := ne_nat x.nodes
  have HE := Lib.hid (endB_is x)
  clear hx hB hm
  obtain ⟨R, hR⟩ : ∃ R, (endedB x.state && overB x) = R := ⟨_, rfl⟩
  rw [hR] at HE ⊢
  clear hR
  rw [jbV_is]
  have e4 : (jbA x A c A2 c2)[4]? = some (.int .i64 x.shape.kind) := rfl
  have e5 : (jbA x A c A2 c2)[5]? = some (.slice A x.shape.alts.length c) := rfl
  have e6 : (jbA x A c A2 c2)[6]? = some (.int .i64 x.shape.mn) := rfl
  have e7 : (jbA x A c A2 c2)[7]? = some (.int .i64 x.shape.mx) := rfl
  have e8 : (jbA x A c A2 c2)[8]? = some (.int .i64 x.shape.wall) := rfl
  have e11 : (jbA x A c A2 c2)[11]? = some (.int .i64 x.state) := rfl
  have e12 : (jbA x A c A2 c2)[12]? = some (.bool x.held) := rfl
  have e14 : (jbA x A c A2 c2)[14]? = some (.int .i64 x.promise) := rfl
  have e15 : (jbA x A c A2 c2)[15]? = some (.int .i64 x.choice) := rfl
  have e16 : (jbA x A c A2 c2)[16]? = some (.int .i64 x.start) := rfl
  have e17 : (jbA x A c A2 c2)[17]? = some (.int .i64 x.limit) := rfl
  have e18 : (jbA x A c A2 c2)[18]? = some (.int .u64 x.nodes) := rfl
  obtain ⟨cs, hcs⟩ : ∃ cs, jbA x A c A2 c2 = cs := ⟨_, rfl⟩
  rw [hcs] at e4 e5 e6 e7 e8 e11 e12 e14 e15 e16 e17 e18 ⊢
  clear hcs
  unfold shV at hal hwl
  obtain ⟨wl, h⟩ : ∃ a, wallS x.shape x.choice = a := ⟨_, rfl⟩
  (try rw [h] at HE)
  rw [h] at hwl HW HZ HWL
  clear h
  obtain ⟨ok, h⟩ : ∃ a, hasO x.shape x.choice = a := ⟨_, rfl⟩
  (try rw [h] at HE)
  rw [h] at HW HZ
  clear h
  replace HW := HW.symm
  obtain ⟨cn, h⟩ : ∃ n : Nat, (memL x.nodes).length = n := ⟨_, rfl⟩
  (try rw [h] at HE)
  rw [h] at hal
  rw [h] at hli
  clear h
  obtain ⟨z5, h⟩ : ∃ q, allowS x.shape x.choice (cn : Int) = q := ⟨_, rfl⟩
  (try rw [h] at HE)
  rw [h] at hal
  clear h
  obtain ⟨z1, h⟩ : ∃ q, tickB x.start = q := ⟨_, rfl⟩
  (try rw [h] at HE)
  rw [h] at q1 HT1
  clear h
  obtain ⟨z2, h⟩ : ∃ q, tickB x.promise = q := ⟨_, rfl⟩
  (try rw [h] at HE)
  rw [h] at q2 HT2
  clear h
  obtain ⟨z3, h⟩ : ∃ q, tickB x.limit = q := ⟨_, rfl⟩
  (try rw [h] at HE)
  rw [h] at q3
  clear h
  obtain ⟨z4, h⟩ : ∃ q, fewS x.nodes = q := ⟨_, rfl⟩
  (try rw [h] at HE)
  rw [h] at q4
  clear h
  obtain ⟨z6, h⟩ : ∃ q, endedB x.state = q := ⟨_, rfl⟩
  (try rw [h] at HE)
  rw [h] at q5
  clear h
  obtain ⟨z7, h⟩ : ∃ q, (x.nodes == 0) = q := ⟨_, rfl⟩
  (try rw [h] at HE)
  rw [h] at HN
  clear h
  obtain ⟨u, h⟩ : ∃ u : Int, (x.nodes : Int) = u := ⟨_, rfl⟩
  rw [h] at hli q4 HN e18
  clear h
  obtain ⟨n1, e1⟩ : ∃ n, x.shape.alts.length = n := ⟨_, rfl⟩
  rw [e1] at hal hwl e5
  clear e1
  obtain ⟨id, name, user, account, ⟨sk, sl, sm, sn, so⟩, prio, after, state, held, born, promise, choice, start, limit, nodes, used⟩ := x
  dsimp only at hwl hal q1 q2 q3 q4 q5 HE HT1 HT2 hs e4 e5 e6 e7 e8 e11 e12 e14 e15 e16 e17 e18 ⊢
  have g1 : (state == 1) = false := beq_eq_false_iff_ne.2 hs.1
  have g2 : (state == 2) = false := beq_eq_false_iff_ne.2 hs.2
  clear hs
  go_enter Tryz.func143, Tryz.ntmps143
  go_wp2_with (fail)
  refine (hli.out _).mono ?_; rintro e w1 ⟨A3, c3, rfl, hb1⟩
  have B1 := Lib.hid (bt ((Below.refl _ _).alloc (Nat.le_refl _) _ : Below w.heap.size w _) hb1)
  have s1 : w.heap.size < w1.heap.size := by have := hb1.size; rw [World.size_alloc] at this; omega
  have m4 : w1.cell? ⟨w.heap.size, 4, none⟩ = some (.int .i64 sk) := (boxed_cell hb1 4).trans e4
  have m5 : w1.cell? ⟨w.heap.size, 5, none⟩ = some (.slice A n1 c) := (boxed_cell hb1 5).trans e5
  have m6 : w1.cell? ⟨w.heap.size, 6, none⟩ = some (.int .i64 sm) := (boxed_cell hb1 6).trans e6
  have m7 : w1.cell? ⟨w.heap.size, 7, none⟩ = some (.int .i64 sn) := (boxed_cell hb1 7).trans e7
  have m8 : w1.cell? ⟨w.heap.size, 8, none⟩ = some (.int .i64 so) := (boxed_cell hb1 8).trans e8
  have m11 : w1.cell? ⟨w.heap.size, 11, none⟩ = some (.int .i64 state) := (boxed_cell hb1 11).trans e11
  have m12 : w1.cell? ⟨w.heap.size, 12, none⟩ = some (.bool held) := (boxed_cell hb1 12).trans e12
  have m14 : w1.cell? ⟨w.heap.size, 14, none⟩ = some (.int .i64 promise) := (boxed_cell hb1 14).trans e14
  have m15 : w1.cell? ⟨w.heap.size, 15, none⟩ = some (.int .i64 choice) := (boxed_cell hb1 15).trans e15
  have m16 : w1.cell? ⟨w.heap.size, 16, none⟩ = some (.int .i64 start) := (boxed_cell hb1 16).trans e16
  have m17 : w1.cell? ⟨w.heap.size, 17, none⟩ = some (.int .i64 limit) := (boxed_cell hb1 17).trans e17
  have m18 : w1.cell? ⟨w.heap.size, 18, none⟩ = some (.int .u64 u) := (boxed_cell hb1 18).trans e18
  clear hb1
  cases z6
  case false =>
    have HR : Hid (R = _) := HE.out
    simp only [Bool.true_and, Bool.false_and, Bool.and_true, Bool.and_false, Bool.or_true, Bool.true_or, Bool.or_false, Bool.false_or, Bool.not_true, Bool.not_false] at HR
    clear HE
    go_wp2_with (first | (go_at_call 128; (first | (with_reducible refine (q1.out _).mono ?_) | (with_reducible refine (q2.out _).mono ?_) | (with_reducible refine (q3.out _).mono ?_)); rintro e w2 ⟨rfl, rfl⟩) | (go_at_call 131; refine (q4.out _).mono ?_; rintro e w2 ⟨rfl, rfl⟩) | (go_at_call 134; refine (q5.out _).mono ?_; rintro e w2 ⟨rfl, rfl⟩))
    go_ret
    exact ⟨by rw [HR.out] <;> rfl, B1.out⟩
  cases z7
  case false =>
    have HR : Hid (R = _) := HE.out
    simp only [Bool.true_and, Bool.false_and, Bool.and_true, Bool.and_false, Bool.or_true, Bool.true_or, Bool.or_false, Bool.false_or, Bool.not_true, Bool.not_false] at HR
    clear HE
    go_wp2_with (first | (go_at_call 128; (first | (with_reducible refine (q1.out _).mono ?_) | (with_reducible refine (q2.out _).mono ?_) | (with_reducible refine (q3.out _).mono ?_)); rintro e w2 ⟨rfl, rfl⟩) | (go_at_call 131; refine (q4.out _).mono ?_; rintro e w2 ⟨rfl, rfl⟩) | (go_at_call 134; refine (q5.out _).mono ?_; rintro e w2 ⟨rfl, rfl⟩))
    go_ret
    exact ⟨by rw [HR.out] <;> rfl, B1.out⟩
  cases z1
  case false =>
    have HR : Hid (R = _) := HE.out
    simp only [Bool.true_and, Bool.false_and, Bool.and_true, Bool.and_false, Bool.or_true, Bool.true_or, Bool.or_false, Bool.false_or, Bool.not_true, Bool.not_false] at HR
    clear HE
    go_wp2_with (first | (go_at_call 128; (first | (with_reducible refine (q1.out _).mono ?_) | (with_reducible refine (q2.out _).mono ?_) | (with_reducible refine (q3.out _).mono ?_)); rintro e w2 ⟨rfl, rfl⟩) | (go_at_call 131; refine (q4.out _).mono ?_; rintro e w2 ⟨rfl, rfl⟩) | (go_at_call 134; refine (q5.out _).mono ?_; rintro e w2 ⟨rfl, rfl⟩))
    go_ret
    exact ⟨by rw [HR.out] <;> rfl, B1.out⟩
  cases z3
  case false =>
    have HR : Hid (R = _) := HE.out
    simp only [Bool.true_and, Bool.false_and, Bool.and_true, Bool.and_false, Bool.or_true, Bool.true_or, Bool.or_false, Bool.false_or, Bool.not_true, Bool.not_false] at HR
    clear HE
    go_wp2_with (first | (go_at_call 128; (first | (with_reducible refine (q1.out _).mono ?_) | (with_reducible refine (q2.out _).mono ?_) | (with_reducible refine (q3.out _).mono ?_)); rintro e w2 ⟨rfl, rfl⟩) | (go_at_call 131; refine (q4.out _).mono ?_; rintro e w2 ⟨rfl, rfl⟩) | (go_at_call 134; refine (q5.out _).mono ?_; rintro e w2 ⟨rfl, rfl⟩))
    go_ret
    exact ⟨by rw [HR.out] <;> rfl, B1.out⟩
  cases p1 : decide (-1 ≤ promise)
  case false =>
    have HR : Hid (R = _) := HE.out
    rw [p1] at HR
    simp only [Bool.true_and, Bool.false_and, Bool.and_true, Bool.and_false, Bool.or_true, Bool.true_or, Bool.or_false, Bool.false_or, Bool.not_true, Bool.not_false] at HR
    clear HE
    go_wp2_with (first | (go_at_call 128; (first | (with_reducible refine (q1.out _).mono ?_) | (with_reducible refine (q2.out _).mono ?_) | (with_reducible refine (q3.out _).mono ?_)); rintro e w2 ⟨rfl, rfl⟩) | (go_at_call 131; refine (q4.out _).mono ?_; rintro e w2 ⟨rfl, rfl⟩) | (go_at_call 134; refine (q5.out _).mono ?_; rintro e w2 ⟨rfl, rfl⟩))
    go_ret
    exact ⟨by rw [HR.out] <;> rfl, B1.out⟩
  cases p2 : decide (promise ≤ 1000000)
  case false =>
    have HR : Hid (R = _) := HE.out
    rw [p1, p2] at HR
    simp only [Bool.true_and, Bool.false_and, Bool.and_true, Bool.and_false, Bool.or_true, Bool.true_or, Bool.or_false, Bool.false_or, Bool.not_true, Bool.not_false] at HR
    clear HE
    go_wp2_with (first | (go_at_call 128; (first | (with_reducible refine (q1.out _).mono ?_) | (with_reducible refine (q2.out _).mono ?_) | (with_reducible refine (q3.out _).mono ?_)); rintro e w2 ⟨rfl, rfl⟩) | (go_at_call 131; refine (q4.out _).mono ?_; rintro e w2 ⟨rfl, rfl⟩) | (go_at_call 134; refine (q5.out _).mono ?_; rintro e w2 ⟨rfl, rfl⟩))
    go_ret
    exact ⟨by rw [HR.out] <;> rfl, B1.out⟩
  cases p3 : decide (0 ≤ choice)
  case false =>
    have HR : Hid (R = _) := HE.out
    rw [p1, p2, p3] at HR
    simp only [Bool.true_and, Bool.false_and, Bool.and_true, Bool.and_false, Bool.or_true, Bool.true_or, Bool.or_false, Bool.false_or, Bool.not_true, Bool.not_false] at HR
    clear HE
    go_wp2_with (first | (go_at_call 128; (first | (with_reducible refine (q1.out _).mono ?_) | (with_reducible refine (q2.out _).mono ?_) | (with_reducible refine (q3.out _).mono ?_)); rintro e w2 ⟨rfl, rfl⟩) | (go_at_call 131; refine (q4.out _).mono ?_; rintro e w2 ⟨rfl, rfl⟩) | (go_at_call 134; refine (q5.out _).mono ?_; rintro e w2 ⟨rfl, rfl⟩))
    go_ret
    exact ⟨by rw [HR.out] <;> rfl, B1.out⟩
  cases p4 : decide (choice ≤ 48)
  case false =>
    have HR : Hid (R = _) := HE.out
    rw [p1, p2, p3, p4] at HR
    simp only [Bool.true_and, Bool.false_and, Bool.and_true, Bool.and_false, Bool.or_true, Bool.true_or, Bool.or_false, Bool.false_or, Bool.not_true, Bool.not_false] at HR
    clear HE
    go_wp2_with (first | (go_at_call 128; (first | (with_reducible refine (q1.out _).mono ?_) | (with_reducible refine (q2.out _).mono ?_) | (with_reducible refine (q3.out _).mono ?_)); rintro e w2 ⟨rfl, rfl⟩) | (go_at_call 131; refine (q4.out _).mono ?_; rintro e w2 ⟨rfl, rfl⟩) | (go_at_call 134; refine (q5.out _).mono ?_; rintro e w2 ⟨rfl, rfl⟩))
    go_ret
    exact ⟨by rw [HR.out] <;> rfl, B1.out⟩
  have HR : Hid (R = _) := HE.out
  rw [p1, p2, p3, p4] at HR
  simp only [Bool.true_and, Bool.false_and, Bool.and_true, Bool.and_false, Bool.or_true, Bool.true_or, Bool.or_false, Bool.false_or, Bool.not_true, Bool.not_false] at HR
  clear HE
  go_wp2_with (first | (go_at_call 128; (first | (with_reducible refine (q1.out _).mono ?_) | (with_reducible refine (q2.out _).mono ?_) | (with_reducible refine (q3.out _).mono ?_)); rintro e w2 ⟨rfl, rfl⟩) | (go_at_call 131; refine (q4.out _).mono ?_; rintro e w2 ⟨rfl, rfl⟩) | (go_at_call 134; refine (q5.out _).mono ?_; rintro e w2 ⟨rfl, rfl⟩))
  go_ret
  exact ⟨by rw [HR.out] <;> rfl, B1.out⟩
theorem rstate_any (x : Jb) (A A2 : Option Addr) (c c2 B : Nat) (w : World) (hx : JbAt w B x A c A2 c2) (hB : B ≤ w.heap.size) (hm : x.nodes < M64) :
    Calls Tryz.prog 143 #[jbV x A c A2 c2] w fun e w' => e = .returned (.bool (stateB x)) ∧ Below w.heap.size w w' := by
  unfold stateB
  by_cases h1 : x.state = 1
  · rw [if_pos h1]; exact rstate_queued x A A2 c c2 B w hx hB hm h1
  · rw [if_neg h1]
    by_cases h2 : x.state = 2
    · rw [if_pos h2]; exact rstate_run x A A2 c c2 B w hx hB hm h2
    · rw [if_neg h2]; exact rstate_end x A A2 c c2 B w hx hB hm ⟨h1, h2⟩
theorem rsub_subm (x : Jb) : rsubB (submC x) = subJ x := by
  unfold rsubB noneS subJ
  simp [submC]
def NoLate (l : List Pr) (id : Int) (k : Nat) : Prop := ∀ (j : Nat) (y : Pr), j < k → l[j]? = some y → ¬ id ≤ y.2
theorem late_hit {l : List Pr} {id : Int} {k : Nat} {y : Pr} (h : l[k]? = some y) (hy : id ≤ y.2) : l.any (fun d => decide (id ≤ d.2)) = true :=
  List.any_eq_true.2 ⟨y, List.mem_of_getElem? h, decide_eq_true hy⟩
theorem late_none {l : List Pr} {id : Int} (h : NoLate l id l.length) : l.any (fun d => decide (id ≤ d.2)) = false := by
  rw [List.any_eq_false]
  intro y hy
  obtain ⟨j, hj, rfl⟩ := List.mem_iff_getElem.1 hy
  exact fun e => h j _ hj (List.getElem?_eq_getElem hj) (of_decide_eq_true e)
set_option maxHeartbeats 16000000 in
theorem rcheck14_any (x : Jb) (A A2 : Option Addr) (c c2 B : Nat) (w : World) (hx : JbAt w B x A c A2 c2) (hB : B ≤ w.heap.size) (hz : JbSz x) :
    Calls Tryz.prog 74 #[jbV x A c A2 c2] w fun e w' => e = .returned (.int .i64 (jobE x)) ∧ Below w.heap.size w w' := by
  have q1 := Lib.hid (fun v => rtick_any x.born v)
  have q4 := Lib.hid (fun v (hv : Below w.heap.size w v) => rcheck_submit (submC x) A A2 c c2 B v rfl (hx.below (hv.mono hB)).subm (Nat.le_trans hB hv.size) hz.subm)
  have q9 := Lib.hid (fun v (hv : Below w.heap.size w v) => rstate_any x A A2 c c2 B v (hx.below (hv.mono hB)) (Nat.le_trans hB hv.size) hz.2)
  have HE := Lib.hid (jobE_is x)
  have HA := Lib.hid (fun v (hv : Below w.heap.size w v) => hx.2.1.below (hv.mono hB))
  have HL := Lib.hid (fun (k : Nat) (y : Pr) => @late_hit x.after x.id k y)
  have HN := Lib.hid (@late_none x.after x.id)
  have hm0 := hx.2.2.2.1
  have hU : usedB x.used = (decide (0 ≤ x.used) && decide (x.used ≤ 1000000000000)) := rfl
  rw [rsub_subm] at q4
  clear hx hz
  obtain ⟨R, hR⟩ : ∃ R, jobE x = R := ⟨_, rfl⟩
  rw [hR] at HE ⊢
  clear hR
  rw [hU] at HE
  clear hU
  obtain ⟨z1, h⟩ : ∃ q, tickB x.born = q := ⟨_, rfl⟩
  rw [h] at q1 HE
  clear h
  obtain ⟨z3, h⟩ : ∃ q, subJ x = q := ⟨_, rfl⟩
  rw [h] at q4 HE
  clear h
  obtain ⟨z4, h⟩ : ∃ q, x.after.any (fun d => decide (x.id ≤ d.2)) = q := ⟨_, rfl⟩
  rw [h] at HE HL HN
  clear h
  obtain ⟨z5, h⟩ : ∃ q, stateB x = q := ⟨_, rfl⟩
  rw [h] at HE q9
  clear h
  unfold cmV submC at q4
  dsimp only at q4
  rw [jbV_is] at q9 ⊢
  have e0 : (jbA x A c A2 c2)[0]? = some (.int .i64 x.id) := rfl
  have e1 : (jbA x A c A2 c2)[1]? = some (.string x.name) := rfl
  have e2 : (jbA x A c A2 c2)[2]? = some (.string x.user) := rfl
  have e3 : (jbA x A c A2 c2)[3]? = some (.string x.account) := rfl
  have e4 : (jbA x A c A2 c2)[4]? = some (.int .i64 x.shape.kind) := rfl
  have e5 : (jbA x A c A2 c2)[5]? = some (.slice A x.shape.alts.length c) := rfl
  have e6 : (jbA x A c A2 c2)[6]? = some (.int .i64 x.shape.mn) := rfl
  have e7 : (jbA x A c A2 c2)[7]? = some (.int .i64 x.shape.mx) := rfl
  have e8 : (jbA x A c A2 c2)[8]? = some (.int .i64 x.shape.wall) := rfl
  have e9 : (jbA x A c A2 c2)[9]? = some (.int .i64 x.prio) := rfl
  have e10 : (jbA x A c A2 c2)[10]? = some (.slice A2 x.after.length c2) := rfl
  have e13 : (jbA x A c A2 c2)[13]? = some (.int .i64 x.born) := rfl
  have e19 : (jbA x A c A2 c2)[19]? = some (.int .i64 x.used) := rfl
  have HS := Lib.hid (jbA_size x A c A2 c2)
  have H1 := Lib.hid (jbA_one x A c A2 c2)
  obtain ⟨cs, hcs⟩ : ∃ cs, Hid (jbA x A c A2 c2 = cs) := ⟨_, rfl⟩
  rw [hcs.out] at HS H1 e0 e1 e2 e3 e4 e5 e6 e7 e8 e9 e10 e13 e19 q9 ⊢
  obtain ⟨n, HN_⟩ : ∃ n, Hid (x.shape.alts.length = n) := ⟨_, rfl⟩
  rw [HN_.out] at e5
  obtain ⟨m, HM⟩ : ∃ m, Hid (x.after.length = m) := ⟨_, rfl⟩
  rw [HM.out] at e10
  rw [HN_.out] at q4
  rw [HM.out] at q4 HA HN hm0
  clear hB
  have HCA : Hid (#[.int .i64 1, .int .i64 0, .string x.name, .string x.user, .string x.account, .int .i64 x.shape.kind, .slice A n c, .int .i64 x.shape.mn, .int .i64 x.shape.mx, .int .i64 x.shape.wall, .int .i64 x.prio, .bool true, .int .i64 0, .bool false, .slice A2 m c2, .int .i64 0, .int .i64 0, .int .i64 0] = (#[.int .i64 1, .int .i64 0, .string x.name, .string x.user, .string x.account, .int .i64 x.shape.kind, .slice A n c, .int .i64 x.shape.mn, .int .i64 x.shape.mx, .int .i64 x.shape.wall, .int .i64 x.prio, .bool true, .int .i64 0, .bool false, .slice A2 m c2, .int .i64 0, .int .i64 0, .int .i64 0] : Array Value)) := Lib.hid rfl
  clear HCA
  obtain ⟨W0, hW0⟩ : ∃ W0, Hid (((w.alloc (.cells cs 28)).alloc (.cells #[.int .i64 1, .int .i64 0, .string x.name, .string x.user, .string x.account, .int .i64 x.shape.kind, .slice A n c, .int .i64 x.shape.mn, .int .i64 x.shape.mx, .int .i64 x.shape.wall, .int .i64 x.prio, .bool true, .int .i64 0, .bool false, .slice A2 m c2, .int .i64 0, .int .i64 0, .int .i64 0] 30)) = W0) := ⟨_, rfl⟩
  have HROW : Hid (((w.alloc (.cells cs 28)).alloc (.cells #[.int .i64 0, .int .i64 0, .string ⟨#[]⟩, .string ⟨#[]⟩, .string ⟨#[]⟩, .int .i64 0, .slice none 0 0, .int .i64 0, .int .i64 0, .int .i64 0, .int .i64 0, .bool false, .int .i64 0, .bool false, .slice none 0 0, .int .i64 0, .int .i64 0, .int .i64 0] 30)).setRow (w.heap.size + 1) #[.int .i64 1, .int .i64 0, .string x.name, .string x.user, .string x.account, .int .i64 x.shape.kind, .slice A n c, .int .i64 x.shape.mn, .int .i64 x.shape.mx, .int .i64 x.shape.wall, .int .i64 x.prio, .bool true, .int .i64 0, .bool false, .slice A2 m c2, .int .i64 0, .int .i64 0, .int .i64 0] = W0) := by
    show _ = _
    have hrow := World.setRow_alloc_new (w.alloc (.cells cs 28)) #[.int .i64 0, .int .i64 0, .string ⟨#[]⟩, .string ⟨#[]⟩, .string ⟨#[]⟩, .int .i64 0, .slice none 0 0, .int .i64 0, .int .i64 0, .int .i64 0, .int .i64 0, .bool false, .int .i64 0, .bool false, .slice none 0 0, .int .i64 0, .int .i64 0, .int .i64 0] #[.int .i64 1, .int .i64 0, .string x.name, .string x.user, .string x.account, .int .i64 x.shape.kind, .slice A n c, .int .i64 x.shape.mn, .int .i64 x.shape.mx, .int .i64 x.shape.wall, .int .i64 x.prio, .bool true, .int .i64 0, .bool false, .slice A2 m c2, .int .i64 0, .int .i64 0, .int .i64 0] 30
    rw [World.size_alloc] at hrow
    rw [hrow, hW0.out]
  have HBX : Hid (Below w.heap.size w W0) := by
    show Below _ _ _
    rw [← hW0.out]
    exact ((Below.refl _ _).alloc (Nat.le_refl _) _).alloc (by simp) _
  have HCX : Hid (W0.heap[w.heap.size]? = some (.cells cs 28 (0, 0))) := by
    show _ = _
    rw [← hW0.out]
    exact (Below.heap_alloc _ _ _ (by simp)).trans (heap_alloc_new w _)
  have HCY : Hid (W0.heap[w.heap.size + 1]? = some (.cells #[.int .i64 1, .int .i64 0, .string x.name, .string x.user, .string x.account, .int .i64 x.shape.kind, .slice A n c, .int .i64 x.shape.mn, .int .i64 x.shape.mx, .int .i64 x.shape.wall, .int .i64 x.prio, .bool true, .int .i64 0, .bool false, .slice A2 m c2, .int .i64 0, .int .i64 0, .int .i64 0] 30 (0, 0))) := by
    show _ = _
    rw [← hW0.out]
    exact alloc2 _ _ _
  have hs0 : w.heap.size + 1 < W0.heap.size := (Array.getElem?_eq_some_iff.1 HCY.out).1
  go_enter Tryz.func74, Tryz.ntmps74
  go_wp2_with (first
    | (refine wpList_store_row rfl 30 _ _ rfl (w.heap.size + 1) _ rfl rfl 30 _ (alloc2 _ _ _) (by kernel_rfl) rfl (by rw [List.all_toArray]; rfl) ?_; rw [HROW.out])
    | (refine wpList_load_row rfl 30 _ rfl (w.heap.size + 1) rfl 30 _ (0, 0) _ HCY.out Tryz.underlying30 rfl (by kernel_rfl) ?_))
  refine (q4.out _ HBX.out).mono ?_
  rintro e w1 ⟨rfl, b1⟩
  have g1 := (b1.block _ (by omega)).trans HCX.out
  have B1 := Lib.hid (HBX.out.trans (b1.mono HBX.out.size))
  have s1 : w.heap.size < w1.heap.size := (Array.getElem?_eq_some_iff.1 g1).1
  have x0 : w1.cell? ⟨w.heap.size, 0, none⟩ = some (.int .i64 x.id) := (cell_of_row w1 _ 0 _ _ _ g1).trans e0
  have x10 : w1.cell? ⟨w.heap.size, 10, none⟩ = some (.slice A2 m c2) := (cell_of_row w1 _ 10 _ _ _ g1).trans e10
  have x13 : w1.cell? ⟨w.heap.size, 13, none⟩ = some (.int .i64 x.born) := (cell_of_row w1 _ 13 _ _ _ g1).trans e13
  have x19 : w1.cell? ⟨w.heap.size, 19, none⟩ = some (.int .i64 x.used) := (cell_of_row w1 _ 19 _ _ _ g1).trans e19
  have G1 := Lib.hid g1
  clear b1 g1
  cases z3
  case false =>
    have HR : Hid (R = 140) := by show _ = _; rw [HE.out]; simp []
    clear HE
    go_wp2_with (go_at_call 128; refine (q1.out _).mono ?_; rintro e w2 ⟨rfl, rfl⟩)
    go_ret
    exact ⟨by rw [HR.out] <;> rfl, B1.out⟩
  by_cases h1 : 1 ≤ x.id
  case neg =>
    have t1 : decide (x.id < 1) = true := decide_eq_true (by omega)
    have t1x : decide (1 ≤ x.id) = false := decide_eq_false h1
    clear h1
    have HR : Hid (R = 140) := by show _ = _; rw [HE.out]; simp [t1x]
    clear HE
    go_wp2_with (go_at_call 128; refine (q1.out _).mono ?_; rintro e w2 ⟨rfl, rfl⟩)
    go_ret
    exact ⟨by rw [HR.out] <;> rfl, B1.out⟩
  have t1 : decide (x.id < 1) = false := decide_eq_false (by omega)
  have t1x : decide (1 ≤ x.id) = true := decide_eq_true h1
  clear h1
  by_cases h2 : x.id ≤ 99999
  case neg =>
    have t2 : decide (99999 < x.id) = true := decide_eq_true (by omega)
    have t2x : decide (x.id ≤ 99999) = false := decide_eq_false h2
    clear h2
    have HR : Hid (R = 140) := by show _ = _; rw [HE.out]; simp [t1x, t2x]
    clear HE
    go_wp2_with (go_at_call 128; refine (q1.out _).mono ?_; rintro e w2 ⟨rfl, rfl⟩)
    go_ret
    exact ⟨by rw [HR.out] <;> rfl, B1.out⟩
  have t2 : decide (99999 < x.id) = false := decide_eq_false (by omega)
  have t2x : decide (x.id ≤ 99999) = true := decide_eq_true h2
  clear h2
  cases z1
  case false =>
    have HR : Hid (R = 140) := by show _ = _; rw [HE.out]; simp []
    clear HE
    go_wp2_with (go_at_call 128; refine (q1.out _).mono ?_; rintro e w2 ⟨rfl, rfl⟩)
    go_ret
    exact ⟨by rw [HR.out] <;> rfl, B1.out⟩
  by_cases h3 : 0 ≤ x.used
  case neg =>
    have t3 : decide (x.used < 0) = true := decide_eq_true (by omega)
    have t3x : decide (0 ≤ x.used) = false := decide_eq_false h3
    clear h3
    have HR : Hid (R = 140) := by show _ = _; rw [HE.out]; simp [t3x]
    clear HE
    go_wp2_with (go_at_call 128; refine (q1.out _).mono ?_; rintro e w2 ⟨rfl, rfl⟩)
    go_ret
    exact ⟨by rw [HR.out] <;> rfl, B1.out⟩
  have t3 : decide (x.used < 0) = false := decide_eq_false (by omega)
  have t3x : decide (0 ≤ x.used) = true := decide_eq_true h3
  clear h3
  by_cases h4 : x.used ≤ 1000000000000
  case neg =>
    have t4 : decide (1000000000000 < x.used) = true := decide_eq_true (by omega)
    have t4x : decide (x.used ≤ 1000000000000) = false := decide_eq_false h4
    clear h4
    have HR : Hid (R = 140) := by show _ = _; rw [HE.out]; simp [t4x]
    clear HE
    go_wp2_with (go_at_call 128; refine (q1.out _).mono ?_; rintro e w2 ⟨rfl, rfl⟩)
    go_ret
    exact ⟨by rw [HR.out] <;> rfl, B1.out⟩
  have t4 : decide (1000000000000 < x.used) = false := decide_eq_false (by omega)
  have t4x : decide (x.used ≤ 1000000000000) = true := decide_eq_true h4
  clear h4
  have HE2 : Hid (R = if (!z4 && z5) = true then 0 else 140) := by show _ = _; rw [HE.out]; simp [t1x, t2x, t3x, t4x]
  clear HE
  go_wp2_with (go_at_call 128; refine (q1.out _).mono ?_; rintro e w2 ⟨rfl, rfl⟩)
  go_loopw [4] (fun i wr => ∃ k : Nat, k ≤ m ∧ i = .int .i64 k ∧ Below w1.heap.size w1 wr ∧ Hid (NoLate x.after x.id k)) (fun i _ => m - (intOf i).toNat)
  case atStart => exact ⟨0, Nat.zero_le _, rfl, Below.refl _ _, Lib.hid (fun j y h => by omega)⟩
  case round =>
    obtain ⟨k, hk, rfl, hbr, HG⟩ := hrel
    have BR := Lib.hid (B1.out.trans (hbr.mono (Nat.le_of_lt s1)))
    have hbc := (bcell hbr).1
    have v0 : wr.cell? ⟨w.heap.size, 0, none⟩ = some (.int .i64 x.id) := (hbc _ _ s1).trans x0
    have v10 : wr.cell? ⟨w.heap.size, 10, none⟩ = some (.slice A2 m c2) := (hbc _ _ s1).trans x10
    have v13 : wr.cell? ⟨w.heap.size, 13, none⟩ = some (.int .i64 x.born) := (hbc _ _ s1).trans x13
    have v19 : wr.cell? ⟨w.heap.size, 19, none⟩ = some (.int .i64 x.used) := (hbc _ _ s1).trans x19
    have g2 := (hbr.block _ s1).trans G1.out
    have s2 : w.heap.size < wr.heap.size := Nat.lt_of_lt_of_le s1 hbr.size
    have HBR := Lib.hid hbr
    have G2 := Lib.hid g2
    clear hbr hbc g2 x0 x10 x13 x19
    by_cases hlt : k < m
    · obtain ⟨b, off, y, rfl, hbb, hy, c0, c1⟩ := (HA.out wr BR.out).pr_at hlt
      have hi0 : (0 : Int) ≤ (k : Int) := by omega
      have hi1 : (k : Int) < (m : Int) := by omega
      have t0 : decide ((k : Int) < (m : Int)) = true := by simp; omega
      have t0' : decide (k < m) = true := by simp; omega
      by_cases hl : x.id ≤ y.2
      · have HR : Hid (R = 140) := by show _ = _; rw [HE2.out, HL.out _ _ hy.out hl]; rfl
        have t5 : decide (x.id ≤ y.2) = true := decide_eq_true hl
        clear HE2 hl
        go_wp2
        go_quiet (fail)
        go_wp2
        go_ret
        exact ⟨by rw [HR.out] <;> rfl, below_drewN BR.out _⟩
      · have HG2 : Hid (NoLate x.after x.id (k + 1)) := Lib.hid (fun j z hj hz => by
          by_cases e : j = k
          · subst e; have := hy.out; rw [hz] at this; rw [Option.some.inj this]; exact hl
          · exact HG.out j z (by omega) hz)
        have t5 : decide (x.id ≤ y.2) = false := decide_eq_false hl
        clear hl
        go_wp2
        go_quiet (fail)
        go_wp2
        go_roundw
        case rel => exact ⟨k + 1, by omega, by simp, below_drewN HBR.out _, HG2⟩
        case measure => simp [intOf]; omega
    · obtain rfl : k = m := by omega
      have t0 : decide ((k : Int) < (k : Int)) = false := by simp
      have HR : Hid (R = if z5 = true then 0 else 140) := by show _ = _; rw [HE2.out, HN.out HG.out]; simp
      clear HE2 hlt
      go_wp2_with (refine wpList_load_row rfl 28 _ rfl (w.heap.size) rfl 28 _ (0, 0) _ G2.out Tryz.underlying28 rfl (info30 HS.out) ?_)
      refine (q9.out _ BR.out).mono ?_; rintro e w3 ⟨rfl, b3⟩
      cases z5
      all_goals
        go_wp2
        go_ret
        exact ⟨by rw [HR.out]; rfl, bt BR.out b3⟩
end Go.Proofs.YtghmcdfmbjabnaaGreatDoor
