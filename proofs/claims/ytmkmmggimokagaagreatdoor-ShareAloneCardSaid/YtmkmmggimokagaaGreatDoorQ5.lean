/- Layer 14: a job's states, walked (printed by a program of my own). Layer 14: a job's states, walked (printed by a program of my own). Layer 14: Check walked (printed by a program of my own). -/
import Derived.Test.YtmkmmggimokagaaGreatDoorQ4
import Derived.Test.YtmkmmggimokagaaGreatDoorQ1
import Derived.Test.YtmkmmggimokagaaGreatDoorQ2
namespace Go.Proofs.YtmkmmggimokagaaGreatDoor
set_option linter.unusedVariables false
open Go.RowKit
set_option linter.unusedSimpArgs false in
set_option maxHeartbeats 4000000 in
set_option maxRecDepth 100000 in
theorem queued_any (x : Jb) (A A2 : Option Addr) (c c2 B : Nat) (w : World) (hx : JbAt w B x A c A2 c2) (hB : B ≤ w.heap.size) :
    Calls Tryz.prog 33 #[jbV x A c A2 c2] w fun e w' => e = .returned (.bool (queuedB x)) ∧ Below w.heap.size w w' := by
  have ho := Lib.hid (fun v (hv : Below w.heap.size w v) => option_any x A A2 c c2 B x.choice v (hx.below (hv.mono hB)) (Nat.le_trans hB hv.size))
  have q1 := Lib.hid (fun v => tick_any x.promise v)
  have HE : Hid (queuedB x = ((x.start == 0) && ((x.limit == 0) && ((x.nodes == 0) && (((x.promise == -1) && (x.choice == 0)) || (tickB x.promise && (hasO x.shape x.choice && !x.held))))))) := rfl
  have hu : ((x.nodes : Int) == 0) = (x.nodes == 0) := by rw [Bool.eq_iff_iff]; simp
  clear hx hB
  rw [jbV_is] at ho ⊢
  have e12 : (jbA x A c A2 c2)[12]? = some (.bool x.held) := rfl
  have e14 : (jbA x A c A2 c2)[14]? = some (.int .i64 x.promise) := rfl
  have e15 : (jbA x A c A2 c2)[15]? = some (.int .i64 x.choice) := rfl
  have e16 : (jbA x A c A2 c2)[16]? = some (.int .i64 x.start) := rfl
  have e17 : (jbA x A c A2 c2)[17]? = some (.int .i64 x.limit) := rfl
  have e18 : (jbA x A c A2 c2)[18]? = some (.int .u64 x.nodes) := rfl
  have HS := Lib.hid (jbA_size x A c A2 c2)
  have H1 := Lib.hid (jbA_one x A c A2 c2)
  obtain ⟨cs, hcs⟩ : ∃ cs, Hid (jbA x A c A2 c2 = cs) := ⟨_, rfl⟩
  rw [hcs.out] at HS H1 e12 e14 e15 e16 e17 e18 ho ⊢
  obtain ⟨u, HU⟩ : ∃ u : Int, Hid ((x.nodes : Int) = u) := ⟨_, rfl⟩
  rw [HU.out] at e18
  rw [HU.out] at hu
  obtain ⟨R, hR⟩ : ∃ R, queuedB x = R := ⟨_, rfl⟩
  rw [hR] at HE ⊢
  obtain ⟨a, ha⟩ : ∃ a, optAt x.shape x.choice = a := ⟨_, rfl⟩
  rw [ha] at ho
  obtain ⟨an, aw⟩ := a
  obtain ⟨ok, hok⟩ : ∃ a, hasO x.shape x.choice = a := ⟨_, rfl⟩
  rw [hok] at ho HE
  obtain ⟨z1, hz1⟩ : ∃ q, tickB x.promise = q := ⟨_, rfl⟩
  rw [hz1] at q1 HE
  obtain ⟨z3, hz3⟩ : ∃ q, (x.nodes == 0) = q := ⟨_, rfl⟩
  rw [hz3] at hu HE
  dsimp only at ho
  clear hR ha hok hz1 hz3
  go_enter Tryz.func33, Tryz.ntmps33
  go_wp2_with (refine wpList_load_row rfl 70 _ rfl (w.heap.size) rfl 70 _ (0, 0) _ (heap_alloc_new w _) Tryz.underlying70 rfl (info88 HS.out) ?_)
  refine (ho.out _ bx0).mono ?_; rintro e w1 ⟨rfl, hb1⟩
  obtain ⟨g1, hb, s1⟩ := box_row hb1
  have B1 := Lib.hid hb
  have m12 : w1.cell? ⟨w.heap.size, 12, none⟩ = some (.bool x.held) := (cell_of_row w1 _ 12 _ _ _ g1).trans e12
  have m14 : w1.cell? ⟨w.heap.size, 14, none⟩ = some (.int .i64 x.promise) := (cell_of_row w1 _ 14 _ _ _ g1).trans e14
  have m15 : w1.cell? ⟨w.heap.size, 15, none⟩ = some (.int .i64 x.choice) := (cell_of_row w1 _ 15 _ _ _ g1).trans e15
  have m16 : w1.cell? ⟨w.heap.size, 16, none⟩ = some (.int .i64 x.start) := (cell_of_row w1 _ 16 _ _ _ g1).trans e16
  have m17 : w1.cell? ⟨w.heap.size, 17, none⟩ = some (.int .i64 x.limit) := (cell_of_row w1 _ 17 _ _ _ g1).trans e17
  have m18 : w1.cell? ⟨w.heap.size, 18, none⟩ = some (.int .u64 u) := (cell_of_row w1 _ 18 _ _ _ g1).trans e18
  clear hb1 hb g1
  cases p1 : x.promise == -1
  case false =>
    cases p3 : x.start == 0
    case false =>
      have HR : Hid (R = _) := HE.out
      rw [p1, p3] at HR
      simp only [Bool.true_and, Bool.false_and, Bool.and_true, Bool.and_false, Bool.or_true, Bool.true_or, Bool.or_false, Bool.false_or, Bool.not_true, Bool.not_false] at HR
      clear HE
      go_wp2_with (go_at_call 27; (first | (with_reducible refine (q1.out _).mono ?_)); rintro e w2 ⟨rfl, rfl⟩)
      go_ret
      exact ⟨by rw [HR.out] <;> rfl, B1.out.alloc B1.out.size _⟩
    cases p4 : x.limit == 0
    case false =>
      have HR : Hid (R = _) := HE.out
      rw [p1, p3, p4] at HR
      simp only [Bool.true_and, Bool.false_and, Bool.and_true, Bool.and_false, Bool.or_true, Bool.true_or, Bool.or_false, Bool.false_or, Bool.not_true, Bool.not_false] at HR
      clear HE
      go_wp2_with (go_at_call 27; (first | (with_reducible refine (q1.out _).mono ?_)); rintro e w2 ⟨rfl, rfl⟩)
      go_ret
      exact ⟨by rw [HR.out] <;> rfl, B1.out.alloc B1.out.size _⟩
    cases z3
    case false =>
      have HR : Hid (R = _) := HE.out
      rw [p1, p3, p4] at HR
      simp only [Bool.true_and, Bool.false_and, Bool.and_true, Bool.and_false, Bool.or_true, Bool.true_or, Bool.or_false, Bool.false_or, Bool.not_true, Bool.not_false] at HR
      clear HE
      go_wp2_with (go_at_call 27; (first | (with_reducible refine (q1.out _).mono ?_)); rintro e w2 ⟨rfl, rfl⟩)
      go_ret
      exact ⟨by rw [HR.out] <;> rfl, B1.out.alloc B1.out.size _⟩
    cases z1
    case false =>
      have HR : Hid (R = _) := HE.out
      rw [p1, p3, p4] at HR
      simp only [Bool.true_and, Bool.false_and, Bool.and_true, Bool.and_false, Bool.or_true, Bool.true_or, Bool.or_false, Bool.false_or, Bool.not_true, Bool.not_false] at HR
      clear HE
      go_wp2_with (go_at_call 27; (first | (with_reducible refine (q1.out _).mono ?_)); rintro e w2 ⟨rfl, rfl⟩)
      go_ret
      exact ⟨by rw [HR.out] <;> rfl, B1.out.alloc B1.out.size _⟩
    cases ok
    case false =>
      have HR : Hid (R = _) := HE.out
      rw [p1, p3, p4] at HR
      simp only [Bool.true_and, Bool.false_and, Bool.and_true, Bool.and_false, Bool.or_true, Bool.true_or, Bool.or_false, Bool.false_or, Bool.not_true, Bool.not_false] at HR
      clear HE
      go_wp2_with (go_at_call 27; (first | (with_reducible refine (q1.out _).mono ?_)); rintro e w2 ⟨rfl, rfl⟩)
      go_ret
      exact ⟨by rw [HR.out] <;> rfl, B1.out.alloc B1.out.size _⟩
    cases ph : x.held
    all_goals
      rw [ph] at m12
      have HR : Hid (R = _) := HE.out
      rw [p1, p3, p4, ph] at HR
      simp only [Bool.true_and, Bool.false_and, Bool.and_true, Bool.and_false, Bool.or_true, Bool.true_or, Bool.or_false, Bool.false_or, Bool.not_true, Bool.not_false] at HR
      clear HE
      go_wp2_with (go_at_call 27; (first | (with_reducible refine (q1.out _).mono ?_)); rintro e w2 ⟨rfl, rfl⟩)
      go_ret
      exact ⟨by rw [HR.out] <;> rfl, B1.out.alloc B1.out.size _⟩
  cases p2 : x.choice == 0
  case false =>
    cases p3 : x.start == 0
    case false =>
      have HR : Hid (R = _) := HE.out
      rw [p1, p2, p3] at HR
      simp only [Bool.true_and, Bool.false_and, Bool.and_true, Bool.and_false, Bool.or_true, Bool.true_or, Bool.or_false, Bool.false_or, Bool.not_true, Bool.not_false] at HR
      clear HE
      go_wp2_with (go_at_call 27; (first | (with_reducible refine (q1.out _).mono ?_)); rintro e w2 ⟨rfl, rfl⟩)
      go_ret
      exact ⟨by rw [HR.out] <;> rfl, B1.out.alloc B1.out.size _⟩
    cases p4 : x.limit == 0
    case false =>
      have HR : Hid (R = _) := HE.out
      rw [p1, p2, p3, p4] at HR
      simp only [Bool.true_and, Bool.false_and, Bool.and_true, Bool.and_false, Bool.or_true, Bool.true_or, Bool.or_false, Bool.false_or, Bool.not_true, Bool.not_false] at HR
      clear HE
      go_wp2_with (go_at_call 27; (first | (with_reducible refine (q1.out _).mono ?_)); rintro e w2 ⟨rfl, rfl⟩)
      go_ret
      exact ⟨by rw [HR.out] <;> rfl, B1.out.alloc B1.out.size _⟩
    cases z3
    case false =>
      have HR : Hid (R = _) := HE.out
      rw [p1, p2, p3, p4] at HR
      simp only [Bool.true_and, Bool.false_and, Bool.and_true, Bool.and_false, Bool.or_true, Bool.true_or, Bool.or_false, Bool.false_or, Bool.not_true, Bool.not_false] at HR
      clear HE
      go_wp2_with (go_at_call 27; (first | (with_reducible refine (q1.out _).mono ?_)); rintro e w2 ⟨rfl, rfl⟩)
      go_ret
      exact ⟨by rw [HR.out] <;> rfl, B1.out.alloc B1.out.size _⟩
    cases z1
    case false =>
      have HR : Hid (R = _) := HE.out
      rw [p1, p2, p3, p4] at HR
      simp only [Bool.true_and, Bool.false_and, Bool.and_true, Bool.and_false, Bool.or_true, Bool.true_or, Bool.or_false, Bool.false_or, Bool.not_true, Bool.not_false] at HR
      clear HE
      go_wp2_with (go_at_call 27; (first | (with_reducible refine (q1.out _).mono ?_)); rintro e w2 ⟨rfl, rfl⟩)
      go_ret
      exact ⟨by rw [HR.out] <;> rfl, B1.out.alloc B1.out.size _⟩
    cases ok
    case false =>
      have HR : Hid (R = _) := HE.out
      rw [p1, p2, p3, p4] at HR
      simp only [Bool.true_and, Bool.false_and, Bool.and_true, Bool.and_false, Bool.or_true, Bool.true_or, Bool.or_false, Bool.false_or, Bool.not_true, Bool.not_false] at HR
      clear HE
      go_wp2_with (go_at_call 27; (first | (with_reducible refine (q1.out _).mono ?_)); rintro e w2 ⟨rfl, rfl⟩)
      go_ret
      exact ⟨by rw [HR.out] <;> rfl, B1.out.alloc B1.out.size _⟩
    cases ph : x.held
    all_goals
      rw [ph] at m12
      have HR : Hid (R = _) := HE.out
      rw [p1, p2, p3, p4, ph] at HR
      simp only [Bool.true_and, Bool.false_and, Bool.and_true, Bool.and_false, Bool.or_true, Bool.true_or, Bool.or_false, Bool.false_or, Bool.not_true, Bool.not_false] at HR
      clear HE
      go_wp2_with (go_at_call 27; (first | (with_reducible refine (q1.out _).mono ?_)); rintro e w2 ⟨rfl, rfl⟩)
      go_ret
      exact ⟨by rw [HR.out] <;> rfl, B1.out.alloc B1.out.size _⟩
  cases p3 : x.start == 0
  case false =>
    have HR : Hid (R = _) := HE.out
    rw [p1, p2, p3] at HR
    simp only [Bool.true_and, Bool.false_and, Bool.and_true, Bool.and_false, Bool.or_true, Bool.true_or, Bool.or_false, Bool.false_or, Bool.not_true, Bool.not_false] at HR
    clear HE
    go_wp2_with (go_at_call 27; (first | (with_reducible refine (q1.out _).mono ?_)); rintro e w2 ⟨rfl, rfl⟩)
    go_ret
    exact ⟨by rw [HR.out] <;> rfl, B1.out.alloc B1.out.size _⟩
  cases p4 : x.limit == 0
  case false =>
    have HR : Hid (R = _) := HE.out
    rw [p1, p2, p3, p4] at HR
    simp only [Bool.true_and, Bool.false_and, Bool.and_true, Bool.and_false, Bool.or_true, Bool.true_or, Bool.or_false, Bool.false_or, Bool.not_true, Bool.not_false] at HR
    clear HE
    go_wp2_with (go_at_call 27; (first | (with_reducible refine (q1.out _).mono ?_)); rintro e w2 ⟨rfl, rfl⟩)
    go_ret
    exact ⟨by rw [HR.out] <;> rfl, B1.out.alloc B1.out.size _⟩
  cases z3
  case false =>
    have HR : Hid (R = _) := HE.out
    rw [p1, p2, p3, p4] at HR
    simp only [Bool.true_and, Bool.false_and, Bool.and_true, Bool.and_false, Bool.or_true, Bool.true_or, Bool.or_false, Bool.false_or, Bool.not_true, Bool.not_false] at HR
    clear HE
    go_wp2_with (go_at_call 27; (first | (with_reducible refine (q1.out _).mono ?_)); rintro e w2 ⟨rfl, rfl⟩)
    go_ret
    exact ⟨by rw [HR.out] <;> rfl, B1.out.alloc B1.out.size _⟩
  have HR : Hid (R = _) := HE.out
  rw [p1, p2, p3, p4] at HR
  simp only [Bool.true_and, Bool.false_and, Bool.and_true, Bool.and_false, Bool.or_true, Bool.true_or, Bool.or_false, Bool.false_or, Bool.not_true, Bool.not_false] at HR
  clear HE
  go_wp2_with (go_at_call 27; (first | (with_reducible refine (q1.out _).mono ?_)); rintro e w2 ⟨rfl, rfl⟩)
  go_ret
  exact ⟨by rw [HR.out] <;> rfl, B1.out.alloc B1.out.size _⟩
set_option linter.unusedSimpArgs false in
set_option maxHeartbeats 4000000 in
set_option maxRecDepth 100000 in
theorem running_any (x : Jb) (A A2 : Option Addr) (c c2 B : Nat) (w : World) (hx : JbAt w B x A c A2 c2) (hB : B ≤ w.heap.size) (hm : x.nodes < M64) :
    Calls Tryz.prog 34 #[jbV x A c A2 c2] w fun e w' => e = .returned (.bool (runB x)) ∧ Below w.heap.size w w' := by
  have ho := Lib.hid (fun v (hv : Below w.heap.size w v) => option_any x A A2 c c2 B x.choice v (hx.below (hv.mono hB)) (Nat.le_trans hB hv.size))
  have hal := Lib.hid (fun v (hv : Below w.heap.size w v) => allows_any x.shape A c B x.choice ((memL x.nodes).length : Nat) v (hx.1.below (hv.mono hB)) (Nat.le_trans hB hv.size) hx.2.2.1 hx.2.2.2.2.1)
  have q1 := Lib.hid (fun v => tick_any x.start v)
  have q2 := Lib.hid (fun v => tick_any x.promise v)
  have q3 := Lib.hid (fun v => tick_any x.limit v)
  have q4 := Lib.hid (fun v => nodes_any x.nodes v hm)
  have q5 := Lib.hid (fun v => cnt09_any x.nodes v hm)
  have HE : Hid (runB x = (hasO x.shape x.choice && (!x.held && (tickB x.start && (tickB x.promise && (decide (x.start ≤ x.promise) && (tickB x.limit && ((x.limit == x.start + (optAt x.shape x.choice).2) && (fewS x.nodes && allowS x.shape x.choice (memL x.nodes).length))))))))) := rfl
  have HT1 : tickB x.start = true → 0 ≤ x.start ∧ x.start ≤ 1000000 := by intro h; unfold tickB inB at h; simpa using h
  have HT3 : tickB x.limit = true → 0 ≤ x.limit ∧ x.limit ≤ 1000000 := by intro h; unfold tickB inB at h; simpa using h
  clear hx hB hm
  rw [jbV_is] at ho ⊢
  have e4 : (jbA x A c A2 c2)[4]? = some (.int .i64 x.shape.kind) := rfl
  have e5 : (jbA x A c A2 c2)[5]? = some (.slice A x.shape.alts.length c) := rfl
  have e6 : (jbA x A c A2 c2)[6]? = some (.int .i64 x.shape.mn) := rfl
  have e7 : (jbA x A c A2 c2)[7]? = some (.int .i64 x.shape.mx) := rfl
  have e8 : (jbA x A c A2 c2)[8]? = some (.int .i64 x.shape.wall) := rfl
  have e12 : (jbA x A c A2 c2)[12]? = some (.bool x.held) := rfl
  have e14 : (jbA x A c A2 c2)[14]? = some (.int .i64 x.promise) := rfl
  have e15 : (jbA x A c A2 c2)[15]? = some (.int .i64 x.choice) := rfl
  have e16 : (jbA x A c A2 c2)[16]? = some (.int .i64 x.start) := rfl
  have e17 : (jbA x A c A2 c2)[17]? = some (.int .i64 x.limit) := rfl
  have e18 : (jbA x A c A2 c2)[18]? = some (.int .u64 x.nodes) := rfl
  have HS := Lib.hid (jbA_size x A c A2 c2)
  have H1 := Lib.hid (jbA_one x A c A2 c2)
  obtain ⟨cs, hcs⟩ : ∃ cs, Hid (jbA x A c A2 c2 = cs) := ⟨_, rfl⟩
  rw [hcs.out] at HS H1 e4 e5 e6 e7 e8 e12 e14 e15 e16 e17 e18 ho ⊢
  obtain ⟨n, HN⟩ : ∃ n, Hid (x.shape.alts.length = n) := ⟨_, rfl⟩
  rw [HN.out] at e5
  obtain ⟨u, HU⟩ : ∃ u : Int, Hid ((x.nodes : Int) = u) := ⟨_, rfl⟩
  rw [HU.out] at e18
  unfold shV at hal
  rw [HN.out] at hal
  rw [HU.out] at q4 q5
  obtain ⟨R, hR⟩ : ∃ R, runB x = R := ⟨_, rfl⟩
  rw [hR] at HE ⊢
  obtain ⟨a, ha⟩ : ∃ a, optAt x.shape x.choice = a := ⟨_, rfl⟩
  rw [ha] at ho HE
  obtain ⟨ok, hok⟩ : ∃ a, hasO x.shape x.choice = a := ⟨_, rfl⟩
  rw [hok] at ho HE
  obtain ⟨cn, hcn⟩ : ∃ n : Nat, (memL x.nodes).length = n := ⟨_, rfl⟩
  rw [hcn] at hal q5 HE
  obtain ⟨z5, hz5⟩ : ∃ q, allowS x.shape x.choice (cn : Int) = q := ⟨_, rfl⟩
  rw [hz5] at hal HE
  obtain ⟨z1, hz1⟩ : ∃ q, tickB x.start = q := ⟨_, rfl⟩
  rw [hz1] at q1 HE HT1
  obtain ⟨z2, hz2⟩ : ∃ q, tickB x.promise = q := ⟨_, rfl⟩
  rw [hz2] at q2 HE
  obtain ⟨z3, hz3⟩ : ∃ q, tickB x.limit = q := ⟨_, rfl⟩
  rw [hz3] at q3 HE HT3
  obtain ⟨z4, hz4⟩ : ∃ q, fewS x.nodes = q := ⟨_, rfl⟩
  rw [hz4] at q4 HE
  obtain ⟨d, hd⟩ : ∃ d : Int, (cn : Int) = d := ⟨_, rfl⟩
  rw [hd] at hal q5
  obtain ⟨held, hh⟩ : ∃ b, x.held = b := ⟨_, rfl⟩
  rw [hh] at e12 HE
  obtain ⟨an, aw⟩ := a
  dsimp only at ho HE
  clear hz1 hz2 hz3 hz4 hz5 ha hok hcn hd hR hh
  go_enter Tryz.func34, Tryz.ntmps34
  go_wp2_with (refine wpList_load_row rfl 70 _ rfl (w.heap.size) rfl 70 _ (0, 0) _ (heap_alloc_new w _) Tryz.underlying70 rfl (info88 HS.out) ?_)
  refine (ho.out _ bx0).mono ?_; rintro e w1 ⟨rfl, hb1⟩
  obtain ⟨g1, hb, s1⟩ := box_row hb1
  have B1 := Lib.hid hb
  have m4 : w1.cell? ⟨w.heap.size, 4, none⟩ = some (.int .i64 x.shape.kind) := (cell_of_row w1 _ 4 _ _ _ g1).trans e4
  have m5 : w1.cell? ⟨w.heap.size, 5, none⟩ = some (.slice A n c) := (cell_of_row w1 _ 5 _ _ _ g1).trans e5
  have m6 : w1.cell? ⟨w.heap.size, 6, none⟩ = some (.int .i64 x.shape.mn) := (cell_of_row w1 _ 6 _ _ _ g1).trans e6
  have m7 : w1.cell? ⟨w.heap.size, 7, none⟩ = some (.int .i64 x.shape.mx) := (cell_of_row w1 _ 7 _ _ _ g1).trans e7
  have m8 : w1.cell? ⟨w.heap.size, 8, none⟩ = some (.int .i64 x.shape.wall) := (cell_of_row w1 _ 8 _ _ _ g1).trans e8
  have m12 : w1.cell? ⟨w.heap.size, 12, none⟩ = some (.bool held) := (cell_of_row w1 _ 12 _ _ _ g1).trans e12
  have m14 : w1.cell? ⟨w.heap.size, 14, none⟩ = some (.int .i64 x.promise) := (cell_of_row w1 _ 14 _ _ _ g1).trans e14
  have m15 : w1.cell? ⟨w.heap.size, 15, none⟩ = some (.int .i64 x.choice) := (cell_of_row w1 _ 15 _ _ _ g1).trans e15
  have m16 : w1.cell? ⟨w.heap.size, 16, none⟩ = some (.int .i64 x.start) := (cell_of_row w1 _ 16 _ _ _ g1).trans e16
  have m17 : w1.cell? ⟨w.heap.size, 17, none⟩ = some (.int .i64 x.limit) := (cell_of_row w1 _ 17 _ _ _ g1).trans e17
  have m18 : w1.cell? ⟨w.heap.size, 18, none⟩ = some (.int .u64 u) := (cell_of_row w1 _ 18 _ _ _ g1).trans e18
  clear hb1 hb g1
  cases ok
  case false =>
    have HR : Hid (R = _) := HE.out
    simp only [Bool.true_and, Bool.false_and, Bool.and_true, Bool.and_false, Bool.not_true, Bool.not_false] at HR
    clear HE
    go_wp2_with (go_at_call 27; (first | (with_reducible refine (q1.out _).mono ?_) | (with_reducible refine (q2.out _).mono ?_) | (with_reducible refine (q3.out _).mono ?_)); rintro e w2 ⟨rfl, rfl⟩)
    go_ret
    exact ⟨by rw [HR.out] <;> rfl, B1.out.alloc B1.out.size _⟩
  cases held
  case true =>
    have HR : Hid (R = _) := HE.out
    simp only [Bool.true_and, Bool.false_and, Bool.and_true, Bool.and_false, Bool.not_true, Bool.not_false] at HR
    clear HE
    go_wp2_with (go_at_call 27; (first | (with_reducible refine (q1.out _).mono ?_) | (with_reducible refine (q2.out _).mono ?_) | (with_reducible refine (q3.out _).mono ?_)); rintro e w2 ⟨rfl, rfl⟩)
    go_ret
    exact ⟨by rw [HR.out] <;> rfl, B1.out.alloc B1.out.size _⟩
  cases z1
  case false =>
    have HR : Hid (R = _) := HE.out
    simp only [Bool.true_and, Bool.false_and, Bool.and_true, Bool.and_false, Bool.not_true, Bool.not_false] at HR
    clear HE
    go_wp2_with (go_at_call 27; (first | (with_reducible refine (q1.out _).mono ?_) | (with_reducible refine (q2.out _).mono ?_) | (with_reducible refine (q3.out _).mono ?_)); rintro e w2 ⟨rfl, rfl⟩)
    go_ret
    exact ⟨by rw [HR.out] <;> rfl, B1.out.alloc B1.out.size _⟩
  cases z2
  case false =>
    have HR : Hid (R = _) := HE.out
    simp only [Bool.true_and, Bool.false_and, Bool.and_true, Bool.and_false, Bool.not_true, Bool.not_false] at HR
    clear HE
    go_wp2_with (go_at_call 27; (first | (with_reducible refine (q1.out _).mono ?_) | (with_reducible refine (q2.out _).mono ?_) | (with_reducible refine (q3.out _).mono ?_)); rintro e w2 ⟨rfl, rfl⟩)
    go_ret
    exact ⟨by rw [HR.out] <;> rfl, B1.out.alloc B1.out.size _⟩
  by_cases h5 : x.start ≤ x.promise
  case neg =>
    have p5 : decide (x.start ≤ x.promise) = false := decide_eq_false h5
    have p5x : decide (x.promise < x.start) = true := decide_eq_true (by omega)
    clear h5
    have HR : Hid (R = _) := HE.out
    rw [p5] at HR
    simp only [Bool.true_and, Bool.false_and, Bool.and_true, Bool.and_false, Bool.not_true, Bool.not_false] at HR
    clear HE
    go_wp2_with (go_at_call 27; (first | (with_reducible refine (q1.out _).mono ?_) | (with_reducible refine (q2.out _).mono ?_) | (with_reducible refine (q3.out _).mono ?_)); rintro e w2 ⟨rfl, rfl⟩)
    go_ret
    exact ⟨by rw [HR.out] <;> rfl, B1.out.alloc B1.out.size _⟩
  have p5 : decide (x.start ≤ x.promise) = true := decide_eq_true h5
  have p5x : decide (x.promise < x.start) = false := decide_eq_false (by omega)
  clear h5
  cases z3
  case false =>
    have HR : Hid (R = _) := HE.out
    rw [p5] at HR
    simp only [Bool.true_and, Bool.false_and, Bool.and_true, Bool.and_false, Bool.not_true, Bool.not_false] at HR
    clear HE
    go_wp2_with (go_at_call 27; (first | (with_reducible refine (q1.out _).mono ?_) | (with_reducible refine (q2.out _).mono ?_) | (with_reducible refine (q3.out _).mono ?_)); rintro e w2 ⟨rfl, rfl⟩)
    go_ret
    exact ⟨by rw [HR.out] <;> rfl, B1.out.alloc B1.out.size _⟩
  obtain ⟨b1, b2⟩ := HT1 rfl
  obtain ⟨b3, b4⟩ := HT3 rfl
  have hw : IntKind.i64.wrap (x.limit - x.start) = x.limit - x.start := wrap_small (by omega) (by omega)
  clear HT1 HT3
  by_cases h6 : x.limit = x.start + aw
  case neg =>
    have p6 : (x.limit == x.start + aw) = false := beq_eq_false_iff_ne.2 h6
    have p6x : ((x.limit - x.start) != aw) = true := by rw [bne_iff_ne]; omega
    clear h6
    have HR : Hid (R = _) := HE.out
    rw [p5, p6] at HR
    simp only [Bool.true_and, Bool.false_and, Bool.and_true, Bool.and_false, Bool.not_true, Bool.not_false] at HR
    clear HE
    go_wp2_with (go_at_call 27; (first | (with_reducible refine (q1.out _).mono ?_) | (with_reducible refine (q2.out _).mono ?_) | (with_reducible refine (q3.out _).mono ?_)); rintro e w2 ⟨rfl, rfl⟩)
    go_ret
    exact ⟨by rw [HR.out] <;> rfl, B1.out.alloc B1.out.size _⟩
  have p6 : (x.limit == x.start + aw) = true := beq_iff_eq.2 h6
  have p6x : ((x.limit - x.start) != aw) = false := by rw [bne_eq_false_iff_eq]; omega
  clear h6
  obtain ⟨W2, hW2⟩ : ∃ W2, Hid (w1.alloc (.cells #[.int .i64 an, .int .i64 aw] 66) = W2) := ⟨_, rfl⟩
  have hb2 : Below w1.heap.size w1 W2 := by rw [← hW2.out]; exact (Below.refl _ _).alloc (Nat.le_refl _) _
  have B2 := Lib.hid (bt B1.out hb2)
  have s2 : w.heap.size < W2.heap.size := Nat.lt_of_lt_of_le s1 hb2.size
  have k4 : W2.cell? ⟨w.heap.size, 4, none⟩ = some (.int .i64 x.shape.kind) := by rw [(bcell hb2).1 _ _ s1]; exact m4
  have k5 : W2.cell? ⟨w.heap.size, 5, none⟩ = some (.slice A n c) := by rw [(bcell hb2).1 _ _ s1]; exact m5
  have k6 : W2.cell? ⟨w.heap.size, 6, none⟩ = some (.int .i64 x.shape.mn) := by rw [(bcell hb2).1 _ _ s1]; exact m6
  have k7 : W2.cell? ⟨w.heap.size, 7, none⟩ = some (.int .i64 x.shape.mx) := by rw [(bcell hb2).1 _ _ s1]; exact m7
  have k8 : W2.cell? ⟨w.heap.size, 8, none⟩ = some (.int .i64 x.shape.wall) := by rw [(bcell hb2).1 _ _ s1]; exact m8
  have k15 : W2.cell? ⟨w.heap.size, 15, none⟩ = some (.int .i64 x.choice) := by rw [(bcell hb2).1 _ _ s1]; exact m15
  have k18 : W2.cell? ⟨w.heap.size, 18, none⟩ = some (.int .u64 u) := by rw [(bcell hb2).1 _ _ s1]; exact m18
  clear hb2
  cases z4
  case false =>
    have HR : Hid (R = _) := HE.out
    rw [p5, p6] at HR
    simp only [Bool.true_and, Bool.false_and, Bool.and_true, Bool.and_false, Bool.not_true, Bool.not_false] at HR
    clear HE
    go_wp2_with (go_at_call 27; (first | (with_reducible refine (q1.out _).mono ?_) | (with_reducible refine (q2.out _).mono ?_) | (with_reducible refine (q3.out _).mono ?_)); rintro e w2 ⟨rfl, rfl⟩)
    rw [hW2.out]
    refine wp_region_later (by kernel_rfl) (by kernel_rfl) ?_
    have hl_ := later_cell (W2)
    repeat (first | go_big_quiet_step (((first | (go_at_call 52; exact later_same (q4.out _)) | (go_at_call 54; exact later_same (q5.out _)) | (go_at_call 53; exact later_of (hal.out _ (B2.out.trans ((Later.below _).mono B2.out.size))))))) | quiet_step (((first | (go_at_call 52; exact later_same (q4.out _)) | (go_at_call 54; exact later_same (q5.out _)) | (go_at_call 53; exact later_of (hal.out _ (B2.out.trans ((Later.below _).mono B2.out.size))))))))
    refine wpQuiet_nil ?_
    intro w9 hx_
    obtain ⟨⟨w_, hb9⟩, e_⟩ := hx_
    have e2_ : w9 = w_ := e_
    clear e_
    subst e2_
    clear hl_
    go_wp2
    go_ret
    exact ⟨by rw [HR.out] <;> rfl, B2.out.trans (hb9.mono B2.out.size)⟩
  have HR : Hid (R = _) := HE.out
  rw [p5, p6] at HR
  simp only [Bool.true_and, Bool.false_and, Bool.and_true, Bool.and_false, Bool.not_true, Bool.not_false] at HR
  clear HE
  go_wp2_with (go_at_call 27; (first | (with_reducible refine (q1.out _).mono ?_) | (with_reducible refine (q2.out _).mono ?_) | (with_reducible refine (q3.out _).mono ?_)); rintro e w2 ⟨rfl, rfl⟩)
  rw [hW2.out]
  refine wp_region_later (by kernel_rfl) (by kernel_rfl) ?_
  have hl_ := later_cell (W2)
  repeat (first | go_big_quiet_step (((first | (go_at_call 52; exact later_same (q4.out _)) | (go_at_call 54; exact later_same (q5.out _)) | (go_at_call 53; exact later_of (hal.out _ (B2.out.trans ((Later.below _).mono B2.out.size))))))) | quiet_step (((first | (go_at_call 52; exact later_same (q4.out _)) | (go_at_call 54; exact later_same (q5.out _)) | (go_at_call 53; exact later_of (hal.out _ (B2.out.trans ((Later.below _).mono B2.out.size))))))))
  refine wpQuiet_nil ?_
  intro w9 hx_
  obtain ⟨⟨w_, hb9⟩, e_⟩ := hx_
  have e2_ : w9 = w_ := e_
  clear e_
  subst e2_
  clear hl_
  go_wp2
  go_ret
  exact ⟨by rw [HR.out] <;> rfl, B2.out.trans (hb9.mono B2.out.size)⟩
theorem chk_subm (x : Jb) : cmdE (submC x) = if subJ x = true then 0 else 80 := by
  rw [cmd_submit rfl]
  have : rsubB (submC x) = subJ x := by
    unfold rsubB noneS subJ
    simp [submC]
  rw [this]
theorem jobE_is (x : Jb) : jobE x = if ((decide (1 ≤ x.id) && decide (x.id ≤ 99999)) && (tickB x.born && (usedB x.used && (subJ x && (!x.after.any (fun d => decide (x.id ≤ d.2)) && stateB x))))) = true then 0 else 140 := rfl
theorem state_q {x : Jb} (h : x.state = 1) : stateB x = queuedB x := by unfold stateB; rw [if_pos h]
theorem state_r {x : Jb} (h : x.state = 2) : stateB x = runB x := by unfold stateB; rw [if_neg (by omega), if_pos h]
theorem state_o {x : Jb} (h : x.state ≠ 1) (h2 : x.state ≠ 2) : stateB x = (endedB x.state && overB x) := by unfold stateB; rw [if_neg h, if_neg h2]
set_option linter.unusedSimpArgs false in
set_option maxHeartbeats 16000000 in
set_option maxRecDepth 100000 in
theorem jcheck_any (x : Jb) (A A2 : Option Addr) (c c2 B : Nat) (w : World) (hx : JbAt w B x A c A2 c2) (hB : B ≤ w.heap.size) (hz : JbSz x) :
    Calls Tryz.prog 18 #[jbV x A c A2 c2] w fun e w' => e = .returned (.int .i64 (jobE x)) ∧ Below w.heap.size w w' := by
  have q1 := Lib.hid (fun v => tick_any x.born v)
  have q2 := Lib.hid (fun v => usage_any x.used v)
  have q3 := Lib.hid (fun v => subm_any x A A2 c c2 v)
  have q4 := Lib.hid (fun v (hv : Below w.heap.size w v) => chk_submit_any (submC x) A A2 c c2 B v rfl (hx.below (hv.mono hB)).subm (Nat.le_trans hB hv.size) hz.subm)
  have eg : ∀ args w, (callFunc 26 args).run Tryz.prog w = .ok (.enter 26 args) w := enters_of Tryz.func26 (by kernel_rfl) rfl
  have q5 := Lib.hid (fun v (hv : Below w.heap.size w v) (hb : w.heap.size < v.heap.size) (hc : v.cell? ⟨w.heap.size, 0, none⟩ = some (.int .i64 x.id)) => hasD_any (fun d => decide (x.id ≤ d.2)) 26 #[.pointer (some ⟨w.heap.size, 0, none⟩)] eg A2 x.after.length c2 B x.after v (hx.2.1.below (hv.mono hB)) (Nat.le_trans hB hv.size) (by have := hx.2.2.2.1; omega) (later_any x.id w.heap.size v hb hc))
  have q6 := Lib.hid (fun v => ended_any x.state v)
  have q7 := Lib.hid (fun v => jover_any x A A2 c c2 v)
  have q8 := Lib.hid (fun v (hv : Below w.heap.size w v) => queued_any x A A2 c c2 B v (hx.below (hv.mono hB)) (Nat.le_trans hB hv.size))
  have q9 := Lib.hid (fun v (hv : Below w.heap.size w v) => running_any x A A2 c c2 B v (hx.below (hv.mono hB)) (Nat.le_trans hB hv.size) hz.2)
  have HE := Lib.hid (jobE_is x)
  have HU := used_clamp x.used
  have HC := chk_subm x
  have S1 := fun h => Lib.hid (@state_q x h)
  have S2 := fun h => Lib.hid (@state_r x h)
  have S3 := fun h h2 => Lib.hid (@state_o x h h2)
  have hmf : ∀ (fn : Fn) (first cap : Array Value) (w : World), (Instr.makeFunc fn first cap).run Tryz.prog w = .ok (.func fn first cap) w := fun _ _ _ _ => rfl
  clear hx hB hz eg
  obtain ⟨R, hR⟩ : ∃ R, jobE x = R := ⟨_, rfl⟩
  rw [hR] at HE ⊢
  clear hR
  obtain ⟨z1, h⟩ : ∃ q, tickB x.born = q := ⟨_, rfl⟩
  rw [h] at q1 HE
  clear h
  obtain ⟨z2, h⟩ : ∃ q, usedB x.used = q := ⟨_, rfl⟩
  rw [h] at HU HE
  clear h
  obtain ⟨cl, h⟩ : ∃ q, clamp x.used 0 1000000000000 = q := ⟨_, rfl⟩
  rw [h] at HU q2
  clear h
  obtain ⟨ce, h⟩ : ∃ q, cmdE (submC x) = q := ⟨_, rfl⟩
  rw [h] at HC q4
  clear h
  obtain ⟨z3, h⟩ : ∃ q, subJ x = q := ⟨_, rfl⟩
  rw [h] at HC HE
  clear h
  obtain ⟨z4, h⟩ : ∃ q, x.after.any (fun d => decide (x.id ≤ d.2)) = q := ⟨_, rfl⟩
  rw [h] at q5 HE
  clear h
  obtain ⟨z5, h⟩ : ∃ q, stateB x = q := ⟨_, rfl⟩
  rw [h] at S1 S2 S3 HE
  clear h
  obtain ⟨z6, h⟩ : ∃ q, endedB x.state = q := ⟨_, rfl⟩
  rw [h] at S3 q6
  clear h
  obtain ⟨z7, h⟩ : ∃ q, overB x = q := ⟨_, rfl⟩
  rw [h] at S3 q7
  clear h
  obtain ⟨z8, h⟩ : ∃ q, queuedB x = q := ⟨_, rfl⟩
  rw [h] at S1 q8
  clear h
  obtain ⟨z9, h⟩ : ∃ q, runB x = q := ⟨_, rfl⟩
  rw [h] at S2 q9
  clear h
  obtain ⟨V, hV⟩ : ∃ V, cmV (submC x) A c A2 c2 = V := ⟨_, rfl⟩
  rw [hV] at q3 q4
  clear hV
  rw [jbV_is] at q3 q7 q8 q9 ⊢
  have e0 : (jbA x A c A2 c2)[0]? = some (.int .i64 x.id) := rfl
  have e10 : (jbA x A c A2 c2)[10]? = some (.slice A2 x.after.length c2) := rfl
  have e11 : (jbA x A c A2 c2)[11]? = some (.int .i64 x.state) := rfl
  have e13 : (jbA x A c A2 c2)[13]? = some (.int .i64 x.born) := rfl
  have e19 : (jbA x A c A2 c2)[19]? = some (.int .i64 x.used) := rfl
  have HS := Lib.hid (jbA_size x A c A2 c2)
  have H1 := Lib.hid (jbA_one x A c A2 c2)
  obtain ⟨cs, hcs⟩ : ∃ cs, Hid (jbA x A c A2 c2 = cs) := ⟨_, rfl⟩
  rw [hcs.out] at HS H1 e0 e10 e11 e13 e19 q3 q7 q8 q9 ⊢
  obtain ⟨m, HM⟩ : ∃ m, x.after.length = m := ⟨_, rfl⟩
  rw [HM] at e10 q5
  clear HM
  have HBX : Hid (Below w.heap.size w ((w.alloc (.cells cs 29)).alloc (.cells cs 70))) := ((Below.refl _ _).alloc (Nat.le_refl _) _).alloc (by simp) _
  obtain ⟨W0, hW0⟩ : ∃ W0, Hid (((w.alloc (.cells cs 29)).alloc (.cells cs 70)) = W0) := ⟨_, rfl⟩
  have HROW : Hid (((w.alloc (.cells cs 29)).alloc (.cells #[.int .i64 0, .string ⟨#[]⟩, .string ⟨#[]⟩, .string ⟨#[]⟩, .int .i64 0, .slice none 0 0, .int .i64 0, .int .i64 0, .int .i64 0, .int .i64 0, .slice none 0 0, .int .i64 0, .bool false, .int .i64 0, .int .i64 0, .int .i64 0, .int .i64 0, .int .i64 0, .int .u64 0, .int .i64 0] 70)).setRow (w.heap.size + 1) cs = W0) := by
    show _ = _
    have hrow := World.setRow_alloc_new (w.alloc (.cells cs 29)) #[.int .i64 0, .string ⟨#[]⟩, .string ⟨#[]⟩, .string ⟨#[]⟩, .int .i64 0, .slice none 0 0, .int .i64 0, .int .i64 0, .int .i64 0, .int .i64 0, .slice none 0 0, .int .i64 0, .bool false, .int .i64 0, .int .i64 0, .int .i64 0, .int .i64 0, .int .i64 0, .int .u64 0, .int .i64 0] cs 70
    rw [World.size_alloc] at hrow
    rw [hrow, hW0.out]
  have hcx : W0.heap[w.heap.size]? = some (.cells cs 29 (0, 0)) := by
    rw [← hW0.out]
    exact (Below.heap_alloc _ _ _ (by simp)).trans (heap_alloc_new w _)
  have hcy : W0.heap[w.heap.size + 1]? = some (.cells cs 70 (0, 0)) := by
    rw [← hW0.out]
    exact alloc2 _ _ _
  rw [hW0.out] at HBX
  have hs0 : w.heap.size + 1 < W0.heap.size := (Array.getElem?_eq_some_iff.1 hcy).1
  have hs1 : w.heap.size < W0.heap.size := by omega
  have x0 : W0.cell? ⟨w.heap.size, 0, none⟩ = some (.int .i64 x.id) := (cell_of_row W0 _ 0 _ _ _ hcx).trans e0
  have x10 : W0.cell? ⟨w.heap.size, 10, none⟩ = some (.slice A2 m c2) := (cell_of_row W0 _ 10 _ _ _ hcx).trans e10
  have x11 : W0.cell? ⟨w.heap.size, 11, none⟩ = some (.int .i64 x.state) := (cell_of_row W0 _ 11 _ _ _ hcx).trans e11
  have x13 : W0.cell? ⟨w.heap.size, 13, none⟩ = some (.int .i64 x.born) := (cell_of_row W0 _ 13 _ _ _ hcx).trans e13
  have x19 : W0.cell? ⟨w.heap.size, 19, none⟩ = some (.int .i64 x.used) := (cell_of_row W0 _ 19 _ _ _ hcx).trans e19
  have HCX := Lib.hid hcx
  have HCY := Lib.hid hcy
  clear hcx hcy
  by_cases h1 : 1 ≤ x.id
  case neg =>
    have t1 : decide (x.id < 1) = true := decide_eq_true (by omega)
    have t1' : decide (1 ≤ x.id) = false := decide_eq_false h1
    clear h1
    have HR : Hid (R = 140) := by show _ = _; rw [HE.out, t1']; simp only [Bool.true_and, Bool.false_and, Bool.and_true, Bool.and_false, Bool.not_true, Bool.not_false, Bool.false_eq_true, if_false, if_true]
    clear HE
    go_enter Tryz.func18, Tryz.ntmps18
    go_wp2_with (first
      | (refine wpList_load_row rfl 29 _ rfl (w.heap.size) rfl 29 _ (0, 0) _ (heap_alloc_new w _) Tryz.underlying29 rfl (info30 HS.out) ?_)
      | (refine wpList_buildTo rfl 70 _ rfl _ rfl cs ((congrArg (Tryz.prog.built 70) (show _ = [(0, Value.agg cs)] by kernel_rfl)).trans (built88 HS.out)) ?_)
      | (refine wpList_store_row rfl 70 _ _ rfl (w.heap.size + 1) _ rfl rfl 70 _ (alloc2 _ _ _) (info88 HS.out) HS.out.symm H1.out ?_; rw [HROW.out]))
    refine wp_region_later (by kernel_rfl) (by kernel_rfl) ?_
    have hl_ := later_cell (W0)
    try simp only [Act.put]
    repeat (first | (go_big_quiet_want; refine quiet_load_row 70 _ rfl (w.heap.size + 1) rfl 70 _ (0, 0) _ (later_row HCY.out) Tryz.underlying70 rfl (info88 HS.out) ?_; go_simp; go_big_quiet_on) | go_big_quiet_step (((first | (go_at_call 27; exact later_same (q1.out _)) | (go_at_call 28; exact later_same (q2.out _)) | (go_at_call 30; exact later_of (q3.out _)) | (go_at_call 29; exact later_of (q4.out _ (HBX.out.trans ((Later.below _).mono HBX.out.size)))) | (go_at_call 31; exact later_of (q5.out _ (HBX.out.trans ((Later.below _).mono HBX.out.size)) (Nat.lt_of_lt_of_le hs1 (Later.below _).size) ((later_cell W0 _ _ _ hs1).trans x0)))))) | quiet_step (((first | (go_at_call 27; exact later_same (q1.out _)) | (go_at_call 28; exact later_same (q2.out _)) | (go_at_call 30; exact later_of (q3.out _)) | (go_at_call 29; exact later_of (q4.out _ (HBX.out.trans ((Later.below _).mono HBX.out.size)))) | (go_at_call 31; exact later_of (q5.out _ (HBX.out.trans ((Later.below _).mono HBX.out.size)) (Nat.lt_of_lt_of_le hs1 (Later.below _).size) ((later_cell W0 _ _ _ hs1).trans x0)))))))
    refine wpQuiet_nil ?_
    intro w9 hx_
    obtain ⟨⟨w_, hb9⟩, e_⟩ := hx_
    have e2_ : w9 = w_ := e_
    clear e_
    subst e2_
    clear hl_
    go_wp2
    go_ret
    exact ⟨by rw [HR.out] <;> rfl, HBX.out.trans (hb9.mono HBX.out.size)⟩
  have t1 : decide (x.id < 1) = false := decide_eq_false (by omega)
  have t1' : decide (1 ≤ x.id) = true := decide_eq_true h1
  clear h1
  by_cases h2 : x.id ≤ 99999
  case neg =>
    have t2 : decide (99999 < x.id) = true := decide_eq_true (by omega)
    have t2' : decide (x.id ≤ 99999) = false := decide_eq_false h2
    clear h2
    have HR : Hid (R = 140) := by show _ = _; rw [HE.out, t1', t2']; simp only [Bool.true_and, Bool.false_and, Bool.and_true, Bool.and_false, Bool.not_true, Bool.not_false, Bool.false_eq_true, if_false, if_true]
    clear HE
    go_enter Tryz.func18, Tryz.ntmps18
    go_wp2_with (first
      | (refine wpList_load_row rfl 29 _ rfl (w.heap.size) rfl 29 _ (0, 0) _ (heap_alloc_new w _) Tryz.underlying29 rfl (info30 HS.out) ?_)
      | (refine wpList_buildTo rfl 70 _ rfl _ rfl cs ((congrArg (Tryz.prog.built 70) (show _ = [(0, Value.agg cs)] by kernel_rfl)).trans (built88 HS.out)) ?_)
      | (refine wpList_store_row rfl 70 _ _ rfl (w.heap.size + 1) _ rfl rfl 70 _ (alloc2 _ _ _) (info88 HS.out) HS.out.symm H1.out ?_; rw [HROW.out]))
    refine wp_region_later (by kernel_rfl) (by kernel_rfl) ?_
    have hl_ := later_cell (W0)
    try simp only [Act.put]
    repeat (first | (go_big_quiet_want; refine quiet_load_row 70 _ rfl (w.heap.size + 1) rfl 70 _ (0, 0) _ (later_row HCY.out) Tryz.underlying70 rfl (info88 HS.out) ?_; go_simp; go_big_quiet_on) | go_big_quiet_step (((first | (go_at_call 27; exact later_same (q1.out _)) | (go_at_call 28; exact later_same (q2.out _)) | (go_at_call 30; exact later_of (q3.out _)) | (go_at_call 29; exact later_of (q4.out _ (HBX.out.trans ((Later.below _).mono HBX.out.size)))) | (go_at_call 31; exact later_of (q5.out _ (HBX.out.trans ((Later.below _).mono HBX.out.size)) (Nat.lt_of_lt_of_le hs1 (Later.below _).size) ((later_cell W0 _ _ _ hs1).trans x0)))))) | quiet_step (((first | (go_at_call 27; exact later_same (q1.out _)) | (go_at_call 28; exact later_same (q2.out _)) | (go_at_call 30; exact later_of (q3.out _)) | (go_at_call 29; exact later_of (q4.out _ (HBX.out.trans ((Later.below _).mono HBX.out.size)))) | (go_at_call 31; exact later_of (q5.out _ (HBX.out.trans ((Later.below _).mono HBX.out.size)) (Nat.lt_of_lt_of_le hs1 (Later.below _).size) ((later_cell W0 _ _ _ hs1).trans x0)))))))
    refine wpQuiet_nil ?_
    intro w9 hx_
    obtain ⟨⟨w_, hb9⟩, e_⟩ := hx_
    have e2_ : w9 = w_ := e_
    clear e_
    subst e2_
    clear hl_
    go_wp2
    go_ret
    exact ⟨by rw [HR.out] <;> rfl, HBX.out.trans (hb9.mono HBX.out.size)⟩
  have t2 : decide (99999 < x.id) = false := decide_eq_false (by omega)
  have t2' : decide (x.id ≤ 99999) = true := decide_eq_true h2
  clear h2
  cases z1
  case false =>
    have HR : Hid (R = 140) := by show _ = _; rw [HE.out, t1', t2']; simp only [Bool.true_and, Bool.false_and, Bool.and_true, Bool.and_false, Bool.not_true, Bool.not_false, Bool.false_eq_true, if_false, if_true]
    clear HE
    go_enter Tryz.func18, Tryz.ntmps18
    go_wp2_with (first
      | (refine wpList_load_row rfl 29 _ rfl (w.heap.size) rfl 29 _ (0, 0) _ (heap_alloc_new w _) Tryz.underlying29 rfl (info30 HS.out) ?_)
      | (refine wpList_buildTo rfl 70 _ rfl _ rfl cs ((congrArg (Tryz.prog.built 70) (show _ = [(0, Value.agg cs)] by kernel_rfl)).trans (built88 HS.out)) ?_)
      | (refine wpList_store_row rfl 70 _ _ rfl (w.heap.size + 1) _ rfl rfl 70 _ (alloc2 _ _ _) (info88 HS.out) HS.out.symm H1.out ?_; rw [HROW.out]))
    refine wp_region_later (by kernel_rfl) (by kernel_rfl) ?_
    have hl_ := later_cell (W0)
    try simp only [Act.put]
    repeat (first | (go_big_quiet_want; refine quiet_load_row 70 _ rfl (w.heap.size + 1) rfl 70 _ (0, 0) _ (later_row HCY.out) Tryz.underlying70 rfl (info88 HS.out) ?_; go_simp; go_big_quiet_on) | go_big_quiet_step (((first | (go_at_call 27; exact later_same (q1.out _)) | (go_at_call 28; exact later_same (q2.out _)) | (go_at_call 30; exact later_of (q3.out _)) | (go_at_call 29; exact later_of (q4.out _ (HBX.out.trans ((Later.below _).mono HBX.out.size)))) | (go_at_call 31; exact later_of (q5.out _ (HBX.out.trans ((Later.below _).mono HBX.out.size)) (Nat.lt_of_lt_of_le hs1 (Later.below _).size) ((later_cell W0 _ _ _ hs1).trans x0)))))) | quiet_step (((first | (go_at_call 27; exact later_same (q1.out _)) | (go_at_call 28; exact later_same (q2.out _)) | (go_at_call 30; exact later_of (q3.out _)) | (go_at_call 29; exact later_of (q4.out _ (HBX.out.trans ((Later.below _).mono HBX.out.size)))) | (go_at_call 31; exact later_of (q5.out _ (HBX.out.trans ((Later.below _).mono HBX.out.size)) (Nat.lt_of_lt_of_le hs1 (Later.below _).size) ((later_cell W0 _ _ _ hs1).trans x0)))))))
    refine wpQuiet_nil ?_
    intro w9 hx_
    obtain ⟨⟨w_, hb9⟩, e_⟩ := hx_
    have e2_ : w9 = w_ := e_
    clear e_
    subst e2_
    clear hl_
    go_wp2
    go_ret
    exact ⟨by rw [HR.out] <;> rfl, HBX.out.trans (hb9.mono HBX.out.size)⟩
  cases z2
  case false =>
    have HU2 := bne_of_false HU
    have HR : Hid (R = 140) := by show _ = _; rw [HE.out, t1', t2']; simp only [Bool.true_and, Bool.false_and, Bool.and_true, Bool.and_false, Bool.not_true, Bool.not_false, Bool.false_eq_true, if_false, if_true]
    clear HE
    go_enter Tryz.func18, Tryz.ntmps18
    go_wp2_with (first
      | (refine wpList_load_row rfl 29 _ rfl (w.heap.size) rfl 29 _ (0, 0) _ (heap_alloc_new w _) Tryz.underlying29 rfl (info30 HS.out) ?_)
      | (refine wpList_buildTo rfl 70 _ rfl _ rfl cs ((congrArg (Tryz.prog.built 70) (show _ = [(0, Value.agg cs)] by kernel_rfl)).trans (built88 HS.out)) ?_)
      | (refine wpList_store_row rfl 70 _ _ rfl (w.heap.size + 1) _ rfl rfl 70 _ (alloc2 _ _ _) (info88 HS.out) HS.out.symm H1.out ?_; rw [HROW.out]))
    refine wp_region_later (by kernel_rfl) (by kernel_rfl) ?_
    have hl_ := later_cell (W0)
    try simp only [Act.put]
    repeat (first | (go_big_quiet_want; refine quiet_load_row 70 _ rfl (w.heap.size + 1) rfl 70 _ (0, 0) _ (later_row HCY.out) Tryz.underlying70 rfl (info88 HS.out) ?_; go_simp; go_big_quiet_on) | go_big_quiet_step (((first | (go_at_call 27; exact later_same (q1.out _)) | (go_at_call 28; exact later_same (q2.out _)) | (go_at_call 30; exact later_of (q3.out _)) | (go_at_call 29; exact later_of (q4.out _ (HBX.out.trans ((Later.below _).mono HBX.out.size)))) | (go_at_call 31; exact later_of (q5.out _ (HBX.out.trans ((Later.below _).mono HBX.out.size)) (Nat.lt_of_lt_of_le hs1 (Later.below _).size) ((later_cell W0 _ _ _ hs1).trans x0)))))) | quiet_step (((first | (go_at_call 27; exact later_same (q1.out _)) | (go_at_call 28; exact later_same (q2.out _)) | (go_at_call 30; exact later_of (q3.out _)) | (go_at_call 29; exact later_of (q4.out _ (HBX.out.trans ((Later.below _).mono HBX.out.size)))) | (go_at_call 31; exact later_of (q5.out _ (HBX.out.trans ((Later.below _).mono HBX.out.size)) (Nat.lt_of_lt_of_le hs1 (Later.below _).size) ((later_cell W0 _ _ _ hs1).trans x0)))))))
    refine wpQuiet_nil ?_
    intro w9 hx_
    obtain ⟨⟨w_, hb9⟩, e_⟩ := hx_
    have e2_ : w9 = w_ := e_
    clear e_
    subst e2_
    clear hl_
    go_wp2
    go_ret
    exact ⟨by rw [HR.out] <;> rfl, HBX.out.trans (hb9.mono HBX.out.size)⟩
  have HU2 := bne_of_true HU
  cases z3
  case false =>
    have HC2 : ce = 80 := HC
    clear HC
    subst HC2
    have HR : Hid (R = 140) := by show _ = _; rw [HE.out, t1', t2']; simp only [Bool.true_and, Bool.false_and, Bool.and_true, Bool.and_false, Bool.not_true, Bool.not_false, Bool.false_eq_true, if_false, if_true]
    clear HE
    go_enter Tryz.func18, Tryz.ntmps18
    go_wp2_with (first
      | (refine wpList_load_row rfl 29 _ rfl (w.heap.size) rfl 29 _ (0, 0) _ (heap_alloc_new w _) Tryz.underlying29 rfl (info30 HS.out) ?_)
      | (refine wpList_buildTo rfl 70 _ rfl _ rfl cs ((congrArg (Tryz.prog.built 70) (show _ = [(0, Value.agg cs)] by kernel_rfl)).trans (built88 HS.out)) ?_)
      | (refine wpList_store_row rfl 70 _ _ rfl (w.heap.size + 1) _ rfl rfl 70 _ (alloc2 _ _ _) (info88 HS.out) HS.out.symm H1.out ?_; rw [HROW.out]))
    refine wp_region_later (by kernel_rfl) (by kernel_rfl) ?_
    have hl_ := later_cell (W0)
    try simp only [Act.put]
    repeat (first | (go_big_quiet_want; refine quiet_load_row 70 _ rfl (w.heap.size + 1) rfl 70 _ (0, 0) _ (later_row HCY.out) Tryz.underlying70 rfl (info88 HS.out) ?_; go_simp; go_big_quiet_on) | go_big_quiet_step (((first | (go_at_call 27; exact later_same (q1.out _)) | (go_at_call 28; exact later_same (q2.out _)) | (go_at_call 30; exact later_of (q3.out _)) | (go_at_call 29; exact later_of (q4.out _ (HBX.out.trans ((Later.below _).mono HBX.out.size)))) | (go_at_call 31; exact later_of (q5.out _ (HBX.out.trans ((Later.below _).mono HBX.out.size)) (Nat.lt_of_lt_of_le hs1 (Later.below _).size) ((later_cell W0 _ _ _ hs1).trans x0)))))) | quiet_step (((first | (go_at_call 27; exact later_same (q1.out _)) | (go_at_call 28; exact later_same (q2.out _)) | (go_at_call 30; exact later_of (q3.out _)) | (go_at_call 29; exact later_of (q4.out _ (HBX.out.trans ((Later.below _).mono HBX.out.size)))) | (go_at_call 31; exact later_of (q5.out _ (HBX.out.trans ((Later.below _).mono HBX.out.size)) (Nat.lt_of_lt_of_le hs1 (Later.below _).size) ((later_cell W0 _ _ _ hs1).trans x0)))))))
    refine wpQuiet_nil ?_
    intro w9 hx_
    obtain ⟨⟨w_, hb9⟩, e_⟩ := hx_
    have e2_ : w9 = w_ := e_
    clear e_
    subst e2_
    clear hl_
    go_wp2
    go_ret
    exact ⟨by rw [HR.out] <;> rfl, HBX.out.trans (hb9.mono HBX.out.size)⟩
  have HC2 : ce = 0 := HC
  clear HC
  subst HC2
  cases z4
  case true =>
    have HR : Hid (R = 140) := by show _ = _; rw [HE.out, t1', t2']; simp only [Bool.true_and, Bool.false_and, Bool.and_true, Bool.and_false, Bool.not_true, Bool.not_false, Bool.false_eq_true, if_false, if_true]
    clear HE
    go_enter Tryz.func18, Tryz.ntmps18
    go_wp2_with (first
      | (refine wpList_load_row rfl 29 _ rfl (w.heap.size) rfl 29 _ (0, 0) _ (heap_alloc_new w _) Tryz.underlying29 rfl (info30 HS.out) ?_)
      | (refine wpList_buildTo rfl 70 _ rfl _ rfl cs ((congrArg (Tryz.prog.built 70) (show _ = [(0, Value.agg cs)] by kernel_rfl)).trans (built88 HS.out)) ?_)
      | (refine wpList_store_row rfl 70 _ _ rfl (w.heap.size + 1) _ rfl rfl 70 _ (alloc2 _ _ _) (info88 HS.out) HS.out.symm H1.out ?_; rw [HROW.out]))
    refine wp_region_later (by kernel_rfl) (by kernel_rfl) ?_
    have hl_ := later_cell (W0)
    try simp only [Act.put]
    repeat (first | (go_big_quiet_want; refine quiet_load_row 70 _ rfl (w.heap.size + 1) rfl 70 _ (0, 0) _ (later_row HCY.out) Tryz.underlying70 rfl (info88 HS.out) ?_; go_simp; go_big_quiet_on) | go_big_quiet_step (((first | (go_at_call 27; exact later_same (q1.out _)) | (go_at_call 28; exact later_same (q2.out _)) | (go_at_call 30; exact later_of (q3.out _)) | (go_at_call 29; exact later_of (q4.out _ (HBX.out.trans ((Later.below _).mono HBX.out.size)))) | (go_at_call 31; exact later_of (q5.out _ (HBX.out.trans ((Later.below _).mono HBX.out.size)) (Nat.lt_of_lt_of_le hs1 (Later.below _).size) ((later_cell W0 _ _ _ hs1).trans x0)))))) | quiet_step (((first | (go_at_call 27; exact later_same (q1.out _)) | (go_at_call 28; exact later_same (q2.out _)) | (go_at_call 30; exact later_of (q3.out _)) | (go_at_call 29; exact later_of (q4.out _ (HBX.out.trans ((Later.below _).mono HBX.out.size)))) | (go_at_call 31; exact later_of (q5.out _ (HBX.out.trans ((Later.below _).mono HBX.out.size)) (Nat.lt_of_lt_of_le hs1 (Later.below _).size) ((later_cell W0 _ _ _ hs1).trans x0)))))))
    refine wpQuiet_nil ?_
    intro w9 hx_
    obtain ⟨⟨w_, hb9⟩, e_⟩ := hx_
    have e2_ : w9 = w_ := e_
    clear e_
    subst e2_
    clear hl_
    go_wp2
    go_ret
    exact ⟨by rw [HR.out] <;> rfl, HBX.out.trans (hb9.mono HBX.out.size)⟩
  have HR : Hid (R = if z5 = true then 0 else 140) := by show _ = _; rw [HE.out, t1', t2']; simp only [Bool.true_and, Bool.false_and, Bool.and_true, Bool.and_false, Bool.not_true, Bool.not_false, Bool.false_eq_true, if_false, if_true]
  clear HE
  go_enter Tryz.func18, Tryz.ntmps18
  go_wp2_with (first
    | (refine wpList_load_row rfl 29 _ rfl (w.heap.size) rfl 29 _ (0, 0) _ (heap_alloc_new w _) Tryz.underlying29 rfl (info30 HS.out) ?_)
    | (refine wpList_buildTo rfl 70 _ rfl _ rfl cs ((congrArg (Tryz.prog.built 70) (show _ = [(0, Value.agg cs)] by kernel_rfl)).trans (built88 HS.out)) ?_)
    | (refine wpList_store_row rfl 70 _ _ rfl (w.heap.size + 1) _ rfl rfl 70 _ (alloc2 _ _ _) (info88 HS.out) HS.out.symm H1.out ?_; rw [HROW.out]))
  refine wp_region_later (by kernel_rfl) (by kernel_rfl) ?_
  have hl_ := later_cell (W0)
  try simp only [Act.put]
  repeat (first | (go_big_quiet_want; refine quiet_load_row 70 _ rfl (w.heap.size + 1) rfl 70 _ (0, 0) _ (later_row HCY.out) Tryz.underlying70 rfl (info88 HS.out) ?_; go_simp; go_big_quiet_on) | go_big_quiet_step (((first | (go_at_call 27; exact later_same (q1.out _)) | (go_at_call 28; exact later_same (q2.out _)) | (go_at_call 30; exact later_of (q3.out _)) | (go_at_call 29; exact later_of (q4.out _ (HBX.out.trans ((Later.below _).mono HBX.out.size)))) | (go_at_call 31; exact later_of (q5.out _ (HBX.out.trans ((Later.below _).mono HBX.out.size)) (Nat.lt_of_lt_of_le hs1 (Later.below _).size) ((later_cell W0 _ _ _ hs1).trans x0)))))) | quiet_step (((first | (go_at_call 27; exact later_same (q1.out _)) | (go_at_call 28; exact later_same (q2.out _)) | (go_at_call 30; exact later_of (q3.out _)) | (go_at_call 29; exact later_of (q4.out _ (HBX.out.trans ((Later.below _).mono HBX.out.size)))) | (go_at_call 31; exact later_of (q5.out _ (HBX.out.trans ((Later.below _).mono HBX.out.size)) (Nat.lt_of_lt_of_le hs1 (Later.below _).size) ((later_cell W0 _ _ _ hs1).trans x0)))))))
  refine wpQuiet_nil ?_
  intro w9 hx_
  obtain ⟨⟨w_, hb9⟩, e_⟩ := hx_
  have e2_ : w9 = w_ := e_
  clear e_
  subst e2_
  clear hl_
  have B9 := Lib.hid (HBX.out.trans (hb9.mono HBX.out.size))
  have K88 := Lib.hid ((hb9.block _ hs0).trans HCY.out)
  have s9 : w.heap.size + 1 < w9.heap.size := Nat.lt_of_lt_of_le hs0 hb9.size
  have s9' : w.heap.size < w9.heap.size := by omega
  have k11 : w9.cell? ⟨w.heap.size, 11, none⟩ = some (.int .i64 x.state) := ((bcell hb9).1 _ _ hs1).trans x11
  clear hb9 x0 x10 x11 x13 x19
  by_cases s1 : x.state = 1
  · have HS2 := S1 s1
    have t3 : (x.state == 1) = true := beq_iff_eq.2 s1
    clear S1 S2 S3 q6 q7 q9 s1
    cases z8
    all_goals
      go_wp2_with (first | (refine wpList_load_row rfl 70 _ rfl (w.heap.size + 1) rfl 70 _ (0, 0) _ K88.out Tryz.underlying70 rfl (info88 HS.out) ?_) | (go_at_call 33; refine (q8.out _ B9.out).mono ?_; rintro e w10 ⟨rfl, hb10⟩) | (go_at_call 35; refine (q6.out _).mono ?_; rintro e w10 ⟨rfl, rfl⟩))
      go_ret
      exact ⟨by rw [HR.out, HS2.out] <;> rfl, bt B9.out hb10⟩
  have t3 : (x.state == 1) = false := beq_eq_false_iff_ne.2 s1
  by_cases s2 : x.state = 2
  · have HS2 := S2 s2
    have t4 : (x.state == 2) = true := beq_iff_eq.2 s2
    clear S1 S2 S3 q6 q7 q8 s1 s2
    cases z9
    all_goals
      go_wp2_with (first | (refine wpList_load_row rfl 70 _ rfl (w.heap.size + 1) rfl 70 _ (0, 0) _ K88.out Tryz.underlying70 rfl (info88 HS.out) ?_) | (go_at_call 34; refine (q9.out _ B9.out).mono ?_; rintro e w10 ⟨rfl, hb10⟩) | (go_at_call 35; refine (q6.out _).mono ?_; rintro e w10 ⟨rfl, rfl⟩))
      go_ret
      exact ⟨by rw [HR.out, HS2.out] <;> rfl, bt B9.out hb10⟩
  have t4 : (x.state == 2) = false := beq_eq_false_iff_ne.2 s2
  have HS2 := S3 s1 s2
  clear S1 S2 S3 s1 s2 q8 q9
  cases z6
  case false =>
    go_wp2_with (first | (refine wpList_load_row rfl 70 _ rfl (w.heap.size + 1) rfl 70 _ (0, 0) _ K88.out Tryz.underlying70 rfl (info88 HS.out) ?_) | (go_at_call 35; refine (q6.out _).mono ?_; rintro e w10 ⟨rfl, rfl⟩))
    go_ret
    exact ⟨by rw [HR.out, HS2.out] <;> rfl, B9.out⟩
  cases z7
  all_goals
    go_wp2_with (first | (refine wpList_load_row rfl 70 _ rfl (w.heap.size + 1) rfl 70 _ (0, 0) _ K88.out Tryz.underlying70 rfl (info88 HS.out) ?_) | (go_at_call 32; refine (q7.out _).mono ?_; rintro e w10 ⟨rfl, hb10⟩) | (go_at_call 35; refine (q6.out _).mono ?_; rintro e w10 ⟨rfl, rfl⟩))
    go_ret
    exact ⟨by rw [HR.out, HS2.out] <;> rfl, bt B9.out hb10⟩
end Go.Proofs.YtmkmmggimokagaaGreatDoor
