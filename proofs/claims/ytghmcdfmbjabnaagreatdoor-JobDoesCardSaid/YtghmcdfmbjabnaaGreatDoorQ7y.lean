/- Layer 14: what acts ask of a job, walked (printed by a program of my own). Layer 14: what acts ask of a job, walked (printed by a program of my own). Layer 14: the acts walked (printed by a program of my own). Layer 14: the acts walked (printed by a program of my own). Layer 14: the acts walked (printed by a program of my own). Layer 14: the acts walked (printed by a program of my own). Layer 14: the acts walked (printed by a program of my own). -/
import Derived.Test.YtghmcdfmbjabnaaGreatDoorQ7t
import Derived.Test.YtghmcdfmbjabnaaGreatDoorQ6t
import Derived.Test.YtghmcdfmbjabnaaGreatDoorQ6y
import Derived.Test.YtghmcdfmbjabnaaGreatDoorQ1t
import Derived.Test.YtghmcdfmbjabnaaGreatDoorQ1y
import Derived.Test.YtghmcdfmbjabnaaGreatDoorQ4t
import Derived.Test.YtghmcdfmbjabnaaGreatDoorQ4y
namespace Go.Proofs.YtghmcdfmbjabnaaGreatDoor
set_option linter.unusedVariables false
open Go.RowKit
theorem grown_then {v a b : World} {row : Option Nat} (h : v.grownBy a row) (k : Below a.heap.size a b) : v.grownBy b row :=
  ⟨k.os.trans h.os, k.tape.trans h.tape, k.output.trans h.output, Nat.le_trans h.size k.size, fun i hi hr => (k.block i (Nat.lt_of_lt_of_le hi h.size)).trans (h.block i hi hr)⟩
theorem over2 (x y : Int) (W : World) (g : Nat) (c0 : W.cell? ⟨g, 0, none⟩ = some (.int .i64 x)) (c1 : W.cell? ⟨g, 1, none⟩ = some (.int .i64 y)) :
    Calls Tryz.prog 101 #[.slice (some ⟨g, 0, none⟩) 2 2] W fun e w' => e = .returned (.bool (!fitsV 1000000 [x, y])) ∧ W = w' := by
  refine over_any (some ⟨g, 0, none⟩) 2 2 (g + 1) [x, y] W (by simp [maxLen]) ⟨rfl, fun _ => ⟨_, rfl, by simp, fun j u hu => ?_⟩⟩
  have hj : j < 2 := by simpa [ints] using (List.getElem?_eq_some_iff.1 hu).1
  rcases j with _ | _ | j
  · simp [ints] at hu; subst hu; simpa [Addr.add] using c0
  · simp [ints] at hu; subst hu; simpa [Addr.add] using c1
  · omega
theorem when_any (b : Bool) (w : World) : Calls Tryz.prog 104 #[.bool b] w fun e w' => e = .returned (.int .i64 (whenE b)) ∧ w = w' := by
  cases b
  all_goals
    go_enter Tryz.func104, Tryz.ntmps104
    go_wp2
    go_ret
    exact ⟨rfl, rfl⟩
set_option linter.unusedSimpArgs false in
set_option maxHeartbeats 4000000 in
set_option maxRecDepth 100000 in
theorem drop_may (x : Jb) (A A2 : Option Addr) (c c2 : Nat) (v : World) :
    Calls Tryz.prog 117 #[jbV x A c A2 c2] v fun e v' => e = .returned (.int .i64 (dropM x)) ∧ Below v.heap.size v v' := by
  unfold dropM
  rw [jbV_is]
  have e11 : (jbA x A c A2 c2)[11]? = some (.int .i64 x.state) := rfl
  have HS := Lib.hid (jbA_size x A c A2 c2)
  have H1 := Lib.hid (jbA_one x A c A2 c2)
  obtain ⟨cs, hcs⟩ : ∃ cs, Hid (jbA x A c A2 c2 = cs) := ⟨_, rfl⟩
  rw [hcs.out] at HS H1 e11 ⊢
  obtain ⟨q, hq⟩ : ∃ q, (x.state == 1) = q := ⟨_, rfl⟩
  rw [hq]
  go_enter Tryz.func117, Tryz.ntmps117
  go_wp2_with (go_at_call 104; refine (when_any _ _).mono ?_; rintro e w1 ⟨rfl, rfl⟩)
  go_ret
  exact ⟨rfl, bx0⟩
set_option linter.unusedSimpArgs false in
set_option maxHeartbeats 4000000 in
set_option maxRecDepth 100000 in
theorem charge_may (x : Jb) (A A2 : Option Addr) (c c2 : Nat) (v : World) :
    Calls Tryz.prog 125 #[jbV x A c A2 c2] v fun e v' => e = .returned (.int .i64 (chargeM x)) ∧ Below v.heap.size v v' := by
  unfold chargeM
  rw [jbV_is]
  have e11 : (jbA x A c A2 c2)[11]? = some (.int .i64 x.state) := rfl
  have HS := Lib.hid (jbA_size x A c A2 c2)
  have H1 := Lib.hid (jbA_one x A c A2 c2)
  obtain ⟨cs, hcs⟩ : ∃ cs, Hid (jbA x A c A2 c2 = cs) := ⟨_, rfl⟩
  rw [hcs.out] at HS H1 e11 ⊢
  obtain ⟨q, hq⟩ : ∃ q, (x.state == 2) = q := ⟨_, rfl⟩
  rw [hq]
  go_enter Tryz.func125, Tryz.ntmps125
  go_wp2_with (go_at_call 104; refine (when_any _ _).mono ?_; rintro e w1 ⟨rfl, rfl⟩)
  go_ret
  exact ⟨rfl, bx0⟩
set_option linter.unusedSimpArgs false in
set_option maxHeartbeats 4000000 in
set_option maxRecDepth 100000 in
theorem hold_may (x : Jb) (A A2 : Option Addr) (c c2 : Nat) (h : Bool) (H : Nat) (v : World) (hH : H < v.heap.size) (qH : v.cell? ⟨H, 0, none⟩ = some (.bool h)) :
    Calls Tryz.prog 115 #[jbV x A c A2 c2, .pointer (some ⟨H, 0, none⟩)] v fun e v' => e = .returned (.int .i64 (holdM x h)) ∧ Below v.heap.size v v' := by
  unfold holdM
  rw [jbV_is]
  have e11 : (jbA x A c A2 c2)[11]? = some (.int .i64 x.state) := rfl
  have e12 : (jbA x A c A2 c2)[12]? = some (.bool x.held) := rfl
  have HS := Lib.hid (jbA_size x A c A2 c2)
  have H1 := Lib.hid (jbA_one x A c A2 c2)
  obtain ⟨cs, hcs⟩ : ∃ cs, Hid (jbA x A c A2 c2 = cs) := ⟨_, rfl⟩
  rw [hcs.out] at HS H1 e11 e12 ⊢
  obtain ⟨held, hh⟩ : ∃ b, x.held = b := ⟨_, rfl⟩
  rw [hh] at e12 ⊢
  clear hh
  cases q : x.state == 1 <;> cases held <;> cases h
  all_goals
    go_enter Tryz.func115, Tryz.ntmps115
    go_wp2_with (go_at_call 104; refine (when_any _ _).mono ?_; rintro e w1 ⟨rfl, rfl⟩)
    go_ret
    exact ⟨rfl, bx0⟩
set_option linter.unusedSimpArgs false in
set_option maxHeartbeats 4000000 in
set_option maxRecDepth 100000 in
theorem end_may (x : Jb) (A A2 : Option Addr) (c c2 : Nat) (st : Int) (H : Nat) (v : World) (hH : H < v.heap.size) (qH : v.cell? ⟨H, 0, none⟩ = some (.int .i64 st)) :
    Calls Tryz.prog 103 #[jbV x A c A2 c2, .pointer (some ⟨H, 0, none⟩)] v fun e v' => e = .returned (.int .i64 (endM x st)) ∧ Below v.heap.size v v' := by
  unfold endM
  have q1 := Lib.hid (fun w => ended_any st w)
  rw [jbV_is]
  have e11 : (jbA x A c A2 c2)[11]? = some (.int .i64 x.state) := rfl
  have HS := Lib.hid (jbA_size x A c A2 c2)
  have H1 := Lib.hid (jbA_one x A c A2 c2)
  obtain ⟨cs, hcs⟩ : ∃ cs, Hid (jbA x A c A2 c2 = cs) := ⟨_, rfl⟩
  rw [hcs.out] at HS H1 e11 ⊢
  obtain ⟨z, hz⟩ : ∃ q, endedB st = q := ⟨_, rfl⟩
  rw [hz] at q1 ⊢
  clear hz
  cases z
  case false =>
    rw [if_neg (by decide)]
    go_enter Tryz.func103, Tryz.ntmps103
    go_wp2_with (first | (go_at_call 83; refine (q1.out _).mono ?_; rintro e w1 ⟨rfl, rfl⟩) | (go_at_call 104; refine (when_any _ _).mono ?_; rintro e w1 ⟨rfl, rfl⟩))
    go_ret
    exact ⟨rfl, bx0⟩
  rw [if_pos rfl]
  cases t2 : x.state == 2 <;> cases t1 : x.state == 1 <;> cases t6 : st == 6
  all_goals
    go_enter Tryz.func103, Tryz.ntmps103
    go_wp2_with (first | (go_at_call 83; refine (q1.out _).mono ?_; rintro e w1 ⟨rfl, rfl⟩) | (go_at_call 104; refine (when_any _ _).mono ?_; rintro e w1 ⟨rfl, rfl⟩))
    go_ret
    exact ⟨rfl, bx0⟩
set_option linter.unusedSimpArgs false in
set_option maxHeartbeats 4000000 in
set_option maxRecDepth 100000 in
theorem prom_may (x : Jb) (A A2 : Option Addr) (c c2 : Nat) (B : Nat) (at_ ch : Int) (K H : Nat) (v : World) (hK : K < v.heap.size) (qK : v.cell? ⟨K, 0, none⟩ = some (.int .i64 ch)) (hH : H < v.heap.size) (qH : v.cell? ⟨H, 0, none⟩ = some (.int .i64 at_)) (hx : JbAt v B x A c A2 c2) (hB : B ≤ v.heap.size) :
    Calls Tryz.prog 93 #[jbV x A c A2 c2, .pointer (some ⟨K, 0, none⟩), .pointer (some ⟨H, 0, none⟩)] v fun e v' => e = .returned (.int .i64 (promM x at_ ch)) ∧ Below v.heap.size v v' := by
  have ho := Lib.hid (fun w (hw : Below v.heap.size v w) => option_any x A A2 c c2 B ch w (hx.below (hw.mono hB)) (Nat.le_trans hB hw.size))
  have q1 := Lib.hid (fun w => tick_any at_ w)
  have HE : Hid (promM x at_ ch = if ((x.state == 1) && !x.held) = true then (if (hasO x.shape ch && tickB at_) = true then 0 else 2) else 141) := rfl
  obtain ⟨R, hR⟩ : ∃ R, promM x at_ ch = R := ⟨_, rfl⟩
  rw [hR] at HE ⊢
  obtain ⟨a, ha⟩ : ∃ a, optAt x.shape ch = a := ⟨_, rfl⟩
  obtain ⟨ok, hok⟩ : ∃ a, hasO x.shape ch = a := ⟨_, rfl⟩
  obtain ⟨z, hz⟩ : ∃ a, tickB at_ = a := ⟨_, rfl⟩
  rw [ha, hok] at ho
  rw [hok, hz] at HE
  rw [hz] at q1
  clear ha hok hz hR hx hB
  rw [jbV_is] at ho ⊢
  have e11 : (jbA x A c A2 c2)[11]? = some (.int .i64 x.state) := rfl
  have e12 : (jbA x A c A2 c2)[12]? = some (.bool x.held) := rfl
  have HS := Lib.hid (jbA_size x A c A2 c2)
  have H1 := Lib.hid (jbA_one x A c A2 c2)
  obtain ⟨cs, hcs⟩ : ∃ cs, Hid (jbA x A c A2 c2 = cs) := ⟨_, rfl⟩
  rw [hcs.out] at HS H1 e11 e12 ho ⊢
  obtain ⟨held, hh⟩ : ∃ b, x.held = b := ⟨_, rfl⟩
  rw [hh] at e12 HE
  clear hh
  obtain ⟨an, aw⟩ := a
  dsimp only at ho
  cases t1 : x.state == 1
  case false =>
    have HR : Hid (R = 141) := by show _ = _; rw [HE.out, t1]; rfl
    have t1' := bne_of_false t1
    clear HE
    go_enter Tryz.func93, Tryz.ntmps93
    go_wp2_with (fail)
    go_ret
    exact ⟨by rw [HR.out] <;> rfl, bx0⟩
  have t1' := bne_of_true t1
  cases held
  case true =>
    have HR : Hid (R = 141) := by show _ = _; rw [HE.out, t1]; rfl
    clear HE
    go_enter Tryz.func93, Tryz.ntmps93
    go_wp2_with (fail)
    go_ret
    exact ⟨by rw [HR.out] <;> rfl, bx0⟩
  go_enter Tryz.func93, Tryz.ntmps93
  go_wp2_with (first | (refine wpList_load_row rfl 28 _ rfl (v.heap.size) rfl 28 _ (0, 0) _ (heap_alloc_new v _) Tryz.underlying28 rfl (info30 HS.out) ?_) | (refine wpList_buildTo rfl 106 _ rfl _ rfl cs ((congrArg (Tryz.prog.built 106) (show _ = [(0, Value.agg cs)] by kernel_rfl)).trans (built88 HS.out)) ?_))
  refine (ho.out _ bx0).mono ?_; rintro e w1 ⟨rfl, hb1⟩
  have B1 := Lib.hid (bx hb1)
  have s1 := lt_bx hb1
  have m1 : w1.cell? ⟨H, 0, none⟩ = some (.int .i64 at_) := by rw [(bcell B1.out).1 _ _ hH]; exact qH
  have sH : H < w1.heap.size := by omega
  clear hb1 qK qH
  cases ok
  case false =>
    have HR : Hid (R = 2) := by show _ = _; rw [HE.out, t1]; rfl
    clear HE
    go_wp2_with (fail)
    go_ret
    exact ⟨by rw [HR.out] <;> rfl, B1.out.alloc B1.out.size _⟩
  cases z
  case false =>
    have HR : Hid (R = 2) := by show _ = _; rw [HE.out, t1]; rfl
    clear HE
    go_wp2_with ((go_at_call 95; refine (q1.out _).mono ?_; rintro e w2 ⟨rfl, rfl⟩))
    go_ret
    exact ⟨by rw [HR.out] <;> rfl, B1.out.alloc B1.out.size _⟩
  have HR : Hid (R = 0) := by show _ = _; rw [HE.out, t1]; rfl
  clear HE
  go_wp2_with ((go_at_call 95; refine (q1.out _).mono ?_; rintro e w2 ⟨rfl, rfl⟩))
  go_ret
  exact ⟨by rw [HR.out] <;> rfl, B1.out.alloc B1.out.size _⟩
set_option linter.unusedSimpArgs false in
set_option maxHeartbeats 4000000 in
set_option maxRecDepth 100000 in
theorem size_may (x : Jb) (A A2 : Option Addr) (c c2 : Nat) (B s : Nat) (H : Nat) (v : World) (hH : H < v.heap.size) (qH : v.cell? ⟨H, 0, none⟩ = some (.int .u64 s)) (hs : s < M64) (hx : JbAt v B x A c A2 c2) (hB : B ≤ v.heap.size) :
    Calls Tryz.prog 119 #[jbV x A c A2 c2, .pointer (some ⟨H, 0, none⟩)] v fun e v' => e = .returned (.int .i64 (sizeM x s)) ∧ Below v.heap.size v v' := by
  have hal := Lib.hid (fun w (hw : Below v.heap.size v w) => allows_any x.shape A c B x.choice ((memL s).length : Nat) w (hx.1.below (hw.mono hB)) (Nat.le_trans hB hw.size) hx.2.2.1 hx.2.2.2.2.1)
  have q4 := Lib.hid (fun w => nodes_any s w hs)
  have q5 := Lib.hid (fun w => cnt09_any s w hs)
  have HE : Hid (sizeM x s = if (x.state == 2) = true then (if (fewS s && allowS x.shape x.choice (memL s).length) = true then 0 else 152) else 141) := by
    show _ = _; unfold sizeM; by_cases h : x.state = 2 <;> simp [h]
  obtain ⟨R, hR⟩ : ∃ R, sizeM x s = R := ⟨_, rfl⟩
  rw [hR] at HE ⊢
  obtain ⟨cn, hcn⟩ : ∃ n : Nat, (memL s).length = n := ⟨_, rfl⟩
  rw [hcn] at hal q5 HE
  obtain ⟨z5, hz5⟩ : ∃ q, allowS x.shape x.choice (cn : Int) = q := ⟨_, rfl⟩
  rw [hz5] at hal HE
  obtain ⟨z4, hz4⟩ : ∃ q, fewS s = q := ⟨_, rfl⟩
  rw [hz4] at q4 HE
  obtain ⟨us, hus⟩ : ∃ u : Int, (s : Int) = u := ⟨_, rfl⟩
  rw [hus] at q4 q5 qH
  obtain ⟨d, hd⟩ : ∃ d : Int, (cn : Int) = d := ⟨_, rfl⟩
  rw [hd] at hal q5
  clear hR hcn hz5 hz4 hus hd hx hB hs
  unfold shV at hal
  rw [jbV_is]
  have e4 : (jbA x A c A2 c2)[4]? = some (.int .i64 x.shape.kind) := rfl
  have e5 : (jbA x A c A2 c2)[5]? = some (.slice A x.shape.alts.length c) := rfl
  have e6 : (jbA x A c A2 c2)[6]? = some (.int .i64 x.shape.mn) := rfl
  have e7 : (jbA x A c A2 c2)[7]? = some (.int .i64 x.shape.mx) := rfl
  have e8 : (jbA x A c A2 c2)[8]? = some (.int .i64 x.shape.wall) := rfl
  have e11 : (jbA x A c A2 c2)[11]? = some (.int .i64 x.state) := rfl
  have e15 : (jbA x A c A2 c2)[15]? = some (.int .i64 x.choice) := rfl
  have HS := Lib.hid (jbA_size x A c A2 c2)
  have H1 := Lib.hid (jbA_one x A c A2 c2)
  obtain ⟨cs, hcs⟩ : ∃ cs, Hid (jbA x A c A2 c2 = cs) := ⟨_, rfl⟩
  rw [hcs.out] at HS H1 e4 e5 e6 e7 e8 e11 e15 ⊢
  obtain ⟨n, HN⟩ : ∃ n, Hid (x.shape.alts.length = n) := ⟨_, rfl⟩
  rw [HN.out] at e5
  rw [HN.out] at hal
  have HBX : Hid (Below v.heap.size v (v.alloc (.cells cs 28))) := bx0
  obtain ⟨W0, hW0⟩ : ∃ W0, Hid (v.alloc (.cells cs 28) = W0) := ⟨_, rfl⟩
  have hcx : W0.heap[v.heap.size]? = some (.cells cs 28 (0, 0)) := by
    rw [← hW0.out]
    exact heap_alloc_new v _
  rw [hW0.out] at HBX
  have hs0 : v.heap.size < W0.heap.size := (Array.getElem?_eq_some_iff.1 hcx).1
  have hsH : H < W0.heap.size := by omega
  have m1 : W0.cell? ⟨H, 0, none⟩ = some (.int .u64 us) := by rw [(bcell HBX.out).1 _ _ hH]; exact qH
  have x4 : W0.cell? ⟨v.heap.size, 4, none⟩ = some (.int .i64 x.shape.kind) := (cell_of_row W0 _ 4 _ _ _ hcx).trans e4
  have x5 : W0.cell? ⟨v.heap.size, 5, none⟩ = some (.slice A n c) := (cell_of_row W0 _ 5 _ _ _ hcx).trans e5
  have x6 : W0.cell? ⟨v.heap.size, 6, none⟩ = some (.int .i64 x.shape.mn) := (cell_of_row W0 _ 6 _ _ _ hcx).trans e6
  have x7 : W0.cell? ⟨v.heap.size, 7, none⟩ = some (.int .i64 x.shape.mx) := (cell_of_row W0 _ 7 _ _ _ hcx).trans e7
  have x8 : W0.cell? ⟨v.heap.size, 8, none⟩ = some (.int .i64 x.shape.wall) := (cell_of_row W0 _ 8 _ _ _ hcx).trans e8
  have x11 : W0.cell? ⟨v.heap.size, 11, none⟩ = some (.int .i64 x.state) := (cell_of_row W0 _ 11 _ _ _ hcx).trans e11
  have x15 : W0.cell? ⟨v.heap.size, 15, none⟩ = some (.int .i64 x.choice) := (cell_of_row W0 _ 15 _ _ _ hcx).trans e15
  clear hcx
  cases t2 : x.state == 2
  case false =>
    have HR : Hid (R = _) := HE.out
    simp only [t2, if_true, if_false, Bool.and_true, Bool.true_and, Bool.false_and, Bool.and_false, Bool.false_eq_true] at HR
    clear HE
    go_enter Tryz.func119, Tryz.ntmps119
    go_wp2
    rw [hW0.out]
    refine wp_region_later (by kernel_rfl) (by kernel_rfl) ?_
    have hl_ := later_cell (W0)
    repeat (first | go_big_quiet_step (((first | (go_at_call 99; exact later_same (q4.out _)) | (go_at_call 100; exact later_same (q5.out _)) | (go_at_call 120; exact later_of (hal.out _ (HBX.out.trans ((Later.below _).mono HBX.out.size))))))) | quiet_step (((first | (go_at_call 99; exact later_same (q4.out _)) | (go_at_call 100; exact later_same (q5.out _)) | (go_at_call 120; exact later_of (hal.out _ (HBX.out.trans ((Later.below _).mono HBX.out.size))))))))
    refine wpQuiet_nil ?_
    intro w9 hx_
    obtain ⟨⟨w_, hb9⟩, e_⟩ := hx_
    have e2_ : w9 = w_ := e_
    clear e_
    subst e2_
    clear hl_
    have x11 : w9.cell? ⟨v.heap.size, 11, none⟩ = some (.int .i64 x.state) := by rw [(bcell hb9).1 _ _ hs0]; exact x11
    go_wp2_with (go_at_call 104; refine (when_any _ _).mono ?_; rintro e w1 ⟨rfl, rfl⟩)
    go_ret
    exact ⟨by rw [HR.out] <;> rfl, HBX.out.trans (hb9.mono HBX.out.size)⟩
  cases z4
  case false =>
    have HR : Hid (R = _) := HE.out
    simp only [t2, if_true, if_false, Bool.and_true, Bool.true_and, Bool.false_and, Bool.and_false, Bool.false_eq_true] at HR
    clear HE
    go_enter Tryz.func119, Tryz.ntmps119
    go_wp2
    rw [hW0.out]
    refine wp_region_later (by kernel_rfl) (by kernel_rfl) ?_
    have hl_ := later_cell (W0)
    repeat (first | go_big_quiet_step (((first | (go_at_call 99; exact later_same (q4.out _)) | (go_at_call 100; exact later_same (q5.out _)) | (go_at_call 120; exact later_of (hal.out _ (HBX.out.trans ((Later.below _).mono HBX.out.size))))))) | quiet_step (((first | (go_at_call 99; exact later_same (q4.out _)) | (go_at_call 100; exact later_same (q5.out _)) | (go_at_call 120; exact later_of (hal.out _ (HBX.out.trans ((Later.below _).mono HBX.out.size))))))))
    refine wpQuiet_nil ?_
    intro w9 hx_
    obtain ⟨⟨w_, hb9⟩, e_⟩ := hx_
    have e2_ : w9 = w_ := e_
    clear e_
    subst e2_
    clear hl_
    have x11 : w9.cell? ⟨v.heap.size, 11, none⟩ = some (.int .i64 x.state) := by rw [(bcell hb9).1 _ _ hs0]; exact x11
    go_wp2_with (go_at_call 104; refine (when_any _ _).mono ?_; rintro e w1 ⟨rfl, rfl⟩)
    go_ret
    exact ⟨by rw [HR.out] <;> rfl, HBX.out.trans (hb9.mono HBX.out.size)⟩
  cases z5
  all_goals
    have HR : Hid (R = _) := HE.out
    simp only [t2, if_true, if_false, Bool.and_true, Bool.true_and, Bool.false_and, Bool.and_false, Bool.false_eq_true] at HR
    clear HE
    go_enter Tryz.func119, Tryz.ntmps119
    go_wp2
    rw [hW0.out]
    refine wp_region_later (by kernel_rfl) (by kernel_rfl) ?_
    have hl_ := later_cell (W0)
    repeat (first | go_big_quiet_step (((first | (go_at_call 99; exact later_same (q4.out _)) | (go_at_call 100; exact later_same (q5.out _)) | (go_at_call 120; exact later_of (hal.out _ (HBX.out.trans ((Later.below _).mono HBX.out.size))))))) | quiet_step (((first | (go_at_call 99; exact later_same (q4.out _)) | (go_at_call 100; exact later_same (q5.out _)) | (go_at_call 120; exact later_of (hal.out _ (HBX.out.trans ((Later.below _).mono HBX.out.size))))))))
    refine wpQuiet_nil ?_
    intro w9 hx_
    obtain ⟨⟨w_, hb9⟩, e_⟩ := hx_
    have e2_ : w9 = w_ := e_
    clear e_
    subst e2_
    clear hl_
    have x11 : w9.cell? ⟨v.heap.size, 11, none⟩ = some (.int .i64 x.state) := by rw [(bcell hb9).1 _ _ hs0]; exact x11
    go_wp2_with (go_at_call 104; refine (when_any _ _).mono ?_; rintro e w1 ⟨rfl, rfl⟩)
    go_ret
    exact ⟨by rw [HR.out] <;> rfl, HBX.out.trans (hb9.mono HBX.out.size)⟩
set_option linter.unusedSimpArgs false in
set_option maxHeartbeats 4000000 in
set_option maxRecDepth 100000 in
theorem start_may (x : Jb) (A A2 : Option Addr) (c c2 : Nat) (B : Nat) (now wl0 : Int) (s : Nat) (W H K : Nat) (v : World) (hW : W < v.heap.size) (qW : v.cell? ⟨W, 0, none⟩ = some (.int .i64 wl0)) (fW : v.frozen? ⟨W, 0, none⟩ = false) (hH : H < v.heap.size) (qH : v.cell? ⟨H, 0, none⟩ = some (.int .i64 now)) (hK : K < v.heap.size) (qK : v.cell? ⟨K, 0, none⟩ = some (.int .u64 s))
    (nH : H ≠ W) (nK : K ≠ W) (hs : s < M64) (hx : JbAt v B x A c A2 c2) (hB : B ≤ v.heap.size) :
    Calls Tryz.prog 98 #[jbV x A c A2 c2, .pointer (some ⟨W, 0, none⟩), .pointer (some ⟨H, 0, none⟩), .pointer (some ⟨K, 0, none⟩)] v fun e v' => e = .returned (.int .i64 (startM x now s)) ∧ v.grownBy v' (some W) ∧ v'.cell? ⟨W, 0, none⟩ = some (.int .i64 (optAt x.shape x.choice).2) := by
  have ho := Lib.hid (fun w (hw : Below v.heap.size v w) => option_any x A A2 c c2 B x.choice w (hx.below (hw.mono hB)) (Nat.le_trans hB hw.size))
  have q1 := Lib.hid (fun w => tick_any now w)
  have q4 := Lib.hid (fun w => nodes_any s w hs)
  have q5 := Lib.hid (fun w => cnt09_any s w hs)
  have HE : Hid (startM x now s = if ((x.state == 1) && (decide (0 ≤ x.promise) && decide (now ≤ x.promise))) = true then
    (if (fewS s && (((memL s).length : Int) == (optAt x.shape x.choice).1)) = true then
      (if (tickB now && !overT now (optAt x.shape x.choice).2) = true then 0 else 153) else 152) else 141) := rfl
  obtain ⟨R, hR⟩ : ∃ R, startM x now s = R := ⟨_, rfl⟩
  rw [hR] at HE ⊢
  obtain ⟨a, ha⟩ : ∃ a, optAt x.shape x.choice = a := ⟨_, rfl⟩
  obtain ⟨ok, hok⟩ : ∃ a, hasO x.shape x.choice = a := ⟨_, rfl⟩
  obtain ⟨z1, hz1⟩ : ∃ a, tickB now = a := ⟨_, rfl⟩
  obtain ⟨z4, hz4⟩ : ∃ a, fewS s = a := ⟨_, rfl⟩
  obtain ⟨cn, hcn⟩ : ∃ n : Int, ((memL s).length : Int) = n := ⟨_, rfl⟩
  rw [ha, hok] at ho
  rw [ha, hz1, hz4, hcn] at HE
  rw [ha]
  rw [hz1] at q1
  rw [hz4] at q4
  rw [hcn] at q5
  obtain ⟨us, hus⟩ : ∃ u : Int, (s : Int) = u := ⟨_, rfl⟩
  rw [hus] at q4 q5 qK
  clear ha hok hz1 hz4 hcn hR hx hB hus hs
  rw [jbV_is] at ho ⊢
  have e11 : (jbA x A c A2 c2)[11]? = some (.int .i64 x.state) := rfl
  have e14 : (jbA x A c A2 c2)[14]? = some (.int .i64 x.promise) := rfl
  have e15 : (jbA x A c A2 c2)[15]? = some (.int .i64 x.choice) := rfl
  have HS := Lib.hid (jbA_size x A c A2 c2)
  have H1 := Lib.hid (jbA_one x A c A2 c2)
  obtain ⟨cs, hcs⟩ : ∃ cs, Hid (jbA x A c A2 c2 = cs) := ⟨_, rfl⟩
  rw [hcs.out] at HS H1 e11 e14 e15 ho ⊢
  obtain ⟨an, aw⟩ := a
  dsimp only at ho HE ⊢
  have ov := Lib.hid (fun g (w : World) c0 c1 => over2 now aw w g c0 c1)
  obtain ⟨z2, hz2⟩ : ∃ q, overT now aw = q := ⟨_, rfl⟩
  have hz2' : (!fitsV 1000000 [now, aw]) = z2 := hz2
  rw [hz2] at HE
  rw [hz2'] at ov
  clear hz2 hz2'
  go_enter Tryz.func98, Tryz.ntmps98
  go_wp2_with (first | (refine wpList_load_row rfl 28 _ rfl (v.heap.size) rfl 28 _ (0, 0) _ (heap_alloc_new v _) Tryz.underlying28 rfl (info30 HS.out) ?_) | (refine wpList_buildTo rfl 106 _ rfl _ rfl cs ((congrArg (Tryz.prog.built 106) (show _ = [(0, Value.agg cs)] by kernel_rfl)).trans (built88 HS.out)) ?_))
  refine (ho.out _ bx0).mono ?_; rintro e w1 ⟨rfl, hb1⟩
  have B1 := Lib.hid (bx hb1)
  have s1 := lt_bx hb1
  have m1 : w1.cell? ⟨H, 0, none⟩ = some (.int .i64 now) := by rw [(bcell B1.out).1 _ _ hH]; exact qH
  have m2 : w1.cell? ⟨K, 0, none⟩ = some (.int .u64 us) := by rw [(bcell B1.out).1 _ _ hK]; exact qK
  have m3 : w1.cell? ⟨W, 0, none⟩ = some (.int .i64 wl0) := by rw [(bcell B1.out).1 _ _ hW]; exact qW
  have f3 : w1.frozen? ⟨W, 0, none⟩ = false := by rw [(bcell B1.out).2 _ _ hW]; exact fW
  have y11 : w1.cell? ⟨v.heap.size, 11, none⟩ = some (.int .i64 x.state) := (boxed_cell hb1 11).trans e11
  have y14 : w1.cell? ⟨v.heap.size, 14, none⟩ = some (.int .i64 x.promise) := (boxed_cell hb1 14).trans e14
  clear hb1 qK qH qW fW
  have p1W : W < w1.heap.size := by omega
  have p1H : H < w1.heap.size := by omega
  have p1K : K < w1.heap.size := by omega
  have nW1 : ¬ w1.heap.size = W := by omega
  have nW2 : ¬ v.heap.size = W := by omega
  obtain ⟨W2, hW2⟩ : ∃ W2, Hid ((w1.setCell ⟨W, 0, none⟩ (.int .i64 aw)).alloc (.cells #[.int .i64 an, .int .i64 aw] 103) = W2) := ⟨_, rfl⟩
  have b2 : W2.heap[w1.heap.size]? = some (.cells #[.int .i64 an, .int .i64 aw] 103 (0, 0)) := by
    rw [← hW2.out]
    have h := heap_alloc_new (w1.setCell ⟨W, 0, none⟩ (.int .i64 aw)) (.cells #[.int .i64 an, .int .i64 aw] 103)
    rwa [set_size] at h
  have G2 : Hid (v.grownBy W2 (some W)) := by
    show v.grownBy _ _
    rw [← hW2.out]
    exact ⟨B1.out.os, B1.out.tape, B1.out.output, by rw [World.size_alloc, set_size]; have := B1.out.size; omega, fun k hk hn => (Below.heap_alloc _ _ _ (by rw [set_size]; omega)).trans ((Below.heap_setCell _ _ _ _ (fun e => hn (by rw [e]))).trans (B1.out.block k hk))⟩
  have keep : ∀ b o x, b < w1.heap.size → b ≠ W → w1.cell? ⟨b, o, none⟩ = some x → W2.cell? ⟨b, o, none⟩ = some x := by
    intro b o x hb hn hx
    rw [← hW2.out, ← hx]
    exact World.cell?_of_block ((Below.heap_alloc _ _ _ (by rw [set_size]; exact hb)).trans (Below.heap_setCell _ _ _ _ hn))
  have k1 := keep H 0 _ (by omega) nH m1
  have k2 := keep K 0 _ (by omega) nK m2
  have k11 := keep v.heap.size 11 _ s1 (by omega) y11
  have k14 := keep v.heap.size 14 _ s1 (by omega) y14
  have kW : W2.cell? ⟨W, 0, none⟩ = some (.int .i64 aw) := by
    rw [← hW2.out]
    exact (World.cell?_alloc_lt _ _ _ (by show W < _; rw [set_size]; omega)).trans (World.cell?_setCell_same _ _ _ m3)
  have kA0 : W2.cell? ⟨w1.heap.size, 0, none⟩ = some (.int .i64 an) := cell_of_row W2 _ 0 _ _ _ b2
  have kA1 : W2.cell? ⟨w1.heap.size, 1, none⟩ = some (.int .i64 aw) := cell_of_row W2 _ 1 _ _ _ b2
  have hsz : w1.heap.size < W2.heap.size := (Array.getElem?_eq_some_iff.1 b2).1
  have hs2 : v.heap.size < W2.heap.size := by omega
  have hs3 : H < W2.heap.size := by omega
  have hs4 : K < W2.heap.size := by omega
  have hs5 : W < W2.heap.size := by omega
  have KW := Lib.hid kW
  cases t1 : x.state == 1
  case false =>
    have t1x := bne_of_false t1
    have HR : Hid (R = 141) := by show _ = _; rw [HE.out]; simp [t1]
    clear HE
    go_wp2_with (fail)
    go_ret
    rw [hW2.out]
    exact ⟨by rw [HR.out] <;> rfl, G2.out, KW.out⟩
  have t1x := bne_of_true t1
  by_cases p1 : 0 ≤ x.promise
  case neg =>
    have u1 : decide (0 ≤ x.promise) = false := decide_eq_false p1
    have u1x : decide (x.promise < 0) = true := decide_eq_true (by omega)
    clear p1
    have HR : Hid (R = 141) := by show _ = _; rw [HE.out]; simp [t1, u1]
    clear HE
    go_wp2_with (fail)
    go_ret
    rw [hW2.out]
    exact ⟨by rw [HR.out] <;> rfl, G2.out, KW.out⟩
  have u1 : decide (0 ≤ x.promise) = true := decide_eq_true p1
  have u1x : decide (x.promise < 0) = false := decide_eq_false (by omega)
  clear p1
  by_cases p2 : now ≤ x.promise
  case neg =>
    have u2 : decide (now ≤ x.promise) = false := decide_eq_false p2
    have u2x : decide (x.promise < now) = true := decide_eq_true (by omega)
    clear p2
    have HR : Hid (R = 141) := by show _ = _; rw [HE.out]; simp [t1, u1, u2]
    clear HE
    go_wp2_with (fail)
    go_ret
    rw [hW2.out]
    exact ⟨by rw [HR.out] <;> rfl, G2.out, KW.out⟩
  have u2 : decide (now ≤ x.promise) = true := decide_eq_true p2
  have u2x : decide (x.promise < now) = false := decide_eq_false (by omega)
  clear p2
  cases z4
  case false =>
    have HR : Hid (R = 152) := by show _ = _; rw [HE.out]; simp [t1, u1, u2]
    clear HE
    go_wp2_with (fail)
    rw [hW2.out]
    refine wp_region_later (by kernel_rfl) (by kernel_rfl) ?_
    have hl_ := later_cell (W2)
    repeat (first | go_big_quiet_step (((first | (go_at_call 99; exact later_same (q4.out _)) | (go_at_call 100; exact later_same (q5.out _))))) | quiet_step (((first | (go_at_call 99; exact later_same (q4.out _)) | (go_at_call 100; exact later_same (q5.out _))))))
    refine wpQuiet_nil ?_
    intro w9 hx_
    obtain ⟨⟨w_, hb9⟩, e_⟩ := hx_
    have e2_ : w9 = w_ := e_
    clear e_
    subst e2_
    clear hl_
    have j1 : w9.cell? ⟨H, 0, none⟩ = some (.int .i64 now) := by rw [(bcell hb9).1 _ _ hs3]; exact k1
    have j2 : w9.cell? ⟨W, 0, none⟩ = some (.int .i64 aw) := by rw [(bcell hb9).1 _ _ hs5]; exact KW.out
    have hz9 : W2.heap.size ≤ w9.heap.size := hb9.size
    have HB9 := Lib.hid hb9
    have J2 := Lib.hid j2
    clear hb9
    go_wp2_with (fail)
    go_ret
    exact ⟨by rw [HR.out] <;> rfl, grown_then G2.out HB9.out, J2.out⟩
  cases t3 : cn == an
  case false =>
    have t3x := bne_of_false t3
    have HR : Hid (R = 152) := by show _ = _; rw [HE.out]; simp [t1, u1, u2, t3]
    clear HE
    go_wp2_with (fail)
    rw [hW2.out]
    refine wp_region_later (by kernel_rfl) (by kernel_rfl) ?_
    have hl_ := later_cell (W2)
    repeat (first | go_big_quiet_step (((first | (go_at_call 99; exact later_same (q4.out _)) | (go_at_call 100; exact later_same (q5.out _))))) | quiet_step (((first | (go_at_call 99; exact later_same (q4.out _)) | (go_at_call 100; exact later_same (q5.out _))))))
    refine wpQuiet_nil ?_
    intro w9 hx_
    obtain ⟨⟨w_, hb9⟩, e_⟩ := hx_
    have e2_ : w9 = w_ := e_
    clear e_
    subst e2_
    clear hl_
    have j1 : w9.cell? ⟨H, 0, none⟩ = some (.int .i64 now) := by rw [(bcell hb9).1 _ _ hs3]; exact k1
    have j2 : w9.cell? ⟨W, 0, none⟩ = some (.int .i64 aw) := by rw [(bcell hb9).1 _ _ hs5]; exact KW.out
    have hz9 : W2.heap.size ≤ w9.heap.size := hb9.size
    have HB9 := Lib.hid hb9
    have J2 := Lib.hid j2
    clear hb9
    go_wp2_with (fail)
    go_ret
    exact ⟨by rw [HR.out] <;> rfl, grown_then G2.out HB9.out, J2.out⟩
  have t3x := bne_of_true t3
  cases z1
  case false =>
    have HR : Hid (R = 153) := by show _ = _; rw [HE.out]; simp [t1, u1, u2, t3]
    clear HE
    go_wp2_with (fail)
    rw [hW2.out]
    refine wp_region_later (by kernel_rfl) (by kernel_rfl) ?_
    have hl_ := later_cell (W2)
    repeat (first | go_big_quiet_step (((first | (go_at_call 99; exact later_same (q4.out _)) | (go_at_call 100; exact later_same (q5.out _))))) | quiet_step (((first | (go_at_call 99; exact later_same (q4.out _)) | (go_at_call 100; exact later_same (q5.out _))))))
    refine wpQuiet_nil ?_
    intro w9 hx_
    obtain ⟨⟨w_, hb9⟩, e_⟩ := hx_
    have e2_ : w9 = w_ := e_
    clear e_
    subst e2_
    clear hl_
    have j1 : w9.cell? ⟨H, 0, none⟩ = some (.int .i64 now) := by rw [(bcell hb9).1 _ _ hs3]; exact k1
    have j2 : w9.cell? ⟨W, 0, none⟩ = some (.int .i64 aw) := by rw [(bcell hb9).1 _ _ hs5]; exact KW.out
    have hz9 : W2.heap.size ≤ w9.heap.size := hb9.size
    have HB9 := Lib.hid hb9
    have J2 := Lib.hid j2
    clear hb9
    go_wp2_with (first | (go_at_call 95; refine (q1.out _).mono ?_; rintro e w3 ⟨rfl, rfl⟩) | (go_at_call 101; refine (ov.out _ _ ?_ ?_).mono ?_; (focus simp [go_sem]); (focus simp [go_sem]); rintro e w4 ⟨rfl, rfl⟩))
    go_ret
    exact ⟨by rw [HR.out] <;> rfl, grown_then G2.out HB9.out, J2.out⟩
  cases z2
  case true =>
    have HR : Hid (R = 153) := by show _ = _; rw [HE.out]; simp [t1, u1, u2, t3]
    clear HE
    go_wp2_with (fail)
    rw [hW2.out]
    refine wp_region_later (by kernel_rfl) (by kernel_rfl) ?_
    have hl_ := later_cell (W2)
    repeat (first | go_big_quiet_step (((first | (go_at_call 99; exact later_same (q4.out _)) | (go_at_call 100; exact later_same (q5.out _))))) | quiet_step (((first | (go_at_call 99; exact later_same (q4.out _)) | (go_at_call 100; exact later_same (q5.out _))))))
    refine wpQuiet_nil ?_
    intro w9 hx_
    obtain ⟨⟨w_, hb9⟩, e_⟩ := hx_
    have e2_ : w9 = w_ := e_
    clear e_
    subst e2_
    clear hl_
    have j1 : w9.cell? ⟨H, 0, none⟩ = some (.int .i64 now) := by rw [(bcell hb9).1 _ _ hs3]; exact k1
    have j2 : w9.cell? ⟨W, 0, none⟩ = some (.int .i64 aw) := by rw [(bcell hb9).1 _ _ hs5]; exact KW.out
    have hz9 : W2.heap.size ≤ w9.heap.size := hb9.size
    have HB9 := Lib.hid hb9
    have J2 := Lib.hid j2
    clear hb9
    go_wp2_with (first | (go_at_call 95; refine (q1.out _).mono ?_; rintro e w3 ⟨rfl, rfl⟩) | (go_at_call 101; refine (ov.out _ _ ?_ ?_).mono ?_; (focus simp [go_sem]); (focus simp [go_sem]); rintro e w4 ⟨rfl, rfl⟩))
    go_ret
    exact ⟨by rw [HR.out] <;> rfl, grown_then G2.out (HB9.out.alloc HB9.out.size _), (World.cell?_alloc_lt _ _ _ (by show W < w9.heap.size; omega)).trans J2.out⟩
  have HR : Hid (R = 0) := by show _ = _; rw [HE.out]; simp [t1, u1, u2, t3]
  clear HE
  go_wp2_with (fail)
  rw [hW2.out]
  refine wp_region_later (by kernel_rfl) (by kernel_rfl) ?_
  have hl_ := later_cell (W2)
  repeat (first | go_big_quiet_step (((first | (go_at_call 99; exact later_same (q4.out _)) | (go_at_call 100; exact later_same (q5.out _))))) | quiet_step (((first | (go_at_call 99; exact later_same (q4.out _)) | (go_at_call 100; exact later_same (q5.out _))))))
  refine wpQuiet_nil ?_
  intro w9 hx_
  obtain ⟨⟨w_, hb9⟩, e_⟩ := hx_
  have e2_ : w9 = w_ := e_
  clear e_
  subst e2_
  clear hl_
  have j1 : w9.cell? ⟨H, 0, none⟩ = some (.int .i64 now) := by rw [(bcell hb9).1 _ _ hs3]; exact k1
  have j2 : w9.cell? ⟨W, 0, none⟩ = some (.int .i64 aw) := by rw [(bcell hb9).1 _ _ hs5]; exact KW.out
  have hz9 : W2.heap.size ≤ w9.heap.size := hb9.size
  have HB9 := Lib.hid hb9
  have J2 := Lib.hid j2
  clear hb9
  go_wp2_with (first | (go_at_call 95; refine (q1.out _).mono ?_; rintro e w3 ⟨rfl, rfl⟩) | (go_at_call 101; refine (ov.out _ _ ?_ ?_).mono ?_; (focus simp [go_sem]); (focus simp [go_sem]); rintro e w4 ⟨rfl, rfl⟩))
  go_ret
  exact ⟨by rw [HR.out] <;> rfl, grown_then G2.out (HB9.out.alloc HB9.out.size _), (World.cell?_alloc_lt _ _ _ (by show W < w9.heap.size; omega)).trans J2.out⟩
/-- a call hands back a job in new memory, and an error; nothing old was written -/
def RetJX (w : World) (q : Jb × Int) (e : Ending) (w' : World) : Prop :=
  ∃ A c A2 c2, e = .returned (.tuple #[jbV q.1 A c A2 c2, .int .i64 q.2]) ∧ JbAt w' w'.heap.size q.1 A c A2 c2 ∧ JbOff w.heap.size q.1 A A2 ∧ Below w.heap.size w w'
def allocs (w : World) (l : List Obj) : World := l.foldl (fun w o => w.alloc o) w
theorem allocs_size (l : List Obj) : ∀ w : World, (allocs w l).heap.size = w.heap.size + l.length := by
  induction l with
  | nil => intro w; rfl
  | cons a l ih =>
    intro w
    show (allocs (w.alloc a) l).heap.size = _
    rw [ih, World.size_alloc, List.length_cons]; omega
theorem allocs_below (l : List Obj) : ∀ w : World, Below w.heap.size w (allocs w l) := by
  induction l with
  | nil => intro w; exact Below.refl _ _
  | cons a l ih => intro w; exact bt ((Below.refl _ _).alloc (Nat.le_refl _) a) (ih (w.alloc a))
theorem allocs_at (l : List Obj) : ∀ (w : World) (k : Nat) (o : Obj), l[k]? = some o → (allocs w l).heap[w.heap.size + k]? = some o := by
  induction l with
  | nil => intro w k o h; simp at h
  | cons a l ih =>
    intro w k o h
    show (allocs (w.alloc a) l).heap[w.heap.size + k]? = _
    cases k with
    | zero =>
      simp at h; subst h
      exact ((allocs_below l (w.alloc a)).block _ (by simp)).trans (heap_alloc_new w a)
    | succ k =>
      simp at h
      have := ih (w.alloc a) k o h
      rw [World.size_alloc] at this
      rwa [show w.heap.size + (k + 1) = w.heap.size + 1 + k by omega]
theorem cell_keep {v v' : World} {b : Nat} {u : Value} (hb : Below v.heap.size v v') (hl : b < v.heap.size) (h : v.cell? ⟨b, 0, none⟩ = some u) : v'.cell? ⟨b, 0, none⟩ = some u := (hb.cell (p := ⟨b, 0, none⟩) hl).trans h
theorem cell_keep_g {v v' : World} {row : Option Nat} {b : Nat} {u : Value} (hg : v.grownBy v' row) (hl : b < v.heap.size) (hn : some b ≠ row) (h : v.cell? ⟨b, 0, none⟩ = some u) : v'.cell? ⟨b, 0, none⟩ = some u := (World.cell?_of_block (a := ⟨b, 0, none⟩) (hg.block b hl hn)).trans h
theorem retX_end {w w1 : World} {q : Jb × Int} {A A2 : Option Addr} {c c2 : Nat} {V : World} {row : Option Nat} {r : Nat} (hV : Below w.heap.size w V) (hlt : r < V.heap.size) (hr : w.heap.size ≤ r) (hrow : ∀ k, row = some k → w.heap.size ≤ k)
    (hat : JbAt w1 w1.heap.size q.1 A c A2 c2) (hoff : JbOff V.heap.size q.1 A A2) (hk : Kp V.heap.size row V w1) (l : Array Value) :
    RetJX w q (.returned (.tuple #[.agg (jbA q.1 A c A2 c2), .int .i64 q.2])) (w1.setRow r l) := by
  refine ⟨A, c, A2, c2, rfl, ?_, ⟨hoff.1.mono hV.size, hoff.2.mono hV.size⟩, ?_⟩
  · rw [Go.setRow_size]
    exact hat.only hoff hlt row_only
  · exact below_row (hV.trans (hk.below hV.size hrow)) hr _
set_option linter.unusedSimpArgs false in
set_option maxHeartbeats 4000000 in
set_option maxRecDepth 100000 in
theorem drop_any (x : Jb) (A A2 : Option Addr) (c c2 B : Nat) (w : World) (hx : JbAt w B x A c A2 c2) (hB : B ≤ w.heap.size) (hz : JbSz x) :
    Calls Tryz.prog 56 #[jbV x A c A2 c2] w (RetJX w (dropJ x)) := by
  have eg : ∀ args w, (callFunc 117 args).run Tryz.prog w = .ok (.enter 117 args) w := enters_of Tryz.func117 (by kernel_rfl) rfl
  have eg2 : ∀ args w, (callFunc 118 args).run Tryz.prog w = .ok (.enter 118 args) w := enters_of Tryz.func118 (by kernel_rfl) rfl
  have ht : ∀ (V : World) (hV : Below w.heap.size w V) (hs : w.heap.size + 2 ≤ V.heap.size), Calls Tryz.prog 96 #[jbV x A c A2 c2, .func (.func 117) #[] #[], .func (.func 118) #[] #[]] V (RetJE (none) V (dropJ x)) := by
    intro V hV hs
    refine turn_any x (dropD x) (dropM x) A A2 c c2 w.heap.size V _ _ eg (fun v => True) _ ?_ _ _ eg2 ((hx.below (hV.mono hB)).more hB) hV.size hz ?_ ?_ ?_
    · intro k h; first | (cases h; done) | (cases h; constructor <;> omega)
    · intro _ v hv
      exact (drop_may x A A2 c c2 v ).mono (fun e v' ⟨he, hb⟩ => ⟨he, grown_of_below hb, trivial⟩)
    · intro _ _; exact drop_do x _
    · intro v v' hp hk; exact hp
  have HTN := Lib.hid ht
  clear ht hx hB hz eg eg2
  obtain ⟨q, hq⟩ : ∃ q, Hid (dropJ x = q) := ⟨_, rfl⟩
  rw [hq.out] at HTN ⊢
  rw [jbV_is] at HTN ⊢
  have HS := Lib.hid (jbA_size x A c A2 c2)
  have H1 := Lib.hid (jbA_one x A c A2 c2)
  obtain ⟨cs, hcs⟩ : ∃ cs, Hid (jbA x A c A2 c2 = cs) := ⟨_, rfl⟩
  rw [hcs.out] at HS H1 HTN ⊢
  clear hq
  obtain ⟨V, hV⟩ : ∃ V, Hid (((w.alloc (.cells cs 28)).alloc (.cells #[.int .i64 0, .string ⟨#[]⟩, .string ⟨#[]⟩, .string ⟨#[]⟩, .int .i64 0, .slice none 0 0, .int .i64 0, .int .i64 0, .int .i64 0, .int .i64 0, .slice none 0 0, .int .i64 0, .bool false, .int .i64 0, .int .i64 0, .int .i64 0, .int .i64 0, .int .i64 0, .int .u64 0, .int .i64 0] 28)) = V) := ⟨_, rfl⟩
  have HJ0 : Hid (((w.alloc (.cells cs 28)).alloc (.cells #[.int .i64 0, .string ⟨#[]⟩, .string ⟨#[]⟩, .string ⟨#[]⟩, .int .i64 0, .slice none 0 0, .int .i64 0, .int .i64 0, .int .i64 0, .int .i64 0, .slice none 0 0, .int .i64 0, .bool false, .int .i64 0, .int .i64 0, .int .i64 0, .int .i64 0, .int .i64 0, .int .u64 0, .int .i64 0] 28)).heap[w.heap.size]? = some (.cells cs 28 (0, 0))) := allocs_at [.cells cs 28, .cells #[.int .i64 0, .string ⟨#[]⟩, .string ⟨#[]⟩, .string ⟨#[]⟩, .int .i64 0, .slice none 0 0, .int .i64 0, .int .i64 0, .int .i64 0, .int .i64 0, .slice none 0 0, .int .i64 0, .bool false, .int .i64 0, .int .i64 0, .int .i64 0, .int .i64 0, .int .i64 0, .int .u64 0, .int .i64 0] 28] w 0 _ rfl
  have hb : Below w.heap.size w ((w.alloc (.cells cs 28)).alloc (.cells #[.int .i64 0, .string ⟨#[]⟩, .string ⟨#[]⟩, .string ⟨#[]⟩, .int .i64 0, .slice none 0 0, .int .i64 0, .int .i64 0, .int .i64 0, .int .i64 0, .slice none 0 0, .int .i64 0, .bool false, .int .i64 0, .int .i64 0, .int .i64 0, .int .i64 0, .int .i64 0, .int .u64 0, .int .i64 0] 28)) := allocs_below [.cells cs 28, .cells #[.int .i64 0, .string ⟨#[]⟩, .string ⟨#[]⟩, .string ⟨#[]⟩, .int .i64 0, .slice none 0 0, .int .i64 0, .int .i64 0, .int .i64 0, .int .i64 0, .slice none 0 0, .int .i64 0, .bool false, .int .i64 0, .int .i64 0, .int .i64 0, .int .i64 0, .int .i64 0, .int .u64 0, .int .i64 0] 28] w
  have hz : ((w.alloc (.cells cs 28)).alloc (.cells #[.int .i64 0, .string ⟨#[]⟩, .string ⟨#[]⟩, .string ⟨#[]⟩, .int .i64 0, .slice none 0 0, .int .i64 0, .int .i64 0, .int .i64 0, .int .i64 0, .slice none 0 0, .int .i64 0, .bool false, .int .i64 0, .int .i64 0, .int .i64 0, .int .i64 0, .int .i64 0, .int .u64 0, .int .i64 0] 28)).heap.size = _ := allocs_size [.cells cs 28, .cells #[.int .i64 0, .string ⟨#[]⟩, .string ⟨#[]⟩, .string ⟨#[]⟩, .int .i64 0, .slice none 0 0, .int .i64 0, .int .i64 0, .int .i64 0, .int .i64 0, .slice none 0 0, .int .i64 0, .bool false, .int .i64 0, .int .i64 0, .int .i64 0, .int .i64 0, .int .i64 0, .int .u64 0, .int .i64 0] 28] w
  have g1 : ((w.alloc (.cells cs 28)).alloc (.cells #[.int .i64 0, .string ⟨#[]⟩, .string ⟨#[]⟩, .string ⟨#[]⟩, .int .i64 0, .slice none 0 0, .int .i64 0, .int .i64 0, .int .i64 0, .int .i64 0, .slice none 0 0, .int .i64 0, .bool false, .int .i64 0, .int .i64 0, .int .i64 0, .int .i64 0, .int .i64 0, .int .u64 0, .int .i64 0] 28)).heap[w.heap.size + 1]? = some (.cells #[.int .i64 0, .string ⟨#[]⟩, .string ⟨#[]⟩, .string ⟨#[]⟩, .int .i64 0, .slice none 0 0, .int .i64 0, .int .i64 0, .int .i64 0, .int .i64 0, .slice none 0 0, .int .i64 0, .bool false, .int .i64 0, .int .i64 0, .int .i64 0, .int .i64 0, .int .i64 0, .int .u64 0, .int .i64 0] 28) := allocs_at [.cells cs 28, .cells #[.int .i64 0, .string ⟨#[]⟩, .string ⟨#[]⟩, .string ⟨#[]⟩, .int .i64 0, .slice none 0 0, .int .i64 0, .int .i64 0, .int .i64 0, .int .i64 0, .slice none 0 0, .int .i64 0, .bool false, .int .i64 0, .int .i64 0, .int .i64 0, .int .i64 0, .int .i64 0, .int .u64 0, .int .i64 0] 28] w 1 _ rfl
  rw [hV.out] at hb hz g1
  simp only [List.length_cons, List.length_nil] at hz
  have HT := Lib.hid (HTN.out V hb (by omega))
  have HB := Lib.hid hb
  have hs : w.heap.size + 1 < V.heap.size := by omega
  have GR := Lib.hid g1
  clear HTN hb hz g1
  go_enter Tryz.func56, Tryz.ntmps56
  go_wp2_with (refine wpList_load_row rfl 28 _ rfl (w.heap.size) rfl 28 _ (0, 0) _ HJ0.out Tryz.underlying28 rfl (info30 HS.out) ?_)
  rw [hV.out]
  refine HT.out.mono ?_; rintro e w1 ⟨A5, c5, A6, c6, rfl, hat, hoff, hk⟩
  have gr := (hk.block (w.heap.size + 1) (by omega) (by simp)).trans GR.out
  have GR1 := Lib.hid gr
  have hs1 : w.heap.size + 1 < w1.heap.size := (Array.getElem?_eq_some_iff.1 gr).1
  have HEND := Lib.hid (fun l => retX_end (w := w) (q := q) (row := none) HB.out hs (by omega) (fun k h => by cases h) hat hoff hk l)
  clear hat hoff hk gr
  rw [jbV_is]
  go_wp2_with (refine wpList_store_row rfl 28 _ _ rfl (w.heap.size + 1) _ rfl rfl 28 _ GR1.out (info30 (jbA_size _ _ _ _ _)) rfl (jbA_one _ _ _ _ _) ?_)
  (try simp only [Exit.inBlock, Exit.then])
  refine bodyPost_ret (results_cell2 rfl _ _ (w.heap.size + 1) _ _ _ _ rfl (setRow_heap _ _ _ _ _ _ GR1.out) Tryz.underlying28 rfl (info30 (jbA_size _ _ _ _ _))) rfl ?_
  exact HEND.out _
set_option linter.unusedSimpArgs false in
set_option maxHeartbeats 4000000 in
set_option maxRecDepth 100000 in
theorem hold_any (x : Jb) (h : Bool) (A A2 : Option Addr) (c c2 B : Nat) (w : World) (hx : JbAt w B x A c A2 c2) (hB : B ≤ w.heap.size) (hz : JbSz x) :
    Calls Tryz.prog 55 #[jbV x A c A2 c2, .bool h] w (RetJX w (holdJ x h)) := by
  have hmf : ∀ (fn : Fn) (first cap : Array Value) (w : World), (Instr.makeFunc fn first cap).run Tryz.prog w = .ok (.func fn first cap) w := fun _ _ _ _ => rfl
  have eg : ∀ args w, (callFunc 115 args).run Tryz.prog w = .ok (.enter 115 args) w := enters_of Tryz.func115 (by kernel_rfl) rfl
  have eg2 : ∀ args w, (callFunc 116 args).run Tryz.prog w = .ok (.enter 116 args) w := enters_of Tryz.func116 (by kernel_rfl) rfl
  have ht : ∀ (V : World) (hV : Below w.heap.size w V) (hs : w.heap.size + 3 ≤ V.heap.size) (ch : V.cell? ⟨w.heap.size + 1, 0, none⟩ = some (.bool h)), Calls Tryz.prog 96 #[jbV x A c A2 c2, .func (.func 115) #[] #[.pointer (some ⟨w.heap.size + 1, 0, none⟩)], .func (.func 116) #[] #[.pointer (some ⟨w.heap.size + 1, 0, none⟩)]] V (RetJE (none) V (holdJ x h)) := by
    intro V hV hs ch
    refine turn_any x (holdD x h) (holdM x h) A A2 c c2 w.heap.size V _ _ eg (fun v => v.cell? ⟨w.heap.size + 1, 0, none⟩ = some (.bool h)) _ ?_ _ _ eg2 ((hx.below (hV.mono hB)).more hB) hV.size hz ?_ ?_ ?_
    · intro k h; first | (cases h; done) | (cases h; constructor <;> omega)
    · intro _ v hv
      exact (hold_may x A A2 c c2 h (w.heap.size + 1) v (by have := hv.size; omega) (by rw [(bcell hv).1 _ _ (by omega)]; assumption)).mono (fun e v' ⟨he, hb⟩ => ⟨he, grown_of_below hb, cell_keep hb (by have := hv.size; omega) (by rw [(bcell hv).1 _ _ (by omega)]; assumption)⟩)
    · intro _ _; exact hold_do x h (w.heap.size + 1) _ (by omega)
    · intro v v' hp hk; simp only [World.cell?] at hp ⊢; first | (rw [hk _ (by omega)]; exact hp) | (obtain ⟨h1, h2⟩ := hp; rw [hk _ (by omega), hk _ (by omega)]; exact ⟨h1, h2⟩) | (obtain ⟨h1, h2, h3⟩ := hp; rw [hk _ (by omega), hk _ (by omega), hk _ (by omega)]; exact ⟨h1, h2, h3⟩)
  have HTN := Lib.hid ht
  clear ht hx hB hz eg eg2
  obtain ⟨q, hq⟩ : ∃ q, Hid (holdJ x h = q) := ⟨_, rfl⟩
  rw [hq.out] at HTN ⊢
  rw [jbV_is] at HTN ⊢
  have HS := Lib.hid (jbA_size x A c A2 c2)
  have H1 := Lib.hid (jbA_one x A c A2 c2)
  obtain ⟨cs, hcs⟩ : ∃ cs, Hid (jbA x A c A2 c2 = cs) := ⟨_, rfl⟩
  rw [hcs.out] at HS H1 HTN ⊢
  clear hq
  obtain ⟨V, hV⟩ : ∃ V, Hid ((((w.alloc (.cells cs 28)).alloc (.cells #[.bool h] 4)).alloc (.cells #[.int .i64 0, .string ⟨#[]⟩, .string ⟨#[]⟩, .string ⟨#[]⟩, .int .i64 0, .slice none 0 0, .int .i64 0, .int .i64 0, .int .i64 0, .int .i64 0, .slice none 0 0, .int .i64 0, .bool false, .int .i64 0, .int .i64 0, .int .i64 0, .int .i64 0, .int .i64 0, .int .u64 0, .int .i64 0] 28)) = V) := ⟨_, rfl⟩
  have HJ0 : Hid ((((w.alloc (.cells cs 28)).alloc (.cells #[.bool h] 4)).alloc (.cells #[.int .i64 0, .string ⟨#[]⟩, .string ⟨#[]⟩, .string ⟨#[]⟩, .int .i64 0, .slice none 0 0, .int .i64 0, .int .i64 0, .int .i64 0, .int .i64 0, .slice none 0 0, .int .i64 0, .bool false, .int .i64 0, .int .i64 0, .int .i64 0, .int .i64 0, .int .i64 0, .int .u64 0, .int .i64 0] 28)).heap[w.heap.size]? = some (.cells cs 28 (0, 0))) := allocs_at [.cells cs 28, .cells #[.bool h] 4, .cells #[.int .i64 0, .string ⟨#[]⟩, .string ⟨#[]⟩, .string ⟨#[]⟩, .int .i64 0, .slice none 0 0, .int .i64 0, .int .i64 0, .int .i64 0, .int .i64 0, .slice none 0 0, .int .i64 0, .bool false, .int .i64 0, .int .i64 0, .int .i64 0, .int .i64 0, .int .i64 0, .int .u64 0, .int .i64 0] 28] w 0 _ rfl
  have hb : Below w.heap.size w (((w.alloc (.cells cs 28)).alloc (.cells #[.bool h] 4)).alloc (.cells #[.int .i64 0, .string ⟨#[]⟩, .string ⟨#[]⟩, .string ⟨#[]⟩, .int .i64 0, .slice none 0 0, .int .i64 0, .int .i64 0, .int .i64 0, .int .i64 0, .slice none 0 0, .int .i64 0, .bool false, .int .i64 0, .int .i64 0, .int .i64 0, .int .i64 0, .int .i64 0, .int .u64 0, .int .i64 0] 28)) := allocs_below [.cells cs 28, .cells #[.bool h] 4, .cells #[.int .i64 0, .string ⟨#[]⟩, .string ⟨#[]⟩, .string ⟨#[]⟩, .int .i64 0, .slice none 0 0, .int .i64 0, .int .i64 0, .int .i64 0, .int .i64 0, .slice none 0 0, .int .i64 0, .bool false, .int .i64 0, .int .i64 0, .int .i64 0, .int .i64 0, .int .i64 0, .int .u64 0, .int .i64 0] 28] w
  have hz : (((w.alloc (.cells cs 28)).alloc (.cells #[.bool h] 4)).alloc (.cells #[.int .i64 0, .string ⟨#[]⟩, .string ⟨#[]⟩, .string ⟨#[]⟩, .int .i64 0, .slice none 0 0, .int .i64 0, .int .i64 0, .int .i64 0, .int .i64 0, .slice none 0 0, .int .i64 0, .bool false, .int .i64 0, .int .i64 0, .int .i64 0, .int .i64 0, .int .i64 0, .int .u64 0, .int .i64 0] 28)).heap.size = _ := allocs_size [.cells cs 28, .cells #[.bool h] 4, .cells #[.int .i64 0, .string ⟨#[]⟩, .string ⟨#[]⟩, .string ⟨#[]⟩, .int .i64 0, .slice none 0 0, .int .i64 0, .int .i64 0, .int .i64 0, .int .i64 0, .slice none 0 0, .int .i64 0, .bool false, .int .i64 0, .int .i64 0, .int .i64 0, .int .i64 0, .int .i64 0, .int .u64 0, .int .i64 0] 28] w
  have g1 : (((w.alloc (.cells cs 28)).alloc (.cells #[.bool h] 4)).alloc (.cells #[.int .i64 0, .string ⟨#[]⟩, .string ⟨#[]⟩, .string ⟨#[]⟩, .int .i64 0, .slice none 0 0, .int .i64 0, .int .i64 0, .int .i64 0, .int .i64 0, .slice none 0 0, .int .i64 0, .bool false, .int .i64 0, .int .i64 0, .int .i64 0, .int .i64 0, .int .i64 0, .int .u64 0, .int .i64 0] 28)).heap[w.heap.size + 1]? = some (.cells #[.bool h] 4) := allocs_at [.cells cs 28, .cells #[.bool h] 4, .cells #[.int .i64 0, .string ⟨#[]⟩, .string ⟨#[]⟩, .string ⟨#[]⟩, .int .i64 0, .slice none 0 0, .int .i64 0, .int .i64 0, .int .i64 0, .int .i64 0, .slice none 0 0, .int .i64 0, .bool false, .int .i64 0, .int .i64 0, .int .i64 0, .int .i64 0, .int .i64 0, .int .u64 0, .int .i64 0] 28] w 1 _ rfl
  have g2 : (((w.alloc (.cells cs 28)).alloc (.cells #[.bool h] 4)).alloc (.cells #[.int .i64 0, .string ⟨#[]⟩, .string ⟨#[]⟩, .string ⟨#[]⟩, .int .i64 0, .slice none 0 0, .int .i64 0, .int .i64 0, .int .i64 0, .int .i64 0, .slice none 0 0, .int .i64 0, .bool false, .int .i64 0, .int .i64 0, .int .i64 0, .int .i64 0, .int .i64 0, .int .u64 0, .int .i64 0] 28)).heap[w.heap.size + 2]? = some (.cells #[.int .i64 0, .string ⟨#[]⟩, .string ⟨#[]⟩, .string ⟨#[]⟩, .int .i64 0, .slice none 0 0, .int .i64 0, .int .i64 0, .int .i64 0, .int .i64 0, .slice none 0 0, .int .i64 0, .bool false, .int .i64 0, .int .i64 0, .int .i64 0, .int .i64 0, .int .i64 0, .int .u64 0, .int .i64 0] 28) := allocs_at [.cells cs 28, .cells #[.bool h] 4, .cells #[.int .i64 0, .string ⟨#[]⟩, .string ⟨#[]⟩, .string ⟨#[]⟩, .int .i64 0, .slice none 0 0, .int .i64 0, .int .i64 0, .int .i64 0, .int .i64 0, .slice none 0 0, .int .i64 0, .bool false, .int .i64 0, .int .i64 0, .int .i64 0, .int .i64 0, .int .i64 0, .int .u64 0, .int .i64 0] 28] w 2 _ rfl
  rw [hV.out] at hb hz g1 g2
  simp only [List.length_cons, List.length_nil] at hz
  have ch : V.cell? ⟨w.heap.size + 1, 0, none⟩ = some (.bool h) := cell_of_row V _ 0 _ _ _ g1
  have HT := Lib.hid (HTN.out V hb (by omega) ch)
  have HB := Lib.hid hb
  have hs : w.heap.size + 2 < V.heap.size := by omega
  have GR := Lib.hid g2
  clear HTN hb hz ch g1 g2
  go_enter Tryz.func55, Tryz.ntmps55
  go_wp2_with (refine wpList_load_row rfl 28 _ rfl (w.heap.size) rfl 28 _ (0, 0) _ HJ0.out Tryz.underlying28 rfl (info30 HS.out) ?_)
  rw [hV.out]
  refine HT.out.mono ?_; rintro e w1 ⟨A5, c5, A6, c6, rfl, hat, hoff, hk⟩
  have gr := (hk.block (w.heap.size + 2) (by omega) (by simp)).trans GR.out
  have GR1 := Lib.hid gr
  have hs1 : w.heap.size + 2 < w1.heap.size := (Array.getElem?_eq_some_iff.1 gr).1
  have HEND := Lib.hid (fun l => retX_end (w := w) (q := q) (row := none) HB.out hs (by omega) (fun k h => by cases h) hat hoff hk l)
  clear hat hoff hk gr
  rw [jbV_is]
  go_wp2_with (refine wpList_store_row rfl 28 _ _ rfl (w.heap.size + 2) _ rfl rfl 28 _ GR1.out (info30 (jbA_size _ _ _ _ _)) rfl (jbA_one _ _ _ _ _) ?_)
  (try simp only [Exit.inBlock, Exit.then])
  refine bodyPost_ret (results_cell2 rfl _ _ (w.heap.size + 2) _ _ _ _ rfl (setRow_heap _ _ _ _ _ _ GR1.out) Tryz.underlying28 rfl (info30 (jbA_size _ _ _ _ _))) rfl ?_
  exact HEND.out _
set_option linter.unusedSimpArgs false in
set_option maxHeartbeats 4000000 in
set_option maxRecDepth 100000 in
theorem end_any (x : Jb) (st : Int) (A A2 : Option Addr) (c c2 B : Nat) (w : World) (hx : JbAt w B x A c A2 c2) (hB : B ≤ w.heap.size) (hz : JbSz x) :
    Calls Tryz.prog 52 #[jbV x A c A2 c2, .int .i64 st] w (RetJX w (endJ x st)) := by
  have hmf : ∀ (fn : Fn) (first cap : Array Value) (w : World), (Instr.makeFunc fn first cap).run Tryz.prog w = .ok (.func fn first cap) w := fun _ _ _ _ => rfl
  have eg : ∀ args w, (callFunc 103 args).run Tryz.prog w = .ok (.enter 103 args) w := enters_of Tryz.func103 (by kernel_rfl) rfl
  have eg2 : ∀ args w, (callFunc 105 args).run Tryz.prog w = .ok (.enter 105 args) w := enters_of Tryz.func105 (by kernel_rfl) rfl
  have ht : ∀ (V : World) (hV : Below w.heap.size w V) (hs : w.heap.size + 3 ≤ V.heap.size) (cst : V.cell? ⟨w.heap.size + 1, 0, none⟩ = some (.int .i64 st)), Calls Tryz.prog 96 #[jbV x A c A2 c2, .func (.func 103) #[] #[.pointer (some ⟨w.heap.size + 1, 0, none⟩)], .func (.func 105) #[] #[.pointer (some ⟨w.heap.size + 1, 0, none⟩)]] V (RetJE (none) V (endJ x st)) := by
    intro V hV hs cst
    refine turn_any x (finD x st) (endM x st) A A2 c c2 w.heap.size V _ _ eg (fun v => v.cell? ⟨w.heap.size + 1, 0, none⟩ = some (.int .i64 st)) _ ?_ _ _ eg2 ((hx.below (hV.mono hB)).more hB) hV.size hz ?_ ?_ ?_
    · intro k h; first | (cases h; done) | (cases h; constructor <;> omega)
    · intro _ v hv
      exact (end_may x A A2 c c2 st (w.heap.size + 1) v (by have := hv.size; omega) (by rw [(bcell hv).1 _ _ (by omega)]; assumption)).mono (fun e v' ⟨he, hb⟩ => ⟨he, grown_of_below hb, cell_keep hb (by have := hv.size; omega) (by rw [(bcell hv).1 _ _ (by omega)]; assumption)⟩)
    · intro _ _; exact end_do x st (w.heap.size + 1) _ (by omega)
    · intro v v' hp hk; simp only [World.cell?] at hp ⊢; first | (rw [hk _ (by omega)]; exact hp) | (obtain ⟨h1, h2⟩ := hp; rw [hk _ (by omega), hk _ (by omega)]; exact ⟨h1, h2⟩) | (obtain ⟨h1, h2, h3⟩ := hp; rw [hk _ (by omega), hk _ (by omega), hk _ (by omega)]; exact ⟨h1, h2, h3⟩)
  have HTN := Lib.hid ht
  clear ht hx hB hz eg eg2
  obtain ⟨q, hq⟩ : ∃ q, Hid (endJ x st = q) := ⟨_, rfl⟩
  rw [hq.out] at HTN ⊢
  rw [jbV_is] at HTN ⊢
  have HS := Lib.hid (jbA_size x A c A2 c2)
  have H1 := Lib.hid (jbA_one x A c A2 c2)
  obtain ⟨cs, hcs⟩ : ∃ cs, Hid (jbA x A c A2 c2 = cs) := ⟨_, rfl⟩
  rw [hcs.out] at HS H1 HTN ⊢
  clear hq
  obtain ⟨V, hV⟩ : ∃ V, Hid ((((w.alloc (.cells cs 28)).alloc (.cells #[.int .i64 st] 3)).alloc (.cells #[.int .i64 0, .string ⟨#[]⟩, .string ⟨#[]⟩, .string ⟨#[]⟩, .int .i64 0, .slice none 0 0, .int .i64 0, .int .i64 0, .int .i64 0, .int .i64 0, .slice none 0 0, .int .i64 0, .bool false, .int .i64 0, .int .i64 0, .int .i64 0, .int .i64 0, .int .i64 0, .int .u64 0, .int .i64 0] 28)) = V) := ⟨_, rfl⟩
  have HJ0 : Hid ((((w.alloc (.cells cs 28)).alloc (.cells #[.int .i64 st] 3)).alloc (.cells #[.int .i64 0, .string ⟨#[]⟩, .string ⟨#[]⟩, .string ⟨#[]⟩, .int .i64 0, .slice none 0 0, .int .i64 0, .int .i64 0, .int .i64 0, .int .i64 0, .slice none 0 0, .int .i64 0, .bool false, .int .i64 0, .int .i64 0, .int .i64 0, .int .i64 0, .int .i64 0, .int .u64 0, .int .i64 0] 28)).heap[w.heap.size]? = some (.cells cs 28 (0, 0))) := allocs_at [.cells cs 28, .cells #[.int .i64 st] 3, .cells #[.int .i64 0, .string ⟨#[]⟩, .string ⟨#[]⟩, .string ⟨#[]⟩, .int .i64 0, .slice none 0 0, .int .i64 0, .int .i64 0, .int .i64 0, .int .i64 0, .slice none 0 0, .int .i64 0, .bool false, .int .i64 0, .int .i64 0, .int .i64 0, .int .i64 0, .int .i64 0, .int .u64 0, .int .i64 0] 28] w 0 _ rfl
  have hb : Below w.heap.size w (((w.alloc (.cells cs 28)).alloc (.cells #[.int .i64 st] 3)).alloc (.cells #[.int .i64 0, .string ⟨#[]⟩, .string ⟨#[]⟩, .string ⟨#[]⟩, .int .i64 0, .slice none 0 0, .int .i64 0, .int .i64 0, .int .i64 0, .int .i64 0, .slice none 0 0, .int .i64 0, .bool false, .int .i64 0, .int .i64 0, .int .i64 0, .int .i64 0, .int .i64 0, .int .u64 0, .int .i64 0] 28)) := allocs_below [.cells cs 28, .cells #[.int .i64 st] 3, .cells #[.int .i64 0, .string ⟨#[]⟩, .string ⟨#[]⟩, .string ⟨#[]⟩, .int .i64 0, .slice none 0 0, .int .i64 0, .int .i64 0, .int .i64 0, .int .i64 0, .slice none 0 0, .int .i64 0, .bool false, .int .i64 0, .int .i64 0, .int .i64 0, .int .i64 0, .int .i64 0, .int .u64 0, .int .i64 0] 28] w
  have hz : (((w.alloc (.cells cs 28)).alloc (.cells #[.int .i64 st] 3)).alloc (.cells #[.int .i64 0, .string ⟨#[]⟩, .string ⟨#[]⟩, .string ⟨#[]⟩, .int .i64 0, .slice none 0 0, .int .i64 0, .int .i64 0, .int .i64 0, .int .i64 0, .slice none 0 0, .int .i64 0, .bool false, .int .i64 0, .int .i64 0, .int .i64 0, .int .i64 0, .int .i64 0, .int .u64 0, .int .i64 0] 28)).heap.size = _ := allocs_size [.cells cs 28, .cells #[.int .i64 st] 3, .cells #[.int .i64 0, .string ⟨#[]⟩, .string ⟨#[]⟩, .string ⟨#[]⟩, .int .i64 0, .slice none 0 0, .int .i64 0, .int .i64 0, .int .i64 0, .int .i64 0, .slice none 0 0, .int .i64 0, .bool false, .int .i64 0, .int .i64 0, .int .i64 0, .int .i64 0, .int .i64 0, .int .u64 0, .int .i64 0] 28] w
  have g1 : (((w.alloc (.cells cs 28)).alloc (.cells #[.int .i64 st] 3)).alloc (.cells #[.int .i64 0, .string ⟨#[]⟩, .string ⟨#[]⟩, .string ⟨#[]⟩, .int .i64 0, .slice none 0 0, .int .i64 0, .int .i64 0, .int .i64 0, .int .i64 0, .slice none 0 0, .int .i64 0, .bool false, .int .i64 0, .int .i64 0, .int .i64 0, .int .i64 0, .int .i64 0, .int .u64 0, .int .i64 0] 28)).heap[w.heap.size + 1]? = some (.cells #[.int .i64 st] 3) := allocs_at [.cells cs 28, .cells #[.int .i64 st] 3, .cells #[.int .i64 0, .string ⟨#[]⟩, .string ⟨#[]⟩, .string ⟨#[]⟩, .int .i64 0, .slice none 0 0, .int .i64 0, .int .i64 0, .int .i64 0, .int .i64 0, .slice none 0 0, .int .i64 0, .bool false, .int .i64 0, .int .i64 0, .int .i64 0, .int .i64 0, .int .i64 0, .int .u64 0, .int .i64 0] 28] w 1 _ rfl
  have g2 : (((w.alloc (.cells cs 28)).alloc (.cells #[.int .i64 st] 3)).alloc (.cells #[.int .i64 0, .string ⟨#[]⟩, .string ⟨#[]⟩, .string ⟨#[]⟩, .int .i64 0, .slice none 0 0, .int .i64 0, .int .i64 0, .int .i64 0, .int .i64 0, .slice none 0 0, .int .i64 0, .bool false, .int .i64 0, .int .i64 0, .int .i64 0, .int .i64 0, .int .i64 0, .int .u64 0, .int .i64 0] 28)).heap[w.heap.size + 2]? = some (.cells #[.int .i64 0, .string ⟨#[]⟩, .string ⟨#[]⟩, .string ⟨#[]⟩, .int .i64 0, .slice none 0 0, .int .i64 0, .int .i64 0, .int .i64 0, .int .i64 0, .slice none 0 0, .int .i64 0, .bool false, .int .i64 0, .int .i64 0, .int .i64 0, .int .i64 0, .int .i64 0, .int .u64 0, .int .i64 0] 28) := allocs_at [.cells cs 28, .cells #[.int .i64 st] 3, .cells #[.int .i64 0, .string ⟨#[]⟩, .string ⟨#[]⟩, .string ⟨#[]⟩, .int .i64 0, .slice none 0 0, .int .i64 0, .int .i64 0, .int .i64 0, .int .i64 0, .slice none 0 0, .int .i64 0, .bool false, .int .i64 0, .int .i64 0, .int .i64 0, .int .i64 0, .int .i64 0, .int .u64 0, .int .i64 0] 28] w 2 _ rfl
  rw [hV.out] at hb hz g1 g2
  simp only [List.length_cons, List.length_nil] at hz
  have cst : V.cell? ⟨w.heap.size + 1, 0, none⟩ = some (.int .i64 st) := cell_of_row V _ 0 _ _ _ g1
  have HT := Lib.hid (HTN.out V hb (by omega) cst)
  have HB := Lib.hid hb
  have hs : w.heap.size + 2 < V.heap.size := by omega
  have GR := Lib.hid g2
  clear HTN hb hz cst g1 g2
  go_enter Tryz.func52, Tryz.ntmps52
  go_wp2_with (refine wpList_load_row rfl 28 _ rfl (w.heap.size) rfl 28 _ (0, 0) _ HJ0.out Tryz.underlying28 rfl (info30 HS.out) ?_)
  rw [hV.out]
  refine HT.out.mono ?_; rintro e w1 ⟨A5, c5, A6, c6, rfl, hat, hoff, hk⟩
  have gr := (hk.block (w.heap.size + 2) (by omega) (by simp)).trans GR.out
  have GR1 := Lib.hid gr
  have hs1 : w.heap.size + 2 < w1.heap.size := (Array.getElem?_eq_some_iff.1 gr).1
  have HEND := Lib.hid (fun l => retX_end (w := w) (q := q) (row := none) HB.out hs (by omega) (fun k h => by cases h) hat hoff hk l)
  clear hat hoff hk gr
  rw [jbV_is]
  go_wp2_with (refine wpList_store_row rfl 28 _ _ rfl (w.heap.size + 2) _ rfl rfl 28 _ GR1.out (info30 (jbA_size _ _ _ _ _)) rfl (jbA_one _ _ _ _ _) ?_)
  (try simp only [Exit.inBlock, Exit.then])
  refine bodyPost_ret (results_cell2 rfl _ _ (w.heap.size + 2) _ _ _ _ rfl (setRow_heap _ _ _ _ _ _ GR1.out) Tryz.underlying28 rfl (info30 (jbA_size _ _ _ _ _))) rfl ?_
  exact HEND.out _
set_option linter.unusedSimpArgs false in
set_option maxHeartbeats 4000000 in
set_option maxRecDepth 100000 in
theorem size_any (x : Jb) (s : Nat) (A A2 : Option Addr) (c c2 B : Nat) (w : World) (hx : JbAt w B x A c A2 c2) (hB : B ≤ w.heap.size) (hz : JbSz x) (hs0 : s < M64) :
    Calls Tryz.prog 57 #[jbV x A c A2 c2, .int .u64 s] w (RetJX w (sizeJ x s)) := by
  have hmf : ∀ (fn : Fn) (first cap : Array Value) (w : World), (Instr.makeFunc fn first cap).run Tryz.prog w = .ok (.func fn first cap) w := fun _ _ _ _ => rfl
  have eg : ∀ args w, (callFunc 119 args).run Tryz.prog w = .ok (.enter 119 args) w := enters_of Tryz.func119 (by kernel_rfl) rfl
  have eg2 : ∀ args w, (callFunc 121 args).run Tryz.prog w = .ok (.enter 121 args) w := enters_of Tryz.func121 (by kernel_rfl) rfl
  have ht : ∀ (V : World) (hV : Below w.heap.size w V) (hs : w.heap.size + 3 ≤ V.heap.size) (cs : V.cell? ⟨w.heap.size + 1, 0, none⟩ = some (.int .u64 s)), Calls Tryz.prog 96 #[jbV x A c A2 c2, .func (.func 119) #[] #[.pointer (some ⟨w.heap.size + 1, 0, none⟩)], .func (.func 121) #[] #[.pointer (some ⟨w.heap.size + 1, 0, none⟩)]] V (RetJE (none) V (sizeJ x s)) := by
    intro V hV hs cs
    refine turn_any x (sizedD x s) (sizeM x s) A A2 c c2 w.heap.size V _ _ eg (fun v => v.cell? ⟨w.heap.size + 1, 0, none⟩ = some (.int .u64 s)) _ ?_ _ _ eg2 ((hx.below (hV.mono hB)).more hB) hV.size hz ?_ ?_ ?_
    · intro k h; first | (cases h; done) | (cases h; constructor <;> omega)
    · intro _ v hv
      exact (size_may x A A2 c c2 B s (w.heap.size + 1) v (by have := hv.size; omega) (by rw [(bcell hv).1 _ _ (by omega)]; assumption) hs0 (hx.below ((hV.trans (hv.mono hV.size)).mono hB)) (by have := hv.size; have := hV.size; omega)).mono (fun e v' ⟨he, hb⟩ => ⟨he, grown_of_below hb, cell_keep hb (by have := hv.size; omega) (by rw [(bcell hv).1 _ _ (by omega)]; assumption)⟩)
    · intro _ _; exact size_do x s (w.heap.size + 1) _ (by omega)
    · intro v v' hp hk; simp only [World.cell?] at hp ⊢; first | (rw [hk _ (by omega)]; exact hp) | (obtain ⟨h1, h2⟩ := hp; rw [hk _ (by omega), hk _ (by omega)]; exact ⟨h1, h2⟩) | (obtain ⟨h1, h2, h3⟩ := hp; rw [hk _ (by omega), hk _ (by omega), hk _ (by omega)]; exact ⟨h1, h2, h3⟩)
  have HTN := Lib.hid ht
  clear ht hx hB hz eg eg2
  obtain ⟨q, hq⟩ : ∃ q, Hid (sizeJ x s = q) := ⟨_, rfl⟩
  rw [hq.out] at HTN ⊢
  rw [jbV_is] at HTN ⊢
  have HS := Lib.hid (jbA_size x A c A2 c2)
  have H1 := Lib.hid (jbA_one x A c A2 c2)
  obtain ⟨cs, hcs⟩ : ∃ cs, Hid (jbA x A c A2 c2 = cs) := ⟨_, rfl⟩
  rw [hcs.out] at HS H1 HTN ⊢
  clear hq
  obtain ⟨us, hus⟩ : ∃ u : Int, (s : Int) = u := ⟨_, rfl⟩
  rw [hus] at HTN ⊢
  clear hus
  obtain ⟨V, hV⟩ : ∃ V, Hid ((((w.alloc (.cells cs 28)).alloc (.cells #[.int .u64 us] 26)).alloc (.cells #[.int .i64 0, .string ⟨#[]⟩, .string ⟨#[]⟩, .string ⟨#[]⟩, .int .i64 0, .slice none 0 0, .int .i64 0, .int .i64 0, .int .i64 0, .int .i64 0, .slice none 0 0, .int .i64 0, .bool false, .int .i64 0, .int .i64 0, .int .i64 0, .int .i64 0, .int .i64 0, .int .u64 0, .int .i64 0] 28)) = V) := ⟨_, rfl⟩
  have HJ0 : Hid ((((w.alloc (.cells cs 28)).alloc (.cells #[.int .u64 us] 26)).alloc (.cells #[.int .i64 0, .string ⟨#[]⟩, .string ⟨#[]⟩, .string ⟨#[]⟩, .int .i64 0, .slice none 0 0, .int .i64 0, .int .i64 0, .int .i64 0, .int .i64 0, .slice none 0 0, .int .i64 0, .bool false, .int .i64 0, .int .i64 0, .int .i64 0, .int .i64 0, .int .i64 0, .int .u64 0, .int .i64 0] 28)).heap[w.heap.size]? = some (.cells cs 28 (0, 0))) := allocs_at [.cells cs 28, .cells #[.int .u64 us] 26, .cells #[.int .i64 0, .string ⟨#[]⟩, .string ⟨#[]⟩, .string ⟨#[]⟩, .int .i64 0, .slice none 0 0, .int .i64 0, .int .i64 0, .int .i64 0, .int .i64 0, .slice none 0 0, .int .i64 0, .bool false, .int .i64 0, .int .i64 0, .int .i64 0, .int .i64 0, .int .i64 0, .int .u64 0, .int .i64 0] 28] w 0 _ rfl
  have hb : Below w.heap.size w (((w.alloc (.cells cs 28)).alloc (.cells #[.int .u64 us] 26)).alloc (.cells #[.int .i64 0, .string ⟨#[]⟩, .string ⟨#[]⟩, .string ⟨#[]⟩, .int .i64 0, .slice none 0 0, .int .i64 0, .int .i64 0, .int .i64 0, .int .i64 0, .slice none 0 0, .int .i64 0, .bool false, .int .i64 0, .int .i64 0, .int .i64 0, .int .i64 0, .int .i64 0, .int .u64 0, .int .i64 0] 28)) := allocs_below [.cells cs 28, .cells #[.int .u64 us] 26, .cells #[.int .i64 0, .string ⟨#[]⟩, .string ⟨#[]⟩, .string ⟨#[]⟩, .int .i64 0, .slice none 0 0, .int .i64 0, .int .i64 0, .int .i64 0, .int .i64 0, .slice none 0 0, .int .i64 0, .bool false, .int .i64 0, .int .i64 0, .int .i64 0, .int .i64 0, .int .i64 0, .int .u64 0, .int .i64 0] 28] w
  have hz : (((w.alloc (.cells cs 28)).alloc (.cells #[.int .u64 us] 26)).alloc (.cells #[.int .i64 0, .string ⟨#[]⟩, .string ⟨#[]⟩, .string ⟨#[]⟩, .int .i64 0, .slice none 0 0, .int .i64 0, .int .i64 0, .int .i64 0, .int .i64 0, .slice none 0 0, .int .i64 0, .bool false, .int .i64 0, .int .i64 0, .int .i64 0, .int .i64 0, .int .i64 0, .int .u64 0, .int .i64 0] 28)).heap.size = _ := allocs_size [.cells cs 28, .cells #[.int .u64 us] 26, .cells #[.int .i64 0, .string ⟨#[]⟩, .string ⟨#[]⟩, .string ⟨#[]⟩, .int .i64 0, .slice none 0 0, .int .i64 0, .int .i64 0, .int .i64 0, .int .i64 0, .slice none 0 0, .int .i64 0, .bool false, .int .i64 0, .int .i64 0, .int .i64 0, .int .i64 0, .int .i64 0, .int .u64 0, .int .i64 0] 28] w
  have g1 : (((w.alloc (.cells cs 28)).alloc (.cells #[.int .u64 us] 26)).alloc (.cells #[.int .i64 0, .string ⟨#[]⟩, .string ⟨#[]⟩, .string ⟨#[]⟩, .int .i64 0, .slice none 0 0, .int .i64 0, .int .i64 0, .int .i64 0, .int .i64 0, .slice none 0 0, .int .i64 0, .bool false, .int .i64 0, .int .i64 0, .int .i64 0, .int .i64 0, .int .i64 0, .int .u64 0, .int .i64 0] 28)).heap[w.heap.size + 1]? = some (.cells #[.int .u64 us] 26) := allocs_at [.cells cs 28, .cells #[.int .u64 us] 26, .cells #[.int .i64 0, .string ⟨#[]⟩, .string ⟨#[]⟩, .string ⟨#[]⟩, .int .i64 0, .slice none 0 0, .int .i64 0, .int .i64 0, .int .i64 0, .int .i64 0, .slice none 0 0, .int .i64 0, .bool false, .int .i64 0, .int .i64 0, .int .i64 0, .int .i64 0, .int .i64 0, .int .u64 0, .int .i64 0] 28] w 1 _ rfl
  have g2 : (((w.alloc (.cells cs 28)).alloc (.cells #[.int .u64 us] 26)).alloc (.cells #[.int .i64 0, .string ⟨#[]⟩, .string ⟨#[]⟩, .string ⟨#[]⟩, .int .i64 0, .slice none 0 0, .int .i64 0, .int .i64 0, .int .i64 0, .int .i64 0, .slice none 0 0, .int .i64 0, .bool false, .int .i64 0, .int .i64 0, .int .i64 0, .int .i64 0, .int .i64 0, .int .u64 0, .int .i64 0] 28)).heap[w.heap.size + 2]? = some (.cells #[.int .i64 0, .string ⟨#[]⟩, .string ⟨#[]⟩, .string ⟨#[]⟩, .int .i64 0, .slice none 0 0, .int .i64 0, .int .i64 0, .int .i64 0, .int .i64 0, .slice none 0 0, .int .i64 0, .bool false, .int .i64 0, .int .i64 0, .int .i64 0, .int .i64 0, .int .i64 0, .int .u64 0, .int .i64 0] 28) := allocs_at [.cells cs 28, .cells #[.int .u64 us] 26, .cells #[.int .i64 0, .string ⟨#[]⟩, .string ⟨#[]⟩, .string ⟨#[]⟩, .int .i64 0, .slice none 0 0, .int .i64 0, .int .i64 0, .int .i64 0, .int .i64 0, .slice none 0 0, .int .i64 0, .bool false, .int .i64 0, .int .i64 0, .int .i64 0, .int .i64 0, .int .i64 0, .int .u64 0, .int .i64 0] 28] w 2 _ rfl
  rw [hV.out] at hb hz g1 g2
  simp only [List.length_cons, List.length_nil] at hz
  have cs : V.cell? ⟨w.heap.size + 1, 0, none⟩ = some (.int .u64 us) := cell_of_row V _ 0 _ _ _ g1
  have HT := Lib.hid (HTN.out V hb (by omega) cs)
  have HB := Lib.hid hb
  have hs : w.heap.size + 2 < V.heap.size := by omega
  have GR := Lib.hid g2
  clear HTN hb hz cs g1 g2
  go_enter Tryz.func57, Tryz.ntmps57
  go_wp2_with (refine wpList_load_row rfl 28 _ rfl (w.heap.size) rfl 28 _ (0, 0) _ HJ0.out Tryz.underlying28 rfl (info30 HS.out) ?_)
  rw [hV.out]
  refine HT.out.mono ?_; rintro e w1 ⟨A5, c5, A6, c6, rfl, hat, hoff, hk⟩
  have gr := (hk.block (w.heap.size + 2) (by omega) (by simp)).trans GR.out
  have GR1 := Lib.hid gr
  have hs1 : w.heap.size + 2 < w1.heap.size := (Array.getElem?_eq_some_iff.1 gr).1
  have HEND := Lib.hid (fun l => retX_end (w := w) (q := q) (row := none) HB.out hs (by omega) (fun k h => by cases h) hat hoff hk l)
  clear hat hoff hk gr
  rw [jbV_is]
  go_wp2_with (refine wpList_store_row rfl 28 _ _ rfl (w.heap.size + 2) _ rfl rfl 28 _ GR1.out (info30 (jbA_size _ _ _ _ _)) rfl (jbA_one _ _ _ _ _) ?_)
  (try simp only [Exit.inBlock, Exit.then])
  refine bodyPost_ret (results_cell2 rfl _ _ (w.heap.size + 2) _ _ _ _ rfl (setRow_heap _ _ _ _ _ _ GR1.out) Tryz.underlying28 rfl (info30 (jbA_size _ _ _ _ _))) rfl ?_
  exact HEND.out _
set_option linter.unusedSimpArgs false in
set_option maxHeartbeats 4000000 in
set_option maxRecDepth 100000 in
theorem prom_any (x : Jb) (at_ : Int) (ch : Int) (A A2 : Option Addr) (c c2 B : Nat) (w : World) (hx : JbAt w B x A c A2 c2) (hB : B ≤ w.heap.size) (hz : JbSz x) :
    Calls Tryz.prog 50 #[jbV x A c A2 c2, .int .i64 at_, .int .i64 ch] w (RetJX w (promJ x at_ ch)) := by
  have hmf : ∀ (fn : Fn) (first cap : Array Value) (w : World), (Instr.makeFunc fn first cap).run Tryz.prog w = .ok (.func fn first cap) w := fun _ _ _ _ => rfl
  have eg : ∀ args w, (callFunc 93 args).run Tryz.prog w = .ok (.enter 93 args) w := enters_of Tryz.func93 (by kernel_rfl) rfl
  have eg2 : ∀ args w, (callFunc 97 args).run Tryz.prog w = .ok (.enter 97 args) w := enters_of Tryz.func97 (by kernel_rfl) rfl
  have ht : ∀ (V : World) (hV : Below w.heap.size w V) (hs : w.heap.size + 4 ≤ V.heap.size) (cat_ : V.cell? ⟨w.heap.size + 1, 0, none⟩ = some (.int .i64 at_)) (cch : V.cell? ⟨w.heap.size + 2, 0, none⟩ = some (.int .i64 ch)), Calls Tryz.prog 96 #[jbV x A c A2 c2, .func (.func 93) #[] #[.pointer (some ⟨w.heap.size + 2, 0, none⟩), .pointer (some ⟨w.heap.size + 1, 0, none⟩)], .func (.func 97) #[] #[.pointer (some ⟨w.heap.size + 1, 0, none⟩), .pointer (some ⟨w.heap.size + 2, 0, none⟩)]] V (RetJE (none) V (promJ x at_ ch)) := by
    intro V hV hs cat_ cch
    refine turn_any x (promD x at_ ch) (promM x at_ ch) A A2 c c2 w.heap.size V _ _ eg (fun v => v.cell? ⟨w.heap.size + 1, 0, none⟩ = some (.int .i64 at_) ∧ v.cell? ⟨w.heap.size + 2, 0, none⟩ = some (.int .i64 ch)) _ ?_ _ _ eg2 ((hx.below (hV.mono hB)).more hB) hV.size hz ?_ ?_ ?_
    · intro k h; first | (cases h; done) | (cases h; constructor <;> omega)
    · intro _ v hv
      have z1 : v.cell? ⟨w.heap.size + 1, 0, none⟩ = some (.int .i64 at_) := (by rw [(bcell hv).1 _ _ (by omega)]; assumption)
      have z2 : v.cell? ⟨w.heap.size + 2, 0, none⟩ = some (.int .i64 ch) := (by rw [(bcell hv).1 _ _ (by omega)]; assumption)
      have hvs := hv.size
      exact (prom_may x A A2 c c2 B at_ ch (w.heap.size + 2) (w.heap.size + 1) v (by omega) z2 (by omega) z1 (hx.below ((hV.trans (hv.mono hV.size)).mono hB)) (by have := hV.size; omega)).mono (fun e v' ⟨he, hb⟩ => ⟨he, grown_of_below hb, cell_keep hb (by omega) z1, cell_keep hb (by omega) z2⟩)
    · intro _ _; exact prom_do x at_ ch (w.heap.size + 1) (w.heap.size + 2) _ (by omega) (by omega)
    · intro v v' hp hk; simp only [World.cell?] at hp ⊢; first | (rw [hk _ (by omega)]; exact hp) | (obtain ⟨h1, h2⟩ := hp; rw [hk _ (by omega), hk _ (by omega)]; exact ⟨h1, h2⟩) | (obtain ⟨h1, h2, h3⟩ := hp; rw [hk _ (by omega), hk _ (by omega), hk _ (by omega)]; exact ⟨h1, h2, h3⟩)
  have HTN := Lib.hid ht
  clear ht hx hB hz eg eg2
  obtain ⟨q, hq⟩ : ∃ q, Hid (promJ x at_ ch = q) := ⟨_, rfl⟩
  rw [hq.out] at HTN ⊢
  rw [jbV_is] at HTN ⊢
  have HS := Lib.hid (jbA_size x A c A2 c2)
  have H1 := Lib.hid (jbA_one x A c A2 c2)
  obtain ⟨cs, hcs⟩ : ∃ cs, Hid (jbA x A c A2 c2 = cs) := ⟨_, rfl⟩
  rw [hcs.out] at HS H1 HTN ⊢
  clear hq
  obtain ⟨V, hV⟩ : ∃ V, Hid (((((w.alloc (.cells cs 28)).alloc (.cells #[.int .i64 at_] 3)).alloc (.cells #[.int .i64 ch] 3)).alloc (.cells #[.int .i64 0, .string ⟨#[]⟩, .string ⟨#[]⟩, .string ⟨#[]⟩, .int .i64 0, .slice none 0 0, .int .i64 0, .int .i64 0, .int .i64 0, .int .i64 0, .slice none 0 0, .int .i64 0, .bool false, .int .i64 0, .int .i64 0, .int .i64 0, .int .i64 0, .int .i64 0, .int .u64 0, .int .i64 0] 28)) = V) := ⟨_, rfl⟩
  have HJ0 : Hid (((((w.alloc (.cells cs 28)).alloc (.cells #[.int .i64 at_] 3)).alloc (.cells #[.int .i64 ch] 3)).alloc (.cells #[.int .i64 0, .string ⟨#[]⟩, .string ⟨#[]⟩, .string ⟨#[]⟩, .int .i64 0, .slice none 0 0, .int .i64 0, .int .i64 0, .int .i64 0, .int .i64 0, .slice none 0 0, .int .i64 0, .bool false, .int .i64 0, .int .i64 0, .int .i64 0, .int .i64 0, .int .i64 0, .int .u64 0, .int .i64 0] 28)).heap[w.heap.size]? = some (.cells cs 28 (0, 0))) := allocs_at [.cells cs 28, .cells #[.int .i64 at_] 3, .cells #[.int .i64 ch] 3, .cells #[.int .i64 0, .string ⟨#[]⟩, .string ⟨#[]⟩, .string ⟨#[]⟩, .int .i64 0, .slice none 0 0, .int .i64 0, .int .i64 0, .int .i64 0, .int .i64 0, .slice none 0 0, .int .i64 0, .bool false, .int .i64 0, .int .i64 0, .int .i64 0, .int .i64 0, .int .i64 0, .int .u64 0, .int .i64 0] 28] w 0 _ rfl
  have hb : Below w.heap.size w ((((w.alloc (.cells cs 28)).alloc (.cells #[.int .i64 at_] 3)).alloc (.cells #[.int .i64 ch] 3)).alloc (.cells #[.int .i64 0, .string ⟨#[]⟩, .string ⟨#[]⟩, .string ⟨#[]⟩, .int .i64 0, .slice none 0 0, .int .i64 0, .int .i64 0, .int .i64 0, .int .i64 0, .slice none 0 0, .int .i64 0, .bool false, .int .i64 0, .int .i64 0, .int .i64 0, .int .i64 0, .int .i64 0, .int .u64 0, .int .i64 0] 28)) := allocs_below [.cells cs 28, .cells #[.int .i64 at_] 3, .cells #[.int .i64 ch] 3, .cells #[.int .i64 0, .string ⟨#[]⟩, .string ⟨#[]⟩, .string ⟨#[]⟩, .int .i64 0, .slice none 0 0, .int .i64 0, .int .i64 0, .int .i64 0, .int .i64 0, .slice none 0 0, .int .i64 0, .bool false, .int .i64 0, .int .i64 0, .int .i64 0, .int .i64 0, .int .i64 0, .int .u64 0, .int .i64 0] 28] w
  have hz : ((((w.alloc (.cells cs 28)).alloc (.cells #[.int .i64 at_] 3)).alloc (.cells #[.int .i64 ch] 3)).alloc (.cells #[.int .i64 0, .string ⟨#[]⟩, .string ⟨#[]⟩, .string ⟨#[]⟩, .int .i64 0, .slice none 0 0, .int .i64 0, .int .i64 0, .int .i64 0, .int .i64 0, .slice none 0 0, .int .i64 0, .bool false, .int .i64 0, .int .i64 0, .int .i64 0, .int .i64 0, .int .i64 0, .int .u64 0, .int .i64 0] 28)).heap.size = _ := allocs_size [.cells cs 28, .cells #[.int .i64 at_] 3, .cells #[.int .i64 ch] 3, .cells #[.int .i64 0, .string ⟨#[]⟩, .string ⟨#[]⟩, .string ⟨#[]⟩, .int .i64 0, .slice none 0 0, .int .i64 0, .int .i64 0, .int .i64 0, .int .i64 0, .slice none 0 0, .int .i64 0, .bool false, .int .i64 0, .int .i64 0, .int .i64 0, .int .i64 0, .int .i64 0, .int .u64 0, .int .i64 0] 28] w
  have g1 : ((((w.alloc (.cells cs 28)).alloc (.cells #[.int .i64 at_] 3)).alloc (.cells #[.int .i64 ch] 3)).alloc (.cells #[.int .i64 0, .string ⟨#[]⟩, .string ⟨#[]⟩, .string ⟨#[]⟩, .int .i64 0, .slice none 0 0, .int .i64 0, .int .i64 0, .int .i64 0, .int .i64 0, .slice none 0 0, .int .i64 0, .bool false, .int .i64 0, .int .i64 0, .int .i64 0, .int .i64 0, .int .i64 0, .int .u64 0, .int .i64 0] 28)).heap[w.heap.size + 1]? = some (.cells #[.int .i64 at_] 3) := allocs_at [.cells cs 28, .cells #[.int .i64 at_] 3, .cells #[.int .i64 ch] 3, .cells #[.int .i64 0, .string ⟨#[]⟩, .string ⟨#[]⟩, .string ⟨#[]⟩, .int .i64 0, .slice none 0 0, .int .i64 0, .int .i64 0, .int .i64 0, .int .i64 0, .slice none 0 0, .int .i64 0, .bool false, .int .i64 0, .int .i64 0, .int .i64 0, .int .i64 0, .int .i64 0, .int .u64 0, .int .i64 0] 28] w 1 _ rfl
  have g2 : ((((w.alloc (.cells cs 28)).alloc (.cells #[.int .i64 at_] 3)).alloc (.cells #[.int .i64 ch] 3)).alloc (.cells #[.int .i64 0, .string ⟨#[]⟩, .string ⟨#[]⟩, .string ⟨#[]⟩, .int .i64 0, .slice none 0 0, .int .i64 0, .int .i64 0, .int .i64 0, .int .i64 0, .slice none 0 0, .int .i64 0, .bool false, .int .i64 0, .int .i64 0, .int .i64 0, .int .i64 0, .int .i64 0, .int .u64 0, .int .i64 0] 28)).heap[w.heap.size + 2]? = some (.cells #[.int .i64 ch] 3) := allocs_at [.cells cs 28, .cells #[.int .i64 at_] 3, .cells #[.int .i64 ch] 3, .cells #[.int .i64 0, .string ⟨#[]⟩, .string ⟨#[]⟩, .string ⟨#[]⟩, .int .i64 0, .slice none 0 0, .int .i64 0, .int .i64 0, .int .i64 0, .int .i64 0, .slice none 0 0, .int .i64 0, .bool false, .int .i64 0, .int .i64 0, .int .i64 0, .int .i64 0, .int .i64 0, .int .u64 0, .int .i64 0] 28] w 2 _ rfl
  have g3 : ((((w.alloc (.cells cs 28)).alloc (.cells #[.int .i64 at_] 3)).alloc (.cells #[.int .i64 ch] 3)).alloc (.cells #[.int .i64 0, .string ⟨#[]⟩, .string ⟨#[]⟩, .string ⟨#[]⟩, .int .i64 0, .slice none 0 0, .int .i64 0, .int .i64 0, .int .i64 0, .int .i64 0, .slice none 0 0, .int .i64 0, .bool false, .int .i64 0, .int .i64 0, .int .i64 0, .int .i64 0, .int .i64 0, .int .u64 0, .int .i64 0] 28)).heap[w.heap.size + 3]? = some (.cells #[.int .i64 0, .string ⟨#[]⟩, .string ⟨#[]⟩, .string ⟨#[]⟩, .int .i64 0, .slice none 0 0, .int .i64 0, .int .i64 0, .int .i64 0, .int .i64 0, .slice none 0 0, .int .i64 0, .bool false, .int .i64 0, .int .i64 0, .int .i64 0, .int .i64 0, .int .i64 0, .int .u64 0, .int .i64 0] 28) := allocs_at [.cells cs 28, .cells #[.int .i64 at_] 3, .cells #[.int .i64 ch] 3, .cells #[.int .i64 0, .string ⟨#[]⟩, .string ⟨#[]⟩, .string ⟨#[]⟩, .int .i64 0, .slice none 0 0, .int .i64 0, .int .i64 0, .int .i64 0, .int .i64 0, .slice none 0 0, .int .i64 0, .bool false, .int .i64 0, .int .i64 0, .int .i64 0, .int .i64 0, .int .i64 0, .int .u64 0, .int .i64 0] 28] w 3 _ rfl
  rw [hV.out] at hb hz g1 g2 g3
  simp only [List.length_cons, List.length_nil] at hz
  have cat_ : V.cell? ⟨w.heap.size + 1, 0, none⟩ = some (.int .i64 at_) := cell_of_row V _ 0 _ _ _ g1
  have cch : V.cell? ⟨w.heap.size + 2, 0, none⟩ = some (.int .i64 ch) := cell_of_row V _ 0 _ _ _ g2
  have HT := Lib.hid (HTN.out V hb (by omega) cat_ cch)
  have HB := Lib.hid hb
  have hs : w.heap.size + 3 < V.heap.size := by omega
  have GR := Lib.hid g3
  clear HTN hb hz cat_ cch g1 g2 g3
  go_enter Tryz.func50, Tryz.ntmps50
  go_wp2_with (refine wpList_load_row rfl 28 _ rfl (w.heap.size) rfl 28 _ (0, 0) _ HJ0.out Tryz.underlying28 rfl (info30 HS.out) ?_)
  rw [hV.out]
  refine HT.out.mono ?_; rintro e w1 ⟨A5, c5, A6, c6, rfl, hat, hoff, hk⟩
  have gr := (hk.block (w.heap.size + 3) (by omega) (by simp)).trans GR.out
  have GR1 := Lib.hid gr
  have hs1 : w.heap.size + 3 < w1.heap.size := (Array.getElem?_eq_some_iff.1 gr).1
  have HEND := Lib.hid (fun l => retX_end (w := w) (q := q) (row := none) HB.out hs (by omega) (fun k h => by cases h) hat hoff hk l)
  clear hat hoff hk gr
  rw [jbV_is]
  go_wp2_with (refine wpList_store_row rfl 28 _ _ rfl (w.heap.size + 3) _ rfl rfl 28 _ GR1.out (info30 (jbA_size _ _ _ _ _)) rfl (jbA_one _ _ _ _ _) ?_)
  (try simp only [Exit.inBlock, Exit.then])
  refine bodyPost_ret (results_cell2 rfl _ _ (w.heap.size + 3) _ _ _ _ rfl (setRow_heap _ _ _ _ _ _ GR1.out) Tryz.underlying28 rfl (info30 (jbA_size _ _ _ _ _))) rfl ?_
  exact HEND.out _
theorem start_has {x : Jb} {now : Int} {s : Nat} (hx : okJ x = true) (hm : startM x now s = 0) : hasO x.shape x.choice = true ∧ tickB now = true := by
  unfold startM at hm
  split at hm
  case isFalse => omega
  case isTrue h1 =>
    split at hm
    case isFalse => omega
    case isTrue h2 =>
      split at hm
      case isFalse => omega
      case isTrue h3 =>
        simp only [Bool.and_eq_true, beq_iff_eq, Bool.not_eq_true', decide_eq_true_eq] at h1 h2 h3
        obtain ⟨hs, hp1, hp2⟩ := h1
        have hq := of_queued (st_q hs ((okJ_iff x).1 hx).2.2.2.2.2.2)
        obtain ⟨a, b, c, d⟩ := hq
        rcases d with ⟨d, _⟩ | d
        · omega
        · exact ⟨d.2.1, h3.1⟩
set_option linter.unusedSimpArgs false in
set_option maxHeartbeats 4000000 in
set_option maxRecDepth 100000 in
theorem start_any (x : Jb) (now : Int) (s : Nat) (A A2 : Option Addr) (c c2 B : Nat) (w : World) (hx : JbAt w B x A c A2 c2) (hB : B ≤ w.heap.size) (hz : JbSz x) (hs0 : s < M64) :
    Calls Tryz.prog 51 #[jbV x A c A2 c2, .int .i64 now, .int .u64 s] w (RetJX w (startJ x now s)) := by
  have hmf : ∀ (fn : Fn) (first cap : Array Value) (w : World), (Instr.makeFunc fn first cap).run Tryz.prog w = .ok (.func fn first cap) w := fun _ _ _ _ => rfl
  have eg : ∀ args w, (callFunc 98 args).run Tryz.prog w = .ok (.enter 98 args) w := enters_of Tryz.func98 (by kernel_rfl) rfl
  have eg2 : ∀ args w, (callFunc 102 args).run Tryz.prog w = .ok (.enter 102 args) w := enters_of Tryz.func102 (by kernel_rfl) rfl
  have ht : ∀ (V : World) (hV : Below w.heap.size w V) (hs : w.heap.size + 5 ≤ V.heap.size) (cnow : V.cell? ⟨w.heap.size + 1, 0, none⟩ = some (.int .i64 now)) (cs : V.cell? ⟨w.heap.size + 2, 0, none⟩ = some (.int .u64 s)) (cw : V.cell? ⟨w.heap.size + 4, 0, none⟩ = some (.int .i64 0)) (fw : V.frozen? ⟨w.heap.size + 4, 0, none⟩ = false), Calls Tryz.prog 96 #[jbV x A c A2 c2, .func (.func 98) #[] #[.pointer (some ⟨w.heap.size + 4, 0, none⟩), .pointer (some ⟨w.heap.size + 1, 0, none⟩), .pointer (some ⟨w.heap.size + 2, 0, none⟩)], .func (.func 102) #[] #[.pointer (some ⟨w.heap.size + 1, 0, none⟩), .pointer (some ⟨w.heap.size + 4, 0, none⟩), .pointer (some ⟨w.heap.size + 2, 0, none⟩)]] V (RetJE (some (w.heap.size + 4)) V (startJ x now s)) := by
    intro V hV hs cnow cs cw fw
    refine turn_any x (startD x now s) (startM x now s) A A2 c c2 w.heap.size V _ _ eg (fun v => v.cell? ⟨w.heap.size + 1, 0, none⟩ = some (.int .i64 now) ∧ v.cell? ⟨w.heap.size + 4, 0, none⟩ = some (.int .i64 (optAt x.shape x.choice).2) ∧ v.cell? ⟨w.heap.size + 2, 0, none⟩ = some (.int .u64 s)) _ ?_ _ _ eg2 ((hx.below (hV.mono hB)).more hB) hV.size hz ?_ ?_ ?_
    · intro k h; first | (cases h; done) | (cases h; constructor <;> omega)
    · intro _ v hv
      have z1 : v.cell? ⟨w.heap.size + 1, 0, none⟩ = some (.int .i64 now) := (by rw [(bcell hv).1 _ _ (by omega)]; assumption)
      have z2 : v.cell? ⟨w.heap.size + 2, 0, none⟩ = some (.int .u64 s) := (by rw [(bcell hv).1 _ _ (by omega)]; assumption)
      have z3 : v.cell? ⟨w.heap.size + 4, 0, none⟩ = some (.int .i64 0) := (by rw [(bcell hv).1 _ _ (by omega)]; assumption)
      have z4 : v.frozen? ⟨w.heap.size + 4, 0, none⟩ = false := by rw [(bcell hv).2 _ _ (by omega)]; exact fw
      have hvs := hv.size
      exact (start_may x A A2 c c2 B now 0 s (w.heap.size + 4) (w.heap.size + 1) (w.heap.size + 2) v (by omega) z3 z4 (by omega) z1 (by omega) z2 (by omega) (by omega) hs0 (hx.below ((hV.trans (hv.mono hV.size)).mono hB)) (by have := hV.size; omega)).mono (fun e v' ⟨he, hg, hw⟩ => ⟨he, hg, cell_keep_g hg (by omega) (fun e => by have := Option.some.inj e; omega) z1, hw, cell_keep_g hg (by omega) (fun e => by have := Option.some.inj e; omega) z2⟩)
    · intro hk h0
      have hh := start_has hk h0
      exact start_do x now s (w.heap.size + 1) (w.heap.size + 4) (w.heap.size + 2) hh.1 hh.2 _ (by omega) (by omega) (by omega)
    · intro v v' hp hk; simp only [World.cell?] at hp ⊢; first | (rw [hk _ (by omega)]; exact hp) | (obtain ⟨h1, h2⟩ := hp; rw [hk _ (by omega), hk _ (by omega)]; exact ⟨h1, h2⟩) | (obtain ⟨h1, h2, h3⟩ := hp; rw [hk _ (by omega), hk _ (by omega), hk _ (by omega)]; exact ⟨h1, h2, h3⟩)
  have HTN := Lib.hid ht
  clear ht hx hB hz eg eg2
  obtain ⟨q, hq⟩ : ∃ q, Hid (startJ x now s = q) := ⟨_, rfl⟩
  rw [hq.out] at HTN ⊢
  rw [jbV_is] at HTN ⊢
  have HS := Lib.hid (jbA_size x A c A2 c2)
  have H1 := Lib.hid (jbA_one x A c A2 c2)
  obtain ⟨cs, hcs⟩ : ∃ cs, Hid (jbA x A c A2 c2 = cs) := ⟨_, rfl⟩
  rw [hcs.out] at HS H1 HTN ⊢
  clear hq
  obtain ⟨us, hus⟩ : ∃ u : Int, (s : Int) = u := ⟨_, rfl⟩
  rw [hus] at HTN ⊢
  clear hus
  obtain ⟨V, hV⟩ : ∃ V, Hid ((((((w.alloc (.cells cs 28)).alloc (.cells #[.int .i64 now] 3)).alloc (.cells #[.int .u64 us] 26)).alloc (.cells #[.int .i64 0, .string ⟨#[]⟩, .string ⟨#[]⟩, .string ⟨#[]⟩, .int .i64 0, .slice none 0 0, .int .i64 0, .int .i64 0, .int .i64 0, .int .i64 0, .slice none 0 0, .int .i64 0, .bool false, .int .i64 0, .int .i64 0, .int .i64 0, .int .i64 0, .int .i64 0, .int .u64 0, .int .i64 0] 28)).alloc (.cells #[.int .i64 0] 3)) = V) := ⟨_, rfl⟩
  have HJ0 : Hid ((((((w.alloc (.cells cs 28)).alloc (.cells #[.int .i64 now] 3)).alloc (.cells #[.int .u64 us] 26)).alloc (.cells #[.int .i64 0, .string ⟨#[]⟩, .string ⟨#[]⟩, .string ⟨#[]⟩, .int .i64 0, .slice none 0 0, .int .i64 0, .int .i64 0, .int .i64 0, .int .i64 0, .slice none 0 0, .int .i64 0, .bool false, .int .i64 0, .int .i64 0, .int .i64 0, .int .i64 0, .int .i64 0, .int .u64 0, .int .i64 0] 28)).alloc (.cells #[.int .i64 0] 3)).heap[w.heap.size]? = some (.cells cs 28 (0, 0))) := allocs_at [.cells cs 28, .cells #[.int .i64 now] 3, .cells #[.int .u64 us] 26, .cells #[.int .i64 0, .string ⟨#[]⟩, .string ⟨#[]⟩, .string ⟨#[]⟩, .int .i64 0, .slice none 0 0, .int .i64 0, .int .i64 0, .int .i64 0, .int .i64 0, .slice none 0 0, .int .i64 0, .bool false, .int .i64 0, .int .i64 0, .int .i64 0, .int .i64 0, .int .i64 0, .int .u64 0, .int .i64 0] 28, .cells #[.int .i64 0] 3] w 0 _ rfl
  have hb : Below w.heap.size w (((((w.alloc (.cells cs 28)).alloc (.cells #[.int .i64 now] 3)).alloc (.cells #[.int .u64 us] 26)).alloc (.cells #[.int .i64 0, .string ⟨#[]⟩, .string ⟨#[]⟩, .string ⟨#[]⟩, .int .i64 0, .slice none 0 0, .int .i64 0, .int .i64 0, .int .i64 0, .int .i64 0, .slice none 0 0, .int .i64 0, .bool false, .int .i64 0, .int .i64 0, .int .i64 0, .int .i64 0, .int .i64 0, .int .u64 0, .int .i64 0] 28)).alloc (.cells #[.int .i64 0] 3)) := allocs_below [.cells cs 28, .cells #[.int .i64 now] 3, .cells #[.int .u64 us] 26, .cells #[.int .i64 0, .string ⟨#[]⟩, .string ⟨#[]⟩, .string ⟨#[]⟩, .int .i64 0, .slice none 0 0, .int .i64 0, .int .i64 0, .int .i64 0, .int .i64 0, .slice none 0 0, .int .i64 0, .bool false, .int .i64 0, .int .i64 0, .int .i64 0, .int .i64 0, .int .i64 0, .int .u64 0, .int .i64 0] 28, .cells #[.int .i64 0] 3] w
  have hz : (((((w.alloc (.cells cs 28)).alloc (.cells #[.int .i64 now] 3)).alloc (.cells #[.int .u64 us] 26)).alloc (.cells #[.int .i64 0, .string ⟨#[]⟩, .string ⟨#[]⟩, .string ⟨#[]⟩, .int .i64 0, .slice none 0 0, .int .i64 0, .int .i64 0, .int .i64 0, .int .i64 0, .slice none 0 0, .int .i64 0, .bool false, .int .i64 0, .int .i64 0, .int .i64 0, .int .i64 0, .int .i64 0, .int .u64 0, .int .i64 0] 28)).alloc (.cells #[.int .i64 0] 3)).heap.size = _ := allocs_size [.cells cs 28, .cells #[.int .i64 now] 3, .cells #[.int .u64 us] 26, .cells #[.int .i64 0, .string ⟨#[]⟩, .string ⟨#[]⟩, .string ⟨#[]⟩, .int .i64 0, .slice none 0 0, .int .i64 0, .int .i64 0, .int .i64 0, .int .i64 0, .slice none 0 0, .int .i64 0, .bool false, .int .i64 0, .int .i64 0, .int .i64 0, .int .i64 0, .int .i64 0, .int .u64 0, .int .i64 0] 28, .cells #[.int .i64 0] 3] w
  have g1 : (((((w.alloc (.cells cs 28)).alloc (.cells #[.int .i64 now] 3)).alloc (.cells #[.int .u64 us] 26)).alloc (.cells #[.int .i64 0, .string ⟨#[]⟩, .string ⟨#[]⟩, .string ⟨#[]⟩, .int .i64 0, .slice none 0 0, .int .i64 0, .int .i64 0, .int .i64 0, .int .i64 0, .slice none 0 0, .int .i64 0, .bool false, .int .i64 0, .int .i64 0, .int .i64 0, .int .i64 0, .int .i64 0, .int .u64 0, .int .i64 0] 28)).alloc (.cells #[.int .i64 0] 3)).heap[w.heap.size + 1]? = some (.cells #[.int .i64 now] 3) := allocs_at [.cells cs 28, .cells #[.int .i64 now] 3, .cells #[.int .u64 us] 26, .cells #[.int .i64 0, .string ⟨#[]⟩, .string ⟨#[]⟩, .string ⟨#[]⟩, .int .i64 0, .slice none 0 0, .int .i64 0, .int .i64 0, .int .i64 0, .int .i64 0, .slice none 0 0, .int .i64 0, .bool false, .int .i64 0, .int .i64 0, .int .i64 0, .int .i64 0, .int .i64 0, .int .u64 0, .int .i64 0] 28, .cells #[.int .i64 0] 3] w 1 _ rfl
  have g2 : (((((w.alloc (.cells cs 28)).alloc (.cells #[.int .i64 now] 3)).alloc (.cells #[.int .u64 us] 26)).alloc (.cells #[.int .i64 0, .string ⟨#[]⟩, .string ⟨#[]⟩, .string ⟨#[]⟩, .int .i64 0, .slice none 0 0, .int .i64 0, .int .i64 0, .int .i64 0, .int .i64 0, .slice none 0 0, .int .i64 0, .bool false, .int .i64 0, .int .i64 0, .int .i64 0, .int .i64 0, .int .i64 0, .int .u64 0, .int .i64 0] 28)).alloc (.cells #[.int .i64 0] 3)).heap[w.heap.size + 2]? = some (.cells #[.int .u64 us] 26) := allocs_at [.cells cs 28, .cells #[.int .i64 now] 3, .cells #[.int .u64 us] 26, .cells #[.int .i64 0, .string ⟨#[]⟩, .string ⟨#[]⟩, .string ⟨#[]⟩, .int .i64 0, .slice none 0 0, .int .i64 0, .int .i64 0, .int .i64 0, .int .i64 0, .slice none 0 0, .int .i64 0, .bool false, .int .i64 0, .int .i64 0, .int .i64 0, .int .i64 0, .int .i64 0, .int .u64 0, .int .i64 0] 28, .cells #[.int .i64 0] 3] w 2 _ rfl
  have g3 : (((((w.alloc (.cells cs 28)).alloc (.cells #[.int .i64 now] 3)).alloc (.cells #[.int .u64 us] 26)).alloc (.cells #[.int .i64 0, .string ⟨#[]⟩, .string ⟨#[]⟩, .string ⟨#[]⟩, .int .i64 0, .slice none 0 0, .int .i64 0, .int .i64 0, .int .i64 0, .int .i64 0, .slice none 0 0, .int .i64 0, .bool false, .int .i64 0, .int .i64 0, .int .i64 0, .int .i64 0, .int .i64 0, .int .u64 0, .int .i64 0] 28)).alloc (.cells #[.int .i64 0] 3)).heap[w.heap.size + 3]? = some (.cells #[.int .i64 0, .string ⟨#[]⟩, .string ⟨#[]⟩, .string ⟨#[]⟩, .int .i64 0, .slice none 0 0, .int .i64 0, .int .i64 0, .int .i64 0, .int .i64 0, .slice none 0 0, .int .i64 0, .bool false, .int .i64 0, .int .i64 0, .int .i64 0, .int .i64 0, .int .i64 0, .int .u64 0, .int .i64 0] 28) := allocs_at [.cells cs 28, .cells #[.int .i64 now] 3, .cells #[.int .u64 us] 26, .cells #[.int .i64 0, .string ⟨#[]⟩, .string ⟨#[]⟩, .string ⟨#[]⟩, .int .i64 0, .slice none 0 0, .int .i64 0, .int .i64 0, .int .i64 0, .int .i64 0, .slice none 0 0, .int .i64 0, .bool false, .int .i64 0, .int .i64 0, .int .i64 0, .int .i64 0, .int .i64 0, .int .u64 0, .int .i64 0] 28, .cells #[.int .i64 0] 3] w 3 _ rfl
  have g4 : (((((w.alloc (.cells cs 28)).alloc (.cells #[.int .i64 now] 3)).alloc (.cells #[.int .u64 us] 26)).alloc (.cells #[.int .i64 0, .string ⟨#[]⟩, .string ⟨#[]⟩, .string ⟨#[]⟩, .int .i64 0, .slice none 0 0, .int .i64 0, .int .i64 0, .int .i64 0, .int .i64 0, .slice none 0 0, .int .i64 0, .bool false, .int .i64 0, .int .i64 0, .int .i64 0, .int .i64 0, .int .i64 0, .int .u64 0, .int .i64 0] 28)).alloc (.cells #[.int .i64 0] 3)).heap[w.heap.size + 4]? = some (.cells #[.int .i64 0] 3) := allocs_at [.cells cs 28, .cells #[.int .i64 now] 3, .cells #[.int .u64 us] 26, .cells #[.int .i64 0, .string ⟨#[]⟩, .string ⟨#[]⟩, .string ⟨#[]⟩, .int .i64 0, .slice none 0 0, .int .i64 0, .int .i64 0, .int .i64 0, .int .i64 0, .slice none 0 0, .int .i64 0, .bool false, .int .i64 0, .int .i64 0, .int .i64 0, .int .i64 0, .int .i64 0, .int .u64 0, .int .i64 0] 28, .cells #[.int .i64 0] 3] w 4 _ rfl
  rw [hV.out] at hb hz g1 g2 g3 g4
  simp only [List.length_cons, List.length_nil] at hz
  have cnow : V.cell? ⟨w.heap.size + 1, 0, none⟩ = some (.int .i64 now) := cell_of_row V _ 0 _ _ _ g1
  have cs : V.cell? ⟨w.heap.size + 2, 0, none⟩ = some (.int .u64 us) := cell_of_row V _ 0 _ _ _ g2
  have cw : V.cell? ⟨w.heap.size + 4, 0, none⟩ = some (.int .i64 0) := cell_of_row V _ 0 _ _ _ g4
  have fw : V.frozen? ⟨w.heap.size + 4, 0, none⟩ = false := by simp [World.frozen?, g4]
  have HT := Lib.hid (HTN.out V hb (by omega) cnow cs cw fw)
  have HB := Lib.hid hb
  have hs : w.heap.size + 3 < V.heap.size := by omega
  have GR := Lib.hid g3
  clear HTN hb hz cnow cs cw fw g1 g2 g3 g4
  go_enter Tryz.func51, Tryz.ntmps51
  go_wp2_with (refine wpList_load_row rfl 28 _ rfl (w.heap.size) rfl 28 _ (0, 0) _ HJ0.out Tryz.underlying28 rfl (info30 HS.out) ?_)
  rw [hV.out]
  refine HT.out.mono ?_; rintro e w1 ⟨A5, c5, A6, c6, rfl, hat, hoff, hk⟩
  have gr := (hk.block (w.heap.size + 3) (by omega) (fun e => by have := Option.some.inj e; omega)).trans GR.out
  have GR1 := Lib.hid gr
  have hs1 : w.heap.size + 3 < w1.heap.size := (Array.getElem?_eq_some_iff.1 gr).1
  have HEND := Lib.hid (fun l => retX_end (w := w) (q := q) (row := some (w.heap.size + 4)) HB.out hs (by omega) (fun k h => by have := Option.some.inj h; omega) hat hoff hk l)
  clear hat hoff hk gr
  rw [jbV_is]
  go_wp2_with (refine wpList_store_row rfl 28 _ _ rfl (w.heap.size + 3) _ rfl rfl 28 _ GR1.out (info30 (jbA_size _ _ _ _ _)) rfl (jbA_one _ _ _ _ _) ?_)
  (try simp only [Exit.inBlock, Exit.then])
  refine bodyPost_ret (results_cell2 rfl _ _ (w.heap.size + 3) _ _ _ _ rfl (setRow_heap _ _ _ _ _ _ GR1.out) Tryz.underlying28 rfl (info30 (jbA_size _ _ _ _ _))) rfl ?_
  exact HEND.out _
end Go.Proofs.YtghmcdfmbjabnaaGreatDoor
