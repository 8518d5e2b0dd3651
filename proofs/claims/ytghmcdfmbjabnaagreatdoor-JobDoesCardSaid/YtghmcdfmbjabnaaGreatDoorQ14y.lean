/- Layer 14: what the reference's acts hand back: a job whose lists lie away from what the caller may write. Contracts of the reference of layer 1: what each call returns, for every input. Layer 14: the reference's Charge, walked (printed by a program of my own). Layer 14: the reference's acts walked (printed by a program of my own). Layer 14: the reference's acts walked (printed by a program of my own). Layer 14: the reference's End walked (printed by a program of my own). Layer 14: the reference's Size walked (printed by a program of my own). -/
import Derived.Test.YtghmcdfmbjabnaaGreatDoorQ10y
import Derived.Test.YtghmcdfmbjabnaaGreatDoorQ12y
import Derived.Test.YtghmcdfmbjabnaaGreatDoorK1t
import Derived.Test.YtghmcdfmbjabnaaGreatDoorK1y
import Derived.Test.YtghmcdfmbjabnaaGreatDoorQ0t
namespace Go.Proofs.YtghmcdfmbjabnaaGreatDoor
set_option linter.unusedVariables false
open Go.RowKit
/-- as RetJY; its lists lie below B, or behind the call's world -/
def RetJZ (w : World) (B : Nat) (q : Jb × Int) (e : Ending) (w' : World) : Prop :=
  ∃ A c A2 c2, e = .returned (.tuple #[jbV q.1 A c A2 c2, .int .i64 q.2]) ∧ JbAt w' w'.heap.size q.1 A c A2 c2 ∧ (∀ p, B ≤ p → p < w.heap.size → JbAway p q.1 A A2) ∧ Below w.heap.size w w'
theorem away_noJ {p : Nat} {A A2 : Option Addr} : JbAway p noJ A A2 := ⟨fun h => absurd h (by decide), fun h => absurd h (by decide)⟩
theorem retJZ_no {w w' : World} {er : Int} {B : Nat} (hb : Below w.heap.size w w') : RetJZ w B (noJ, er) (.returned (.tuple #[.agg #[.int .i64 0, .string ⟨#[]⟩, .string ⟨#[]⟩, .string ⟨#[]⟩, .int .i64 0, .slice none 0 0, .int .i64 0, .int .i64 0, .int .i64 0, .int .i64 0, .slice none 0 0, .int .i64 0, .bool false, .int .i64 0, .int .i64 0, .int .i64 0, .int .i64 0, .int .i64 0, .int .u64 0, .int .i64 0], .int .i64 er])) w' :=
  ⟨none, 0, none, 0, rfl, (noJ_at _ _ w.heap.size).1, fun _ _ _ => away_noJ, hb⟩
theorem retZ_end {w w1 : World} {x y : Jb} {B r : Nat} {A A2 : Option Addr} {c c2 : Nat} (hat : JbAt w B x A c A2 c2) (hB : B ≤ w.heap.size) (hs : y.shape = x.shape) (ha : y.after = x.after) (hb : Below w.heap.size w w1) (hr : w.heap.size ≤ r) :
    RetJZ w B (y, 0) (.returned (.tuple #[.agg (jbA y A c A2 c2), .int .i64 0])) (w1.setRow r (jbA y A c A2 c2)) := by
  have h := below_row hb hr (jbA y A c A2 c2)
  exact ⟨A, c, A2, c2, rfl, ((hat.below (h.mono hB)).more (Nat.le_trans hB h.size)).as hs ha, fun p hp _ => by
    have h := hat.away_of hp
    unfold JbAway at h ⊢
    rw [hs, ha]; exact h, h⟩
/-- what an act has handed back, copied into a result's variable -/
theorem retZZ_end {w V w1 : World} {q : Jb × Int} {B r : Nat} {A A2 : Option Addr} {c c2 : Nat} (hV : Below w.heap.size w V) (hr : w.heap.size ≤ r) (hlt : r < V.heap.size) (hB : B ≤ w.heap.size)
    (hat : JbAt w1 w1.heap.size q.1 A c A2 c2) (haw : ∀ p, B ≤ p → p < V.heap.size → JbAway p q.1 A A2) (hb : Below V.heap.size V w1) (l : Array Value) :
    RetJZ w B q (.returned (.tuple #[.agg (jbA q.1 A c A2 c2), .int .i64 q.2])) (w1.setRow r l) := by
  refine ⟨A, c, A2, c2, rfl, ?_, fun p hp hpw => haw p hp (Nat.lt_of_lt_of_le hpw hV.size), below_row (hV.trans (hb.mono hV.size)) hr _⟩
  rw [Go.setRow_size]
  exact hat.away (haw r (Nat.le_trans hB hr) hlt) row_only
theorem held_any (n hi : Int) (w : World) :
    Calls Tryz.prog 168 #[.int .i64 n, .int .i64 hi] w fun e w' => e = .returned (.int .i64 (clamp n 0 hi)) ∧ w = w' := by
  go_enter Tryz.func168, Tryz.ntmps168
  go_wp2
  · go_ret
    exact ⟨ret_int (clamp_lo (by assumption)).symm, rfl⟩
  · go_ret
    exact ⟨ret_int (clamp_hi (by omega) (by omega)).symm, rfl⟩
  · go_ret
    exact ⟨ret_int (clamp_in (by omega) (by omega)).symm, rfl⟩
theorem rusage_any (n : Int) (w : World) :
    Calls Tryz.prog 169 #[.int .i64 n] w fun e w' => e = .returned (.int .i64 (clamp n 0 1000000000000)) ∧ w = w' := by
  go_enter Tryz.func169, Tryz.ntmps169
  go_wp2_with (go_at_call 168; refine (held_any _ _ _).mono ?_; rintro e w' ⟨rfl, rfl⟩)
  go_ret
  exact ⟨rfl, rfl⟩
set_option maxHeartbeats 400000 in
theorem rplus_any (A : Option Addr) (n c B : Nat) (xs : List Int) (w : World) (hn : n ≤ maxLen) (hr : Reads w B 1 A n (ints xs)) :
    Calls Tryz.prog 137 #[.slice A n c] w fun e w' => e = .returned (.int .i64 (addV 1000000000000 xs)) ∧ w = w' := by
  have hlen := hr.len
  unfold maxLen at hn
  go_enter Tryz.func137, Tryz.ntmps137
  go_wp2
  go_loop [3, 4] (fun o i => ∃ k : Nat, k ≤ n ∧ i = .int .i64 k ∧ o = .int .i64 (addV 1000000000000 (xs.take k))) (fun _ i => n - (intOf i).toNat)
  case atStart => exact ⟨0, Nat.zero_le _, rfl, by simp [addV, tot]⟩
  case round =>
    obtain ⟨k, hk, rfl, rfl⟩ := hrel
    have h0 := addV_bd 1000000000000 (by omega) (xs.take k)
    by_cases hlt : k < n
    · obtain ⟨ad, x, rfl, hb, hx, hc⟩ := hr.int_at hlt
      have hs := Lib.hid (addV_step 1000000000000 (by omega) xs k x hx.out)
      have hcl := clamp_bd x (E := 1000000000000) (by omega)
      clear hr
      go_wp2_with (first | (go_at_call 169; refine (rusage_any _ _).mono ?_; rintro e w' ⟨rfl, rfl⟩) | (go_at_call 168; refine (held_any _ _ _).mono ?_; rintro e w' ⟨rfl, rfl⟩))
      go_round
      case rel => exact ⟨k + 1, by omega, by go_num, by rw [hs.out]⟩
      case measure => simp [intOf]; omega
    · go_wp2
      go_ret
      exact ⟨ret_int (by rw [List.take_of_length_le (by have := hlen.out; omega)]), rfl⟩
theorem rplus2j (x y : Int) (W : World) (g : Nat) (c0 : W.cell? ⟨g, 0, none⟩ = some (.int .i64 x)) (c1 : W.cell? ⟨g, 1, none⟩ = some (.int .i64 y)) :
    Calls Tryz.prog 137 #[.slice (some ⟨g, 0, none⟩) 2 2] W fun e w' => e = .returned (.int .i64 (plusU x y)) ∧ W = w' := by
  refine rplus_any (some ⟨g, 0, none⟩) 2 2 (g + 1) [x, y] W (by simp [maxLen]) ⟨rfl, fun _ => ⟨_, rfl, by simp, fun j u hu => ?_⟩⟩
  have hj : j < 2 := by simpa [ints] using (List.getElem?_eq_some_iff.1 hu).1
  rcases j with _ | _ | j
  · simp [ints] at hu; subst hu; simpa [Addr.add] using c0
  · simp [ints] at hu; subst hu; simpa [Addr.add] using c1
  · omega
set_option linter.unusedSimpArgs false in
set_option maxHeartbeats 8000000 in
set_option maxRecDepth 100000 in
theorem rcharge_any (x : Jb) (n : Int) (A A2 : Option Addr) (c c2 B : Nat) (w : World) (hx : JbAt w B x A c A2 c2) (hB : B ≤ w.heap.size) (hz : JbSz x) :
    Calls Tryz.prog 67 #[jbV x A c A2 c2, .int .i64 n] w (RetJZ w B (chargeJ x n)) := by
  have hck := Lib.hid (fun v (hv : Below w.heap.size w v) => rcheck14_any x A A2 c c2 B v (hx.below (hv.mono hB)) (Nat.le_trans hB hv.size) hz)
  obtain ⟨Q, HQ0⟩ : ∃ Q, Hid (chargeJ x n = Q) := ⟨_, rfl⟩
  rw [HQ0.out]
  have HAT := Lib.hid hx
  have HB := Lib.hid hB
  clear hx hB hz
  rw [jbV_is] at hck ⊢
  have e11 : (jbA x A c A2 c2)[11]? = some (.int .i64 x.state) := rfl
  have e19 : (jbA x A c A2 c2)[19]? = some (.int .i64 x.used) := rfl
  have HS := Lib.hid (jbA_size x A c A2 c2)
  have H1 := Lib.hid (jbA_one x A c A2 c2)
  obtain ⟨cs, hcs⟩ : ∃ cs, Hid (jbA x A c A2 c2 = cs) := ⟨_, rfl⟩
  rw [hcs.out] at HS H1 e11 e19 hck ⊢
  cases hk : okJ x
  case false =>
    rw [jobE_f hk] at hck
    have HK := Lib.hid hk
    clear hk
    go_enter Tryz.func67, Tryz.ntmps67
    go_wp2_with (refine wpList_load_row rfl 28 _ rfl (w.heap.size) rfl 28 _ (0, 0) _ (three_two w _ _).1 Tryz.underlying28 rfl (info30 HS.out) ?_)
    refine (hck.out _ (((Below.refl _ _).alloc (Nat.le_refl _) _).alloc (by simp) _)).mono ?_; rintro e w1 ⟨rfl, b1⟩
    obtain ⟨g1, g2, s1⟩ := two_block b1
    have B1 := Lib.hid (two_below b1)
    have G1 := Lib.hid g1
    have G2 := Lib.hid g2
    clear b1 g1 g2
    have HQ : Hid (Q = (noJ, 140)) := by show _ = _; rw [← HQ0.out]; exact turnJ_f HK.out
    go_wp2_with (first | (refine wpList_store_row rfl 28 _ _ rfl (w.heap.size + 1) _ rfl rfl 28 _ G2.out (by kernel_rfl) rfl (by rw [List.all_toArray]; rfl) ?_))
    (try simp only [Exit.inBlock, Exit.then])
    refine bodyPost_ret (results_cell2 rfl _ _ (w.heap.size + 1) _ _ _ _ rfl (setRow_heap _ _ _ _ _ _ G2.out) Tryz.underlying28 rfl (by kernel_rfl)) rfl ?_
    rw [HQ.out]
    exact retJZ_no (below_row B1.out (by omega) _)
  rw [jobE_t hk] at hck
  have HK := Lib.hid hk
  clear hk
  go_enter Tryz.func67, Tryz.ntmps67
  go_wp2_with (refine wpList_load_row rfl 28 _ rfl (w.heap.size) rfl 28 _ (0, 0) _ (three_two w _ _).1 Tryz.underlying28 rfl (info30 HS.out) ?_)
  refine (hck.out _ (((Below.refl _ _).alloc (Nat.le_refl _) _).alloc (by simp) _)).mono ?_; rintro e w1 ⟨rfl, b1⟩
  obtain ⟨g1, g2, s1⟩ := two_block b1
  have B1 := Lib.hid (two_below b1)
  have x11 : w1.cell? ⟨w.heap.size, 11, none⟩ = some (.int .i64 x.state) := (cell_of_row w1 _ 11 _ _ _ g1).trans e11
  have x19 : w1.cell? ⟨w.heap.size, 19, none⟩ = some (.int .i64 x.used) := (cell_of_row w1 _ 19 _ _ _ g1).trans e19
  have hf1 : ∀ j, w1.frozen? ⟨w.heap.size, j, none⟩ = false := fun j => by simp [World.frozen?, g1]
  have G1 := Lib.hid g1
  have G2 := Lib.hid g2
  clear b1 g1 g2
  cases t1 : x.state == 2
  case false =>
    have t1x := bne_of_false t1
    have HQ : Hid (Q = (noJ, 141)) := by show _ = _; rw [← HQ0.out]; exact turnJ_e HK.out (by unfold chargeM whenE; rw [t1]; rfl) (by decide)
    go_wp2_with (first | (refine wpList_store_row rfl 28 _ _ rfl (w.heap.size + 1) _ rfl rfl 28 _ G2.out (by kernel_rfl) rfl (by rw [List.all_toArray]; rfl) ?_))
    (try simp only [Exit.inBlock, Exit.then])
    refine bodyPost_ret (results_cell2 rfl _ _ (w.heap.size + 1) _ _ _ _ rfl (setRow_heap _ _ _ _ _ _ G2.out) Tryz.underlying28 rfl (by kernel_rfl)) rfl ?_
    rw [HQ.out]
    exact retJZ_no (below_row B1.out (by omega) _)
  have t1x := bne_of_true t1
  have HQ : Hid (Q = (chargeD x n, 0)) := by show _ = _; rw [← HQ0.out]; exact turnJ_g HK.out (by unfold chargeM whenE; rw [t1]; rfl)
  have HJ : Hid (((w1.alloc (.cells #[.int .i64 x.used, .int .i64 n] 3)).setCell ⟨w.heap.size, 19, none⟩ (.int .i64 (plusU x.used n))).heap[w.heap.size]? = some (.cells (jbA (chargeD x n) A c A2 c2) 28 (0, 0))) := by
    show _ = _
    refine Eq.trans (setCell_blk (k := 19) (a := .int .i64 (plusU x.used n)) ((Below.heap_alloc _ _ _ (by omega)).trans G1.out)) ?_
    rw [← hcs.out]
    rfl
  have HR_ : Hid (((w1.alloc (.cells #[.int .i64 x.used, .int .i64 n] 3)).setCell ⟨w.heap.size, 19, none⟩ (.int .i64 (plusU x.used n))).heap[w.heap.size + 1]? = _) := (Below.heap_setCell _ _ _ _ (by simp)).trans ((Below.heap_alloc _ _ _ (by omega)).trans G2.out)
  have HV : Below w.heap.size w ((w1.alloc (.cells #[.int .i64 x.used, .int .i64 n] 3)).setCell ⟨w.heap.size, 19, none⟩ (.int .i64 (plusU x.used n))) := (Below.setCell (B1.out.alloc (by omega) _) (p := ⟨w.heap.size, 19, none⟩) (Nat.le_refl _) (.int .i64 (plusU x.used n)))
  have HVV := Lib.hid HV
  clear HV
  have GA : (w1.alloc (.cells #[.int .i64 x.used, .int .i64 n] 3)).heap[w.heap.size]? = _ := (Below.heap_alloc _ _ _ (by omega)).trans G1.out
  have ca : (w1.alloc (.cells #[.int .i64 x.used, .int .i64 n] 3)).cell? ⟨w.heap.size, 19, none⟩ = some (.int .i64 x.used) := cell_of_row _ _ 19 _ _ _ (GA.trans (by rw [← hcs.out])) |>.trans rfl
  have fa : (w1.alloc (.cells #[.int .i64 x.used, .int .i64 n] 3)).frozen? ⟨w.heap.size, 19, none⟩ = false := by simp [World.frozen?, GA]
  clear GA
  go_wp2_with (first | (go_at_call 137; refine (rplus2j x.used n _ _ ?_ ?_).mono ?_; (focus simp [go_sem]); (focus simp [go_sem]); rintro e w2 ⟨rfl, rfl⟩) | (refine wpList_load_row rfl 28 _ rfl (w.heap.size) rfl 28 _ (0, 0) _ HJ.out Tryz.underlying28 rfl (info30 (jbA_size _ _ _ _ _)) ?_) | (refine wpList_store_row rfl 28 _ _ rfl (w.heap.size + 1) _ rfl rfl 28 _ HR_.out (info30 (jbA_size _ _ _ _ _)) rfl (jbA_one _ _ _ _ _) ?_))
  (try simp only [Exit.inBlock, Exit.then])
  refine bodyPost_ret (results_cell2 rfl _ _ (w.heap.size + 1) _ _ _ _ rfl (setRow_heap _ _ _ _ _ _ HR_.out) Tryz.underlying28 rfl (info30 (jbA_size _ _ _ _ _))) rfl ?_
  rw [HQ.out]
  refine retZ_end (y := chargeD x n) HAT.out HB.out ?_ ?_ ?_ (by omega)
  · rfl
  · rfl
  · exact HVV.out
set_option linter.unusedSimpArgs false in
set_option maxHeartbeats 8000000 in
set_option maxRecDepth 100000 in
theorem rdrop_any (x : Jb) (A A2 : Option Addr) (c c2 B : Nat) (w : World) (hx : JbAt w B x A c A2 c2) (hB : B ≤ w.heap.size) (hz : JbSz x) :
    Calls Tryz.prog 62 #[jbV x A c A2 c2] w (RetJZ w B (dropJ x)) := by
  have hck := Lib.hid (fun v (hv : Below w.heap.size w v) => rcheck14_any x A A2 c c2 B v (hx.below (hv.mono hB)) (Nat.le_trans hB hv.size) hz)
  obtain ⟨Q, HQ0⟩ : ∃ Q, Hid (dropJ x = Q) := ⟨_, rfl⟩
  rw [HQ0.out]
  have HAT := Lib.hid hx
  have HB := Lib.hid hB
  clear hx hB hz
  rw [jbV_is] at hck ⊢
  have e11 : (jbA x A c A2 c2)[11]? = some (.int .i64 x.state) := rfl
  have e14 : (jbA x A c A2 c2)[14]? = some (.int .i64 x.promise) := rfl
  have e15 : (jbA x A c A2 c2)[15]? = some (.int .i64 x.choice) := rfl
  have HS := Lib.hid (jbA_size x A c A2 c2)
  have H1 := Lib.hid (jbA_one x A c A2 c2)
  obtain ⟨cs, hcs⟩ : ∃ cs, Hid (jbA x A c A2 c2 = cs) := ⟨_, rfl⟩
  rw [hcs.out] at HS H1 e11 e14 e15 hck ⊢
  cases hk : okJ x
  case false =>
    rw [jobE_f hk] at hck
    have HK := Lib.hid hk
    clear hk
    go_enter Tryz.func62, Tryz.ntmps62
    go_wp2_with (refine wpList_load_row rfl 28 _ rfl (w.heap.size) rfl 28 _ (0, 0) _ (three_two w _ _).1 Tryz.underlying28 rfl (info30 HS.out) ?_)
    refine (hck.out _ (((Below.refl _ _).alloc (Nat.le_refl _) _).alloc (by simp) _)).mono ?_; rintro e w1 ⟨rfl, b1⟩
    obtain ⟨g1, g2, s1⟩ := two_block b1
    have B1 := Lib.hid (two_below b1)
    have G1 := Lib.hid g1
    have G2 := Lib.hid g2
    clear b1 g1 g2
    have HQ : Hid (Q = (noJ, 140)) := by show _ = _; rw [← HQ0.out]; exact turnJ_f HK.out
    go_wp2_with (first | (refine wpList_store_row rfl 28 _ _ rfl (w.heap.size + 1) _ rfl rfl 28 _ G2.out (by kernel_rfl) rfl (by rw [List.all_toArray]; rfl) ?_))
    (try simp only [Exit.inBlock, Exit.then])
    refine bodyPost_ret (results_cell2 rfl _ _ (w.heap.size + 1) _ _ _ _ rfl (setRow_heap _ _ _ _ _ _ G2.out) Tryz.underlying28 rfl (by kernel_rfl)) rfl ?_
    rw [HQ.out]
    exact retJZ_no (below_row B1.out (by omega) _)
  rw [jobE_t hk] at hck
  have HK := Lib.hid hk
  clear hk
  go_enter Tryz.func62, Tryz.ntmps62
  go_wp2_with (refine wpList_load_row rfl 28 _ rfl (w.heap.size) rfl 28 _ (0, 0) _ (three_two w _ _).1 Tryz.underlying28 rfl (info30 HS.out) ?_)
  refine (hck.out _ (((Below.refl _ _).alloc (Nat.le_refl _) _).alloc (by simp) _)).mono ?_; rintro e w1 ⟨rfl, b1⟩
  obtain ⟨g1, g2, s1⟩ := two_block b1
  have B1 := Lib.hid (two_below b1)
  have x11 : w1.cell? ⟨w.heap.size, 11, none⟩ = some (.int .i64 x.state) := (cell_of_row w1 _ 11 _ _ _ g1).trans e11
  have x14 : w1.cell? ⟨w.heap.size, 14, none⟩ = some (.int .i64 x.promise) := (cell_of_row w1 _ 14 _ _ _ g1).trans e14
  have x15 : w1.cell? ⟨w.heap.size, 15, none⟩ = some (.int .i64 x.choice) := (cell_of_row w1 _ 15 _ _ _ g1).trans e15
  have hf1 : ∀ j, w1.frozen? ⟨w.heap.size, j, none⟩ = false := fun j => by simp [World.frozen?, g1]
  have G1 := Lib.hid g1
  have G2 := Lib.hid g2
  clear b1 g1 g2
  cases t1 : x.state == 1
  case false =>
    have t1x := bne_of_false t1
    have HQ : Hid (Q = (noJ, 141)) := by show _ = _; rw [← HQ0.out]; exact turnJ_e HK.out (by unfold dropM whenE; rw [t1]; rfl) (by decide)
    go_wp2_with (first | (refine wpList_store_row rfl 28 _ _ rfl (w.heap.size + 1) _ rfl rfl 28 _ G2.out (by kernel_rfl) rfl (by rw [List.all_toArray]; rfl) ?_))
    (try simp only [Exit.inBlock, Exit.then])
    refine bodyPost_ret (results_cell2 rfl _ _ (w.heap.size + 1) _ _ _ _ rfl (setRow_heap _ _ _ _ _ _ G2.out) Tryz.underlying28 rfl (by kernel_rfl)) rfl ?_
    rw [HQ.out]
    exact retJZ_no (below_row B1.out (by omega) _)
  have t1x := bne_of_true t1
  have HQ : Hid (Q = (dropD x, 0)) := by show _ = _; rw [← HQ0.out]; exact turnJ_g HK.out (by unfold dropM whenE; rw [t1]; rfl)
  have HJ : Hid (((w1.setCell ⟨w.heap.size, 14, none⟩ (.int .i64 (-1))).setCell ⟨w.heap.size, 15, none⟩ (.int .i64 0)).heap[w.heap.size]? = some (.cells (jbA (dropD x) A c A2 c2) 28 (0, 0))) := by
    show _ = _
    refine Eq.trans ((setCell_blk (k := 15) (a := .int .i64 0) (setCell_blk (k := 14) (a := .int .i64 (-1)) G1.out))) ?_
    rw [← hcs.out]
    rfl
  have HR_ : Hid (((w1.setCell ⟨w.heap.size, 14, none⟩ (.int .i64 (-1))).setCell ⟨w.heap.size, 15, none⟩ (.int .i64 0)).heap[w.heap.size + 1]? = _) := ((Below.heap_setCell _ _ _ _ (by simp)).trans ((Below.heap_setCell _ _ _ _ (by simp)).trans G2.out))
  go_wp2_with (first | (refine wpList_load_row rfl 28 _ rfl (w.heap.size) rfl 28 _ (0, 0) _ HJ.out Tryz.underlying28 rfl (info30 (jbA_size _ _ _ _ _)) ?_) | (refine wpList_store_row rfl 28 _ _ rfl (w.heap.size + 1) _ rfl rfl 28 _ HR_.out (info30 (jbA_size _ _ _ _ _)) rfl (jbA_one _ _ _ _ _) ?_))
  (try simp only [Exit.inBlock, Exit.then])
  refine bodyPost_ret (results_cell2 rfl _ _ (w.heap.size + 1) _ _ _ _ rfl (setRow_heap _ _ _ _ _ _ HR_.out) Tryz.underlying28 rfl (info30 (jbA_size _ _ _ _ _))) rfl ?_
  rw [HQ.out]
  refine retZ_end (y := dropD x) HAT.out HB.out ?_ ?_ ?_ (by omega)
  · rfl
  · rfl
  · exact (Below.setCell (Below.setCell B1.out (p := ⟨w.heap.size, 14, none⟩) (Nat.le_refl _) (.int .i64 (-1))) (p := ⟨w.heap.size, 15, none⟩) (Nat.le_refl _) (.int .i64 0))
set_option linter.unusedSimpArgs false in
set_option maxHeartbeats 8000000 in
set_option maxRecDepth 100000 in
theorem rhold_any (x : Jb) (h : Bool) (A A2 : Option Addr) (c c2 B : Nat) (w : World) (hx : JbAt w B x A c A2 c2) (hB : B ≤ w.heap.size) (hz : JbSz x) :
    Calls Tryz.prog 60 #[jbV x A c A2 c2, .bool h] w (RetJZ w B (holdJ x h)) := by
  have hck := Lib.hid (fun v (hv : Below w.heap.size w v) => rcheck14_any x A A2 c c2 B v (hx.below (hv.mono hB)) (Nat.le_trans hB hv.size) hz)
  obtain ⟨Q, HQ0⟩ : ∃ Q, Hid (holdJ x h = Q) := ⟨_, rfl⟩
  rw [HQ0.out]
  have HAT := Lib.hid hx
  have HB := Lib.hid hB
  clear hx hB hz
  rw [jbV_is] at hck ⊢
  have e11 : (jbA x A c A2 c2)[11]? = some (.int .i64 x.state) := rfl
  have e12 : (jbA x A c A2 c2)[12]? = some (.bool x.held) := rfl
  have e14 : (jbA x A c A2 c2)[14]? = some (.int .i64 x.promise) := rfl
  have e15 : (jbA x A c A2 c2)[15]? = some (.int .i64 x.choice) := rfl
  have HS := Lib.hid (jbA_size x A c A2 c2)
  have H1 := Lib.hid (jbA_one x A c A2 c2)
  obtain ⟨cs, hcs⟩ : ∃ cs, Hid (jbA x A c A2 c2 = cs) := ⟨_, rfl⟩
  rw [hcs.out] at HS H1 e11 e12 e14 e15 hck ⊢
  cases hk : okJ x
  case false =>
    rw [jobE_f hk] at hck
    have HK := Lib.hid hk
    clear hk
    go_enter Tryz.func60, Tryz.ntmps60
    go_wp2_with (refine wpList_load_row rfl 28 _ rfl (w.heap.size) rfl 28 _ (0, 0) _ (three_two w _ _).1 Tryz.underlying28 rfl (info30 HS.out) ?_)
    refine (hck.out _ (((Below.refl _ _).alloc (Nat.le_refl _) _).alloc (by simp) _)).mono ?_; rintro e w1 ⟨rfl, b1⟩
    obtain ⟨g1, g2, s1⟩ := two_block b1
    have B1 := Lib.hid (two_below b1)
    have G1 := Lib.hid g1
    have G2 := Lib.hid g2
    clear b1 g1 g2
    have HQ : Hid (Q = (noJ, 140)) := by show _ = _; rw [← HQ0.out]; exact turnJ_f HK.out
    go_wp2_with (first | (refine wpList_store_row rfl 28 _ _ rfl (w.heap.size + 1) _ rfl rfl 28 _ G2.out (by kernel_rfl) rfl (by rw [List.all_toArray]; rfl) ?_))
    (try simp only [Exit.inBlock, Exit.then])
    refine bodyPost_ret (results_cell2 rfl _ _ (w.heap.size + 1) _ _ _ _ rfl (setRow_heap _ _ _ _ _ _ G2.out) Tryz.underlying28 rfl (by kernel_rfl)) rfl ?_
    rw [HQ.out]
    exact retJZ_no (below_row B1.out (by omega) _)
  rw [jobE_t hk] at hck
  have HK := Lib.hid hk
  clear hk
  go_enter Tryz.func60, Tryz.ntmps60
  go_wp2_with (refine wpList_load_row rfl 28 _ rfl (w.heap.size) rfl 28 _ (0, 0) _ (three_two w _ _).1 Tryz.underlying28 rfl (info30 HS.out) ?_)
  refine (hck.out _ (((Below.refl _ _).alloc (Nat.le_refl _) _).alloc (by simp) _)).mono ?_; rintro e w1 ⟨rfl, b1⟩
  obtain ⟨g1, g2, s1⟩ := two_block b1
  have B1 := Lib.hid (two_below b1)
  have x11 : w1.cell? ⟨w.heap.size, 11, none⟩ = some (.int .i64 x.state) := (cell_of_row w1 _ 11 _ _ _ g1).trans e11
  have x12 : w1.cell? ⟨w.heap.size, 12, none⟩ = some (.bool x.held) := (cell_of_row w1 _ 12 _ _ _ g1).trans e12
  have x14 : w1.cell? ⟨w.heap.size, 14, none⟩ = some (.int .i64 x.promise) := (cell_of_row w1 _ 14 _ _ _ g1).trans e14
  have x15 : w1.cell? ⟨w.heap.size, 15, none⟩ = some (.int .i64 x.choice) := (cell_of_row w1 _ 15 _ _ _ g1).trans e15
  have hf1 : ∀ j, w1.frozen? ⟨w.heap.size, j, none⟩ = false := fun j => by simp [World.frozen?, g1]
  have G1 := Lib.hid g1
  have G2 := Lib.hid g2
  clear b1 g1 g2
  cases t1 : x.state == 1
  case false =>
    have t1x := bne_of_false t1
    have HQ : Hid (Q = (noJ, 141)) := by show _ = _; rw [← HQ0.out]; exact turnJ_e HK.out (by unfold holdM whenE; rw [t1]; rfl) (by decide)
    go_wp2_with (first | (refine wpList_store_row rfl 28 _ _ rfl (w.heap.size + 1) _ rfl rfl 28 _ G2.out (by kernel_rfl) rfl (by rw [List.all_toArray]; rfl) ?_))
    (try simp only [Exit.inBlock, Exit.then])
    refine bodyPost_ret (results_cell2 rfl _ _ (w.heap.size + 1) _ _ _ _ rfl (setRow_heap _ _ _ _ _ _ G2.out) Tryz.underlying28 rfl (by kernel_rfl)) rfl ?_
    rw [HQ.out]
    exact retJZ_no (below_row B1.out (by omega) _)
  have t1x := bne_of_true t1
  cases th : x.held <;> rw [th] at x12 <;> cases h
  · have HQ : Hid (Q = (noJ, 141)) := by show _ = _; rw [← HQ0.out]; exact turnJ_e HK.out (by unfold holdM whenE; rw [t1, th]; rfl) (by decide)
    go_wp2_with (first | (refine wpList_store_row rfl 28 _ _ rfl (w.heap.size + 1) _ rfl rfl 28 _ G2.out (by kernel_rfl) rfl (by rw [List.all_toArray]; rfl) ?_))
    (try simp only [Exit.inBlock, Exit.then])
    refine bodyPost_ret (results_cell2 rfl _ _ (w.heap.size + 1) _ _ _ _ rfl (setRow_heap _ _ _ _ _ _ G2.out) Tryz.underlying28 rfl (by kernel_rfl)) rfl ?_
    rw [HQ.out]
    exact retJZ_no (below_row B1.out (by omega) _)
  · have HQ : Hid (Q = (holdD x true, 0)) := by show _ = _; rw [← HQ0.out]; exact turnJ_g HK.out (by unfold holdM whenE; rw [t1, th]; rfl)
    have HJ : Hid ((((w1.setCell ⟨w.heap.size, 12, none⟩ (.bool true)).setCell ⟨w.heap.size, 14, none⟩ (.int .i64 (-1))).setCell ⟨w.heap.size, 15, none⟩ (.int .i64 0)).heap[w.heap.size]? = some (.cells (jbA (holdD x true) A c A2 c2) 28 (0, 0))) := by
      show _ = _
      refine Eq.trans ((setCell_blk (k := 15) (a := .int .i64 0) (setCell_blk (k := 14) (a := .int .i64 (-1)) (setCell_blk (k := 12) (a := .bool true) G1.out)))) ?_
      rw [← hcs.out]
      rfl
    have HR_ : Hid ((((w1.setCell ⟨w.heap.size, 12, none⟩ (.bool true)).setCell ⟨w.heap.size, 14, none⟩ (.int .i64 (-1))).setCell ⟨w.heap.size, 15, none⟩ (.int .i64 0)).heap[w.heap.size + 1]? = _) := ((Below.heap_setCell _ _ _ _ (by simp)).trans ((Below.heap_setCell _ _ _ _ (by simp)).trans ((Below.heap_setCell _ _ _ _ (by simp)).trans G2.out)))
    go_wp2_with (first | (refine wpList_load_row rfl 28 _ rfl (w.heap.size) rfl 28 _ (0, 0) _ HJ.out Tryz.underlying28 rfl (info30 (jbA_size _ _ _ _ _)) ?_) | (refine wpList_store_row rfl 28 _ _ rfl (w.heap.size + 1) _ rfl rfl 28 _ HR_.out (info30 (jbA_size _ _ _ _ _)) rfl (jbA_one _ _ _ _ _) ?_))
    (try simp only [Exit.inBlock, Exit.then])
    refine bodyPost_ret (results_cell2 rfl _ _ (w.heap.size + 1) _ _ _ _ rfl (setRow_heap _ _ _ _ _ _ HR_.out) Tryz.underlying28 rfl (info30 (jbA_size _ _ _ _ _))) rfl ?_
    rw [HQ.out]
    refine retZ_end (y := holdD x true) HAT.out HB.out ?_ ?_ ?_ (by omega)
    · rfl
    · rfl
    · exact (Below.setCell (Below.setCell (Below.setCell B1.out (p := ⟨w.heap.size, 12, none⟩) (Nat.le_refl _) (.bool true)) (p := ⟨w.heap.size, 14, none⟩) (Nat.le_refl _) (.int .i64 (-1))) (p := ⟨w.heap.size, 15, none⟩) (Nat.le_refl _) (.int .i64 0))
  · have HQ : Hid (Q = (holdD x false, 0)) := by show _ = _; rw [← HQ0.out]; exact turnJ_g HK.out (by unfold holdM whenE; rw [t1, th]; rfl)
    have HJ : Hid ((w1.setCell ⟨w.heap.size, 12, none⟩ (.bool false)).heap[w.heap.size]? = some (.cells (jbA (holdD x false) A c A2 c2) 28 (0, 0))) := by
      show _ = _
      refine Eq.trans ((setCell_blk (k := 12) (a := .bool false) G1.out)) ?_
      rw [← hcs.out]
      rfl
    have HR_ : Hid ((w1.setCell ⟨w.heap.size, 12, none⟩ (.bool false)).heap[w.heap.size + 1]? = _) := ((Below.heap_setCell _ _ _ _ (by simp)).trans G2.out)
    go_wp2_with (first | (refine wpList_load_row rfl 28 _ rfl (w.heap.size) rfl 28 _ (0, 0) _ HJ.out Tryz.underlying28 rfl (info30 (jbA_size _ _ _ _ _)) ?_) | (refine wpList_store_row rfl 28 _ _ rfl (w.heap.size + 1) _ rfl rfl 28 _ HR_.out (info30 (jbA_size _ _ _ _ _)) rfl (jbA_one _ _ _ _ _) ?_))
    (try simp only [Exit.inBlock, Exit.then])
    refine bodyPost_ret (results_cell2 rfl _ _ (w.heap.size + 1) _ _ _ _ rfl (setRow_heap _ _ _ _ _ _ HR_.out) Tryz.underlying28 rfl (info30 (jbA_size _ _ _ _ _))) rfl ?_
    rw [HQ.out]
    refine retZ_end (y := holdD x false) HAT.out HB.out ?_ ?_ ?_ (by omega)
    · rfl
    · rfl
    · exact (Below.setCell B1.out (p := ⟨w.heap.size, 12, none⟩) (Nat.le_refl _) (.bool false))
  · have HQ : Hid (Q = (noJ, 141)) := by show _ = _; rw [← HQ0.out]; exact turnJ_e HK.out (by unfold holdM whenE; rw [t1, th]; rfl) (by decide)
    go_wp2_with (first | (refine wpList_store_row rfl 28 _ _ rfl (w.heap.size + 1) _ rfl rfl 28 _ G2.out (by kernel_rfl) rfl (by rw [List.all_toArray]; rfl) ?_))
    (try simp only [Exit.inBlock, Exit.then])
    refine bodyPost_ret (results_cell2 rfl _ _ (w.heap.size + 1) _ _ _ _ rfl (setRow_heap _ _ _ _ _ _ G2.out) Tryz.underlying28 rfl (by kernel_rfl)) rfl ?_
    rw [HQ.out]
    exact retJZ_no (below_row B1.out (by omega) _)
set_option linter.unusedSimpArgs false in
set_option maxHeartbeats 8000000 in
set_option maxRecDepth 100000 in
theorem rprom_any (x : Jb) (at_ : Int) (ch : Int) (A A2 : Option Addr) (c c2 B : Nat) (w : World) (hx : JbAt w B x A c A2 c2) (hB : B ≤ w.heap.size) (hz : JbSz x) :
    Calls Tryz.prog 61 #[jbV x A c A2 c2, .int .i64 at_, .int .i64 ch] w (RetJZ w B (promJ x at_ ch)) := by
  have hck := Lib.hid (fun v (hv : Below w.heap.size w v) => rcheck14_any x A A2 c c2 B v (hx.below (hv.mono hB)) (Nat.le_trans hB hv.size) hz)
  obtain ⟨Q, HQ0⟩ : ∃ Q, Hid (promJ x at_ ch = Q) := ⟨_, rfl⟩
  rw [HQ0.out]
  have HAT := Lib.hid hx
  have HB := Lib.hid hB
  have q1 := Lib.hid (fun v => rtick_any at_ v)
  have q2 := Lib.hid (fun v (hv : Below w.heap.size w v) => rwall14_any x.shape A c B ch v (hx.1.below (hv.mono hB)) (Nat.le_trans hB hv.size) hx.2.2.1 hx.2.2.2.2.1)
  have HW := hasO_zero x.shape ch
  obtain ⟨wl, hwl⟩ : ∃ q, wallS x.shape ch = q := ⟨_, rfl⟩
  rw [hwl] at q2 HW
  obtain ⟨z1, hz1⟩ : ∃ q, Hid (tickB at_ = q) := ⟨_, rfl⟩
  rw [hz1.out] at q1
  obtain ⟨z2, hz2⟩ : ∃ q, Hid (hasO x.shape ch = q) := ⟨_, rfl⟩
  rw [hz2.out] at HW
  clear hwl
  unfold shV at q2
  clear hx hB hz
  rw [jbV_is] at hck ⊢
  have e4 : (jbA x A c A2 c2)[4]? = some (.int .i64 x.shape.kind) := rfl
  have e5 : (jbA x A c A2 c2)[5]? = some (.slice A x.shape.alts.length c) := rfl
  have e6 : (jbA x A c A2 c2)[6]? = some (.int .i64 x.shape.mn) := rfl
  have e7 : (jbA x A c A2 c2)[7]? = some (.int .i64 x.shape.mx) := rfl
  have e8 : (jbA x A c A2 c2)[8]? = some (.int .i64 x.shape.wall) := rfl
  have e11 : (jbA x A c A2 c2)[11]? = some (.int .i64 x.state) := rfl
  have e12 : (jbA x A c A2 c2)[12]? = some (.bool x.held) := rfl
  have e14 : (jbA x A c A2 c2)[14]? = some (.int .i64 x.promise) := rfl
  have e15 : (jbA x A c A2 c2)[15]? = some (.int .i64 x.choice) := rfl
  have HS := Lib.hid (jbA_size x A c A2 c2)
  have H1 := Lib.hid (jbA_one x A c A2 c2)
  obtain ⟨cs, hcs⟩ : ∃ cs, Hid (jbA x A c A2 c2 = cs) := ⟨_, rfl⟩
  rw [hcs.out] at HS H1 e4 e5 e6 e7 e8 e11 e12 e14 e15 hck ⊢
  obtain ⟨n, HN⟩ : ∃ n, Hid (x.shape.alts.length = n) := ⟨_, rfl⟩
  rw [HN.out] at e5
  rw [HN.out] at q2
  cases hk : okJ x
  case false =>
    rw [jobE_f hk] at hck
    have HK := Lib.hid hk
    clear hk
    go_enter Tryz.func61, Tryz.ntmps61
    go_wp2_with (refine wpList_load_row rfl 28 _ rfl (w.heap.size) rfl 28 _ (0, 0) _ (three_two w _ _).1 Tryz.underlying28 rfl (info30 HS.out) ?_)
    refine (hck.out _ (((Below.refl _ _).alloc (Nat.le_refl _) _).alloc (by simp) _)).mono ?_; rintro e w1 ⟨rfl, b1⟩
    obtain ⟨g1, g2, s1⟩ := two_block b1
    have B1 := Lib.hid (two_below b1)
    have G1 := Lib.hid g1
    have G2 := Lib.hid g2
    clear b1 g1 g2
    have HQ : Hid (Q = (noJ, 140)) := by show _ = _; rw [← HQ0.out]; exact turnJ_f HK.out
    go_wp2_with (first | (refine wpList_store_row rfl 28 _ _ rfl (w.heap.size + 1) _ rfl rfl 28 _ G2.out (by kernel_rfl) rfl (by rw [List.all_toArray]; rfl) ?_))
    (try simp only [Exit.inBlock, Exit.then])
    refine bodyPost_ret (results_cell2 rfl _ _ (w.heap.size + 1) _ _ _ _ rfl (setRow_heap _ _ _ _ _ _ G2.out) Tryz.underlying28 rfl (by kernel_rfl)) rfl ?_
    rw [HQ.out]
    exact retJZ_no (below_row B1.out (by omega) _)
  rw [jobE_t hk] at hck
  have HK := Lib.hid hk
  clear hk
  go_enter Tryz.func61, Tryz.ntmps61
  go_wp2_with (refine wpList_load_row rfl 28 _ rfl (w.heap.size) rfl 28 _ (0, 0) _ (three_two w _ _).1 Tryz.underlying28 rfl (info30 HS.out) ?_)
  refine (hck.out _ (((Below.refl _ _).alloc (Nat.le_refl _) _).alloc (by simp) _)).mono ?_; rintro e w1 ⟨rfl, b1⟩
  obtain ⟨g1, g2, s1⟩ := two_block b1
  have B1 := Lib.hid (two_below b1)
  have x4 : w1.cell? ⟨w.heap.size, 4, none⟩ = some (.int .i64 x.shape.kind) := (cell_of_row w1 _ 4 _ _ _ g1).trans e4
  have x5 : w1.cell? ⟨w.heap.size, 5, none⟩ = some (.slice A n c) := (cell_of_row w1 _ 5 _ _ _ g1).trans e5
  have x6 : w1.cell? ⟨w.heap.size, 6, none⟩ = some (.int .i64 x.shape.mn) := (cell_of_row w1 _ 6 _ _ _ g1).trans e6
  have x7 : w1.cell? ⟨w.heap.size, 7, none⟩ = some (.int .i64 x.shape.mx) := (cell_of_row w1 _ 7 _ _ _ g1).trans e7
  have x8 : w1.cell? ⟨w.heap.size, 8, none⟩ = some (.int .i64 x.shape.wall) := (cell_of_row w1 _ 8 _ _ _ g1).trans e8
  have x11 : w1.cell? ⟨w.heap.size, 11, none⟩ = some (.int .i64 x.state) := (cell_of_row w1 _ 11 _ _ _ g1).trans e11
  have x12 : w1.cell? ⟨w.heap.size, 12, none⟩ = some (.bool x.held) := (cell_of_row w1 _ 12 _ _ _ g1).trans e12
  have x14 : w1.cell? ⟨w.heap.size, 14, none⟩ = some (.int .i64 x.promise) := (cell_of_row w1 _ 14 _ _ _ g1).trans e14
  have x15 : w1.cell? ⟨w.heap.size, 15, none⟩ = some (.int .i64 x.choice) := (cell_of_row w1 _ 15 _ _ _ g1).trans e15
  have hf1 : ∀ j, w1.frozen? ⟨w.heap.size, j, none⟩ = false := fun j => by simp [World.frozen?, g1]
  have G1 := Lib.hid g1
  have G2 := Lib.hid g2
  clear b1 g1 g2
  cases t1 : x.state == 1
  case false =>
    have t1x := bne_of_false t1
    have HQ : Hid (Q = (noJ, 141)) := by show _ = _; rw [← HQ0.out]; exact turnJ_e HK.out (by unfold promM; rw [t1]; rfl) (by decide)
    go_wp2_with (first | (refine wpList_store_row rfl 28 _ _ rfl (w.heap.size + 1) _ rfl rfl 28 _ G2.out (by kernel_rfl) rfl (by rw [List.all_toArray]; rfl) ?_))
    (try simp only [Exit.inBlock, Exit.then])
    refine bodyPost_ret (results_cell2 rfl _ _ (w.heap.size + 1) _ _ _ _ rfl (setRow_heap _ _ _ _ _ _ G2.out) Tryz.underlying28 rfl (by kernel_rfl)) rfl ?_
    rw [HQ.out]
    exact retJZ_no (below_row B1.out (by omega) _)
  have t1x := bne_of_true t1
  cases th : x.held <;> rw [th] at x12
  case true =>
    have HQ : Hid (Q = (noJ, 141)) := by show _ = _; rw [← HQ0.out]; exact turnJ_e HK.out (by unfold promM; rw [t1, th]; rfl) (by decide)
    go_wp2_with (first | (refine wpList_store_row rfl 28 _ _ rfl (w.heap.size + 1) _ rfl rfl 28 _ G2.out (by kernel_rfl) rfl (by rw [List.all_toArray]; rfl) ?_))
    (try simp only [Exit.inBlock, Exit.then])
    refine bodyPost_ret (results_cell2 rfl _ _ (w.heap.size + 1) _ _ _ _ rfl (setRow_heap _ _ _ _ _ _ G2.out) Tryz.underlying28 rfl (by kernel_rfl)) rfl ?_
    rw [HQ.out]
    exact retJZ_no (below_row B1.out (by omega) _)
  cases z1
  case false =>
    have HQ : Hid (Q = (noJ, 2)) := by show _ = _; rw [← HQ0.out]; exact turnJ_e HK.out (by unfold promM; rw [t1, th, hz1.out, hz2.out]; cases z2 <;> rfl) (by decide)
    go_wp2_with (first | (go_at_call 128; refine (q1.out _).mono ?_; rintro e w2 ⟨rfl, rfl⟩) | (refine wpList_store_row rfl 28 _ _ rfl (w.heap.size + 1) _ rfl rfl 28 _ G2.out (by kernel_rfl) rfl (by rw [List.all_toArray]; rfl) ?_))
    (try simp only [Exit.inBlock, Exit.then])
    refine bodyPost_ret (results_cell2 rfl _ _ (w.heap.size + 1) _ _ _ _ rfl (setRow_heap _ _ _ _ _ _ G2.out) Tryz.underlying28 rfl (by kernel_rfl)) rfl ?_
    rw [HQ.out]
    exact retJZ_no (below_row B1.out (by omega) _)
  go_wp2_with (go_at_call 128; refine (q1.out _).mono ?_; rintro e w2 ⟨rfl, rfl⟩)
  refine (q2.out _ B1.out).mono ?_; rintro e w3 ⟨rfl, b3⟩
  have j1 := (b3.block _ (by omega)).trans G1.out
  have j2 := (b3.block _ s1).trans G2.out
  have B3 := Lib.hid (bt B1.out b3)
  have s3 : w.heap.size + 1 < w3.heap.size := (Array.getElem?_eq_some_iff.1 j2).1
  have hf3 : ∀ j, w3.frozen? ⟨w.heap.size, j, none⟩ = false := fun j => by simp [World.frozen?, j1]
  have z14 : w3.cell? ⟨w.heap.size, 14, none⟩ = some (.int .i64 x.promise) := (cell_of_row w3 _ 14 _ _ _ j1).trans e14
  have z15 : w3.cell? ⟨w.heap.size, 15, none⟩ = some (.int .i64 x.choice) := (cell_of_row w3 _ 15 _ _ _ j1).trans e15
  have J1 := Lib.hid j1
  have J2 := Lib.hid j2
  clear b3 j1 j2 hf1 x4 x5 x6 x7 x8 x11 x12 x14 x15
  cases z2
  case false =>
    have HQ : Hid (Q = (noJ, 2)) := by show _ = _; rw [← HQ0.out]; exact turnJ_e HK.out (by unfold promM; rw [t1, th, hz1.out, hz2.out]; rfl) (by decide)
    go_wp2_with (first | (refine wpList_store_row rfl 28 _ _ rfl (w.heap.size + 1) _ rfl rfl 28 _ J2.out (by kernel_rfl) rfl (by rw [List.all_toArray]; rfl) ?_))
    (try simp only [Exit.inBlock, Exit.then])
    refine bodyPost_ret (results_cell2 rfl _ _ (w.heap.size + 1) _ _ _ _ rfl (setRow_heap _ _ _ _ _ _ J2.out) Tryz.underlying28 rfl (by kernel_rfl)) rfl ?_
    rw [HQ.out]
    exact retJZ_no (below_row B3.out (by omega) _)
  have HQ : Hid (Q = (promD x at_ ch, 0)) := by show _ = _; rw [← HQ0.out]; exact turnJ_g HK.out (by unfold promM; rw [t1, th, hz1.out, hz2.out]; rfl)
  have HJ : Hid (((w3.setCell ⟨w.heap.size, 14, none⟩ (.int .i64 at_)).setCell ⟨w.heap.size, 15, none⟩ (.int .i64 ch)).heap[w.heap.size]? = some (.cells (jbA (promD x at_ ch) A c A2 c2) 28 (0, 0))) := by
    show _ = _
    refine Eq.trans ((setCell_blk (k := 15) (a := .int .i64 ch) (setCell_blk (k := 14) (a := .int .i64 at_) J1.out))) ?_
    rw [← hcs.out]
    rfl
  have HR_ : Hid (((w3.setCell ⟨w.heap.size, 14, none⟩ (.int .i64 at_)).setCell ⟨w.heap.size, 15, none⟩ (.int .i64 ch)).heap[w.heap.size + 1]? = _) := ((Below.heap_setCell _ _ _ _ (by simp)).trans ((Below.heap_setCell _ _ _ _ (by simp)).trans J2.out))
  go_wp2_with (first | (refine wpList_load_row rfl 28 _ rfl (w.heap.size) rfl 28 _ (0, 0) _ HJ.out Tryz.underlying28 rfl (info30 (jbA_size _ _ _ _ _)) ?_) | (refine wpList_store_row rfl 28 _ _ rfl (w.heap.size + 1) _ rfl rfl 28 _ HR_.out (info30 (jbA_size _ _ _ _ _)) rfl (jbA_one _ _ _ _ _) ?_))
  (try simp only [Exit.inBlock, Exit.then])
  refine bodyPost_ret (results_cell2 rfl _ _ (w.heap.size + 1) _ _ _ _ rfl (setRow_heap _ _ _ _ _ _ HR_.out) Tryz.underlying28 rfl (info30 (jbA_size _ _ _ _ _))) rfl ?_
  rw [HQ.out]
  refine retZ_end (y := promD x at_ ch) HAT.out HB.out ?_ ?_ ?_ (by omega)
  · rfl
  · rfl
  · exact (Below.setCell (Below.setCell B3.out (p := ⟨w.heap.size, 14, none⟩) (Nat.le_refl _) (.int .i64 at_)) (p := ⟨w.heap.size, 15, none⟩) (Nat.le_refl _) (.int .i64 ch))
set_option linter.unusedSimpArgs false in
set_option maxHeartbeats 8000000 in
set_option maxRecDepth 100000 in
theorem rend_any (x : Jb) (st : Int) (A A2 : Option Addr) (c c2 B : Nat) (w : World) (hx : JbAt w B x A c A2 c2) (hB : B ≤ w.heap.size) (hz : JbSz x) :
    Calls Tryz.prog 65 #[jbV x A c A2 c2, .int .i64 st] w (RetJZ w B (endJ x st)) := by
  have hck := Lib.hid (fun v (hv : Below w.heap.size w v) => rcheck14_any x A A2 c c2 B v (hx.below (hv.mono hB)) (Nat.le_trans hB hv.size) hz)
  obtain ⟨Q, HQ0⟩ : ∃ Q, Hid (endJ x st = Q) := ⟨_, rfl⟩
  rw [HQ0.out]
  have HAT := Lib.hid hx
  have HB := Lib.hid hB
  have q1 := Lib.hid (fun v => rended_any st v)
  obtain ⟨z1, hz1⟩ : ∃ q, Hid (endedB st = q) := ⟨_, rfl⟩
  rw [hz1.out] at q1
  clear hx hB hz
  rw [jbV_is] at hck ⊢
  have e11 : (jbA x A c A2 c2)[11]? = some (.int .i64 x.state) := rfl
  have e12 : (jbA x A c A2 c2)[12]? = some (.bool x.held) := rfl
  have e14 : (jbA x A c A2 c2)[14]? = some (.int .i64 x.promise) := rfl
  have e15 : (jbA x A c A2 c2)[15]? = some (.int .i64 x.choice) := rfl
  have e18 : (jbA x A c A2 c2)[18]? = some (.int .u64 x.nodes) := rfl
  have HS := Lib.hid (jbA_size x A c A2 c2)
  have H1 := Lib.hid (jbA_one x A c A2 c2)
  obtain ⟨cs, hcs⟩ : ∃ cs, Hid (jbA x A c A2 c2 = cs) := ⟨_, rfl⟩
  rw [hcs.out] at HS H1 e11 e12 e14 e15 e18 hck ⊢
  obtain ⟨u, HU⟩ : ∃ u : Int, Hid ((x.nodes : Int) = u) := ⟨_, rfl⟩
  rw [HU.out] at e18
  cases hk : okJ x
  case false =>
    rw [jobE_f hk] at hck
    have HK := Lib.hid hk
    clear hk
    go_enter Tryz.func65, Tryz.ntmps65
    go_wp2_with (refine wpList_load_row rfl 28 _ rfl (w.heap.size) rfl 28 _ (0, 0) _ (three_two w _ _).1 Tryz.underlying28 rfl (info30 HS.out) ?_)
    refine (hck.out _ (((Below.refl _ _).alloc (Nat.le_refl _) _).alloc (by simp) _)).mono ?_; rintro e w1 ⟨rfl, b1⟩
    obtain ⟨g1, g2, s1⟩ := two_block b1
    have B1 := Lib.hid (two_below b1)
    have G1 := Lib.hid g1
    have G2 := Lib.hid g2
    clear b1 g1 g2
    have HQ : Hid (Q = (noJ, 140)) := by show _ = _; rw [← HQ0.out]; exact turnJ_f HK.out
    go_wp2_with (first | (refine wpList_store_row rfl 28 _ _ rfl (w.heap.size + 1) _ rfl rfl 28 _ G2.out (by kernel_rfl) rfl (by rw [List.all_toArray]; rfl) ?_))
    (try simp only [Exit.inBlock, Exit.then])
    refine bodyPost_ret (results_cell2 rfl _ _ (w.heap.size + 1) _ _ _ _ rfl (setRow_heap _ _ _ _ _ _ G2.out) Tryz.underlying28 rfl (by kernel_rfl)) rfl ?_
    rw [HQ.out]
    exact retJZ_no (below_row B1.out (by omega) _)
  rw [jobE_t hk] at hck
  have HK := Lib.hid hk
  clear hk
  go_enter Tryz.func65, Tryz.ntmps65
  go_wp2_with (refine wpList_load_row rfl 28 _ rfl (w.heap.size) rfl 28 _ (0, 0) _ (three_two w _ _).1 Tryz.underlying28 rfl (info30 HS.out) ?_)
  refine (hck.out _ (((Below.refl _ _).alloc (Nat.le_refl _) _).alloc (by simp) _)).mono ?_; rintro e w1 ⟨rfl, b1⟩
  obtain ⟨g1, g2, s1⟩ := two_block b1
  have B1 := Lib.hid (two_below b1)
  have x11 : w1.cell? ⟨w.heap.size, 11, none⟩ = some (.int .i64 x.state) := (cell_of_row w1 _ 11 _ _ _ g1).trans e11
  have x12 : w1.cell? ⟨w.heap.size, 12, none⟩ = some (.bool x.held) := (cell_of_row w1 _ 12 _ _ _ g1).trans e12
  have x14 : w1.cell? ⟨w.heap.size, 14, none⟩ = some (.int .i64 x.promise) := (cell_of_row w1 _ 14 _ _ _ g1).trans e14
  have x15 : w1.cell? ⟨w.heap.size, 15, none⟩ = some (.int .i64 x.choice) := (cell_of_row w1 _ 15 _ _ _ g1).trans e15
  have x18 : w1.cell? ⟨w.heap.size, 18, none⟩ = some (.int .u64 u) := (cell_of_row w1 _ 18 _ _ _ g1).trans e18
  have hf1 : ∀ j, w1.frozen? ⟨w.heap.size, j, none⟩ = false := fun j => by simp [World.frozen?, g1]
  have G1 := Lib.hid g1
  have G2 := Lib.hid g2
  clear b1 g1 g2
  cases z1
  case false =>
    have HQ : Hid (Q = (noJ, 2)) := by show _ = _; rw [← HQ0.out]; exact turnJ_e HK.out (by unfold endM; rw [hz1.out]; rfl) (by decide)
    go_wp2_with (first | (go_at_call 134; refine (q1.out _).mono ?_; rintro e w2 ⟨rfl, rfl⟩) | (refine wpList_store_row rfl 28 _ _ rfl (w.heap.size + 1) _ rfl rfl 28 _ G2.out (by kernel_rfl) rfl (by rw [List.all_toArray]; rfl) ?_))
    (try simp only [Exit.inBlock, Exit.then])
    refine bodyPost_ret (results_cell2 rfl _ _ (w.heap.size + 1) _ _ _ _ rfl (setRow_heap _ _ _ _ _ _ G2.out) Tryz.underlying28 rfl (by kernel_rfl)) rfl ?_
    rw [HQ.out]
    exact retJZ_no (below_row B1.out (by omega) _)
  by_cases h1 : x.state = 1
  · have t1 : (x.state == 1) = true := beq_iff_eq.2 h1
    have t2 : (x.state == 2) = false := beq_eq_false_iff_ne.2 (by omega)
    have t2x := bne_of_false t2
    have HD1 : Hid (finD x st = { x with held := false, promise := -1, choice := 0, state := st, nodes := 0 }) := by show _ = _; unfold finD; rw [if_pos h1]
    clear h1
    cases t6 : st == 6
    · have HQ : Hid (Q = (noJ, 141)) := by show _ = _; rw [← HQ0.out]; exact turnJ_e HK.out (by unfold endM whenE; rw [hz1.out, t1, t2, t6]; rfl) (by decide)
      go_wp2_with (first | (go_at_call 134; refine (q1.out _).mono ?_; rintro e w2 ⟨rfl, rfl⟩) | (refine wpList_store_row rfl 28 _ _ rfl (w.heap.size + 1) _ rfl rfl 28 _ G2.out (by kernel_rfl) rfl (by rw [List.all_toArray]; rfl) ?_))
      (try simp only [Exit.inBlock, Exit.then])
      refine bodyPost_ret (results_cell2 rfl _ _ (w.heap.size + 1) _ _ _ _ rfl (setRow_heap _ _ _ _ _ _ G2.out) Tryz.underlying28 rfl (by kernel_rfl)) rfl ?_
      rw [HQ.out]
      exact retJZ_no (below_row B1.out (by omega) _)
    · go_upto_region 11 with (go_at_call 134; refine (q1.out _).mono ?_; rintro e w2 ⟨rfl, rfl⟩)
      have gj_ : (((w1.setCell ⟨w.heap.size, 12, none⟩ (.bool false)).setCell ⟨w.heap.size, 14, none⟩ (.int .i64 (-1))).setCell ⟨w.heap.size, 15, none⟩ (.int .i64 0)).heap[w.heap.size]? = some (.cells (jbA ({ x with held := false, promise := -1, choice := 0 }) A c A2 c2) 28 (0, 0)) := by
        refine Eq.trans ((setCell_blk (k := 15) (a := .int .i64 0) (setCell_blk (k := 14) (a := .int .i64 (-1)) (setCell_blk (k := 12) (a := .bool false) G1.out)))) ?_
        rw [← hcs.out]
        rfl
      have gr_ : (((w1.setCell ⟨w.heap.size, 12, none⟩ (.bool false)).setCell ⟨w.heap.size, 14, none⟩ (.int .i64 (-1))).setCell ⟨w.heap.size, 15, none⟩ (.int .i64 0)).heap[w.heap.size + 1]? = _ := ((Below.heap_setCell _ _ _ _ (by simp)).trans ((Below.heap_setCell _ _ _ _ (by simp)).trans ((Below.heap_setCell _ _ _ _ (by simp)).trans G2.out)))
      have bb_ : Below w.heap.size w (((w1.setCell ⟨w.heap.size, 12, none⟩ (.bool false)).setCell ⟨w.heap.size, 14, none⟩ (.int .i64 (-1))).setCell ⟨w.heap.size, 15, none⟩ (.int .i64 0)) := (Below.setCell (Below.setCell (Below.setCell B1.out (p := ⟨w.heap.size, 12, none⟩) (Nat.le_refl _) (.bool false)) (p := ⟨w.heap.size, 14, none⟩) (Nat.le_refl _) (.int .i64 (-1))) (p := ⟨w.heap.size, 15, none⟩) (Nat.le_refl _) (.int .i64 0))
      obtain ⟨W2, hw_⟩ : ∃ W, (((w1.setCell ⟨w.heap.size, 12, none⟩ (.bool false)).setCell ⟨w.heap.size, 14, none⟩ (.int .i64 (-1))).setCell ⟨w.heap.size, 15, none⟩ (.int .i64 0)) = W := ⟨_, rfl⟩
      rw [hw_] at gj_ gr_ bb_
      obtain ⟨cs2, hcs2⟩ : ∃ cs, Hid (jbA ({ x with held := false, promise := -1, choice := 0 }) A c A2 c2 = cs) := ⟨_, rfl⟩
      rw [hcs2.out] at gj_
      have y11 : W2.cell? ⟨w.heap.size, 11, none⟩ = some (.int .i64 x.state) := (cell_of_row W2 _ 11 _ _ _ gj_).trans (by rw [← hcs2.out]; rfl)
      have y18 : W2.cell? ⟨w.heap.size, 18, none⟩ = some (.int .u64 x.nodes) := (cell_of_row W2 _ 18 _ _ _ gj_).trans (by rw [← hcs2.out]; rfl)
      have fy : ∀ j, W2.frozen? ⟨w.heap.size, j, none⟩ = false := fun j => by simp [World.frozen?, gj_]
      have GJ2 := Lib.hid gj_
      have GR2 := Lib.hid gr_
      have BB2 := Lib.hid bb_
      clear gj_ gr_ bb_
      rw [hw_]
      clear hw_ x11 x12 x14 x15 x18 hf1
      have HQ : Hid (Q = (finD x st, 0)) := by show _ = _; rw [← HQ0.out]; exact turnJ_g HK.out (by unfold endM whenE; rw [hz1.out, t1, t2, t6]; rfl)
      have HJ : Hid (((W2.setCell ⟨w.heap.size, 11, none⟩ (.int .i64 st)).setCell ⟨w.heap.size, 18, none⟩ (.int .u64 0)).heap[w.heap.size]? = some (.cells (jbA (finD x st) A c A2 c2) 28 (0, 0))) := by
        show _ = _
        refine Eq.trans ((setCell_blk (k := 18) (a := .int .u64 0) (setCell_blk (k := 11) (a := .int .i64 st) GJ2.out))) ?_
        rw [HD1.out, ← hcs2.out]
        rfl
      have HR_ : Hid (((W2.setCell ⟨w.heap.size, 11, none⟩ (.int .i64 st)).setCell ⟨w.heap.size, 18, none⟩ (.int .u64 0)).heap[w.heap.size + 1]? = _) := ((Below.heap_setCell _ _ _ _ (by simp)).trans ((Below.heap_setCell _ _ _ _ (by simp)).trans GR2.out))
      go_wp2_with (first | (refine wpList_load_row rfl 28 _ rfl (w.heap.size) rfl 28 _ (0, 0) _ HJ.out Tryz.underlying28 rfl (info30 (jbA_size _ _ _ _ _)) ?_) | (refine wpList_store_row rfl 28 _ _ rfl (w.heap.size + 1) _ rfl rfl 28 _ HR_.out (info30 (jbA_size _ _ _ _ _)) rfl (jbA_one _ _ _ _ _) ?_))
      (try simp only [Exit.inBlock, Exit.then])
      refine bodyPost_ret (results_cell2 rfl _ _ (w.heap.size + 1) _ _ _ _ rfl (setRow_heap _ _ _ _ _ _ HR_.out) Tryz.underlying28 rfl (info30 (jbA_size _ _ _ _ _))) rfl ?_
      rw [HQ.out]
      refine retZ_end (y := finD x st) HAT.out HB.out ?_ ?_ ?_ (by omega)
      · rw [HD1.out]
      · rw [HD1.out]
      · exact (Below.setCell (Below.setCell BB2.out (p := ⟨w.heap.size, 11, none⟩) (Nat.le_refl _) (.int .i64 st)) (p := ⟨w.heap.size, 18, none⟩) (Nat.le_refl _) (.int .u64 0))
  · have t1 : (x.state == 1) = false := beq_eq_false_iff_ne.2 h1
    have HD1 : Hid (finD x st = { x with state := st, nodes := 0 }) := by show _ = _; unfold finD; rw [if_neg h1]
    clear h1
    cases t2 : x.state == 2 <;> have t2x := bne_or t2
    · have HQ : Hid (Q = (noJ, 141)) := by show _ = _; rw [← HQ0.out]; exact turnJ_e HK.out (by unfold endM whenE; rw [hz1.out, t1, t2]; rfl) (by decide)
      go_wp2_with (first | (go_at_call 134; refine (q1.out _).mono ?_; rintro e w2 ⟨rfl, rfl⟩) | (refine wpList_store_row rfl 28 _ _ rfl (w.heap.size + 1) _ rfl rfl 28 _ G2.out (by kernel_rfl) rfl (by rw [List.all_toArray]; rfl) ?_))
      (try simp only [Exit.inBlock, Exit.then])
      refine bodyPost_ret (results_cell2 rfl _ _ (w.heap.size + 1) _ _ _ _ rfl (setRow_heap _ _ _ _ _ _ G2.out) Tryz.underlying28 rfl (by kernel_rfl)) rfl ?_
      rw [HQ.out]
      exact retJZ_no (below_row B1.out (by omega) _)
    · have HQ : Hid (Q = (finD x st, 0)) := by show _ = _; rw [← HQ0.out]; exact turnJ_g HK.out (by unfold endM whenE; rw [hz1.out, t1, t2]; rfl)
      have HJ : Hid (((w1.setCell ⟨w.heap.size, 11, none⟩ (.int .i64 st)).setCell ⟨w.heap.size, 18, none⟩ (.int .u64 0)).heap[w.heap.size]? = some (.cells (jbA (finD x st) A c A2 c2) 28 (0, 0))) := by
        show _ = _
        refine Eq.trans ((setCell_blk (k := 18) (a := .int .u64 0) (setCell_blk (k := 11) (a := .int .i64 st) G1.out))) ?_
        rw [HD1.out, ← hcs.out]
        rfl
      have HR_ : Hid (((w1.setCell ⟨w.heap.size, 11, none⟩ (.int .i64 st)).setCell ⟨w.heap.size, 18, none⟩ (.int .u64 0)).heap[w.heap.size + 1]? = _) := ((Below.heap_setCell _ _ _ _ (by simp)).trans ((Below.heap_setCell _ _ _ _ (by simp)).trans G2.out))
      go_wp2_with (first | (go_at_call 134; refine (q1.out _).mono ?_; rintro e w2 ⟨rfl, rfl⟩) | (refine wpList_load_row rfl 28 _ rfl (w.heap.size) rfl 28 _ (0, 0) _ HJ.out Tryz.underlying28 rfl (info30 (jbA_size _ _ _ _ _)) ?_) | (refine wpList_store_row rfl 28 _ _ rfl (w.heap.size + 1) _ rfl rfl 28 _ HR_.out (info30 (jbA_size _ _ _ _ _)) rfl (jbA_one _ _ _ _ _) ?_))
      (try simp only [Exit.inBlock, Exit.then])
      refine bodyPost_ret (results_cell2 rfl _ _ (w.heap.size + 1) _ _ _ _ rfl (setRow_heap _ _ _ _ _ _ HR_.out) Tryz.underlying28 rfl (info30 (jbA_size _ _ _ _ _))) rfl ?_
      rw [HQ.out]
      refine retZ_end (y := finD x st) HAT.out HB.out ?_ ?_ ?_ (by omega)
      · rw [HD1.out]
      · rw [HD1.out]
      · exact (Below.setCell (Below.setCell B1.out (p := ⟨w.heap.size, 11, none⟩) (Nat.le_refl _) (.int .i64 st)) (p := ⟨w.heap.size, 18, none⟩) (Nat.le_refl _) (.int .u64 0))
set_option linter.unusedSimpArgs false in
set_option maxHeartbeats 8000000 in
set_option maxRecDepth 100000 in
theorem rresize_any (x : Jb) (s : Nat) (A A2 : Option Addr) (c c2 B : Nat) (w : World) (hx : JbAt w B x A c A2 c2) (hB : B ≤ w.heap.size) (hz : JbSz x) (hs0 : s < M64) :
    Calls Tryz.prog 64 #[jbV x A c A2 c2, .int .u64 s] w (RetJZ w B (sizeJ x s)) := by
  have hck := Lib.hid (fun v (hv : Below w.heap.size w v) => rcheck14_any x A A2 c c2 B v (hx.below (hv.mono hB)) (Nat.le_trans hB hv.size) hz)
  obtain ⟨Q, HQ0⟩ : ∃ Q, Hid (sizeJ x s = Q) := ⟨_, rfl⟩
  rw [HQ0.out]
  have HAT := Lib.hid hx
  have HB := Lib.hid hB
  have q4 := Lib.hid (fun v => rfew_any s v)
  have hal := Lib.hid (fun v (hv : Below w.heap.size w v) => rallows_any x.shape A c B x.choice ((memL s).length : Nat) v (hx.1.below (hv.mono hB)) (Nat.le_trans hB hv.size) hx.2.2.1 hx.2.2.2.2.1)
  have hli := Lib.hid (fun v => rlist_len s v hs0)
  obtain ⟨z5, hz5⟩ : ∃ q, Hid (allowS x.shape x.choice ((memL s).length : Nat) = q) := ⟨_, rfl⟩
  rw [hz5.out] at hal
  obtain ⟨cn, hcn⟩ : ∃ n : Nat, (memL s).length = n := ⟨_, rfl⟩
  rw [hcn] at hal hli
  obtain ⟨z4, hz4⟩ : ∃ q, Hid (fewS s = q) := ⟨_, rfl⟩
  rw [hz4.out] at q4
  clear hcn hs0
  unfold shV at hal
  clear hx hB hz
  rw [jbV_is] at hck ⊢
  have e4 : (jbA x A c A2 c2)[4]? = some (.int .i64 x.shape.kind) := rfl
  have e5 : (jbA x A c A2 c2)[5]? = some (.slice A x.shape.alts.length c) := rfl
  have e6 : (jbA x A c A2 c2)[6]? = some (.int .i64 x.shape.mn) := rfl
  have e7 : (jbA x A c A2 c2)[7]? = some (.int .i64 x.shape.mx) := rfl
  have e8 : (jbA x A c A2 c2)[8]? = some (.int .i64 x.shape.wall) := rfl
  have e11 : (jbA x A c A2 c2)[11]? = some (.int .i64 x.state) := rfl
  have e15 : (jbA x A c A2 c2)[15]? = some (.int .i64 x.choice) := rfl
  have e18 : (jbA x A c A2 c2)[18]? = some (.int .u64 x.nodes) := rfl
  have HS := Lib.hid (jbA_size x A c A2 c2)
  have H1 := Lib.hid (jbA_one x A c A2 c2)
  obtain ⟨cs, hcs⟩ : ∃ cs, Hid (jbA x A c A2 c2 = cs) := ⟨_, rfl⟩
  rw [hcs.out] at HS H1 e4 e5 e6 e7 e8 e11 e15 e18 hck ⊢
  obtain ⟨n, HN⟩ : ∃ n, Hid (x.shape.alts.length = n) := ⟨_, rfl⟩
  rw [HN.out] at e5
  obtain ⟨u, HU⟩ : ∃ u : Int, Hid ((x.nodes : Int) = u) := ⟨_, rfl⟩
  rw [HU.out] at e18
  rw [HN.out] at hal
  cases hk : okJ x
  case false =>
    rw [jobE_f hk] at hck
    have HK := Lib.hid hk
    clear hk
    go_enter Tryz.func64, Tryz.ntmps64
    go_wp2_with (refine wpList_load_row rfl 28 _ rfl (w.heap.size) rfl 28 _ (0, 0) _ (three_two w _ _).1 Tryz.underlying28 rfl (info30 HS.out) ?_)
    refine (hck.out _ (((Below.refl _ _).alloc (Nat.le_refl _) _).alloc (by simp) _)).mono ?_; rintro e w1 ⟨rfl, b1⟩
    obtain ⟨g1, g2, s1⟩ := two_block b1
    have B1 := Lib.hid (two_below b1)
    have G1 := Lib.hid g1
    have G2 := Lib.hid g2
    clear b1 g1 g2
    have HQ : Hid (Q = (noJ, 140)) := by show _ = _; rw [← HQ0.out]; exact turnJ_f HK.out
    go_wp2_with (first | (refine wpList_store_row rfl 28 _ _ rfl (w.heap.size + 1) _ rfl rfl 28 _ G2.out (by kernel_rfl) rfl (by rw [List.all_toArray]; rfl) ?_))
    (try simp only [Exit.inBlock, Exit.then])
    refine bodyPost_ret (results_cell2 rfl _ _ (w.heap.size + 1) _ _ _ _ rfl (setRow_heap _ _ _ _ _ _ G2.out) Tryz.underlying28 rfl (by kernel_rfl)) rfl ?_
    rw [HQ.out]
    exact retJZ_no (below_row B1.out (by omega) _)
  rw [jobE_t hk] at hck
  have HK := Lib.hid hk
  clear hk
  go_enter Tryz.func64, Tryz.ntmps64
  go_wp2_with (refine wpList_load_row rfl 28 _ rfl (w.heap.size) rfl 28 _ (0, 0) _ (three_two w _ _).1 Tryz.underlying28 rfl (info30 HS.out) ?_)
  refine (hck.out _ (((Below.refl _ _).alloc (Nat.le_refl _) _).alloc (by simp) _)).mono ?_; rintro e w1 ⟨rfl, b1⟩
  obtain ⟨g1, g2, s1⟩ := two_block b1
  have B1 := Lib.hid (two_below b1)
  have x4 : w1.cell? ⟨w.heap.size, 4, none⟩ = some (.int .i64 x.shape.kind) := (cell_of_row w1 _ 4 _ _ _ g1).trans e4
  have x5 : w1.cell? ⟨w.heap.size, 5, none⟩ = some (.slice A n c) := (cell_of_row w1 _ 5 _ _ _ g1).trans e5
  have x6 : w1.cell? ⟨w.heap.size, 6, none⟩ = some (.int .i64 x.shape.mn) := (cell_of_row w1 _ 6 _ _ _ g1).trans e6
  have x7 : w1.cell? ⟨w.heap.size, 7, none⟩ = some (.int .i64 x.shape.mx) := (cell_of_row w1 _ 7 _ _ _ g1).trans e7
  have x8 : w1.cell? ⟨w.heap.size, 8, none⟩ = some (.int .i64 x.shape.wall) := (cell_of_row w1 _ 8 _ _ _ g1).trans e8
  have x11 : w1.cell? ⟨w.heap.size, 11, none⟩ = some (.int .i64 x.state) := (cell_of_row w1 _ 11 _ _ _ g1).trans e11
  have x15 : w1.cell? ⟨w.heap.size, 15, none⟩ = some (.int .i64 x.choice) := (cell_of_row w1 _ 15 _ _ _ g1).trans e15
  have x18 : w1.cell? ⟨w.heap.size, 18, none⟩ = some (.int .u64 u) := (cell_of_row w1 _ 18 _ _ _ g1).trans e18
  have hf1 : ∀ j, w1.frozen? ⟨w.heap.size, j, none⟩ = false := fun j => by simp [World.frozen?, g1]
  have G1 := Lib.hid g1
  have G2 := Lib.hid g2
  clear b1 g1 g2
  have s0 : w.heap.size < w1.heap.size := by omega
  by_cases h1 : x.state = 2
  case neg =>
    have t1x : (x.state != 2) = true := by simpa using h1
    have HQ : Hid (Q = (noJ, 141)) := by show _ = _; rw [← HQ0.out]; exact turnJ_e HK.out (by unfold sizeM; rw [if_neg h1]) (by decide)
    go_wp2_with (first | (refine wpList_store_row rfl 28 _ _ rfl (w.heap.size + 1) _ rfl rfl 28 _ G2.out (by kernel_rfl) rfl (by rw [List.all_toArray]; rfl) ?_))
    (try simp only [Exit.inBlock, Exit.then])
    refine bodyPost_ret (results_cell2 rfl _ _ (w.heap.size + 1) _ _ _ _ rfl (setRow_heap _ _ _ _ _ _ G2.out) Tryz.underlying28 rfl (by kernel_rfl)) rfl ?_
    rw [HQ.out]
    exact retJZ_no (below_row B1.out (by omega) _)
  have t1x : (x.state != 2) = false := by simp [h1]
  go_upto_region 5 with (fail)
  cases z4
  case false =>
    refine wp_region_later (by kernel_rfl) (by kernel_rfl) ?_
    have hl_ := later_cell (w1)
    repeat (first | go_big_quiet_step (((go_at_call 131; exact later_same (q4.out _)))) | quiet_step (((go_at_call 131; exact later_same (q4.out _)))))
    refine wpQuiet_nil ?_
    intro w9 hx_
    obtain ⟨⟨w_, hb9⟩, e_⟩ := hx_
    have e2_ : w9 = w_ := e_
    clear e_
    subst e2_
    clear hl_
    have J2 := Lib.hid ((hb9.block _ s1).trans G2.out)
    have B9 := Lib.hid (bt B1.out hb9)
    clear hb9
    have HQ : Hid (Q = (noJ, 152)) := by show _ = _; rw [← HQ0.out]; exact turnJ_e HK.out (by unfold sizeM; rw [if_pos h1, hz4.out]; rfl) (by decide)
    go_wp2_with (first | (refine wpList_store_row rfl 28 _ _ rfl (w.heap.size + 1) _ rfl rfl 28 _ J2.out (by kernel_rfl) rfl (by rw [List.all_toArray]; rfl) ?_))
    (try simp only [Exit.inBlock, Exit.then])
    refine bodyPost_ret (results_cell2 rfl _ _ (w.heap.size + 1) _ _ _ _ rfl (setRow_heap _ _ _ _ _ _ J2.out) Tryz.underlying28 rfl (by kernel_rfl)) rfl ?_
    rw [HQ.out]
    exact retJZ_no (below_row B9.out (by omega) _)
  refine wp_region_held_drew (S := (fun w' => (∀ b o, b < w1.heap.size → w'.cell? ⟨b, o, none⟩ = w1.cell? ⟨b, o, none⟩) ∧ Below w1.heap.size w1 w')) (by kernel_rfl) ?_ (fun hHeld => ?_)
  · (try dsimp only); (first | assumption | exact hk_drew | exact hk_call (by assumption) (by assumption) | exact hk_mk (by assumption) | (refine hk_alloc (by assumption) _) | (refine hk_row (by assumption) (by first | exact Nat.le_refl _ | exact hk_size (by assumption) | omega | (simp; done) | (simp; omega)) _) | (refine hk_set (by assumption) (by first | exact Nat.le_refl _ | exact hk_size (by assumption) | omega | (simp; done) | (simp; omega)) _))
  refine wpAnyH_take (i := 0) (oi := ⟨_, _, _, _, _, _⟩) (v := ?v_1) rfl (by kernel_rfl) (by kernel_rfl) (by kernel_rfl) (fun _ _ _ h => h) (Or.inl ⟨by rfl, ?hy_1⟩) (by assumption) ?r_1
  case hy_1 => (intro w_ hS_; (try dsimp only at hS_); go_simp; try with_reducible rfl)
  try simp only [Act.put, List.setIfInBounds_toArray, List.set_cons_zero, List.set_cons_succ]
  refine wpAnyH_ready (rs := [1]) (by kernel_rfl) (by simp) ?_
  refine AllReadyH.cons (o := ⟨_, _, _, _, _, _⟩) rfl (fun K hK => ?_) AllReadyH.nil
  go_simp
  (first | (go_at_call 131; refine (q4.out _).mono ?_; rintro e w5 ⟨rfl, rfl⟩) | (go_at_call 132; refine (hli.out _).mono ?_; rintro e w6 ⟨A3, c3, rfl, hb6⟩) | (go_at_call 133; refine (hal.out _ (bt B1.out (And.right (by assumption)))).mono ?_; rintro e w7 ⟨rfl, hb7⟩))
  try go_wp2_with (fail)
  refine hK.out _ _ ?_ (fun hHeld => ?_)
  · (try dsimp only); (first | exact hk_call (by assumption) (by assumption) | assumption | exact hk_mk (by assumption))
  clear hK K
  try simp only [Act.put, List.setIfInBounds_toArray, List.set_cons_zero, List.set_cons_succ]
  refine wpAnyH_take (i := 2) (oi := ⟨_, _, _, _, _, _⟩) (v := ?v_2) rfl (by kernel_rfl) (by kernel_rfl) (by kernel_rfl) (fun _ _ _ h => h) (Or.inl ⟨by rfl, ?hy_2⟩) (by assumption) ?r_2
  case hy_2 => (intro w_ hS_; (try dsimp only at hS_); go_simp; try with_reducible rfl)
  try simp only [Act.put, List.setIfInBounds_toArray, List.set_cons_zero, List.set_cons_succ]
  refine wpAnyH_take (i := 3) (oi := ⟨_, _, _, _, _, _⟩) (v := ?v_3) rfl (by kernel_rfl) (by kernel_rfl) (by kernel_rfl) (fun _ _ _ h => h) (Or.inl ⟨by rfl, ?hy_3⟩) (by assumption) ?r_3
  case hy_3 => (intro w_ hS_; (try dsimp only at hS_); go_simp; try with_reducible rfl)
  try simp only [Act.put, List.setIfInBounds_toArray, List.set_cons_zero, List.set_cons_succ]
  refine wpAnyH_take (i := 4) (oi := ⟨_, _, _, _, _, _⟩) (v := ?v_4) rfl (by kernel_rfl) (by kernel_rfl) (by kernel_rfl) (fun _ _ _ h => h) (Or.inl ⟨by rfl, ?hy_4⟩) (by assumption) ?r_4
  case hy_4 => (intro w_ hS_; (try dsimp only at hS_); go_simp; try with_reducible rfl)
  try simp only [Act.put, List.setIfInBounds_toArray, List.set_cons_zero, List.set_cons_succ]
  refine wpAnyH_take (i := 5) (oi := ⟨_, _, _, _, _, _⟩) (v := ?v_5) rfl (by kernel_rfl) (by kernel_rfl) (by kernel_rfl) (fun _ _ _ h => h) (Or.inl ⟨by rfl, ?hy_5⟩) (by assumption) ?r_5
  case hy_5 => (intro w_ hS_; (try dsimp only at hS_); go_simp; try with_reducible rfl)
  try simp only [Act.put, List.setIfInBounds_toArray, List.set_cons_zero, List.set_cons_succ]
  refine wpAnyH_take (i := 6) (oi := ⟨_, _, _, _, _, _⟩) (v := ?v_6) rfl (by kernel_rfl) (by kernel_rfl) (by kernel_rfl) (fun _ _ _ h => h) (Or.inl ⟨by rfl, ?hy_6⟩) (by assumption) ?r_6
  case hy_6 => (intro w_ hS_; (try dsimp only at hS_); go_simp; try with_reducible rfl)
  try simp only [Act.put, List.setIfInBounds_toArray, List.set_cons_zero, List.set_cons_succ]
  refine wpAnyH_take (i := 7) (oi := ⟨_, _, _, _, _, _⟩) (v := ?v_7) rfl (by kernel_rfl) (by kernel_rfl) (by kernel_rfl) (fun _ _ _ h => h) (Or.inl ⟨by rfl, ?hy_7⟩) (by assumption) ?r_7
  case hy_7 => (intro w_ hS_; (try dsimp only at hS_); go_simp; try with_reducible rfl)
  try simp only [Act.put, List.setIfInBounds_toArray, List.set_cons_zero, List.set_cons_succ]
  refine wpAnyH_take (i := 8) (oi := ⟨_, _, _, _, _, _⟩) (v := ?v_8) rfl (by kernel_rfl) (by kernel_rfl) (by kernel_rfl) (fun _ _ _ h => h) (Or.inl ⟨by rfl, ?hy_8⟩) (by assumption) ?r_8
  case hy_8 => (intro w_ hS_; (try dsimp only at hS_); go_simp; try with_reducible rfl)
  try simp only [Act.put, List.setIfInBounds_toArray, List.set_cons_zero, List.set_cons_succ]
  refine wpAnyH_ready (rs := [9]) (by kernel_rfl) (by simp) ?_
  refine AllReadyH.cons (o := ⟨_, _, _, _, _, _⟩) rfl (fun K hK => ?_) AllReadyH.nil
  go_simp
  (first | (go_at_call 131; refine (q4.out _).mono ?_; rintro e w5 ⟨rfl, rfl⟩) | (go_at_call 132; refine (hli.out _).mono ?_; rintro e w6 ⟨A3, c3, rfl, hb6⟩) | (go_at_call 133; refine (hal.out _ (bt B1.out (And.right (by assumption)))).mono ?_; rintro e w7 ⟨rfl, hb7⟩))
  try go_wp2_with (fail)
  refine hK.out _ _ ?_ (fun hHeld => ?_)
  · (try dsimp only); (first | exact hk_call (by assumption) (by assumption) | assumption | exact hk_mk (by assumption))
  clear hK K
  try simp only [Act.put, List.setIfInBounds_toArray, List.set_cons_zero, List.set_cons_succ]
  refine wpAnyH_take (i := 10) (oi := ⟨_, _, _, _, _, _⟩) (v := ?v_9) rfl (by kernel_rfl) (by kernel_rfl) (by kernel_rfl) (fun _ _ _ h => h) (Or.inl ⟨by rfl, ?hy_9⟩) (by assumption) ?r_9
  case hy_9 => (intro w_ hS_; (try dsimp only at hS_); go_simp; try with_reducible rfl)
  try simp only [Act.put, List.setIfInBounds_toArray, List.set_cons_zero, List.set_cons_succ]
  refine wpAnyH_ready (rs := [11]) (by kernel_rfl) (by simp) ?_
  refine AllReadyH.cons (o := ⟨_, _, _, _, _, _⟩) rfl (fun K hK => ?_) AllReadyH.nil
  go_simp
  (first | (go_at_call 131; refine (q4.out _).mono ?_; rintro e w5 ⟨rfl, rfl⟩) | (go_at_call 132; refine (hli.out _).mono ?_; rintro e w6 ⟨A3, c3, rfl, hb6⟩) | (go_at_call 133; refine (hal.out _ (bt B1.out (And.right (by assumption)))).mono ?_; rintro e w7 ⟨rfl, hb7⟩))
  try go_wp2_with (fail)
  refine hK.out _ _ ?_ (fun hHeld => ?_)
  · (try dsimp only); (first | exact hk_call (by assumption) (by assumption) | assumption | exact hk_mk (by assumption))
  clear hK K
  try simp only [Act.put, List.setIfInBounds_toArray, List.set_cons_zero, List.set_cons_succ]
  refine wpAnyH_take (i := 12) (oi := ⟨_, _, _, _, _, _⟩) (v := ?v_10) rfl (by kernel_rfl) (by kernel_rfl) (by kernel_rfl) (fun _ _ _ h => h) (Or.inl ⟨by rfl, ?hy_10⟩) (by assumption) ?r_10
  case hy_10 => (intro w_ hS_; (try dsimp only at hS_); go_simp; try with_reducible rfl)
  try simp only [Act.put, List.setIfInBounds_toArray, List.set_cons_zero, List.set_cons_succ]
  refine wpAnyH_take (i := 13) (oi := ⟨_, _, _, _, _, _⟩) (v := ?v_11) rfl (by kernel_rfl) (by kernel_rfl) (by kernel_rfl) (fun _ _ _ h => h) (Or.inl ⟨by rfl, ?hy_11⟩) (by assumption) ?r_11
  case hy_11 => (intro w_ hS_; (try dsimp only at hS_); go_simp; try with_reducible rfl)
  try simp only [Act.put, List.setIfInBounds_toArray, List.set_cons_zero, List.set_cons_succ]
  refine wpAnyH_done (by kernel_rfl) ?_ _
  (have hb9 := hHeld.2; iterate 8 (try clear hHeld))
  have j1 := (hb9.block _ s0).trans G1.out
  have J1 := Lib.hid j1
  have J2 := Lib.hid ((hb9.block _ s1).trans G2.out)
  have B9 := Lib.hid (bt B1.out hb9)
  have s9 : w.heap.size + 1 < w7.heap.size := by have := hb9.size; omega
  have hf7 : ∀ j, w7.frozen? ⟨w.heap.size, j, none⟩ = false := fun j => by simp [World.frozen?, j1]
  have z18 : w7.cell? ⟨w.heap.size, 18, none⟩ = some (.int .u64 u) := (cell_of_row w7 _ 18 _ _ _ j1).trans e18
  clear j1 hb9 hf1 x4 x5 x6 x7 x8 x11 x15 x18
  cases z5
  case false =>
    have HQ : Hid (Q = (noJ, 152)) := by show _ = _; rw [← HQ0.out]; exact turnJ_e HK.out (by unfold sizeM; rw [if_pos h1, hz4.out, hz5.out]; rfl) (by decide)
    go_wp2_with (first | (refine wpList_store_row rfl 28 _ _ rfl (w.heap.size + 1) _ rfl rfl 28 _ J2.out (by kernel_rfl) rfl (by rw [List.all_toArray]; rfl) ?_))
    (try simp only [Exit.inBlock, Exit.then])
    refine bodyPost_ret (results_cell2 rfl _ _ (w.heap.size + 1) _ _ _ _ rfl (setRow_heap _ _ _ _ _ _ J2.out) Tryz.underlying28 rfl (by kernel_rfl)) rfl ?_
    rw [HQ.out]
    exact retJZ_no (below_row B9.out (by omega) _)
  have HQ : Hid (Q = (sizedD x s, 0)) := by show _ = _; rw [← HQ0.out]; exact turnJ_g HK.out (by unfold sizeM; rw [if_pos h1, hz4.out, hz5.out]; rfl)
  have HJ : Hid ((w7.setCell ⟨w.heap.size, 18, none⟩ (.int .u64 s)).heap[w.heap.size]? = some (.cells (jbA (sizedD x s) A c A2 c2) 28 (0, 0))) := by
    show _ = _
    refine Eq.trans ((setCell_blk (k := 18) (a := .int .u64 s) J1.out)) ?_
    rw [← hcs.out]
    rfl
  have HR_ : Hid ((w7.setCell ⟨w.heap.size, 18, none⟩ (.int .u64 s)).heap[w.heap.size + 1]? = _) := ((Below.heap_setCell _ _ _ _ (by simp)).trans J2.out)
  go_wp2_with (first | (refine wpList_load_row rfl 28 _ rfl (w.heap.size) rfl 28 _ (0, 0) _ HJ.out Tryz.underlying28 rfl (info30 (jbA_size _ _ _ _ _)) ?_) | (refine wpList_store_row rfl 28 _ _ rfl (w.heap.size + 1) _ rfl rfl 28 _ HR_.out (info30 (jbA_size _ _ _ _ _)) rfl (jbA_one _ _ _ _ _) ?_))
  (try simp only [Exit.inBlock, Exit.then])
  refine bodyPost_ret (results_cell2 rfl _ _ (w.heap.size + 1) _ _ _ _ rfl (setRow_heap _ _ _ _ _ _ HR_.out) Tryz.underlying28 rfl (info30 (jbA_size _ _ _ _ _))) rfl ?_
  rw [HQ.out]
  refine retZ_end (y := sizedD x s) HAT.out HB.out ?_ ?_ ?_ (by omega)
  · rfl
  · rfl
  · exact (Below.setCell B9.out (p := ⟨w.heap.size, 18, none⟩) (Nat.le_refl _) (.int .u64 s))
end Go.Proofs.YtghmcdfmbjabnaaGreatDoor
