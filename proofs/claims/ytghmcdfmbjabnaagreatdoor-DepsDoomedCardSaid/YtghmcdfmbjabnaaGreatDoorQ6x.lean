/- Layer 14: turn walked: a job is changed, if something is so of it (printed by a program of my own). Layer 14: what acts do to a job in a block, walked (printed by a program of my own). -/
import Derived.Test.YtghmcdfmbjabnaaGreatDoorQ6t
import Derived.Test.YtghmcdfmbjabnaaGreatDoorQ4t
import Derived.Test.YtghmcdfmbjabnaaGreatDoorQ4x
import Derived.Test.YtghmcdfmbjabnaaGreatDoorQ5t
import Derived.BigRegion
namespace Go.Proofs.YtghmcdfmbjabnaaGreatDoor
set_option linter.unusedVariables false
open Go.RowKit
/-- a block is a job -/
def JbBlk (v : World) (p : Nat) (x : Jb) (A : Option Addr) (c : Nat) (A2 : Option Addr) (c2 : Nat) : Prop := v.heap[p]? = some (.cells (jbA x A c A2 c2) 28 (0, 0))
theorem Kp.of_grown {N : Nat} {row : Option Nat} {a b : World} (h : a.grownBy b row) (hN : N ≤ a.heap.size) : Kp N row a b := ⟨h.os, h.tape, h.output, h.size, fun i hi hr => h.block i (Nat.lt_of_lt_of_le hi hN) hr⟩
theorem grown_of_below {v v' : World} {row : Option Nat} (h : Below v.heap.size v v') : v.grownBy v' row := ⟨h.os, h.tape, h.output, h.size, fun k hk _ => h.block k hk⟩
/-- what is asked of the function that asks: it tells m, and writes one row at most (P says what of that) -/
def MayB (g : Nat) (lb : Array Value) (x : Jb) (A : Option Addr) (c : Nat) (A2 : Option Addr) (c2 : Nat) (m : Int) (row : Option Nat) (w : World) (P : World → Prop) : Prop :=
  ∀ v, Below w.heap.size w v → Calls Tryz.prog g (#[jbV x A c A2 c2] ++ lb) v fun e v' => e = .returned (.int .i64 m) ∧ v.grownBy v' row ∧ P v'
/-- what the function that does leaves: the job y in the block -/
def DoP (v : World) (p lo : Nat) (y : Jb) (e : Ending) (v' : World) : Prop :=
  e = .returned (.tuple #[]) ∧ Below p v v' ∧ (∀ k, p < k → k < v.heap.size → v'.heap[k]? = v.heap[k]?) ∧ ∃ A c A2 c2, JbBlk v' p y A c A2 c2 ∧ JbAt v' v'.heap.size y A c A2 c2 ∧ JbOff lo y A A2
/-- what is asked of the function that does: it turns the job x in a block to y -/
def DoB (g : Nat) (lb : Array Value) (x y : Jb) (N : Nat) (P : World → Prop) : Prop :=
  ∀ (v : World) (p lo : Nat) (A A2 : Option Addr) (c c2 : Nat), N ≤ p → p < lo → lo ≤ v.heap.size → P v → JbBlk v p x A c A2 c2 → JbAt v v.heap.size x A c A2 c2 → JbOff lo x A A2 →
    Calls Tryz.prog g (#[.pointer (some ⟨p, 0, none⟩)] ++ lb) v (DoP v p lo y)
/-- a call hands back a job in new memory, and an error -/
def RetJE (row : Option Nat) (w : World) (q : Jb × Int) (e : Ending) (w' : World) : Prop :=
  ∃ A c A2 c2, e = .returned (.tuple #[jbV q.1 A c A2 c2, .int .i64 q.2]) ∧ JbAt w' w'.heap.size q.1 A c A2 c2 ∧ JbOff w.heap.size q.1 A A2 ∧ Kp w.heap.size row w w'
theorem retJE_no {row : Option Nat} {w w' : World} {er : Int} (hb : Kp w.heap.size row w w') : RetJE row w (noJ, er) (.returned (.tuple #[.agg #[.int .i64 0, .string ⟨#[]⟩, .string ⟨#[]⟩, .string ⟨#[]⟩, .int .i64 0, .slice none 0 0, .int .i64 0, .int .i64 0, .int .i64 0, .int .i64 0, .slice none 0 0, .int .i64 0, .bool false, .int .i64 0, .int .i64 0, .int .i64 0, .int .i64 0, .int .i64 0, .int .u64 0, .int .i64 0], .int .i64 er])) w' :=
  ⟨none, 0, none, 0, rfl, (noJ_at _ _ w.heap.size).1, (noJ_at w' 0 _).2, hb⟩
theorem kp_row {N : Nat} {row : Option Nat} {w : World} {b : Nat} (hb : N ≤ b) (cs : Array Value) : Kp N row w (w.setRow b cs) := Kp.of_below (below_row (Below.refl _ _) hb cs)
set_option linter.unusedSimpArgs false in
set_option maxHeartbeats 4000000 in
set_option maxRecDepth 100000 in
theorem turn_bad (x y : Jb) (er : Int) (A A2 : Option Addr) (c c2 B : Nat) (row : Option Nat) (fm fd : Value) (w : World) (hx : JbAt w B x A c A2 c2) (hB : B ≤ w.heap.size) (hz : JbSz x) (hk : okJ x = false) :
    Calls Tryz.prog 96 #[jbV x A c A2 c2, fm, fd] w (RetJE row w (turnJ x er y)) := by
  have hck := Lib.hid (fun v (hv : Below w.heap.size w v) => jcheck_any x A A2 c c2 B v (hx.below (hv.mono hB)) (Nat.le_trans hB hv.size) hz)
  rw [jobE_f hk] at hck
  have HT : turnJ x er y = (noJ, 140) := by unfold turnJ; rw [if_neg (by rw [hk]; decide)]
  rw [HT]
  clear hx hB hz hk HT
  rw [jbV_is] at hck ⊢
  have HS := Lib.hid (jbA_size x A c A2 c2)
  have H1 := Lib.hid (jbA_one x A c A2 c2)
  obtain ⟨cs, hcs⟩ : ∃ cs, Hid (jbA x A c A2 c2 = cs) := ⟨_, rfl⟩
  rw [hcs.out] at HS H1 hck ⊢
  go_enter Tryz.func96, Tryz.ntmps96
  go_wp2_with (refine wpList_load_row rfl 28 _ rfl (w.heap.size) rfl 28 _ (0, 0) _ (three_two w _ _).1 Tryz.underlying28 rfl (info30 HS.out) ?_)
  refine (hck.out _ (((Below.refl _ _).alloc (Nat.le_refl _) _).alloc (by simp) _)).mono ?_; rintro e w1 ⟨rfl, b1⟩
  obtain ⟨g1, g2, s1⟩ := two_block b1
  have B1 := Lib.hid (two_below b1)
  have G2 := Lib.hid g2
  clear b1 g1 g2
  go_wp2_with (refine wpList_store_row rfl 28 _ _ rfl (w.heap.size + 1) _ rfl rfl 28 _ G2.out (by kernel_rfl) rfl (by rw [List.all_toArray]; rfl) ?_)
  (try simp only [Exit.inBlock, Exit.then])
  refine bodyPost_ret (results_cell2 rfl _ _ (w.heap.size + 1) _ _ _ _ rfl (setRow_heap _ _ _ _ _ _ G2.out) Tryz.underlying28 rfl (by kernel_rfl)) rfl ?_
  exact retJE_no (Kp.of_below (below_row B1.out (by omega) _))
set_option linter.unusedSimpArgs false in
set_option maxHeartbeats 4000000 in
set_option maxRecDepth 100000 in
theorem turn_may (x y : Jb) (er : Int) (A A2 : Option Addr) (c c2 B : Nat) (w : World) (g : Nat) (lb : Array Value) (eg : ∀ args w, (callFunc g args).run Tryz.prog w = .ok (.enter g args) w) (P : World → Prop) (row : Option Nat) (hrow : ∀ k, row = some k → B ≤ k ∧ k < w.heap.size) (fd : Value) (hx : JbAt w B x A c A2 c2) (hB : B ≤ w.heap.size) (hz : JbSz x) (hk : okJ x = true)
    (hm : MayB g lb x A c A2 c2 er row w P) (h0 : (er == 0) = false) :
    Calls Tryz.prog 96 #[jbV x A c A2 c2, .func (.func g) #[] lb, fd] w (RetJE row w (turnJ x er y)) := by
  have hck := Lib.hid (fun v (hv : Below w.heap.size w v) => jcheck_any x A A2 c c2 B v (hx.below (hv.mono hB)) (Nat.le_trans hB hv.size) hz)
  rw [jobE_t hk] at hck
  have HT : turnJ x er y = (noJ, er) := by unfold turnJ; rw [if_pos hk, if_neg (by simpa using h0)]
  rw [HT]
  have h1 : (er != 0) = true := by show (!(er == 0)) = true; rw [h0]; rfl
  have HMY := Lib.hid hm
  have HBW := Lib.hid hB
  have HROW := Lib.hid hrow
  unfold MayB at HMY
  clear hx hB hz hk HT hm hrow
  rw [jbV_is] at hck HMY ⊢
  have HS := Lib.hid (jbA_size x A c A2 c2)
  have H1 := Lib.hid (jbA_one x A c A2 c2)
  obtain ⟨cs, hcs⟩ : ∃ cs, Hid (jbA x A c A2 c2 = cs) := ⟨_, rfl⟩
  rw [hcs.out] at HS H1 hck HMY ⊢
  go_enter Tryz.func96, Tryz.ntmps96
  go_wp2_with (refine wpList_load_row rfl 28 _ rfl (w.heap.size) rfl 28 _ (0, 0) _ (three_two w _ _).1 Tryz.underlying28 rfl (info30 HS.out) ?_)
  refine (hck.out _ (((Below.refl _ _).alloc (Nat.le_refl _) _).alloc (by simp) _)).mono ?_; rintro e w1 ⟨rfl, b1⟩
  obtain ⟨g1, g2, s1⟩ := two_block b1
  have B1 := Lib.hid (two_below b1)
  have G1 := Lib.hid g1
  have G2 := Lib.hid g2
  clear b1 g1 g2
  go_wp2_with (first
    | (refine wpList_load_row rfl 28 _ rfl (w.heap.size) rfl 28 _ (0, 0) _ G1.out Tryz.underlying28 rfl (info30 HS.out) ?_)
    | (go_at_fn g; refine (HMY.out _ B1.out).mono ?_; rintro e w2 ⟨rfl, b2, hP⟩
       have k2 := (b2.block _ s1 (fun e => by have := (HROW.out _ e.symm).2; omega)).trans G2.out
       have KP2 := Lib.hid ((Kp.of_below B1.out : Kp w.heap.size row w w1).trans (Kp.of_grown b2 (by omega)))
       have K2 := Lib.hid k2
       clear b2 k2 hP)
    | (refine wpList_store_row rfl 28 _ _ rfl (w.heap.size + 1) _ rfl rfl 28 _ K2.out (by kernel_rfl) rfl (by rw [List.all_toArray]; rfl) ?_))
  (try simp only [Exit.inBlock, Exit.then])
  refine bodyPost_ret (results_cell2 rfl _ _ (w.heap.size + 1) _ _ _ _ rfl (setRow_heap _ _ _ _ _ _ K2.out) Tryz.underlying28 rfl (by kernel_rfl)) rfl ?_
  exact retJE_no (KP2.out.trans (kp_row (by omega) _))
set_option linter.unusedSimpArgs false in
set_option maxHeartbeats 4000000 in
set_option maxRecDepth 100000 in
theorem turn_do (x y : Jb) (A A2 : Option Addr) (c c2 B : Nat) (w : World) (g : Nat) (lb : Array Value) (eg : ∀ args w, (callFunc g args).run Tryz.prog w = .ok (.enter g args) w) (P : World → Prop) (row : Option Nat) (hrow : ∀ k, row = some k → B ≤ k ∧ k < w.heap.size) (g2 : Nat) (lb2 : Array Value) (eg2 : ∀ args w, (callFunc g2 args).run Tryz.prog w = .ok (.enter g2 args) w) (hx : JbAt w B x A c A2 c2) (hB : B ≤ w.heap.size) (hz : JbSz x) (hk : okJ x = true)
    (hm : MayB g lb x A c A2 c2 0 row w P) (hd : DoB g2 lb2 x y w.heap.size P) (hP : ∀ v v', P v → (∀ k, k < w.heap.size → v'.heap[k]? = v.heap[k]?) → P v') :
    Calls Tryz.prog 96 #[jbV x A c A2 c2, .func (.func g) #[] lb, .func (.func g2) #[] lb2] w (RetJE row w (turnJ x 0 y)) := by
  have hck := Lib.hid (fun v (hv : Below w.heap.size w v) => jcheck_any x A A2 c c2 B v (hx.below (hv.mono hB)) (Nat.le_trans hB hv.size) hz)
  rw [jobE_t hk] at hck
  have HT : turnJ x 0 y = (y, 0) := by unfold turnJ; rw [if_pos hk, if_pos rfl]
  rw [HT]
  have HMY := Lib.hid hm
  have HDO := Lib.hid hd
  have HBW := Lib.hid hB
  have HROW := Lib.hid hrow
  have HPK := Lib.hid hP
  have hcp := Lib.hid (fun v (hv : Below B w v) (hs : B ≤ v.heap.size) => copied_any x A A2 c c2 B v (hx.below hv) hs)
  unfold MayB at HMY
  clear hx hB hz hk HT hm hd hP hrow
  unfold RetJb at hcp
  unfold DoB at HDO
  have hcp2 := hcp
  clear hcp
  rw [jbV_is] at hck HMY ⊢
  have HCP : Hid (∀ v, Below B w v → B ≤ v.heap.size → Calls Tryz.prog 92 #[.agg (jbA x A c A2 c2)] v fun e w' => ∃ A3 c3 A4 c4, e = .returned (.agg (jbA x A3 c3 A4 c4)) ∧ JbAt w' w'.heap.size x A3 c3 A4 c4 ∧ JbOff v.heap.size x A3 A4 ∧ Below v.heap.size v w') := hcp2
  clear hcp2
  have HS := Lib.hid (jbA_size x A c A2 c2)
  have H1 := Lib.hid (jbA_one x A c A2 c2)
  obtain ⟨cs, hcs⟩ : ∃ cs, Hid (jbA x A c A2 c2 = cs) := ⟨_, rfl⟩
  rw [hcs.out] at HS H1 HCP hck HMY ⊢
  go_enter Tryz.func96, Tryz.ntmps96
  go_wp2_with (refine wpList_load_row rfl 28 _ rfl (w.heap.size) rfl 28 _ (0, 0) _ (three_two w _ _).1 Tryz.underlying28 rfl (info30 HS.out) ?_)
  refine (hck.out _ (((Below.refl _ _).alloc (Nat.le_refl _) _).alloc (by simp) _)).mono ?_; rintro e w1 ⟨rfl, b1⟩
  obtain ⟨q1, q2, s1⟩ := two_block b1
  have B1 := Lib.hid (two_below b1)
  have Q1 := Lib.hid q1
  have Q2 := Lib.hid q2
  clear b1 q1 q2
  go_wp2_with (first
    | (refine wpList_load_row rfl 28 _ rfl (w.heap.size) rfl 28 _ (0, 0) _ Q1.out Tryz.underlying28 rfl (info30 HS.out) ?_)
    | (go_at_fn g; refine (HMY.out _ B1.out).mono ?_; rintro e w2 ⟨rfl, b2, hP2⟩
       have k1 := (b2.block w.heap.size (by omega) (fun e => by have := (HROW.out _ e.symm).2; omega)).trans Q1.out
       have k2 := (b2.block (w.heap.size + 1) s1 (fun e => by have := (HROW.out _ e.symm).2; omega)).trans Q2.out
       have KP2 := Lib.hid ((Kp.of_below B1.out : Kp w.heap.size row w w1).trans (Kp.of_grown b2 (by omega)))
       have B2 := Lib.hid (KP2.out.below HBW.out (fun k h => (HROW.out k h).1))
       have s2 : w.heap.size + 1 < w2.heap.size := (Array.getElem?_eq_some_iff.1 k2).1
       have s2' : B ≤ w2.heap.size := by have := HBW.out; omega
       have P2 := Lib.hid hP2
       have K1 := Lib.hid k1
       have K2 := Lib.hid k2
       clear b2 k1 k2 hP2)
    | (refine wpList_load_row rfl 28 _ rfl (w.heap.size) rfl 28 _ (0, 0) _ K1.out Tryz.underlying28 rfl (info30 HS.out) ?_))
  refine (HCP.out _ B2.out s2').mono ?_; rintro e w3 ⟨A3, c3, A4, c4, rfl, hat3, hoff3, b3⟩
  have j1 := (b3.block _ (by omega)).trans K1.out
  have j2 := (b3.block _ s2).trans K2.out
  have KP3 := Lib.hid (KP2.out.trans (Kp.of_below (b3.mono (by omega))))
  have s3 : w.heap.size + 1 < w3.heap.size := (Array.getElem?_eq_some_iff.1 j2).1
  have P3 := Lib.hid (HPK.out _ w3 P2.out (fun k hk => b3.block k (by omega)))
  have J1 := Lib.hid j1
  have J2 := Lib.hid j2
  have AT3 := Lib.hid hat3
  have OF3 := Lib.hid hoff3
  have hd4 : Hid (Calls Tryz.prog g2 (#[.pointer (some ⟨w.heap.size, 0, none⟩)] ++ lb2) (w3.setRow w.heap.size (jbA x A3 c3 A4 c4)) (DoP (w3.setRow w.heap.size (jbA x A3 c3 A4 c4)) w.heap.size (w.heap.size + 2) y)) := by
    refine HDO.out (w3.setRow w.heap.size (jbA x A3 c3 A4 c4)) w.heap.size (w.heap.size + 2) A3 A4 c3 c4 (Nat.le_refl _) (by omega) (by rw [Go.setRow_size]; omega) ?_ ?_ ?_ ?_
    · exact HPK.out _ _ P3.out (fun k hk => Go.setRow_other _ _ _ _ (by omega))
    · exact setRow_heap _ _ _ _ _ _ J1.out
    · rw [Go.setRow_size]
      exact AT3.out.only (lo := w.heap.size + 2) ⟨OF3.out.1.mono s2, OF3.out.2.mono s2⟩ (by omega) row_only
    · exact ⟨OF3.out.1.mono s2, OF3.out.2.mono s2⟩
  clear b3 j1 j2 hat3 hoff3
  go_wp2_with (first
    | (refine wpList_store_row rfl 28 _ _ rfl (w.heap.size) _ rfl rfl 28 _ J1.out (info30 (jbA_size _ _ _ _ _)) (HS.out.trans (jbA_size _ _ _ _ _).symm) (jbA_one _ _ _ _ _) ?_)
    | (go_at_fn g2; refine hd4.out.mono ?_; rintro e w4 ⟨rfl, b4, hk4, A5, c5, A6, c6, hb4, hat4, hoff4⟩
       have i2 := (hk4 (w.heap.size + 1) (by omega) (by rw [Go.setRow_size]; exact s3)).trans ((Go.setRow_other _ _ _ _ (by omega)).trans J2.out)
       have KP4 := Lib.hid ((KP3.out.trans (kp_row (Nat.le_refl _) _)).trans (Kp.of_below b4))
       have s4 : w.heap.size + 1 < w4.heap.size := (Array.getElem?_eq_some_iff.1 i2).1
       have AT4 := Lib.hid hat4
       have OF4 := Lib.hid hoff4
       have HB4 := Lib.hid hb4
       have I2 := Lib.hid i2
       clear b4 hk4 hb4 hat4 hoff4 i2)
    | (refine wpList_load_row rfl 28 _ rfl (w.heap.size) rfl 28 _ (0, 0) _ HB4.out Tryz.underlying28 rfl (info30 (jbA_size _ _ _ _ _)) ?_)
    | (refine wpList_store_row rfl 28 _ _ rfl (w.heap.size + 1) _ rfl rfl 28 _ I2.out (info30 (jbA_size _ _ _ _ _)) rfl (jbA_one _ _ _ _ _) ?_))
  (try simp only [Exit.inBlock, Exit.then])
  refine bodyPost_ret (results_cell2 rfl _ _ (w.heap.size + 1) _ _ _ _ rfl (setRow_heap _ _ _ _ _ _ I2.out) Tryz.underlying28 rfl (info30 (jbA_size _ _ _ _ _))) rfl ?_
  refine ⟨A5, c5, A6, c6, rfl, ?_, ⟨OF4.out.1.mono (by omega), OF4.out.2.mono (by omega)⟩, KP4.out.trans (kp_row (by omega) _)⟩
  rw [Go.setRow_size]
  exact AT4.out.only OF4.out (by omega) row_only
theorem turn_any (x y : Jb) (er : Int) (A A2 : Option Addr) (c c2 B : Nat) (w : World) (g : Nat) (lb : Array Value) (eg : ∀ args w, (callFunc g args).run Tryz.prog w = .ok (.enter g args) w) (P : World → Prop) (row : Option Nat) (hrow : ∀ k, row = some k → B ≤ k ∧ k < w.heap.size) (g2 : Nat) (lb2 : Array Value) (eg2 : ∀ args w, (callFunc g2 args).run Tryz.prog w = .ok (.enter g2 args) w) (hx : JbAt w B x A c A2 c2) (hB : B ≤ w.heap.size) (hz : JbSz x)
    (hm : okJ x = true → MayB g lb x A c A2 c2 er row w P) (hd : okJ x = true → er = 0 → DoB g2 lb2 x y w.heap.size P) (hP : ∀ v v', P v → (∀ k, k < w.heap.size → v'.heap[k]? = v.heap[k]?) → P v') :
    Calls Tryz.prog 96 #[jbV x A c A2 c2, .func (.func g) #[] lb, .func (.func g2) #[] lb2] w (RetJE row w (turnJ x er y)) := by
  cases hk : okJ x
  · exact turn_bad x y er A A2 c c2 B row _ _ w hx hB hz hk
  · by_cases h0 : er = 0
    · subst h0
      exact turn_do x y A A2 c c2 B w g lb eg P row hrow g2 lb2 eg2 hx hB hz hk (hm hk) (hd hk rfl) hP
    · exact turn_may x y er A A2 c c2 B w g lb eg P row hrow _ hx hB hz hk (hm hk) (by simpa using h0)
theorem do_end {v v' : World} {p lo : Nat} {x y : Jb} {A A2 : Option Addr} {c c2 : Nat} {cs : Array Value} (ho : Only p v v') (hb : v'.heap[p]? = some (.cells cs 28 (0, 0))) (hcs : cs = jbA y A c A2 c2)
    (hs : y.shape = x.shape) (ha : y.after = x.after) (hat : JbAt v v.heap.size x A c A2 c2) (hoff : JbOff lo x A A2) (hp : p < lo) : DoP v p lo y (.returned (.tuple #[])) v' := by
  refine ⟨rfl, ho.below, fun k hk _ => ho.block k (by omega), A, c, A2, c2, ?_, ?_, hoff.as hs ha⟩
  · unfold JbBlk; rw [hb, hcs]
  · have := (hat.only hoff hp ho).as hs ha
    rwa [← ho.size] at this
set_option linter.unusedSimpArgs false in
set_option maxHeartbeats 4000000 in
set_option maxRecDepth 100000 in
theorem end_do (x : Jb) (st : Int) (H : Nat) (N : Nat) (hH : H < N) : DoB 105 #[.pointer (some ⟨H, 0, none⟩)] x (finD x st) N (fun v => v.cell? ⟨H, 0, none⟩ = some (.int .i64 st)) := by
  intro v p lo A A2 c c2 hp hlo hlv hP hb hat hoff
  show Calls Tryz.prog 105 #[.pointer (some ⟨p, 0, none⟩), .pointer (some ⟨H, 0, none⟩)] v (DoP v p lo (finD x st))
  have hb0 := hb
  unfold JbBlk at hb0
  have hf : ∀ j, v.frozen? ⟨p, j, none⟩ = false := fun j => by simp [World.frozen?, hb0]
  have c11 : v.cell? ⟨p, 11, none⟩ = some (.int .i64 x.state) := cell_of_row v _ 11 _ _ _ hb0
  have c12 : v.cell? ⟨p, 12, none⟩ = some (.bool x.held) := cell_of_row v _ 12 _ _ _ hb0
  have c14 : v.cell? ⟨p, 14, none⟩ = some (.int .i64 x.promise) := cell_of_row v _ 14 _ _ _ hb0
  have c15 : v.cell? ⟨p, 15, none⟩ = some (.int .i64 x.choice) := cell_of_row v _ 15 _ _ _ hb0
  have c18 : v.cell? ⟨p, 18, none⟩ = some (.int .u64 x.nodes) := cell_of_row v _ 18 _ _ _ hb0
  have nH : ¬ p = H := by omega
  have mH : ¬ H = p := by omega
  have HB := Lib.hid hb
  have HAT := Lib.hid hat
  have HOF := Lib.hid hoff
  clear hb hb0 hat hoff hp hlv
  by_cases hs : x.state = 1
  · have t1 : (x.state == 1) = true := by simpa using hs
    unfold finD
    rw [if_pos hs]
    clear hs
    go_enter Tryz.func105, Tryz.ntmps105
    go_wp2
    go_end0
    refine do_end (x := x) ?_ (setCell_blk (k := 18) (a := .int .u64 0) (setCell_blk (k := 11) (a := .int .i64 st) (setCell_blk (k := 15) (a := .int .i64 0) (setCell_blk (k := 14) (a := .int .i64 (-1)) (setCell_blk (k := 12) (a := .bool false) HB.out))))) (by rfl) rfl rfl HAT.out HOF.out hlo
    repeat (first | exact Only.refl | refine Only.set ?_ | refine Only.drew ?_)
  · have t1 : (x.state == 1) = false := by simpa using hs
    unfold finD
    rw [if_neg hs]
    clear hs
    go_enter Tryz.func105, Tryz.ntmps105
    go_wp2
    go_end0
    refine do_end (x := x) ?_ (setCell_blk (k := 18) (a := .int .u64 0) (setCell_blk (k := 11) (a := .int .i64 st) HB.out)) (by rfl) rfl rfl HAT.out HOF.out hlo
    repeat (first | exact Only.refl | refine Only.set ?_ | refine Only.drew ?_)
end Go.Proofs.YtghmcdfmbjabnaaGreatDoor
