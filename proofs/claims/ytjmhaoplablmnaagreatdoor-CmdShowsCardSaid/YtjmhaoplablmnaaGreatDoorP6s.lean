/- Bundle P6. -/
import Derived.Test.YtjmhaoplablmnaaGreatDoorCpW8s
import Derived.Test.YtjmhaoplablmnaaGreatDoorHels
import Derived.Deep.RegionWith
namespace Go.Proofs.YtjmhaoplablmnaaGreatDoor
set_option linter.unusedSimpArgs false
set_option maxRecDepth 100000
set_option linter.unusedVariables false
set_option linter.unusedSimpArgs false
open Go.RowKit
def wordsV8 : Value := .agg #[.string ⟨#[]⟩, .string ⟨#[115, 117, 98, 109, 105, 116]⟩, .string ⟨#[99, 97, 110, 99, 101, 108]⟩, .string ⟨#[104, 111, 108, 100]⟩, .string ⟨#[114, 101, 108, 101, 97, 115, 101]⟩, .string ⟨#[97, 108, 116, 101, 114]⟩, .string ⟨#[114, 101, 115, 105, 122, 101]⟩, .string ⟨#[100, 114, 97, 105, 110]⟩, .string ⟨#[114, 101, 115, 117, 109, 101]⟩, .string ⟨#[102, 97, 105, 108]⟩, .string ⟨#[114, 101, 115, 101, 114, 118, 101]⟩, .string ⟨#[117, 110, 114, 101, 115, 101, 114, 118, 101]⟩, .string ⟨#[115, 116, 97, 116, 117, 115]⟩]
theorem words8_any (w : World) : Calls Tryz.prog 18 #[] w fun e w' => e = .returned wordsV8 ∧ Below w.heap.size w w' := by
  go_enter Tryz.func18, Tryz.ntmps18
  go_wp2
  exact bodyPost_ret (v := wordsV8) (by simp [results, Tryz.results18, go_sem, wordsV8, strs, wordsL8]) rfl ⟨rfl, (Below.refl _ _).alloc (Nat.le_refl _) _⟩
theorem ent_h1 : Enters Tryz.prog 73 := enters_of Tryz.func73 (by kernel_rfl) rfl
theorem ent_h2 : Enters Tryz.prog 76 := enters_of Tryz.func76 (by kernel_rfl) rfl
theorem reads_blk {w : World} {g : Nat} {l : List ByteArray} {t : TypeId} (h : w.heap[g]? = some (.cells (strs l).toArray t (0, 0))) : Reads w w.heap.size 1 (some ⟨g, 0, none⟩) l.length (strs l) := by
  refine ⟨by simp [strs], fun _ => ⟨_, rfl, lt_of_block h, fun j u hu => ?_⟩⟩
  have h2 := cell_of_row w g j _ _ _ h
  have e : (Addr.add ⟨g, 0, none⟩ j) = ⟨g, j, none⟩ := by unfold Addr.add; split <;> simp_all
  rw [e, h2]; simpa using hu
theorem head1_any (t : Tk) (g : Nat) (w : World) (hg : w.heap[g]? = some (.cells (strs wordsL8).toArray 43 (0, 0))) :
    Calls Tryz.prog 73 #[tkV t, .pointer (some ⟨g, 0, none⟩)] w fun e w' => e = .returned (.bool (decide (0 < idxS wordsL8 t.text))) ∧ Below w.heap.size w w' := by
  have hlt := lt_of_block hg
  have hg1 : (w.alloc (boxT t)).heap[g]? = _ := (Below.heap_alloc _ _ _ hlt).trans hg
  have hix := Lib.hid (fun q => index_s (some ⟨g, 0, none⟩) 13 13 _ wordsL8 t.text ((w.alloc (boxT t)).drewN q) (reads_blk hg1) (by omega))
  have hix0 := Lib.hid (index_s (some ⟨g, 0, none⟩) 13 13 _ wordsL8 t.text ((w.alloc (boxT t)).drew) (reads_blk hg1) (by omega))
  unfold boxT at hix hix0
  obtain ⟨q, hq⟩ : ∃ q, idxS wordsL8 t.text = q := ⟨_, rfl⟩
  rw [hq] at hix hix0 ⊢
  clear hq
  unfold tkV
  go_enter Tryz.func73, Tryz.ntmps73
  go_upto_region 1 with (fail)
  go_region_with (go_at_call 74; (first | (refine (hix.out _).mono ?_) | (refine hix0.out.mono ?_)); rintro e w1 ⟨rfl, rfl⟩)
  all_goals go_wp2
  all_goals go_ret
  all_goals exact ⟨rfl, by repeat (first | exact (Below.refl _ _).alloc (Nat.le_refl _) _ | refine below_drewN ?_ _ | refine below_drew ?_)⟩
theorem head2_any (t : Tk) (w : World) (hs : t.text.size ≤ 100000) : Calls Tryz.prog 76 #[tkV t] w fun e w' => e = .returned (.bool (nameB t.text)) ∧ Below w.heap.size w w' := by
  have hn := Lib.hid (fun v => name_any t.text v (by omega))
  have HB : Hid (Below w.heap.size w (w.alloc (boxT t))) := (Below.refl _ _).alloc (Nat.le_refl _) _
  unfold boxT at HB
  unfold tkV
  clear hs
  go_enter Tryz.func76, Tryz.ntmps76
  go_wp2_with (fail)
  refine (hn.out _).mono ?_; rintro e w1 ⟨rfl, hb1⟩
  go_wp2
  go_ret
  exact ⟨rfl, bt HB.out hb1⟩
theorem Kb.row8 {S : Nat → Prop} {w v : World} {T : Nat} (h : Kb S w v) (hT : w.heap.size ≤ T) (cs : Array Value) : Kb S w (v.setRow T cs) :=
  ⟨h.os, h.tape, h.output, by have := h.size; simpa using this, fun k hk hn => (Go.setRow_other v T k cs (by omega)).trans (h.block k hk hn)⟩
theorem Cd.row8 {v : World} {R B n c T : Nat} {A : Option Addr} {ts : List Tk} {en : Int} {r : Rr} (h : Cd v R B A n c ts en r) (hT : R < T) (cs : Array Value) : Cd (v.setRow T cs) R B A n c ts en r :=
  h.kb (S := (· = T)) ⟨rfl, rfl, rfl, by simp, fun k _ hn => Go.setRow_other v T k cs hn⟩ (by omega) (fun k hk => by have := h.hB; omega)
theorem Kb.setN {S : Nat → Prop} {w v : World} {T : Nat} (h : Kb S w v) (hT : w.heap.size ≤ T) (k : Nat) (u : Value) : Kb S w (v.setCell ⟨T, k, none⟩ u) :=
  Kb.fresh ((h.mono (fun _ x => Or.inl x)).set_ (p := ⟨T, k, none⟩) (Or.inr hT) u)
theorem Cd.setN {v : World} {R B n c T : Nat} {A : Option Addr} {ts : List Tk} {en : Int} {r : Rr} (h : Cd v R B A n c ts en r) (hT : R < T) (k : Nat) (u : Value) : Cd (v.setCell ⟨T, k, none⟩ u) R B A n c ts en r :=
  h.kb (S := (· = T)) ((Kb.refl (· = T) v).set_ (p := ⟨T, k, none⟩) rfl u) (by omega) (fun k hk => by have := h.hB; omega)
def RetHd (R B n c : Nat) (A : Option Addr) (ts : List Tk) (en : Int) (w : World) (x : Cm × Rr) (e : Ending) (w' : World) : Prop := e = .returned (cmV x.1 none 0 none 0) ∧ Cd w' R B A n c ts en x.2 ∧ Kb (· = R) w w'
set_option maxHeartbeats 4000000 in
theorem chead_any (R B n c : Nat) (A : Option Addr) (ts : List Tk) (en : Int) (r : Rr) (w : World) (h : Cd w R B A n c ts en r) :
    Calls Tryz.prog 43 #[.pointer (some ⟨R, 0, none⟩)] w (RetHd R B n c A ts en w (headP ts en r)) := by
  have hws := Lib.hid (fun v => words8_any v)
  have hlt := h.lt
  have hS := heap_alloc_new w (.cells (cmA cm0 none 0 none 0) 27)
  obtain ⟨W0, hW0⟩ : ∃ W0, Hid (w.alloc (.cells (cmA cm0 none 0 none 0) 27) = W0) := ⟨_, rfl⟩
  have hB0 : Below w.heap.size w W0 := by rw [← hW0.out]; exact (Below.refl _ _).alloc (Nat.le_refl _) _
  rw [hW0.out] at hS
  have H := Lib.hid h
  have B0 := Lib.hid hB0
  have S0 := Lib.hid hS
  have hs0 := lt_of_block hS
  have htk := Lib.hid (fun (v : World) (hv : Cd v R B A n c ts en r) (g : Nat) (hg : v.heap[g]? = some (.cells (strs wordsL8).toArray 43 (0, 0))) =>
    ctake_any R B n c A ts en r 1 73 #[.pointer (some ⟨g, 0, none⟩)] ent_h1 (fun t => decide (0 < idxS wordsL8 t.text)) (fun _ => False) (fun _ => True) v id (fun _ x => x.elim) (fun _ x => x.elim) (fun _ _ _ _ => trivial)
    (fun t v2 _ _ _ hv2 => (head1_any t g v2 ((hv2.block g (lt_of_block hg)).trans hg)).mono (fun e w' ⟨h1, h2⟩ => ⟨h1, Kb.of_below h2, trivial⟩)) hv)
  have HV : Hid (headP ts en r = match mayP ts 1 (fun t => decide (0 < idxS wordsL8 t.text)) r with | none => (cm0, failP ts en r) | some t => subjP ts en (idxS wordsL8 t.text) ⟨r.at_ + 1, r.bad⟩) := rfl
  obtain ⟨X, hX⟩ : ∃ X, headP ts en r = X := ⟨_, rfl⟩
  rw [hX] at HV ⊢
  cases hm : mayP ts 1 (fun t => decide (0 < idxS wordsL8 t.text)) r with
  | none =>
    rw [hm] at HV
    rw [takeP_none hm] at htk
    dsimp only at HV htk
    unfold tkV at htk
    clear h hS hB0 hX hm
    go_enter Tryz.func43, Tryz.ntmps43
    go_wp2_with (fail)
    rw [show (Obj.cells #[.int .i64 0, .int .i64 0, .string ⟨#[]⟩, .string ⟨#[]⟩, .string ⟨#[]⟩, .int .i64 0, .slice none 0 0, .int .i64 0, .int .i64 0, .int .i64 0, .int .i64 0, .bool false, .int .i64 0, .bool false, .slice none 0 0, .int .i64 0, .int .i64 0, .int .i64 0] 27) = .cells (cmA cm0 none 0 none 0) 27 from rfl, hW0.out]
    refine (hws.out _).mono ?_; rintro e w1 ⟨rfl, hb1⟩
    unfold wordsV8
    have hg := heap_alloc_new w1 (.cells (strs wordsL8).toArray 43)
    have B1 := bt B0.out hb1
    have S1 := (hb1.block _ hs0).trans S0.out
    have h1 := (H.out.below B1).alloc (.cells (strs wordsL8).toArray 43)
    have S2 := (Below.heap_alloc w1 (.cells (strs wordsL8).toArray 43) _ (lt_of_block S1)).trans S1
    have K2 : Hid (Kb (· = R) w (w1.alloc (.cells (strs wordsL8).toArray 43))) := (Kb.of_below B1).alloc _
    obtain ⟨W2, hW2⟩ : ∃ W2, Hid (w1.alloc (.cells (strs wordsL8).toArray 43) = W2) := ⟨_, rfl⟩
    rw [hW2.out] at hg h1 S2 K2
    have hc := Lib.hid (htk.out W2 h1 w1.heap.size hg)
    have G2 := Lib.hid hg
    have S2h := Lib.hid S2
    clear hb1 B1 S1 h1 S2 hg htk
    go_wp2_with (fail)
    rw [show (Obj.cells #[.string ⟨#[]⟩, .string ⟨#[115, 117, 98, 109, 105, 116]⟩, .string ⟨#[99, 97, 110, 99, 101, 108]⟩, .string ⟨#[104, 111, 108, 100]⟩, .string ⟨#[114, 101, 108, 101, 97, 115, 101]⟩, .string ⟨#[97, 108, 116, 101, 114]⟩, .string ⟨#[114, 101, 115, 105, 122, 101]⟩, .string ⟨#[100, 114, 97, 105, 110]⟩, .string ⟨#[114, 101, 115, 117, 109, 101]⟩, .string ⟨#[102, 97, 105, 108]⟩, .string ⟨#[114, 101, 115, 101, 114, 118, 101]⟩, .string ⟨#[117, 110, 114, 101, 115, 101, 114, 118, 101]⟩, .string ⟨#[115, 116, 97, 116, 117, 115]⟩] 43) = .cells (strs wordsL8).toArray 43 from rfl, hW2.out]
    refine hc.out.mono ?_; rintro e w5 ⟨rfl, h5, k5, -⟩
    have k5' : Kb (· = R) W2 w5 := k5.mono (fun _ x => x.elim id (fun y => y.elim))
    have g5 := (k5'.block _ (lt_of_block S2h.out) (by show ¬ _ = R; omega)).trans S2h.out
    have g6 : (w5.alloc (boxT tk0)).heap[w.heap.size]? = _ := (Below.heap_alloc _ _ _ (lt_of_block g5)).trans g5
    unfold boxT at g6
    have G6 := Lib.hid g6
    have H5 := Lib.hid h5
    have K5 := Lib.hid (K2.out.trans k5')
    clear h5 k5 k5' g5 g6 hc
    go_wp2_with (refine wpList_store_row rfl 27 _ _ rfl w.heap.size (cmA cm0 none 0 none 0) rfl rfl 27 _ G6.out (by kernel_rfl) rfl (cmA_one _ _ _ _ _) ?_)
    (try simp only [Exit.inBlock, Exit.then])
    refine bodyPost_ret (results_cell_row rfl _ _ w.heap.size _ _ _ _ rfl (setRow_heap _ _ _ _ _ _ G6.out) Tryz.underlying27 rfl (by kernel_rfl)) rfl ?_
    rw [HV.out]
    exact ⟨rfl, Cd.row8 (H5.out.alloc _) (by omega) _, Kb.row8 (K5.out.alloc _) (Nat.le_refl _) _⟩
  | some t =>
    rw [hm] at HV
    rw [takeP_some hm] at htk
    dsimp only at HV htk
    unfold tkV at htk
    have hixt := Lib.hid (fun (v : World) (g : Nat) (hg : v.heap[g]? = some (.cells (strs wordsL8).toArray 43 (0, 0))) => index_s (some ⟨g, 0, none⟩) 13 13 _ wordsL8 t.text v (reads_blk hg) (by omega))
    obtain ⟨k, hk⟩ : ∃ k, Hid (idxS wordsL8 t.text = k) := ⟨_, rfl⟩
    rw [hk.out] at hixt HV
    clear h hS hB0 hX hm
    go_enter Tryz.func43, Tryz.ntmps43
    go_wp2_with (fail)
    rw [show (Obj.cells #[.int .i64 0, .int .i64 0, .string ⟨#[]⟩, .string ⟨#[]⟩, .string ⟨#[]⟩, .int .i64 0, .slice none 0 0, .int .i64 0, .int .i64 0, .int .i64 0, .int .i64 0, .bool false, .int .i64 0, .bool false, .slice none 0 0, .int .i64 0, .int .i64 0, .int .i64 0] 27) = .cells (cmA cm0 none 0 none 0) 27 from rfl, hW0.out]
    refine (hws.out _).mono ?_; rintro e w1 ⟨rfl, hb1⟩
    unfold wordsV8
    have hg := heap_alloc_new w1 (.cells (strs wordsL8).toArray 43)
    have B1 := bt B0.out hb1
    have S1 := (hb1.block _ hs0).trans S0.out
    have h1 := (H.out.below B1).alloc (.cells (strs wordsL8).toArray 43)
    have S2 := (Below.heap_alloc w1 (.cells (strs wordsL8).toArray 43) _ (lt_of_block S1)).trans S1
    have K2 : Hid (Kb (· = R) w (w1.alloc (.cells (strs wordsL8).toArray 43))) := (Kb.of_below B1).alloc _
    have hsw : w.heap.size < w1.heap.size := lt_of_block S1
    obtain ⟨W2, hW2⟩ : ∃ W2, Hid (w1.alloc (.cells (strs wordsL8).toArray 43) = W2) := ⟨_, rfl⟩
    rw [hW2.out] at hg h1 S2 K2
    have hc := Lib.hid (htk.out W2 h1 w1.heap.size hg)
    have G2 := Lib.hid hg
    have S2h := Lib.hid S2
    clear hb1 B1 S1 h1 S2 hg htk
    go_wp2_with (fail)
    rw [show (Obj.cells #[.string ⟨#[]⟩, .string ⟨#[115, 117, 98, 109, 105, 116]⟩, .string ⟨#[99, 97, 110, 99, 101, 108]⟩, .string ⟨#[104, 111, 108, 100]⟩, .string ⟨#[114, 101, 108, 101, 97, 115, 101]⟩, .string ⟨#[97, 108, 116, 101, 114]⟩, .string ⟨#[114, 101, 115, 105, 122, 101]⟩, .string ⟨#[100, 114, 97, 105, 110]⟩, .string ⟨#[114, 101, 115, 117, 109, 101]⟩, .string ⟨#[102, 97, 105, 108]⟩, .string ⟨#[114, 101, 115, 101, 114, 118, 101]⟩, .string ⟨#[117, 110, 114, 101, 115, 101, 114, 118, 101]⟩, .string ⟨#[115, 116, 97, 116, 117, 115]⟩] 43) = .cells (strs wordsL8).toArray 43 from rfl, hW2.out]
    refine hc.out.mono ?_; rintro e w5 ⟨rfl, h5, k5, -⟩
    have k5' : Kb (· = R) W2 w5 := k5.mono (fun _ x => x.elim id (fun y => y.elim))
    have a5 := (k5'.block w1.heap.size (lt_of_block G2.out) (by show ¬ _ = R; omega)).trans G2.out
    have g5 := (k5'.block _ (lt_of_block S2h.out) (by show ¬ _ = R; omega)).trans S2h.out
    have a6 : (w5.alloc (boxT t)).heap[w1.heap.size]? = _ := (Below.heap_alloc _ _ _ (lt_of_block a5)).trans a5
    have g6 : (w5.alloc (boxT t)).heap[w.heap.size]? = _ := (Below.heap_alloc _ _ _ (lt_of_block g5)).trans g5
    have t6 := heap_alloc_new w5 (boxT t)
    have h6 := h5.alloc (boxT t)
    have k6 := (K2.out.trans k5').alloc (boxT t)
    unfold boxT at g6 a6 t6 h6 k6
    have hsw5 := lt_of_block a5
    obtain ⟨W6, hW6⟩ : ∃ W6, Hid (w5.alloc (.cells #[.int .i64 t.kind, .string t.text, .int .i64 t.num, .int .i64 t.at_] 96) = W6) := ⟨_, rfl⟩
    rw [hW6.out] at g6 a6 t6 h6 k6
    obtain ⟨tf, t0, t1, t2, t3⟩ := row4 t6
    have hl6 := lt_of_block t6
    have G6 := Lib.hid g6
    have A6 := Lib.hid a6
    have T6 := Lib.hid t6
    have H6 := Lib.hid h6
    have K6 := Lib.hid k6
    have hix6 := Lib.hid (fun v (hv : Below W6.heap.size W6 v) => hixt.out v w1.heap.size ((hv.block _ (lt_of_block a6)).trans a6))
    clear h5 k5 k5' g5 g6 a5 a6 t6 h6 k6 hc hixt
    go_upto_region 5 with (fail)
    rw [hW6.out]
    go_cut [6] (fun P wc => ∃ b, P = .pointer (some ⟨b, 0, none⟩) ∧ W6.heap.size ≤ b ∧ wc.heap[b]? = some (.cells (cmA { cm0 with kind := k } none 0 none 0) 27 (0, 0)) ∧ Below W6.heap.size W6 wc)
    case first =>
      refine wp_region_held_drew (S := (fun w' => (∀ b o, b < W6.heap.size → w'.cell? ⟨b, o, none⟩ = W6.cell? ⟨b, o, none⟩) ∧ Below W6.heap.size W6 w')) (by kernel_rfl) ?_ (fun hHeld => ?_)
      · (try dsimp only); (first | assumption | exact hk_drew | exact hk_call (by assumption) (by assumption) | exact hk_mk (by assumption) | (refine hk_alloc (by assumption) _) | (refine hk_row (by assumption) (by first | exact Nat.le_refl _ | exact hk_size (by assumption) | omega | (simp; done) | (simp; omega)) _) | (refine hk_set (by assumption) (by first | exact Nat.le_refl _ | exact hk_size (by assumption) | omega | (simp; done) | (simp; omega)) _))
      refine wpAnyH_take (i := 0) (oi := ⟨_, _, _, _, _, _⟩) (v := ?v_1) rfl (by kernel_rfl) (by kernel_rfl) (by kernel_rfl) (fun _ _ _ h => h) (Or.inl ⟨by rfl, ?hy_1⟩) (by assumption) ?r_1
      case hy_1 => (intro w_ hS_; (try dsimp only at hS_); go_simp; try with_reducible rfl)
      try simp only [Act.put, List.setIfInBounds_toArray, List.set_cons_zero, List.set_cons_succ]
      refine wpAnyH_take (i := 1) (oi := ⟨_, _, _, _, _, _⟩) (v := ?v_2) rfl (by kernel_rfl) (by kernel_rfl) (by kernel_rfl) (fun _ _ _ h => h) (Or.inl ⟨by rfl, ?hy_2⟩) (by assumption) ?r_2
      case hy_2 => (intro w_ hS_; (try dsimp only at hS_); go_simp; try with_reducible rfl)
      try simp only [Act.put, List.setIfInBounds_toArray, List.set_cons_zero, List.set_cons_succ]
      refine wpAnyH_take (i := 2) (oi := ⟨_, _, _, _, _, _⟩) (v := ?v_3) rfl (by kernel_rfl) (by kernel_rfl) (by kernel_rfl) (fun _ _ _ h => h) (Or.inl ⟨by rfl, ?hy_3⟩) (by assumption) ?r_3
      case hy_3 => (intro w_ hS_; (try dsimp only at hS_); go_simp; try with_reducible rfl)
      try simp only [Act.put, List.setIfInBounds_toArray, List.set_cons_zero, List.set_cons_succ]
      refine wpAnyH_ready (rs := [3, 5]) (by kernel_rfl) (by simp) ?_
      refine AllReadyH.cons (o := ⟨_, _, _, _, _, _⟩) rfl (fun K hK => ?_) ?_
      · go_simp
        (first | (go_at_call 74; refine (hix6.out _ (And.right (by assumption))).mono ?_; rintro e w7 ⟨rfl, rfl⟩))
        try go_wp2_with (fail)
        refine hK.out _ _ ?_ (fun hHeld => ?_)
        · (try dsimp only); (first | exact hk_call (by assumption) (by assumption) | assumption | exact hk_mk (by assumption))
        clear hK K
        try simp only [Act.put, List.setIfInBounds_toArray, List.set_cons_zero, List.set_cons_succ]
        refine wpAnyH_take (i := 4) (oi := ⟨_, _, _, _, _, _⟩) (v := ?v_4) rfl (by kernel_rfl) (by kernel_rfl) (by kernel_rfl) (fun _ _ _ h => h) (Or.inl ⟨by rfl, ?hy_4⟩) (by assumption) ?r_4
        case hy_4 => (intro w_ hS_; (try dsimp only at hS_); go_simp; try with_reducible rfl)
        try simp only [Act.put, List.setIfInBounds_toArray, List.set_cons_zero, List.set_cons_succ]
        refine wpAnyH_ready (rs := [5]) (by kernel_rfl) (by simp) ?_
        refine AllReadyH.cons (o := ⟨_, _, _, _, _, _⟩) rfl (fun K hK => ?_) AllReadyH.nil
        go_simp
        refine hK.out _ _ ?_ (fun hHeld => ?_)
        · (try dsimp only); (first | assumption | (refine hk_alloc (by assumption) _))
        clear hK K
        try simp only [Act.put, List.setIfInBounds_toArray, List.set_cons_zero, List.set_cons_succ]
        refine wpAnyH_ready (rs := [6]) (by kernel_rfl) (by simp) ?_
        refine AllReadyH.cons (o := ⟨_, _, _, _, _, _⟩) rfl (fun K hK => ?_) AllReadyH.nil
        first | (rw [if_pos (by rfl)]; first | (refine wp_store_row 27 _ _ rfl _ (cmA { cm0 with kind := k } none 0 none 0) rfl rfl 27 _ (heap_alloc_new _ _) (by kernel_rfl) rfl (cmA_one _ _ _ _ _) ?_)) | go_simp
        refine hK.out _ _ ?_ (fun hHeld => ?_)
        · (try dsimp only); (first | assumption | (refine hk_alloc (hk_alloc ?_ _) _; assumption) | (refine hk_alloc (hk_set (by assumption) (by first | exact Nat.le_refl _ | exact hk_size (by assumption) | omega | (simp; done) | (simp; omega)) _) _) | (refine hk_row (by assumption) (by first | exact Nat.le_refl _ | exact hk_size (by assumption) | omega | (simp; done) | (simp; omega)) _) | (refine hk_set (by assumption) (by first | exact Nat.le_refl _ | exact hk_size (by assumption) | omega | (simp; done) | (simp; omega)) _))
        clear hK K
        try simp only [Act.put, List.setIfInBounds_toArray, List.set_cons_zero, List.set_cons_succ]
        refine wpAnyH_done (by kernel_rfl) ?_ _
        (go_wp2_with (fail); go_meet; exact ⟨_, rfl, Nat.le_refl _, setRow_heap _ _ _ _ _ _ (heap_alloc_new _ _), below_row ((below_drew (Below.refl _ _)).alloc (Nat.le_refl _) _) (Nat.le_refl _) _⟩)
      refine AllReadyH.cons (o := ⟨_, _, _, _, _, _⟩) rfl (fun K hK => ?_) AllReadyH.nil
      go_simp
      refine hK.out _ _ ?_ (fun hHeld => ?_)
      · (try dsimp only); (first | assumption | (refine hk_alloc (by assumption) _))
      clear hK K
      try simp only [Act.put, List.setIfInBounds_toArray, List.set_cons_zero, List.set_cons_succ]
      refine wpAnyH_ready (rs := [3]) (by kernel_rfl) (by simp) ?_
      refine AllReadyH.cons (o := ⟨_, _, _, _, _, _⟩) rfl (fun K hK => ?_) AllReadyH.nil
      go_simp
      (first | (go_at_call 74; refine (hix6.out _ (And.right (by assumption))).mono ?_; rintro e w7 ⟨rfl, rfl⟩))
      try go_wp2_with (fail)
      refine hK.out _ _ ?_ (fun hHeld => ?_)
      · (try dsimp only); (first | exact hk_call (by assumption) (by assumption) | assumption | exact hk_mk (by assumption))
      clear hK K
      try simp only [Act.put, List.setIfInBounds_toArray, List.set_cons_zero, List.set_cons_succ]
      refine wpAnyH_take (i := 4) (oi := ⟨_, _, _, _, _, _⟩) (v := ?v_5) rfl (by kernel_rfl) (by kernel_rfl) (by kernel_rfl) (fun _ _ _ h => h) (Or.inl ⟨by rfl, ?hy_5⟩) (by assumption) ?r_5
      case hy_5 => (intro w_ hS_; (try dsimp only at hS_); go_simp; try with_reducible rfl)
      try simp only [Act.put, List.setIfInBounds_toArray, List.set_cons_zero, List.set_cons_succ]
      refine wpAnyH_ready (rs := [6]) (by kernel_rfl) (by simp) ?_
      refine AllReadyH.cons (o := ⟨_, _, _, _, _, _⟩) rfl (fun K hK => ?_) AllReadyH.nil
      first | (rw [if_pos (by rfl)]; first | (refine wp_store_row 27 _ _ rfl _ (cmA { cm0 with kind := k } none 0 none 0) rfl rfl 27 _ (heap_alloc_new _ _) (by kernel_rfl) rfl (cmA_one _ _ _ _ _) ?_)) | go_simp
      refine hK.out _ _ ?_ (fun hHeld => ?_)
      · (try dsimp only); (first | assumption | (refine hk_alloc (hk_alloc ?_ _) _; assumption) | (refine hk_alloc (hk_set (by assumption) (by first | exact Nat.le_refl _ | exact hk_size (by assumption) | omega | (simp; done) | (simp; omega)) _) _) | (refine hk_row (by assumption) (by first | exact Nat.le_refl _ | exact hk_size (by assumption) | omega | (simp; done) | (simp; omega)) _) | (refine hk_set (by assumption) (by first | exact Nat.le_refl _ | exact hk_size (by assumption) | omega | (simp; done) | (simp; omega)) _))
      clear hK K
      try simp only [Act.put, List.setIfInBounds_toArray, List.set_cons_zero, List.set_cons_succ]
      refine wpAnyH_done (by kernel_rfl) ?_ _
      (go_wp2_with (fail); go_meet; exact ⟨_, rfl, Nat.le_refl _, setRow_heap _ _ _ _ _ _ (heap_alloc_new _ _), below_row ((below_drew (Below.refl _ _)).alloc (Nat.le_refl _) _) (Nat.le_refl _) _⟩)
    case rest =>
      obtain ⟨b, rfl, hb6, hbb, hbB⟩ := hcut
      have hc := H6.out.below hbB
      have hbl := lt_of_block hbb
      have x0 : wc.cell? ⟨b, 0, none⟩ = some (.int .i64 k) := (cell_of_row wc b 0 _ _ _ hbb).trans rfl
      have bf : ∀ j, wc.frozen? ⟨b, j, none⟩ = false := fun j => fz_of hbb
      have tc := (hbB.block _ hl6).trans T6.out
      have sc := (hbB.block _ (lt_of_block G6.out)).trans G6.out
      have kw := K6.out.trans (Kb.of_below hbB)
      have hsl := lt_of_block sc
      have hws : w.heap.size < b := by have := lt_of_block G6.out; omega
      have HC := Lib.hid hc
      have BB := Lib.hid hbb
      have TC := Lib.hid tc
      have SC := Lib.hid sc
      have KW := Lib.hid kw
      have LR := Lib.hid hlt
      have hkl := kw.size
      clear hc hbb tc sc kw hbB hix6 t0 t1 t2 t3 tf
      obtain ⟨r1, hr1⟩ : ∃ q, (⟨r.at_ + 1, r.bad⟩ : Rr) = q := ⟨_, rfl⟩
      rw [hr1] at HV
      replace HC : Hid (Cd wc R B A n c ts en r1) := by rw [← hr1]; exact HC
      clear hr1
      by_cases k1 : k = 1
      · subst k1
        have hse := Lib.hid (csees_any R B n c A ts en r1 4 wc HC.out)
        obtain ⟨K1, hK1⟩ : ∃ K1, Hid ((if seesP ts 4 r1 then (4 : Int) else 1) = K1) := ⟨_, rfl⟩
        have HV2 : Hid (X = ({ cm0 with kind := 1, name := (takeP ts en K1 (fun t => nameB t.text) r1).1.text }, (takeP ts en K1 (fun t => nameB t.text) r1).2.2)) := by
          show _ = _; rw [HV.out]; unfold subjP; rw [if_pos rfl, hK1.out]
        have hsz := Lib.hid H.out.sz
        have htk2 := Lib.hid (fun q => ctake_any R B n c A ts en r1 K1 76 #[] ent_h2 (fun t => nameB t.text) (fun _ => False) (fun _ => True) (wc.drewN q) id (fun _ x => x.elim) (fun _ x => x.elim) (fun _ _ _ _ => trivial)
          (fun t v2 _ ht2 _ hv2 => (head2_any t v2 (hsz.out t (List.mem_of_getElem? ht2))).mono (fun e w' ⟨h1, h2⟩ => ⟨h1, Kb.of_below h2, trivial⟩)) (HC.out.drewN q))
        obtain ⟨x, hx⟩ : ∃ x, takeP ts en K1 (fun t => nameB t.text) r1 = x := ⟨_, rfl⟩
        rw [hx] at htk2 HV2
        obtain ⟨y1, y2, y3⟩ := x
        dsimp only at htk2 HV2
        unfold tkV at htk2
        clear HV hx
        cases hq : seesP ts 4 r1
        case' false =>
          rw [hq] at hse
          have hKe : (1 : Int) = K1 := by rw [← hK1.out, hq]; rfl
        case' true =>
          rw [hq] at hse
          have hKe : (4 : Int) = K1 := by rw [← hK1.out, hq]; rfl
        all_goals
          subst hKe
          clear hK1 hq
          go_wp2_with (fail)
          refine hse.out.mono ?_; rintro e w7 ⟨rfl, q7, rfl⟩
          go_wp2_with (fail)
          refine (htk2.out q7).mono ?_; rintro e w8 ⟨rfl, h8, k8, -⟩
          have k8' : Kb (· = R) (wc.drewN q7) w8 := k8.mono (fun _ x => x.elim id (fun y => y.elim))
          have b8 := (k8'.block b hbl (by show ¬ b = R; omega)).trans BB.out
          have s8 := (k8'.block w.heap.size hsl (by show ¬ _ = R; omega)).trans SC.out
          have t8 := (k8'.block w5.heap.size (lt_of_block TC.out) (by show ¬ _ = R; omega)).trans TC.out
          obtain ⟨fT, m0, m1, m2, m3⟩ := row4 t8
          have ht5 : w5.heap.size ≠ b := by omega
          have hst : w.heap.size ≠ w5.heap.size := by omega
          have b9 := (setc4_blk (T := w5.heap.size) ht5.symm (.int .i64 y1.kind) (.string y1.text) (.int .i64 y1.num) (.int .i64 y1.at_)).trans b8
          have s9 := (setc4_blk (T := w5.heap.size) hst (.int .i64 y1.kind) (.string y1.text) (.int .i64 y1.num) (.int .i64 y1.at_)).trans s8
          have t9 := set4_blk (a0 := .int .i64 y1.kind) (a1 := .string y1.text) (a2 := .int .i64 y1.num) (a3 := .int .i64 y1.at_) t8
          have h9 := h8.set4 (T := w5.heap.size) (by omega) (.int .i64 y1.kind) (.string y1.text) (.int .i64 y1.num) (.int .i64 y1.at_)
          have k9 := Kb.set4 ((KW.out.drewN q7).trans k8') (T := w5.heap.size) (by omega) (.int .i64 y1.kind) (.string y1.text) (.int .i64 y1.num) (.int .i64 y1.at_)
          obtain ⟨W9, hW9⟩ : ∃ W9, Hid (((((w8.setCell ⟨w5.heap.size, 0, none⟩ (.int .i64 y1.kind)).setCell ⟨w5.heap.size, 1, none⟩ (.string y1.text)).setCell ⟨w5.heap.size, 2, none⟩ (.int .i64 y1.num)).setCell ⟨w5.heap.size, 3, none⟩ (.int .i64 y1.at_)) = W9) := ⟨_, rfl⟩
          rw [hW9.out] at b9 s9 t9 h9 k9
          obtain ⟨_, _, n1, _, _⟩ := row4 t9
          have c9 : W9.cell? ⟨b, 2, none⟩ = some (.string ⟨#[]⟩) := (cell_of_row W9 b 2 _ _ _ b9).trans rfl
          have z9 : W9.frozen? ⟨b, 2, none⟩ = false := fz_of b9
          have l9 := lt_of_block b9
          have EB : Hid ((W9.setCell ⟨b, 2, none⟩ (.string y1.text)).heap[b]? = some (.cells (cmA { cm0 with kind := 1, name := y1.text } none 0 none 0) 27 (0, 0))) := setCell_blk (k := 2) b9
          have ES : Hid ((W9.setCell ⟨b, 2, none⟩ (.string y1.text)).heap[w.heap.size]? = some (.cells (cmA cm0 none 0 none 0) 27 (0, 0))) := (Below.heap_setCell _ _ _ _ (by show w.heap.size ≠ b; omega)).trans s9
          have EC := Lib.hid (h9.setN (T := b) (by omega) 2 (.string y1.text))
          have EK := Lib.hid (k9.setN (T := b) (by omega) 2 (.string y1.text))
          clear h8 k8 k8' b8 s8 t8 b9 s9 t9 h9 k9
          go_upto_region 13 with (fail)
          rw [hW9.out]
          go_wp2_with (first
            | (refine wpList_load_row rfl 27 _ rfl b rfl 27 (cmA { cm0 with kind := 1, name := y1.text } none 0 none 0) (0, 0) _ EB.out Tryz.underlying27 rfl (by kernel_rfl) ?_)
            | (refine wpList_store_row rfl 27 _ _ rfl w.heap.size (cmA { cm0 with kind := 1, name := y1.text } none 0 none 0) rfl rfl 27 _ ES.out (by kernel_rfl) rfl (cmA_one _ _ _ _ _) ?_))
          (try simp only [Exit.inBlock, Exit.then])
          refine bodyPost_ret (results_cell_row rfl _ _ w.heap.size _ _ _ _ rfl (setRow_heap _ _ _ _ _ _ ES.out) Tryz.underlying27 rfl (by kernel_rfl)) rfl ?_
          rw [HV2.out]
          exact ⟨rfl, EC.out.row8 LR.out _, EK.out.row8 (Nat.le_refl _) _⟩
      have u1 : (k == 1) = false := by simpa using k1
      by_cases k7 : k = 7 ∨ k = 8 ∨ k = 9
      · have HV2 : Hid (X = ({ cm0 with kind := k, node := (numR ts en (fun n => inB n 0 47) r1).1 }, (numR ts en (fun n => inB n 0 47) r1).2)) := by
          show _ = _; rw [HV.out]; unfold subjP; rw [if_neg k1, if_pos k7]
        clear HV k1
        rcases k7 with rfl | rfl | rfl
        all_goals
          go_wp2_with (fail)
          refine (of8_any 0 47 wc).mono ?_; rintro e wo ⟨rfl, bo, ao⟩
          go_wp2_with (fail)
          refine (cnumber_any R B n c A ts en _ 115 ent_of1 _ (fun n => inB n 0 47) _ (HC.out.below bo) ao).mono ?_; rintro e w8 ⟨rfl, h8, k8⟩
          have b8 := (k8.block b (Nat.lt_of_lt_of_le hbl bo.size) (by show ¬ b = R; omega)).trans ((bo.block b hbl).trans BB.out)
          have s8 := (k8.block w.heap.size (Nat.lt_of_lt_of_le hsl bo.size) (by show ¬ _ = R; omega)).trans ((bo.block _ hsl).trans SC.out)
          have c8 : w8.cell? ⟨b, 15, none⟩ = some (.int .i64 0) := (cell_of_row w8 b 15 _ _ _ b8).trans rfl
          have z8 : w8.frozen? ⟨b, 15, none⟩ = false := fz_of b8
          have l8 := lt_of_block b8
          have EB : Hid ((w8.setCell ⟨b, 15, none⟩ (.int .i64 (numR ts en (fun n => inB n 0 47) r1).1)).heap[b]? = some (.cells (cmA { cm0 with kind := _, node := (numR ts en (fun n => inB n 0 47) r1).1 } none 0 none 0) 27 (0, 0))) := setCell_blk (k := 15) b8
          have ES : Hid ((w8.setCell ⟨b, 15, none⟩ (.int .i64 (numR ts en (fun n => inB n 0 47) r1).1)).heap[w.heap.size]? = some (.cells (cmA cm0 none 0 none 0) 27 (0, 0))) := (Below.heap_setCell _ _ _ _ (by show w.heap.size ≠ b; omega)).trans s8
          have EC := Lib.hid (h8.setN (T := b) (by omega) 15 (.int .i64 (numR ts en (fun n => inB n 0 47) r1).1))
          have EK := Lib.hid (((KW.out.trans (Kb.of_below bo)).trans k8).setN (T := b) (by omega) 15 (.int .i64 (numR ts en (fun n => inB n 0 47) r1).1))
          obtain ⟨q8, hq8⟩ : ∃ q, Hid ((numR ts en (fun n => inB n 0 47) r1).1 = q) := ⟨_, rfl⟩
          clear h8 k8 b8 s8
          go_wp2_with (first
            | (refine wpList_load_row rfl 27 _ rfl b rfl 27 (cmA { cm0 with kind := _, node := (numR ts en (fun n => inB n 0 47) r1).1 } none 0 none 0) (0, 0) _ EB.out Tryz.underlying27 rfl (by kernel_rfl) ?_)
            | (refine wpList_store_row rfl 27 _ _ rfl w.heap.size (cmA { cm0 with kind := _, node := (numR ts en (fun n => inB n 0 47) r1).1 } none 0 none 0) rfl rfl 27 _ ES.out (by kernel_rfl) rfl (cmA_one _ _ _ _ _) ?_))
          (try simp only [Exit.inBlock, Exit.then])
          refine bodyPost_ret (results_cell_row rfl _ _ w.heap.size _ _ _ _ rfl (setRow_heap _ _ _ _ _ _ ES.out) Tryz.underlying27 rfl (by kernel_rfl)) rfl ?_
          rw [HV2.out]
          exact ⟨rfl, EC.out.row8 LR.out _, EK.out.row8 (Nat.le_refl _) _⟩
      have u7 : (k == 7) = false := by simp; omega
      have u8 : (k == 8) = false := by simp; omega
      have u9 : (k == 9) = false := by simp; omega
      by_cases k10 : k = 10
      · have HV2 : Hid (X = ({ cm0 with kind := k }, r1)) := by
          show _ = _; rw [HV.out]; unfold subjP; rw [if_neg k1, if_neg k7, if_pos k10]
        have u10 : (k == 10) = true := by simpa using k10
        have EB := BB
        have ES := SC
        have EC := HC
        have EK := KW
        clear HV k1 k7 k10
        go_wp2_with (first
          | (refine wpList_load_row rfl 27 _ rfl b rfl 27 (cmA { cm0 with kind := k } none 0 none 0) (0, 0) _ EB.out Tryz.underlying27 rfl (by kernel_rfl) ?_)
          | (refine wpList_store_row rfl 27 _ _ rfl w.heap.size (cmA { cm0 with kind := k } none 0 none 0) rfl rfl 27 _ ES.out (by kernel_rfl) rfl (cmA_one _ _ _ _ _) ?_))
        (try simp only [Exit.inBlock, Exit.then])
        refine bodyPost_ret (results_cell_row rfl _ _ w.heap.size _ _ _ _ rfl (setRow_heap _ _ _ _ _ _ ES.out) Tryz.underlying27 rfl (by kernel_rfl)) rfl ?_
        rw [HV2.out]
        exact ⟨rfl, EC.out.row8 LR.out _, EK.out.row8 (Nat.le_refl _) _⟩
      have u10 : (k == 10) = false := by simpa using k10
      by_cases k12 : k = 12
      · have u12 : (k == 12) = true := by simpa using k12
        have d0 := HC.out.c0
        have d1 := HC.out.c1
        have hlen := H.out.len
        by_cases hz : ts.length ≤ r1.at_
        · have HV2 : Hid (X = ({ cm0 with kind := k }, r1)) := by
            show _ = _; rw [HV.out]; unfold subjP; rw [if_neg k1, if_neg k7, if_neg k10, if_pos ⟨k12, hz⟩]
          have v1 : decide ((r1.at_ : Int) < (n : Int)) = false := by simp; omega
          have v2 : decide (r1.at_ < n) = false := by simp; omega
          obtain ⟨j, hj⟩ : ∃ j, r1.at_ = j := ⟨_, rfl⟩
          rw [hj] at d1 v1 v2
          have EB := BB
          have ES := SC
          clear HV k1 k7 k10 k12 hz hj hlen
          go_upto_region 20 with (fail)
          go_quiet (fail)
          have EC := fun q => Lib.hid (HC.out.drewN q)
          have EK := fun q => Lib.hid (KW.out.drewN q)
          go_wp2_with (first
            | (refine wpList_load_row rfl 27 _ rfl b rfl 27 (cmA { cm0 with kind := k } none 0 none 0) (0, 0) _ EB.out Tryz.underlying27 rfl (by kernel_rfl) ?_)
            | (refine wpList_store_row rfl 27 _ _ rfl w.heap.size (cmA { cm0 with kind := k } none 0 none 0) rfl rfl 27 _ ES.out (by kernel_rfl) rfl (cmA_one _ _ _ _ _) ?_))
          (try simp only [Exit.inBlock, Exit.then])
          refine bodyPost_ret (results_cell_row rfl _ _ w.heap.size _ _ _ _ rfl (setRow_heap _ _ _ _ _ _ ES.out) Tryz.underlying27 rfl (by kernel_rfl)) rfl ?_
          rw [HV2.out]
          exact ⟨rfl, (EC _).out.row8 LR.out _, (EK _).out.row8 (Nat.le_refl _) _⟩
        · have HV2 : Hid (X = ({ cm0 with kind := k, job := (numR ts en (fun n => inB n 1 99999) r1).1 }, (numR ts en (fun n => inB n 1 99999) r1).2)) := by
            show _ = _; rw [HV.out]; unfold subjP; rw [if_neg k1, if_neg k7, if_neg k10, if_neg (fun x => hz x.2)]
          have v1 : decide ((r1.at_ : Int) < (n : Int)) = true := by simp; omega
          have v2 : decide (r1.at_ < n) = true := by simp; omega
          obtain ⟨j, hj⟩ : ∃ j, r1.at_ = j := ⟨_, rfl⟩
          rw [hj] at d1 v1 v2
          clear HV k1 k7 k10 k12 hz hj hlen
          go_upto_region 20 with (fail)
          go_quiet (fail)
          go_wp2_with (fail)
          refine (cnumber_any R B n c A ts en _ 64 ent_id #[] (fun n => inB n 1 99999) _ (HC.out.drewN _) (ask_id _)).mono ?_; rintro e w8 ⟨rfl, h8, k8⟩
          have b8 := (k8.block b hbl (by show ¬ b = R; omega)).trans BB.out
          have s8 := (k8.block w.heap.size hsl (by show ¬ _ = R; omega)).trans SC.out
          have c8 : w8.cell? ⟨b, 1, none⟩ = some (.int .i64 0) := (cell_of_row w8 b 1 _ _ _ b8).trans rfl
          have z8 : w8.frozen? ⟨b, 1, none⟩ = false := fz_of b8
          have l8 := lt_of_block b8
          have EB : Hid ((w8.setCell ⟨b, 1, none⟩ (.int .i64 (numR ts en (fun n => inB n 1 99999) r1).1)).heap[b]? = some (.cells (cmA { cm0 with kind := _, job := (numR ts en (fun n => inB n 1 99999) r1).1 } none 0 none 0) 27 (0, 0))) := setCell_blk (k := 1) b8
          have ES : Hid ((w8.setCell ⟨b, 1, none⟩ (.int .i64 (numR ts en (fun n => inB n 1 99999) r1).1)).heap[w.heap.size]? = some (.cells (cmA cm0 none 0 none 0) 27 (0, 0))) := (Below.heap_setCell _ _ _ _ (by show w.heap.size ≠ b; omega)).trans s8
          have EC := Lib.hid (h8.setN (T := b) (by omega) 1 (.int .i64 (numR ts en (fun n => inB n 1 99999) r1).1))
          have EK := Lib.hid (((KW.out.drewN _).trans k8).setN (T := b) (by omega) 1 (.int .i64 (numR ts en (fun n => inB n 1 99999) r1).1))
          clear h8 k8 b8 s8
          go_wp2_with (first
            | (refine wpList_load_row rfl 27 _ rfl b rfl 27 (cmA { cm0 with kind := _, job := (numR ts en (fun n => inB n 1 99999) r1).1 } none 0 none 0) (0, 0) _ EB.out Tryz.underlying27 rfl (by kernel_rfl) ?_)
            | (refine wpList_store_row rfl 27 _ _ rfl w.heap.size (cmA { cm0 with kind := _, job := (numR ts en (fun n => inB n 1 99999) r1).1 } none 0 none 0) rfl rfl 27 _ ES.out (by kernel_rfl) rfl (cmA_one _ _ _ _ _) ?_))
          (try simp only [Exit.inBlock, Exit.then])
          refine bodyPost_ret (results_cell_row rfl _ _ w.heap.size _ _ _ _ rfl (setRow_heap _ _ _ _ _ _ ES.out) Tryz.underlying27 rfl (by kernel_rfl)) rfl ?_
          rw [HV2.out]
          exact ⟨rfl, EC.out.row8 LR.out _, EK.out.row8 (Nat.le_refl _) _⟩
      have u12 : (k == 12) = false := by simpa using k12
      have HV2 : Hid (X = ({ cm0 with kind := k, job := (numR ts en (fun n => inB n 1 99999) r1).1 }, (numR ts en (fun n => inB n 1 99999) r1).2)) := by
        show _ = _; rw [HV.out]; unfold subjP; rw [if_neg k1, if_neg k7, if_neg k10, if_neg (fun x => k12 x.1)]
      clear HV k1 k7 k10 k12
      go_wp2_with (fail)
      refine (cnumber_any R B n c A ts en _ 64 ent_id #[] (fun n => inB n 1 99999) _ HC.out (ask_id _)).mono ?_; rintro e w8 ⟨rfl, h8, k8⟩
      have b8 := (k8.block b hbl (by show ¬ b = R; omega)).trans BB.out
      have s8 := (k8.block w.heap.size hsl (by show ¬ _ = R; omega)).trans SC.out
      have c8 : w8.cell? ⟨b, 1, none⟩ = some (.int .i64 0) := (cell_of_row w8 b 1 _ _ _ b8).trans rfl
      have z8 : w8.frozen? ⟨b, 1, none⟩ = false := fz_of b8
      have l8 := lt_of_block b8
      have EB : Hid ((w8.setCell ⟨b, 1, none⟩ (.int .i64 (numR ts en (fun n => inB n 1 99999) r1).1)).heap[b]? = some (.cells (cmA { cm0 with kind := _, job := (numR ts en (fun n => inB n 1 99999) r1).1 } none 0 none 0) 27 (0, 0))) := setCell_blk (k := 1) b8
      have ES : Hid ((w8.setCell ⟨b, 1, none⟩ (.int .i64 (numR ts en (fun n => inB n 1 99999) r1).1)).heap[w.heap.size]? = some (.cells (cmA cm0 none 0 none 0) 27 (0, 0))) := (Below.heap_setCell _ _ _ _ (by show w.heap.size ≠ b; omega)).trans s8
      have EC := Lib.hid (h8.setN (T := b) (by omega) 1 (.int .i64 (numR ts en (fun n => inB n 1 99999) r1).1))
      have EK := Lib.hid ((KW.out.trans k8).setN (T := b) (by omega) 1 (.int .i64 (numR ts en (fun n => inB n 1 99999) r1).1))
      clear h8 k8 b8 s8
      go_wp2_with (first
        | (refine wpList_load_row rfl 27 _ rfl b rfl 27 (cmA { cm0 with kind := _, job := (numR ts en (fun n => inB n 1 99999) r1).1 } none 0 none 0) (0, 0) _ EB.out Tryz.underlying27 rfl (by kernel_rfl) ?_)
        | (refine wpList_store_row rfl 27 _ _ rfl w.heap.size (cmA { cm0 with kind := _, job := (numR ts en (fun n => inB n 1 99999) r1).1 } none 0 none 0) rfl rfl 27 _ ES.out (by kernel_rfl) rfl (cmA_one _ _ _ _ _) ?_))
      (try simp only [Exit.inBlock, Exit.then])
      refine bodyPost_ret (results_cell_row rfl _ _ w.heap.size _ _ _ _ rfl (setRow_heap _ _ _ _ _ _ ES.out) Tryz.underlying27 rfl (by kernel_rfl)) rfl ?_
      rw [HV2.out]
      exact ⟨rfl, EC.out.row8 LR.out _, EK.out.row8 (Nat.le_refl _) _⟩
end Go.Proofs.YtjmhaoplablmnaaGreatDoor
namespace Go.Proofs.YtjmhaoplablmnaaGreatDoor
set_option linter.unusedSimpArgs false
set_option maxRecDepth 100000
set_option linter.unusedVariables false
set_option linter.unusedSimpArgs false
open Go.RowKit
def missQ (c : Cm) : Bool :=
  if c.kind = 1 then (c.user.toList == []) || ((c.account.toList == []) || (decide (c.shape.alts.length = 0) && ((c.nodes == 0) && (c.shape.mn == 0) || !c.hasTime)))
  else if c.kind = 5 then !c.hasPrio && !c.hasTime
  else if c.kind = 6 then c.nodes == 0
  else false
theorem miss_is (c : Cm) (fr : Bool) : missP c fr = (missQ c || ((c.kind == 10) && (!fr || ((c.nodes == 0) || !c.hasTime)))) := by
  unfold missP missQ
  by_cases h1 : c.kind = 1
  · rw [if_pos h1, if_pos h1]; simp [h1]
  rw [if_neg h1, if_neg h1]
  by_cases h5 : c.kind = 5
  · rw [if_pos h5, if_pos h5]; simp [h5]
  rw [if_neg h5, if_neg h5]
  by_cases h6 : c.kind = 6
  · rw [if_pos h6, if_pos h6]; simp [h6]
  rw [if_neg h6, if_neg h6]
  by_cases h10 : c.kind = 10
  · rw [if_pos h10]; simp [h10]
  · rw [if_neg h10]; simp [h10]
set_option maxHeartbeats 2000000 in
theorem missing_any (x : Cm) (A : Option Addr) (c : Nat) (A2 : Option Addr) (c2 : Nat) (w : World) :
    Calls Tryz.prog 46 #[cmV x A c A2 c2] w fun e w' => e = .returned (.bool (missQ x)) ∧ Below w.heap.size w w' := by
  rw [cmV_is x]
  have HM : Hid (missQ x = if x.kind = 1 then (x.user.toList == []) || ((x.account.toList == []) || (decide (x.shape.alts.length = 0) && ((x.nodes == 0) && (x.shape.mn == 0) || !x.hasTime))) else if x.kind = 5 then !x.hasPrio && !x.hasTime else if x.kind = 6 then x.nodes == 0 else false) := rfl
  have e0 : (cmA x A c A2 c2)[0]? = some (.int .i64 x.kind) := rfl
  have e3 : (cmA x A c A2 c2)[3]? = some (.string x.user) := rfl
  have e4 : (cmA x A c A2 c2)[4]? = some (.string x.account) := rfl
  have e6 : (cmA x A c A2 c2)[6]? = some (.slice A x.shape.alts.length c) := rfl
  have e7 : (cmA x A c A2 c2)[7]? = some (.int .i64 x.shape.mn) := rfl
  have e11 : (cmA x A c A2 c2)[11]? = some (.bool x.hasPrio) := rfl
  have e13 : (cmA x A c A2 c2)[13]? = some (.bool x.hasTime) := rfl
  have e16 : (cmA x A c A2 c2)[16]? = some (.int .i64 x.nodes) := rfl
  obtain ⟨cs, hcs⟩ : ∃ cs, cmA x A c A2 c2 = cs := ⟨_, rfl⟩
  rw [hcs] at e0 e3 e4 e6 e7 e11 e13 e16 ⊢
  obtain ⟨us, h1⟩ : ∃ q, x.user = q := ⟨_, rfl⟩
  obtain ⟨ac, h2⟩ : ∃ q, x.account = q := ⟨_, rfl⟩
  obtain ⟨n, h3⟩ : ∃ q, x.shape.alts.length = q := ⟨_, rfl⟩
  obtain ⟨nd, h4⟩ : ∃ q, x.nodes = q := ⟨_, rfl⟩
  obtain ⟨mn, h5⟩ : ∃ q, x.shape.mn = q := ⟨_, rfl⟩
  obtain ⟨hp, h6⟩ : ∃ q, x.hasPrio = q := ⟨_, rfl⟩
  obtain ⟨ht, h7⟩ : ∃ q, x.hasTime = q := ⟨_, rfl⟩
  obtain ⟨k, h8⟩ : ∃ q, x.kind = q := ⟨_, rfl⟩
  obtain ⟨M, h9⟩ : ∃ q, missQ x = q := ⟨_, rfl⟩
  rw [h1, h2, h3, h4, h5, h6, h7, h8, h9] at HM
  rw [h1] at e3
  rw [h2] at e4
  rw [h3] at e6
  rw [h5] at e7
  rw [h6] at e11
  rw [h7] at e13
  rw [h4] at e16
  rw [h8] at e0
  rw [h9]
  clear hcs h1 h2 h3 h4 h5 h6 h7 h8 h9
  have hb := heap_alloc_new w (.cells cs 27)
  have HB : Hid (Below w.heap.size w (w.alloc (.cells cs 27))) := (Below.refl _ _).alloc (Nat.le_refl _) _
  have y0 := (cell_of_row _ _ 0 _ _ _ hb).trans e0
  have y3 := (cell_of_row _ _ 3 _ _ _ hb).trans e3
  have y4 := (cell_of_row _ _ 4 _ _ _ hb).trans e4
  have y6 := (cell_of_row _ _ 6 _ _ _ hb).trans e6
  have y7 := (cell_of_row _ _ 7 _ _ _ hb).trans e7
  have y11 := (cell_of_row _ _ 11 _ _ _ hb).trans e11
  have y13 := (cell_of_row _ _ 13 _ _ _ hb).trans e13
  have y16 := (cell_of_row _ _ 16 _ _ _ hb).trans e16
  have hl := lt_of_block hb
  obtain ⟨W, hW⟩ : ∃ W, Hid (w.alloc (.cells cs 27) = W) := ⟨_, rfl⟩
  rw [hW.out] at y0 y3 y4 y6 y7 y11 y13 y16 HB hl
  clear hb e0 e3 e4 e6 e7 e11 e13 e16
  by_cases k1 : k = 1
  · subst k1
    rw [if_pos rfl] at HM
    have hn1 : ((n : Int) == 0) = decide (n = 0) := by rw [Bool.eq_iff_iff]; simp
    have hn2 : decide ((n : Int) = 0) = decide (n = 0) := by rw [Bool.eq_iff_iff]; simp
    obtain ⟨u, hu⟩ : ∃ q, (us.toList == []) = q := ⟨_, rfl⟩
    obtain ⟨a, ha⟩ : ∃ q, (ac.toList == []) = q := ⟨_, rfl⟩
    obtain ⟨p1, hp1⟩ : ∃ q, decide (n = 0) = q := ⟨_, rfl⟩
    obtain ⟨p2, hp2⟩ : ∃ q, (nd == 0) = q := ⟨_, rfl⟩
    obtain ⟨p3, hp3⟩ : ∃ q, (mn == 0) = q := ⟨_, rfl⟩
    rw [hu, ha, hp1, hp2, hp3] at HM
    rw [hp1] at hn1 hn2
    cases p1
    case' true => cases p2 <;> cases p3 <;> cases ht
    all_goals cases u
    all_goals cases a
    all_goals
      go_enter Tryz.func46, Tryz.ntmps46
      go_upto_region 1 with (fail)
      rw [hW.out]
      go_wp2
      go_ret
      exact ⟨ret_bool (by rw [HM.out]; first | rfl | (cases ht <;> rfl) | simp), HB.out⟩
  rw [if_neg k1] at HM
  have u1 : (k == 1) = false := by simpa using k1
  by_cases k5 : k = 5
  · subst k5
    rw [if_pos rfl] at HM
    cases hp <;> cases ht
    all_goals
      go_enter Tryz.func46, Tryz.ntmps46
      go_upto_region 1 with (fail)
      rw [hW.out]
      go_wp2
      go_ret
      exact ⟨ret_bool (by rw [HM.out]; rfl), HB.out⟩
  rw [if_neg k5] at HM
  have u5 : (k == 5) = false := by simpa using k5
  by_cases k6 : k = 6
  · subst k6
    rw [if_pos rfl] at HM
    go_enter Tryz.func46, Tryz.ntmps46
    go_upto_region 1 with (fail)
    rw [hW.out]
    go_wp2
    go_ret
    exact ⟨ret_bool (by rw [HM.out]), HB.out⟩
  rw [if_neg k6] at HM
  have u6 : (k == 6) = false := by simpa using k6
  clear k1 k5 k6
  go_enter Tryz.func46, Tryz.ntmps46
  go_upto_region 1 with (fail)
  rw [hW.out]
  go_wp2
  go_ret
  exact ⟨ret_bool (by rw [HM.out]), HB.out⟩
def RetShp (w : World) (C Bo : Nat) (y : Cm) (A2 : Option Addr) (c2 : Nat) (e : Ending) (w' : World) : Prop := e = .returned (.tuple #[]) ∧ ∃ A' c', CmO w' C Bo y A' c' A2 c2 ∧ w.heap.size ≤ w'.heap.size ∧ (∀ b, b < C → w'.heap[b]? = w.heap[b]?) ∧ Below C w w'
theorem shaped_any (x : Cm) (nodes wall : Int) (C Bo : Nat) (A : Option Addr) (c : Nat) (A2 : Option Addr) (c2 : Nat) (w : World) (h : CmO w C Bo x A c A2 c2) (hn : x.shape.alts.length ≤ 100000) :
    Calls Tryz.prog 48 #[.pointer (some ⟨C, 5, none⟩), .int .i64 nodes, .int .i64 wall] w (RetShp w C Bo { x with shape := shapedP x.shape nodes wall } A2 c2) := by
  have y5 : w.cell? ⟨C, 5, none⟩ = some (.int .i64 x.shape.kind) := (h.cell 5).trans rfl
  have y6 : w.cell? ⟨C, 6, none⟩ = some (.slice A x.shape.alts.length c) := (h.cell 6).trans rfl
  have y7 : w.cell? ⟨C, 7, none⟩ = some (.int .i64 x.shape.mn) := (h.cell 7).trans rfl
  have y9 : w.cell? ⟨C, 9, none⟩ = some (.int .i64 x.shape.wall) := (h.cell 9).trans rfl
  have hfz : ∀ j, w.frozen? ⟨C, j, none⟩ = false := fun j => fz_of h.blk
  have hlt := lt_of_block h.blk
  have H := Lib.hid h
  have one : ∀ (w' : World) (s : Sh), s.alts = x.shape.alts → Kb (· = C) w w' → w'.heap[C]? = some (.cells (cmA { x with shape := s } A c A2 c2) 27 (0, 0)) → RetShp w C Bo { x with shape := s } A2 c2 (.returned (.tuple #[])) w' := by
    intro w' s hs kk hb
    refine ⟨rfl, A, c, h.to hb kk hs rfl, kk.size, fun b hbC => kk.block b (Nat.lt_trans hbC hlt) (fun e => ?_), kk.below (fun k e => ?_) (Nat.le_of_lt hlt)⟩
    · have e2 : b = C := e
      omega
    · have e2 : k = C := e
      omega
  have ONE := Lib.hid one
  have HS : Hid (shapedP x.shape nodes wall = if 0 < x.shape.alts.length then ⟨if 0 < nodes then 0 else 2, x.shape.alts, x.shape.mn, x.shape.mx, wall⟩ else if 0 < x.shape.mn then ⟨if 0 < nodes then 0 else 3, x.shape.alts, x.shape.mn, x.shape.mx, wall⟩ else ⟨1, [(nodes, wall)], x.shape.mn, x.shape.mx, x.shape.wall⟩) := rfl
  clear h one
  by_cases h1 : 0 < x.shape.alts.length
  · have t1 : decide ((0 : Int) < (x.shape.alts.length : Int)) = true := by simpa using h1
    have t1' : decide (0 < x.shape.alts.length) = true := by simpa using h1
    rw [if_pos h1] at HS
    by_cases h2 : 0 < nodes
    · have t2 : decide (0 < nodes) = true := by simpa using h2
      rw [if_pos h2] at HS
      rw [HS.out]
      clear h1 h2 HS
      go_enter Tryz.func48, Tryz.ntmps48
      go_wp2
      go_end0
      exact ONE.out _ _ rfl (Kb.set_ (S := (· = C)) (Kb.set_ (S := (· = C)) (Kb.set_ (S := (· = C)) (Kb.refl _ w) (p := ⟨C, 5, none⟩) rfl _) (p := ⟨C, 9, none⟩) rfl _) (p := ⟨C, 5, none⟩) rfl _) (setCell_blk (k := 5) (setCell_blk (k := 9) (setCell_blk (k := 5) H.out.blk)))
    · have t2 : decide (0 < nodes) = false := by simpa using h2
      rw [if_neg h2] at HS
      rw [HS.out]
      clear h1 h2 HS
      go_enter Tryz.func48, Tryz.ntmps48
      go_wp2
      go_end0
      exact ONE.out _ _ rfl (Kb.set_ (S := (· = C)) (Kb.set_ (S := (· = C)) (Kb.refl _ w) (p := ⟨C, 5, none⟩) rfl _) (p := ⟨C, 9, none⟩) rfl _) (setCell_blk (k := 9) (setCell_blk (k := 5) H.out.blk))
  have t1 : decide ((0 : Int) < (x.shape.alts.length : Int)) = false := decide_eq_false (by omega)
  have t1' : decide (0 < x.shape.alts.length) = false := decide_eq_false h1
  rw [if_neg h1] at HS
  by_cases h3 : 0 < x.shape.mn
  · have t3 : decide (0 < x.shape.mn) = true := by simpa using h3
    rw [if_pos h3] at HS
    by_cases h2 : 0 < nodes
    · have t2 : decide (0 < nodes) = true := by simpa using h2
      rw [if_pos h2] at HS
      rw [HS.out]
      clear h1 h2 h3 HS
      go_enter Tryz.func48, Tryz.ntmps48
      go_wp2
      go_end0
      exact ONE.out _ _ rfl (Kb.set_ (S := (· = C)) (Kb.set_ (S := (· = C)) (Kb.set_ (S := (· = C)) (Kb.refl _ w) (p := ⟨C, 5, none⟩) rfl _) (p := ⟨C, 9, none⟩) rfl _) (p := ⟨C, 5, none⟩) rfl _) (setCell_blk (k := 5) (setCell_blk (k := 9) (setCell_blk (k := 5) H.out.blk)))
    · have t2 : decide (0 < nodes) = false := by simpa using h2
      rw [if_neg h2] at HS
      rw [HS.out]
      clear h1 h2 h3 HS
      go_enter Tryz.func48, Tryz.ntmps48
      go_wp2
      go_end0
      exact ONE.out _ _ rfl (Kb.set_ (S := (· = C)) (Kb.set_ (S := (· = C)) (Kb.refl _ w) (p := ⟨C, 5, none⟩) rfl _) (p := ⟨C, 9, none⟩) rfl _) (setCell_blk (k := 9) (setCell_blk (k := 5) H.out.blk))
  have t3 : decide (0 < x.shape.mn) = false := by simpa using h3
  rw [if_neg h3] at HS
  rw [HS.out]
  clear h1 h3 HS
  go_enter Tryz.func48, Tryz.ntmps48
  go_wp2
  go_end0
  have k3 : Kb (· = C) w ((w.setCell ⟨C, 5, none⟩ (.int .i64 1)).setCell ⟨C, 6, none⟩ (.slice (some ⟨w.heap.size, 0, none⟩) 1 1)) := Kb.set_ (S := (· = C)) (Kb.set_ (S := (· = C)) (Kb.refl _ w) (p := ⟨C, 5, none⟩) rfl _) (p := ⟨C, 6, none⟩) rfl _
  have k4 := k3.alloc (.cells #[.int .i64 nodes, .int .i64 wall] 82)
  have hz : ((w.setCell ⟨C, 5, none⟩ (.int .i64 1)).setCell ⟨C, 6, none⟩ (.slice (some ⟨w.heap.size, 0, none⟩) 1 1)).heap.size = w.heap.size := by simp [World.setCell]
  have hm := Owns.madeN ((w.setCell ⟨C, 5, none⟩ (.int .i64 1)).setCell ⟨C, 6, none⟩ (.slice (some ⟨w.heap.size, 0, none⟩) 1 1)) (recs prC [(nodes, wall)]) 82 (n := 1) (size := 2) (B := Bo) (by simp [recs, prC]) (by unfold maxLen; omega) (by rw [hz]; exact H.out.hi)
  rw [hz] at hm
  refine ⟨rfl, some ⟨w.heap.size, 0, none⟩, 1, ⟨(Below.heap_alloc _ _ _ (by rw [hz]; exact hlt)).trans (setCell_blk (k := 6) (setCell_blk (k := 5) H.out.blk)), hm, H.out.aft.kb k4 (fun k e => ?_), H.out.lt, fun a b ha hb => ?_, ⟨fun a ha => ?_, fun a ha => Nat.lt_of_lt_of_le (H.out.lo.2 a ha) k4.size⟩, Nat.le_trans H.out.hi k4.size⟩, k4.size, fun b hbC => k4.block b (Nat.lt_trans hbC hlt) (fun e => ?_), k4.below (fun k e => ?_) (Nat.le_of_lt hlt)⟩
  · have e2 : k = C := e
    rw [e2]; exact H.out.lt
  · have := H.out.lo.2 b hb
    injection ha with ha
    rw [← ha]
    show w.heap.size ≠ b.block
    omega
  · injection ha with ha
    rw [← ha]
    show w.heap.size < _
    rw [World.size_alloc, hz]; omega
  · have e2 : b = C := e
    omega
  · have e2 : k = C := e
    omega
end Go.Proofs.YtjmhaoplablmnaaGreatDoor
