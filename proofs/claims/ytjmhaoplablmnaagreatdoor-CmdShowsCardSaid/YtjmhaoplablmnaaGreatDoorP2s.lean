/- Bundle P2. -/
import Derived.Test.YtjmhaoplablmnaaGreatDoorP1s
import Derived.Test.YtjmhaoplablmnaaGreatDoorK6s
namespace Go.Proofs.YtjmhaoplablmnaaGreatDoor
set_option linter.unusedSimpArgs false
set_option maxRecDepth 100000
set_option linter.unusedVariables false
open Go.RowKit
structure Cd (w : World) (R B : Nat) (A : Option Addr) (n c : Nat) (ts : List Tk) (en : Int) (r : Rr) : Prop where
  blk : w.heap[R]? = some (.cells #[.slice A n c, .int .i64 r.at_, .int .i64 en, .int .i64 r.bad] 67 (0, 0))
  rd : Reads w B 4 A n (recs tkC ts)
  hB : B ≤ R
  hn : n ≤ 1000000
  sz : ∀ t ∈ ts, t.text.size ≤ 100000
section
variable {w w' : World} {R B n c : Nat} {A : Option Addr} {ts : List Tk} {en : Int} {r : Rr}
theorem Cd.lt (h : Cd w R B A n c ts en r) : R < w.heap.size := lt_of_block h.blk
theorem Cd.c0 (h : Cd w R B A n c ts en r) : w.cell? ⟨R, 0, none⟩ = some (.slice A n c) := by simp [World.cell?, h.blk]
theorem Cd.c1 (h : Cd w R B A n c ts en r) : w.cell? ⟨R, 1, none⟩ = some (.int .i64 r.at_) := by simp [World.cell?, h.blk]
theorem Cd.c2 (h : Cd w R B A n c ts en r) : w.cell? ⟨R, 2, none⟩ = some (.int .i64 en) := by simp [World.cell?, h.blk]
theorem Cd.c3 (h : Cd w R B A n c ts en r) : w.cell? ⟨R, 3, none⟩ = some (.int .i64 r.bad) := by simp [World.cell?, h.blk]
theorem Cd.fz (h : Cd w R B A n c ts en r) (j : Nat) : w.frozen? ⟨R, j, none⟩ = false := by simp [World.frozen?, h.blk]
theorem Cd.len (h : Cd w R B A n c ts en r) : ts.length = n := (h.rd.rec_len tkC_len (by omega)).out
theorem Cd.kb {S : Nat → Prop} (h : Cd w R B A n c ts en r) (hk : Kb S w w') (hR : ¬ S R) (hS : ∀ k, S k → B ≤ k) : Cd w' R B A n c ts en r :=
  ⟨(hk.block R h.lt hR).trans h.blk, h.rd.below (hk.below hS (Nat.le_trans h.hB (Nat.le_of_lt h.lt))), h.hB, h.hn, h.sz⟩
theorem Cd.below (h : Cd w R B A n c ts en r) (hb : Below w.heap.size w w') : Cd w' R B A n c ts en r := h.kb (S := fun _ => False) (Kb.of_below hb) id (fun _ x => x.elim)
theorem Cd.drew (h : Cd w R B A n c ts en r) : Cd w.drew R B A n c ts en r := h.below (below_drew (Below.refl _ _))
theorem Cd.drewN (h : Cd w R B A n c ts en r) (m : Nat) : Cd (w.drewN m) R B A n c ts en r := h.below (below_drewN (Below.refl _ _) _)
theorem Cd.alloc (h : Cd w R B A n c ts en r) (o : Obj) : Cd (w.alloc o) R B A n c ts en r := h.below ((Below.refl _ _).alloc (Nat.le_refl _) _)
theorem Cd.set1 (h : Cd w R B A n c ts en r) (k' : Nat) : Cd (w.setCell ⟨R, 1, none⟩ (.int .i64 (k' : Int))) R B A n c ts en ⟨k', r.bad⟩ :=
  ⟨by simp [World.setCell, Array.getElem?_modify, h.blk], h.rd.below ((Below.refl _ _).setCell (p := ⟨R, 1, none⟩) h.hB _), h.hB, h.hn, h.sz⟩
theorem Cd.set3 (h : Cd w R B A n c ts en r) (b' : Int) : Cd (w.setCell ⟨R, 3, none⟩ (.int .i64 b')) R B A n c ts en ⟨r.at_, b'⟩ :=
  ⟨by simp [World.setCell, Array.getElem?_modify, h.blk], h.rd.below ((Below.refl _ _).setCell (p := ⟨R, 3, none⟩) h.hB _), h.hB, h.hn, h.sz⟩
end
theorem cfail_any (R B n c : Nat) (A : Option Addr) (ts : List Tk) (en : Int) (r : Rr) (w : World) (h : Cd w R B A n c ts en r) :
    Calls Tryz.prog 47 #[.pointer (some ⟨R, 0, none⟩)] w fun e w' => e = .returned (.tuple #[]) ∧ Cd w' R B A n c ts en (failP ts en r) ∧ Kb (· = R) w w' := by
  have d0 := h.c0
  have d1 := h.c1
  have d2 := h.c2
  have d3 := h.c3
  have hlen := Lib.hid h.len
  have hR := h.lt
  by_cases hb : 0 ≤ r.bad
  · have t1 : decide (0 ≤ r.bad) = true := by simpa using hb
    have H := Lib.hid h
    have HF : Hid (failP ts en r = r) := by show _ = _; unfold failP; rw [if_pos hb]
    clear hb h d0 d1 d2
    obtain ⟨b, hb⟩ : ∃ b, r.bad = b := ⟨_, rfl⟩
    rw [hb] at t1 d3
    go_enter Tryz.func47, Tryz.ntmps47
    go_wp2
    refine bodyPost_ret (results_none rfl _ _ _) rfl ?_
    exact ⟨rfl, by rw [HF.out]; exact H.out, Kb.refl _ _⟩
  have t1 : decide (0 ≤ r.bad) = false := by simpa using hb
  have HS := Lib.hid (fun b' => (h.set3 en).set3 b')
  have HZ := Lib.hid h
  have f3 := h.fz 3
  have m0 := (h.set3 en).c0
  have m1 := (h.set3 en).c1
  have m3 := (h.set3 en).c3
  have mf := (h.set3 en).fz 3
  have HK := Lib.hid (fun b' => ((Kb.refl (· = R) w).set_ (p := ⟨R, 3, none⟩) rfl (.int .i64 en)).set_ (p := ⟨R, 3, none⟩) rfl (.int .i64 b'))
  have HK0 := Lib.hid (((Kb.refl (· = R) w).set_ (p := ⟨R, 3, none⟩) rfl (.int .i64 en)))
  have HS0 := Lib.hid (h.set3 en)
  obtain ⟨bd, hbd⟩ : ∃ b, Hid (r.bad = b) := ⟨_, rfl⟩
  rw [hbd.out] at t1 d3
  by_cases hk : r.at_ < n
  · have hr1 := (h.set3 en).rd
    obtain ⟨b, o, t, rfl, hbb, hx, c0, c1, c2, c3⟩ := hr1.tk_at hk
    have hne : b ≠ R := by have := h.hB; omega
    have q3 : (w.setCell ⟨R, 3, none⟩ (.int .i64 en)).cell? ⟨b, o + r.at_ * 4 + 3, none⟩ = some (.int .i64 t.at_) := c3
    have HF : Hid (failP ts en r = ⟨r.at_, t.at_⟩) := by show _ = _; unfold failP placeP; rw [if_neg hb, hx.out]
    have t2 : decide ((r.at_ : Int) < (n : Int)) = true := by simpa using hk
    have t3 : decide (r.at_ < n) = true := by simpa using hk
    have hj0 : (0 : Int) ≤ (r.at_ : Int) := by omega
    have hj1 : (r.at_ : Int) < (n : Int) := by omega
    obtain ⟨k, hk2⟩ : ∃ k, Hid (r.at_ = k) := ⟨_, rfl⟩
    rw [hk2.out] at d1 m1 q3 t2 t3 hj0 hj1
    obtain ⟨W1, hW1⟩ : ∃ W1, Hid (w.setCell ⟨R, 3, none⟩ (.int .i64 en) = W1) := ⟨_, rfl⟩
    rw [hW1.out] at m0 m1 m3 mf q3 HS HK HK0 HS0
    clear hr1 c0 c1 c2 c3 h hb hk
    go_enter Tryz.func47, Tryz.ntmps47
    go_wp2_with (fail)
    rw [hW1.out]
    go_upto_region 2 with (fail)
    go_quiet (fail)
    go_upto_region 3 with (fail)
    go_region
    go_end0
    exact ⟨rfl, by rw [HF.out]; exact (HS0.out.drewN _).set3 _, (HK0.out.drewN _).set_ (p := ⟨R, 3, none⟩) rfl _⟩
  · have hf2 : placeP ts en r.at_ = en := by unfold placeP; rw [List.getElem?_eq_none (by rw [hlen.out]; omega)]
    have HF : Hid (failP ts en r = ⟨r.at_, en⟩) := by show _ = _; unfold failP; rw [if_neg hb, hf2]
    have t2 : decide ((r.at_ : Int) < (n : Int)) = false := by simp; omega
    have t3 : decide (r.at_ < n) = false := by simp; omega
    obtain ⟨k, hk2⟩ : ∃ k, Hid (r.at_ = k) := ⟨_, rfl⟩
    rw [hk2.out] at d1 m1 t2 t3
    obtain ⟨W1, hW1⟩ : ∃ W1, Hid (w.setCell ⟨R, 3, none⟩ (.int .i64 en) = W1) := ⟨_, rfl⟩
    rw [hW1.out] at m0 m1 m3 mf HS HK HK0 HS0
    clear h hb hk hf2
    go_enter Tryz.func47, Tryz.ntmps47
    go_wp2_with (fail)
    rw [hW1.out]
    go_upto_region 2 with (fail)
    go_quiet (fail)
    go_wp2
    go_end0
    exact ⟨rfl, by rw [HF.out]; exact HS0.out.drewN _, HK0.out.drewN _⟩
theorem mayP_bad {ts : List Tk} {k : Int} {p : Tk → Bool} {r : Rr} (h : ¬ r.bad < 0) : mayP ts k p r = none := by unfold mayP; rw [if_neg h]
theorem mayP_end {ts : List Tk} {k : Int} {p : Tk → Bool} {r : Rr} (h : ts.length ≤ r.at_) : mayP ts k p r = none := by
  unfold mayP
  split
  · rw [List.getElem?_eq_none h]
  · rfl
theorem mayP_at {ts : List Tk} {k : Int} {p : Tk → Bool} {r : Rr} {t : Tk} (hb : r.bad < 0) (h : ts[r.at_]? = some t) : mayP ts k p r = if t.kind = k ∧ p t = true then some t else none := by
  unfold mayP; rw [if_pos hb, h]
theorem csees_any (R B n c : Nat) (A : Option Addr) (ts : List Tk) (en : Int) (r : Rr) (k : Int) (w : World) (h : Cd w R B A n c ts en r) :
    Calls Tryz.prog 75 #[.pointer (some ⟨R, 0, none⟩), .int .i64 k] w fun e w' => e = .returned (.bool (seesP ts k r)) ∧ ∃ q, w' = w.drewN q := by
  have d0 := h.c0
  have d1 := h.c1
  have d3 := h.c3
  have hlen := h.len
  by_cases hb : r.bad < 0
  case neg =>
    have t1 : decide (r.bad < 0) = false := by simpa using hb
    have HS : Hid (seesP ts k r = false) := by show _ = _; unfold seesP; rw [mayP_bad hb]; rfl
    obtain ⟨bd, hbd⟩ : ∃ b, r.bad = b := ⟨_, rfl⟩
    rw [hbd] at t1 d3
    clear hb h hbd
    go_enter Tryz.func75, Tryz.ntmps75
    go_upto_region 1 with (fail)
    go_quiet (fail)
    go_wp2
    go_ret
    exact ⟨by rw [HS.out]; rfl, _, rfl⟩
  have t1 : decide (r.bad < 0) = true := by simpa using hb
  by_cases hk : r.at_ < n
  case neg =>
    have HS : Hid (seesP ts k r = false) := by show _ = _; unfold seesP; rw [mayP_end (by omega)]; rfl
    have t2 : decide ((r.at_ : Int) < (n : Int)) = false := by simp; omega
    have t3 : decide (r.at_ < n) = false := by simp; omega
    obtain ⟨bd, hbd⟩ : ∃ b, r.bad = b := ⟨_, rfl⟩
    rw [hbd] at t1 d3
    clear hb h hbd hk
    go_enter Tryz.func75, Tryz.ntmps75
    go_upto_region 1 with (fail)
    go_quiet (fail)
    go_wp2
    go_ret
    exact ⟨by rw [HS.out]; rfl, _, rfl⟩
  obtain ⟨b, o, t, rfl, hbb, hx, c0, c1, c2, c3⟩ := h.rd.tk_at hk
  have HS : Hid (seesP ts k r = (t.kind == k)) := by
    show _ = _
    unfold seesP
    rw [mayP_at hb hx.out]
    by_cases e : t.kind = k
    · rw [if_pos ⟨e, rfl⟩]; simp [e]
    · rw [if_neg (fun x => e x.1)]; simp [e]
  have t2 : decide ((r.at_ : Int) < (n : Int)) = true := by simpa using hk
  have t3 : decide (r.at_ < n) = true := by simpa using hk
  have hj0 : (0 : Int) ≤ (r.at_ : Int) := by omega
  have hj1 : (r.at_ : Int) < (n : Int) := by omega
  obtain ⟨bd, hbd⟩ : ∃ b, r.bad = b := ⟨_, rfl⟩
  rw [hbd] at t1 d3
  obtain ⟨j, hj⟩ : ∃ k, r.at_ = k := ⟨_, rfl⟩
  rw [hj] at d1 c0 t2 t3 hj0 hj1
  clear hb h hbd hk c1 c2 c3 hx hj
  rw [HS.out]
  clear HS
  go_enter Tryz.func75, Tryz.ntmps75
  go_upto_region 1 with (fail)
  go_quiet (fail)
  go_wp2
  go_ret
  exact ⟨rfl, _, rfl⟩
theorem Kb.set4 {S : Nat → Prop} {w v : World} {T : Nat} (h : Kb S w v) (hT : w.heap.size ≤ T) (a0 a1 a2 a3 : Value) : Kb S w ((((v.setCell ⟨T, 0, none⟩ a0).setCell ⟨T, 1, none⟩ a1).setCell ⟨T, 2, none⟩ a2).setCell ⟨T, 3, none⟩ a3) :=
  Kb.fresh (((((h.mono (fun _ x => Or.inl x)).set_ (p := ⟨T, 0, none⟩) (Or.inr hT) a0).set_ (p := ⟨T, 1, none⟩) (Or.inr hT) a1).set_ (p := ⟨T, 2, none⟩) (Or.inr hT) a2).set_ (p := ⟨T, 3, none⟩) (Or.inr hT) a3)
theorem Cd.set4 {v : World} {R B n c T : Nat} {A : Option Addr} {ts : List Tk} {en : Int} {r : Rr} (h : Cd v R B A n c ts en r) (hT : R < T) (a0 a1 a2 a3 : Value) : Cd ((((v.setCell ⟨T, 0, none⟩ a0).setCell ⟨T, 1, none⟩ a1).setCell ⟨T, 2, none⟩ a2).setCell ⟨T, 3, none⟩ a3) R B A n c ts en r :=
  h.kb (S := (· = T)) (((((Kb.refl (· = T) v).set_ (p := ⟨T, 0, none⟩) rfl a0).set_ (p := ⟨T, 1, none⟩) rfl a1).set_ (p := ⟨T, 2, none⟩) rfl a2).set_ (p := ⟨T, 3, none⟩) rfl a3) (by omega) (fun k hk => by have := h.hB; omega)
theorem setc4_blk {v : World} {T b : Nat} (h : b ≠ T) (a0 a1 a2 a3 : Value) : ((((v.setCell ⟨T, 0, none⟩ a0).setCell ⟨T, 1, none⟩ a1).setCell ⟨T, 2, none⟩ a2).setCell ⟨T, 3, none⟩ a3).heap[b]? = v.heap[b]? := by
  rw [Below.heap_setCell _ _ _ _ (by exact h), Below.heap_setCell _ _ _ _ (by exact h), Below.heap_setCell _ _ _ _ (by exact h), Below.heap_setCell _ _ _ _ (by exact h)]
set_option maxHeartbeats 2000000 in
theorem ctake_any (R B n c : Nat) (A : Option Addr) (ts : List Tk) (en : Int) (r : Rr) (k : Int) (F : FuncId) (caps : Array Value) (hF : Enters Tryz.prog F) (p : Tk → Bool) (H : Nat → Prop) (J : World → Prop) (w : World)
    (hR : ¬ H R) (hHB : ∀ b, H b → B ≤ b) (hHw : ∀ b, H b → b < w.heap.size) (hJ : ∀ v v', J v → (∀ b, H b → v'.heap[b]? = v.heap[b]?) → J v')
    (hc : ∀ t v, r.bad < 0 → ts[r.at_]? = some t → t.kind = k → Below w.heap.size w v → Calls Tryz.prog F (#[tkV t] ++ caps) v fun e v' => e = .returned (.bool (p t)) ∧ Kb H v v' ∧ J v')
    (h : Cd w R B A n c ts en r) :
    Calls Tryz.prog 72 #[.pointer (some ⟨R, 0, none⟩), .int .i64 k, .func (.func F) #[] caps] w fun e w' =>
      e = .returned (.tuple #[tkV (takeP ts en k p r).1, .bool (takeP ts en k p r).2.1]) ∧ Cd w' R B A n c ts en (takeP ts en k p r).2.2 ∧ Kb (fun b => b = R ∨ H b) w w' ∧ (∀ t, r.bad < 0 → ts[r.at_]? = some t → t.kind = k → J w') := by
  have hlen := h.len
  have hlt := h.lt
  obtain ⟨W, hW⟩ : ∃ W, Hid (w.alloc (.cells #[.int .i64 0, .string ⟨#[]⟩, .int .i64 0, .int .i64 0] 96) = W) := ⟨_, rfl⟩
  have hWB : Below w.heap.size w W := by rw [← hW.out]; exact (Below.refl _ _).alloc (Nat.le_refl _) _
  have hWs : W.heap.size = w.heap.size + 1 := by rw [← hW.out]; simp
  have hWT : W.heap[w.heap.size]? = some (.cells #[.int .i64 0, .string ⟨#[]⟩, .int .i64 0, .int .i64 0] 96 (0, 0)) := by rw [← hW.out]; exact heap_alloc_new w _
  have h1 := h.below hWB
  have d0 := h1.c0
  have d1 := h1.c1
  have d3 := h1.c3
  -- nothing is taken: what is left
  have hfail : ∀ v, Cd v R B A n c ts en r → v.heap[w.heap.size]? = some (.cells #[.int .i64 0, .string ⟨#[]⟩, .int .i64 0, .int .i64 0] 96 (0, 0)) →
      Calls Tryz.prog 47 #[.pointer (some ⟨R, 0, none⟩)] v fun e v' => e = .returned (.tuple #[]) ∧ Cd v' R B A n c ts en (failP ts en r) ∧ Kb (· = R) v v' ∧ v'.heap[w.heap.size]? = some (.cells #[.int .i64 0, .string ⟨#[]⟩, .int .i64 0, .int .i64 0] 96 (0, 0)) := by
    intro v hv hvt
    refine (cfail_any R B n c A ts en r v hv).mono ?_
    rintro e v' ⟨he, h2, hk⟩
    exact ⟨he, h2, hk, (hk.block _ (Array.getElem?_eq_some_iff.1 hvt).1 (by show ¬ w.heap.size = R; omega)).trans hvt⟩
  have HF := Lib.hid hfail
  have HC := Lib.hid hc
  have HT := Lib.hid hWT
  have HB := Lib.hid hWB
  have H1 := Lib.hid h1
  obtain ⟨f0, z0, z1, z2, z3⟩ := row4 hWT
  by_cases hb : r.bad < 0
  case neg =>
    have t1 : decide (r.bad < 0) = false := by simpa using hb
    have HS : Hid (takeP ts en k p r = (tk0, false, failP ts en r)) := by show _ = _; unfold takeP; rw [mayP_bad hb]
    have HNo : Hid (∀ v : World, ∀ t, r.bad < 0 → ts[r.at_]? = some t → t.kind = k → J v) := fun v t x => absurd x hb
    obtain ⟨bd, hbd⟩ : ∃ b, r.bad = b := ⟨_, rfl⟩
    rw [hbd] at t1 d3
    clear hb h hbd h1 hfail hc hWT hWB
    go_enter Tryz.func72, Tryz.ntmps72
    go_upto_region 1 with (fail)
    rw [hW.out]
    go_quiet (fail)
    go_wp2_with (fail)
    refine (HF.out _ (H1.out.drewN _) HT.out).mono ?_
    rintro e w5 ⟨rfl, h5, k5, b5⟩
    have H5 := Lib.hid h5
    have K5 := Lib.hid k5
    have B5 := Lib.hid b5
    obtain ⟨f5, y0, y1, y2, y3⟩ := row4 b5
    clear h5 k5 b5
    go_wp2
    refine bodyPost_ret (results_cell1 rfl _ _ w.heap.size _ _ _ _ rfl (set4_blk B5.out) Tryz.underlying96 rfl (by kernel_rfl)) rfl ?_
    rw [HS.out]
    refine ⟨rfl, H5.out.set4 hlt _ _ _ _, ?_, ?_⟩
    · exact Kb.set4 ((((Kb.of_below HB.out).drewN _).trans (K5.out.mono (fun _ x => Or.inl x)))) (Nat.le_refl _) _ _ _ _
    · exact HNo.out _
  have t1 : decide (r.bad < 0) = true := by simpa using hb
  by_cases hk : r.at_ < n
  case neg =>
    have t2 : decide ((r.at_ : Int) < (n : Int)) = false := by simp; omega
    have t3 : decide (r.at_ < n) = false := by simp; omega
    have HS : Hid (takeP ts en k p r = (tk0, false, failP ts en r)) := by show _ = _; unfold takeP; rw [mayP_end (by omega)]
    have HNo : Hid (∀ v : World, ∀ t, r.bad < 0 → ts[r.at_]? = some t → t.kind = k → J v) := fun v t _ x => by
      have := (List.getElem?_eq_some_iff.1 x).1; omega
    obtain ⟨bd, hbd⟩ : ∃ b, r.bad = b := ⟨_, rfl⟩
    rw [hbd] at t1 d3
    obtain ⟨j, hj⟩ : ∃ k, r.at_ = k := ⟨_, rfl⟩
    rw [hj] at d1 t2 t3
    clear hb h hbd h1 hfail hc hWT hWB hk hj
    go_enter Tryz.func72, Tryz.ntmps72
    go_upto_region 1 with (fail)
    rw [hW.out]
    go_quiet (fail)
    go_wp2_with (fail)
    refine (HF.out _ (H1.out.drewN _) HT.out).mono ?_
    rintro e w5 ⟨rfl, h5, k5, b5⟩
    have H5 := Lib.hid h5
    have K5 := Lib.hid k5
    have B5 := Lib.hid b5
    obtain ⟨f5, y0, y1, y2, y3⟩ := row4 b5
    clear h5 k5 b5
    go_wp2
    refine bodyPost_ret (results_cell1 rfl _ _ w.heap.size _ _ _ _ rfl (set4_blk B5.out) Tryz.underlying96 rfl (by kernel_rfl)) rfl ?_
    rw [HS.out]
    refine ⟨rfl, H5.out.set4 hlt _ _ _ _, ?_, ?_⟩
    · exact Kb.set4 ((((Kb.of_below HB.out).drewN _).trans (K5.out.mono (fun _ x => Or.inl x)))) (Nat.le_refl _) _ _ _ _
    · exact HNo.out _
  obtain ⟨b, o, t, rfl, hbb, hx, c0, c1, c2, c3⟩ := h1.rd.tk_at hk
  have t2 : decide ((r.at_ : Int) < (n : Int)) = true := by simpa using hk
  have t3 : decide (r.at_ < n) = true := by simpa using hk
  have hj0 : (0 : Int) ≤ (r.at_ : Int) := by omega
  have hj1 : (r.at_ : Int) < (n : Int) := by omega
  by_cases hkk : t.kind = k
  case neg =>
    have t4 : (t.kind == k) = false := by simpa using hkk
    have HS : Hid (takeP ts en k p r = (tk0, false, failP ts en r)) := by show _ = _; unfold takeP; rw [mayP_at hb hx.out, if_neg (fun x => hkk x.1)]
    have HNo : Hid (∀ v : World, ∀ t, r.bad < 0 → ts[r.at_]? = some t → t.kind = k → J v) := fun v t2 _ x y => by
      rw [hx.out] at x; exact absurd (Option.some.inj x ▸ y) hkk
    obtain ⟨bd, hbd⟩ : ∃ b, r.bad = b := ⟨_, rfl⟩
    rw [hbd] at t1 d3
    obtain ⟨j, hj⟩ : ∃ k, r.at_ = k := ⟨_, rfl⟩
    rw [hj] at d1 t2 t3 c0 hj0 hj1
    clear hb h hbd h1 hfail hc hWT hWB hk hj c1 c2 c3 hx hkk
    go_enter Tryz.func72, Tryz.ntmps72
    go_upto_region 1 with (fail)
    rw [hW.out]
    go_quiet (fail)
    go_wp2_with (fail)
    refine (HF.out _ (H1.out.drewN _) HT.out).mono ?_
    rintro e w5 ⟨rfl, h5, k5, b5⟩
    have H5 := Lib.hid h5
    have K5 := Lib.hid k5
    have B5 := Lib.hid b5
    obtain ⟨f5, y0, y1, y2, y3⟩ := row4 b5
    clear h5 k5 b5
    go_wp2
    refine bodyPost_ret (results_cell1 rfl _ _ w.heap.size _ _ _ _ rfl (set4_blk B5.out) Tryz.underlying96 rfl (by kernel_rfl)) rfl ?_
    rw [HS.out]
    refine ⟨rfl, H5.out.set4 hlt _ _ _ _, ?_, ?_⟩
    · exact Kb.set4 ((((Kb.of_below HB.out).drewN _).trans (K5.out.mono (fun _ x => Or.inl x)))) (Nat.le_refl _) _ _ _ _
    · exact HNo.out _
  subst hkk
  have hcall := hc t W.drew hb hx.out rfl (below_drew HB.out)
  have hRW : R < W.heap.size := h1.lt
  have hbW : b < W.heap.size := cell_lt c0
  have hHb : ¬ H b := fun x => by have := hHB b x; omega
  have hS : ∀ v', Kb H W.drew v' → v'.cell? ⟨R, 0, none⟩ = some (.slice (some ⟨b, o, none⟩) n c) ∧ v'.cell? ⟨R, 1, none⟩ = some (.int .i64 r.at_) ∧ v'.cell? ⟨R, 3, none⟩ = some (.int .i64 r.bad) ∧ v'.cell? ⟨b, o + r.at_ * 4, none⟩ = some (.int .i64 t.kind) ∧ v'.cell? ⟨b, o + r.at_ * 4 + 1, none⟩ = some (.string t.text) ∧ v'.cell? ⟨b, o + r.at_ * 4 + 2, none⟩ = some (.int .i64 t.num) ∧ v'.cell? ⟨b, o + r.at_ * 4 + 3, none⟩ = some (.int .i64 t.at_) := fun v' hv =>
    ⟨(hv.cell (p := ⟨R, 0, none⟩) hRW hR).trans d0, (hv.cell (p := ⟨R, 1, none⟩) hRW hR).trans d1, (hv.cell (p := ⟨R, 3, none⟩) hRW hR).trans d3, (hv.cell (p := ⟨b, _, none⟩) hbW hHb).trans c0, (hv.cell (p := ⟨b, _, none⟩) hbW hHb).trans c1, (hv.cell (p := ⟨b, _, none⟩) hbW hHb).trans c2, (hv.cell (p := ⟨b, _, none⟩) hbW hHb).trans c3⟩
  unfold tkV at hcall
  have hT0 : ¬ H w.heap.size := fun x => by have := hHw _ x; omega
  obtain ⟨bd, hbd⟩ : ∃ b, Hid (r.bad = b) := ⟨_, rfl⟩
  rw [hbd.out] at t1 d3 hS
  obtain ⟨j, hj⟩ : ∃ k, Hid (r.at_ = k) := ⟨_, rfl⟩
  rw [hj.out] at d1 t2 t3 c0 c1 c2 c3 hj0 hj1 hS
  have hjn : j < n := by omega
  have HHR := Lib.hid hR
  have HH0 := Lib.hid hT0
  have HHB := Lib.hid hHB
  have HHw := Lib.hid hHw
  have HJ := Lib.hid hJ
  cases hp : p t with
  | false =>
    rw [hp] at hcall
    have HS : Hid (takeP ts en t.kind p r = (tk0, false, failP ts en r)) := by show _ = _; unfold takeP; rw [mayP_at hb hx.out, if_neg (fun x => by rw [hp] at x; cases x.2)]
    clear h h1 hfail hc hWT hWB hk hb
    go_enter Tryz.func72, Tryz.ntmps72
    go_upto_region 1 with (fail)
    rw [hW.out]
    refine wp_region_held_drew (S := (fun v' => v'.cell? ⟨R, 0, none⟩ = some (.slice (some ⟨b, o, none⟩) n c) ∧ v'.cell? ⟨R, 1, none⟩ = some (.int .i64 j) ∧ v'.cell? ⟨R, 3, none⟩ = some (.int .i64 bd) ∧ v'.cell? ⟨b, o + j * 4, none⟩ = some (.int .i64 t.kind) ∧ v'.cell? ⟨b, o + j * 4 + 1, none⟩ = some (.string t.text) ∧ v'.cell? ⟨b, o + j * 4 + 2, none⟩ = some (.int .i64 t.num) ∧ v'.cell? ⟨b, o + j * 4 + 3, none⟩ = some (.int .i64 t.at_))) (by kernel_rfl) ?_ (fun hHeld => ?_)
    · (try dsimp only); (first | assumption | exact ⟨d0, d1, d3, c0, c1, c2, c3⟩ | exact hS _ (by assumption))
    refine wpAnyH_take (i := 0) (oi := ⟨_, _, _, _, _, _⟩) (v := ?v_47) rfl (by kernel_rfl) (by kernel_rfl) (by kernel_rfl) (fun _ _ _ h => h) (Or.inl ⟨by rfl, ?hy_47⟩) (by assumption) ?r_47
    case hy_47 => (intro w_ hS_; (try dsimp only at hS_); go_simp; try with_reducible rfl)
    try simp only [Act.put, List.setIfInBounds_toArray, List.set_cons_zero, List.set_cons_succ]
    refine wpAnyH_take (i := 1) (oi := ⟨_, _, _, _, _, _⟩) (v := ?v_48) rfl (by kernel_rfl) (by kernel_rfl) (by kernel_rfl) (fun _ _ _ h => h) (Or.inl ⟨by rfl, ?hy_48⟩) (by assumption) ?r_48
    case hy_48 => (intro w_ hS_; (try dsimp only at hS_); go_simp; try with_reducible rfl)
    try simp only [Act.put, List.setIfInBounds_toArray, List.set_cons_zero, List.set_cons_succ]
    refine wpAnyH_take (i := 2) (oi := ⟨_, _, _, _, _, _⟩) (v := ?v_49) rfl (by kernel_rfl) (by kernel_rfl) (by kernel_rfl) (fun _ _ _ h => h) (Or.inl ⟨by rfl, ?hy_49⟩) (by assumption) ?r_49
    case hy_49 => (intro w_ hS_; (try dsimp only at hS_); go_simp; try with_reducible rfl)
    try simp only [Act.put, List.setIfInBounds_toArray, List.set_cons_zero, List.set_cons_succ]
    refine wpAnyH_take (i := 3) (oi := ⟨_, _, _, _, _, _⟩) (v := ?v_50) rfl (by kernel_rfl) (by kernel_rfl) (by kernel_rfl) (fun _ _ _ h => h) (Or.inl ⟨by rfl, ?hy_50⟩) (by assumption) ?r_50
    case hy_50 => (intro w_ hS_; (try dsimp only at hS_); go_simp; try with_reducible rfl)
    try simp only [Act.put, List.setIfInBounds_toArray, List.set_cons_zero, List.set_cons_succ]
    refine wpAnyH_take (i := 4) (oi := ⟨_, _, _, _, _, _⟩) (v := ?v_51) rfl (by kernel_rfl) (by kernel_rfl) (by kernel_rfl) (fun _ _ _ h => h) (Or.inl ⟨by rfl, ?hy_51⟩) (by assumption) ?r_51
    case hy_51 => (intro w_ hS_; (try dsimp only at hS_); go_simp; try with_reducible rfl)
    try simp only [Act.put, List.setIfInBounds_toArray, List.set_cons_zero, List.set_cons_succ]
    refine wpAnyH_take (i := 5) (oi := ⟨_, _, _, _, _, _⟩) (v := ?v_52) rfl (by kernel_rfl) (by kernel_rfl) (by kernel_rfl) (fun _ _ _ h => h) (Or.inl ⟨by rfl, ?hy_52⟩) (by assumption) ?r_52
    case hy_52 => (intro w_ hS_; (try dsimp only at hS_); go_simp; try with_reducible rfl)
    try simp only [Act.put, List.setIfInBounds_toArray, List.set_cons_zero, List.set_cons_succ]
    refine wpAnyH_take (i := 6) (oi := ⟨_, _, _, _, _, _⟩) (v := ?v_53) rfl (by kernel_rfl) (by kernel_rfl) (by kernel_rfl) (fun _ _ _ h => h) (Or.inl ⟨by rfl, ?hy_53⟩) (by assumption) ?r_53
    case hy_53 => (intro w_ hS_; (try dsimp only at hS_); go_simp; try with_reducible rfl)
    try simp only [Act.put, List.setIfInBounds_toArray, List.set_cons_zero, List.set_cons_succ]
    refine wpAnyH_take (i := 7) (oi := ⟨_, _, _, _, _, _⟩) (v := ?v_54) rfl (by kernel_rfl) (by kernel_rfl) (by kernel_rfl) (fun _ _ _ h => h) (Or.inl ⟨by rfl, ?hy_54⟩) (by assumption) ?r_54
    case hy_54 => (intro w_ hS_; (try dsimp only at hS_); go_simp; try with_reducible rfl)
    try simp only [Act.put, List.setIfInBounds_toArray, List.set_cons_zero, List.set_cons_succ]
    refine wpAnyH_take (i := 8) (oi := ⟨_, _, _, _, _, _⟩) (v := ?v_55) rfl (by kernel_rfl) (by kernel_rfl) (by kernel_rfl) (fun _ _ _ h => h) (Or.inl ⟨by rfl, ?hy_55⟩) (by assumption) ?r_55
    case hy_55 => (intro w_ hS_; (try dsimp only at hS_); go_simp; try with_reducible rfl)
    try simp only [Act.put, List.setIfInBounds_toArray, List.set_cons_zero, List.set_cons_succ]
    refine wpAnyH_take (i := 9) (oi := ⟨_, _, _, _, _, _⟩) (v := ?v_56) rfl (by kernel_rfl) (by kernel_rfl) (by kernel_rfl) (fun _ _ _ h => h) (Or.inl ⟨by rfl, ?hy_56⟩) (by assumption) ?r_56
    case hy_56 => (intro w_ hS_; (try dsimp only at hS_); go_simp; try with_reducible rfl)
    try simp only [Act.put, List.setIfInBounds_toArray, List.set_cons_zero, List.set_cons_succ]
    refine wpAnyH_take (i := 10) (oi := ⟨_, _, _, _, _, _⟩) (v := ?v_57) rfl (by kernel_rfl) (by kernel_rfl) (by kernel_rfl) (fun _ _ _ h => h) (Or.inl ⟨by rfl, ?hy_57⟩) (by assumption) ?r_57
    case hy_57 => (intro w_ hS_; (try dsimp only at hS_); go_simp; try with_reducible rfl)
    try simp only [Act.put, List.setIfInBounds_toArray, List.set_cons_zero, List.set_cons_succ]
    refine wpAnyH_take (i := 11) (oi := ⟨_, _, _, _, _, _⟩) (v := ?v_58) rfl (by kernel_rfl) (by kernel_rfl) (by kernel_rfl) (fun _ _ _ h => h) (Or.inl ⟨by rfl, ?hy_58⟩) (by assumption) ?r_58
    case hy_58 => (intro w_ hS_; (try dsimp only at hS_); go_simp; try with_reducible rfl)
    try simp only [Act.put, List.setIfInBounds_toArray, List.set_cons_zero, List.set_cons_succ]
    refine wpAnyH_take (i := 12) (oi := ⟨_, _, _, _, _, _⟩) (v := ?v_59) rfl (by kernel_rfl) (by kernel_rfl) (by kernel_rfl) (fun _ _ _ h => h) (Or.inl ⟨by rfl, ?hy_59⟩) (by assumption) ?r_59
    case hy_59 => (intro w_ hS_; (try dsimp only at hS_); go_simp; try with_reducible rfl)
    try simp only [Act.put, List.setIfInBounds_toArray, List.set_cons_zero, List.set_cons_succ]
    refine wpAnyH_take (i := 13) (oi := ⟨_, _, _, _, _, _⟩) (v := ?v_60) rfl (by kernel_rfl) (by kernel_rfl) (by kernel_rfl) (fun _ _ _ h => h) (Or.inl ⟨by rfl, ?hy_60⟩) (by assumption) ?r_60
    case hy_60 => (intro w_ hS_; (try dsimp only at hS_); go_simp; try with_reducible rfl)
    try simp only [Act.put, List.setIfInBounds_toArray, List.set_cons_zero, List.set_cons_succ]
    refine wpAnyH_take (i := 14) (oi := ⟨_, _, _, _, _, _⟩) (v := ?v_61) rfl (by kernel_rfl) (by kernel_rfl) (by kernel_rfl) (fun _ _ _ h => h) (Or.inl ⟨by rfl, ?hy_61⟩) (by assumption) ?r_61
    case hy_61 => (intro w_ hS_; (try dsimp only at hS_); go_simp; try with_reducible rfl)
    try simp only [Act.put, List.setIfInBounds_toArray, List.set_cons_zero, List.set_cons_succ]
    refine wpAnyH_take (i := 15) (oi := ⟨_, _, _, _, _, _⟩) (v := ?v_62) rfl (by kernel_rfl) (by kernel_rfl) (by kernel_rfl) (fun _ _ _ h => h) (Or.inl ⟨by rfl, ?hy_62⟩) (by assumption) ?r_62
    case hy_62 => (intro w_ hS_; (try dsimp only at hS_); go_simp; try with_reducible rfl)
    try simp only [Act.put, List.setIfInBounds_toArray, List.set_cons_zero, List.set_cons_succ]
    refine wpAnyH_take (i := 16) (oi := ⟨_, _, _, _, _, _⟩) (v := ?v_63) rfl (by kernel_rfl) (by kernel_rfl) (by kernel_rfl) (fun _ _ _ h => h) (Or.inl ⟨by rfl, ?hy_63⟩) (by assumption) ?r_63
    case hy_63 => (intro w_ hS_; (try dsimp only at hS_); go_simp; try with_reducible rfl)
    try simp only [Act.put, List.setIfInBounds_toArray, List.set_cons_zero, List.set_cons_succ]
    refine wpAnyH_take (i := 17) (oi := ⟨_, _, _, _, _, _⟩) (v := ?v_64) rfl (by kernel_rfl) (by kernel_rfl) (by kernel_rfl) (fun _ _ _ h => h) (Or.inl ⟨by rfl, ?hy_64⟩) (by assumption) ?r_64
    case hy_64 => (intro w_ hS_; (try dsimp only at hS_); go_simp; try with_reducible rfl)
    try simp only [Act.put, List.setIfInBounds_toArray, List.set_cons_zero, List.set_cons_succ]
    refine wpAnyH_take (i := 18) (oi := ⟨_, _, _, _, _, _⟩) (v := ?v_65) rfl (by kernel_rfl) (by kernel_rfl) (by kernel_rfl) (fun _ _ _ h => h) (Or.inl ⟨by rfl, ?hy_65⟩) (by assumption) ?r_65
    case hy_65 => (intro w_ hS_; (try dsimp only at hS_); go_simp; try with_reducible rfl)
    try simp only [Act.put, List.setIfInBounds_toArray, List.set_cons_zero, List.set_cons_succ]
    refine wpAnyH_take (i := 19) (oi := ⟨_, _, _, _, _, _⟩) (v := ?v_66) rfl (by kernel_rfl) (by kernel_rfl) (by kernel_rfl) (fun _ _ _ h => h) (Or.inl ⟨by rfl, ?hy_66⟩) (by assumption) ?r_66
    case hy_66 => (intro w_ hS_; (try dsimp only at hS_); go_simp; try with_reducible rfl)
    try simp only [Act.put, List.setIfInBounds_toArray, List.set_cons_zero, List.set_cons_succ]
    refine wpAnyH_take (i := 20) (oi := ⟨_, _, _, _, _, _⟩) (v := ?v_67) rfl (by kernel_rfl) (by kernel_rfl) (by kernel_rfl) (fun _ _ _ h => h) (Or.inl ⟨by rfl, ?hy_67⟩) (by assumption) ?r_67
    case hy_67 => (intro w_ hS_; (try dsimp only at hS_); go_simp; try with_reducible rfl)
    try simp only [Act.put, List.setIfInBounds_toArray, List.set_cons_zero, List.set_cons_succ]
    refine wpAnyH_take (i := 21) (oi := ⟨_, _, _, _, _, _⟩) (v := ?v_68) rfl (by kernel_rfl) (by kernel_rfl) (by kernel_rfl) (fun _ _ _ h => h) (Or.inl ⟨by rfl, ?hy_68⟩) (by assumption) ?r_68
    case hy_68 => (intro w_ hS_; (try dsimp only at hS_); go_simp; try with_reducible rfl)
    try simp only [Act.put, List.setIfInBounds_toArray, List.set_cons_zero, List.set_cons_succ]
    refine wpAnyH_take (i := 22) (oi := ⟨_, _, _, _, _, _⟩) (v := ?v_69) rfl (by kernel_rfl) (by kernel_rfl) (by kernel_rfl) (fun _ _ _ h => h) (Or.inl ⟨by rfl, ?hy_69⟩) (by assumption) ?r_69
    case hy_69 => (intro w_ hS_; (try dsimp only at hS_); go_simp; try with_reducible rfl)
    try simp only [Act.put, List.setIfInBounds_toArray, List.set_cons_zero, List.set_cons_succ]
    refine wpAnyH_take (i := 23) (oi := ⟨_, _, _, _, _, _⟩) (v := ?v_70) rfl (by kernel_rfl) (by kernel_rfl) (by kernel_rfl) (fun _ _ _ h => h) (Or.inl ⟨by rfl, ?hy_70⟩) (by assumption) ?r_70
    case hy_70 => (intro w_ hS_; (try dsimp only at hS_); go_simp; try with_reducible rfl)
    try simp only [Act.put, List.setIfInBounds_toArray, List.set_cons_zero, List.set_cons_succ]
    refine wpAnyH_take (i := 24) (oi := ⟨_, _, _, _, _, _⟩) (v := ?v_71) rfl (by kernel_rfl) (by kernel_rfl) (by kernel_rfl) (fun _ _ _ h => h) (Or.inl ⟨by rfl, ?hy_71⟩) (by assumption) ?r_71
    case hy_71 => (intro w_ hS_; (try dsimp only at hS_); go_simp; try with_reducible rfl)
    try simp only [Act.put, List.setIfInBounds_toArray, List.set_cons_zero, List.set_cons_succ]
    refine wpAnyH_take (i := 25) (oi := ⟨_, _, _, _, _, _⟩) (v := ?v_72) rfl (by kernel_rfl) (by kernel_rfl) (by kernel_rfl) (fun _ _ _ h => h) (Or.inl ⟨by rfl, ?hy_72⟩) (by assumption) ?r_72
    case hy_72 => (intro w_ hS_; (try dsimp only at hS_); go_simp; try with_reducible rfl)
    try simp only [Act.put, List.setIfInBounds_toArray, List.set_cons_zero, List.set_cons_succ]
    refine wpAnyH_take (i := 26) (oi := ⟨_, _, _, _, _, _⟩) (v := ?v_73) rfl (by kernel_rfl) (by kernel_rfl) (by kernel_rfl) (fun _ _ _ h => h) (Or.inl ⟨by rfl, ?hy_73⟩) (by assumption) ?r_73
    case hy_73 => (intro w_ hS_; (try dsimp only at hS_); go_simp; try with_reducible rfl)
    try simp only [Act.put, List.setIfInBounds_toArray, List.set_cons_zero, List.set_cons_succ]
    refine wpAnyH_take (i := 27) (oi := ⟨_, _, _, _, _, _⟩) (v := ?v_74) rfl (by kernel_rfl) (by kernel_rfl) (by kernel_rfl) (fun _ _ _ h => h) (Or.inl ⟨by rfl, ?hy_74⟩) (by assumption) ?r_74
    case hy_74 => (intro w_ hS_; (try dsimp only at hS_); go_simp; try with_reducible rfl)
    try simp only [Act.put, List.setIfInBounds_toArray, List.set_cons_zero, List.set_cons_succ]
    refine wpAnyH_take (i := 28) (oi := ⟨_, _, _, _, _, _⟩) (v := ?v_75) rfl (by kernel_rfl) (by kernel_rfl) (by kernel_rfl) (fun _ _ _ h => h) (Or.inl ⟨by rfl, ?hy_75⟩) (by assumption) ?r_75
    case hy_75 => (intro w_ hS_; (try dsimp only at hS_); go_simp; try with_reducible rfl)
    try simp only [Act.put, List.setIfInBounds_toArray, List.set_cons_zero, List.set_cons_succ]
    refine wpAnyH_take (i := 29) (oi := ⟨_, _, _, _, _, _⟩) (v := ?v_76) rfl (by kernel_rfl) (by kernel_rfl) (by kernel_rfl) (fun _ _ _ h => h) (Or.inl ⟨by rfl, ?hy_76⟩) (by assumption) ?r_76
    case hy_76 => (intro w_ hS_; (try dsimp only at hS_); go_simp; try with_reducible rfl)
    try simp only [Act.put, List.setIfInBounds_toArray, List.set_cons_zero, List.set_cons_succ]
    refine wpAnyH_take (i := 30) (oi := ⟨_, _, _, _, _, _⟩) (v := ?v_77) rfl (by kernel_rfl) (by kernel_rfl) (by kernel_rfl) (fun _ _ _ h => h) (Or.inl ⟨by rfl, ?hy_77⟩) (by assumption) ?r_77
    case hy_77 => (intro w_ hS_; (try dsimp only at hS_); go_simp; try with_reducible rfl)
    try simp only [Act.put, List.setIfInBounds_toArray, List.set_cons_zero, List.set_cons_succ]
    refine wpAnyH_take (i := 31) (oi := ⟨_, _, _, _, _, _⟩) (v := ?v_78) rfl (by kernel_rfl) (by kernel_rfl) (by kernel_rfl) (fun _ _ _ h => h) (Or.inl ⟨by rfl, ?hy_78⟩) (by assumption) ?r_78
    case hy_78 => (intro w_ hS_; (try dsimp only at hS_); go_simp; try with_reducible rfl)
    try simp only [Act.put, List.setIfInBounds_toArray, List.set_cons_zero, List.set_cons_succ]
    refine wpAnyH_take (i := 32) (oi := ⟨_, _, _, _, _, _⟩) (v := ?v_79) rfl (by kernel_rfl) (by kernel_rfl) (by kernel_rfl) (fun _ _ _ h => h) (Or.inl ⟨by rfl, ?hy_79⟩) (by assumption) ?r_79
    case hy_79 => (intro w_ hS_; (try dsimp only at hS_); go_simp; try with_reducible rfl)
    try simp only [Act.put, List.setIfInBounds_toArray, List.set_cons_zero, List.set_cons_succ]
    refine wpAnyH_take (i := 33) (oi := ⟨_, _, _, _, _, _⟩) (v := ?v_80) rfl (by kernel_rfl) (by kernel_rfl) (by kernel_rfl) (fun _ _ _ h => h) (Or.inl ⟨by rfl, ?hy_80⟩) (by assumption) ?r_80
    case hy_80 => (intro w_ hS_; (try dsimp only at hS_); go_simp; try with_reducible rfl)
    try simp only [Act.put, List.setIfInBounds_toArray, List.set_cons_zero, List.set_cons_succ]
    refine wpAnyH_take (i := 34) (oi := ⟨_, _, _, _, _, _⟩) (v := ?v_81) rfl (by kernel_rfl) (by kernel_rfl) (by kernel_rfl) (fun _ _ _ h => h) (Or.inl ⟨by rfl, ?hy_81⟩) (by assumption) ?r_81
    case hy_81 => (intro w_ hS_; (try dsimp only at hS_); go_simp; try with_reducible rfl)
    try simp only [Act.put, List.setIfInBounds_toArray, List.set_cons_zero, List.set_cons_succ]
    refine wpAnyH_take (i := 35) (oi := ⟨_, _, _, _, _, _⟩) (v := ?v_82) rfl (by kernel_rfl) (by kernel_rfl) (by kernel_rfl) (fun _ _ _ h => h) (Or.inl ⟨by rfl, ?hy_82⟩) (by assumption) ?r_82
    case hy_82 => (intro w_ hS_; (try dsimp only at hS_); go_simp; try with_reducible rfl)
    try simp only [Act.put, List.setIfInBounds_toArray, List.set_cons_zero, List.set_cons_succ]
    refine wpAnyH_take (i := 36) (oi := ⟨_, _, _, _, _, _⟩) (v := ?v_83) rfl (by kernel_rfl) (by kernel_rfl) (by kernel_rfl) (fun _ _ _ h => h) (Or.inl ⟨by rfl, ?hy_83⟩) (by assumption) ?r_83
    case hy_83 => (intro w_ hS_; (try dsimp only at hS_); go_simp; try with_reducible rfl)
    try simp only [Act.put, List.setIfInBounds_toArray, List.set_cons_zero, List.set_cons_succ]
    refine wpAnyH_take (i := 37) (oi := ⟨_, _, _, _, _, _⟩) (v := ?v_84) rfl (by kernel_rfl) (by kernel_rfl) (by kernel_rfl) (fun _ _ _ h => h) (Or.inl ⟨by rfl, ?hy_84⟩) (by assumption) ?r_84
    case hy_84 => (intro w_ hS_; (try dsimp only at hS_); go_simp; try with_reducible rfl)
    try simp only [Act.put, List.setIfInBounds_toArray, List.set_cons_zero, List.set_cons_succ]
    refine wpAnyH_take (i := 38) (oi := ⟨_, _, _, _, _, _⟩) (v := ?v_85) rfl (by kernel_rfl) (by kernel_rfl) (by kernel_rfl) (fun _ _ _ h => h) (Or.inl ⟨by rfl, ?hy_85⟩) (by assumption) ?r_85
    case hy_85 => (intro w_ hS_; (try dsimp only at hS_); go_simp; try with_reducible rfl)
    try simp only [Act.put, List.setIfInBounds_toArray, List.set_cons_zero, List.set_cons_succ]
    refine wpAnyH_take (i := 39) (oi := ⟨_, _, _, _, _, _⟩) (v := ?v_86) rfl (by kernel_rfl) (by kernel_rfl) (by kernel_rfl) (fun _ _ _ h => h) (Or.inl ⟨by rfl, ?hy_86⟩) (by assumption) ?r_86
    case hy_86 => (intro w_ hS_; (try dsimp only at hS_); go_simp; try with_reducible rfl)
    try simp only [Act.put, List.setIfInBounds_toArray, List.set_cons_zero, List.set_cons_succ]
    refine wpAnyH_take (i := 40) (oi := ⟨_, _, _, _, _, _⟩) (v := ?v_87) rfl (by kernel_rfl) (by kernel_rfl) (by kernel_rfl) (fun _ _ _ h => h) (Or.inl ⟨by rfl, ?hy_87⟩) (by assumption) ?r_87
    case hy_87 => (intro w_ hS_; (try dsimp only at hS_); go_simp; try with_reducible rfl)
    try simp only [Act.put, List.setIfInBounds_toArray, List.set_cons_zero, List.set_cons_succ]
    refine wpAnyH_take (i := 41) (oi := ⟨_, _, _, _, _, _⟩) (v := ?v_88) rfl (by kernel_rfl) (by kernel_rfl) (by kernel_rfl) (fun _ _ _ h => h) (Or.inl ⟨by rfl, ?hy_88⟩) (by assumption) ?r_88
    case hy_88 => (intro w_ hS_; (try dsimp only at hS_); go_simp; try with_reducible rfl)
    try simp only [Act.put, List.setIfInBounds_toArray, List.set_cons_zero, List.set_cons_succ]
    refine wpAnyH_take (i := 42) (oi := ⟨_, _, _, _, _, _⟩) (v := ?v_89) rfl (by kernel_rfl) (by kernel_rfl) (by kernel_rfl) (fun _ _ _ h => h) (Or.inl ⟨by rfl, ?hy_89⟩) (by assumption) ?r_89
    case hy_89 => (intro w_ hS_; (try dsimp only at hS_); go_simp; try with_reducible rfl)
    try simp only [Act.put, List.setIfInBounds_toArray, List.set_cons_zero, List.set_cons_succ]
    refine wpAnyH_take (i := 43) (oi := ⟨_, _, _, _, _, _⟩) (v := ?v_90) rfl (by kernel_rfl) (by kernel_rfl) (by kernel_rfl) (fun _ _ _ h => h) (Or.inl ⟨by rfl, ?hy_90⟩) (by assumption) ?r_90
    case hy_90 => (intro w_ hS_; (try dsimp only at hS_); go_simp; try with_reducible rfl)
    try simp only [Act.put, List.setIfInBounds_toArray, List.set_cons_zero, List.set_cons_succ]
    refine wpAnyH_ready (rs := [44]) (by kernel_rfl) (by simp) ?_
    refine AllReadyH.cons (o := ⟨_, _, _, _, _, _⟩) rfl (fun K hK => ?_) AllReadyH.nil
    go_simp
    ((rw [hF]; refine Calls.mono hcall ?_; rintro e w7 ⟨rfl, hk7, hj7⟩; dsimp only))
    try go_wp2_with (fail)
    refine hK.out _ _ ?_ (fun hHeld => ?_)
    · (try dsimp only); (first | assumption | exact ⟨d0, d1, d3, c0, c1, c2, c3⟩ | exact hS _ (by assumption))
    clear hK K
    try simp only [Act.put, List.setIfInBounds_toArray, List.set_cons_zero, List.set_cons_succ]
    refine wpAnyH_take (i := 45) (oi := ⟨_, _, _, _, _, _⟩) (v := ?v_91) rfl (by kernel_rfl) (by kernel_rfl) (by kernel_rfl) (fun _ _ _ h => h) (Or.inl ⟨by rfl, ?hy_91⟩) (by assumption) ?r_91
    case hy_91 => (intro w_ hS_; (try dsimp only at hS_); go_simp; try with_reducible rfl)
    try simp only [Act.put, List.setIfInBounds_toArray, List.set_cons_zero, List.set_cons_succ]
    refine wpAnyH_done (by kernel_rfl) ?_ _
    have h7 := H1.out.drew.kb hk7 HHR.out HHB.out
    have ht7 : w7.heap[w.heap.size]? = some (.cells #[.int .i64 0, .string ⟨#[]⟩, .int .i64 0, .int .i64 0] 96 (0, 0)) := (hk7.block w.heap.size (by show w.heap.size < W.heap.size; omega) HH0.out).trans HT.out
    have H7 := Lib.hid h7
    have T7 := Lib.hid ht7
    have K7 := Lib.hid hk7
    have J7 := Lib.hid hj7
    clear h7 ht7 hk7 hj7 hcall hR hHB hHw hJ hS
    go_wp2_with (fail)
    refine (HF.out _ H7.out T7.out).mono ?_
    rintro e w5 ⟨rfl, h5, k5, b5⟩
    have H5 := Lib.hid h5
    have K5 := Lib.hid k5
    have B5 := Lib.hid b5
    obtain ⟨f5, y0, y1, y2, y3⟩ := row4 b5
    clear h5 k5 b5
    go_wp2
    refine bodyPost_ret (results_cell1 rfl _ _ w.heap.size _ _ _ _ rfl (set4_blk B5.out) Tryz.underlying96 rfl (by kernel_rfl)) rfl ?_
    rw [HS.out]
    refine ⟨rfl, H5.out.set4 hlt _ _ _ _, ?_, ?_⟩
    · exact Kb.set4 ((((Kb.of_below HB.out).drew).trans (K7.out.mono (fun _ x => Or.inr x))).trans (K5.out.mono (fun _ x => Or.inl x))) (Nat.le_refl _) _ _ _ _
    · intro _ _ _ _
      refine HJ.out w7 _ J7.out (fun b' hb' => ?_)
      have hb2 : b' < w.heap.size := HHw.out _ hb'
      rw [setc4_blk (by omega)]
      exact K5.out.block _ (by have := K7.out.size; have : W.drew.heap.size = W.heap.size := rfl; omega) (fun e => HHR.out (e ▸ hb'))
  | true =>
    rw [hp] at hcall
    have hnn := h.hn
    have HS : Hid (takeP ts en t.kind p r = (t, true, ⟨j + 1, r.bad⟩)) := by show _ = _; unfold takeP; rw [mayP_at hb hx.out, if_pos ⟨rfl, hp⟩, hj.out]
    clear h h1 hfail hc hWT hWB hk hb
    go_enter Tryz.func72, Tryz.ntmps72
    go_upto_region 1 with (fail)
    rw [hW.out]
    refine wp_region_held_drew (S := (fun v' => v'.cell? ⟨R, 0, none⟩ = some (.slice (some ⟨b, o, none⟩) n c) ∧ v'.cell? ⟨R, 1, none⟩ = some (.int .i64 j) ∧ v'.cell? ⟨R, 3, none⟩ = some (.int .i64 bd) ∧ v'.cell? ⟨b, o + j * 4, none⟩ = some (.int .i64 t.kind) ∧ v'.cell? ⟨b, o + j * 4 + 1, none⟩ = some (.string t.text) ∧ v'.cell? ⟨b, o + j * 4 + 2, none⟩ = some (.int .i64 t.num) ∧ v'.cell? ⟨b, o + j * 4 + 3, none⟩ = some (.int .i64 t.at_))) (by kernel_rfl) ?_ (fun hHeld => ?_)
    · (try dsimp only); (first | assumption | exact ⟨d0, d1, d3, c0, c1, c2, c3⟩ | exact hS _ (by assumption))
    refine wpAnyH_take (i := 0) (oi := ⟨_, _, _, _, _, _⟩) (v := ?v_92) rfl (by kernel_rfl) (by kernel_rfl) (by kernel_rfl) (fun _ _ _ h => h) (Or.inl ⟨by rfl, ?hy_92⟩) (by assumption) ?r_92
    case hy_92 => (intro w_ hS_; (try dsimp only at hS_); go_simp; try with_reducible rfl)
    try simp only [Act.put, List.setIfInBounds_toArray, List.set_cons_zero, List.set_cons_succ]
    refine wpAnyH_take (i := 1) (oi := ⟨_, _, _, _, _, _⟩) (v := ?v_93) rfl (by kernel_rfl) (by kernel_rfl) (by kernel_rfl) (fun _ _ _ h => h) (Or.inl ⟨by rfl, ?hy_93⟩) (by assumption) ?r_93
    case hy_93 => (intro w_ hS_; (try dsimp only at hS_); go_simp; try with_reducible rfl)
    try simp only [Act.put, List.setIfInBounds_toArray, List.set_cons_zero, List.set_cons_succ]
    refine wpAnyH_take (i := 2) (oi := ⟨_, _, _, _, _, _⟩) (v := ?v_94) rfl (by kernel_rfl) (by kernel_rfl) (by kernel_rfl) (fun _ _ _ h => h) (Or.inl ⟨by rfl, ?hy_94⟩) (by assumption) ?r_94
    case hy_94 => (intro w_ hS_; (try dsimp only at hS_); go_simp; try with_reducible rfl)
    try simp only [Act.put, List.setIfInBounds_toArray, List.set_cons_zero, List.set_cons_succ]
    refine wpAnyH_take (i := 3) (oi := ⟨_, _, _, _, _, _⟩) (v := ?v_95) rfl (by kernel_rfl) (by kernel_rfl) (by kernel_rfl) (fun _ _ _ h => h) (Or.inl ⟨by rfl, ?hy_95⟩) (by assumption) ?r_95
    case hy_95 => (intro w_ hS_; (try dsimp only at hS_); go_simp; try with_reducible rfl)
    try simp only [Act.put, List.setIfInBounds_toArray, List.set_cons_zero, List.set_cons_succ]
    refine wpAnyH_take (i := 4) (oi := ⟨_, _, _, _, _, _⟩) (v := ?v_96) rfl (by kernel_rfl) (by kernel_rfl) (by kernel_rfl) (fun _ _ _ h => h) (Or.inl ⟨by rfl, ?hy_96⟩) (by assumption) ?r_96
    case hy_96 => (intro w_ hS_; (try dsimp only at hS_); go_simp; try with_reducible rfl)
    try simp only [Act.put, List.setIfInBounds_toArray, List.set_cons_zero, List.set_cons_succ]
    refine wpAnyH_take (i := 5) (oi := ⟨_, _, _, _, _, _⟩) (v := ?v_97) rfl (by kernel_rfl) (by kernel_rfl) (by kernel_rfl) (fun _ _ _ h => h) (Or.inl ⟨by rfl, ?hy_97⟩) (by assumption) ?r_97
    case hy_97 => (intro w_ hS_; (try dsimp only at hS_); go_simp; try with_reducible rfl)
    try simp only [Act.put, List.setIfInBounds_toArray, List.set_cons_zero, List.set_cons_succ]
    refine wpAnyH_take (i := 6) (oi := ⟨_, _, _, _, _, _⟩) (v := ?v_98) rfl (by kernel_rfl) (by kernel_rfl) (by kernel_rfl) (fun _ _ _ h => h) (Or.inl ⟨by rfl, ?hy_98⟩) (by assumption) ?r_98
    case hy_98 => (intro w_ hS_; (try dsimp only at hS_); go_simp; try with_reducible rfl)
    try simp only [Act.put, List.setIfInBounds_toArray, List.set_cons_zero, List.set_cons_succ]
    refine wpAnyH_take (i := 7) (oi := ⟨_, _, _, _, _, _⟩) (v := ?v_99) rfl (by kernel_rfl) (by kernel_rfl) (by kernel_rfl) (fun _ _ _ h => h) (Or.inl ⟨by rfl, ?hy_99⟩) (by assumption) ?r_99
    case hy_99 => (intro w_ hS_; (try dsimp only at hS_); go_simp; try with_reducible rfl)
    try simp only [Act.put, List.setIfInBounds_toArray, List.set_cons_zero, List.set_cons_succ]
    refine wpAnyH_take (i := 8) (oi := ⟨_, _, _, _, _, _⟩) (v := ?v_100) rfl (by kernel_rfl) (by kernel_rfl) (by kernel_rfl) (fun _ _ _ h => h) (Or.inl ⟨by rfl, ?hy_100⟩) (by assumption) ?r_100
    case hy_100 => (intro w_ hS_; (try dsimp only at hS_); go_simp; try with_reducible rfl)
    try simp only [Act.put, List.setIfInBounds_toArray, List.set_cons_zero, List.set_cons_succ]
    refine wpAnyH_take (i := 9) (oi := ⟨_, _, _, _, _, _⟩) (v := ?v_101) rfl (by kernel_rfl) (by kernel_rfl) (by kernel_rfl) (fun _ _ _ h => h) (Or.inl ⟨by rfl, ?hy_101⟩) (by assumption) ?r_101
    case hy_101 => (intro w_ hS_; (try dsimp only at hS_); go_simp; try with_reducible rfl)
    try simp only [Act.put, List.setIfInBounds_toArray, List.set_cons_zero, List.set_cons_succ]
    refine wpAnyH_take (i := 10) (oi := ⟨_, _, _, _, _, _⟩) (v := ?v_102) rfl (by kernel_rfl) (by kernel_rfl) (by kernel_rfl) (fun _ _ _ h => h) (Or.inl ⟨by rfl, ?hy_102⟩) (by assumption) ?r_102
    case hy_102 => (intro w_ hS_; (try dsimp only at hS_); go_simp; try with_reducible rfl)
    try simp only [Act.put, List.setIfInBounds_toArray, List.set_cons_zero, List.set_cons_succ]
    refine wpAnyH_take (i := 11) (oi := ⟨_, _, _, _, _, _⟩) (v := ?v_103) rfl (by kernel_rfl) (by kernel_rfl) (by kernel_rfl) (fun _ _ _ h => h) (Or.inl ⟨by rfl, ?hy_103⟩) (by assumption) ?r_103
    case hy_103 => (intro w_ hS_; (try dsimp only at hS_); go_simp; try with_reducible rfl)
    try simp only [Act.put, List.setIfInBounds_toArray, List.set_cons_zero, List.set_cons_succ]
    refine wpAnyH_take (i := 12) (oi := ⟨_, _, _, _, _, _⟩) (v := ?v_104) rfl (by kernel_rfl) (by kernel_rfl) (by kernel_rfl) (fun _ _ _ h => h) (Or.inl ⟨by rfl, ?hy_104⟩) (by assumption) ?r_104
    case hy_104 => (intro w_ hS_; (try dsimp only at hS_); go_simp; try with_reducible rfl)
    try simp only [Act.put, List.setIfInBounds_toArray, List.set_cons_zero, List.set_cons_succ]
    refine wpAnyH_take (i := 13) (oi := ⟨_, _, _, _, _, _⟩) (v := ?v_105) rfl (by kernel_rfl) (by kernel_rfl) (by kernel_rfl) (fun _ _ _ h => h) (Or.inl ⟨by rfl, ?hy_105⟩) (by assumption) ?r_105
    case hy_105 => (intro w_ hS_; (try dsimp only at hS_); go_simp; try with_reducible rfl)
    try simp only [Act.put, List.setIfInBounds_toArray, List.set_cons_zero, List.set_cons_succ]
    refine wpAnyH_take (i := 14) (oi := ⟨_, _, _, _, _, _⟩) (v := ?v_106) rfl (by kernel_rfl) (by kernel_rfl) (by kernel_rfl) (fun _ _ _ h => h) (Or.inl ⟨by rfl, ?hy_106⟩) (by assumption) ?r_106
    case hy_106 => (intro w_ hS_; (try dsimp only at hS_); go_simp; try with_reducible rfl)
    try simp only [Act.put, List.setIfInBounds_toArray, List.set_cons_zero, List.set_cons_succ]
    refine wpAnyH_take (i := 15) (oi := ⟨_, _, _, _, _, _⟩) (v := ?v_107) rfl (by kernel_rfl) (by kernel_rfl) (by kernel_rfl) (fun _ _ _ h => h) (Or.inl ⟨by rfl, ?hy_107⟩) (by assumption) ?r_107
    case hy_107 => (intro w_ hS_; (try dsimp only at hS_); go_simp; try with_reducible rfl)
    try simp only [Act.put, List.setIfInBounds_toArray, List.set_cons_zero, List.set_cons_succ]
    refine wpAnyH_take (i := 16) (oi := ⟨_, _, _, _, _, _⟩) (v := ?v_108) rfl (by kernel_rfl) (by kernel_rfl) (by kernel_rfl) (fun _ _ _ h => h) (Or.inl ⟨by rfl, ?hy_108⟩) (by assumption) ?r_108
    case hy_108 => (intro w_ hS_; (try dsimp only at hS_); go_simp; try with_reducible rfl)
    try simp only [Act.put, List.setIfInBounds_toArray, List.set_cons_zero, List.set_cons_succ]
    refine wpAnyH_take (i := 17) (oi := ⟨_, _, _, _, _, _⟩) (v := ?v_109) rfl (by kernel_rfl) (by kernel_rfl) (by kernel_rfl) (fun _ _ _ h => h) (Or.inl ⟨by rfl, ?hy_109⟩) (by assumption) ?r_109
    case hy_109 => (intro w_ hS_; (try dsimp only at hS_); go_simp; try with_reducible rfl)
    try simp only [Act.put, List.setIfInBounds_toArray, List.set_cons_zero, List.set_cons_succ]
    refine wpAnyH_take (i := 18) (oi := ⟨_, _, _, _, _, _⟩) (v := ?v_110) rfl (by kernel_rfl) (by kernel_rfl) (by kernel_rfl) (fun _ _ _ h => h) (Or.inl ⟨by rfl, ?hy_110⟩) (by assumption) ?r_110
    case hy_110 => (intro w_ hS_; (try dsimp only at hS_); go_simp; try with_reducible rfl)
    try simp only [Act.put, List.setIfInBounds_toArray, List.set_cons_zero, List.set_cons_succ]
    refine wpAnyH_take (i := 19) (oi := ⟨_, _, _, _, _, _⟩) (v := ?v_111) rfl (by kernel_rfl) (by kernel_rfl) (by kernel_rfl) (fun _ _ _ h => h) (Or.inl ⟨by rfl, ?hy_111⟩) (by assumption) ?r_111
    case hy_111 => (intro w_ hS_; (try dsimp only at hS_); go_simp; try with_reducible rfl)
    try simp only [Act.put, List.setIfInBounds_toArray, List.set_cons_zero, List.set_cons_succ]
    refine wpAnyH_take (i := 20) (oi := ⟨_, _, _, _, _, _⟩) (v := ?v_112) rfl (by kernel_rfl) (by kernel_rfl) (by kernel_rfl) (fun _ _ _ h => h) (Or.inl ⟨by rfl, ?hy_112⟩) (by assumption) ?r_112
    case hy_112 => (intro w_ hS_; (try dsimp only at hS_); go_simp; try with_reducible rfl)
    try simp only [Act.put, List.setIfInBounds_toArray, List.set_cons_zero, List.set_cons_succ]
    refine wpAnyH_take (i := 21) (oi := ⟨_, _, _, _, _, _⟩) (v := ?v_113) rfl (by kernel_rfl) (by kernel_rfl) (by kernel_rfl) (fun _ _ _ h => h) (Or.inl ⟨by rfl, ?hy_113⟩) (by assumption) ?r_113
    case hy_113 => (intro w_ hS_; (try dsimp only at hS_); go_simp; try with_reducible rfl)
    try simp only [Act.put, List.setIfInBounds_toArray, List.set_cons_zero, List.set_cons_succ]
    refine wpAnyH_take (i := 22) (oi := ⟨_, _, _, _, _, _⟩) (v := ?v_114) rfl (by kernel_rfl) (by kernel_rfl) (by kernel_rfl) (fun _ _ _ h => h) (Or.inl ⟨by rfl, ?hy_114⟩) (by assumption) ?r_114
    case hy_114 => (intro w_ hS_; (try dsimp only at hS_); go_simp; try with_reducible rfl)
    try simp only [Act.put, List.setIfInBounds_toArray, List.set_cons_zero, List.set_cons_succ]
    refine wpAnyH_take (i := 23) (oi := ⟨_, _, _, _, _, _⟩) (v := ?v_115) rfl (by kernel_rfl) (by kernel_rfl) (by kernel_rfl) (fun _ _ _ h => h) (Or.inl ⟨by rfl, ?hy_115⟩) (by assumption) ?r_115
    case hy_115 => (intro w_ hS_; (try dsimp only at hS_); go_simp; try with_reducible rfl)
    try simp only [Act.put, List.setIfInBounds_toArray, List.set_cons_zero, List.set_cons_succ]
    refine wpAnyH_take (i := 24) (oi := ⟨_, _, _, _, _, _⟩) (v := ?v_116) rfl (by kernel_rfl) (by kernel_rfl) (by kernel_rfl) (fun _ _ _ h => h) (Or.inl ⟨by rfl, ?hy_116⟩) (by assumption) ?r_116
    case hy_116 => (intro w_ hS_; (try dsimp only at hS_); go_simp; try with_reducible rfl)
    try simp only [Act.put, List.setIfInBounds_toArray, List.set_cons_zero, List.set_cons_succ]
    refine wpAnyH_take (i := 25) (oi := ⟨_, _, _, _, _, _⟩) (v := ?v_117) rfl (by kernel_rfl) (by kernel_rfl) (by kernel_rfl) (fun _ _ _ h => h) (Or.inl ⟨by rfl, ?hy_117⟩) (by assumption) ?r_117
    case hy_117 => (intro w_ hS_; (try dsimp only at hS_); go_simp; try with_reducible rfl)
    try simp only [Act.put, List.setIfInBounds_toArray, List.set_cons_zero, List.set_cons_succ]
    refine wpAnyH_take (i := 26) (oi := ⟨_, _, _, _, _, _⟩) (v := ?v_118) rfl (by kernel_rfl) (by kernel_rfl) (by kernel_rfl) (fun _ _ _ h => h) (Or.inl ⟨by rfl, ?hy_118⟩) (by assumption) ?r_118
    case hy_118 => (intro w_ hS_; (try dsimp only at hS_); go_simp; try with_reducible rfl)
    try simp only [Act.put, List.setIfInBounds_toArray, List.set_cons_zero, List.set_cons_succ]
    refine wpAnyH_take (i := 27) (oi := ⟨_, _, _, _, _, _⟩) (v := ?v_119) rfl (by kernel_rfl) (by kernel_rfl) (by kernel_rfl) (fun _ _ _ h => h) (Or.inl ⟨by rfl, ?hy_119⟩) (by assumption) ?r_119
    case hy_119 => (intro w_ hS_; (try dsimp only at hS_); go_simp; try with_reducible rfl)
    try simp only [Act.put, List.setIfInBounds_toArray, List.set_cons_zero, List.set_cons_succ]
    refine wpAnyH_take (i := 28) (oi := ⟨_, _, _, _, _, _⟩) (v := ?v_120) rfl (by kernel_rfl) (by kernel_rfl) (by kernel_rfl) (fun _ _ _ h => h) (Or.inl ⟨by rfl, ?hy_120⟩) (by assumption) ?r_120
    case hy_120 => (intro w_ hS_; (try dsimp only at hS_); go_simp; try with_reducible rfl)
    try simp only [Act.put, List.setIfInBounds_toArray, List.set_cons_zero, List.set_cons_succ]
    refine wpAnyH_take (i := 29) (oi := ⟨_, _, _, _, _, _⟩) (v := ?v_121) rfl (by kernel_rfl) (by kernel_rfl) (by kernel_rfl) (fun _ _ _ h => h) (Or.inl ⟨by rfl, ?hy_121⟩) (by assumption) ?r_121
    case hy_121 => (intro w_ hS_; (try dsimp only at hS_); go_simp; try with_reducible rfl)
    try simp only [Act.put, List.setIfInBounds_toArray, List.set_cons_zero, List.set_cons_succ]
    refine wpAnyH_take (i := 30) (oi := ⟨_, _, _, _, _, _⟩) (v := ?v_122) rfl (by kernel_rfl) (by kernel_rfl) (by kernel_rfl) (fun _ _ _ h => h) (Or.inl ⟨by rfl, ?hy_122⟩) (by assumption) ?r_122
    case hy_122 => (intro w_ hS_; (try dsimp only at hS_); go_simp; try with_reducible rfl)
    try simp only [Act.put, List.setIfInBounds_toArray, List.set_cons_zero, List.set_cons_succ]
    refine wpAnyH_take (i := 31) (oi := ⟨_, _, _, _, _, _⟩) (v := ?v_123) rfl (by kernel_rfl) (by kernel_rfl) (by kernel_rfl) (fun _ _ _ h => h) (Or.inl ⟨by rfl, ?hy_123⟩) (by assumption) ?r_123
    case hy_123 => (intro w_ hS_; (try dsimp only at hS_); go_simp; try with_reducible rfl)
    try simp only [Act.put, List.setIfInBounds_toArray, List.set_cons_zero, List.set_cons_succ]
    refine wpAnyH_take (i := 32) (oi := ⟨_, _, _, _, _, _⟩) (v := ?v_124) rfl (by kernel_rfl) (by kernel_rfl) (by kernel_rfl) (fun _ _ _ h => h) (Or.inl ⟨by rfl, ?hy_124⟩) (by assumption) ?r_124
    case hy_124 => (intro w_ hS_; (try dsimp only at hS_); go_simp; try with_reducible rfl)
    try simp only [Act.put, List.setIfInBounds_toArray, List.set_cons_zero, List.set_cons_succ]
    refine wpAnyH_take (i := 33) (oi := ⟨_, _, _, _, _, _⟩) (v := ?v_125) rfl (by kernel_rfl) (by kernel_rfl) (by kernel_rfl) (fun _ _ _ h => h) (Or.inl ⟨by rfl, ?hy_125⟩) (by assumption) ?r_125
    case hy_125 => (intro w_ hS_; (try dsimp only at hS_); go_simp; try with_reducible rfl)
    try simp only [Act.put, List.setIfInBounds_toArray, List.set_cons_zero, List.set_cons_succ]
    refine wpAnyH_take (i := 34) (oi := ⟨_, _, _, _, _, _⟩) (v := ?v_126) rfl (by kernel_rfl) (by kernel_rfl) (by kernel_rfl) (fun _ _ _ h => h) (Or.inl ⟨by rfl, ?hy_126⟩) (by assumption) ?r_126
    case hy_126 => (intro w_ hS_; (try dsimp only at hS_); go_simp; try with_reducible rfl)
    try simp only [Act.put, List.setIfInBounds_toArray, List.set_cons_zero, List.set_cons_succ]
    refine wpAnyH_take (i := 35) (oi := ⟨_, _, _, _, _, _⟩) (v := ?v_127) rfl (by kernel_rfl) (by kernel_rfl) (by kernel_rfl) (fun _ _ _ h => h) (Or.inl ⟨by rfl, ?hy_127⟩) (by assumption) ?r_127
    case hy_127 => (intro w_ hS_; (try dsimp only at hS_); go_simp; try with_reducible rfl)
    try simp only [Act.put, List.setIfInBounds_toArray, List.set_cons_zero, List.set_cons_succ]
    refine wpAnyH_take (i := 36) (oi := ⟨_, _, _, _, _, _⟩) (v := ?v_128) rfl (by kernel_rfl) (by kernel_rfl) (by kernel_rfl) (fun _ _ _ h => h) (Or.inl ⟨by rfl, ?hy_128⟩) (by assumption) ?r_128
    case hy_128 => (intro w_ hS_; (try dsimp only at hS_); go_simp; try with_reducible rfl)
    try simp only [Act.put, List.setIfInBounds_toArray, List.set_cons_zero, List.set_cons_succ]
    refine wpAnyH_take (i := 37) (oi := ⟨_, _, _, _, _, _⟩) (v := ?v_129) rfl (by kernel_rfl) (by kernel_rfl) (by kernel_rfl) (fun _ _ _ h => h) (Or.inl ⟨by rfl, ?hy_129⟩) (by assumption) ?r_129
    case hy_129 => (intro w_ hS_; (try dsimp only at hS_); go_simp; try with_reducible rfl)
    try simp only [Act.put, List.setIfInBounds_toArray, List.set_cons_zero, List.set_cons_succ]
    refine wpAnyH_take (i := 38) (oi := ⟨_, _, _, _, _, _⟩) (v := ?v_130) rfl (by kernel_rfl) (by kernel_rfl) (by kernel_rfl) (fun _ _ _ h => h) (Or.inl ⟨by rfl, ?hy_130⟩) (by assumption) ?r_130
    case hy_130 => (intro w_ hS_; (try dsimp only at hS_); go_simp; try with_reducible rfl)
    try simp only [Act.put, List.setIfInBounds_toArray, List.set_cons_zero, List.set_cons_succ]
    refine wpAnyH_take (i := 39) (oi := ⟨_, _, _, _, _, _⟩) (v := ?v_131) rfl (by kernel_rfl) (by kernel_rfl) (by kernel_rfl) (fun _ _ _ h => h) (Or.inl ⟨by rfl, ?hy_131⟩) (by assumption) ?r_131
    case hy_131 => (intro w_ hS_; (try dsimp only at hS_); go_simp; try with_reducible rfl)
    try simp only [Act.put, List.setIfInBounds_toArray, List.set_cons_zero, List.set_cons_succ]
    refine wpAnyH_take (i := 40) (oi := ⟨_, _, _, _, _, _⟩) (v := ?v_132) rfl (by kernel_rfl) (by kernel_rfl) (by kernel_rfl) (fun _ _ _ h => h) (Or.inl ⟨by rfl, ?hy_132⟩) (by assumption) ?r_132
    case hy_132 => (intro w_ hS_; (try dsimp only at hS_); go_simp; try with_reducible rfl)
    try simp only [Act.put, List.setIfInBounds_toArray, List.set_cons_zero, List.set_cons_succ]
    refine wpAnyH_take (i := 41) (oi := ⟨_, _, _, _, _, _⟩) (v := ?v_133) rfl (by kernel_rfl) (by kernel_rfl) (by kernel_rfl) (fun _ _ _ h => h) (Or.inl ⟨by rfl, ?hy_133⟩) (by assumption) ?r_133
    case hy_133 => (intro w_ hS_; (try dsimp only at hS_); go_simp; try with_reducible rfl)
    try simp only [Act.put, List.setIfInBounds_toArray, List.set_cons_zero, List.set_cons_succ]
    refine wpAnyH_take (i := 42) (oi := ⟨_, _, _, _, _, _⟩) (v := ?v_134) rfl (by kernel_rfl) (by kernel_rfl) (by kernel_rfl) (fun _ _ _ h => h) (Or.inl ⟨by rfl, ?hy_134⟩) (by assumption) ?r_134
    case hy_134 => (intro w_ hS_; (try dsimp only at hS_); go_simp; try with_reducible rfl)
    try simp only [Act.put, List.setIfInBounds_toArray, List.set_cons_zero, List.set_cons_succ]
    refine wpAnyH_take (i := 43) (oi := ⟨_, _, _, _, _, _⟩) (v := ?v_135) rfl (by kernel_rfl) (by kernel_rfl) (by kernel_rfl) (fun _ _ _ h => h) (Or.inl ⟨by rfl, ?hy_135⟩) (by assumption) ?r_135
    case hy_135 => (intro w_ hS_; (try dsimp only at hS_); go_simp; try with_reducible rfl)
    try simp only [Act.put, List.setIfInBounds_toArray, List.set_cons_zero, List.set_cons_succ]
    refine wpAnyH_ready (rs := [44]) (by kernel_rfl) (by simp) ?_
    refine AllReadyH.cons (o := ⟨_, _, _, _, _, _⟩) rfl (fun K hK => ?_) AllReadyH.nil
    go_simp
    ((rw [hF]; refine Calls.mono hcall ?_; rintro e w7 ⟨rfl, hk7, hj7⟩; dsimp only))
    try go_wp2_with (fail)
    refine hK.out _ _ ?_ (fun hHeld => ?_)
    · (try dsimp only); (first | assumption | exact ⟨d0, d1, d3, c0, c1, c2, c3⟩ | exact hS _ (by assumption))
    clear hK K
    try simp only [Act.put, List.setIfInBounds_toArray, List.set_cons_zero, List.set_cons_succ]
    refine wpAnyH_take (i := 45) (oi := ⟨_, _, _, _, _, _⟩) (v := ?v_136) rfl (by kernel_rfl) (by kernel_rfl) (by kernel_rfl) (fun _ _ _ h => h) (Or.inl ⟨by rfl, ?hy_136⟩) (by assumption) ?r_136
    case hy_136 => (intro w_ hS_; (try dsimp only at hS_); go_simp; try with_reducible rfl)
    try simp only [Act.put, List.setIfInBounds_toArray, List.set_cons_zero, List.set_cons_succ]
    refine wpAnyH_done (by kernel_rfl) ?_ _
    have h7 := H1.out.drew.kb hk7 HHR.out HHB.out
    obtain ⟨_, _, _, m0, m1, m2, m3⟩ := hS _ hk7
    have ht7 : w7.heap[w.heap.size]? = some (.cells #[.int .i64 0, .string ⟨#[]⟩, .int .i64 0, .int .i64 0] 96 (0, 0)) := (hk7.block w.heap.size (by show w.heap.size < W.heap.size; omega) HH0.out).trans HT.out
    have e1 := h7.c1
    have fz1 := h7.fz 1
    have h8 := h7.set1 (j + 1)
    have hbR : b ≠ R := by have := h7.hB; omega
    have ht8 : (w7.setCell ⟨R, 1, none⟩ (.int .i64 ((j : Int) + 1))).heap[w.heap.size]? = some (.cells #[.int .i64 0, .string ⟨#[]⟩, .int .i64 0, .int .i64 0] 96 (0, 0)) := (Below.heap_setCell _ _ _ _ (by show w.heap.size ≠ R; omega)).trans ht7
    have k8 : Kb (fun b => b = R ∨ H b) w (w7.setCell ⟨R, 1, none⟩ (.int .i64 ((j : Int) + 1))) := Kb.set_ (S := fun b => b = R ∨ H b) (((Kb.of_below HB.out).drew).trans (hk7.mono (fun _ x => Or.inr x))) (p := ⟨R, 1, none⟩) (.inl rfl) _
    have j8 : J (w7.setCell ⟨R, 1, none⟩ (.int .i64 ((j : Int) + 1))) := HJ.out _ _ hj7 (fun b' hb' => Below.heap_setCell _ _ _ _ (fun e => HHR.out (by have e2 : b' = R := e; rw [← e2]; exact hb')))
    rw [show ((j + 1 : Nat) : Int) = (j : Int) + 1 by omega] at h8
    rw [hj.out] at e1
    have o0 : (w7.setCell ⟨R, 1, none⟩ (.int .i64 ((j : Int) + 1))).cell? ⟨b, o + j * 4, none⟩ = some (.int .i64 t.kind) := (World.cell?_setCell_other w7 _ _ _ (fun e => hbR (congrArg Addr.block e).symm)).trans m0
    have o1 : (w7.setCell ⟨R, 1, none⟩ (.int .i64 ((j : Int) + 1))).cell? ⟨b, o + j * 4 + 1, none⟩ = some (.string t.text) := (World.cell?_setCell_other w7 _ _ _ (fun e => hbR (congrArg Addr.block e).symm)).trans m1
    have o2 : (w7.setCell ⟨R, 1, none⟩ (.int .i64 ((j : Int) + 1))).cell? ⟨b, o + j * 4 + 2, none⟩ = some (.int .i64 t.num) := (World.cell?_setCell_other w7 _ _ _ (fun e => hbR (congrArg Addr.block e).symm)).trans m2
    have o3 : (w7.setCell ⟨R, 1, none⟩ (.int .i64 ((j : Int) + 1))).cell? ⟨b, o + j * 4 + 3, none⟩ = some (.int .i64 t.at_) := (World.cell?_setCell_other w7 _ _ _ (fun e => hbR (congrArg Addr.block e).symm)).trans m3
    obtain ⟨W8, hW8⟩ : ∃ W8, Hid (w7.setCell ⟨R, 1, none⟩ (.int .i64 ((j : Int) + 1)) = W8) := ⟨_, rfl⟩
    rw [hW8.out] at h8 ht8 k8 j8 o0 o1 o2 o3
    have H8 := Lib.hid h8
    have T8 := Lib.hid ht8
    have K8 := Lib.hid k8
    have J8 := Lib.hid j8
    have g0 := h8.c0
    have g1 : W8.cell? ⟨R, 1, none⟩ = some (.int .i64 ((j : Int) + 1)) := h8.c1
    obtain ⟨fT, y0, y1, y2, y3⟩ := row4 ht8
    clear h7 ht7 hk7 hj7 hcall hR hHB hHw hJ hS h8 ht8 k8 j8 m0 m1 m2 m3
    go_upto_region 3 with (fail)
    rw [hW8.out]
    go_region
    go_wp2
    refine bodyPost_ret (results_cell1 rfl _ _ w.heap.size _ _ _ _ rfl (by exact set4_blk T8.out) Tryz.underlying96 rfl (by kernel_rfl)) rfl ?_
    rw [HS.out]
    refine ⟨rfl, (H8.out.set4 hlt _ _ _ _).drew, (Kb.set4 K8.out (Nat.le_refl _) _ _ _ _).drew, ?_⟩
    intro _ _ _ _
    refine HJ.out W8 _ J8.out (fun b' hb' => ?_)
    have hb2 : b' < w.heap.size := HHw.out _ hb'
    exact setc4_blk (by omega) _ _ _ _
theorem mkT (l : List UInt8) : (⟨l.toArray⟩ : ByteArray).toList = l := by rw [ByteArray.toList_eq]
def boxT (t : Tk) : Obj := .cells #[.int .i64 t.kind, .string t.text, .int .i64 t.num, .int .i64 t.at_] 96
theorem ent_sign : Enters Tryz.prog 119 := enters_of Tryz.func119 (by kernel_rfl) rfl
theorem ent_num : Enters Tryz.prog 114 := enters_of Tryz.func114 (by kernel_rfl) rfl
theorem ent_len : Enters Tryz.prog 147 := enters_of Tryz.func147 (by kernel_rfl) rfl
theorem ent_nam : Enters Tryz.prog 146 := enters_of Tryz.func146 (by kernel_rfl) rfl
theorem ent_of1 : Enters Tryz.prog 115 := enters_of Tryz.func115 (by kernel_rfl) rfl
theorem ent_id : Enters Tryz.prog 64 := enters_of Tryz.func64 (by kernel_rfl) rfl
theorem ent_length : Enters Tryz.prog 61 := enters_of Tryz.func61 (by kernel_rfl) rfl
theorem sign1_any (t : Tk) (s : ByteArray) (g : Nat) (w : World) (hg : w.cell? ⟨g, 0, none⟩ = some (.string s)) :
    Calls Tryz.prog 119 #[tkV t, .pointer (some ⟨g, 0, none⟩)] w fun e w' => e = .returned (.bool (t.text.toList == s.toList)) ∧ Below w.heap.size w w' := by
  have hlt := cell_lt hg
  unfold tkV
  go_enter Tryz.func119, Tryz.ntmps119
  go_wp2
  go_ret
  exact ⟨rfl, (Below.refl _ _).alloc (Nat.le_refl _) _⟩
theorem csign_any (R B n c : Nat) (A : Option Addr) (ts : List Tk) (en : Int) (r : Rr) (s : ByteArray) (w : World) (h : Cd w R B A n c ts en r) :
    Calls Tryz.prog 81 #[.pointer (some ⟨R, 0, none⟩), .string s] w fun e w' => e = .returned (.tuple #[]) ∧ Cd w' R B A n c ts en (signP ts en s.toList r) ∧ Kb (· = R) w w' := by
  have hb := heap_alloc_new w (.cells #[.string s] 9)
  obtain ⟨W, hW⟩ : ∃ W, Hid (w.alloc (.cells #[.string s] 9) = W) := ⟨_, rfl⟩
  rw [hW.out] at hb
  have hB : Below w.heap.size w W := by rw [← hW.out]; exact (Below.refl _ _).alloc (Nat.le_refl _) _
  have hg : W.cell? ⟨w.heap.size, 0, none⟩ = some (.string s) := by simp [World.cell?, hb]
  have hc := Lib.hid (ctake_any R B n c A ts en r 5 119 #[.pointer (some ⟨w.heap.size, 0, none⟩)] ent_sign (fun t => t.text.toList == s.toList) (fun _ => False) (fun _ => True) W id (fun _ x => x.elim) (fun _ x => x.elim) (fun _ _ _ _ => trivial)
    (fun t v _ _ _ hv => (sign1_any t s w.heap.size v ((hv.cell (p := ⟨w.heap.size, 0, none⟩) (cell_lt hg)).trans hg)).mono (fun e w' ⟨h1, h2⟩ => ⟨h1, Kb.of_below h2, trivial⟩)) (h.below hB))
  have HB := Lib.hid hB
  clear h hb hB hg
  go_enter Tryz.func81, Tryz.ntmps81
  go_wp2_with (fail)
  rw [hW.out]
  refine hc.out.mono ?_
  rintro e w5 ⟨rfl, h5, k5, -⟩
  go_wp2
  go_end0
  exact ⟨rfl, h5, (Kb.of_below HB.out).trans (k5.mono (fun _ x => x.elim id (fun y => y.elim)))⟩
def AskN (G : FuncId) (caps : Array Value) (q : Int → Bool) (w : World) : Prop :=
  ∀ (n : Int) (v : World), Below w.heap.size w v → Calls Tryz.prog G (#[.int .i64 n] ++ caps) v fun e v' => e = .returned (.bool (q n)) ∧ Below v.heap.size v v'
theorem AskN.below {G : FuncId} {caps : Array Value} {q : Int → Bool} {w w' : World} (h : AskN G caps q w) (hb : Below w.heap.size w w') : AskN G caps q w' := fun n v hv => h n v (bt hb hv)
theorem ask_id (w : World) : AskN 64 #[] (fun n => inB n 1 99999) w := fun n v _ => (id_any n v).mono (fun e w' ⟨h1, h2⟩ => ⟨h1, h2 ▸ Below.refl _ _⟩)
theorem ask_length (w : World) : AskN 61 #[] lenB w := fun n v _ => (length_any n v).mono (fun e w' ⟨h1, h2⟩ => ⟨h1, h2 ▸ Below.refl _ _⟩)
theorem of1_8 (n a b : Int) (g g2 : Nat) (w : World) (h1 : w.cell? ⟨g, 0, none⟩ = some (.int .i64 a)) (h2 : w.cell? ⟨g2, 0, none⟩ = some (.int .i64 b)) :
    Calls Tryz.prog 115 #[.int .i64 n, .pointer (some ⟨g, 0, none⟩), .pointer (some ⟨g2, 0, none⟩)] w fun e w' => e = .returned (.bool (inB n a b)) ∧ Below w.heap.size w w' := by
  have hw := Lib.hid (fun v => within8_any n a b v)
  go_enter Tryz.func115, Tryz.ntmps115
  go_wp2_with (fail)
  refine (hw.out _).mono ?_; rintro e w1 ⟨rfl, rfl⟩
  go_wp2
  go_ret
  exact ⟨rfl, Below.refl _ _⟩
theorem of8_any (a b : Int) (w : World) :
    Calls Tryz.prog 78 #[.int .i64 a, .int .i64 b] w fun e w' => e = .returned (.func (.func 115) #[] #[.pointer (some ⟨w.heap.size, 0, none⟩), .pointer (some ⟨w.heap.size + 1, 0, none⟩)]) ∧ Below w.heap.size w w' ∧ AskN 115 #[.pointer (some ⟨w.heap.size, 0, none⟩), .pointer (some ⟨w.heap.size + 1, 0, none⟩)] (fun n => inB n a b) w' := by
  have hmf : ∀ (fn : Fn) (first cap : Array Value) (w : World), (Instr.makeFunc fn first cap).run Tryz.prog w = .ok (.func fn first cap) w := fun _ _ _ _ => rfl
  have hb1 := heap_alloc_new (w.alloc (.cells #[.int .i64 a] 3)) (.cells #[.int .i64 b] 3)
  have hb0 : ((w.alloc (.cells #[.int .i64 a] 3)).alloc (.cells #[.int .i64 b] 3)).heap[w.heap.size]? = _ := (Below.heap_alloc (w.alloc (.cells #[.int .i64 a] 3)) (.cells #[.int .i64 b] 3) w.heap.size (by simp)).trans (heap_alloc_new w (.cells #[.int .i64 a] 3))
  rw [World.size_alloc] at hb1
  have hA : AskN 115 #[.pointer (some ⟨w.heap.size, 0, none⟩), .pointer (some ⟨w.heap.size + 1, 0, none⟩)] (fun n => inB n a b) ((w.alloc (.cells #[.int .i64 a] 3)).alloc (.cells #[.int .i64 b] 3)) := by
    intro n v hv
    refine of1_8 n a b _ _ v ?_ ?_
    · rw [hv.cell (p := ⟨w.heap.size, 0, none⟩) (by show w.heap.size < _; rw [World.size_alloc, World.size_alloc]; omega)]; exact (cell_of_row _ _ 0 _ _ _ hb0).trans rfl
    · rw [hv.cell (p := ⟨w.heap.size + 1, 0, none⟩) (by show w.heap.size + 1 < _; rw [World.size_alloc, World.size_alloc]; omega)]; exact (cell_of_row _ _ 0 _ _ _ hb1).trans rfl
  have HA := Lib.hid hA
  clear hA hb0 hb1
  go_enter Tryz.func78, Tryz.ntmps78
  go_wp2
  go_ret
  exact ⟨rfl, ((Below.refl _ _).alloc (Nat.le_refl _) _).alloc (by simp) _, HA.out⟩
theorem number1_any (t : Tk) (G : FuncId) (hE : Enters Tryz.prog G) (caps : Array Value) (q : Int → Bool) (g : Nat) (w : World) (hg : w.cell? ⟨g, 0, none⟩ = some (.func (.func G) #[] caps)) (hq : AskN G caps q w) :
    Calls Tryz.prog 114 #[tkV t, .pointer (some ⟨g, 0, none⟩)] w fun e w' => e = .returned (.bool (q t.num)) ∧ Below w.heap.size w w' := by
  have hlt := cell_lt hg
  have HB : Hid (Below w.heap.size w (w.alloc (boxT t))) := (Below.refl _ _).alloc (Nat.le_refl _) _
  have HQ := Lib.hid (hq t.num _ HB.out)
  unfold boxT at HQ
  have eg : ∀ args w, (callFunc G args).run Tryz.prog w = .ok (.enter G args) w := hE
  clear hq
  unfold tkV
  go_enter Tryz.func114, Tryz.ntmps114
  go_wp2_with (go_at_fn G; refine HQ.out.mono ?_; rintro e w1 ⟨rfl, hb1⟩)
  go_ret
  exact ⟨rfl, bt HB.out hb1⟩
theorem cnumber_any (R B n c : Nat) (A : Option Addr) (ts : List Tk) (en : Int) (r : Rr) (G : FuncId) (hE : Enters Tryz.prog G) (caps : Array Value) (q : Int → Bool) (w : World) (h : Cd w R B A n c ts en r) (hq : AskN G caps q w) :
    Calls Tryz.prog 77 #[.pointer (some ⟨R, 0, none⟩), .func (.func G) #[] caps] w fun e w' => e = .returned (.int .i64 (numR ts en q r).1) ∧ Cd w' R B A n c ts en (numR ts en q r).2 ∧ Kb (· = R) w w' := by
  have hb := heap_alloc_new w (.cells #[.func (.func G) #[] caps] 100)
  obtain ⟨W, hW⟩ : ∃ W, Hid (w.alloc (.cells #[.func (.func G) #[] caps] 100) = W) := ⟨_, rfl⟩
  rw [hW.out] at hb
  have hB : Below w.heap.size w W := by rw [← hW.out]; exact (Below.refl _ _).alloc (Nat.le_refl _) _
  have hg : W.cell? ⟨w.heap.size, 0, none⟩ = some (.func (.func G) #[] caps) := by simp [World.cell?, hb]
  have hc := Lib.hid (ctake_any R B n c A ts en r 2 114 #[.pointer (some ⟨w.heap.size, 0, none⟩)] ent_num (fun t => q t.num) (fun _ => False) (fun _ => True) W id (fun _ x => x.elim) (fun _ x => x.elim) (fun _ _ _ _ => trivial)
    (fun t v _ _ _ hv => (number1_any t G hE caps q w.heap.size v ((hv.cell (p := ⟨w.heap.size, 0, none⟩) (cell_lt hg)).trans hg) (hq.below (bt hB hv))).mono (fun e w' ⟨h1, h2⟩ => ⟨h1, Kb.of_below h2, trivial⟩)) (h.below hB))
  have HB := Lib.hid hB
  have HR : Hid (numR ts en q r = ((takeP ts en 2 (fun t => q t.num) r).1.num, (takeP ts en 2 (fun t => q t.num) r).2.2)) := rfl
  obtain ⟨x, hx⟩ : ∃ x, takeP ts en 2 (fun t => q t.num) r = x := ⟨_, rfl⟩
  rw [hx] at hc HR
  obtain ⟨x1, x2, x3⟩ := x
  dsimp only at hc HR
  unfold tkV at hc
  rw [HR.out]
  clear h hb hB hg hq hx HR
  go_enter Tryz.func77, Tryz.ntmps77
  go_wp2_with (fail)
  rw [hW.out]
  refine hc.out.mono ?_
  rintro e w5 ⟨rfl, h5, k5, -⟩
  have H5 := Lib.hid h5
  have hlt := h5.lt
  have K5 := Lib.hid k5
  clear h5 k5
  go_wp2
  go_ret
  exact ⟨rfl, H5.out.alloc _, ((Kb.of_below HB.out).trans (K5.out.mono (fun _ x => x.elim id (fun y => y.elim)))).alloc _⟩
theorem named1_any (t : Tk) (w : World) (hs : t.text.size ≤ 100000) : Calls Tryz.prog 146 #[tkV t] w fun e w' => e = .returned (.bool (nameB t.text)) ∧ Below w.heap.size w w' := by
  have hn := Lib.hid (fun v => name_any t.text v (by omega))
  have HB : Hid (Below w.heap.size w (w.alloc (boxT t))) := (Below.refl _ _).alloc (Nat.le_refl _) _
  unfold boxT at HB
  unfold tkV
  clear hs
  go_enter Tryz.func146, Tryz.ntmps146
  go_wp2_with (fail)
  refine (hn.out _).mono ?_; rintro e w1 ⟨rfl, hb1⟩
  go_wp2
  go_ret
  exact ⟨rfl, bt HB.out hb1⟩
theorem cnamed_any (R B n c : Nat) (A : Option Addr) (ts : List Tk) (en : Int) (r : Rr) (w : World) (h : Cd w R B A n c ts en r) :
    Calls Tryz.prog 120 #[.pointer (some ⟨R, 0, none⟩)] w fun e w' => e = .returned (.string (namedP ts en r).1) ∧ Cd w' R B A n c ts en (namedP ts en r).2 ∧ Kb (· = R) w w' := by
  have hc := Lib.hid (ctake_any R B n c A ts en r 1 146 #[] ent_nam (fun t => nameB t.text) (fun _ => False) (fun _ => True) w id (fun _ x => x.elim) (fun _ x => x.elim) (fun _ _ _ _ => trivial)
    (fun t v _ ht _ hv => (named1_any t v (h.sz t (List.mem_of_getElem? ht))).mono (fun e w' ⟨h1, h2⟩ => ⟨h1, Kb.of_below h2, trivial⟩)) h)
  have HR : Hid (namedP ts en r = ((takeP ts en 1 (fun t => nameB t.text) r).1.text, (takeP ts en 1 (fun t => nameB t.text) r).2.2)) := rfl
  obtain ⟨x, hx⟩ : ∃ x, takeP ts en 1 (fun t => nameB t.text) r = x := ⟨_, rfl⟩
  rw [hx] at hc HR
  obtain ⟨x1, x2, x3⟩ := x
  dsimp only at hc HR
  unfold tkV at hc
  rw [HR.out]
  clear h hx HR
  go_enter Tryz.func120, Tryz.ntmps120
  go_wp2_with (fail)
  refine hc.out.mono ?_
  rintro e w5 ⟨rfl, h5, k5, -⟩
  have H5 := Lib.hid h5
  have hlt := h5.lt
  have K5 := Lib.hid k5
  clear h5 k5
  go_wp2
  go_ret
  exact ⟨rfl, H5.out.alloc _, (K5.out.mono (fun _ x => x.elim id (fun y => y.elim))).alloc _⟩
end Go.Proofs.YtjmhaoplablmnaaGreatDoor
