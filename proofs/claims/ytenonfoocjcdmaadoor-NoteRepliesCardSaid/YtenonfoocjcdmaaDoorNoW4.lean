/- Layer 23: Parse walked. -/
import Derived.Test.YtenonfoocjcdmaaDoorNoW3
import Derived.Deep.RegionHeld3
import Derived.Deep.DrawnRows
namespace Go.Proofs.YtenonfoocjcdmaaDoor
set_option linter.unusedVariables false
open Go.RowKit
attribute [local go_sem ↓] Go.wp_at_zero Go.wp_at_succ
/-- what stays as it was while the numbers are taken: all but one block, and that holds a truth -/
def NoS (OK : Nat) (W v : World) : Prop := Kb (· = OK) W v ∧ OK < W.heap.size ∧ ∃ b : Bool, v.heap[OK]? = some (.cells #[.bool b] 4 (0, 0))
theorem ns_mk {OK : Nat} {W v : World} (h : NoS OK W v) : (∀ b o, b < W.heap.size → b ≠ OK → v.cell? ⟨b, o, none⟩ = W.cell? ⟨b, o, none⟩) ∧ NoS OK W v :=
  ⟨fun b o hb hn => h.1.cell (p := ⟨b, o, none⟩) hb hn, h⟩
theorem ns_drew {OK : Nat} {W : World} (h : NoS OK W W) : NoS OK W W.drew := ⟨h.1.drew, h.2.1, h.2.2⟩
theorem ns_drew' {OK : Nat} {W : World} (X : Obj) (h : NoS OK W W) : NoS OK W (W.alloc X).drew := by
  obtain ⟨h1, h2, b, h3⟩ := h
  exact ⟨(h1.alloc X).drew, h2, b, (Below.heap_alloc W X OK h2).trans h3⟩
theorem ns_alloc {OK : Nat} {W v : World} (h : (∀ b o, b < W.heap.size → b ≠ OK → v.cell? ⟨b, o, none⟩ = W.cell? ⟨b, o, none⟩) ∧ NoS OK W v) (o : Obj) : (∀ b o', b < W.heap.size → b ≠ OK → (v.alloc o).cell? ⟨b, o', none⟩ = W.cell? ⟨b, o', none⟩) ∧ NoS OK W (v.alloc o) := by
  obtain ⟨_, h1, h2, b, h3⟩ := h
  exact ns_mk ⟨h1.alloc o, h2, b, (Below.heap_alloc v o OK (Nat.lt_of_lt_of_le h2 h1.size)).trans h3⟩
theorem ns_call {OK : Nat} {W v v' : World} (h : (∀ b o, b < W.heap.size → b ≠ OK → v.cell? ⟨b, o, none⟩ = W.cell? ⟨b, o, none⟩) ∧ NoS OK W v) {b : Bool} (h1 : v'.heap[OK]? = some (.cells #[.bool b] 4 (0, 0))) (h2 : Kb (· = OK) v v') : (∀ b o', b < W.heap.size → b ≠ OK → v'.cell? ⟨b, o', none⟩ = W.cell? ⟨b, o', none⟩) ∧ NoS OK W v' :=
  ns_mk ⟨h.2.1.trans h2, h.2.2.1, b, h1⟩
theorem ns_al {OK : Nat} {v : World} {b : Bool} {W : World} (h : NoS OK W v) (o : Obj) (h1 : v.heap[OK]? = some (.cells #[.bool b] 4 (0, 0))) : (v.alloc o).heap[OK]? = some (.cells #[.bool b] 4 (0, 0)) :=
  (Below.heap_alloc v o OK (Nat.lt_of_lt_of_le h.2.1 h.1.size)).trans h1
theorem ns_new {OK : Nat} {W v v' : World} (h : NoS OK W v) (k : Kb (· = OK) (v.alloc (.cells #[.int .i64 0, .int .i64 0, .int .i64 0, .int .i64 0] 57)) v') : v'.heap[v.heap.size]? = some note0 ∧ W.heap.size ≤ v.heap.size ∧ v.heap.size < v'.heap.size := by
  have h1 := h.1.size
  have h2 := h.2.1
  have h3 := k.size
  simp only [World.size_alloc] at h3
  exact ⟨(k.block _ (by simp) (by show ¬ _ = OK; omega)).trans (heap_alloc_new v _), h1, by omega⟩
theorem ns_newd {OK : Nat} {W v' : World} (hOW : OK < W.heap.size) (k : Kb (· = OK) ((W.alloc (.cells #[.int .i64 0, .int .i64 0, .int .i64 0, .int .i64 0] 57)).drew) v') : v'.heap[W.heap.size]? = some note0 ∧ W.heap.size ≤ W.heap.size ∧ W.heap.size < v'.heap.size := by
  have h3 := k.size
  simp only [World.size_alloc, World.size_drew] at h3
  exact ⟨(k.block W.heap.size (by simp) (by show ¬ _ = OK; omega)).trans (heap_alloc_new W _), Nat.le_refl _, by omega⟩
theorem ns_old {OK P : Nat} {W v v' : World} (h : v.heap[P]? = some note0 ∧ W.heap.size ≤ P ∧ P < v.heap.size) (hOW : OK < W.heap.size) (k : Kb (· = OK) v v') : v'.heap[P]? = some note0 ∧ W.heap.size ≤ P ∧ P < v'.heap.size :=
  ⟨(k.block _ h.2.2 (by have := h.2.1; show ¬ _ = OK; omega)).trans h.1, h.2.1, Nat.lt_of_lt_of_le h.2.2 k.size⟩
theorem row4n {v : World} {b : Nat} (h : v.heap[b]? = some note0) : (∀ j, v.frozen? ⟨b, j, none⟩ = false) ∧ v.cell? ⟨b, 0, none⟩ = some (.int .i64 0) ∧ v.cell? ⟨b, 1, none⟩ = some (.int .i64 0) ∧ v.cell? ⟨b, 2, none⟩ = some (.int .i64 0) ∧ v.cell? ⟨b, 3, none⟩ = some (.int .i64 0) := row4 h
theorem set4n {v : World} {b : Nat} {x0 x1 x2 x3 : Value} (h : v.heap[b]? = some note0) : ((((v.setCell ⟨b, 0, none⟩ x0).setCell ⟨b, 1, none⟩ x1).setCell ⟨b, 2, none⟩ x2).setCell ⟨b, 3, none⟩ x3).heap[b]? = some (.cells #[x0, x1, x2, x3] 57 (0, 0)) := set4_blk h
theorem ns_set4 {OK P : Nat} {W v : World} {x0 x1 x2 x3 : Value} (h : (∀ b o, b < W.heap.size → b ≠ OK → v.cell? ⟨b, o, none⟩ = W.cell? ⟨b, o, none⟩) ∧ NoS OK W v) (r : v.heap[P]? = some note0 ∧ W.heap.size ≤ P ∧ P < v.heap.size) :
    (∀ b o', b < W.heap.size → b ≠ OK → ((((v.setCell ⟨P, 0, none⟩ x0).setCell ⟨P, 1, none⟩ x1).setCell ⟨P, 2, none⟩ x2).setCell ⟨P, 3, none⟩ x3).cell? ⟨b, o', none⟩ = W.cell? ⟨b, o', none⟩) ∧ NoS OK W ((((v.setCell ⟨P, 0, none⟩ x0).setCell ⟨P, 1, none⟩ x1).setCell ⟨P, 2, none⟩ x2).setCell ⟨P, 3, none⟩ x3) := by
  obtain ⟨_, hk, h2, b, h3⟩ := h
  have hne : OK ≠ P := by have := r.2.1; omega
  refine ns_mk ⟨⟨hk.os, hk.tape, hk.output, by simpa [World.setCell] using hk.size, fun i hi hn => ?_⟩, h2, b, ?_⟩
  · have hne2 : i ≠ P := by have := r.2.1; omega
    rw [Below.heap_setCell _ _ _ _ hne2, Below.heap_setCell _ _ _ _ hne2, Below.heap_setCell _ _ _ _ hne2, Below.heap_setCell _ _ _ _ hne2]
    exact hk.block i hi hn
  · rw [Below.heap_setCell _ _ _ _ hne, Below.heap_setCell _ _ _ _ hne, Below.heap_setCell _ _ _ _ hne, Below.heap_setCell _ _ _ _ hne]
    exact h3
/-- what the region leaves -/
def NoCut (W : World) (OK : Nat) (k a b c : Int) (v : Bool) (p : Value) (wx : World) : Prop :=
  ∃ P : Nat, p = .pointer (some ⟨P, 0, none⟩) ∧ W.heap.size ≤ P ∧ wx.heap[P]? = some (.cells #[.int .i64 k, .int .i64 a, .int .i64 b, .int .i64 c] 57 (0, 0)) ∧ wx.heap[OK]? = some (.cells #[.bool v] 4 (0, 0)) ∧ Kb (· = OK) W wx
theorem cl_new {OK : Nat} {W v : World} {k a b c : Int} {t : Bool} (h : (∀ b o, b < W.heap.size → b ≠ OK → v.cell? ⟨b, o, none⟩ = W.cell? ⟨b, o, none⟩) ∧ NoS OK W v) (p : v.heap[OK]? = some (.cells #[.bool t] 4 (0, 0))) :
    NoCut W OK k a b c t (.pointer (some ⟨v.heap.size, 0, none⟩)) (v.alloc (.cells #[.int .i64 k, .int .i64 a, .int .i64 b, .int .i64 c] 57)) :=
  ⟨_, rfl, h.2.1.size, heap_alloc_new v _, ns_al h.2 _ p, h.2.1.alloc _⟩
theorem cl_old {OK P : Nat} {W v : World} {k a b c : Int} {t : Bool} (h : (∀ b o, b < W.heap.size → b ≠ OK → v.cell? ⟨b, o, none⟩ = W.cell? ⟨b, o, none⟩) ∧ NoS OK W v) (p : v.heap[OK]? = some (.cells #[.bool t] 4 (0, 0))) (r : v.heap[P]? = some note0 ∧ W.heap.size ≤ P ∧ P < v.heap.size) :
    NoCut W OK k a b c t (.pointer (some ⟨P, 0, none⟩)) ((((v.setCell ⟨P, 0, none⟩ (.int .i64 k)).setCell ⟨P, 1, none⟩ (.int .i64 a)).setCell ⟨P, 2, none⟩ (.int .i64 b)).setCell ⟨P, 3, none⟩ (.int .i64 c)) := by
  have hne : OK ≠ P := by have := h.2.2.1; have := r.2.1; omega
  refine ⟨_, rfl, r.2.1, set4n r.1, ?_, ?_⟩
  · rw [Below.heap_setCell _ _ _ _ hne, Below.heap_setCell _ _ _ _ hne, Below.heap_setCell _ _ _ _ hne, Below.heap_setCell _ _ _ _ hne]
    exact p
  · have hk := h.2.1
    refine ⟨hk.os, hk.tape, hk.output, by simpa [World.setCell] using hk.size, fun i hi hn => ?_⟩
    have hne2 : i ≠ P := by have := r.2.1; omega
    rw [Below.heap_setCell _ _ _ _ hne2, Below.heap_setCell _ _ _ _ hne2, Below.heap_setCell _ _ _ _ hne2, Below.heap_setCell _ _ _ _ hne2]
    exact hk.block i hi hn
set_option linter.unusedSimpArgs false in
set_option maxHeartbeats 20000000 in
set_option maxRecDepth 100000 in
theorem parse23_any (s : ByteArray) (w : World) : Calls Tryd.prog 32 #[.string s] w (RetNote w (parseN s)) := by
  have htk := Lib.hid (fun v => tokens_any s v)
  have hwd := Lib.hid (fun v => words23_any v)
  have HP : Hid (parseN s = if (tokP s).2.2 ≠ 0 then (nt0, (tokP s).2.2) else match (tokP s).1 with
    | [a, b, c, d] => if a.kind = 1 ∧ b.kind = 2 ∧ c.kind = 2 ∧ d.kind = 2 ∧ noteP ⟨max (idxS wordsL a.text) 0, b.num, c.num, d.num⟩ then (⟨max (idxS wordsL a.text) 0, b.num, c.num, d.num⟩, 0) else (nt0, 230)
    | _ => (nt0, 230)) := rfl
  obtain ⟨r, hr⟩ : ∃ r, Hid (tokP s = r) := ⟨_, rfl⟩
  rw [hr.out] at htk HP
  obtain ⟨ts, n, er⟩ := r
  have hsz : (w.alloc note0).heap.size = w.heap.size + 1 := by simp
  have E0 := Lib.hid (heap_alloc_new w note0)
  have hB0 := Lib.hid ((Below.refl _ w).alloc (Nat.le_refl _) note0)
  have hck := Lib.hid (fun m v => check23_any m v)
  unfold ntV at hck
  dsimp only at HP
  go_enter Tryd.func32, Tryd.ntmps32
  go_wp2_with (fail)
  refine (htk.out _).mono ?_; rintro e w1 ⟨v, rfl, ho1, hb1⟩
  have hb1' : Below (w.alloc note0).heap.size (w.alloc note0) w1 := hb1
  have e1 := (hb1'.block _ (by omega)).trans E0.out
  have hz1 := hb1'.size
  have hB1 := Lib.hid (hB0.out.trans (hb1'.mono (by omega)))
  obtain ⟨A, c, rfl, hcap, hcm⟩ := ho1.slice
  dsimp only at ho1
  replace ho1 := Lib.hid ho1
  obtain ⟨f1, d0, d1, d2, d3⟩ := row4 e1
  replace e1 := Lib.hid e1
  clear hb1 hb1'
  dsimp only
  have hlt1 : w.heap.size < w1.heap.size := by omega
  have bad : ∀ x : Int, Hid (parseN s = (nt0, x)) → RetNote w (parseN s) (.returned (.tuple #[.agg #[.int .i64 0, .int .i64 0, .int .i64 0, .int .i64 0], .int .i64 x])) ((((w1.setCell ⟨w.heap.size, 0, none⟩ (.int .i64 0)).setCell ⟨w.heap.size, 1, none⟩ (.int .i64 0)).setCell ⟨w.heap.size, 2, none⟩ (.int .i64 0)).setCell ⟨w.heap.size, 3, none⟩ (.int .i64 0)) := by
    intro x hx
    refine ⟨by rw [hx.out]; rfl, ?_⟩
    exact (((hB1.out.setCell (p := ⟨w.heap.size, 0, none⟩) (Nat.le_refl _) _).setCell (p := ⟨w.heap.size, 1, none⟩) (Nat.le_refl _) _).setCell (p := ⟨w.heap.size, 2, none⟩) (Nat.le_refl _) _).setCell (p := ⟨w.heap.size, 3, none⟩) (Nat.le_refl _) _
  have Bad := Lib.hid bad
  clear bad hsz hz1
  by_cases her : er = 0
  case neg =>
    have te : (er != 0) = true := by simpa using her
    have hP2 : Hid (parseN s = (nt0, er)) := by show _ = _; rw [HP.out, if_pos her]
    clear her HP
    go_wp2
    refine bodyPost_ret (results_cell1 rfl _ _ w.heap.size _ _ _ _ rfl (set4_blk e1.out) Tryd.underlying57 rfl (by kernel_rfl)) rfl ?_
    exact Bad.out _ hP2
  subst her
  by_cases hl4 : ts.length = 4
  case neg =>
    have t4 : (((ts.length : Nat) : Int) != 4) = true := by simp; omega
    have hP2 : Hid (parseN s = (nt0, 230)) := by
      show _ = _; rw [HP.out, if_neg (by simp)]
      split
      · rename_i h; exact absurd rfl hl4
      · rfl
    obtain ⟨N, hN⟩ : ∃ N, Hid (ts.length = N) := ⟨_, rfl⟩
    rw [hN.out] at t4 ⊢
    clear hl4 HP hcap
    go_wp2
    refine bodyPost_ret (results_cell1 rfl _ _ w.heap.size _ _ _ _ rfl (set4_blk e1.out) Tryd.underlying57 rfl (by kernel_rfl)) rfl ?_
    exact Bad.out _ hP2
  match ts, hl4 with
  | [a, b, c', d], _ =>
    obtain ⟨g, cc, hv, hg, hgl, _, _, hcells, _⟩ := ho1.out.at_ (by simp)
    injection hv with hA _ _
    subst hA
    have x0 : w1.cell? ⟨g, 0, none⟩ = some (.int .i64 a.kind) := hcells 0 _ rfl
    have x1 : w1.cell? ⟨g, 1, none⟩ = some (.string a.text) := hcells 1 _ rfl
    have y0 : w1.cell? ⟨g, 4, none⟩ = some (.int .i64 b.kind) := hcells 4 _ rfl
    have y1 : w1.cell? ⟨g, 5, none⟩ = some (.string b.text) := hcells 5 _ rfl
    have y2 : w1.cell? ⟨g, 6, none⟩ = some (.int .i64 b.num) := hcells 6 _ rfl
    have y3 : w1.cell? ⟨g, 7, none⟩ = some (.int .i64 b.at_) := hcells 7 _ rfl
    have z0 : w1.cell? ⟨g, 8, none⟩ = some (.int .i64 c'.kind) := hcells 8 _ rfl
    have z1 : w1.cell? ⟨g, 9, none⟩ = some (.string c'.text) := hcells 9 _ rfl
    have z2 : w1.cell? ⟨g, 10, none⟩ = some (.int .i64 c'.num) := hcells 10 _ rfl
    have z3 : w1.cell? ⟨g, 11, none⟩ = some (.int .i64 c'.at_) := hcells 11 _ rfl
    have u0 : w1.cell? ⟨g, 12, none⟩ = some (.int .i64 d.kind) := hcells 12 _ rfl
    have u1 : w1.cell? ⟨g, 13, none⟩ = some (.string d.text) := hcells 13 _ rfl
    have u2 : w1.cell? ⟨g, 14, none⟩ = some (.int .i64 d.num) := hcells 14 _ rfl
    have u3 : w1.cell? ⟨g, 15, none⟩ = some (.int .i64 d.at_) := hcells 15 _ rfl
    clear hcells
    by_cases hk1 : a.kind = 1
    case neg =>
      have tk : (a.kind != 1) = true := by simpa using hk1
      have hP2 : Hid (parseN s = (nt0, 230)) := by show _ = _; rw [HP.out, if_neg (by simp)]; dsimp only; rw [if_neg (fun x => hk1 x.1)]
      clear hk1 HP hcap
      dsimp only [List.length]
      go_wp2
      refine bodyPost_ret (results_cell1 rfl _ _ w.heap.size _ _ _ _ rfl (set4_blk e1.out) Tryd.underlying57 rfl (by kernel_rfl)) rfl ?_
      exact Bad.out _ hP2
    have tk : (a.kind != 1) = false := by simpa using hk1
    have hka := Lib.hid hk1
    clear hk1
    dsimp only [List.length]
    go_wp2_with (fail)
    refine (hwd.out _).mono ?_; rintro e w2 ⟨rfl, hb2⟩
    unfold wordsV
    go_upto_region 9 with (fail)
    obtain ⟨V32, hV32⟩ : ∃ V, Value.agg #[.string ⟨#[]⟩, .string ⟨#[108, 97, 117, 110, 99, 104]⟩, .string ⟨#[112, 114, 101, 112, 97, 114, 101]⟩, .string ⟨#[99, 111, 109, 109, 105, 116]⟩, .string ⟨#[115, 104, 114, 105, 110, 107]⟩, .string ⟨#[114, 101, 108, 101, 97, 115, 101]⟩, .string ⟨#[102, 101, 110, 99, 101]⟩, .string ⟨#[115, 116, 97, 114, 116, 101, 100]⟩, .string ⟨#[97, 99, 99, 101, 112, 116]⟩, .string ⟨#[100, 101, 99, 108, 105, 110, 101]⟩, .string ⟨#[114, 101, 108, 101, 97, 115, 101, 100]⟩, .string ⟨#[100, 111, 110, 101]⟩, .string ⟨#[98, 114, 111, 107, 101, 110]⟩, .string ⟨#[102, 101, 110, 99, 101, 100]⟩, .string ⟨#[103, 111, 110, 101]⟩] = V := ⟨_, rfl⟩
    rw [hV32]
    clear hV32
    have hz2 := hb2.size
    have e2 := (hb2.block _ (by omega)).trans e1.out
    have hB2 := Lib.hid (hB1.out.trans (hb2.mono (by omega)))
    have hRd0 : Reads ((w2.alloc (.cells #[.string ⟨#[]⟩, .string ⟨#[108, 97, 117, 110, 99, 104]⟩, .string ⟨#[112, 114, 101, 112, 97, 114, 101]⟩, .string ⟨#[99, 111, 109, 109, 105, 116]⟩, .string ⟨#[115, 104, 114, 105, 110, 107]⟩, .string ⟨#[114, 101, 108, 101, 97, 115, 101]⟩, .string ⟨#[102, 101, 110, 99, 101]⟩, .string ⟨#[115, 116, 97, 114, 116, 101, 100]⟩, .string ⟨#[97, 99, 99, 101, 112, 116]⟩, .string ⟨#[100, 101, 99, 108, 105, 110, 101]⟩, .string ⟨#[114, 101, 108, 101, 97, 115, 101, 100]⟩, .string ⟨#[100, 111, 110, 101]⟩, .string ⟨#[98, 114, 111, 107, 101, 110]⟩, .string ⟨#[102, 101, 110, 99, 101, 100]⟩, .string ⟨#[103, 111, 110, 101]⟩] 101)).alloc (.cells #[.bool true] 4)) (w2.heap.size + 1) 1 (some ⟨w2.heap.size, 0, none⟩) 15 (strs wordsL) := (Reads.made w2 (strs wordsL) 101).alloc (by simp) _
    have hP0 : ((w2.alloc (.cells #[.string ⟨#[]⟩, .string ⟨#[108, 97, 117, 110, 99, 104]⟩, .string ⟨#[112, 114, 101, 112, 97, 114, 101]⟩, .string ⟨#[99, 111, 109, 109, 105, 116]⟩, .string ⟨#[115, 104, 114, 105, 110, 107]⟩, .string ⟨#[114, 101, 108, 101, 97, 115, 101]⟩, .string ⟨#[102, 101, 110, 99, 101]⟩, .string ⟨#[115, 116, 97, 114, 116, 101, 100]⟩, .string ⟨#[97, 99, 99, 101, 112, 116]⟩, .string ⟨#[100, 101, 99, 108, 105, 110, 101]⟩, .string ⟨#[114, 101, 108, 101, 97, 115, 101, 100]⟩, .string ⟨#[100, 111, 110, 101]⟩, .string ⟨#[98, 114, 111, 107, 101, 110]⟩, .string ⟨#[102, 101, 110, 99, 101, 100]⟩, .string ⟨#[103, 111, 110, 101]⟩] 101)).alloc (.cells #[.bool true] 4)).heap[w2.heap.size + 1]? = some (.cells #[.bool true] 4 (0, 0)) := by
      have := heap_alloc_new (w2.alloc (.cells #[.string ⟨#[]⟩, .string ⟨#[108, 97, 117, 110, 99, 104]⟩, .string ⟨#[112, 114, 101, 112, 97, 114, 101]⟩, .string ⟨#[99, 111, 109, 109, 105, 116]⟩, .string ⟨#[115, 104, 114, 105, 110, 107]⟩, .string ⟨#[114, 101, 108, 101, 97, 115, 101]⟩, .string ⟨#[102, 101, 110, 99, 101]⟩, .string ⟨#[115, 116, 97, 114, 116, 101, 100]⟩, .string ⟨#[97, 99, 99, 101, 112, 116]⟩, .string ⟨#[100, 101, 99, 108, 105, 110, 101]⟩, .string ⟨#[114, 101, 108, 101, 97, 115, 101, 100]⟩, .string ⟨#[100, 111, 110, 101]⟩, .string ⟨#[98, 114, 111, 107, 101, 110]⟩, .string ⟨#[102, 101, 110, 99, 101, 100]⟩, .string ⟨#[103, 111, 110, 101]⟩] 101)) (.cells #[.bool true] 4)
      simpa using this
    have hBW := Lib.hid ((hB2.out.alloc (by omega) (.cells #[.string ⟨#[]⟩, .string ⟨#[108, 97, 117, 110, 99, 104]⟩, .string ⟨#[112, 114, 101, 112, 97, 114, 101]⟩, .string ⟨#[99, 111, 109, 109, 105, 116]⟩, .string ⟨#[115, 104, 114, 105, 110, 107]⟩, .string ⟨#[114, 101, 108, 101, 97, 115, 101]⟩, .string ⟨#[102, 101, 110, 99, 101]⟩, .string ⟨#[115, 116, 97, 114, 116, 101, 100]⟩, .string ⟨#[97, 99, 99, 101, 112, 116]⟩, .string ⟨#[100, 101, 99, 108, 105, 110, 101]⟩, .string ⟨#[114, 101, 108, 101, 97, 115, 101, 100]⟩, .string ⟨#[100, 111, 110, 101]⟩, .string ⟨#[98, 114, 111, 107, 101, 110]⟩, .string ⟨#[102, 101, 110, 99, 101, 100]⟩, .string ⟨#[103, 111, 110, 101]⟩] 101)).alloc (by simp only [World.size_alloc]; omega) (.cells #[.bool true] 4))
    have hcw : ∀ b o, b < w1.heap.size → ((w2.alloc (.cells #[.string ⟨#[]⟩, .string ⟨#[108, 97, 117, 110, 99, 104]⟩, .string ⟨#[112, 114, 101, 112, 97, 114, 101]⟩, .string ⟨#[99, 111, 109, 109, 105, 116]⟩, .string ⟨#[115, 104, 114, 105, 110, 107]⟩, .string ⟨#[114, 101, 108, 101, 97, 115, 101]⟩, .string ⟨#[102, 101, 110, 99, 101]⟩, .string ⟨#[115, 116, 97, 114, 116, 101, 100]⟩, .string ⟨#[97, 99, 99, 101, 112, 116]⟩, .string ⟨#[100, 101, 99, 108, 105, 110, 101]⟩, .string ⟨#[114, 101, 108, 101, 97, 115, 101, 100]⟩, .string ⟨#[100, 111, 110, 101]⟩, .string ⟨#[98, 114, 111, 107, 101, 110]⟩, .string ⟨#[102, 101, 110, 99, 101, 100]⟩, .string ⟨#[103, 111, 110, 101]⟩] 101)).alloc (.cells #[.bool true] 4)).cell? ⟨b, o, none⟩ = w1.cell? ⟨b, o, none⟩ := by
      intro b o hb
      rw [World.cell?_alloc_lt _ _ _ (by show b < _; simp; omega), World.cell?_alloc_lt _ _ _ (by show b < _; omega)]
      exact hb2.cell (p := ⟨b, o, none⟩) hb
    rw [← hcw _ _ hgl] at x0 x1 y0 y1 y2 y3 z0 z1 z2 z3 u0 u1 u2 u3
    have e3 : ((w2.alloc (.cells #[.string ⟨#[]⟩, .string ⟨#[108, 97, 117, 110, 99, 104]⟩, .string ⟨#[112, 114, 101, 112, 97, 114, 101]⟩, .string ⟨#[99, 111, 109, 109, 105, 116]⟩, .string ⟨#[115, 104, 114, 105, 110, 107]⟩, .string ⟨#[114, 101, 108, 101, 97, 115, 101]⟩, .string ⟨#[102, 101, 110, 99, 101]⟩, .string ⟨#[115, 116, 97, 114, 116, 101, 100]⟩, .string ⟨#[97, 99, 99, 101, 112, 116]⟩, .string ⟨#[100, 101, 99, 108, 105, 110, 101]⟩, .string ⟨#[114, 101, 108, 101, 97, 115, 101, 100]⟩, .string ⟨#[100, 111, 110, 101]⟩, .string ⟨#[98, 114, 111, 107, 101, 110]⟩, .string ⟨#[102, 101, 110, 99, 101, 100]⟩, .string ⟨#[103, 111, 110, 101]⟩] 101)).alloc (.cells #[.bool true] 4)).heap[w.heap.size]? = some note0 := (Below.heap_alloc _ _ _ (by simp; omega)).trans ((Below.heap_alloc _ _ _ (by omega)).trans e2)
    have hsW : ((w2.alloc (.cells #[.string ⟨#[]⟩, .string ⟨#[108, 97, 117, 110, 99, 104]⟩, .string ⟨#[112, 114, 101, 112, 97, 114, 101]⟩, .string ⟨#[99, 111, 109, 109, 105, 116]⟩, .string ⟨#[115, 104, 114, 105, 110, 107]⟩, .string ⟨#[114, 101, 108, 101, 97, 115, 101]⟩, .string ⟨#[102, 101, 110, 99, 101]⟩, .string ⟨#[115, 116, 97, 114, 116, 101, 100]⟩, .string ⟨#[97, 99, 99, 101, 112, 116]⟩, .string ⟨#[100, 101, 99, 108, 105, 110, 101]⟩, .string ⟨#[114, 101, 108, 101, 97, 115, 101, 100]⟩, .string ⟨#[100, 111, 110, 101]⟩, .string ⟨#[98, 114, 111, 107, 101, 110]⟩, .string ⟨#[102, 101, 110, 99, 101, 100]⟩, .string ⟨#[103, 111, 110, 101]⟩] 101)).alloc (.cells #[.bool true] 4)).heap.size = w2.heap.size + 2 := by simp
    obtain ⟨W, hW⟩ : ∃ W, (w2.alloc (.cells #[.string ⟨#[]⟩, .string ⟨#[108, 97, 117, 110, 99, 104]⟩, .string ⟨#[112, 114, 101, 112, 97, 114, 101]⟩, .string ⟨#[99, 111, 109, 109, 105, 116]⟩, .string ⟨#[115, 104, 114, 105, 110, 107]⟩, .string ⟨#[114, 101, 108, 101, 97, 115, 101]⟩, .string ⟨#[102, 101, 110, 99, 101]⟩, .string ⟨#[115, 116, 97, 114, 116, 101, 100]⟩, .string ⟨#[97, 99, 99, 101, 112, 116]⟩, .string ⟨#[100, 101, 99, 108, 105, 110, 101]⟩, .string ⟨#[114, 101, 108, 101, 97, 115, 101, 100]⟩, .string ⟨#[100, 111, 110, 101]⟩, .string ⟨#[98, 114, 111, 107, 101, 110]⟩, .string ⟨#[102, 101, 110, 99, 101, 100]⟩, .string ⟨#[103, 111, 110, 101]⟩] 101)).alloc (.cells #[.bool true] 4) = W := ⟨_, rfl⟩
    rw [hW] at hRd0 hP0 hBW x0 x1 y0 y1 y2 y3 z0 z1 z2 z3 u0 u1 u2 u3 e3 hsW ⊢
    obtain ⟨OK, hOK⟩ : ∃ OK, w2.heap.size + 1 = OK := ⟨_, rfl⟩
    rw [hOK] at hP0 hRd0 ⊢
    have hOW : OK < W.heap.size := by omega
    have hgW : g < W.heap.size := by omega
    have hgO : g ≠ OK := by omega
    have hZW : w.heap.size < W.heap.size := by omega
    have hZO : w.heap.size ≠ OK := by omega
    have hZK : w.heap.size ≤ OK := by omega
    have P0 : Hid (W.drew.heap[OK]? = some (.cells #[.bool true] 4 (0, 0))) := hP0
    have P1 : Hid (∀ (X : Obj), (W.alloc X).drew.heap[OK]? = some (.cells #[.bool true] 4 (0, 0))) := fun X => ns_al (⟨Kb.refl _ W, hOW, true, hP0⟩ : NoS OK W W) X hP0
    have S1 : Hid (∀ X : Obj, (∀ b o, b < W.heap.size → b ≠ OK → (W.alloc X).drew.cell? ⟨b, o, none⟩ = W.cell? ⟨b, o, none⟩) ∧ NoS OK W (W.alloc X).drew) := fun X => ns_mk (ns_drew' X (⟨Kb.refl _ W, hOW, true, hP0⟩ : NoS OK W W))
    have S0 := Lib.hid (ns_mk (ns_drew (⟨Kb.refl _ W, hOW, true, hP0⟩ : NoS OK W W)))
    have hRd := Lib.hid (fun v (h : NoS OK W v) => index_s (some ⟨w2.heap.size, 0, none⟩) 15 15 OK wordsL a.text v (hRd0.keep (fun p hp => h.1.cell (by omega) (by omega))) (by omega))
    obtain ⟨q, hidx⟩ : ∃ q, Hid (idxS wordsL a.text = q) := ⟨_, rfl⟩
    obtain ⟨m, hm⟩ : ∃ m, Hid (max q 0 = m) := ⟨_, rfl⟩
    rw [hidx.out, hm.out] at HP
    have E3 := Lib.hid e3
    clear hW hOK hsW hb2 e2 hcw hRd0 hP0 e3 hB2 hz2 hcap hcm f1 d0 d1 d2 d3 Bad
    go_cut [10] (NoCut W OK m b.num c'.num d.num (true && (b.kind == 2) && (c'.kind == 2) && (d.kind == 2)))
    case first =>
      refine wp_region_held_drew (S := (fun v => (∀ b o, b < W.heap.size → b ≠ OK → v.cell? ⟨b, o, none⟩ = W.cell? ⟨b, o, none⟩) ∧ NoS OK W v)) (by kernel_rfl) ?_ (fun hHeld => ?_)
      · (try dsimp only); (first | (with_reducible assumption) | (with_reducible exact S0.out) | (with_reducible exact S1.out _) | (with_reducible exact ns_call (by with_reducible assumption) p3 k3) | (with_reducible exact ns_call (by with_reducible assumption) p2 k2) | (with_reducible exact ns_call (by with_reducible assumption) p1 k1) | (with_reducible exact ns_set4 (by with_reducible assumption) r3) | (with_reducible exact ns_alloc (by with_reducible assumption) _))
      refine wpAnyH_take (i := 0) (oi := ⟨_, _, _, _, _, _⟩) (v := ?v_1) rfl (by kernel_rfl) (by kernel_rfl) (by kernel_rfl) (fun _ _ _ h => h) (Or.inl ⟨by rfl, ?hy_1⟩) (by assumption) ?r_1
      case hy_1 => (intro w_ hS_; (try dsimp only at hS_); go_simp; try with_reducible rfl)
      try simp only [Act.put, List.setIfInBounds_toArray, List.set_cons_zero, List.set_cons_succ]
      refine wpAnyH_take (i := 1) (oi := ⟨_, _, _, _, _, _⟩) (v := ?v_2) rfl (by kernel_rfl) (by kernel_rfl) (by kernel_rfl) (fun _ _ _ h => h) (Or.inl ⟨by rfl, ?hy_2⟩) (by assumption) ?r_2
      case hy_2 => (intro w_ hS_; (try dsimp only at hS_); go_simp; try with_reducible rfl)
      try simp only [Act.put, List.setIfInBounds_toArray, List.set_cons_zero, List.set_cons_succ]
      refine wpAnyH_take (i := 2) (oi := ⟨_, _, _, _, _, _⟩) (v := ?v_3) rfl (by kernel_rfl) (by kernel_rfl) (by kernel_rfl) (fun _ _ _ h => h) (Or.inl ⟨by rfl, ?hy_3⟩) (by assumption) ?r_3
      case hy_3 => (intro w_ hS_; (try dsimp only at hS_); go_simp; try with_reducible rfl)
      try simp only [Act.put, List.setIfInBounds_toArray, List.set_cons_zero, List.set_cons_succ]
      refine wpAnyH_take (i := 3) (oi := ⟨_, _, _, _, _, _⟩) (v := ?v_4) rfl (by kernel_rfl) (by kernel_rfl) (by kernel_rfl) (fun _ _ _ h => h) (Or.inl ⟨by rfl, ?hy_4⟩) (by assumption) ?r_4
      case hy_4 => (intro w_ hS_; (try dsimp only at hS_); go_simp; try with_reducible rfl)
      try simp only [Act.put, List.setIfInBounds_toArray, List.set_cons_zero, List.set_cons_succ]
      refine wpAnyH_take (i := 4) (oi := ⟨_, _, _, _, _, _⟩) (v := ?v_5) rfl (by kernel_rfl) (by kernel_rfl) (by kernel_rfl) (fun _ _ _ h => h) (Or.inl ⟨by rfl, ?hy_5⟩) (by assumption) ?r_5
      case hy_5 => (intro w_ hS_; (try dsimp only at hS_); go_simp; try with_reducible rfl)
      try simp only [Act.put, List.setIfInBounds_toArray, List.set_cons_zero, List.set_cons_succ]
      refine wpAnyH_take (i := 7) (oi := ⟨_, _, _, _, _, _⟩) (v := ?v_6) rfl (by kernel_rfl) (by kernel_rfl) (by kernel_rfl) (fun _ _ _ h => h) (Or.inl ⟨by rfl, ?hy_6⟩) (by assumption) ?r_6
      case hy_6 => (intro w_ hS_; (try dsimp only at hS_); go_simp; try with_reducible rfl)
      try simp only [Act.put, List.setIfInBounds_toArray, List.set_cons_zero, List.set_cons_succ]
      refine wpAnyH_take (i := 8) (oi := ⟨_, _, _, _, _, _⟩) (v := ?v_7) rfl (by kernel_rfl) (by kernel_rfl) (by kernel_rfl) (fun _ _ _ h => h) (Or.inl ⟨by rfl, ?hy_7⟩) (by assumption) ?r_7
      case hy_7 => (intro w_ hS_; (try dsimp only at hS_); go_simp; try with_reducible rfl)
      try simp only [Act.put, List.setIfInBounds_toArray, List.set_cons_zero, List.set_cons_succ]
      refine wpAnyH_take (i := 9) (oi := ⟨_, _, _, _, _, _⟩) (v := ?v_8) rfl (by kernel_rfl) (by kernel_rfl) (by kernel_rfl) (fun _ _ _ h => h) (Or.inl ⟨by rfl, ?hy_8⟩) (by assumption) ?r_8
      case hy_8 => (intro w_ hS_; (try dsimp only at hS_); go_simp; try with_reducible rfl)
      try simp only [Act.put, List.setIfInBounds_toArray, List.set_cons_zero, List.set_cons_succ]
      refine wpAnyH_take (i := 10) (oi := ⟨_, _, _, _, _, _⟩) (v := ?v_9) rfl (by kernel_rfl) (by kernel_rfl) (by kernel_rfl) (fun _ _ _ h => h) (Or.inl ⟨by rfl, ?hy_9⟩) (by assumption) ?r_9
      case hy_9 => (intro w_ hS_; (try dsimp only at hS_); go_simp; try with_reducible rfl)
      try simp only [Act.put, List.setIfInBounds_toArray, List.set_cons_zero, List.set_cons_succ]
      refine wpAnyH_take (i := 12) (oi := ⟨_, _, _, _, _, _⟩) (v := ?v_10) rfl (by kernel_rfl) (by kernel_rfl) (by kernel_rfl) (fun _ _ _ h => h) (Or.inl ⟨by rfl, ?hy_10⟩) (by assumption) ?r_10
      case hy_10 => (intro w_ hS_; (try dsimp only at hS_); go_simp; try with_reducible rfl)
      try simp only [Act.put, List.setIfInBounds_toArray, List.set_cons_zero, List.set_cons_succ]
      refine wpAnyH_take (i := 13) (oi := ⟨_, _, _, _, _, _⟩) (v := ?v_11) rfl (by kernel_rfl) (by kernel_rfl) (by kernel_rfl) (fun _ _ _ h => h) (Or.inl ⟨by rfl, ?hy_11⟩) (by assumption) ?r_11
      case hy_11 => (intro w_ hS_; (try dsimp only at hS_); go_simp; try with_reducible rfl)
      try simp only [Act.put, List.setIfInBounds_toArray, List.set_cons_zero, List.set_cons_succ]
      refine wpAnyH_take (i := 14) (oi := ⟨_, _, _, _, _, _⟩) (v := ?v_12) rfl (by kernel_rfl) (by kernel_rfl) (by kernel_rfl) (fun _ _ _ h => h) (Or.inl ⟨by rfl, ?hy_12⟩) (by assumption) ?r_12
      case hy_12 => (intro w_ hS_; (try dsimp only at hS_); go_simp; try with_reducible rfl)
      try simp only [Act.put, List.setIfInBounds_toArray, List.set_cons_zero, List.set_cons_succ]
      refine wpAnyH_take (i := 15) (oi := ⟨_, _, _, _, _, _⟩) (v := ?v_13) rfl (by kernel_rfl) (by kernel_rfl) (by kernel_rfl) (fun _ _ _ h => h) (Or.inl ⟨by rfl, ?hy_13⟩) (by assumption) ?r_13
      case hy_13 => (intro w_ hS_; (try dsimp only at hS_); go_simp; try with_reducible rfl)
      try simp only [Act.put, List.setIfInBounds_toArray, List.set_cons_zero, List.set_cons_succ]
      refine wpAnyH_take (i := 17) (oi := ⟨_, _, _, _, _, _⟩) (v := ?v_14) rfl (by kernel_rfl) (by kernel_rfl) (by kernel_rfl) (fun _ _ _ h => h) (Or.inl ⟨by rfl, ?hy_14⟩) (by assumption) ?r_14
      case hy_14 => (intro w_ hS_; (try dsimp only at hS_); go_simp; try with_reducible rfl)
      try simp only [Act.put, List.setIfInBounds_toArray, List.set_cons_zero, List.set_cons_succ]
      refine wpAnyH_take (i := 18) (oi := ⟨_, _, _, _, _, _⟩) (v := ?v_15) rfl (by kernel_rfl) (by kernel_rfl) (by kernel_rfl) (fun _ _ _ h => h) (Or.inl ⟨by rfl, ?hy_15⟩) (by assumption) ?r_15
      case hy_15 => (intro w_ hS_; (try dsimp only at hS_); go_simp; try with_reducible rfl)
      try simp only [Act.put, List.setIfInBounds_toArray, List.set_cons_zero, List.set_cons_succ]
      refine wpAnyH_take (i := 19) (oi := ⟨_, _, _, _, _, _⟩) (v := ?v_16) rfl (by kernel_rfl) (by kernel_rfl) (by kernel_rfl) (fun _ _ _ h => h) (Or.inl ⟨by rfl, ?hy_16⟩) (by assumption) ?r_16
      case hy_16 => (intro w_ hS_; (try dsimp only at hS_); go_simp; try with_reducible rfl)
      try simp only [Act.put, List.setIfInBounds_toArray, List.set_cons_zero, List.set_cons_succ]
      refine wpAnyH_take (i := 20) (oi := ⟨_, _, _, _, _, _⟩) (v := ?v_17) rfl (by kernel_rfl) (by kernel_rfl) (by kernel_rfl) (fun _ _ _ h => h) (Or.inl ⟨by rfl, ?hy_17⟩) (by assumption) ?r_17
      case hy_17 => (intro w_ hS_; (try dsimp only at hS_); go_simp; try with_reducible rfl)
      try simp only [Act.put, List.setIfInBounds_toArray, List.set_cons_zero, List.set_cons_succ]
      refine wpAnyH_ready (rs := [5, 23]) (by kernel_rfl) (by simp) ?_
      refine AllReadyH.cons (o := ⟨_, _, _, _, _, _⟩) rfl (fun K hK => ?_) ?_
      · go_simp
        (first | (go_at_call 60; refine (hRd.out _ (And.right (by with_reducible assumption))).mono ?_; rintro e v' ⟨rfl, rfl⟩; rw [hidx.out]) | (go_at_call_of 59 (Value.agg #[.int .i64 b.kind, .string b.text, .int .i64 b.num, .int .i64 b.at_]); refine (parse1_any b true OK _ (by first | (with_reducible exact P0.out) | (with_reducible exact ns_al (And.right (by with_reducible assumption)) _ P0.out) | (with_reducible exact P1.out _))).mono ?_; rintro e v1 ⟨rfl, p1, k1⟩; (first | (with_reducible have r1 := ns_newd hOW k1) | skip)) | (go_at_call_of 59 (Value.agg #[.int .i64 c'.kind, .string c'.text, .int .i64 c'.num, .int .i64 c'.at_]); refine (parse1_any c' (true && (b.kind == 2)) OK _ (by first | (with_reducible exact p1) | (with_reducible exact ns_al (And.right (by with_reducible assumption)) _ p1) | (with_reducible exact P1.out _))).mono ?_; rintro e v2 ⟨rfl, p2, k2⟩; (first | (with_reducible have r2 := ns_old r1 hOW k2) | (with_reducible have r2 := ns_new (And.right (by with_reducible assumption)) k2) | skip)) | (go_at_call_of 59 (Value.agg #[.int .i64 d.kind, .string d.text, .int .i64 d.num, .int .i64 d.at_]); refine (parse1_any d (true && (b.kind == 2) && (c'.kind == 2)) OK _ (by first | (with_reducible exact p2) | (with_reducible exact ns_al (And.right (by with_reducible assumption)) _ p2) | (with_reducible exact P1.out _))).mono ?_; rintro e v3 ⟨rfl, p3, k3⟩; (first | (with_reducible have r3 := ns_old r2 hOW k3) | (with_reducible have r3 := ns_new (And.right (by with_reducible assumption)) k3) | skip); (first | (have rr := row4n r3.1; obtain ⟨fz, s0, s1, s2, s3⟩ := rr) | skip)))
        try go_wp2_with (fail)
        refine hK.out _ _ ?_ (fun hHeld => ?_)
        · (try dsimp only); (first | (with_reducible assumption) | (with_reducible exact S0.out) | (with_reducible exact S1.out _) | (with_reducible exact ns_call (by with_reducible assumption) p3 k3) | (with_reducible exact ns_call (by with_reducible assumption) p2 k2) | (with_reducible exact ns_call (by with_reducible assumption) p1 k1) | (with_reducible exact ns_set4 (by with_reducible assumption) r3) | (with_reducible exact ns_alloc (by with_reducible assumption) _))
        clear hK K
        try simp only [Act.put, List.setIfInBounds_toArray, List.set_cons_zero, List.set_cons_succ]
        refine wpAnyH_take (i := 6) (oi := ⟨_, _, _, _, _, _⟩) (v := ?v_18) rfl (by kernel_rfl) (by kernel_rfl) (by kernel_rfl) (fun _ _ _ h => h) (Or.inl ⟨by rfl, ?hy_18⟩) (by assumption) ?r_18
        case hy_18 => (intro w_ hS_; (try dsimp only at hS_); go_simp; try with_reducible rfl)
        try simp only [Act.put, List.setIfInBounds_toArray, List.set_cons_zero, List.set_cons_succ]
        refine wpAnyH_ready (rs := [11, 23]) (by kernel_rfl) (by simp) ?_
        refine AllReadyH.cons (o := ⟨_, _, _, _, _, _⟩) rfl (fun K hK => ?_) ?_
        · go_simp
          (first | (go_at_call 60; refine (hRd.out _ (And.right (by with_reducible assumption))).mono ?_; rintro e v' ⟨rfl, rfl⟩; rw [hidx.out]) | (go_at_call_of 59 (Value.agg #[.int .i64 b.kind, .string b.text, .int .i64 b.num, .int .i64 b.at_]); refine (parse1_any b true OK _ (by first | (with_reducible exact P0.out) | (with_reducible exact ns_al (And.right (by with_reducible assumption)) _ P0.out) | (with_reducible exact P1.out _))).mono ?_; rintro e v1 ⟨rfl, p1, k1⟩; (first | (with_reducible have r1 := ns_newd hOW k1) | skip)) | (go_at_call_of 59 (Value.agg #[.int .i64 c'.kind, .string c'.text, .int .i64 c'.num, .int .i64 c'.at_]); refine (parse1_any c' (true && (b.kind == 2)) OK _ (by first | (with_reducible exact p1) | (with_reducible exact ns_al (And.right (by with_reducible assumption)) _ p1) | (with_reducible exact P1.out _))).mono ?_; rintro e v2 ⟨rfl, p2, k2⟩; (first | (with_reducible have r2 := ns_old r1 hOW k2) | (with_reducible have r2 := ns_new (And.right (by with_reducible assumption)) k2) | skip)) | (go_at_call_of 59 (Value.agg #[.int .i64 d.kind, .string d.text, .int .i64 d.num, .int .i64 d.at_]); refine (parse1_any d (true && (b.kind == 2) && (c'.kind == 2)) OK _ (by first | (with_reducible exact p2) | (with_reducible exact ns_al (And.right (by with_reducible assumption)) _ p2) | (with_reducible exact P1.out _))).mono ?_; rintro e v3 ⟨rfl, p3, k3⟩; (first | (with_reducible have r3 := ns_old r2 hOW k3) | (with_reducible have r3 := ns_new (And.right (by with_reducible assumption)) k3) | skip); (first | (have rr := row4n r3.1; obtain ⟨fz, s0, s1, s2, s3⟩ := rr) | skip)))
          try go_wp2_with (fail)
          refine hK.out _ _ ?_ (fun hHeld => ?_)
          · (try dsimp only); (first | (with_reducible assumption) | (with_reducible exact S0.out) | (with_reducible exact S1.out _) | (with_reducible exact ns_call (by with_reducible assumption) p3 k3) | (with_reducible exact ns_call (by with_reducible assumption) p2 k2) | (with_reducible exact ns_call (by with_reducible assumption) p1 k1) | (with_reducible exact ns_set4 (by with_reducible assumption) r3) | (with_reducible exact ns_alloc (by with_reducible assumption) _))
          clear hK K
          try simp only [Act.put, List.setIfInBounds_toArray, List.set_cons_zero, List.set_cons_succ]
          refine wpAnyH_ready (rs := [16, 23]) (by kernel_rfl) (by simp) ?_
          refine AllReadyH.cons (o := ⟨_, _, _, _, _, _⟩) rfl (fun K hK => ?_) ?_
          · go_simp
            (first | (go_at_call 60; refine (hRd.out _ (And.right (by with_reducible assumption))).mono ?_; rintro e v' ⟨rfl, rfl⟩; rw [hidx.out]) | (go_at_call_of 59 (Value.agg #[.int .i64 b.kind, .string b.text, .int .i64 b.num, .int .i64 b.at_]); refine (parse1_any b true OK _ (by first | (with_reducible exact P0.out) | (with_reducible exact ns_al (And.right (by with_reducible assumption)) _ P0.out) | (with_reducible exact P1.out _))).mono ?_; rintro e v1 ⟨rfl, p1, k1⟩; (first | (with_reducible have r1 := ns_newd hOW k1) | skip)) | (go_at_call_of 59 (Value.agg #[.int .i64 c'.kind, .string c'.text, .int .i64 c'.num, .int .i64 c'.at_]); refine (parse1_any c' (true && (b.kind == 2)) OK _ (by first | (with_reducible exact p1) | (with_reducible exact ns_al (And.right (by with_reducible assumption)) _ p1) | (with_reducible exact P1.out _))).mono ?_; rintro e v2 ⟨rfl, p2, k2⟩; (first | (with_reducible have r2 := ns_old r1 hOW k2) | (with_reducible have r2 := ns_new (And.right (by with_reducible assumption)) k2) | skip)) | (go_at_call_of 59 (Value.agg #[.int .i64 d.kind, .string d.text, .int .i64 d.num, .int .i64 d.at_]); refine (parse1_any d (true && (b.kind == 2) && (c'.kind == 2)) OK _ (by first | (with_reducible exact p2) | (with_reducible exact ns_al (And.right (by with_reducible assumption)) _ p2) | (with_reducible exact P1.out _))).mono ?_; rintro e v3 ⟨rfl, p3, k3⟩; (first | (with_reducible have r3 := ns_old r2 hOW k3) | (with_reducible have r3 := ns_new (And.right (by with_reducible assumption)) k3) | skip); (first | (have rr := row4n r3.1; obtain ⟨fz, s0, s1, s2, s3⟩ := rr) | skip)))
            try go_wp2_with (fail)
            refine hK.out _ _ ?_ (fun hHeld => ?_)
            · (try dsimp only); (first | (with_reducible assumption) | (with_reducible exact S0.out) | (with_reducible exact S1.out _) | (with_reducible exact ns_call (by with_reducible assumption) p3 k3) | (with_reducible exact ns_call (by with_reducible assumption) p2 k2) | (with_reducible exact ns_call (by with_reducible assumption) p1 k1) | (with_reducible exact ns_set4 (by with_reducible assumption) r3) | (with_reducible exact ns_alloc (by with_reducible assumption) _))
            clear hK K
            try simp only [Act.put, List.setIfInBounds_toArray, List.set_cons_zero, List.set_cons_succ]
            refine wpAnyH_ready (rs := [21, 23]) (by kernel_rfl) (by simp) ?_
            refine AllReadyH.cons (o := ⟨_, _, _, _, _, _⟩) rfl (fun K hK => ?_) ?_
            · go_simp
              (first | (go_at_call 60; refine (hRd.out _ (And.right (by with_reducible assumption))).mono ?_; rintro e v' ⟨rfl, rfl⟩; rw [hidx.out]) | (go_at_call_of 59 (Value.agg #[.int .i64 b.kind, .string b.text, .int .i64 b.num, .int .i64 b.at_]); refine (parse1_any b true OK _ (by first | (with_reducible exact P0.out) | (with_reducible exact ns_al (And.right (by with_reducible assumption)) _ P0.out) | (with_reducible exact P1.out _))).mono ?_; rintro e v1 ⟨rfl, p1, k1⟩; (first | (with_reducible have r1 := ns_newd hOW k1) | skip)) | (go_at_call_of 59 (Value.agg #[.int .i64 c'.kind, .string c'.text, .int .i64 c'.num, .int .i64 c'.at_]); refine (parse1_any c' (true && (b.kind == 2)) OK _ (by first | (with_reducible exact p1) | (with_reducible exact ns_al (And.right (by with_reducible assumption)) _ p1) | (with_reducible exact P1.out _))).mono ?_; rintro e v2 ⟨rfl, p2, k2⟩; (first | (with_reducible have r2 := ns_old r1 hOW k2) | (with_reducible have r2 := ns_new (And.right (by with_reducible assumption)) k2) | skip)) | (go_at_call_of 59 (Value.agg #[.int .i64 d.kind, .string d.text, .int .i64 d.num, .int .i64 d.at_]); refine (parse1_any d (true && (b.kind == 2) && (c'.kind == 2)) OK _ (by first | (with_reducible exact p2) | (with_reducible exact ns_al (And.right (by with_reducible assumption)) _ p2) | (with_reducible exact P1.out _))).mono ?_; rintro e v3 ⟨rfl, p3, k3⟩; (first | (with_reducible have r3 := ns_old r2 hOW k3) | (with_reducible have r3 := ns_new (And.right (by with_reducible assumption)) k3) | skip); (first | (have rr := row4n r3.1; obtain ⟨fz, s0, s1, s2, s3⟩ := rr) | skip)))
              try go_wp2_with (fail)
              refine hK.out _ _ ?_ (fun hHeld => ?_)
              · (try dsimp only); (first | (with_reducible assumption) | (with_reducible exact S0.out) | (with_reducible exact S1.out _) | (with_reducible exact ns_call (by with_reducible assumption) p3 k3) | (with_reducible exact ns_call (by with_reducible assumption) p2 k2) | (with_reducible exact ns_call (by with_reducible assumption) p1 k1) | (with_reducible exact ns_set4 (by with_reducible assumption) r3) | (with_reducible exact ns_alloc (by with_reducible assumption) _))
              clear hK K
              try simp only [Act.put, List.setIfInBounds_toArray, List.set_cons_zero, List.set_cons_succ]
              refine wpAnyH_take (i := 22) (oi := ⟨_, _, _, _, _, _⟩) (v := ?v_19) rfl (by kernel_rfl) (by kernel_rfl) (by kernel_rfl) (fun _ _ _ h => h) (Or.inl ⟨by rfl, ?hy_19⟩) (by assumption) ?r_19
              case hy_19 => (intro w_ hS_; (try dsimp only at hS_); go_simp; try with_reducible rfl)
              try simp only [Act.put, List.setIfInBounds_toArray, List.set_cons_zero, List.set_cons_succ]
              refine wpAnyH_ready (rs := [23]) (by kernel_rfl) (by simp) ?_
              refine AllReadyH.cons (o := ⟨_, _, _, _, _, _⟩) rfl (fun K hK => ?_) AllReadyH.nil
              go_simp
              refine hK.out _ _ ?_ (fun hHeld => ?_)
              · (try dsimp only); (first | (with_reducible assumption) | (with_reducible exact S0.out) | (with_reducible exact S1.out _) | (with_reducible exact ns_call (by with_reducible assumption) p3 k3) | (with_reducible exact ns_call (by with_reducible assumption) p2 k2) | (with_reducible exact ns_call (by with_reducible assumption) p1 k1) | (with_reducible exact ns_set4 (by with_reducible assumption) r3) | (with_reducible exact ns_alloc (by with_reducible assumption) _))
              clear hK K
              try simp only [Act.put, List.setIfInBounds_toArray, List.set_cons_zero, List.set_cons_succ]
              refine wpAnyH_ready (rs := [24]) (by kernel_rfl) (by simp) ?_
              refine AllReadyH.cons (o := ⟨_, _, _, _, _, _⟩) rfl (fun K hK => ?_) AllReadyH.nil
              go_simp
              refine hK.out _ _ ?_ (fun hHeld => ?_)
              · (try dsimp only); (first | (with_reducible assumption) | (with_reducible exact S0.out) | (with_reducible exact S1.out _) | (with_reducible exact ns_call (by with_reducible assumption) p3 k3) | (with_reducible exact ns_call (by with_reducible assumption) p2 k2) | (with_reducible exact ns_call (by with_reducible assumption) p1 k1) | (with_reducible exact ns_set4 (by with_reducible assumption) r3) | (with_reducible exact ns_alloc (by with_reducible assumption) _))
              clear hK K
              try simp only [Act.put, List.setIfInBounds_toArray, List.set_cons_zero, List.set_cons_succ]
              refine wpAnyH_done (by kernel_rfl) ?_ _
              (go_wp2_with (fail); go_meet; rw [← hm.out]; first | (with_reducible exact cl_old (by with_reducible assumption) p3 r3) | (with_reducible exact cl_new (by with_reducible assumption) p3) | exact cl_old (by with_reducible assumption) p3 r3 | exact cl_new (by with_reducible assumption) p3)
            refine AllReadyH.cons (o := ⟨_, _, _, _, _, _⟩) rfl (fun K hK => ?_) AllReadyH.nil
            go_simp
            refine hK.out _ _ ?_ (fun hHeld => ?_)
            · (try dsimp only); (first | (with_reducible assumption) | (with_reducible exact S0.out) | (with_reducible exact S1.out _) | (with_reducible exact ns_call (by with_reducible assumption) p3 k3) | (with_reducible exact ns_call (by with_reducible assumption) p2 k2) | (with_reducible exact ns_call (by with_reducible assumption) p1 k1) | (with_reducible exact ns_set4 (by with_reducible assumption) r3) | (with_reducible exact ns_alloc (by with_reducible assumption) _))
            clear hK K
            try simp only [Act.put, List.setIfInBounds_toArray, List.set_cons_zero, List.set_cons_succ]
            refine wpAnyH_ready (rs := [21]) (by kernel_rfl) (by simp) ?_
            refine AllReadyH.cons (o := ⟨_, _, _, _, _, _⟩) rfl (fun K hK => ?_) AllReadyH.nil
            go_simp
            (first | (go_at_call 60; refine (hRd.out _ (And.right (by with_reducible assumption))).mono ?_; rintro e v' ⟨rfl, rfl⟩; rw [hidx.out]) | (go_at_call_of 59 (Value.agg #[.int .i64 b.kind, .string b.text, .int .i64 b.num, .int .i64 b.at_]); refine (parse1_any b true OK _ (by first | (with_reducible exact P0.out) | (with_reducible exact ns_al (And.right (by with_reducible assumption)) _ P0.out) | (with_reducible exact P1.out _))).mono ?_; rintro e v1 ⟨rfl, p1, k1⟩; (first | (with_reducible have r1 := ns_newd hOW k1) | skip)) | (go_at_call_of 59 (Value.agg #[.int .i64 c'.kind, .string c'.text, .int .i64 c'.num, .int .i64 c'.at_]); refine (parse1_any c' (true && (b.kind == 2)) OK _ (by first | (with_reducible exact p1) | (with_reducible exact ns_al (And.right (by with_reducible assumption)) _ p1) | (with_reducible exact P1.out _))).mono ?_; rintro e v2 ⟨rfl, p2, k2⟩; (first | (with_reducible have r2 := ns_old r1 hOW k2) | (with_reducible have r2 := ns_new (And.right (by with_reducible assumption)) k2) | skip)) | (go_at_call_of 59 (Value.agg #[.int .i64 d.kind, .string d.text, .int .i64 d.num, .int .i64 d.at_]); refine (parse1_any d (true && (b.kind == 2) && (c'.kind == 2)) OK _ (by first | (with_reducible exact p2) | (with_reducible exact ns_al (And.right (by with_reducible assumption)) _ p2) | (with_reducible exact P1.out _))).mono ?_; rintro e v3 ⟨rfl, p3, k3⟩; (first | (with_reducible have r3 := ns_old r2 hOW k3) | (with_reducible have r3 := ns_new (And.right (by with_reducible assumption)) k3) | skip); (first | (have rr := row4n r3.1; obtain ⟨fz, s0, s1, s2, s3⟩ := rr) | skip)))
            try go_wp2_with (fail)
            refine hK.out _ _ ?_ (fun hHeld => ?_)
            · (try dsimp only); (first | (with_reducible assumption) | (with_reducible exact S0.out) | (with_reducible exact S1.out _) | (with_reducible exact ns_call (by with_reducible assumption) p3 k3) | (with_reducible exact ns_call (by with_reducible assumption) p2 k2) | (with_reducible exact ns_call (by with_reducible assumption) p1 k1) | (with_reducible exact ns_set4 (by with_reducible assumption) r3) | (with_reducible exact ns_alloc (by with_reducible assumption) _))
            clear hK K
            try simp only [Act.put, List.setIfInBounds_toArray, List.set_cons_zero, List.set_cons_succ]
            refine wpAnyH_take (i := 22) (oi := ⟨_, _, _, _, _, _⟩) (v := ?v_20) rfl (by kernel_rfl) (by kernel_rfl) (by kernel_rfl) (fun _ _ _ h => h) (Or.inl ⟨by rfl, ?hy_20⟩) (by assumption) ?r_20
            case hy_20 => (intro w_ hS_; (try dsimp only at hS_); go_simp; try with_reducible rfl)
            try simp only [Act.put, List.setIfInBounds_toArray, List.set_cons_zero, List.set_cons_succ]
            refine wpAnyH_ready (rs := [24]) (by kernel_rfl) (by simp) ?_
            refine AllReadyH.cons (o := ⟨_, _, _, _, _, _⟩) rfl (fun K hK => ?_) AllReadyH.nil
            go_simp
            refine hK.out _ _ ?_ (fun hHeld => ?_)
            · (try dsimp only); (first | (with_reducible assumption) | (with_reducible exact S0.out) | (with_reducible exact S1.out _) | (with_reducible exact ns_call (by with_reducible assumption) p3 k3) | (with_reducible exact ns_call (by with_reducible assumption) p2 k2) | (with_reducible exact ns_call (by with_reducible assumption) p1 k1) | (with_reducible exact ns_set4 (by with_reducible assumption) r3) | (with_reducible exact ns_alloc (by with_reducible assumption) _))
            clear hK K
            try simp only [Act.put, List.setIfInBounds_toArray, List.set_cons_zero, List.set_cons_succ]
            refine wpAnyH_done (by kernel_rfl) ?_ _
            (go_wp2_with (fail); go_meet; rw [← hm.out]; first | (with_reducible exact cl_old (by with_reducible assumption) p3 r3) | (with_reducible exact cl_new (by with_reducible assumption) p3) | exact cl_old (by with_reducible assumption) p3 r3 | exact cl_new (by with_reducible assumption) p3)
          refine AllReadyH.cons (o := ⟨_, _, _, _, _, _⟩) rfl (fun K hK => ?_) AllReadyH.nil
          go_simp
          refine hK.out _ _ ?_ (fun hHeld => ?_)
          · (try dsimp only); (first | (with_reducible assumption) | (with_reducible exact S0.out) | (with_reducible exact S1.out _) | (with_reducible exact ns_call (by with_reducible assumption) p3 k3) | (with_reducible exact ns_call (by with_reducible assumption) p2 k2) | (with_reducible exact ns_call (by with_reducible assumption) p1 k1) | (with_reducible exact ns_set4 (by with_reducible assumption) r3) | (with_reducible exact ns_alloc (by with_reducible assumption) _))
          clear hK K
          try simp only [Act.put, List.setIfInBounds_toArray, List.set_cons_zero, List.set_cons_succ]
          refine wpAnyH_ready (rs := [16]) (by kernel_rfl) (by simp) ?_
          refine AllReadyH.cons (o := ⟨_, _, _, _, _, _⟩) rfl (fun K hK => ?_) AllReadyH.nil
          go_simp
          (first | (go_at_call 60; refine (hRd.out _ (And.right (by with_reducible assumption))).mono ?_; rintro e v' ⟨rfl, rfl⟩; rw [hidx.out]) | (go_at_call_of 59 (Value.agg #[.int .i64 b.kind, .string b.text, .int .i64 b.num, .int .i64 b.at_]); refine (parse1_any b true OK _ (by first | (with_reducible exact P0.out) | (with_reducible exact ns_al (And.right (by with_reducible assumption)) _ P0.out) | (with_reducible exact P1.out _))).mono ?_; rintro e v1 ⟨rfl, p1, k1⟩; (first | (with_reducible have r1 := ns_newd hOW k1) | skip)) | (go_at_call_of 59 (Value.agg #[.int .i64 c'.kind, .string c'.text, .int .i64 c'.num, .int .i64 c'.at_]); refine (parse1_any c' (true && (b.kind == 2)) OK _ (by first | (with_reducible exact p1) | (with_reducible exact ns_al (And.right (by with_reducible assumption)) _ p1) | (with_reducible exact P1.out _))).mono ?_; rintro e v2 ⟨rfl, p2, k2⟩; (first | (with_reducible have r2 := ns_old r1 hOW k2) | (with_reducible have r2 := ns_new (And.right (by with_reducible assumption)) k2) | skip)) | (go_at_call_of 59 (Value.agg #[.int .i64 d.kind, .string d.text, .int .i64 d.num, .int .i64 d.at_]); refine (parse1_any d (true && (b.kind == 2) && (c'.kind == 2)) OK _ (by first | (with_reducible exact p2) | (with_reducible exact ns_al (And.right (by with_reducible assumption)) _ p2) | (with_reducible exact P1.out _))).mono ?_; rintro e v3 ⟨rfl, p3, k3⟩; (first | (with_reducible have r3 := ns_old r2 hOW k3) | (with_reducible have r3 := ns_new (And.right (by with_reducible assumption)) k3) | skip); (first | (have rr := row4n r3.1; obtain ⟨fz, s0, s1, s2, s3⟩ := rr) | skip)))
          try go_wp2_with (fail)
          refine hK.out _ _ ?_ (fun hHeld => ?_)
          · (try dsimp only); (first | (with_reducible assumption) | (with_reducible exact S0.out) | (with_reducible exact S1.out _) | (with_reducible exact ns_call (by with_reducible assumption) p3 k3) | (with_reducible exact ns_call (by with_reducible assumption) p2 k2) | (with_reducible exact ns_call (by with_reducible assumption) p1 k1) | (with_reducible exact ns_set4 (by with_reducible assumption) r3) | (with_reducible exact ns_alloc (by with_reducible assumption) _))
          clear hK K
          try simp only [Act.put, List.setIfInBounds_toArray, List.set_cons_zero, List.set_cons_succ]
          refine wpAnyH_ready (rs := [21]) (by kernel_rfl) (by simp) ?_
          refine AllReadyH.cons (o := ⟨_, _, _, _, _, _⟩) rfl (fun K hK => ?_) AllReadyH.nil
          go_simp
          (first | (go_at_call 60; refine (hRd.out _ (And.right (by with_reducible assumption))).mono ?_; rintro e v' ⟨rfl, rfl⟩; rw [hidx.out]) | (go_at_call_of 59 (Value.agg #[.int .i64 b.kind, .string b.text, .int .i64 b.num, .int .i64 b.at_]); refine (parse1_any b true OK _ (by first | (with_reducible exact P0.out) | (with_reducible exact ns_al (And.right (by with_reducible assumption)) _ P0.out) | (with_reducible exact P1.out _))).mono ?_; rintro e v1 ⟨rfl, p1, k1⟩; (first | (with_reducible have r1 := ns_newd hOW k1) | skip)) | (go_at_call_of 59 (Value.agg #[.int .i64 c'.kind, .string c'.text, .int .i64 c'.num, .int .i64 c'.at_]); refine (parse1_any c' (true && (b.kind == 2)) OK _ (by first | (with_reducible exact p1) | (with_reducible exact ns_al (And.right (by with_reducible assumption)) _ p1) | (with_reducible exact P1.out _))).mono ?_; rintro e v2 ⟨rfl, p2, k2⟩; (first | (with_reducible have r2 := ns_old r1 hOW k2) | (with_reducible have r2 := ns_new (And.right (by with_reducible assumption)) k2) | skip)) | (go_at_call_of 59 (Value.agg #[.int .i64 d.kind, .string d.text, .int .i64 d.num, .int .i64 d.at_]); refine (parse1_any d (true && (b.kind == 2) && (c'.kind == 2)) OK _ (by first | (with_reducible exact p2) | (with_reducible exact ns_al (And.right (by with_reducible assumption)) _ p2) | (with_reducible exact P1.out _))).mono ?_; rintro e v3 ⟨rfl, p3, k3⟩; (first | (with_reducible have r3 := ns_old r2 hOW k3) | (with_reducible have r3 := ns_new (And.right (by with_reducible assumption)) k3) | skip); (first | (have rr := row4n r3.1; obtain ⟨fz, s0, s1, s2, s3⟩ := rr) | skip)))
          try go_wp2_with (fail)
          refine hK.out _ _ ?_ (fun hHeld => ?_)
          · (try dsimp only); (first | (with_reducible assumption) | (with_reducible exact S0.out) | (with_reducible exact S1.out _) | (with_reducible exact ns_call (by with_reducible assumption) p3 k3) | (with_reducible exact ns_call (by with_reducible assumption) p2 k2) | (with_reducible exact ns_call (by with_reducible assumption) p1 k1) | (with_reducible exact ns_set4 (by with_reducible assumption) r3) | (with_reducible exact ns_alloc (by with_reducible assumption) _))
          clear hK K
          try simp only [Act.put, List.setIfInBounds_toArray, List.set_cons_zero, List.set_cons_succ]
          refine wpAnyH_take (i := 22) (oi := ⟨_, _, _, _, _, _⟩) (v := ?v_21) rfl (by kernel_rfl) (by kernel_rfl) (by kernel_rfl) (fun _ _ _ h => h) (Or.inl ⟨by rfl, ?hy_21⟩) (by assumption) ?r_21
          case hy_21 => (intro w_ hS_; (try dsimp only at hS_); go_simp; try with_reducible rfl)
          try simp only [Act.put, List.setIfInBounds_toArray, List.set_cons_zero, List.set_cons_succ]
          refine wpAnyH_ready (rs := [24]) (by kernel_rfl) (by simp) ?_
          refine AllReadyH.cons (o := ⟨_, _, _, _, _, _⟩) rfl (fun K hK => ?_) AllReadyH.nil
          go_simp
          refine hK.out _ _ ?_ (fun hHeld => ?_)
          · (try dsimp only); (first | (with_reducible assumption) | (with_reducible exact S0.out) | (with_reducible exact S1.out _) | (with_reducible exact ns_call (by with_reducible assumption) p3 k3) | (with_reducible exact ns_call (by with_reducible assumption) p2 k2) | (with_reducible exact ns_call (by with_reducible assumption) p1 k1) | (with_reducible exact ns_set4 (by with_reducible assumption) r3) | (with_reducible exact ns_alloc (by with_reducible assumption) _))
          clear hK K
          try simp only [Act.put, List.setIfInBounds_toArray, List.set_cons_zero, List.set_cons_succ]
          refine wpAnyH_done (by kernel_rfl) ?_ _
          (go_wp2_with (fail); go_meet; rw [← hm.out]; first | (with_reducible exact cl_old (by with_reducible assumption) p3 r3) | (with_reducible exact cl_new (by with_reducible assumption) p3) | exact cl_old (by with_reducible assumption) p3 r3 | exact cl_new (by with_reducible assumption) p3)
        refine AllReadyH.cons (o := ⟨_, _, _, _, _, _⟩) rfl (fun K hK => ?_) AllReadyH.nil
        go_simp
        refine hK.out _ _ ?_ (fun hHeld => ?_)
        · (try dsimp only); (first | (with_reducible assumption) | (with_reducible exact S0.out) | (with_reducible exact S1.out _) | (with_reducible exact ns_call (by with_reducible assumption) p3 k3) | (with_reducible exact ns_call (by with_reducible assumption) p2 k2) | (with_reducible exact ns_call (by with_reducible assumption) p1 k1) | (with_reducible exact ns_set4 (by with_reducible assumption) r3) | (with_reducible exact ns_alloc (by with_reducible assumption) _))
        clear hK K
        try simp only [Act.put, List.setIfInBounds_toArray, List.set_cons_zero, List.set_cons_succ]
        refine wpAnyH_ready (rs := [11]) (by kernel_rfl) (by simp) ?_
        refine AllReadyH.cons (o := ⟨_, _, _, _, _, _⟩) rfl (fun K hK => ?_) AllReadyH.nil
        go_simp
        (first | (go_at_call 60; refine (hRd.out _ (And.right (by with_reducible assumption))).mono ?_; rintro e v' ⟨rfl, rfl⟩; rw [hidx.out]) | (go_at_call_of 59 (Value.agg #[.int .i64 b.kind, .string b.text, .int .i64 b.num, .int .i64 b.at_]); refine (parse1_any b true OK _ (by first | (with_reducible exact P0.out) | (with_reducible exact ns_al (And.right (by with_reducible assumption)) _ P0.out) | (with_reducible exact P1.out _))).mono ?_; rintro e v1 ⟨rfl, p1, k1⟩; (first | (with_reducible have r1 := ns_newd hOW k1) | skip)) | (go_at_call_of 59 (Value.agg #[.int .i64 c'.kind, .string c'.text, .int .i64 c'.num, .int .i64 c'.at_]); refine (parse1_any c' (true && (b.kind == 2)) OK _ (by first | (with_reducible exact p1) | (with_reducible exact ns_al (And.right (by with_reducible assumption)) _ p1) | (with_reducible exact P1.out _))).mono ?_; rintro e v2 ⟨rfl, p2, k2⟩; (first | (with_reducible have r2 := ns_old r1 hOW k2) | (with_reducible have r2 := ns_new (And.right (by with_reducible assumption)) k2) | skip)) | (go_at_call_of 59 (Value.agg #[.int .i64 d.kind, .string d.text, .int .i64 d.num, .int .i64 d.at_]); refine (parse1_any d (true && (b.kind == 2) && (c'.kind == 2)) OK _ (by first | (with_reducible exact p2) | (with_reducible exact ns_al (And.right (by with_reducible assumption)) _ p2) | (with_reducible exact P1.out _))).mono ?_; rintro e v3 ⟨rfl, p3, k3⟩; (first | (with_reducible have r3 := ns_old r2 hOW k3) | (with_reducible have r3 := ns_new (And.right (by with_reducible assumption)) k3) | skip); (first | (have rr := row4n r3.1; obtain ⟨fz, s0, s1, s2, s3⟩ := rr) | skip)))
        try go_wp2_with (fail)
        refine hK.out _ _ ?_ (fun hHeld => ?_)
        · (try dsimp only); (first | (with_reducible assumption) | (with_reducible exact S0.out) | (with_reducible exact S1.out _) | (with_reducible exact ns_call (by with_reducible assumption) p3 k3) | (with_reducible exact ns_call (by with_reducible assumption) p2 k2) | (with_reducible exact ns_call (by with_reducible assumption) p1 k1) | (with_reducible exact ns_set4 (by with_reducible assumption) r3) | (with_reducible exact ns_alloc (by with_reducible assumption) _))
        clear hK K
        try simp only [Act.put, List.setIfInBounds_toArray, List.set_cons_zero, List.set_cons_succ]
        refine wpAnyH_ready (rs := [16]) (by kernel_rfl) (by simp) ?_
        refine AllReadyH.cons (o := ⟨_, _, _, _, _, _⟩) rfl (fun K hK => ?_) AllReadyH.nil
        go_simp
        (first | (go_at_call 60; refine (hRd.out _ (And.right (by with_reducible assumption))).mono ?_; rintro e v' ⟨rfl, rfl⟩; rw [hidx.out]) | (go_at_call_of 59 (Value.agg #[.int .i64 b.kind, .string b.text, .int .i64 b.num, .int .i64 b.at_]); refine (parse1_any b true OK _ (by first | (with_reducible exact P0.out) | (with_reducible exact ns_al (And.right (by with_reducible assumption)) _ P0.out) | (with_reducible exact P1.out _))).mono ?_; rintro e v1 ⟨rfl, p1, k1⟩; (first | (with_reducible have r1 := ns_newd hOW k1) | skip)) | (go_at_call_of 59 (Value.agg #[.int .i64 c'.kind, .string c'.text, .int .i64 c'.num, .int .i64 c'.at_]); refine (parse1_any c' (true && (b.kind == 2)) OK _ (by first | (with_reducible exact p1) | (with_reducible exact ns_al (And.right (by with_reducible assumption)) _ p1) | (with_reducible exact P1.out _))).mono ?_; rintro e v2 ⟨rfl, p2, k2⟩; (first | (with_reducible have r2 := ns_old r1 hOW k2) | (with_reducible have r2 := ns_new (And.right (by with_reducible assumption)) k2) | skip)) | (go_at_call_of 59 (Value.agg #[.int .i64 d.kind, .string d.text, .int .i64 d.num, .int .i64 d.at_]); refine (parse1_any d (true && (b.kind == 2) && (c'.kind == 2)) OK _ (by first | (with_reducible exact p2) | (with_reducible exact ns_al (And.right (by with_reducible assumption)) _ p2) | (with_reducible exact P1.out _))).mono ?_; rintro e v3 ⟨rfl, p3, k3⟩; (first | (with_reducible have r3 := ns_old r2 hOW k3) | (with_reducible have r3 := ns_new (And.right (by with_reducible assumption)) k3) | skip); (first | (have rr := row4n r3.1; obtain ⟨fz, s0, s1, s2, s3⟩ := rr) | skip)))
        try go_wp2_with (fail)
        refine hK.out _ _ ?_ (fun hHeld => ?_)
        · (try dsimp only); (first | (with_reducible assumption) | (with_reducible exact S0.out) | (with_reducible exact S1.out _) | (with_reducible exact ns_call (by with_reducible assumption) p3 k3) | (with_reducible exact ns_call (by with_reducible assumption) p2 k2) | (with_reducible exact ns_call (by with_reducible assumption) p1 k1) | (with_reducible exact ns_set4 (by with_reducible assumption) r3) | (with_reducible exact ns_alloc (by with_reducible assumption) _))
        clear hK K
        try simp only [Act.put, List.setIfInBounds_toArray, List.set_cons_zero, List.set_cons_succ]
        refine wpAnyH_ready (rs := [21]) (by kernel_rfl) (by simp) ?_
        refine AllReadyH.cons (o := ⟨_, _, _, _, _, _⟩) rfl (fun K hK => ?_) AllReadyH.nil
        go_simp
        (first | (go_at_call 60; refine (hRd.out _ (And.right (by with_reducible assumption))).mono ?_; rintro e v' ⟨rfl, rfl⟩; rw [hidx.out]) | (go_at_call_of 59 (Value.agg #[.int .i64 b.kind, .string b.text, .int .i64 b.num, .int .i64 b.at_]); refine (parse1_any b true OK _ (by first | (with_reducible exact P0.out) | (with_reducible exact ns_al (And.right (by with_reducible assumption)) _ P0.out) | (with_reducible exact P1.out _))).mono ?_; rintro e v1 ⟨rfl, p1, k1⟩; (first | (with_reducible have r1 := ns_newd hOW k1) | skip)) | (go_at_call_of 59 (Value.agg #[.int .i64 c'.kind, .string c'.text, .int .i64 c'.num, .int .i64 c'.at_]); refine (parse1_any c' (true && (b.kind == 2)) OK _ (by first | (with_reducible exact p1) | (with_reducible exact ns_al (And.right (by with_reducible assumption)) _ p1) | (with_reducible exact P1.out _))).mono ?_; rintro e v2 ⟨rfl, p2, k2⟩; (first | (with_reducible have r2 := ns_old r1 hOW k2) | (with_reducible have r2 := ns_new (And.right (by with_reducible assumption)) k2) | skip)) | (go_at_call_of 59 (Value.agg #[.int .i64 d.kind, .string d.text, .int .i64 d.num, .int .i64 d.at_]); refine (parse1_any d (true && (b.kind == 2) && (c'.kind == 2)) OK _ (by first | (with_reducible exact p2) | (with_reducible exact ns_al (And.right (by with_reducible assumption)) _ p2) | (with_reducible exact P1.out _))).mono ?_; rintro e v3 ⟨rfl, p3, k3⟩; (first | (with_reducible have r3 := ns_old r2 hOW k3) | (with_reducible have r3 := ns_new (And.right (by with_reducible assumption)) k3) | skip); (first | (have rr := row4n r3.1; obtain ⟨fz, s0, s1, s2, s3⟩ := rr) | skip)))
        try go_wp2_with (fail)
        refine hK.out _ _ ?_ (fun hHeld => ?_)
        · (try dsimp only); (first | (with_reducible assumption) | (with_reducible exact S0.out) | (with_reducible exact S1.out _) | (with_reducible exact ns_call (by with_reducible assumption) p3 k3) | (with_reducible exact ns_call (by with_reducible assumption) p2 k2) | (with_reducible exact ns_call (by with_reducible assumption) p1 k1) | (with_reducible exact ns_set4 (by with_reducible assumption) r3) | (with_reducible exact ns_alloc (by with_reducible assumption) _))
        clear hK K
        try simp only [Act.put, List.setIfInBounds_toArray, List.set_cons_zero, List.set_cons_succ]
        refine wpAnyH_take (i := 22) (oi := ⟨_, _, _, _, _, _⟩) (v := ?v_22) rfl (by kernel_rfl) (by kernel_rfl) (by kernel_rfl) (fun _ _ _ h => h) (Or.inl ⟨by rfl, ?hy_22⟩) (by assumption) ?r_22
        case hy_22 => (intro w_ hS_; (try dsimp only at hS_); go_simp; try with_reducible rfl)
        try simp only [Act.put, List.setIfInBounds_toArray, List.set_cons_zero, List.set_cons_succ]
        refine wpAnyH_ready (rs := [24]) (by kernel_rfl) (by simp) ?_
        refine AllReadyH.cons (o := ⟨_, _, _, _, _, _⟩) rfl (fun K hK => ?_) AllReadyH.nil
        go_simp
        refine hK.out _ _ ?_ (fun hHeld => ?_)
        · (try dsimp only); (first | (with_reducible assumption) | (with_reducible exact S0.out) | (with_reducible exact S1.out _) | (with_reducible exact ns_call (by with_reducible assumption) p3 k3) | (with_reducible exact ns_call (by with_reducible assumption) p2 k2) | (with_reducible exact ns_call (by with_reducible assumption) p1 k1) | (with_reducible exact ns_set4 (by with_reducible assumption) r3) | (with_reducible exact ns_alloc (by with_reducible assumption) _))
        clear hK K
        try simp only [Act.put, List.setIfInBounds_toArray, List.set_cons_zero, List.set_cons_succ]
        refine wpAnyH_done (by kernel_rfl) ?_ _
        (go_wp2_with (fail); go_meet; rw [← hm.out]; first | (with_reducible exact cl_old (by with_reducible assumption) p3 r3) | (with_reducible exact cl_new (by with_reducible assumption) p3) | exact cl_old (by with_reducible assumption) p3 r3 | exact cl_new (by with_reducible assumption) p3)
      refine AllReadyH.cons (o := ⟨_, _, _, _, _, _⟩) rfl (fun K hK => ?_) AllReadyH.nil
      go_simp
      refine hK.out _ _ ?_ (fun hHeld => ?_)
      · (try dsimp only); (first | (with_reducible assumption) | (with_reducible exact S0.out) | (with_reducible exact S1.out _) | (with_reducible exact ns_call (by with_reducible assumption) p3 k3) | (with_reducible exact ns_call (by with_reducible assumption) p2 k2) | (with_reducible exact ns_call (by with_reducible assumption) p1 k1) | (with_reducible exact ns_set4 (by with_reducible assumption) r3) | (with_reducible exact ns_alloc (by with_reducible assumption) _))
      clear hK K
      try simp only [Act.put, List.setIfInBounds_toArray, List.set_cons_zero, List.set_cons_succ]
      refine wpAnyH_ready (rs := [5]) (by kernel_rfl) (by simp) ?_
      refine AllReadyH.cons (o := ⟨_, _, _, _, _, _⟩) rfl (fun K hK => ?_) AllReadyH.nil
      go_simp
      (first | (go_at_call 60; refine (hRd.out _ (And.right (by with_reducible assumption))).mono ?_; rintro e v' ⟨rfl, rfl⟩; rw [hidx.out]) | (go_at_call_of 59 (Value.agg #[.int .i64 b.kind, .string b.text, .int .i64 b.num, .int .i64 b.at_]); refine (parse1_any b true OK _ (by first | (with_reducible exact P0.out) | (with_reducible exact ns_al (And.right (by with_reducible assumption)) _ P0.out) | (with_reducible exact P1.out _))).mono ?_; rintro e v1 ⟨rfl, p1, k1⟩; (first | (with_reducible have r1 := ns_newd hOW k1) | skip)) | (go_at_call_of 59 (Value.agg #[.int .i64 c'.kind, .string c'.text, .int .i64 c'.num, .int .i64 c'.at_]); refine (parse1_any c' (true && (b.kind == 2)) OK _ (by first | (with_reducible exact p1) | (with_reducible exact ns_al (And.right (by with_reducible assumption)) _ p1) | (with_reducible exact P1.out _))).mono ?_; rintro e v2 ⟨rfl, p2, k2⟩; (first | (with_reducible have r2 := ns_old r1 hOW k2) | (with_reducible have r2 := ns_new (And.right (by with_reducible assumption)) k2) | skip)) | (go_at_call_of 59 (Value.agg #[.int .i64 d.kind, .string d.text, .int .i64 d.num, .int .i64 d.at_]); refine (parse1_any d (true && (b.kind == 2) && (c'.kind == 2)) OK _ (by first | (with_reducible exact p2) | (with_reducible exact ns_al (And.right (by with_reducible assumption)) _ p2) | (with_reducible exact P1.out _))).mono ?_; rintro e v3 ⟨rfl, p3, k3⟩; (first | (with_reducible have r3 := ns_old r2 hOW k3) | (with_reducible have r3 := ns_new (And.right (by with_reducible assumption)) k3) | skip); (first | (have rr := row4n r3.1; obtain ⟨fz, s0, s1, s2, s3⟩ := rr) | skip)))
      try go_wp2_with (fail)
      refine hK.out _ _ ?_ (fun hHeld => ?_)
      · (try dsimp only); (first | (with_reducible assumption) | (with_reducible exact S0.out) | (with_reducible exact S1.out _) | (with_reducible exact ns_call (by with_reducible assumption) p3 k3) | (with_reducible exact ns_call (by with_reducible assumption) p2 k2) | (with_reducible exact ns_call (by with_reducible assumption) p1 k1) | (with_reducible exact ns_set4 (by with_reducible assumption) r3) | (with_reducible exact ns_alloc (by with_reducible assumption) _))
      clear hK K
      try simp only [Act.put, List.setIfInBounds_toArray, List.set_cons_zero, List.set_cons_succ]
      refine wpAnyH_take (i := 6) (oi := ⟨_, _, _, _, _, _⟩) (v := ?v_23) rfl (by kernel_rfl) (by kernel_rfl) (by kernel_rfl) (fun _ _ _ h => h) (Or.inl ⟨by rfl, ?hy_23⟩) (by assumption) ?r_23
      case hy_23 => (intro w_ hS_; (try dsimp only at hS_); go_simp; try with_reducible rfl)
      try simp only [Act.put, List.setIfInBounds_toArray, List.set_cons_zero, List.set_cons_succ]
      refine wpAnyH_ready (rs := [11]) (by kernel_rfl) (by simp) ?_
      refine AllReadyH.cons (o := ⟨_, _, _, _, _, _⟩) rfl (fun K hK => ?_) AllReadyH.nil
      go_simp
      (first | (go_at_call 60; refine (hRd.out _ (And.right (by with_reducible assumption))).mono ?_; rintro e v' ⟨rfl, rfl⟩; rw [hidx.out]) | (go_at_call_of 59 (Value.agg #[.int .i64 b.kind, .string b.text, .int .i64 b.num, .int .i64 b.at_]); refine (parse1_any b true OK _ (by first | (with_reducible exact P0.out) | (with_reducible exact ns_al (And.right (by with_reducible assumption)) _ P0.out) | (with_reducible exact P1.out _))).mono ?_; rintro e v1 ⟨rfl, p1, k1⟩; (first | (with_reducible have r1 := ns_newd hOW k1) | skip)) | (go_at_call_of 59 (Value.agg #[.int .i64 c'.kind, .string c'.text, .int .i64 c'.num, .int .i64 c'.at_]); refine (parse1_any c' (true && (b.kind == 2)) OK _ (by first | (with_reducible exact p1) | (with_reducible exact ns_al (And.right (by with_reducible assumption)) _ p1) | (with_reducible exact P1.out _))).mono ?_; rintro e v2 ⟨rfl, p2, k2⟩; (first | (with_reducible have r2 := ns_old r1 hOW k2) | (with_reducible have r2 := ns_new (And.right (by with_reducible assumption)) k2) | skip)) | (go_at_call_of 59 (Value.agg #[.int .i64 d.kind, .string d.text, .int .i64 d.num, .int .i64 d.at_]); refine (parse1_any d (true && (b.kind == 2) && (c'.kind == 2)) OK _ (by first | (with_reducible exact p2) | (with_reducible exact ns_al (And.right (by with_reducible assumption)) _ p2) | (with_reducible exact P1.out _))).mono ?_; rintro e v3 ⟨rfl, p3, k3⟩; (first | (with_reducible have r3 := ns_old r2 hOW k3) | (with_reducible have r3 := ns_new (And.right (by with_reducible assumption)) k3) | skip); (first | (have rr := row4n r3.1; obtain ⟨fz, s0, s1, s2, s3⟩ := rr) | skip)))
      try go_wp2_with (fail)
      refine hK.out _ _ ?_ (fun hHeld => ?_)
      · (try dsimp only); (first | (with_reducible assumption) | (with_reducible exact S0.out) | (with_reducible exact S1.out _) | (with_reducible exact ns_call (by with_reducible assumption) p3 k3) | (with_reducible exact ns_call (by with_reducible assumption) p2 k2) | (with_reducible exact ns_call (by with_reducible assumption) p1 k1) | (with_reducible exact ns_set4 (by with_reducible assumption) r3) | (with_reducible exact ns_alloc (by with_reducible assumption) _))
      clear hK K
      try simp only [Act.put, List.setIfInBounds_toArray, List.set_cons_zero, List.set_cons_succ]
      refine wpAnyH_ready (rs := [16]) (by kernel_rfl) (by simp) ?_
      refine AllReadyH.cons (o := ⟨_, _, _, _, _, _⟩) rfl (fun K hK => ?_) AllReadyH.nil
      go_simp
      (first | (go_at_call 60; refine (hRd.out _ (And.right (by with_reducible assumption))).mono ?_; rintro e v' ⟨rfl, rfl⟩; rw [hidx.out]) | (go_at_call_of 59 (Value.agg #[.int .i64 b.kind, .string b.text, .int .i64 b.num, .int .i64 b.at_]); refine (parse1_any b true OK _ (by first | (with_reducible exact P0.out) | (with_reducible exact ns_al (And.right (by with_reducible assumption)) _ P0.out) | (with_reducible exact P1.out _))).mono ?_; rintro e v1 ⟨rfl, p1, k1⟩; (first | (with_reducible have r1 := ns_newd hOW k1) | skip)) | (go_at_call_of 59 (Value.agg #[.int .i64 c'.kind, .string c'.text, .int .i64 c'.num, .int .i64 c'.at_]); refine (parse1_any c' (true && (b.kind == 2)) OK _ (by first | (with_reducible exact p1) | (with_reducible exact ns_al (And.right (by with_reducible assumption)) _ p1) | (with_reducible exact P1.out _))).mono ?_; rintro e v2 ⟨rfl, p2, k2⟩; (first | (with_reducible have r2 := ns_old r1 hOW k2) | (with_reducible have r2 := ns_new (And.right (by with_reducible assumption)) k2) | skip)) | (go_at_call_of 59 (Value.agg #[.int .i64 d.kind, .string d.text, .int .i64 d.num, .int .i64 d.at_]); refine (parse1_any d (true && (b.kind == 2) && (c'.kind == 2)) OK _ (by first | (with_reducible exact p2) | (with_reducible exact ns_al (And.right (by with_reducible assumption)) _ p2) | (with_reducible exact P1.out _))).mono ?_; rintro e v3 ⟨rfl, p3, k3⟩; (first | (with_reducible have r3 := ns_old r2 hOW k3) | (with_reducible have r3 := ns_new (And.right (by with_reducible assumption)) k3) | skip); (first | (have rr := row4n r3.1; obtain ⟨fz, s0, s1, s2, s3⟩ := rr) | skip)))
      try go_wp2_with (fail)
      refine hK.out _ _ ?_ (fun hHeld => ?_)
      · (try dsimp only); (first | (with_reducible assumption) | (with_reducible exact S0.out) | (with_reducible exact S1.out _) | (with_reducible exact ns_call (by with_reducible assumption) p3 k3) | (with_reducible exact ns_call (by with_reducible assumption) p2 k2) | (with_reducible exact ns_call (by with_reducible assumption) p1 k1) | (with_reducible exact ns_set4 (by with_reducible assumption) r3) | (with_reducible exact ns_alloc (by with_reducible assumption) _))
      clear hK K
      try simp only [Act.put, List.setIfInBounds_toArray, List.set_cons_zero, List.set_cons_succ]
      refine wpAnyH_ready (rs := [21]) (by kernel_rfl) (by simp) ?_
      refine AllReadyH.cons (o := ⟨_, _, _, _, _, _⟩) rfl (fun K hK => ?_) AllReadyH.nil
      go_simp
      (first | (go_at_call 60; refine (hRd.out _ (And.right (by with_reducible assumption))).mono ?_; rintro e v' ⟨rfl, rfl⟩; rw [hidx.out]) | (go_at_call_of 59 (Value.agg #[.int .i64 b.kind, .string b.text, .int .i64 b.num, .int .i64 b.at_]); refine (parse1_any b true OK _ (by first | (with_reducible exact P0.out) | (with_reducible exact ns_al (And.right (by with_reducible assumption)) _ P0.out) | (with_reducible exact P1.out _))).mono ?_; rintro e v1 ⟨rfl, p1, k1⟩; (first | (with_reducible have r1 := ns_newd hOW k1) | skip)) | (go_at_call_of 59 (Value.agg #[.int .i64 c'.kind, .string c'.text, .int .i64 c'.num, .int .i64 c'.at_]); refine (parse1_any c' (true && (b.kind == 2)) OK _ (by first | (with_reducible exact p1) | (with_reducible exact ns_al (And.right (by with_reducible assumption)) _ p1) | (with_reducible exact P1.out _))).mono ?_; rintro e v2 ⟨rfl, p2, k2⟩; (first | (with_reducible have r2 := ns_old r1 hOW k2) | (with_reducible have r2 := ns_new (And.right (by with_reducible assumption)) k2) | skip)) | (go_at_call_of 59 (Value.agg #[.int .i64 d.kind, .string d.text, .int .i64 d.num, .int .i64 d.at_]); refine (parse1_any d (true && (b.kind == 2) && (c'.kind == 2)) OK _ (by first | (with_reducible exact p2) | (with_reducible exact ns_al (And.right (by with_reducible assumption)) _ p2) | (with_reducible exact P1.out _))).mono ?_; rintro e v3 ⟨rfl, p3, k3⟩; (first | (with_reducible have r3 := ns_old r2 hOW k3) | (with_reducible have r3 := ns_new (And.right (by with_reducible assumption)) k3) | skip); (first | (have rr := row4n r3.1; obtain ⟨fz, s0, s1, s2, s3⟩ := rr) | skip)))
      try go_wp2_with (fail)
      refine hK.out _ _ ?_ (fun hHeld => ?_)
      · (try dsimp only); (first | (with_reducible assumption) | (with_reducible exact S0.out) | (with_reducible exact S1.out _) | (with_reducible exact ns_call (by with_reducible assumption) p3 k3) | (with_reducible exact ns_call (by with_reducible assumption) p2 k2) | (with_reducible exact ns_call (by with_reducible assumption) p1 k1) | (with_reducible exact ns_set4 (by with_reducible assumption) r3) | (with_reducible exact ns_alloc (by with_reducible assumption) _))
      clear hK K
      try simp only [Act.put, List.setIfInBounds_toArray, List.set_cons_zero, List.set_cons_succ]
      refine wpAnyH_take (i := 22) (oi := ⟨_, _, _, _, _, _⟩) (v := ?v_24) rfl (by kernel_rfl) (by kernel_rfl) (by kernel_rfl) (fun _ _ _ h => h) (Or.inl ⟨by rfl, ?hy_24⟩) (by assumption) ?r_24
      case hy_24 => (intro w_ hS_; (try dsimp only at hS_); go_simp; try with_reducible rfl)
      try simp only [Act.put, List.setIfInBounds_toArray, List.set_cons_zero, List.set_cons_succ]
      refine wpAnyH_ready (rs := [24]) (by kernel_rfl) (by simp) ?_
      refine AllReadyH.cons (o := ⟨_, _, _, _, _, _⟩) rfl (fun K hK => ?_) AllReadyH.nil
      go_simp
      refine hK.out _ _ ?_ (fun hHeld => ?_)
      · (try dsimp only); (first | (with_reducible assumption) | (with_reducible exact S0.out) | (with_reducible exact S1.out _) | (with_reducible exact ns_call (by with_reducible assumption) p3 k3) | (with_reducible exact ns_call (by with_reducible assumption) p2 k2) | (with_reducible exact ns_call (by with_reducible assumption) p1 k1) | (with_reducible exact ns_set4 (by with_reducible assumption) r3) | (with_reducible exact ns_alloc (by with_reducible assumption) _))
      clear hK K
      try simp only [Act.put, List.setIfInBounds_toArray, List.set_cons_zero, List.set_cons_succ]
      refine wpAnyH_done (by kernel_rfl) ?_ _
      (go_wp2_with (fail); go_meet; rw [← hm.out]; first | (with_reducible exact cl_old (by with_reducible assumption) p3 r3) | (with_reducible exact cl_new (by with_reducible assumption) p3) | exact cl_old (by with_reducible assumption) p3 r3 | exact cl_new (by with_reducible assumption) p3)
    case rest =>
      obtain ⟨P, rfl, hPW, hP, hOKc, hkb⟩ := hcut
      have hPl := lt_of_block hP
      have hB3 := Lib.hid (Kb.below_ hBW.out hkb (fun k hk => by have : k = OK := hk; omega) (by omega))
      have e4 := (hkb.block w.heap.size hZW hZO).trans E3.out
      obtain ⟨f4, d0, d1, d2, d3⟩ := row4n e4
      obtain ⟨fp, p0, p1, p2, p3⟩ := row4 hP
      have o0 : wc.cell? ⟨OK, 0, none⟩ = some (.bool (true && (b.kind == 2) && (c'.kind == 2) && (d.kind == 2))) := by simp [World.cell?, hOKc]
      have hlt4 := lt_of_block e4
      have E4 := Lib.hid e4
      have Bad : ∀ x : Int, Hid (parseN s = (nt0, x)) → ∀ wx, Below w.heap.size w wx → RetNote w (parseN s) (.returned (.tuple #[.agg #[.int .i64 0, .int .i64 0, .int .i64 0, .int .i64 0], .int .i64 x])) ((((wx.setCell ⟨w.heap.size, 0, none⟩ (.int .i64 0)).setCell ⟨w.heap.size, 1, none⟩ (.int .i64 0)).setCell ⟨w.heap.size, 2, none⟩ (.int .i64 0)).setCell ⟨w.heap.size, 3, none⟩ (.int .i64 0)) := by
        intro x hx wx hwx
        refine ⟨by rw [hx.out]; rfl, ?_⟩
        exact (((hwx.setCell (p := ⟨w.heap.size, 0, none⟩) (Nat.le_refl _) _).setCell (p := ⟨w.heap.size, 1, none⟩) (Nat.le_refl _) _).setCell (p := ⟨w.heap.size, 2, none⟩) (Nat.le_refl _) _).setCell (p := ⟨w.heap.size, 3, none⟩) (Nat.le_refl _) _
      have BAD := Lib.hid Bad
      have htt : (true && (b.kind == 2) && (c'.kind == 2) && (d.kind == 2)) = true ↔ (b.kind = 2 ∧ c'.kind = 2 ∧ d.kind = 2) := by simp [and_assoc]
      obtain ⟨t, ht⟩ : ∃ t, (true && (b.kind == 2) && (c'.kind == 2) && (d.kind == 2)) = t := ⟨_, rfl⟩
      rw [ht] at o0 htt
      have HT := Lib.hid htt
      clear htt ht hP hOKc hkb Bad e4 hPW
      cases t
      · have hP2 : Hid (parseN s = (nt0, 230)) := by
          show _ = _; rw [HP.out, if_neg (by simp)]
          rw [if_neg (fun x => by have := HT.out.2 ⟨x.2.1, x.2.2.1, x.2.2.2.1⟩; cases this)]
        clear HP
        go_wp2
        refine bodyPost_ret (results_cell1 rfl _ _ w.heap.size _ _ _ _ rfl (set4_blk E4.out) Tryd.underlying57 rfl (by kernel_rfl)) rfl ?_
        exact BAD.out _ hP2 _ hB3.out
      · have hck2 := hck.out ⟨m, b.num, c'.num, d.num⟩
        by_cases hn : noteP ⟨m, b.num, c'.num, d.num⟩
        · have he : noteE ⟨m, b.num, c'.num, d.num⟩ = 0 := by unfold noteE; rw [if_pos hn]
          rw [he] at hck2
          dsimp only at hck2
          have HCK := Lib.hid hck2
          have hP2 : Hid (parseN s = (⟨m, b.num, c'.num, d.num⟩, 0)) := by
            show _ = _; rw [HP.out, if_neg (by simp)]
            have hk := HT.out.1 rfl
            rw [if_pos ⟨hka.out, hk.1, hk.2.1, hk.2.2, hn⟩]
          clear HP hn he hck2
          go_wp2_with (fail)
          refine (HCK.out _).mono ?_; rintro e w5 ⟨rfl, hb5⟩
          have e5 := (hb5.block _ hlt4).trans E4.out
          have q0 := (hb5.cell (p := ⟨P, 0, none⟩) hPl).trans p0
          have q1 := (hb5.cell (p := ⟨P, 1, none⟩) hPl).trans p1
          have q2 := (hb5.cell (p := ⟨P, 2, none⟩) hPl).trans p2
          have q3 := (hb5.cell (p := ⟨P, 3, none⟩) hPl).trans p3
          have hB5 := Lib.hid (hB3.out.trans (hb5.mono (by omega)))
          clear f4 d0 d1 d2 d3
          obtain ⟨f4, d0, d1, d2, d3⟩ := row4n e5
          have E5 := Lib.hid e5
          clear hb5 e5 p0 p1 p2 p3
          go_wp2
          refine bodyPost_ret (results_cell1 rfl _ _ w.heap.size _ _ _ _ rfl (set4_blk E5.out) Tryd.underlying57 rfl (by kernel_rfl)) rfl ?_
          refine ⟨by rw [hP2.out]; rfl, ?_⟩
          exact (((hB5.out.setCell (p := ⟨w.heap.size, 0, none⟩) (Nat.le_refl _) _).setCell (p := ⟨w.heap.size, 1, none⟩) (Nat.le_refl _) _).setCell (p := ⟨w.heap.size, 2, none⟩) (Nat.le_refl _) _).setCell (p := ⟨w.heap.size, 3, none⟩) (Nat.le_refl _) _
        · have he : noteE ⟨m, b.num, c'.num, d.num⟩ = 230 := by unfold noteE; rw [if_neg hn]
          rw [he] at hck2
          dsimp only at hck2
          have HCK := Lib.hid hck2
          have hP2 : Hid (parseN s = (nt0, 230)) := by
            show _ = _; rw [HP.out, if_neg (by simp)]
            rw [if_neg (fun x => hn x.2.2.2.2)]
          clear HP hn he hck2
          go_wp2_with (fail)
          refine (HCK.out _).mono ?_; rintro e w5 ⟨rfl, hb5⟩
          have e5 := (hb5.block _ hlt4).trans E4.out
          have hB5 := Lib.hid (hB3.out.trans (hb5.mono (by omega)))
          clear f4 d0 d1 d2 d3
          obtain ⟨f4, d0, d1, d2, d3⟩ := row4n e5
          have E5 := Lib.hid e5
          clear hb5 e5 p0 p1 p2 p3
          go_wp2
          refine bodyPost_ret (results_cell1 rfl _ _ w.heap.size _ _ _ _ rfl (set4_blk E5.out) Tryd.underlying57 rfl (by kernel_rfl)) rfl ?_
          exact BAD.out _ hP2 _ hB5.out
end Go.Proofs.YtenonfoocjcdmaaDoor
