/- Bundle P9. -/
import Derived.Test.YtjmhaoplablmnaaGreatDoorCpCs
import Derived.Test.YtjmhaoplablmnaaGreatDoorCpW8s
import Derived.Test.YtjmhaoplablmnaaGreatDoorP1s
import Derived.Test.YtjmhaoplablmnaaGreatDoorK10s
import Derived.Test.YtjmhaoplablmnaaGreatDoorJns
import Derived.Test.YtjmhaoplablmnaaGreatDoorP8s
namespace Go.Proofs.YtjmhaoplablmnaaGreatDoor
set_option linter.unusedSimpArgs false
set_option maxRecDepth 100000
set_option linter.unusedVariables false
set_option linter.unusedSimpArgs false
open Go.RowKit
theorem depw_any (d : Int) (w : World) : Calls Tryz.prog 22 #[.int .i64 d] w fun e w' => e = .returned (.string ⟨(depW d).toArray⟩) ∧ w = w' := by
  by_cases h1 : d = 1
  · subst h1
    go_enter Tryz.func22, Tryz.ntmps22
    go_wp2
    go_ret
    exact ⟨rfl, rfl⟩
  by_cases h2 : d = 2
  · subst h2
    go_enter Tryz.func22, Tryz.ntmps22
    go_wp2
    go_ret
    exact ⟨rfl, rfl⟩
  have t1 : (d == 1) = false := by simpa using h1
  have t2 : (d == 2) = false := by simpa using h2
  have HD : Hid (depW d = bBad) := by show _ = _; unfold depW; rw [if_neg h1, if_neg h2]
  clear h1 h2
  go_enter Tryz.func22, Tryz.ntmps22
  go_wp2
  go_ret
  exact ⟨by rw [HD.out]; rfl, rfl⟩
theorem time8_any (n : Int) (w : World) (h0 : 0 ≤ n) (h1 : n ≤ 1000000) : Calls Tryz.prog 24 #[.int .i64 n] w fun e w' => e = .returned (.string ⟨(showL n.toNat).toArray⟩) ∧ Below w.heap.size w w' := by
  have hs := Lib.hid (show_ok n.toNat w (by omega))
  rw [Int.toNat_of_nonneg h0] at hs
  clear h0 h1
  go_enter Tryz.func24, Tryz.ntmps24
  go_wp2_with (go_at_call 53; refine hs.out.mono ?_; rintro e w1 ⟨rfl, hb1⟩)
  go_ret
  exact ⟨rfl, hb1⟩
structure OutAt (w : World) (P : Nat) (l : List ByteArray) (v : Value) : Prop where
  cell : w.cell? ⟨P, 0, none⟩ = some v
  blk : w.heap[P]? = some (.cells #[v] 45 (0, 0))
  own : Owns w 0 9 1 v l.length (strs l)
  hi : P < w.heap.size
  lo : ∀ g, v.ownBlock = some g → g ≠ P ∧ g < w.heap.size
def PutW (w : World) (P : Nat) (v : Value) (w' : World) (v' : Value) : Prop := Kb (fun b => b = P ∨ v.ownBlock = some b) w w' ∧ (v'.ownBlock = v.ownBlock ∨ ∃ g, v'.ownBlock = some g ∧ w.heap.size ≤ g)
theorem PutW.trans {w w1 w2 : World} {P : Nat} {v v1 v2 : Value} (h1 : PutW w P v w1 v1) (h2 : PutW w1 P v1 w2 v2) : PutW w P v w2 v2 := by
  obtain ⟨k1, o1⟩ := h1
  obtain ⟨k2, o2⟩ := h2
  have z1 := k1.size
  refine ⟨⟨k2.os.trans k1.os, k2.tape.trans k1.tape, k2.output.trans k1.output, Nat.le_trans k1.size k2.size, fun b hb hS => ?_⟩, ?_⟩
  · rw [k2.block b (by omega) (fun x => ?_), k1.block b hb hS]
    rcases x with x | x
    · exact hS (.inl x)
    · rcases o1 with e | ⟨g, e, hg⟩
      · exact hS (.inr (e ▸ x))
      · rw [e] at x; injection x with x; omega
  · rcases o2 with e | ⟨g, e, hg⟩
    · rw [e]; exact o1
    · exact .inr ⟨g, e, by omega⟩
theorem PutW.of {w w' : World} {P : Nat} (v : Value) (h : Below w.heap.size w w') : PutW w P v w' v :=
  ⟨⟨h.os, h.tape, h.output, h.size, fun b hb _ => h.block b hb⟩, .inl rfl⟩
def RetPc (w : World) (P : Nat) (l : List ByteArray) (v : Value) (e : Ending) (w' : World) : Prop := e = .returned (.tuple #[]) ∧ ∃ v', OutAt w' P l v' ∧ PutW w P v w' v'
theorem Owns.own_lt8 {w : World} {B size n : Nat} {e : TypeId} {v : Value} {xs : List Value} (h : Owns w B e size v n xs) (hn : 0 < n) : ∀ q, v.ownBlock = some q → q < w.heap.size := by
  obtain ⟨g, c, rfl, _, hg, _⟩ := h.at_ hn
  intro q hq
  have : g = q := Option.some.inj hq
  omega
def pieceB (f s : ByteArray) : ByteArray := f ++ ⟨#[61]⟩ ++ s
theorem put1_any (P : Nat) (l : List ByteArray) (v : Value) (f s : ByteArray) (w : World) (h : OutAt w P l v) (hl : l.length ≤ 100000) (hf : f.size ≤ 1000000) (hs : s.size ≤ 1000000) :
    Calls Tryz.prog 20 #[.string f, .string s, .pointer (some ⟨P, 0, none⟩)] w (RetPc w P (l ++ [pieceB f s]) v) := by
  obtain ⟨c1, g1, o1, h1, l1⟩ := h
  have L1 := Lib.hid l1
  have hO := Lib.hid o1
  have f1 : w.frozen? ⟨P, 0, none⟩ = false := Lib.frozen_of_heap g1 0
  clear o1 l1
  have q1 : ¬ (9223372036854775807 < f.size + 1) := by omega
  have q2 : ¬ (9223372036854775807 < f.size + 1 + s.size) := by omega
  go_enter Tryz.func20, Tryz.ntmps20
  go_wp2_with (at_builtin; refine app_s rfl rfl 0 rfl (hO.out.alloc _) (news := [pieceB f s]) rfl (Reads.made _ [Value.string (pieceB f s)] _) (by omega) (Nat.zero_le _) ?_)
  intro v4 w4 o4 k4 hob
  have g4 : w4.heap[P]? = some (.cells #[v] 45 (0, 0)) := by
    have := k4.kb8.block P (by simp only [World.size_alloc]; omega) (fun x => (L1.out P x).1 rfl)
    rw [this]
    exact (Lib.alloc_old _ _ P (by assumption)).trans g1
  have c4 : w4.cell? ⟨P, 0, none⟩ = some v := by rw [Lib.cell_of_heap g4]; rfl
  have f4 : w4.frozen? ⟨P, 0, none⟩ = false := Lib.frozen_of_heap g4 0
  have hz4 := k4.hsize
  simp only [World.size_alloc] at hz4
  have hk4 := k4.kb8
  have hp4 : Hid (PutW w P v w4 v4) := by
    refine ⟨⟨hk4.os, hk4.tape, hk4.output, by omega, fun b hb hS => ?_⟩, ?_⟩
    · have := hk4.block b (by simp only [World.size_alloc]; omega) (fun x => hS (.inr x))
      rw [this]
      exact Lib.alloc_old _ _ b hb
    · rcases hob with e | e
      · exact .inl e
      · exact .inr ⟨_, e, by first | exact Nat.le_succ _ | omega⟩
  have hl4 : Hid (∀ g, v4.ownBlock = some g → g ≠ P ∧ g < w4.heap.size) := by
    intro g hg
    refine ⟨?_, o4.own_lt8 (by omega) g hg⟩
    rcases hob with e | e
    · rw [e] at hg; exact (L1.out g hg).1
    · rw [e] at hg
      have hg2 := Option.some.inj hg
      have : w.heap.size ≤ g := by rw [← hg2]; exact Nat.le_succ _
      omega
  obtain ⟨A4, n4, rfl, _, _⟩ := o4.slice
  have hO4 := Lib.hid o4
  clear o4 hob k4 hk4
  go_wp2
  go_end0
  have g5 : (w4.setCell ⟨P, 0, none⟩ (.slice A4 (l.length + 1) n4)).heap[P]? = some (.cells #[.slice A4 (l.length + 1) n4] 45 (0, 0)) := by simp [World.setCell, Array.getElem?_modify, g4]
  refine ⟨rfl, .slice A4 (l.length + 1) n4, ⟨by rw [Lib.cell_of_heap g5]; rfl, g5, ?_, by simp [World.setCell]; omega, fun g hg => by have := hl4.out g hg; simpa [World.setCell] using this⟩, hp4.out.trans ⟨⟨rfl, rfl, rfl, by simp [World.setCell], fun b hb hS => ?_⟩, .inl rfl⟩⟩
  case refine_2 => exact Below.heap_setCell _ _ _ _ (by exact fun e => hS (.inl e))
  have o5 := hO4.out.setCell (p := ⟨P, 0, none⟩) (fun e => (hl4.out P e).1 rfl) (.slice A4 (l.length + 1) n4)
  simpa using o5
end Go.Proofs.YtjmhaoplablmnaaGreatDoor
namespace Go.Proofs.YtjmhaoplablmnaaGreatDoor
set_option linter.unusedSimpArgs false
set_option maxRecDepth 100000
set_option linter.unusedVariables false
set_option linter.unusedSimpArgs false
open Go.RowKit
set_option maxHeartbeats 4000000 in
theorem subj_word (x : Cm) (A A2 : Option Addr) (c c2 : Nat) (w : World) (hk : x.kind = 1) (hw : wordB x.name = true) (hz : x.name.size ≤ 1000000) :
    Calls Tryz.prog 19 #[cmV x A c A2 c2] w fun e w' => e = .returned (.string x.name) ∧ Below w.heap.size w w' := by
  have q1 := Lib.hid (fun v => word8_any x.name v hz)
  rw [hw] at q1
  unfold cmV
  obtain ⟨n1, e1⟩ : ∃ n, x.shape.alts.length = n := ⟨_, rfl⟩
  obtain ⟨m1, e3⟩ : ∃ n, x.after.length = n := ⟨_, rfl⟩
  rw [e1, e3]
  clear e1 e3 hw hz
  obtain ⟨kind, job, name, user, account, ⟨sk, sl, sm, sn, so⟩, prio, hp, time, ht, after, node, nodes, frm⟩ := x
  dsimp only at q1 hk ⊢
  subst hk
  go_enter Tryz.func19, Tryz.ntmps19
  go_wp2_with (fail)
  refine (q1.out _).mono ?_; rintro e w1 ⟨rfl, hb1⟩
  have hz1 := hb1.size
  simp only [World.size_alloc] at hz1
  have e1 := (hb1.block w.heap.size (by simp)).trans (heap_alloc_new w _)
  have hb := bx hb1
  have c2 : w1.cell? ⟨w.heap.size, 2, none⟩ = some (.string name) := by rw [Lib.cell_of_heap e1]; rfl
  clear e1 hb1
  go_wp2
  go_ret
  exact ⟨rfl, hb⟩
set_option maxHeartbeats 4000000 in
theorem subj_text (x : Cm) (A A2 : Option Addr) (c c2 : Nat) (w : World) (hk : x.kind = 1) (hw : wordB x.name = false) (hz : x.name.size ≤ 1000000) (hok : okL (bl x.name) = true) :
    Calls Tryz.prog 19 #[cmV x A c A2 c2] w fun e w' => e = .returned (.string ⟨(quoteL (bl x.name)).toArray⟩) ∧ Below w.heap.size w w' := by
  have q1 := Lib.hid (fun v => word8_any x.name v hz)
  have q2 := Lib.hid (fun v => quote_ok x.name v (by omega) hok)
  rw [hw] at q1
  unfold cmV
  obtain ⟨n1, e1⟩ : ∃ n, x.shape.alts.length = n := ⟨_, rfl⟩
  obtain ⟨m1, e3⟩ : ∃ n, x.after.length = n := ⟨_, rfl⟩
  rw [e1, e3]
  clear e1 e3 hw hz hok
  obtain ⟨kind, job, name, user, account, ⟨sk, sl, sm, sn, so⟩, prio, hp, time, ht, after, node, nodes, frm⟩ := x
  dsimp only at q1 q2 hk ⊢
  subst hk
  obtain ⟨Q, hQ⟩ : ∃ Q : ByteArray, ⟨(quoteL (bl name)).toArray⟩ = Q := ⟨_, rfl⟩
  rw [hQ] at q2 ⊢
  clear hQ
  go_enter Tryz.func19, Tryz.ntmps19
  go_wp2_with (fail)
  refine (q1.out _).mono ?_; rintro e w1 ⟨rfl, hb1⟩
  have hz1 := hb1.size
  simp only [World.size_alloc] at hz1
  have e1 := (hb1.block w.heap.size (by simp)).trans (heap_alloc_new w _)
  have hb := Lib.hid (bx hb1)
  have c0 : w1.cell? ⟨w.heap.size, 0, none⟩ = some (.int .i64 1) := by rw [Lib.cell_of_heap e1]; rfl
  have c2 : w1.cell? ⟨w.heap.size, 2, none⟩ = some (.string name) := by rw [Lib.cell_of_heap e1]; rfl
  clear e1 hb1
  go_wp2_with (go_at_call 51; refine (q2.out _).mono ?_; rintro e w2 ⟨rfl, hb2⟩)
  go_ret
  exact ⟨rfl, hb.out.trans (hb2.mono (by omega))⟩
set_option maxHeartbeats 4000000 in
theorem subj_node (x : Cm) (A A2 : Option Addr) (c c2 : Nat) (w : World) (hk : x.kind = 7 ∨ x.kind = 8 ∨ x.kind = 9) (hn : 0 ≤ x.node ∧ x.node ≤ 47) (hT : Lib.TabIs Tryz.prog w "internal/strconv.uint64pow10" .u64 Lib.pow10Tab) :
    Calls Tryz.prog 19 #[cmV x A c A2 c2] w fun e w' => e = .returned (.string ⟨(Lib.itoa x.node).toArray⟩) ∧ Below w.heap.size w w' := by
  have q1 := Lib.hid (fun v hv => itoa_any x.node v (by omega) (by omega) (tab_below hT hv))
  unfold cmV
  obtain ⟨n1, e1⟩ : ∃ n, x.shape.alts.length = n := ⟨_, rfl⟩
  obtain ⟨m1, e3⟩ : ∃ n, x.after.length = n := ⟨_, rfl⟩
  rw [e1, e3]
  clear e1 e3 hn hT
  obtain ⟨kind, job, name, user, account, ⟨sk, sl, sm, sn, so⟩, prio, hp, time, ht, after, node, nodes, frm⟩ := x
  dsimp only at q1 hk ⊢
  obtain ⟨Q, hQ⟩ : ∃ Q : ByteArray, ⟨(Lib.itoa node).toArray⟩ = Q := ⟨_, rfl⟩
  rw [hQ] at q1 ⊢
  clear hQ
  rcases hk with rfl | rfl | rfl
  all_goals
    go_enter Tryz.func19, Tryz.ntmps19
    go_wp2_with (fail)
    refine (q1.out _ ((Below.refl _ _).alloc (Nat.le_refl _) _)).mono ?_; rintro e w1 ⟨rfl, hb1⟩
    have hb := Lib.hid (bx hb1)
    clear hb1
    go_wp2
    go_ret
    exact ⟨rfl, hb.out⟩
set_option maxHeartbeats 4000000 in
theorem subj_job (x : Cm) (A A2 : Option Addr) (c c2 : Nat) (w : World) (k1 : (x.kind == 1) = false) (k7 : (x.kind == 7) = false) (k8 : (x.kind == 8) = false) (k9 : (x.kind == 9) = false) (hj : 0 ≤ x.job ∧ x.job ≤ 99999) (hT : Lib.TabIs Tryz.prog w "internal/strconv.uint64pow10" .u64 Lib.pow10Tab) :
    Calls Tryz.prog 19 #[cmV x A c A2 c2] w fun e w' => e = .returned (.string ⟨(if 0 < x.job then Lib.itoa x.job else []).toArray⟩) ∧ Below w.heap.size w w' := by
  have q1 := Lib.hid (fun v hv => itoa_any x.job v (by omega) (by omega) (tab_below hT hv))
  unfold cmV
  obtain ⟨n1, e1⟩ : ∃ n, x.shape.alts.length = n := ⟨_, rfl⟩
  obtain ⟨m1, e3⟩ : ∃ n, x.after.length = n := ⟨_, rfl⟩
  rw [e1, e3]
  clear e1 e3 hT
  obtain ⟨kind, job, name, user, account, ⟨sk, sl, sm, sn, so⟩, prio, hp, time, ht, after, node, nodes, frm⟩ := x
  dsimp only at q1 hj k1 k7 k8 k9 ⊢
  by_cases h0 : 0 < job
  · rw [if_pos h0]
    have t1 : decide (job > 0) = true := by simpa using h0
    have t2 : decide (0 < job) = true := by simpa using h0
    obtain ⟨Q, hQ⟩ : ∃ Q : ByteArray, ⟨(Lib.itoa job).toArray⟩ = Q := ⟨_, rfl⟩
    rw [hQ] at q1 ⊢
    clear hQ hj
    go_enter Tryz.func19, Tryz.ntmps19
    go_wp2_with (fail)
    refine (q1.out _ ((Below.refl _ _).alloc (Nat.le_refl _) _)).mono ?_; rintro e w1 ⟨rfl, hb1⟩
    have hb := Lib.hid (bx hb1)
    clear hb1
    go_wp2
    go_ret
    exact ⟨rfl, hb.out⟩
  · rw [if_neg h0]
    have t1 : decide (job > 0) = false := by simp; omega
    have t2 : decide (0 < job) = false := by simp; omega
    clear q1 hj h0
    go_enter Tryz.func19, Tryz.ntmps19
    go_wp2
    go_ret
    exact ⟨rfl, (Below.refl _ _).alloc (Nat.le_refl _) _⟩
end Go.Proofs.YtjmhaoplablmnaaGreatDoor
namespace Go.Proofs.YtjmhaoplablmnaaGreatDoor
set_option linter.unusedSimpArgs false
set_option maxRecDepth 100000
set_option linter.unusedVariables false
set_option linter.unusedSimpArgs false
open Go.RowKit
theorem ent_put : Enters Tryz.prog 20 := enters_of Tryz.func20 (by kernel_rfl) rfl
theorem OutAt.below {w w' : World} {P : Nat} {l : List ByteArray} {v : Value} (h : OutAt w P l v) (hb : Below w.heap.size w w') : OutAt w' P l v := by
  obtain ⟨c, g, o, hi, lo⟩ := h
  have g2 := (hb.block P hi).trans g
  have hz := hb.size
  exact ⟨by rw [Lib.cell_of_heap g2]; rfl, g2, o.below hb, by omega, fun q hq => ⟨(lo q hq).1, by have := (lo q hq).2; omega⟩⟩
structure OutW (W w : World) (P : Nat) (l : List ByteArray) (b0 : Nat) (cs : Array Value) (T : TypeId) : Prop where
  ex : ∃ v, OutAt w P l v ∧ ∀ g, v.ownBlock = some g → W.heap.size ≤ g ∧ g ≠ b0
  below : Below W.heap.size W w
  hP : W.heap.size ≤ P
  kept : w.heap[b0]? = some (.cells cs T (0, 0))
  ne : P ≠ b0
section
variable {W w w' : World} {P : Nat} {l : List ByteArray} {b0 : Nat} {cs : Array Value} {T : TypeId}
theorem OutW.later (h : OutW W w P l b0 cs T) (hb : Below w.heap.size w w') : OutW W w' P l b0 cs T := by
  obtain ⟨⟨v, hv, hg⟩, h2, h3, h4, h5⟩ := h
  exact ⟨⟨v, hv.below hb, hg⟩, h2.trans (hb.mono h2.size), h3, (hb.block b0 (lt_of_block h4)).trans h4, h5⟩
theorem OutW.drew (h : OutW W w P l b0 cs T) : OutW W w.drew P l b0 cs T := h.later (below_drew (Below.refl _ _))
theorem OutW.cell (h : OutW W w P l b0 cs T) (j : Nat) : w.cell? ⟨b0, j, none⟩ = cs[j]? := cell_of_row w b0 j cs T (0, 0) h.kept
theorem OutW.box (h : OutW W w P l b0 cs T) (cs2 : Array Value) (T2 : TypeId) : OutW W (w.alloc (.cells cs2 T2)) P l w.heap.size cs2 T2 := by
  have hb : Below w.heap.size w (w.alloc (.cells cs2 T2)) := (Below.refl _ _).alloc (Nat.le_refl _) _
  obtain ⟨⟨v, hv, hg⟩, h2, h3, h4, h5⟩ := h
  exact ⟨⟨v, hv.below hb, fun g e => ⟨(hg g e).1, Nat.ne_of_lt (hv.lo g e).2⟩⟩, h2.trans (hb.mono h2.size), h3, heap_alloc_new _ _, Nat.ne_of_lt hv.hi⟩
theorem OutW.back {b1 : Nat} {cs1 : Array Value} {T1 : TypeId} (h : OutW W w P l b1 cs1 T1) (hlt : b0 < W.heap.size) (hb : W.heap[b0]? = some (.cells cs T (0, 0))) : OutW W w P l b0 cs T := by
  obtain ⟨⟨v, hv, hg⟩, h2, h3, h4, h5⟩ := h
  exact ⟨⟨v, hv, fun g e => ⟨(hg g e).1, by have := (hg g e).1; omega⟩⟩, h2, h3, (h2.block b0 hlt).trans hb, by omega⟩
end
def RetW (W : World) (P : Nat) (l : List ByteArray) (b0 : Nat) (cs : Array Value) (T : TypeId) (e : Ending) (w' : World) : Prop := e = .returned (.tuple #[]) ∧ OutW W w' P l b0 cs T
theorem put_w {W w : World} {P : Nat} {l : List ByteArray} {b0 : Nat} {cs : Array Value} {T : TypeId} (f s : ByteArray) (h : OutW W w P l b0 cs T) (hl : l.length ≤ 100000) (hf : f.size ≤ 1000000) (hs : s.size ≤ 1000000) :
    Calls Tryz.prog 20 #[.string f, .string s, .pointer (some ⟨P, 0, none⟩)] w (RetW W P (l ++ [pieceB f s]) b0 cs T) := by
  obtain ⟨⟨v, hv, hg⟩, h2, h3, h4, h5⟩ := h
  refine (put1_any P l v f s w hv hl hf hs).mono ?_
  rintro e w' ⟨he, v', hv', hk, hob⟩
  have hz := h2.size
  have hlt := lt_of_block h4
  have hbk : ∀ b, b < w.heap.size → b ≠ P → (∀ g, v.ownBlock = some g → g ≠ b) → w'.heap[b]? = w.heap[b]? := fun b hb h1 h6 => hk.block b hb (fun x => by
    rcases x with x | x
    · exact h1 x
    · exact h6 b x rfl)
  refine ⟨he, ⟨⟨v', hv', ?_⟩, ⟨hk.os.trans h2.os, hk.tape.trans h2.tape, hk.output.trans h2.output, Nat.le_trans h2.size hk.size, fun b hb => ?_⟩, h3, ?_, h5⟩⟩
  · intro g e2
    rcases hob with e3 | ⟨g3, e3, h6⟩
    · exact hg g (e3 ▸ e2)
    · rw [e3] at e2
      have := Option.some.inj e2
      omega
  · exact (hbk b (by omega) (by omega) (fun g e2 => by have := (hg g e2).1; omega)).trans (h2.block b hb)
  · exact (hbk b0 hlt (Ne.symm h5) (fun g e2 => (hg g e2).2)).trans h4
def putV (P : Nat) : Value := .func (.func 20) #[] #[.pointer (some ⟨P, 0, none⟩)]
theorem itoa_size (x : Int) (h0 : 0 ≤ x) (h1 : x ≤ 1000000) : (⟨(Lib.itoa x).toArray⟩ : ByteArray).size ≤ 100 := by
  rw [itoa_nn h0]
  have := dd_len9 6 x.toNat (by omega)
  show (Lib.decDigits x.toNat).toArray.size ≤ 100
  simp; omega
theorem show_size (x : Int) (h1 : x ≤ 1000000) : (⟨(showL x.toNat).toArray⟩ : ByteArray).size ≤ 100 := by
  show (showL x.toNat).toArray.size ≤ 100
  rw [List.size_toArray]
  unfold showL
  split
  · simp
  · exact Nat.le_trans (pts_len (n := x.toNat) (by omega) 4 (by omega)) (by omega)
theorem piece_f (f : List UInt8) (v : Vt) : pieceB ⟨f.toArray⟩ ⟨(vtT v).toArray⟩ = ⟨(fText (f, v)).toArray⟩ := by
  unfold pieceB fText
  apply ByteArray.ext
  simp [ByteArray.data_append]
theorem sz_range : (⟨bRange.toArray⟩ : ByteArray).size ≤ 1000000 := by show 5 ≤ 1000000; omega
theorem sz_time : (⟨bTime.toArray⟩ : ByteArray).size ≤ 1000000 := by show 4 ≤ 1000000; omega
theorem sz_nodes : (⟨bNodes.toArray⟩ : ByteArray).size ≤ 1000000 := by show 5 ≤ 1000000; omega
theorem sz_alt : (⟨bAlt.toArray⟩ : ByteArray).size ≤ 1000000 := by show 3 ≤ 1000000; omega
theorem sz_user : (⟨bU.toArray⟩ : ByteArray).size ≤ 1000000 := by show 4 ≤ 1000000; omega
theorem sz_account : (⟨bA.toArray⟩ : ByteArray).size ≤ 1000000 := by show 7 ≤ 1000000; omega
theorem sz_prio : (⟨bPrio.toArray⟩ : ByteArray).size ≤ 1000000 := by show 4 ≤ 1000000; omega
theorem sz_from : (⟨bFrom.toArray⟩ : ByteArray).size ≤ 1000000 := by show 4 ≤ 1000000; omega
def RetF (W : World) (P : Nat) (l : List ByteArray) (e : Ending) (w' : World) : Prop := e = .returned (.tuple #[]) ∧ ∃ b1 cs1 T1, OutW W w' P l b1 cs1 T1
set_option maxHeartbeats 4000000 in
theorem form_mal (mn mx wl : Int) (A : Option Addr) (n c P : Nat) (l : List ByteArray) (W w : World) (b0 : Nat) (cs : Array Value) (T : TypeId) (h : OutW W w P l b0 cs T) (hl : l.length ≤ 1000) (hmn : 0 ≤ mn ∧ mn ≤ 48) (hmx : 0 ≤ mx ∧ mx ≤ 48) (hwl : 0 ≤ wl ∧ wl ≤ 100000)
    (hT : Lib.TabIs Tryz.prog W "internal/strconv.uint64pow10" .u64 Lib.pow10Tab) (D1 D2 D3 : ByteArray) (e1 : (⟨(Lib.itoa mn).toArray⟩ : ByteArray) = D1) (e2 : (⟨(Lib.itoa mx).toArray⟩ : ByteArray) = D2) (e3 : (⟨(showL wl.toNat).toArray⟩ : ByteArray) = D3) (s1 : D1.size ≤ 100) (s2 : D2.size ≤ 100) (s3 : D3.size ≤ 100) :
    Calls Tryz.prog 23 #[.agg #[.int .i64 3, .slice A n c, .int .i64 mn, .int .i64 mx, .int .i64 wl], putV P] w (RetF W P (l ++ [pieceB ⟨bRange.toArray⟩ (D1 ++ ⟨#[45]⟩ ++ D2)] ++ [pieceB ⟨bTime.toArray⟩ D3])) := by
  obtain ⟨Wb, hW⟩ : ∃ x, w.alloc (.cells #[.int .i64 3, .slice A n c, .int .i64 mn, .int .i64 mx, .int .i64 wl] 24) = x := ⟨_, rfl⟩
  have hO : Hid (OutW W Wb P l w.heap.size #[.int .i64 3, .slice A n c, .int .i64 mn, .int .i64 mx, .int .i64 wl] 24) := by rw [← hW]; exact h.box _ _
  have hOd := Lib.hid hO.out.drew
  have q1 := Lib.hid (fun v (hv : Below W.heap.size W v) => itoa_any mn v (by omega) (by omega) (tab_below hT hv))
  have q2 := Lib.hid (fun v (hv : Below W.heap.size W v) => itoa_any mx v (by omega) (by omega) (tab_below hT hv))
  have q3 := Lib.hid (fun v => time8_any wl v hwl.1 (by omega))
  rw [e1] at q1
  rw [e2] at q2
  rw [e3] at q3
  have y0 : Wb.cell? ⟨w.heap.size, 0, none⟩ = some (.int .i64 3) := hO.out.cell 0
  have y2 : Wb.cell? ⟨w.heap.size, 2, none⟩ = some (.int .i64 mn) := hO.out.cell 2
  have y3 : Wb.cell? ⟨w.heap.size, 3, none⟩ = some (.int .i64 mx) := hO.out.cell 3
  have eg : ∀ args w, (callFunc 20 args).run Tryz.prog w = .ok (.enter 20 args) w := ent_put
  have k1 : ¬ (9223372036854775807 < D1.size + 1) := by omega
  have k2 : ¬ (9223372036854775807 < D1.size + 1 + D2.size) := by omega
  have HS : Hid ((D1 ++ ⟨#[45]⟩ ++ D2).size ≤ 1000000) := by
    show _ ≤ _
    simp only [ByteArray.size_append]
    have : (⟨#[45]⟩ : ByteArray).size = 1 := rfl
    omega
  obtain ⟨LX, hLX⟩ : ∃ x, l ++ [pieceB ⟨bRange.toArray⟩ (D1 ++ ⟨#[45]⟩ ++ D2)] ++ [pieceB ⟨bTime.toArray⟩ D3] = x := ⟨_, rfl⟩
  rw [hLX]
  replace hLX := Lib.hid hLX
  unfold putV
  clear hT e1 e2 e3 h hmn hmx hwl
  go_enter Tryz.func23, Tryz.ntmps23
  go_upto_region 12 with (fail)
  refine wp_region_held_drew (S := (fun w' => w'.cell? ⟨w.heap.size, 2, none⟩ = some (.int .i64 mn) ∧ w'.cell? ⟨w.heap.size, 3, none⟩ = some (.int .i64 mx))) (by kernel_rfl) ?_ (fun hHeld => ?_)
  · (try dsimp only); (first | exact ⟨hOd.out.cell 2, hOd.out.cell 3⟩ | exact ⟨hO1.out.cell 2, hO1.out.cell 3⟩ | exact ⟨hO2.out.cell 2, hO2.out.cell 3⟩ | exact ⟨hO3.out.cell 2, hO3.out.cell 3⟩)
  refine wpAnyH_take (i := 0) (oi := ⟨_, _, _, _, _, _⟩) (v := ?v_20) rfl (by kernel_rfl) (by kernel_rfl) (by kernel_rfl) (fun _ _ _ h => h) (Or.inl ⟨by rfl, ?hy_20⟩) (by assumption) ?r_20
  case hy_20 => (intro w_ hS_; (try dsimp only at hS_); go_simp; try with_reducible rfl)
  try simp only [Act.put, List.setIfInBounds_toArray, List.set_cons_zero, List.set_cons_succ]
  refine wpAnyH_take (i := 1) (oi := ⟨_, _, _, _, _, _⟩) (v := ?v_21) rfl (by kernel_rfl) (by kernel_rfl) (by kernel_rfl) (fun _ _ _ h => h) (Or.inl ⟨by rfl, ?hy_21⟩) (by assumption) ?r_21
  case hy_21 => (intro w_ hS_; (try dsimp only at hS_); go_simp; try with_reducible rfl)
  try simp only [Act.put, List.setIfInBounds_toArray, List.set_cons_zero, List.set_cons_succ]
  refine wpAnyH_take (i := 2) (oi := ⟨_, _, _, _, _, _⟩) (v := ?v_22) rfl (by kernel_rfl) (by kernel_rfl) (by kernel_rfl) (fun _ _ _ h => h) (Or.inl ⟨by rfl, ?hy_22⟩) (by assumption) ?r_22
  case hy_22 => (intro w_ hS_; (try dsimp only at hS_); go_simp; try with_reducible rfl)
  try simp only [Act.put, List.setIfInBounds_toArray, List.set_cons_zero, List.set_cons_succ]
  refine wpAnyH_take (i := 5) (oi := ⟨_, _, _, _, _, _⟩) (v := ?v_23) rfl (by kernel_rfl) (by kernel_rfl) (by kernel_rfl) (fun _ _ _ h => h) (Or.inl ⟨by rfl, ?hy_23⟩) (by assumption) ?r_23
  case hy_23 => (intro w_ hS_; (try dsimp only at hS_); go_simp; try with_reducible rfl)
  try simp only [Act.put, List.setIfInBounds_toArray, List.set_cons_zero, List.set_cons_succ]
  refine wpAnyH_take (i := 6) (oi := ⟨_, _, _, _, _, _⟩) (v := ?v_24) rfl (by kernel_rfl) (by kernel_rfl) (by kernel_rfl) (fun _ _ _ h => h) (Or.inl ⟨by rfl, ?hy_24⟩) (by assumption) ?r_24
  case hy_24 => (intro w_ hS_; (try dsimp only at hS_); go_simp; try with_reducible rfl)
  try simp only [Act.put, List.setIfInBounds_toArray, List.set_cons_zero, List.set_cons_succ]
  refine wpAnyH_ready (rs := [3]) (by kernel_rfl) (by simp) ?_
  refine AllReadyH.cons (o := ⟨_, _, _, _, _, _⟩) rfl (fun K hK => ?_) AllReadyH.nil
  go_simp
  (first | (go_at_call 21; (with_reducible refine (q1.out _ hOd.out.below).mono ?_); rintro e w1 ⟨rfl, hb1⟩; have hO1 := Lib.hid (hOd.out.later hb1); clear hb1) | (go_at_call 21; (with_reducible refine (q2.out _ hO1.out.below).mono ?_); rintro e w2 ⟨rfl, hb2⟩; have hO2 := Lib.hid (hO1.out.later hb2); clear hb2) | (have hp_ := put_w ⟨bRange.toArray⟩ (D1 ++ ⟨#[45]⟩ ++ D2) hO2.out (by omega) sz_range HS.out; go_at_fn 20; refine hp_.mono ?_; clear hp_; rintro e w3 ⟨rfl, o3⟩; have hO3 := Lib.hid o3; clear o3; have x4 : w3.cell? ⟨w.heap.size, 4, none⟩ = some (.int .i64 wl) := hO3.out.cell 4))
  try go_wp2_with (fail)
  refine hK.out _ _ ?_ (fun hHeld => ?_)
  · (try dsimp only); (first | exact ⟨hOd.out.cell 2, hOd.out.cell 3⟩ | exact ⟨hO1.out.cell 2, hO1.out.cell 3⟩ | exact ⟨hO2.out.cell 2, hO2.out.cell 3⟩ | exact ⟨hO3.out.cell 2, hO3.out.cell 3⟩)
  clear hK K
  try simp only [Act.put, List.setIfInBounds_toArray, List.set_cons_zero, List.set_cons_succ]
  refine wpAnyH_take (i := 4) (oi := ⟨_, _, _, _, _, _⟩) (v := ?v_25) rfl (by kernel_rfl) (by kernel_rfl) (by kernel_rfl) (fun _ _ _ h => h) (Or.inl ⟨by rfl, ?hy_25⟩) (by assumption) ?r_25
  case hy_25 => (intro w_ hS_; (try dsimp only at hS_); go_simp; try with_reducible rfl)
  try simp only [Act.put, List.setIfInBounds_toArray, List.set_cons_zero, List.set_cons_succ]
  refine wpAnyH_ready (rs := [7]) (by kernel_rfl) (by simp) ?_
  refine AllReadyH.cons (o := ⟨_, _, _, _, _, _⟩) rfl (fun K hK => ?_) AllReadyH.nil
  go_simp
  (first | (go_at_call 21; (with_reducible refine (q1.out _ hOd.out.below).mono ?_); rintro e w1 ⟨rfl, hb1⟩; have hO1 := Lib.hid (hOd.out.later hb1); clear hb1) | (go_at_call 21; (with_reducible refine (q2.out _ hO1.out.below).mono ?_); rintro e w2 ⟨rfl, hb2⟩; have hO2 := Lib.hid (hO1.out.later hb2); clear hb2) | (have hp_ := put_w ⟨bRange.toArray⟩ (D1 ++ ⟨#[45]⟩ ++ D2) hO2.out (by omega) sz_range HS.out; go_at_fn 20; refine hp_.mono ?_; clear hp_; rintro e w3 ⟨rfl, o3⟩; have hO3 := Lib.hid o3; clear o3; have x4 : w3.cell? ⟨w.heap.size, 4, none⟩ = some (.int .i64 wl) := hO3.out.cell 4))
  try go_wp2_with (fail)
  refine hK.out _ _ ?_ (fun hHeld => ?_)
  · (try dsimp only); (first | exact ⟨hOd.out.cell 2, hOd.out.cell 3⟩ | exact ⟨hO1.out.cell 2, hO1.out.cell 3⟩ | exact ⟨hO2.out.cell 2, hO2.out.cell 3⟩ | exact ⟨hO3.out.cell 2, hO3.out.cell 3⟩)
  clear hK K
  try simp only [Act.put, List.setIfInBounds_toArray, List.set_cons_zero, List.set_cons_succ]
  refine wpAnyH_take (i := 8) (oi := ⟨_, _, _, _, _, _⟩) (v := ?v_26) rfl (by kernel_rfl) (by kernel_rfl) (by kernel_rfl) (fun _ _ _ h => h) (Or.inl ⟨by rfl, ?hy_26⟩) (by assumption) ?r_26
  case hy_26 => (intro w_ hS_; (try dsimp only at hS_); go_simp; try with_reducible rfl)
  try simp only [Act.put, List.setIfInBounds_toArray, List.set_cons_zero, List.set_cons_succ]
  refine wpAnyH_ready (rs := [9]) (by kernel_rfl) (by simp) ?_
  refine AllReadyH.cons (o := ⟨_, _, _, _, _, _⟩) rfl (fun K hK => ?_) AllReadyH.nil
  go_simp
  (first | (go_at_call 21; (with_reducible refine (q1.out _ hOd.out.below).mono ?_); rintro e w1 ⟨rfl, hb1⟩; have hO1 := Lib.hid (hOd.out.later hb1); clear hb1) | (go_at_call 21; (with_reducible refine (q2.out _ hO1.out.below).mono ?_); rintro e w2 ⟨rfl, hb2⟩; have hO2 := Lib.hid (hO1.out.later hb2); clear hb2) | (have hp_ := put_w ⟨bRange.toArray⟩ (D1 ++ ⟨#[45]⟩ ++ D2) hO2.out (by omega) sz_range HS.out; go_at_fn 20; refine hp_.mono ?_; clear hp_; rintro e w3 ⟨rfl, o3⟩; have hO3 := Lib.hid o3; clear o3; have x4 : w3.cell? ⟨w.heap.size, 4, none⟩ = some (.int .i64 wl) := hO3.out.cell 4))
  try go_wp2_with (fail)
  refine hK.out _ _ ?_ (fun hHeld => ?_)
  · (try dsimp only); (first | exact ⟨hOd.out.cell 2, hOd.out.cell 3⟩ | exact ⟨hO1.out.cell 2, hO1.out.cell 3⟩ | exact ⟨hO2.out.cell 2, hO2.out.cell 3⟩ | exact ⟨hO3.out.cell 2, hO3.out.cell 3⟩)
  clear hK K
  try simp only [Act.put, List.setIfInBounds_toArray, List.set_cons_zero, List.set_cons_succ]
  refine wpAnyH_done (by kernel_rfl) ?_ _
  go_wp2_with (first
    | (go_at_call 24; refine (q3.out _).mono ?_; rintro e w4 ⟨rfl, hb4⟩; have hO4 := Lib.hid (hO3.out.later hb4); clear hb4)
    | (have hp_ := put_w ⟨bTime.toArray⟩ D3 hO4.out (by simp; omega) sz_time (by omega); go_at_fn 20; refine hp_.mono ?_; clear hp_; rintro e w5 ⟨rfl, o5⟩; have hO5 := Lib.hid o5; clear o5))
  go_end0
  exact ⟨rfl, _, _, _, hLX.out ▸ hO5.out⟩
set_option maxHeartbeats 4000000 in
theorem form_rig (x : Pr) (b o : Nat) (mn mx wl : Int) (n c P : Nat) (l : List ByteArray) (W w : World) (b0 : Nat) (cs : Array Value) (T : TypeId) (h : OutW W w P l b0 cs T) (hl : l.length ≤ 1000) (hx : 0 ≤ x.1 ∧ x.1 ≤ 48) (hy : 0 ≤ x.2 ∧ x.2 ≤ 100000)
    (hT : Lib.TabIs Tryz.prog W "internal/strconv.uint64pow10" .u64 Lib.pow10Tab) (D1 D3 : ByteArray) (e1 : (⟨(Lib.itoa x.1).toArray⟩ : ByteArray) = D1) (e3 : (⟨(showL x.2.toNat).toArray⟩ : ByteArray) = D3) (s1 : D1.size ≤ 100) (s3 : D3.size ≤ 100)
    (hn : 0 < n) (hb : b < W.heap.size) (c0 : W.cell? ⟨b, o, none⟩ = some (.int .i64 x.1)) (c1 : W.cell? ⟨b, o + 1, none⟩ = some (.int .i64 x.2)) :
    Calls Tryz.prog 23 #[.agg #[.int .i64 1, .slice (some ⟨b, o, none⟩) n c, .int .i64 mn, .int .i64 mx, .int .i64 wl], putV P] w (RetF W P (l ++ [pieceB ⟨bNodes.toArray⟩ D1] ++ [pieceB ⟨bTime.toArray⟩ D3])) := by
  obtain ⟨Wb, hW⟩ : ∃ x, w.alloc (.cells #[.int .i64 1, .slice (some ⟨b, o, none⟩) n c, .int .i64 mn, .int .i64 mx, .int .i64 wl] 24) = x := ⟨_, rfl⟩
  have hO : Hid (OutW W Wb P l w.heap.size #[.int .i64 1, .slice (some ⟨b, o, none⟩) n c, .int .i64 mn, .int .i64 mx, .int .i64 wl] 24) := by rw [← hW]; exact h.box _ _
  have q1 := Lib.hid (fun v (hv : Below W.heap.size W v) => itoa_any x.1 v (by omega) (by omega) (tab_below hT hv))
  have q3 := Lib.hid (fun v => time8_any x.2 v hy.1 (by omega))
  rw [e1] at q1
  rw [e3] at q3
  have y0 : Wb.cell? ⟨w.heap.size, 0, none⟩ = some (.int .i64 1) := hO.out.cell 0
  have y2 : Wb.cell? ⟨w.heap.size, 1, none⟩ = some (.slice (some ⟨b, o, none⟩) n c) := hO.out.cell 1
  have HC : Hid (∀ v, Below W.heap.size W v → v.cell? ⟨b, o, none⟩ = some (.int .i64 x.1) ∧ v.cell? ⟨b, o + 1, none⟩ = some (.int .i64 x.2)) := fun v hv => ⟨(hv.cell (p := ⟨b, o, none⟩) hb).trans c0, (hv.cell (p := ⟨b, o + 1, none⟩) hb).trans c1⟩
  obtain ⟨d0, d1⟩ := HC.out _ hO.out.below
  have eg : ∀ args w, (callFunc 20 args).run Tryz.prog w = .ok (.enter 20 args) w := ent_put
  obtain ⟨LX, hLX⟩ : ∃ x, l ++ [pieceB ⟨bNodes.toArray⟩ D1] ++ [pieceB ⟨bTime.toArray⟩ D3] = x := ⟨_, rfl⟩
  rw [hLX]
  replace hLX := Lib.hid hLX
  unfold putV
  clear hT e1 e3 h hx hy c0 c1
  go_enter Tryz.func23, Tryz.ntmps23
  go_wp2_with (fail)
  refine (q1.out _ hO.out.below).mono ?_; rintro e w1 ⟨rfl, hb1⟩
  have hO1 := Lib.hid (hO.out.later hb1); clear hb1
  go_wp2_with (fail)
  have hp_ := put_w ⟨bNodes.toArray⟩ D1 hO1.out (by omega) sz_nodes (by omega)
  refine hp_.mono ?_; clear hp_; rintro e w3 ⟨rfl, o3⟩
  have hO3 := Lib.hid o3; clear o3
  have x4 : w3.cell? ⟨w.heap.size, 1, none⟩ = some (.slice (some ⟨b, o, none⟩) n c) := hO3.out.cell 1
  obtain ⟨f0, f1⟩ := HC.out _ hO3.out.below
  go_wp2_with (fail)
  refine (q3.out _).mono ?_; rintro e w4 ⟨rfl, hb4⟩
  have hO4 := Lib.hid (hO3.out.later hb4); clear hb4
  go_wp2_with (fail)
  have hp_ := put_w ⟨bTime.toArray⟩ D3 hO4.out (by simp; omega) sz_time (by omega)
  refine hp_.mono ?_; clear hp_; rintro e w5 ⟨rfl, o5⟩
  have hO5 := Lib.hid o5; clear o5
  go_wp2
  go_end0
  exact ⟨rfl, _, _, _, hLX.out ▸ hO5.out⟩
set_option maxHeartbeats 4000000 in
theorem form_none (k mn mx wl : Int) (A : Option Addr) (n c P : Nat) (l : List ByteArray) (W w : World) (b0 : Nat) (cs : Array Value) (T : TypeId) (h : OutW W w P l b0 cs T) (k1 : (k == 1) = false) (k2 : (k == 2) = false) (k3 : (k == 3) = false) :
    Calls Tryz.prog 23 #[.agg #[.int .i64 k, .slice A n c, .int .i64 mn, .int .i64 mx, .int .i64 wl], putV P] w (RetF W P l) := by
  have hO := Lib.hid (h.box #[.int .i64 k, .slice A n c, .int .i64 mn, .int .i64 mx, .int .i64 wl] 24)
  unfold putV
  clear h
  go_enter Tryz.func23, Tryz.ntmps23
  go_wp2
  go_end0
  exact ⟨rfl, _, _, _, hO.out⟩
def altsB (l : List Pr) : List ByteArray := l.map fun a => pieceB ⟨bAlt.toArray⟩ (⟨(Lib.itoa a.1).toArray⟩ ++ ⟨#[58]⟩ ++ ⟨(showL a.2.toNat).toArray⟩)
def FormAt (W : World) (P : Nat) (l : List ByteArray) (a : List Pr) (k : Nat) (w : World) : Prop := ∃ b1 cs1 T1, OutW W w P (l ++ altsB (a.take k)) b1 cs1 T1
theorem altsB_next {a : List Pr} {k : Nat} {x : Pr} (h : a[k]? = some x) : altsB (a.take (k + 1)) = altsB (a.take k) ++ [pieceB ⟨bAlt.toArray⟩ (⟨(Lib.itoa x.1).toArray⟩ ++ ⟨#[58]⟩ ++ ⟨(showL x.2.toNat).toArray⟩)] := by
  obtain ⟨hlt, rfl⟩ := List.getElem?_eq_some_iff.1 h
  unfold altsB
  rw [List.take_succ_eq_append_getElem hlt, List.map_append]; rfl
theorem altsB_len (a : List Pr) (k : Nat) : (altsB (a.take k)).length ≤ k := by unfold altsB; rw [List.length_map]; exact List.length_take_le _ _
set_option maxHeartbeats 4000000 in
theorem form_mold (a : List Pr) (mn mx wl : Int) (A : Option Addr) (n c P B : Nat) (l : List ByteArray) (W w : World) (b0 : Nat) (cs : Array Value) (T : TypeId) (h : OutW W w P l b0 cs T) (hl : l.length ≤ 1000) (hr : Reads W B 2 A n (recs prC a)) (hB : B ≤ W.heap.size) (hn : n ≤ 1000) (hal : a.length = n) (hF : ∀ x ∈ a, (0 ≤ x.1 ∧ x.1 ≤ 48) ∧ 0 ≤ x.2 ∧ x.2 ≤ 100000)
    (hT : Lib.TabIs Tryz.prog W "internal/strconv.uint64pow10" .u64 Lib.pow10Tab) :
    Calls Tryz.prog 23 #[.agg #[.int .i64 2, .slice A n c, .int .i64 mn, .int .i64 mx, .int .i64 wl], putV P] w (RetF W P (l ++ altsB a)) := by
  have hO := Lib.hid (h.box #[.int .i64 2, .slice A n c, .int .i64 mn, .int .i64 mx, .int .i64 wl] 24)
  have eg : ∀ args w, (callFunc 20 args).run Tryz.prog w = .ok (.enter 20 args) w := ent_put
  obtain ⟨LX, hLX⟩ : ∃ x, l ++ altsB a = x := ⟨_, rfl⟩
  rw [hLX]
  replace hLX := Lib.hid hLX
  have HF := Lib.hid hF
  have HAL := Lib.hid hal
  have HT := Lib.hid hT
  unfold putV
  clear h hF hal hT
  go_enter Tryz.func23, Tryz.ntmps23
  go_wp2
  go_loopw [5, 31] (fun _ i wr => ∃ k : Nat, k ≤ n ∧ i = .int .i64 k ∧ Hid (FormAt W P l a k wr)) (fun _ i _ => n - (intOf i).toNat)
  case atStart => exact ⟨0, Nat.zero_le _, rfl, Lib.hid ⟨_, _, _, by simpa [altsB] using hO.out⟩⟩
  case round =>
    obtain ⟨k, hk, rfl, HFA⟩ := hrel
    obtain ⟨b1, cs1, T1, hw1⟩ := HFA.out
    have HW := Lib.hid hw1
    clear hw1 HFA
    by_cases hlt : k < n
    · obtain ⟨b, o, x, rfl, hbb, hx, c0, c1⟩ := (hr.below (HW.out.below.mono hB)).pr_at hlt
      have t0 : decide ((k : Int) < (n : Int)) = true := by simp; omega
      have hj0 : (0 : Int) ≤ (k : Int) := by omega
      have hj1 : (k : Int) < (n : Int) := by omega
      obtain ⟨hx1, hx2⟩ := HF.out x (List.mem_of_getElem? hx.out)
      have HN := Lib.hid (altsB_next hx.out)
      have HL : Hid ((l ++ altsB (a.take k)).length ≤ 100000) := by show _ ≤ _; have := altsB_len a k; simp; omega
      obtain ⟨D1, e1⟩ : ∃ D, (⟨(Lib.itoa x.1).toArray⟩ : ByteArray) = D := ⟨_, rfl⟩
      obtain ⟨D3, e3⟩ : ∃ D, (⟨(showL x.2.toNat).toArray⟩ : ByteArray) = D := ⟨_, rfl⟩
      have s1 : D1.size ≤ 100 := by rw [← e1]; exact itoa_size _ hx1.1 (by omega)
      have s3 : D3.size ≤ 100 := by rw [← e3]; exact show_size _ (by omega)
      have q1 := Lib.hid (fun v (hv : Below W.heap.size W v) => itoa_any x.1 v (by omega) (by omega) (tab_below HT.out hv))
      have q3 := Lib.hid (fun v => time8_any x.2 v hx2.1 (by omega))
      rw [e1] at q1 HN
      rw [e3] at q3 HN
      obtain ⟨Wb, hW⟩ : ∃ y, wr.alloc (.cells #[.int .i64 x.1, .int .i64 x.2] 82) = y := ⟨_, rfl⟩
      have hO := Lib.hid (HW.out.box #[.int .i64 x.1, .int .i64 x.2] 82)
      rw [hW] at hO
      have hOd := Lib.hid hO.out.drew
      have k1 : ¬ (9223372036854775807 < D1.size + 1) := by omega
      have k2 : ¬ (9223372036854775807 < D1.size + 1 + D3.size) := by omega
      have HS : Hid ((D1 ++ ⟨#[58]⟩ ++ D3).size ≤ 1000000) := by
        show _ ≤ _
        simp only [ByteArray.size_append]
        have : (⟨#[58]⟩ : ByteArray).size = 1 := rfl
        omega
      clear e1 e3 hx hx1 hx2 hr
      go_upto_region 9 with (fail)
      refine wp_region_held_drew (S := (fun w' => w'.cell? ⟨wr.heap.size, 0, none⟩ = some (.int .i64 x.1) ∧ w'.cell? ⟨wr.heap.size, 1, none⟩ = some (.int .i64 x.2))) (by kernel_rfl) ?_ (fun hHeld => ?_)
      · (try dsimp only); (first | exact ⟨hOd.out.cell 0, hOd.out.cell 1⟩ | exact ⟨hO1.out.cell 0, hO1.out.cell 1⟩ | exact ⟨hO2.out.cell 0, hO2.out.cell 1⟩ | exact ⟨hO3.out.cell 0, hO3.out.cell 1⟩)
      refine wpAnyH_take (i := 0) (oi := ⟨_, _, _, _, _, _⟩) (v := ?v_27) rfl (by kernel_rfl) (by kernel_rfl) (by kernel_rfl) (fun _ _ _ h => h) (Or.inl ⟨by rfl, ?hy_27⟩) (by assumption) ?r_27
      case hy_27 => (intro w_ hS_; (try dsimp only at hS_); go_simp; try with_reducible rfl)
      try simp only [Act.put, List.setIfInBounds_toArray, List.set_cons_zero, List.set_cons_succ]
      refine wpAnyH_take (i := 1) (oi := ⟨_, _, _, _, _, _⟩) (v := ?v_28) rfl (by kernel_rfl) (by kernel_rfl) (by kernel_rfl) (fun _ _ _ h => h) (Or.inl ⟨by rfl, ?hy_28⟩) (by assumption) ?r_28
      case hy_28 => (intro w_ hS_; (try dsimp only at hS_); go_simp; try with_reducible rfl)
      try simp only [Act.put, List.setIfInBounds_toArray, List.set_cons_zero, List.set_cons_succ]
      refine wpAnyH_take (i := 2) (oi := ⟨_, _, _, _, _, _⟩) (v := ?v_29) rfl (by kernel_rfl) (by kernel_rfl) (by kernel_rfl) (fun _ _ _ h => h) (Or.inl ⟨by rfl, ?hy_29⟩) (by assumption) ?r_29
      case hy_29 => (intro w_ hS_; (try dsimp only at hS_); go_simp; try with_reducible rfl)
      try simp only [Act.put, List.setIfInBounds_toArray, List.set_cons_zero, List.set_cons_succ]
      refine wpAnyH_take (i := 5) (oi := ⟨_, _, _, _, _, _⟩) (v := ?v_30) rfl (by kernel_rfl) (by kernel_rfl) (by kernel_rfl) (fun _ _ _ h => h) (Or.inl ⟨by rfl, ?hy_30⟩) (by assumption) ?r_30
      case hy_30 => (intro w_ hS_; (try dsimp only at hS_); go_simp; try with_reducible rfl)
      try simp only [Act.put, List.setIfInBounds_toArray, List.set_cons_zero, List.set_cons_succ]
      refine wpAnyH_take (i := 6) (oi := ⟨_, _, _, _, _, _⟩) (v := ?v_31) rfl (by kernel_rfl) (by kernel_rfl) (by kernel_rfl) (fun _ _ _ h => h) (Or.inl ⟨by rfl, ?hy_31⟩) (by assumption) ?r_31
      case hy_31 => (intro w_ hS_; (try dsimp only at hS_); go_simp; try with_reducible rfl)
      try simp only [Act.put, List.setIfInBounds_toArray, List.set_cons_zero, List.set_cons_succ]
      refine wpAnyH_ready (rs := [3]) (by kernel_rfl) (by simp) ?_
      refine AllReadyH.cons (o := ⟨_, _, _, _, _, _⟩) rfl (fun K hK => ?_) AllReadyH.nil
      go_simp
      (first | (go_at_call 21; (with_reducible refine (q1.out _ hOd.out.below).mono ?_); rintro e w1 ⟨rfl, hb1⟩; have hO1 := Lib.hid (hOd.out.later hb1); clear hb1) | (go_at_call 24; (with_reducible refine (q3.out _).mono ?_); rintro e w2 ⟨rfl, hb2⟩; have hO2 := Lib.hid (hO1.out.later hb2); clear hb2) | (have hp_ := put_w ⟨bAlt.toArray⟩ (D1 ++ ⟨#[58]⟩ ++ D3) hO2.out HL.out sz_alt HS.out; go_at_fn 20; refine hp_.mono ?_; clear hp_; rintro e w3 ⟨rfl, o3⟩; have hO3 := Lib.hid o3; clear o3))
      try go_wp2_with (fail)
      refine hK.out _ _ ?_ (fun hHeld => ?_)
      · (try dsimp only); (first | exact ⟨hOd.out.cell 0, hOd.out.cell 1⟩ | exact ⟨hO1.out.cell 0, hO1.out.cell 1⟩ | exact ⟨hO2.out.cell 0, hO2.out.cell 1⟩ | exact ⟨hO3.out.cell 0, hO3.out.cell 1⟩)
      clear hK K
      try simp only [Act.put, List.setIfInBounds_toArray, List.set_cons_zero, List.set_cons_succ]
      refine wpAnyH_take (i := 4) (oi := ⟨_, _, _, _, _, _⟩) (v := ?v_32) rfl (by kernel_rfl) (by kernel_rfl) (by kernel_rfl) (fun _ _ _ h => h) (Or.inl ⟨by rfl, ?hy_32⟩) (by assumption) ?r_32
      case hy_32 => (intro w_ hS_; (try dsimp only at hS_); go_simp; try with_reducible rfl)
      try simp only [Act.put, List.setIfInBounds_toArray, List.set_cons_zero, List.set_cons_succ]
      refine wpAnyH_ready (rs := [7]) (by kernel_rfl) (by simp) ?_
      refine AllReadyH.cons (o := ⟨_, _, _, _, _, _⟩) rfl (fun K hK => ?_) AllReadyH.nil
      go_simp
      (first | (go_at_call 21; (with_reducible refine (q1.out _ hOd.out.below).mono ?_); rintro e w1 ⟨rfl, hb1⟩; have hO1 := Lib.hid (hOd.out.later hb1); clear hb1) | (go_at_call 24; (with_reducible refine (q3.out _).mono ?_); rintro e w2 ⟨rfl, hb2⟩; have hO2 := Lib.hid (hO1.out.later hb2); clear hb2) | (have hp_ := put_w ⟨bAlt.toArray⟩ (D1 ++ ⟨#[58]⟩ ++ D3) hO2.out HL.out sz_alt HS.out; go_at_fn 20; refine hp_.mono ?_; clear hp_; rintro e w3 ⟨rfl, o3⟩; have hO3 := Lib.hid o3; clear o3))
      try go_wp2_with (fail)
      refine hK.out _ _ ?_ (fun hHeld => ?_)
      · (try dsimp only); (first | exact ⟨hOd.out.cell 0, hOd.out.cell 1⟩ | exact ⟨hO1.out.cell 0, hO1.out.cell 1⟩ | exact ⟨hO2.out.cell 0, hO2.out.cell 1⟩ | exact ⟨hO3.out.cell 0, hO3.out.cell 1⟩)
      clear hK K
      try simp only [Act.put, List.setIfInBounds_toArray, List.set_cons_zero, List.set_cons_succ]
      refine wpAnyH_take (i := 8) (oi := ⟨_, _, _, _, _, _⟩) (v := ?v_33) rfl (by kernel_rfl) (by kernel_rfl) (by kernel_rfl) (fun _ _ _ h => h) (Or.inl ⟨by rfl, ?hy_33⟩) (by assumption) ?r_33
      case hy_33 => (intro w_ hS_; (try dsimp only at hS_); go_simp; try with_reducible rfl)
      try simp only [Act.put, List.setIfInBounds_toArray, List.set_cons_zero, List.set_cons_succ]
      refine wpAnyH_ready (rs := [9]) (by kernel_rfl) (by simp) ?_
      refine AllReadyH.cons (o := ⟨_, _, _, _, _, _⟩) rfl (fun K hK => ?_) AllReadyH.nil
      go_simp
      (first | (go_at_call 21; (with_reducible refine (q1.out _ hOd.out.below).mono ?_); rintro e w1 ⟨rfl, hb1⟩; have hO1 := Lib.hid (hOd.out.later hb1); clear hb1) | (go_at_call 24; (with_reducible refine (q3.out _).mono ?_); rintro e w2 ⟨rfl, hb2⟩; have hO2 := Lib.hid (hO1.out.later hb2); clear hb2) | (have hp_ := put_w ⟨bAlt.toArray⟩ (D1 ++ ⟨#[58]⟩ ++ D3) hO2.out HL.out sz_alt HS.out; go_at_fn 20; refine hp_.mono ?_; clear hp_; rintro e w3 ⟨rfl, o3⟩; have hO3 := Lib.hid o3; clear o3))
      try go_wp2_with (fail)
      refine hK.out _ _ ?_ (fun hHeld => ?_)
      · (try dsimp only); (first | exact ⟨hOd.out.cell 0, hOd.out.cell 1⟩ | exact ⟨hO1.out.cell 0, hO1.out.cell 1⟩ | exact ⟨hO2.out.cell 0, hO2.out.cell 1⟩ | exact ⟨hO3.out.cell 0, hO3.out.cell 1⟩)
      clear hK K
      try simp only [Act.put, List.setIfInBounds_toArray, List.set_cons_zero, List.set_cons_succ]
      refine wpAnyH_done (by kernel_rfl) ?_ _
      go_wp2
      go_roundw
      case rel => exact ⟨k + 1, by omega, by simp, Lib.hid ⟨_, _, _, by rw [HN.out, ← List.append_assoc]; exact hO3.out⟩⟩
      case measure => simp [intOf]; omega
    · obtain rfl : k = n := by omega
      have t0 : decide ((k : Int) < (k : Int)) = false := by simp
      go_wp2
      go_end0
      have hw2 := HW.out
      rw [List.take_of_length_le (by rw [HAL.out]; omega), hLX.out] at hw2
      exact ⟨rfl, _, _, _, hw2⟩
end Go.Proofs.YtjmhaoplablmnaaGreatDoor
namespace Go.Proofs.YtjmhaoplablmnaaGreatDoor
set_option linter.unusedSimpArgs false
set_option maxRecDepth 100000
set_option linter.unusedVariables false
set_option linter.unusedSimpArgs false
open Go.RowKit
structure FormOk (s : Sh) : Prop where
  one : s.kind = 1 → 0 < s.alts.length
  few : s.alts.length ≤ 100
  alts : ∀ x ∈ s.alts, (0 ≤ x.1 ∧ x.1 ≤ 48) ∧ 0 ≤ x.2 ∧ x.2 ≤ 100000
  rng : s.kind = 3 → (0 ≤ s.mn ∧ s.mn ≤ 48) ∧ (0 ≤ s.mx ∧ s.mx ≤ 48) ∧ 0 ≤ s.wall ∧ s.wall ≤ 100000
theorem fine_in {a : Pr} (h : fineA a = true) : (0 ≤ a.1 ∧ a.1 ≤ 48) ∧ 0 ≤ a.2 ∧ a.2 ≤ 100000 := by
  unfold fineA at h
  simp only [Bool.and_eq_true, decide_eq_true_eq] at h
  omega
theorem form_ok0 : FormOk sh0 := ⟨fun h => absurd h (by decide), by decide, fun x hx => (by cases hx), fun h => absurd h (by decide)⟩
theorem form_okS {s : Sh} (h : okS s = true) : FormOk s := by
  unfold okS bareS at h
  split at h
  · rename_i k
    simp only [Bool.and_eq_true, decide_eq_true_eq, List.all_eq_true, beq_iff_eq] at h
    exact ⟨fun _ => by omega, by omega, fun x hx => fine_in (h.2 x hx), fun e => by omega⟩
  split at h
  · rename_i k
    simp only [Bool.and_eq_true, decide_eq_true_eq, List.all_eq_true, beq_iff_eq] at h
    exact ⟨fun _ => by omega, by omega, fun x hx => fine_in (h.2 x hx), fun e => by omega⟩
  split at h
  · rename_i k
    simp only [Bool.and_eq_true, decide_eq_true_eq, beq_iff_eq] at h
    have h1 := fine_in h.1.2
    dsimp only at h1
    have h2 := h.1.1.1
    have h3 := h.1.1.2
    have h4 := h.2
    have e : s.alts = [] := List.length_eq_zero_iff.1 h2
    exact ⟨fun _ => by omega, by omega, fun x hx => (by rw [e] at hx; cases hx), fun _ => ⟨h1.1, ⟨by omega, h4⟩, h1.2⟩⟩
  · cases h
structure ShowOk (c : Cm) : Prop where
  kind : 1 ≤ c.kind ∧ c.kind ≤ 12
  name : c.kind = 1 → okL (bl c.name) = true
  node : (c.kind = 7 ∨ c.kind = 8 ∨ c.kind = 9) → 0 ≤ c.node ∧ c.node ≤ 47
  job : 0 ≤ c.job ∧ c.job ≤ 99999
  prio : c.hasPrio = true → 0 ≤ c.prio ∧ c.prio ≤ 100
  after : (∀ d ∈ c.after, 0 ≤ d.2 ∧ d.2 ≤ 99999) ∧ c.after.length ≤ 4
  frm : c.kind = 10 → 0 ≤ c.frm ∧ c.frm ≤ 1000000
  nodes : c.nodes ≤ 48
  time : c.hasTime = true → 0 ≤ c.time ∧ c.time ≤ 100000
  shape : FormOk c.shape
theorem show_ok8 {c : Cm} (hE : cmdE c = 0) : ShowOk c := by
  obtain ⟨hA, hF, hfit, hbare⟩ := cmd_ok hE
  obtain ⟨hk1, hk2⟩ := cmd_kind hfit
  unfold fitB at hfit
  rw [Bool.and_eq_true] at hfit
  obtain ⟨hpre, hfit⟩ := hfit
  unfold preB at hpre
  rw [Bool.and_eq_true] at hpre
  have hp : c.hasPrio = true → 0 ≤ c.prio ∧ c.prio ≤ 100 := fun e => by have := hpre.1; rw [if_pos e] at this; exact in_iff.1 this
  have ht : c.hasTime = true → 0 ≤ c.time ∧ c.time ≤ 100000 := fun e => by have := hpre.2; rw [if_pos e] at this; have := in_iff.1 this; omega
  unfold bareC at hbare
  by_cases k1 : c.kind = 1
  · rw [if_pos k1] at hbare hfit
    unfold subB depsB at hfit
    simp only [Bool.and_eq_true, beq_iff_eq, List.all_eq_true] at hfit
    obtain ⟨⟨⟨⟨⟨⟨s1, s2⟩, s3⟩, s4⟩, s5⟩, s6⟩, s7⟩ := hfit
    have hj : c.job = 0 := congrArg Cm.job hbare
    have hn : c.nodes = 0 := congrArg Cm.nodes hbare
    have hok : okS c.shape = true := by unfold shE at s7; split at s7; assumption; cases s7
    refine ⟨⟨hk1, hk2⟩, fun _ => (name_ok8 s1).1, fun x => by omega, by omega, hp, ⟨fun d hd => ?_, hF⟩, fun x => by omega, by omega, ht, form_okS hok⟩
    have := s6.1.1 d hd
    unfold okDep at this
    rw [Bool.and_eq_true] at this
    have := in_iff.1 this.2
    omega
  rw [if_neg k1] at hbare hfit
  unfold kindB at hfit
  have mk : c.shape = sh0 → c.after = [] → ((c.kind = 7 ∨ c.kind = 8 ∨ c.kind = 9) → 0 ≤ c.node ∧ c.node ≤ 47) → (0 ≤ c.job ∧ c.job ≤ 99999) → (c.kind = 10 → 0 ≤ c.frm ∧ c.frm ≤ 1000000) → c.nodes ≤ 48 → ShowOk c :=
    fun h1 h2 h3 h4 h5 h6 => ⟨⟨hk1, hk2⟩, fun x => absurd x k1, h3, h4, hp, ⟨fun d hd => (by rw [h2] at hd; cases hd), hF⟩, h5, h6, ht, by rw [h1]; exact form_ok0⟩
  by_cases k2 : c.kind = 2 ∨ c.kind = 3 ∨ c.kind = 4 ∨ c.kind = 11 ∨ c.kind = 12
  · rw [if_pos k2] at hbare
    have hn : c.nodes = 0 := congrArg Cm.nodes hbare
    refine mk (congrArg Cm.shape hbare) (congrArg Cm.after hbare) (fun x => by omega) ?_ (fun x => by omega) (by omega)
    by_cases k3 : c.kind = 2 ∨ c.kind = 3 ∨ c.kind = 4 ∨ c.kind = 11
    · rw [if_pos k3] at hfit
      have := in_iff.1 hfit
      omega
    · rw [if_neg k3, if_neg (by omega), if_neg (by omega), if_neg (by omega), if_neg (by omega), Bool.and_eq_true] at hfit
      exact in_iff.1 hfit.2
  rw [if_neg k2] at hbare
  rw [if_neg (by omega)] at hfit
  by_cases k5 : c.kind = 5
  · rw [if_pos k5] at hbare hfit
    rw [Bool.and_eq_true] at hfit
    have hn : c.nodes = 0 := congrArg Cm.nodes hbare
    have := in_iff.1 hfit.1
    exact mk (congrArg Cm.shape hbare) (congrArg Cm.after hbare) (fun x => by omega) (by omega) (fun x => by omega) (by omega)
  rw [if_neg k5] at hbare hfit
  by_cases k6 : c.kind = 6
  · rw [if_pos k6] at hbare hfit
    rw [Bool.and_eq_true] at hfit
    have h1 := in_iff.1 hfit.1
    have h2 := in_iff.1 hfit.2
    exact mk (congrArg Cm.shape hbare) (congrArg Cm.after hbare) (fun x => by omega) (by omega) (fun x => by omega) (by omega)
  rw [if_neg k6] at hbare hfit
  by_cases k7 : c.kind = 7 ∨ c.kind = 8 ∨ c.kind = 9
  · rw [if_pos k7] at hbare hfit
    have hj : c.job = 0 := congrArg Cm.job hbare
    have hn : c.nodes = 0 := congrArg Cm.nodes hbare
    exact mk (congrArg Cm.shape hbare) (congrArg Cm.after hbare) (fun _ => in_iff.1 hfit) (by omega) (fun x => by omega) (by omega)
  rw [if_neg k7] at hbare hfit
  have k10 : c.kind = 10 := by omega
  rw [if_pos k10] at hbare hfit
  rw [Bool.and_eq_true, Bool.and_eq_true] at hfit
  have hj : c.job = 0 := congrArg Cm.job hbare
  have h1 := in_iff.1 hfit.1.1
  have h2 := in_iff.1 hfit.2
  exact mk (congrArg Cm.shape hbare) (congrArg Cm.after hbare) (fun x => by omega) (by omega) (fun _ => by omega) (by omega)
def pcs (l : List Fl) : List ByteArray := l.map fun f => ⟨(fText f).toArray⟩
theorem pcs_app (a b : List Fl) : pcs (a ++ b) = pcs a ++ pcs b := by simp [pcs]
theorem piece_at (f : List UInt8) (v : Vt) (s : ByteArray) (h : s = ⟨(vtT v).toArray⟩) : [pieceB ⟨f.toArray⟩ s] = pcs [(f, v)] := by subst h; rw [piece_f]; rfl
theorem alts_pcs (l : List Pr) : altsB l = pcs (l.map fun a => (bAlt, .alt a.1 a.2)) := by
  unfold altsB pcs
  rw [List.map_map]
  apply List.map_congr_left
  intro a _
  have : (⟨(Lib.itoa a.1).toArray⟩ ++ ⟨#[58]⟩ ++ ⟨(showL a.2.toNat).toArray⟩ : ByteArray) = ⟨(vtT (.alt a.1 a.2)).toArray⟩ := by
    apply ByteArray.ext
    simp [ByteArray.data_append, vtT]
  rw [this, piece_f]; rfl
theorem rng_txt (a b : Int) : (⟨(Lib.itoa a).toArray⟩ ++ ⟨#[45]⟩ ++ ⟨(Lib.itoa b).toArray⟩ : ByteArray) = ⟨(vtT (.rng a b)).toArray⟩ := by
  apply ByteArray.ext
  simp [ByteArray.data_append, vtT]
theorem form_any (s : Sh) (A : Option Addr) (c P B : Nat) (l : List ByteArray) (W w : World) (b0 : Nat) (cs : Array Value) (T : TypeId) (h : OutW W w P l b0 cs T) (hl : l.length ≤ 1000) (hs : FormOk s) (hr : Reads W B 2 A s.alts.length (recs prC s.alts)) (hB : B ≤ W.heap.size)
    (hT : Lib.TabIs Tryz.prog W "internal/strconv.uint64pow10" .u64 Lib.pow10Tab) :
    Calls Tryz.prog 23 #[.agg #[.int .i64 s.kind, .slice A s.alts.length c, .int .i64 s.mn, .int .i64 s.mx, .int .i64 s.wall], putV P] w (RetF W P (l ++ pcs (formF s))) := by
  obtain ⟨h1, h2, h3, h4⟩ := hs
  unfold formF
  by_cases k1 : s.kind = 1
  · rw [if_pos k1, k1]
    have hn := h1 k1
    obtain ⟨b, o, x, rfl, hbb, hx, c0, c1⟩ := hr.pr_at hn
    rw [Nat.zero_mul, Nat.add_zero] at c0 c1
    obtain ⟨q1, q2⟩ := h3 x (List.mem_of_getElem? hx.out)
    have e : s.alts.getD 0 (0, 0) = x := by rw [List.getD_eq_getElem?_getD, hx.out]; rfl
    rw [e]
    have := form_rig x b o s.mn s.mx s.wall s.alts.length c P l W w b0 cs T h hl q1 q2 hT _ _ rfl rfl (itoa_size _ q1.1 (by omega)) (show_size _ (by omega)) hn (by omega) c0 c1
    have p1 : [pieceB ⟨bNodes.toArray⟩ ⟨(Lib.itoa x.1).toArray⟩] = pcs [(bNodes, .num x.1)] := piece_at bNodes (.num x.1) _ rfl
    have p2 : [pieceB ⟨bTime.toArray⟩ ⟨(showL x.2.toNat).toArray⟩] = pcs [(bTime, .time x.2)] := piece_at bTime (.time x.2) _ rfl
    rw [p1, p2, List.append_assoc, ← pcs_app] at this
    exact this
  rw [if_neg k1]
  by_cases k2 : s.kind = 2
  · rw [if_pos k2, k2]
    have := form_mold s.alts s.mn s.mx s.wall A s.alts.length c P B l W w b0 cs T h hl hr hB (by omega) rfl h3 hT
    rw [alts_pcs] at this
    exact this
  rw [if_neg k2]
  by_cases k3 : s.kind = 3
  · rw [if_pos k3, k3]
    obtain ⟨q1, q2, q3⟩ := h4 k3
    have := form_mal s.mn s.mx s.wall A s.alts.length c P l W w b0 cs T h hl q1 q2 q3 hT _ _ _ rfl rfl rfl (itoa_size _ q1.1 (by omega)) (itoa_size _ q2.1 (by omega)) (show_size _ (by omega))
    have p1 : [pieceB ⟨bRange.toArray⟩ ⟨(vtT (.rng s.mn s.mx)).toArray⟩] = pcs [(bRange, .rng s.mn s.mx)] := piece_at bRange (.rng s.mn s.mx) _ rfl
    have p2 : [pieceB ⟨bTime.toArray⟩ ⟨(showL s.wall.toNat).toArray⟩] = pcs [(bTime, .time s.wall)] := piece_at bTime (.time s.wall) _ rfl
    rw [rng_txt, p1, p2, List.append_assoc, ← pcs_app] at this
    exact this
  rw [if_neg k3]
  have := form_none s.kind s.mn s.mx s.wall A s.alts.length c P l W w b0 cs T h (by simpa using k1) (by simpa using k2) (by simpa using k3)
  rw [show pcs [] = [] from rfl, List.append_nil]
  exact this
theorem subj_any (x : Cm) (A A2 : Option Addr) (c c2 : Nat) (w : World) (h : ShowOk x) (hz : x.name.size ≤ 1000000) (hT : Lib.TabIs Tryz.prog w "internal/strconv.uint64pow10" .u64 Lib.pow10Tab) :
    Calls Tryz.prog 19 #[cmV x A c A2 c2] w fun e w' => e = .returned (.string ⟨(subjT x).toArray⟩) ∧ Below w.heap.size w w' := by
  unfold subjT
  by_cases k1 : x.kind = 1
  · rw [if_pos k1]
    by_cases hw : wordB x.name = true
    · rw [if_pos hw, show (⟨(bl x.name).toArray⟩ : ByteArray) = x.name by simp [bl]]
      exact subj_word x A A2 c c2 w k1 hw hz
    · rw [if_neg hw, if_pos (h.name k1)]
      exact subj_text x A A2 c c2 w k1 (by simpa using hw) hz (h.name k1)
  rw [if_neg k1]
  by_cases k7 : x.kind = 7 ∨ x.kind = 8 ∨ x.kind = 9
  · rw [if_pos k7]
    exact subj_node x A A2 c c2 w k7 (h.node k7) hT
  · rw [if_neg k7]
    exact subj_job x A A2 c c2 w (by simpa using k1) (by simp; omega) (by simp; omega) (by simp; omega) h.job hT
theorem esc_le : ∀ l : List UInt8, (esc l).length ≤ 2 * l.length
  | [] => by simp [esc]
  | b :: t => by
    have := esc_le t
    show ((if b = 34 ∨ b = 92 then [92, b] else [b]) ++ esc t).length ≤ _
    rw [List.length_append, List.length_cons]
    split <;> simp <;> omega
theorem join_le {M : Nat} : ∀ {l : List (List UInt8)}, (∀ x ∈ l, x.length ≤ M) → (Lib.join l [32]).length ≤ (M + 1) * l.length
  | [], _ => by simp [Lib.join_nil]
  | [x], h => by rw [Lib.join_one]; have := h x (by simp); simp; omega
  | x :: y :: l, h => by
    have h1 := h x (by simp)
    have h2 := join_le (l := y :: l) (fun z hz => h z (List.mem_cons_of_mem _ hz))
    rw [join_cons, List.length_append, List.length_cons]
    rw [List.length_cons, Nat.mul_succ]
    omega
end Go.Proofs.YtjmhaoplablmnaaGreatDoor
