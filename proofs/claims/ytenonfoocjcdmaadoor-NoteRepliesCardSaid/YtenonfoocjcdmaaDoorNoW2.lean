/- Layer 23: Replies, Contains, Index, Reply walked. -/
import Derived.Test.YtenonfoocjcdmaaDoorNoW1
namespace Go.Proofs.YtenonfoocjcdmaaDoor
set_option linter.unusedVariables false
open Go.RowKit
/-- a call hands back numbers -/
def RetInts (w : World) (l : List Int) (e : Ending) (w' : World) : Prop :=
  ∃ A c, e = .returned (.slice A l.length c) ∧ l.length ≤ c ∧ Reads w' w'.heap.size 1 A l.length (ints l) ∧ Below w.heap.size w w'
theorem RetInts.made {w : World} (l : List Int) (t : TypeId) : RetInts w l (.returned (.slice (some ⟨w.heap.size, 0, none⟩) l.length l.length)) (w.alloc (.cells (ints l).toArray t)) := by
  refine ⟨_, _, rfl, Nat.le_refl _, ?_, (Below.refl _ _).alloc (Nat.le_refl _) _⟩
  have := Reads.made w (ints l) t
  rw [ints_len] at this
  simpa using this
theorem RetInts.nil {w : World} : RetInts w [] (.returned (.slice none 0 0)) w := ⟨_, _, rfl, Nat.le_refl _, Reads.none_, Below.refl _ _⟩
theorem replies_any (k : Int) (w : World) : Calls Tryd.prog 37 #[.int .i64 k] w (RetInts w (repliesL k)) := by
  have h1 := Lib.hid (RetInts.made (w := w) [7, 14] 3)
  have h2 := Lib.hid (RetInts.made (w := w) [8, 9] 3)
  have h3 := Lib.hid (RetInts.made (w := w) [8, 9, 14] 3)
  have h4 := Lib.hid (RetInts.made (w := w) [10] 3)
  have h5 := Lib.hid (RetInts.made (w := w) [13] 3)
  by_cases a1 : k = 1
  · subst a1
    go_enter Tryd.func37, Tryd.ntmps37
    go_wp2
    go_ret
    exact h1.out
  by_cases a3 : k = 3
  · subst a3
    go_enter Tryd.func37, Tryd.ntmps37
    go_wp2
    go_ret
    exact h1.out
  by_cases a2 : k = 2
  · subst a2
    go_enter Tryd.func37, Tryd.ntmps37
    go_wp2
    go_ret
    exact h2.out
  by_cases a4 : k = 4
  · subst a4
    go_enter Tryd.func37, Tryd.ntmps37
    go_wp2
    go_ret
    exact h3.out
  by_cases a5 : k = 5
  · subst a5
    go_enter Tryd.func37, Tryd.ntmps37
    go_wp2
    go_ret
    exact h4.out
  by_cases a6 : k = 6
  · subst a6
    go_enter Tryd.func37, Tryd.ntmps37
    go_wp2
    go_ret
    exact h5.out
  have b1 : (k == 1) = false := by simpa using a1
  have b2 : (k == 2) = false := by simpa using a2
  have b3 : (k == 3) = false := by simpa using a3
  have b4 : (k == 4) = false := by simpa using a4
  have b5 : (k == 5) = false := by simpa using a5
  have b6 : (k == 6) = false := by simpa using a6
  have hl : repliesL k = [] := by unfold repliesL; rw [if_neg (by omega), if_neg a2, if_neg a4, if_neg a5, if_neg a6]
  rw [hl]
  clear hl a1 a2 a3 a4 a5 a6
  go_enter Tryd.func37, Tryd.ntmps37
  go_wp2
  go_ret
  exact RetInts.nil
theorem find_first {α : Type} {p : α → Bool} : ∀ {l : List α} {k : Nat} {x : α}, l[k]? = some x → p x = true → (∀ y ∈ l.take k, p y = false) → l.findIdx? p = some k
  | [], k, x, h, _, _ => by simp at h
  | y :: t, 0, x, h, hp, _ => by
    simp at h; subst h
    rw [List.findIdx?_cons, hp]; rfl
  | y :: t, k + 1, x, h, hp, ha => by
    have h1 := ha y (by simp)
    rw [List.findIdx?_cons, h1, find_first (l := t) (k := k) (by simpa using h) hp (fun z hz => ha z (by simp [hz]))]
    rfl
theorem find_none {α : Type} {p : α → Bool} {l : List α} (h : ∀ y ∈ l, p y = false) : l.findIdx? p = none := by
  induction l with
  | nil => rfl
  | cons y t ih => rw [List.findIdx?_cons, h y (by simp), ih (fun z hz => h z (by simp [hz]))]; rfl
def idxI (l : List Int) (x : Int) : Int := match l.findIdx? (fun y => x == y) with | some k => (k : Int) | none => -1
theorem idxI_mem {l : List Int} {x : Int} (h : x ∈ l) : 0 ≤ idxI l x := by
  unfold idxI
  cases hf : l.findIdx? (fun y => x == y) with
  | none => rw [List.findIdx?_eq_none_iff] at hf; have := hf x h; simp at this
  | some k => simp
theorem idxI_not {l : List Int} {x : Int} (h : x ∉ l) : idxI l x = -1 := by
  unfold idxI
  rw [find_none]
  intro y hy
  rw [beq_eq_false_iff_ne]
  rintro rfl
  exact h hy
theorem index_i (A : Option Addr) (n c B : Nat) (l : List Int) (x : Int) (w : World) (hr : Reads w B 1 A n (ints l)) (hn : n ≤ 1000000) :
    Calls Tryd.prog 83 #[.slice A n c, .int .i64 x] w fun e w' => e = .returned (.int .i64 (idxI l x)) ∧ w = w' := by
  have hlen := hr.len
  go_enter Tryd.func83, Tryd.ntmps83
  go_wp2
  go_loop [8] (fun i => ∃ k : Nat, k ≤ n ∧ i = .int .i64 k ∧ Hid (∀ y ∈ l.take k, (x == y) = false)) (fun i => n - (intOf i).toNat)
  case atStart => exact ⟨0, Nat.zero_le _, rfl, (by show ∀ y ∈ _, _; simp)⟩
  case round =>
    obtain ⟨k, hk, rfl, HA⟩ := hrel
    by_cases hlt : k < n
    · obtain ⟨b, o, rfl, hb, hc⟩ := hr.plain (by omega) (by omega)
      obtain ⟨y, hy⟩ : ∃ y, Hid (l[k]? = some y) := ⟨_, List.getElem?_eq_getElem (by rw [hlen.out]; exact hlt)⟩
      have c0 := hc k (.int .i64 y) (by rw [ints, List.getElem?_map, hy.out]; rfl)
      have hj0 : (0 : Int) ≤ (k : Int) := by omega
      have hj1 : (k : Int) < (n : Int) := by omega
      clear hc hr
      by_cases he : x = y
      · have t1 : (x == y) = true := by simpa using he
        have hf : Hid (idxI l x = (k : Int)) := by show _ = _; unfold idxI; rw [find_first (p := fun y => x == y) hy.out t1 HA.out]
        clear he
        go_wp2
        go_ret
        exact ⟨by rw [hf.out]; rfl, rfl⟩
      · have t1 : (x == y) = false := by simpa using he
        have HB : Hid (∀ y ∈ l.take (k + 1), (x == y) = false) := by
          show ∀ y ∈ _, _
          intro z hz
          rw [take_snocT hy.out, List.mem_append] at hz
          rcases hz with hz | hz
          · exact HA.out z hz
          · rw [List.mem_singleton] at hz; subst hz; exact t1
        clear he
        go_wp2
        go_round
        case rel => exact ⟨k + 1, by omega, by go_num, HB⟩
        case measure => simp [intOf]; omega
    · have hf : Hid (idxI l x = -1) := by
        show _ = _; unfold idxI
        rw [find_none (p := fun y => x == y)]
        have := HA.out
        rw [List.take_of_length_le (by rw [hlen.out]; omega)] at this
        exact this
      clear hr
      go_wp2
      go_ret
      exact ⟨by rw [hf.out]; rfl, rfl⟩
theorem contains_yes (A : Option Addr) (n c B : Nat) (l : List Int) (x : Int) (w : World) (hr : Reads w B 1 A n (ints l)) (hn : n ≤ 1000000) (hx : x ∈ l) :
    Calls Tryd.prog 62 #[.slice A n c, .int .i64 x] w fun e w' => e = .returned (.bool true) ∧ w = w' := by
  have h := Lib.hid (index_i A n c B l x w hr hn)
  obtain ⟨q, hq⟩ : ∃ q, Hid (idxI l x = q) := ⟨_, rfl⟩
  have h0 := idxI_mem hx
  rw [hq.out] at h h0
  have t0 : decide (0 ≤ q) = true := by simpa using h0
  clear hr hx
  go_enter Tryd.func62, Tryd.ntmps62
  go_wp2_with (go_at_call 83; refine Calls.mono h.out ?_; rintro e w1 ⟨rfl, rfl⟩)
  go_ret
  exact ⟨rfl, rfl⟩
theorem contains_no (A : Option Addr) (n c B : Nat) (l : List Int) (x : Int) (w : World) (hr : Reads w B 1 A n (ints l)) (hn : n ≤ 1000000) (hx : x ∉ l) :
    Calls Tryd.prog 62 #[.slice A n c, .int .i64 x] w fun e w' => e = .returned (.bool false) ∧ w = w' := by
  have h := Lib.hid (index_i A n c B l x w hr hn)
  rw [idxI_not hx] at h
  clear hr hx
  go_enter Tryd.func62, Tryd.ntmps62
  go_wp2_with (go_at_call 83; refine Calls.mono h.out ?_; rintro e w1 ⟨rfl, rfl⟩)
  go_ret
  exact ⟨rfl, rfl⟩
theorem results_cell1 {P : Program} {fn : Func} {p t : Tmp} {ty : TypeId} (h : fn.results = #[.cell p ty, .tmp t]) (tmps : Array Value) (w : World) (g : Nat) (tt : TypeId) (cs : Array Value) (fr : Nat × Nat) (d : TypeDesc)
    (hp : tmps.getD p undef = .pointer (some ⟨g, 0, none⟩)) (hg : w.heap[g]? = some (.cells cs tt fr))
    (hu : P.underlying ty = some d) (hd : (match d with | .struct _ | .array _ _ => true | _ => false) = true) (hi : (P.info? ty).map (·.size) = some cs.size) :
    (results fn tmps).run P w = .ok (.tuple #[.agg cs, tmps.getD t undef]) w := by
  have hp' : tmps[p]?.getD undef = .pointer (some ⟨g, 0, none⟩) := by simpa using hp
  simp [results, h, hp', asAddr, run_loadVar_row w g tt ty cs fr d hg hu hd hi]
def note0 : Obj := .cells #[.int .i64 0, .int .i64 0, .int .i64 0, .int .i64 0] 57 (0, 0)
def RetNote (w : World) (r : Nt × Int) (e : Ending) (w' : World) : Prop := e = .returned (.tuple #[ntV r.1, .int .i64 r.2]) ∧ Below w.heap.size w w'
set_option maxHeartbeats 1000000 in
set_option maxRecDepth 100000 in
theorem reply_any (n : Nt) (k : Int) (w : World) : Calls Tryd.prog 35 #[ntV n, .int .i64 k] w (RetNote w (replyN n k)) := by
  have hck := Lib.hid (fun v => check23_any n v)
  have hrp := Lib.hid (fun v => replies_any n.kind v)
  have hsz : ((boxN n w).alloc note0).heap.size = w.heap.size + 2 := by simp [boxN]
  have hB0 := Lib.hid ((boxN_below n w).alloc (by simp [boxN]) note0)
  have e0 : ((boxN n w).alloc note0).heap[w.heap.size]? = some (.cells #[.int .i64 n.kind, .int .i64 n.node, .int .i64 n.job, .int .i64 n.epoch] 57 (0, 0)) := (Below.heap_alloc (boxN n w) note0 w.heap.size (by simp [boxN])).trans (heap_alloc_new w _)
  have e1 : ((boxN n w).alloc note0).heap[w.heap.size + 1]? = some note0 := by have := heap_alloc_new (boxN n w) note0; simpa [boxN] using this
  have E0 := Lib.hid e0
  have E1 := Lib.hid e1
  have hB1 : Below w.heap.size w ((boxN n w).alloc note0) := hB0.out
  unfold ntV at hck ⊢
  have HR : Hid (replyN n k = if noteP n ∧ k ∈ repliesL n.kind then (⟨k, n.node, n.job, n.epoch⟩, 0) else (nt0, 230)) := rfl
  have hl : (repliesL n.kind).length ≤ 3 := by unfold repliesL; (repeat' split) <;> simp
  clear e0 e1
  by_cases h : noteP n
  case neg =>
    have he : noteE n = 230 := by unfold noteE; rw [if_neg h]
    have hre : Hid (replyN n k = (nt0, 230)) := by show _ = _; rw [HR.out, if_neg (fun x => h x.1)]
    rw [he] at hck
    clear h he hB1
    go_enter Tryd.func35, Tryd.ntmps35
    go_wp2_with (fail)
    refine (hck.out _).mono ?_; rintro e w1 ⟨rfl, hb1⟩
    have hb1' : Below ((boxN n w).alloc note0).heap.size ((boxN n w).alloc note0) w1 := hb1
    have f1 : w1.heap[w.heap.size + 1]? = some note0 := (hb1'.block _ (by omega)).trans E1.out
    have hz1 := hb1'.size
    obtain ⟨f10, d0, d1, d2, d3⟩ := row4 f1
    have hB1 := Lib.hid (hB0.out.trans (hb1'.mono (by omega)))
    replace f1 := Lib.hid f1
    clear hb1 hb1'
    go_wp2
    refine bodyPost_ret (results_cell1 rfl _ _ (w.heap.size + 1) _ _ _ _ rfl (set4_blk f1.out) Tryd.underlying57 rfl (by kernel_rfl)) rfl ?_
    refine ⟨by rw [hre.out]; rfl, ?_⟩
    exact (((hB1.out.setCell (p := ⟨w.heap.size + 1, 0, none⟩) (by show _ ≤ _; simp) _).setCell (p := ⟨w.heap.size + 1, 1, none⟩) (by show _ ≤ _; simp) _).setCell (p := ⟨w.heap.size + 1, 2, none⟩) (by show _ ≤ _; simp) _).setCell (p := ⟨w.heap.size + 1, 3, none⟩) (by show _ ≤ _; simp) _
  have he : noteE n = 0 := by unfold noteE; rw [if_pos h]
  rw [he] at hck
  by_cases hm : k ∈ repliesL n.kind
  case neg =>
    have hre : Hid (replyN n k = (nt0, 230)) := by show _ = _; rw [HR.out, if_neg (fun x => hm x.2)]
    obtain ⟨L, hL⟩ : ∃ L, Hid (repliesL n.kind = L) := ⟨_, rfl⟩
    rw [hL.out] at hrp hm hl
    have hct := Lib.hid (fun A c B v hv => contains_no A L.length c B L k v hv (by omega) hm)
    obtain ⟨N, hN⟩ : ∃ N, Hid (L.length = N) := ⟨_, rfl⟩
    rw [hN.out] at hct
    clear h he hB1 hm hl
    go_enter Tryd.func35, Tryd.ntmps35
    go_wp2_with (fail)
    refine (hck.out _).mono ?_; rintro e w1 ⟨rfl, hb1⟩
    have hb1' : Below ((boxN n w).alloc note0).heap.size ((boxN n w).alloc note0) w1 := hb1
    have f0 : w1.heap[w.heap.size]? = some (.cells #[.int .i64 n.kind, .int .i64 n.node, .int .i64 n.job, .int .i64 n.epoch] 57 (0, 0)) := (hb1'.block _ (by omega)).trans E0.out
    have f1 : w1.heap[w.heap.size + 1]? = some note0 := (hb1'.block _ (by omega)).trans E1.out
    have hz1 := hb1'.size
    obtain ⟨f00, c0, c1, c2, c3⟩ := row4 f0
    have hB1 := Lib.hid (hB0.out.trans (hb1'.mono (by omega)))
    replace f1 := Lib.hid f1
    clear hb1 hb1' f0
    go_wp2_with (fail)
    refine (hrp.out _).mono ?_; rintro e w2 ⟨A, c, rfl, hc, hr, hb2⟩
    rw [hN.out] at hr hc ⊢
    have f2 := (hb2.block _ (by omega)).trans f1.out
    have hB2 := Lib.hid (hB1.out.trans (hb2.mono (by omega)))
    obtain ⟨f10, d0, d1, d2, d3⟩ := row4 f2
    replace f2 := Lib.hid f2
    have hr2 := Lib.hid hr
    clear hb2 f1 c0 c1 c2 c3 f00 hr
    go_wp2_with (fail)
    refine (hct.out _ _ _ _ hr2.out).mono ?_; rintro e w3 ⟨rfl, rfl⟩
    go_wp2
    refine bodyPost_ret (results_cell1 rfl _ _ (w.heap.size + 1) _ _ _ _ rfl (set4_blk f2.out) Tryd.underlying57 rfl (by kernel_rfl)) rfl ?_
    refine ⟨by rw [hre.out]; rfl, ?_⟩
    exact (((hB2.out.setCell (p := ⟨w.heap.size + 1, 0, none⟩) (by show _ ≤ _; simp) _).setCell (p := ⟨w.heap.size + 1, 1, none⟩) (by show _ ≤ _; simp) _).setCell (p := ⟨w.heap.size + 1, 2, none⟩) (by show _ ≤ _; simp) _).setCell (p := ⟨w.heap.size + 1, 3, none⟩) (by show _ ≤ _; simp) _
  have hre : Hid (replyN n k = (⟨k, n.node, n.job, n.epoch⟩, 0)) := by show _ = _; rw [HR.out, if_pos ⟨h, hm⟩]
  obtain ⟨L, hL⟩ : ∃ L, Hid (repliesL n.kind = L) := ⟨_, rfl⟩
  rw [hL.out] at hrp hm hl
  have hct := Lib.hid (fun A c B v hv => contains_yes A L.length c B L k v hv (by omega) hm)
  obtain ⟨N, hN⟩ : ∃ N, Hid (L.length = N) := ⟨_, rfl⟩
  rw [hN.out] at hct
  clear h he hB1 hm hl
  go_enter Tryd.func35, Tryd.ntmps35
  go_wp2_with (fail)
  refine (hck.out _).mono ?_; rintro e w1 ⟨rfl, hb1⟩
  have hb1' : Below ((boxN n w).alloc note0).heap.size ((boxN n w).alloc note0) w1 := hb1
  have f0 : w1.heap[w.heap.size]? = some (.cells #[.int .i64 n.kind, .int .i64 n.node, .int .i64 n.job, .int .i64 n.epoch] 57 (0, 0)) := (hb1'.block _ (by omega)).trans E0.out
  have f1 : w1.heap[w.heap.size + 1]? = some note0 := (hb1'.block _ (by omega)).trans E1.out
  have hz1 := hb1'.size
  obtain ⟨f00, c0, c1, c2, c3⟩ := row4 f0
  have hB1 := Lib.hid (hB0.out.trans (hb1'.mono (by omega)))
  replace f1 := Lib.hid f1
  replace f0 := Lib.hid f0
  clear hb1 hb1'
  go_wp2_with (fail)
  refine (hrp.out _).mono ?_; rintro e w2 ⟨A, c, rfl, hc, hr, hb2⟩
  rw [hN.out] at hr hc ⊢
  have f2 := (hb2.block _ (by omega)).trans f1.out
  have g2 := (hb2.block _ (by omega)).trans f0.out
  have hB2 := Lib.hid (hB1.out.trans (hb2.mono (by omega)))
  have hz2 := hb2.size
  clear c0 c1 c2 c3 f00 f0 f1
  obtain ⟨f10, d0, d1, d2, d3⟩ := row4 f2
  obtain ⟨f00, c0, c1, c2, c3⟩ := row4 g2
  replace f2 := Lib.hid f2
  replace g2 := Lib.hid g2
  have hr2 := Lib.hid hr
  have hl0 : w.heap.size < w2.heap.size := by omega
  have hl1 : w.heap.size + 1 < w2.heap.size := by omega
  clear hb2 hr
  go_wp2_with (fail)
  refine (hct.out _ _ _ _ hr2.out).mono ?_; rintro e w3 ⟨rfl, rfl⟩
  have f3 : (w2.setCell ⟨w.heap.size, 0, none⟩ (.int .i64 k)).heap[w.heap.size + 1]? = some note0 := by rw [Below.heap_setCell _ _ _ _ (by show w.heap.size + 1 ≠ w.heap.size; omega)]; exact f2.out
  have F3 := Lib.hid f3
  clear f3
  go_wp2
  refine bodyPost_ret (results_cell1 rfl _ _ (w.heap.size + 1) _ _ _ _ rfl (set4_blk F3.out) Tryd.underlying57 rfl (by kernel_rfl)) rfl ?_
  refine ⟨by rw [hre.out]; rfl, ?_⟩
  exact ((((hB2.out.setCell (p := ⟨w.heap.size, 0, none⟩) (Nat.le_refl _) _).setCell (p := ⟨w.heap.size + 1, 0, none⟩) (by show _ ≤ _; simp) _).setCell (p := ⟨w.heap.size + 1, 1, none⟩) (by show _ ≤ _; simp) _).setCell (p := ⟨w.heap.size + 1, 2, none⟩) (by show _ ≤ _; simp) _).setCell (p := ⟨w.heap.size + 1, 3, none⟩) (by show _ ≤ _; simp) _
end Go.Proofs.YtenonfoocjcdmaaDoor
