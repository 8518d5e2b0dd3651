/- Layer 5, the document's answer: runes, where a run ends, numbers. Layer 5, the document's answer: where a run ends; numbers; letters. Layer 5, the document's answer: the number of runes; a text. Layer 5, the document's answer: a text. Layer 5, the document's answer: one token. Layer 5, the document's answer: the tokens of a line. -/
import Derived.Test.YtmkmmggimokagaaGreatDoorK7
import Derived.Test.YtmkmmggimokagaaGreatDoorK4
namespace Go.Proofs.YtmkmmggimokagaaGreatDoor
set_option linter.unusedVariables false
open Go.RowKit
theorem rcs_len (l : List Nat) : (rcs l).length = l.length := by simp [rcs]
theorem Reads.rune_at {w : World} {B n k r : Nat} {A : Option Addr} {rs : List Nat} (h : Reads w B 1 A n (rcs rs)) (hk : rs[k]? = some r) : ∃ ad, A = some ad ∧ ad.block < B ∧ w.cell? (ad.add k) = some (.int .i32 (r : Int)) := by
  have hl := (List.getElem?_eq_some_iff.1 hk).1
  have h1 := h.1
  rw [rcs_len] at h1
  obtain ⟨ad, e, hb, hc⟩ := h.2 (by omega)
  exact ⟨ad, e, hb, hc k _ (by simp [rcs, hk])⟩
theorem Reads.rune_len {w : World} {B n : Nat} {A : Option Addr} {rs : List Nat} (h : Reads w B 1 A n (rcs rs)) : rs.length = n := by
  have h1 := h.1; rw [rcs_len] at h1; omega
set_option maxRecDepth 1000000 in
/-- 'l[i:j]', and 'string(l[i:j])' -/
theorem cut_runes {w : World} {B n c : Nat} {A : Option Addr} {rs : List Nat} (h : Reads w B 1 A n (rcs rs)) (hcap : n ≤ c) {i j : Nat} (hij : i ≤ j) (hj : j ≤ n) :
    ∃ A' c', (∀ v : World, (Instr.slice 152 (.slice A n c) (some (.int .i64 (i : Int))) (some (.int .i64 (j : Int))) none).run Tryz.prog v = .ok (.slice A' (j - i) c') v) ∧
      (∀ v : World, (Instr.sliceAt 152 (.slice A n c) (some (.int .i64 (i : Int))) (some (.int .i64 (j : Int))) none).run Tryz.prog v = .ok (.slice A' (j - i) c') v) ∧ j - i ≤ c' ∧
      ∀ v : World, (∀ p : Addr, p.block < B → v.cell? p = w.cell? p) → Reads v B 1 A' (j - i) (rcs (cutR rs i j)) ∧ (convert 152 9 (.slice A' (j - i) c')).run Tryz.prog v = .ok (.string (strR (cutR rs i j))) v := by
  have hlen := h.rune_len
  have h1 : ∀ v : World, (Instr.slice 152 (.slice A n c) (some (.int .i64 (i : Int))) (some (.int .i64 (j : Int))) none).run Tryz.prog v = .ok (.slice (if c = i then A else A.map (·.add (i * 1))) (j - i) (c - i)) v := by
    intro v
    rw [run_slice_lh v 152 A n c Tryz.underlying152 .i64 .i64 (i : Int) (j : Int) (by omega) (by omega) (by omega)]
    have e : (sizeOf (Tryz.prog.elem 152)).run Tryz.prog v = .ok 1 v := by
      have ee : Tryz.prog.elem 152 = 21 := by kernel_rfl
      rw [ee]; exact Tryz.sizeOf21 v
    rw [e]
    simp [Result.andThen, sliced]
  have hR : ∀ v : World, (∀ p : Addr, p.block < B → v.cell? p = w.cell? p) → Reads v B 1 (if c = i then A else A.map (·.add (i * 1))) (j - i) (rcs (cutR rs i j)) := by
    intro v hv
    refine ⟨by rw [rcs_len, cutR_len (by omega)]; omega, fun h0 => ?_⟩
    obtain ⟨ad, rfl, hb, hc⟩ := h.2 (by omega)
    rw [if_neg (by omega)]
    refine ⟨ad.add (i * 1), rfl, by rw [block_of_add]; exact hb, fun q u hu => ?_⟩
    rw [add_of_add, hv _ (by rw [block_of_add]; exact hb)]
    refine hc _ u ?_
    have hq : q < j - i := by
      have := (List.getElem?_eq_some_iff.1 hu).1
      rw [rcs_len, cutR_len (by omega)] at this; exact this
    simp only [rcs, List.getElem?_map, cutR_at hq] at hu ⊢
    rw [Nat.mul_one]; exact hu
  refine ⟨_, _, h1, fun v => ?_, by omega, fun v hv => ⟨hR v hv, ?_⟩⟩
  · rw [run_sliceAt_slice v _ _ _ _ _ Tryz.underlying152]; exact h1 v
  · have hr := hR v hv
    have hl : (cutR rs i j).length = j - i := cutR_len (by omega)
    obtain ⟨A2, hA2⟩ : ∃ A2, (if c = i then A else A.map (·.add (i * 1))) = A2 := ⟨_, rfl⟩
    rw [hA2] at hr ⊢
    rcases A2 with _ | a
    · have h0 : j - i = 0 := by
        rcases Nat.eq_zero_or_pos (j - i) with h0 | h0
        · exact h0
        · obtain ⟨ad, h, _⟩ := hr.2 h0
          cases h
      have hnil : cutR rs i j = [] := List.eq_nil_of_length_eq_zero (by omega)
      rw [h0, hnil]
      exact run_convert_runes_nil v _ _ 21 _ _ Tryz.underlying152 Tryz.underlying21 Tryz.underlying9
    · have h2 := run_convert_runes (P := Tryz.prog) v 152 9 21 a (j - i) (c - i) ((cutR rs i j).map (fun r : Nat => (r : Int))) (by simp; omega) Tryz.underlying152 Tryz.underlying21 Tryz.underlying9 (by
        intro q hq
        simp at hq
        have hq2 : q < (cutR rs i j).length := by omega
        obtain ⟨ad, e, _, hc⟩ := hr.rune_at (List.getElem?_eq_getElem hq2)
        injection e with e
        subst e
        rw [hc]
        simp [List.getD, List.getElem?_eq_getElem hq2])
      rw [h2, List.take_of_length_le (by simp; omega), runesBytes_eq]
def RnPost (rs : List Nat) (w : World) (en : Ending) (w' : World) : Prop := ∃ v, en = .returned v ∧ Owns w' w.heap.size 21 1 v rs.length (rcs rs) ∧ Below w.heap.size w w'
theorem wordR_of {x : Nat} {q : Int} (h : classV x = q) : wordR x = ((q == 2) || (q == 3) || (x == 45) || (x == 95)) := by
  unfold wordR hasC
  rw [h]
  have e : ([2, 3] : List Int).contains q = ((q == 2) || (q == 3)) := by cases h2 : (q == 2) <;> cases h3 : (q == 3) <;> simp [List.contains, List.elem, h2, h3]
  rw [e]
theorem valR_snoc (l : List Nat) (r : Nat) : valR (l ++ [r]) = valR l * 10 + (r - 48) := by simp [valR]
theorem valR_lt {l : List Nat} (h : ∀ r ∈ l, digR r = true) : ∀ k, k ≤ l.length → valR (l.take k) < 10 ^ k := by
  intro k
  induction k with
  | zero => intro _; simp [valR]
  | succ k ih =>
    intro hk
    have h1 := ih (by omega)
    have hx : l[k]? = some (l[k]'(by omega)) := List.getElem?_eq_getElem (by omega)
    have h2 := digR_iff.1 (h _ (List.mem_of_getElem? hx))
    rw [take_snoc hx, valR_snoc, Nat.pow_succ]
    omega
/-- how far a text was read: not held -/
def St (rs : List Nat) (a i : Nat) : Prop := a ≤ i ∧ i ≤ endT rs a ∧ heldN true (rs.drop a) (i - a) = false
section
variable {rs : List Nat} {a i x : Nat}
theorem endT_more (h1 : a ≤ i) (h : i ≤ endT rs a) (hx : rs[i]? = some x) (ht : textR (heldN true (rs.drop a) (i - a)) x = true) : i + 1 ≤ endT rs a := by
  rcases Nat.lt_or_ge i (endT rs a) with h2 | h2
  · exact h2
  · have e : endT rs a = i := by omega
    have e2 : scan true (rs.drop a) = i - a := by unfold endT at e; omega
    have h3 := scan_stop (h := true) (l := rs.drop a) (x := x) (by rw [e2]; exact drop_get h1 hx)
    rw [e2, ht] at h3; cases h3
theorem endT_here (h1 : a ≤ i) (h : i ≤ endT rs a) (hx : rs[i]? = some x) (ht : textR (heldN true (rs.drop a) (i - a)) x = false) : endT rs a = i := by
  rcases Nat.lt_or_ge i (endT rs a) with h2 | h2
  · have h3 := scan_mid (h := true) (l := rs.drop a) (k := i - a) (x := x) (by unfold endT at h2; omega) (drop_get h1 hx)
    rw [ht] at h3; cases h3
  · omega
theorem held_step (h1 : a ≤ i) (hx : rs[i]? = some x) : heldN true (rs.drop a) (i + 1 - a) = heldR (heldN true (rs.drop a) (i - a)) x := by
  rw [show i + 1 - a = (i - a) + 1 by omega, heldN_succ (drop_get h1 hx)]
theorem st_start (hx : rs[a]? = some 34) : St rs a (a + 1) := by
  have h0 : heldN true (rs.drop a) (a - a) = true := by simp [heldN]
  refine ⟨by omega, endT_more (Nat.le_refl _) (by unfold endT; omega) hx (by rw [h0]; decide), ?_⟩
  rw [held_step (Nat.le_refl _) hx, h0]; decide
theorem st_quote (h : St rs a i) (hx : rs[i]? = some 34) : endT rs a = i := endT_here h.1 h.2.1 hx (by rw [h.2.2]; decide)
theorem st_bad (h : St rs a i) (hx : rs[i]? = some x) (hb : badR x = true) : endT rs a = i := endT_here h.1 h.2.1 hx (by unfold textR; rw [hb]; rfl)
theorem st_next (h : St rs a i) (hx : rs[i]? = some x) (hb : badR x = false) (h34 : x ≠ 34) (h92 : x ≠ 92) : St rs a (i + 1) := by
  refine ⟨by have := h.1; omega, endT_more h.1 h.2.1 hx (by rw [h.2.2]; unfold textR; rw [hb]; simp [h34]), ?_⟩
  rw [held_step h.1 hx, h.2.2]; unfold heldR; simp [h92]
theorem st_esc (h : St rs a i) (hx : rs[i]? = some 92) : i + 1 ≤ endT rs a ∧ heldN true (rs.drop a) (i + 1 - a) = true := by
  refine ⟨endT_more h.1 h.2.1 hx (by rw [h.2.2]; decide), ?_⟩
  rw [held_step h.1 hx, h.2.2]; decide
theorem st_esc_end (h : St rs a i) (hx : rs[i]? = some 92) (hn : i + 1 = rs.length) : endT rs a = rs.length := by
  have h1 := (st_esc h hx).1
  have h2 := endT_le (rs := rs) (i := a) (by have := h.1; omega)
  omega
theorem st_esc_bad {y : Nat} (h : St rs a i) (hx : rs[i]? = some 92) (hy : rs[i + 1]? = some y) (hb : badR y = true) : endT rs a = i + 1 :=
  endT_here (by have := h.1; omega) (st_esc h hx).1 hy (by unfold textR; rw [hb]; rfl)
theorem st_esc_next {y : Nat} (h : St rs a i) (hx : rs[i]? = some 92) (hy : rs[i + 1]? = some y) (hb : badR y = false) : St rs a (i + 2) := by
  have h1 := st_esc h hx
  have ha := h.1
  refine ⟨by omega, endT_more (by omega) h1.1 hy (by rw [h1.2]; unfold textR; rw [hb]; simp), ?_⟩
  rw [show i + 2 - a = (i + 1) + 1 - a by omega, held_step (by omega) hy, h1.2]; unfold heldR; simp
end
theorem results_cell3 {P : Program} {fn : Func} {p t u v : Tmp} {ty : TypeId} (h : fn.results = #[.cell p ty, .tmp t, .tmp u, .tmp v]) (tmps : Array Value) (w : World) (g : Nat) (tt : TypeId) (cs : Array Value) (fr : Nat × Nat) (d : TypeDesc)
    (hp : tmps.getD p undef = .pointer (some ⟨g, 0, none⟩)) (hg : w.heap[g]? = some (.cells cs tt fr))
    (hu : P.underlying ty = some d) (hd : (match d with | .struct _ | .array _ _ => true | _ => false) = true) (hi : (P.info? ty).map (·.size) = some cs.size) :
    (results fn tmps).run P w = .ok (.tuple #[.agg cs, tmps.getD t undef, tmps.getD u undef, tmps.getD v undef]) w := by
  have hp' : tmps[p]?.getD undef = .pointer (some ⟨g, 0, none⟩) := by simpa using hp
  simp [results, h, hp', asAddr, run_loadVar_row w g tt ty cs fr d hg hu hd hi]
/-- what is told of a token by the document: it, and the place behind it; or a place and an error -/
def OneIs (w : World) (r : (Tk × Nat) ⊕ (Nat × Int)) (e : Ending) (w' : World) : Prop :=
  match r with
  | .inl (t, m) => e = .returned (.tuple #[tkV t, .int .i64 (m : Int), .int .i64 0, .int .i64 0]) ∧ Below w.heap.size w w'
  | .inr (a, er) => (∃ t, e = .returned (.tuple #[tkV t, .int .i64 0, .int .i64 (a : Int), .int .i64 er])) ∧ Below w.heap.size w w'
theorem bad_q {x : Nat} {q : Int} (h : classV x = q) : badR x = (q == 0) := by unfold badR; rw [h]
theorem below_tok (w : World) : Below w.heap.size w (w.alloc tok0) := (Below.refl _ w).alloc (Nat.le_refl _) _
theorem below_set4 {w w' : World} {a0 a1 a2 a3 : Value} (h : Below w.heap.size w w') : Below w.heap.size w ((((w'.setCell ⟨w.heap.size, 0, none⟩ a0).setCell ⟨w.heap.size, 1, none⟩ a1).setCell ⟨w.heap.size, 2, none⟩ a2).setCell ⟨w.heap.size, 3, none⟩ a3) :=
  (((h.setCell (p := ⟨w.heap.size, 0, none⟩) (Nat.le_refl _) _).setCell (p := ⟨w.heap.size, 1, none⟩) (Nat.le_refl _) _).setCell (p := ⟨w.heap.size, 2, none⟩) (Nat.le_refl _) _).setCell (p := ⟨w.heap.size, 3, none⟩) (Nat.le_refl _) _
/-- the world in which a token is told: the answer, and the token -/
def oneW (a : Nat) (w : World) : World := (w.alloc tok0).alloc (.cells #[.int .i64 0, .string ⟨#[]⟩, .int .i64 0, .int .i64 (a : Int)] 128)
section
variable (a : Nat) (w : World)
theorem oneW_below : Below w.heap.size w (oneW a w) := ((Below.refl _ w).alloc (Nat.le_refl _) _).alloc (by simp) _
theorem oneW_size : (oneW a w).heap.size = w.heap.size + 2 := by simp [oneW]
theorem oneW_0 : (oneW a w).heap[w.heap.size]? = some tok0 := by
  unfold oneW; rw [Below.heap_alloc _ _ _ (by simp)]; exact heap_alloc_new w tok0
theorem oneW_1 : (oneW a w).heap[w.heap.size + 1]? = some (.cells #[.int .i64 0, .string ⟨#[]⟩, .int .i64 0, .int .i64 (a : Int)] 128 (0, 0)) := by
  have h := heap_alloc_new (w.alloc tok0) (.cells #[.int .i64 0, .string ⟨#[]⟩, .int .i64 0, .int .i64 (a : Int)] 128)
  simpa [oneW] using h
end
theorem nextP_bad {rs : List Nat} {a x : Nat} (hx : rs[a]? = some x) (h : classV x = 0) : nextP rs a = .inr (a, 40) := by
  have hb : badR x = true := by unfold badR; rw [h]; rfl
  have h34 : x ≠ 34 := by intro e; subst e; revert hb; decide
  have hs : ¬ (x = 61 ∨ x = 58 ∨ x = 44 ∨ x = 45) := by rintro (e | e | e | e) <;> (subst e; revert hb; decide)
  unfold nextP
  rw [getD_of hx, h, if_neg (by decide), if_neg (by decide), if_neg h34, if_neg hs, if_pos rfl]
theorem set1_blk {v : World} {b : Nat} {x0 x1 x2 x3 a0 : Value} {t : TypeId} (h : v.heap[b]? = some (.cells #[x0, x1, x2, x3] t (0, 0))) : (v.setCell ⟨b, 0, none⟩ a0).heap[b]? = some (.cells #[a0, x1, x2, x3] t (0, 0)) := by simp [World.setCell, Array.getElem?_modify, h]
theorem set_blk1 {v : World} {b : Nat} {x0 x1 x2 x3 a0 : Value} {t : TypeId} (h : v.heap[b]? = some (.cells #[x0, x1, x2, x3] t (0, 0))) : (v.setCell ⟨b, 1, none⟩ a0).heap[b]? = some (.cells #[x0, a0, x2, x3] t (0, 0)) := by simp [World.setCell, Array.getElem?_modify, h]
theorem set_blk2 {v : World} {b : Nat} {x0 x1 x2 x3 a0 : Value} {t : TypeId} (h : v.heap[b]? = some (.cells #[x0, x1, x2, x3] t (0, 0))) : (v.setCell ⟨b, 2, none⟩ a0).heap[b]? = some (.cells #[x0, x1, a0, x3] t (0, 0)) := by simp [World.setCell, Array.getElem?_modify, h]
theorem OneIs.split {w : World} {r : (Tk × Nat) ⊕ (Nat × Int)} {e : Ending} {w' : World} (h : OneIs w r e w') :
    ∃ (t : Tk) (p1 p2 p3 : Int), e = .returned (.tuple #[tkV t, .int .i64 p1, .int .i64 p2, .int .i64 p3]) ∧ Below w.heap.size w w' ∧
      ∀ w0 w'' : World, Below w0.heap.size w0 w'' → OneIs w0 r (.returned (.tuple #[tkV t, .int .i64 p1, .int .i64 p2, .int .i64 p3])) w'' := by
  unfold OneIs at h
  rcases r with ⟨t, m⟩ | ⟨a, er⟩
  · obtain ⟨rfl, hb⟩ := h
    exact ⟨t, _, _, _, rfl, hb, fun w0 w'' hb2 => ⟨rfl, hb2⟩⟩
  · obtain ⟨⟨t, rfl⟩, hb⟩ := h
    exact ⟨t, _, _, _, rfl, hb, fun w0 w'' hb2 => ⟨⟨t, rfl⟩, hb2⟩⟩
theorem cut_one {rs : List Nat} {a x : Nat} (hx : rs[a]? = some x) : cutR rs a (a + 1) = [x] := by
  unfold cutR
  rw [show a + 1 - a = 1 by omega, List.drop_eq_getElem_cons (List.getElem?_eq_some_iff.1 hx).1]
  simp [(List.getElem?_eq_some_iff.1 hx).2]
theorem skip_blank {rs : List Nat} {k x : Nat} (hx : rs[k]? = some x) (hb : blankR x = true) : skipR rs k = skipR rs (k + 1) := by
  unfold skipR
  rw [List.drop_eq_getElem_cons (List.getElem?_eq_some_iff.1 hx).1, span_cons, (List.getElem?_eq_some_iff.1 hx).2, hb]
  simp; omega
theorem skip_here {rs : List Nat} {k x : Nat} (hx : rs[k]? = some x) (hb : blankR x = false) : skipR rs k = k := by
  unfold skipR
  rw [List.drop_eq_getElem_cons (List.getElem?_eq_some_iff.1 hx).1, span_cons, (List.getElem?_eq_some_iff.1 hx).2, hb]
  simp
theorem skip_end {rs : List Nat} : skipR rs rs.length = rs.length := by unfold skipR; simp [spanN]
theorem lexF_skip {f k k' : Nat} {rs : List Nat} {acc : List Tk} (h : skipR rs k = skipR rs k') : lexF f rs k acc = lexF f rs k' acc := by
  cases f with
  | zero => rfl
  | succ f => rw [lexF, lexF, h]
theorem blank_q {x : Nat} {q : Int} (h : classV x = q) : blankR x = (q == 1) := by
  unfold blankR hasC
  rw [h]
  cases h2 : (q == 1) <;> simp [List.contains, List.elem, h2]
theorem tokP_inl {s : ByteArray} {ts : List Tk} (h : s.size ≤ 400) (hl : lexP (runes (bl s)) = .inl ts) : tokP s = (ts, ((runes (bl s)).length : Int), 0) := by
  unfold tokP; rw [if_neg (by omega), hl]
theorem tokP_inr {s : ByteArray} {a : Nat} {er : Int} (h : s.size ≤ 400) (hl : lexP (runes (bl s)) = .inr (a, er)) : tokP s = ([], (a : Int), er) := by
  unfold tokP; rw [if_neg (by omega), hl]
/-- what holds ahead of each rune that is looked at -/
def TokInv (n c : Nat) (A : Option Addr) (rs : List Nat) (B2 : Nat) (w : World) (o i : Value) (wr : World) : Prop :=
  ∃ (k f : Nat) (acc : List Tk), i = .int .i64 (k : Int) ∧ k ≤ n ∧ n - k < f ∧ acc.length ≤ k ∧ Owns wr B2 128 4 o acc.length (recs tkC acc) ∧ Reads wr B2 1 A n (rcs rs) ∧ lexF f rs k acc = lexP rs ∧ Below w.heap.size w wr ∧ B2 ≤ wr.heap.size
end Go.Proofs.YtmkmmggimokagaaGreatDoor
