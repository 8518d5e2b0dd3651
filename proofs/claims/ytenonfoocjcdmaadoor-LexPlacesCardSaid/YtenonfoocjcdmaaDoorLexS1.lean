/- Layer 5: a token as it would be written; may it be? -/
import Derived.Test.YtenonfoocjcdmaaDoorLexW10
import Derived.Laws.StructEq
import Derived.Lib.AppendIntMem
import Derived.Lib.LaidTab
namespace Go.Proofs.YtenonfoocjcdmaaDoor
set_option linter.unusedVariables false
open Go.RowKit
def writtenP (t : Tk) : ByteArray := if t.kind = 2 then ⟨(Lib.itoa t.num).toArray⟩ else if t.kind = 4 then (if okL (bl t.text) then ⟨(quoteL (bl t.text)).toArray⟩ else ⟨#[]⟩) else t.text
def tkEq (x y : Tk) : Bool := (x.kind == y.kind) && (x.text.toList == y.text.toList) && (x.num == y.num) && (x.at_ == y.at_)
/-- may a token be? -/
def checkP (t : Tk) : Int := if (tokP (writtenP t)).2.2 = 0 then (match (tokP (writtenP t)).1 with | [x] => if tkEq x ⟨t.kind, t.text, t.num, 0⟩ then 0 else 50 | _ => 50) else 50
/-- a table of Go's library, and numbers that are numbers of the machine -/
def TkOk (w : World) (t : Tk) : Prop := t.text.size ≤ 1000000 ∧ (t.kind = 2 → Lib.TabIs Tryd.prog w "internal/strconv.uint64pow10" .u64 Lib.pow10Tab ∧ -9223372036854775808 ≤ t.num ∧ t.num ≤ 9223372036854775807)
theorem tab_below {w w' : World} (h : Lib.TabIs Tryd.prog w "internal/strconv.uint64pow10" .u64 Lib.pow10Tab) (hb : Below w.heap.size w w') : Lib.TabIs Tryd.prog w' "internal/strconv.uint64pow10" .u64 Lib.pow10Tab := by
  unfold Lib.TabIs World.var? at *
  cases hg : Tryd.prog.globalNamed "internal/strconv.uint64pow10" with
  | none => simp [hg] at h
  | some g =>
    simp only [hg, Option.bind_some] at h ⊢
    have hlt : g < w.heap.size := by
      rcases Nat.lt_or_ge g w.heap.size with h' | h'
      · exact h'
      · rw [Array.getElem?_eq_none h'] at h; simp at h
    rw [hb.block g hlt]
    exact h
theorem TkOk.below {w w' : World} {t : Tk} (h : TkOk w t) (hb : Below w.heap.size w w') : TkOk w' t := ⟨h.1, fun hk => ⟨tab_below (h.2 hk).1 hb, (h.2 hk).2⟩⟩
set_option maxRecDepth 100000 in
theorem tk_neq (x y : Tk) (v : World) : (binOp .neq 42 (.agg #[.int .i64 x.kind, .string x.text, .int .i64 x.num, .int .i64 x.at_]) (.agg #[.int .i64 y.kind, .string y.text, .int .i64 y.num, .int .i64 y.at_])).run Tryd.prog v = .ok (.bool (!tkEq x y)) v := by
  rw [run_neq_struct, run_equalIn_agg v _ _ _ _ (by kernel_rfl) (by kernel_rfl)]
  have e : (Tryd.prog.fieldsOf 42).toList = [{ name := "Kind", type := 3, offset := 0, embedded := false, tag := "", pkgPath := "", byteOffset := 0 }, { name := "Text", type := 9, offset := 1, embedded := false, tag := "", pkgPath := "", byteOffset := 8 }, { name := "Num", type := 3, offset := 2, embedded := false, tag := "", pkgPath := "", byteOffset := 24 }, { name := "At", type := 3, offset := 3, embedded := false, tag := "", pkgPath := "", byteOffset := 32 }] := by kernel_rfl
  rw [e]
  unfold tkEq
  simp [go_sem, Op.eqFields]
  repeat' split
  all_goals simp_all
/-- the box of a token -/
def boxW (t : Tk) (w : World) : World := w.alloc (.cells #[.int .i64 t.kind, .string t.text, .int .i64 t.num, .int .i64 t.at_] 42)
theorem boxW_below (t : Tk) (w : World) : Below w.heap.size w (boxW t w) := (Below.refl _ w).alloc (Nat.le_refl _) _
theorem written_any (t : Tk) (w : World) (h : TkOk w t) :
    Calls Tryd.prog 55 #[tkV t] w fun e w' => e = .returned (.string (writtenP t)) ∧ Below w.heap.size w w' := by
  obtain ⟨hs, hk⟩ := h
  have hB := Lib.hid (boxW_below t w)
  have hP : Hid (writtenP t = _) := rfl
  unfold writtenP at hP
  unfold tkV
  by_cases h2 : t.kind = 2
  · have t2 : (t.kind == 2) = true := by simpa using h2
    obtain ⟨hT, h0, h1⟩ := hk h2
    have hT2 := tab_below hT hB.out
    have hit := Lib.hid (Tryd.strconv_Itoa t.num h0 h1 (boxW t w) hT2)
    have hP2 : Hid (writtenP t = ⟨(Lib.itoa t.num).toArray⟩) := by show _ = _; unfold writtenP; rw [if_pos h2]
    clear hk h2 hT hT2 hP
    go_enter Tryd.func55, Tryd.ntmps55
    go_wp2_with (go_at_call 40; refine Calls.mono hit.out ?_; rintro e w1 ⟨rfl, k, os, hw1⟩; replace hw1 := Lib.hid hw1)
    go_ret
    refine ⟨by rw [hP2.out]; first | done | rfl, ?_⟩
    rw [hw1.out]
    exact hB.out.trans (Lib.below_grow _ _ (by simp [boxW]) _ _)
  · have t2 : (t.kind == 2) = false := by simpa using h2
    clear hk
    by_cases h4 : t.kind = 4
    · have t4 : (t.kind == 4) = true := by simpa using h4
      by_cases hok : okL (bl t.text) = true
      · have hq := Lib.hid (quote_ok t.text (boxW t w) (by omega) hok)
        have hP2 : Hid (writtenP t = ⟨(quoteL (bl t.text)).toArray⟩) := by show _ = _; unfold writtenP; rw [if_neg h2, if_pos h4, if_pos hok]
        clear h2 h4 hok hP
        go_enter Tryd.func55, Tryd.ntmps55
        go_wp2_with (go_at_call 80; refine Calls.mono hq.out ?_; rintro e w1 ⟨rfl, hb1⟩)
        go_ret
        exact ⟨by rw [hP2.out]; first | done | rfl, hB.out.trans (hb1.mono (by simp [boxW]))⟩
      · have hq := Lib.hid (quote_bad t.text (boxW t w) (by unfold maxLen; omega) (by simpa using hok))
        have hP2 : Hid (writtenP t = ⟨#[]⟩) := by show _ = _; unfold writtenP; rw [if_neg h2, if_pos h4, if_neg hok]
        clear h2 h4 hok hP
        go_enter Tryd.func55, Tryd.ntmps55
        go_wp2_with (go_at_call 80; refine Calls.mono hq.out ?_; rintro e w1 ⟨rfl, hb1⟩)
        go_ret
        exact ⟨by rw [hP2.out]; first | done | rfl, hB.out.trans (hb1.mono (by simp [boxW]))⟩
    · have t4 : (t.kind == 4) = false := by simpa using h4
      have hP2 : Hid (writtenP t = t.text) := by show _ = _; unfold writtenP; rw [if_neg h2, if_neg h4]
      clear h2 h4 hP
      go_enter Tryd.func55, Tryd.ntmps55
      go_wp2
      go_ret
      exact ⟨by rw [hP2.out]; first | done | rfl, hB.out⟩
theorem set3_blk {v : World} {b : Nat} {x0 x1 x2 x3 a0 : Value} {t : TypeId} (h : v.heap[b]? = some (.cells #[x0, x1, x2, x3] t (0, 0))) : (v.setCell ⟨b, 3, none⟩ a0).heap[b]? = some (.cells #[x0, x1, x2, a0] t (0, 0)) := by simp [World.setCell, Array.getElem?_modify, h]
set_option maxHeartbeats 1000000 in
theorem lexcheck_any (t : Tk) (w : World) (h : TkOk w t) :
    Calls Tryd.prog 28 #[tkV t] w fun e w' => e = .returned (.int .i64 (checkP t)) ∧ Below w.heap.size w w' := by
  have hB := Lib.hid (boxW_below t w)
  have hwr := Lib.hid (written_any t (boxW t w) (h.below hB.out))
  have htk := Lib.hid (fun v => tokens_any (writtenP t) v)
  have hbx := Lib.hid (heap_alloc_new w (.cells #[.int .i64 t.kind, .string t.text, .int .i64 t.num, .int .i64 t.at_] 42))
  have hP : Hid (checkP t = if (tokP (writtenP t)).2.2 = 0 then (match (tokP (writtenP t)).1 with | [x] => if tkEq x ⟨t.kind, t.text, t.num, 0⟩ then 0 else 50 | _ => 50) else 50) := rfl
  have hsz : (boxW t w).heap.size = w.heap.size + 1 := by simp [boxW]
  obtain ⟨s, hs⟩ : ∃ s, Hid (writtenP t = s) := ⟨_, rfl⟩
  rw [hs.out] at hwr htk hP
  obtain ⟨r, hr⟩ : ∃ r, Hid (tokP s = r) := ⟨_, rfl⟩
  rw [hr.out] at htk hP
  obtain ⟨ts, n, er⟩ := r
  dsimp only at hP
  have hneq := tk_neq
  unfold tkV at hwr ⊢
  clear h
  go_enter Tryd.func28, Tryd.ntmps28
  go_wp2_with (first
    | (go_at_call 55; refine Calls.mono hwr.out ?_; rintro e w1 ⟨rfl, hb1⟩; have hz1 := hb1.size)
    | (go_at_call 18; refine (htk.out _).mono ?_; rintro e w2 ⟨v, rfl, ho2, hb2⟩; have hz2 := hb2.size; have e2 := (hb2.block _ (by omega)).trans ((hb1.block _ (by omega)).trans hbx.out); have hB2 := Lib.hid (hB.out.trans ((hb1.trans (hb2.mono (by omega))).mono (by omega))); obtain ⟨f2, c20, c21, c22, c23⟩ := row4 e2; obtain ⟨A, c, rfl, hcap, hcm⟩ := ho2.slice; dsimp only at ho2; replace ho2 := Lib.hid ho2; replace e2 := Lib.hid e2; clear hb1 hb2; dsimp only))
  have hz12 : w.heap.size + 1 ≤ w1.heap.size := by omega
  have e3 := set3_blk (a0 := .int .i64 0) e2.out
  have ho3 := ho2.out.setBelow (p := ⟨w.heap.size, 3, none⟩) (by show w.heap.size < w1.heap.size; omega) (.int .i64 0)
  have hB3 := Lib.hid (hB2.out.setCell (p := ⟨w.heap.size, 3, none⟩) (Nat.le_refl _) (.int .i64 0))
  obtain ⟨w3, hw3⟩ : ∃ w3, Hid (w2.setCell ⟨w.heap.size, 3, none⟩ (.int .i64 0) = w3) := ⟨_, rfl⟩
  rw [hw3.out] at e3 ho3 hB3 ⊢
  obtain ⟨f3, c30, c31, c32, c33⟩ := row4 e3
  replace ho3 := Lib.hid ho3
  have hlt3 := lt_of_block e3
  clear c20 c21 c22 c23 f2 ho2 e2 e3 hB2 hz1 hz2 hsz
  by_cases her : er = 0
  case neg =>
    have te : (er != 0) = true := by simpa using her
    have hP2 : Hid (checkP t = 50) := by show _ = _; rw [hP.out, if_neg her]
    clear her hP
    go_quiet (fail)
    go_wp2
    go_ret
    exact ⟨by rw [hP2.out]; first | done | rfl, below_drewN hB3.out _⟩
  subst her
  rcases ts with _ | ⟨x, _ | ⟨y, l⟩⟩
  · have hP2 : Hid (checkP t = 50) := by show _ = _; rw [hP.out, if_pos rfl]
    clear hP
    go_quiet (fail)
    go_wp2
    go_ret
    exact ⟨by rw [hP2.out]; first | done | rfl, below_drewN hB3.out _⟩
  · obtain ⟨g, c', hv, hg, hgl, _, _, hcells, _⟩ := ho3.out.at_ (by simp)
    injection hv with hA _ _
    subst hA
    have x0 : w3.cell? ⟨g, 0, none⟩ = some (.int .i64 x.kind) := hcells 0 _ rfl
    have x1 : w3.cell? ⟨g, 1, none⟩ = some (.string x.text) := hcells 1 _ rfl
    have x2 : w3.cell? ⟨g, 2, none⟩ = some (.int .i64 x.num) := hcells 2 _ rfl
    have x3 : w3.cell? ⟨g, 3, none⟩ = some (.int .i64 x.at_) := hcells 3 _ rfl
    have hne := fun v => hneq x ⟨t.kind, t.text, t.num, 0⟩ v
    dsimp only at hne
    clear hcells hneq
    cases hq : tkEq x ⟨t.kind, t.text, t.num, 0⟩ with
    | true =>
      rw [hq] at hne
      have hP2 : Hid (checkP t = 0) := by show _ = _; rw [hP.out, if_pos rfl]; simp only [hq, if_true]
      clear hP hq
      go_quiet (fail)
      go_wp2
      go_ret
      exact ⟨by rw [hP2.out]; first | done | rfl, below_drewN hB3.out _⟩
    | false =>
      rw [hq] at hne
      have hP2 : Hid (checkP t = 50) := by show _ = _; rw [hP.out, if_pos rfl]; simp only [hq]; rfl
      clear hP hq
      go_quiet (fail)
      go_wp2
      go_ret
      exact ⟨by rw [hP2.out]; first | done | rfl, below_drewN hB3.out _⟩
  · have hP2 : Hid (checkP t = 50) := by show _ = _; rw [hP.out, if_pos rfl]
    have hl2 : ((((x :: y :: l).length : Nat) : Int) != 1) = true := by simp; omega
    obtain ⟨N, hN⟩ : ∃ N, Hid ((x :: y :: l).length = N) := ⟨_, rfl⟩
    rw [hN.out] at hl2 ⊢
    clear hP
    go_quiet (fail)
    go_wp2
    go_ret
    exact ⟨by rw [hP2.out]; first | done | rfl, below_drewN hB3.out _⟩
/-- a token as it is written, and an error -/
theorem lextext_any (t : Tk) (w : World) (h : TkOk w t) :
    Calls Tryd.prog 26 #[tkV t] w fun e w' => e = .returned (.tuple #[.string (if checkP t = 0 then writtenP t else ⟨#[]⟩), .int .i64 (checkP t)]) ∧ Below w.heap.size w w' := by
  have hB := Lib.hid (boxW_below t w)
  have hck := Lib.hid (lexcheck_any t (boxW t w) (h.below hB.out))
  have hwr := Lib.hid (fun v (hb : Below (boxW t w).heap.size (boxW t w) v) => written_any t v ((h.below hB.out).below hb))
  have hbx := Lib.hid (heap_alloc_new w (.cells #[.int .i64 t.kind, .string t.text, .int .i64 t.num, .int .i64 t.at_] 42))
  have hsz : (boxW t w).heap.size = w.heap.size + 1 := by simp [boxW]
  obtain ⟨q, hq⟩ : ∃ q, Hid (checkP t = q) := ⟨_, rfl⟩
  rw [hq.out] at hck ⊢
  unfold tkV at hwr hck ⊢
  clear h
  by_cases hq0 : q = 0
  · have tq : (q != 0) = false := by simpa using hq0
    rw [if_pos hq0]
    have hq1 := Lib.hid hq0
    clear hq0
    go_enter Tryd.func26, Tryd.ntmps26
    go_wp2_with (first
      | (go_at_call 28; refine Calls.mono hck.out ?_; rintro e w1 ⟨rfl, hb1⟩; have e1 := (hb1.block _ (by omega)).trans hbx.out; obtain ⟨f1, c10, c11, c12, c13⟩ := row4 e1; have hB1 := Lib.hid hb1; clear hb1)
      | (go_at_call 55; refine (hwr.out _ hB1.out).mono ?_; rintro e w2 ⟨rfl, hb2⟩))
    go_ret2
    refine ⟨?_, hB.out.trans ((bt hB1.out hb2).mono (by omega))⟩
    rw [hq1.out]; rfl
  · have tq : (q != 0) = true := by simpa using hq0
    rw [if_neg hq0]
    clear hq0
    go_enter Tryd.func26, Tryd.ntmps26
    go_wp2_with (go_at_call 28; refine Calls.mono hck.out ?_; rintro e w1 ⟨rfl, hb1⟩)
    go_ret2
    exact ⟨rfl, hB.out.trans (hb1.mono (by omega))⟩
end Go.Proofs.YtenonfoocjcdmaaDoor
