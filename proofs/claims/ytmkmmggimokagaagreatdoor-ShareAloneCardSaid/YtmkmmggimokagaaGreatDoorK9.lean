/- Layer 5: a token as it would be written; may it be? Layer 5: the statement LexTokens. Layer 5, plain: what stands ahead of a token, cut off there, has the tokens ahead of it. Layer 5: the statement LexPlaces. Layer 5, plain: lexing behind a place is lexing what stands there; rows of tokens joined by blanks. Layer 5, plain: a token's own text has this token alone; tokens written one behind the other. -/
import Derived.Test.YtmkmmggimokagaaGreatDoorK7
import Derived.Laws.StructEq
import Derived.Lib.AppendIntMem
import Derived.Lib.LaidTab
import Derived.Test.YtmkmmggimokagaaGreatDoorK8
import Derived.Lib.Join
namespace Go.Proofs.YtmkmmggimokagaaGreatDoor
set_option linter.unusedVariables false
open Go.RowKit
def writtenP (t : Tk) : ByteArray := if t.kind = 2 then ⟨(Lib.itoa t.num).toArray⟩ else if t.kind = 4 then (if okL (bl t.text) then ⟨(quoteL (bl t.text)).toArray⟩ else ⟨#[]⟩) else t.text
def tkEq (x y : Tk) : Bool := (x.kind == y.kind) && (x.text.toList == y.text.toList) && (x.num == y.num) && (x.at_ == y.at_)
/-- may a token be? -/
def checkP (t : Tk) : Int := if (tokP (writtenP t)).2.2 = 0 then (match (tokP (writtenP t)).1 with | [x] => if tkEq x ⟨t.kind, t.text, t.num, 0⟩ then 0 else 50 | _ => 50) else 50
/-- a table of Go's library, and numbers that are numbers of the machine -/
def TkOk (w : World) (t : Tk) : Prop := t.text.size ≤ 1000000 ∧ (t.kind = 2 → Lib.TabIs Tryz.prog w "internal/strconv.uint64pow10" .u64 Lib.pow10Tab ∧ -9223372036854775808 ≤ t.num ∧ t.num ≤ 9223372036854775807)
theorem tab_below {w w' : World} (h : Lib.TabIs Tryz.prog w "internal/strconv.uint64pow10" .u64 Lib.pow10Tab) (hb : Below w.heap.size w w') : Lib.TabIs Tryz.prog w' "internal/strconv.uint64pow10" .u64 Lib.pow10Tab := by
  unfold Lib.TabIs World.var? at *
  cases hg : Tryz.prog.globalNamed "internal/strconv.uint64pow10" with
  | none => simp [hg] at h
  | some g =>
    simp only [hg, Option.bind_some] at h ⊢
    have hlt : g < w.heap.size := by
      rcases Nat.lt_or_ge g w.heap.size with h' | h'
      · exact h'
      · rw [Array.getElem?_eq_none h'] at h; simp at h
    rw [hb.block g hlt]
    exact h
theorem TkOk.below {w w' : World} {t : Tk} (h : TkOk w t) (hb : Below w.heap.size w w') : TkOk w' t := ⟨h.1, fun hk => ⟨tab_below (h.2 hk).1 hb, (h.2 hk).2⟩⟩
set_option maxRecDepth 100000 in
theorem tk_neq (x y : Tk) (v : World) : (binOp .neq 128 (.agg #[.int .i64 x.kind, .string x.text, .int .i64 x.num, .int .i64 x.at_]) (.agg #[.int .i64 y.kind, .string y.text, .int .i64 y.num, .int .i64 y.at_])).run Tryz.prog v = .ok (.bool (!tkEq x y)) v := by
  rw [run_neq_struct, run_equalIn_agg v _ _ _ _ (by kernel_rfl) (by kernel_rfl)]
  have e : (Tryz.prog.fieldsOf 128).toList = [{ name := "Kind", type := 3, offset := 0, embedded := false, tag := "", pkgPath := "", byteOffset := 0 }, { name := "Text", type := 9, offset := 1, embedded := false, tag := "", pkgPath := "", byteOffset := 8 }, { name := "Num", type := 3, offset := 2, embedded := false, tag := "", pkgPath := "", byteOffset := 24 }, { name := "At", type := 3, offset := 3, embedded := false, tag := "", pkgPath := "", byteOffset := 32 }] := by kernel_rfl
  rw [e]
  unfold tkEq
  simp [go_sem, Op.eqFields]
  repeat' split
  all_goals simp_all
/-- the box of a token -/
def boxW (t : Tk) (w : World) : World := w.alloc (.cells #[.int .i64 t.kind, .string t.text, .int .i64 t.num, .int .i64 t.at_] 128)
theorem boxW_below (t : Tk) (w : World) : Below w.heap.size w (boxW t w) := (Below.refl _ w).alloc (Nat.le_refl _) _
theorem written_any (t : Tk) (w : World) (h : TkOk w t) :
    Calls Tryz.prog 105 #[tkV t] w fun e w' => e = .returned (.string (writtenP t)) ∧ Below w.heap.size w w' := by
  obtain ⟨hs, hk⟩ := h
  have hB := Lib.hid (boxW_below t w)
  have hP : Hid (writtenP t = _) := rfl
  unfold writtenP at hP
  unfold tkV
  by_cases h2 : t.kind = 2
  · have t2 : (t.kind == 2) = true := by simpa using h2
    obtain ⟨hT, h0, h1⟩ := hk h2
    have hT2 := tab_below hT hB.out
    have hit := Lib.hid (Tryz.strconv_Itoa t.num h0 h1 (boxW t w) hT2)
    have hP2 : Hid (writtenP t = ⟨(Lib.itoa t.num).toArray⟩) := by show _ = _; unfold writtenP; rw [if_pos h2]
    clear hk h2 hT hT2 hP
    go_enter Tryz.func105, Tryz.ntmps105
    go_wp2_with (go_at_call 113; refine Calls.mono hit.out ?_; rintro e w1 ⟨rfl, k, os, hw1⟩; replace hw1 := Lib.hid hw1)
    go_ret
    refine ⟨by rw [hP2.out]; first | done | rfl, ?_⟩
    rw [hw1.out]
    exact hB.out.trans (Lib.below_grow _ _ (by simp [boxW]) _ _)
  · have t2 : (t.kind == 2) = false := by simpa using h2
    clear hk
    by_cases h4 : t.kind = 4
    · have t4 : (t.kind == 4) = true := by simpa using h4
      by_cases hok : okL (bl t.text) = true
      · have hq := Lib.hid (quote_ok t.text (boxW t w) (by omega) hok)
        have hP2 : Hid (writtenP t = ⟨(quoteL (bl t.text)).toArray⟩) := by show _ = _; unfold writtenP; rw [if_neg h2, if_pos h4, if_pos hok]
        clear h2 h4 hok hP
        go_enter Tryz.func105, Tryz.ntmps105
        go_wp2_with (go_at_call 114; refine Calls.mono hq.out ?_; rintro e w1 ⟨rfl, hb1⟩)
        go_ret
        exact ⟨by rw [hP2.out]; first | done | rfl, hB.out.trans (hb1.mono (by simp [boxW]))⟩
      · have hq := Lib.hid (quote_bad t.text (boxW t w) (by unfold maxLen; omega) (by simpa using hok))
        have hP2 : Hid (writtenP t = ⟨#[]⟩) := by show _ = _; unfold writtenP; rw [if_neg h2, if_pos h4, if_neg hok]
        clear h2 h4 hok hP
        go_enter Tryz.func105, Tryz.ntmps105
        go_wp2_with (go_at_call 114; refine Calls.mono hq.out ?_; rintro e w1 ⟨rfl, hb1⟩)
        go_ret
        exact ⟨by rw [hP2.out]; first | done | rfl, hB.out.trans (hb1.mono (by simp [boxW]))⟩
    · have t4 : (t.kind == 4) = false := by simpa using h4
      have hP2 : Hid (writtenP t = t.text) := by show _ = _; unfold writtenP; rw [if_neg h2, if_neg h4]
      clear h2 h4 hP
      go_enter Tryz.func105, Tryz.ntmps105
      go_wp2
      go_ret
      exact ⟨by rw [hP2.out]; first | done | rfl, hB.out⟩
theorem set3_blk {v : World} {b : Nat} {x0 x1 x2 x3 a0 : Value} {t : TypeId} (h : v.heap[b]? = some (.cells #[x0, x1, x2, x3] t (0, 0))) : (v.setCell ⟨b, 3, none⟩ a0).heap[b]? = some (.cells #[x0, x1, x2, a0] t (0, 0)) := by simp [World.setCell, Array.getElem?_modify, h]
set_option maxHeartbeats 1000000 in
theorem lexcheck_any (t : Tk) (w : World) (h : TkOk w t) :
    Calls Tryz.prog 87 #[tkV t] w fun e w' => e = .returned (.int .i64 (checkP t)) ∧ Below w.heap.size w w' := by
  have hB := Lib.hid (boxW_below t w)
  have hwr := Lib.hid (written_any t (boxW t w) (h.below hB.out))
  have htk := Lib.hid (fun v => tokens_any (writtenP t) v)
  have hbx := Lib.hid (heap_alloc_new w (.cells #[.int .i64 t.kind, .string t.text, .int .i64 t.num, .int .i64 t.at_] 128))
  have hP : Hid (checkP t = if (tokP (writtenP t)).2.2 = 0 then (match (tokP (writtenP t)).1 with | [x] => if tkEq x ⟨t.kind, t.text, t.num, 0⟩ then 0 else 50 | _ => 50) else 50) := rfl
  have hsz : (boxW t w).heap.size = w.heap.size + 1 := by simp [boxW]
  obtain ⟨s, hs⟩ : ∃ s, Hid (writtenP t = s) := ⟨_, rfl⟩
  rw [hs.out] at hwr htk hP
  obtain ⟨r, hr⟩ : ∃ r, Hid (tokP s = r) := ⟨_, rfl⟩
  rw [hr.out] at htk hP
  obtain ⟨ts, n, er⟩ := r
  dsimp only at hP
  have hneq := tk_neq
  unfold tkV at hwr ⊢
  clear h
  go_enter Tryz.func87, Tryz.ntmps87
  go_wp2_with (first
    | (go_at_call 105; refine Calls.mono hwr.out ?_; rintro e w1 ⟨rfl, hb1⟩; have hz1 := hb1.size)
    | (go_at_call 104; refine (htk.out _).mono ?_; rintro e w2 ⟨v, rfl, ho2, hb2⟩; have hz2 := hb2.size; have e2 := (hb2.block _ (by omega)).trans ((hb1.block _ (by omega)).trans hbx.out); have hB2 := Lib.hid (hB.out.trans ((hb1.trans (hb2.mono (by omega))).mono (by omega))); obtain ⟨f2, c20, c21, c22, c23⟩ := row4 e2; obtain ⟨A, c, rfl, hcap, hcm⟩ := ho2.slice; dsimp only at ho2; replace ho2 := Lib.hid ho2; replace e2 := Lib.hid e2; clear hb1 hb2; dsimp only))
  have hz12 : w.heap.size + 1 ≤ w1.heap.size := by omega
  have e3 := set3_blk (a0 := .int .i64 0) e2.out
  have ho3 := ho2.out.setBelow (p := ⟨w.heap.size, 3, none⟩) (by show w.heap.size < w1.heap.size; omega) (.int .i64 0)
  have hB3 := Lib.hid (hB2.out.setCell (p := ⟨w.heap.size, 3, none⟩) (Nat.le_refl _) (.int .i64 0))
  obtain ⟨w3, hw3⟩ : ∃ w3, Hid (w2.setCell ⟨w.heap.size, 3, none⟩ (.int .i64 0) = w3) := ⟨_, rfl⟩
  rw [hw3.out] at e3 ho3 hB3 ⊢
  obtain ⟨f3, c30, c31, c32, c33⟩ := row4 e3
  replace ho3 := Lib.hid ho3
  have hlt3 := lt_of_block e3
  clear c20 c21 c22 c23 f2 ho2 e2 e3 hB2 hz1 hz2 hsz
  by_cases her : er = 0
  case neg =>
    have te : (er != 0) = true := by simpa using her
    have hP2 : Hid (checkP t = 50) := by show _ = _; rw [hP.out, if_neg her]
    clear her hP
    go_quiet (fail)
    go_wp2
    go_ret
    exact ⟨by rw [hP2.out]; first | done | rfl, below_drewN hB3.out _⟩
  subst her
  rcases ts with _ | ⟨x, _ | ⟨y, l⟩⟩
  · have hP2 : Hid (checkP t = 50) := by show _ = _; rw [hP.out, if_pos rfl]
    clear hP
    go_quiet (fail)
    go_wp2
    go_ret
    exact ⟨by rw [hP2.out]; first | done | rfl, below_drewN hB3.out _⟩
  · obtain ⟨g, c', hv, hg, hgl, _, _, hcells, _⟩ := ho3.out.at_ (by simp)
    injection hv with hA _ _
    subst hA
    have x0 : w3.cell? ⟨g, 0, none⟩ = some (.int .i64 x.kind) := hcells 0 _ rfl
    have x1 : w3.cell? ⟨g, 1, none⟩ = some (.string x.text) := hcells 1 _ rfl
    have x2 : w3.cell? ⟨g, 2, none⟩ = some (.int .i64 x.num) := hcells 2 _ rfl
    have x3 : w3.cell? ⟨g, 3, none⟩ = some (.int .i64 x.at_) := hcells 3 _ rfl
    have hne := fun v => hneq x ⟨t.kind, t.text, t.num, 0⟩ v
    dsimp only at hne
    clear hcells hneq
    cases hq : tkEq x ⟨t.kind, t.text, t.num, 0⟩ with
    | true =>
      rw [hq] at hne
      have hP2 : Hid (checkP t = 0) := by show _ = _; rw [hP.out, if_pos rfl]; simp only [hq, if_true]
      clear hP hq
      go_quiet (fail)
      go_wp2
      go_ret
      exact ⟨by rw [hP2.out]; first | done | rfl, below_drewN hB3.out _⟩
    | false =>
      rw [hq] at hne
      have hP2 : Hid (checkP t = 50) := by show _ = _; rw [hP.out, if_pos rfl]; simp only [hq]; rfl
      clear hP hq
      go_quiet (fail)
      go_wp2
      go_ret
      exact ⟨by rw [hP2.out]; first | done | rfl, below_drewN hB3.out _⟩
  · have hP2 : Hid (checkP t = 50) := by show _ = _; rw [hP.out, if_pos rfl]
    have hl2 : ((((x :: y :: l).length : Nat) : Int) != 1) = true := by simp; omega
    obtain ⟨N, hN⟩ : ∃ N, Hid ((x :: y :: l).length = N) := ⟨_, rfl⟩
    rw [hN.out] at hl2 ⊢
    clear hP
    go_quiet (fail)
    go_wp2
    go_ret
    exact ⟨by rw [hP2.out]; first | done | rfl, below_drewN hB3.out _⟩
/-- a token without its place -/
def bare (t : Tk) : Tk := ⟨t.kind, t.text, t.num, 0⟩
theorem Reads.tk_at {w : World} {B n k : Nat} {A : Option Addr} {l : List Tk} (h : Reads w B 4 A n (recs tkC l)) (hk : k < n) :
    ∃ b o u, A = some ⟨b, o, none⟩ ∧ b < B ∧ Hid (l[k]? = some u) ∧ w.cell? ⟨b, o + k * 4, none⟩ = some (.int .i64 u.kind) ∧ w.cell? ⟨b, o + k * 4 + 1, none⟩ = some (.string u.text) ∧ w.cell? ⟨b, o + k * 4 + 2, none⟩ = some (.int .i64 u.num) ∧ w.cell? ⟨b, o + k * 4 + 3, none⟩ = some (.int .i64 u.at_) := by
  obtain ⟨b, o, u, e, hb, hx, hc⟩ := h.rec_at tkC_len (by omega) hk
  exact ⟨b, o, u, e, hb, hx, hc 0 _ rfl, hc 1 _ rfl, hc 2 _ rfl, hc 3 _ rfl⟩
def aw1 : ByteArray := ⟨#[83, 117, 98, 109, 105, 116, 32, 97, 50, 32, 110, 111, 100, 101, 115, 61, 52, 32, 49, 104, 32, 34, 120, 32, 121, 34]⟩
def aw2 : ByteArray := ⟨#[97, 32, 48, 48, 55]⟩
def awT : List Tk := [⟨1, ⟨#[115, 117, 98, 109, 105, 116]⟩, 0, 0⟩, ⟨1, ⟨#[97, 50]⟩, 0, 7⟩, ⟨1, ⟨#[110, 111, 100, 101, 115]⟩, 0, 10⟩, ⟨5, ⟨#[61]⟩, 0, 15⟩, ⟨2, ⟨#[]⟩, 4, 16⟩, ⟨3, ⟨#[49, 104]⟩, 0, 18⟩, ⟨4, ⟨#[120, 32, 121]⟩, 0, 21⟩]
theorem aw1_is : tokP aw1 = (awT, 26, 0) := by kernel_rfl
theorem aw2_is : tokP aw2 = ([], 2, 50) := by kernel_rfl
def awK : Tk := ⟨4, ⟨#[97, 34, 98]⟩, 0, 0⟩
theorem awK_is : checkP awK = 0 ∧ writtenP awK = ⟨#[34, 97, 92, 34, 98, 34]⟩ := ⟨by kernel_rfl, by kernel_rfl⟩
theorem aw0_is : checkP ⟨0, ⟨#[]⟩, 0, 0⟩ = 50 := by kernel_rfl
theorem span_take {p : Nat → Bool} : ∀ {l : List Nat} {q : Nat}, spanN p l ≤ q → spanN p (l.take q) = spanN p l
  | [], q, _ => by simp
  | x :: t, 0, h => by
    rw [span_cons] at h ⊢
    split at h
    · omega
    · rename_i hx; simp [spanN, hx]
  | x :: t, q + 1, h => by
    rw [List.take_succ_cons, span_cons, span_cons]
    rw [span_cons] at h
    split
    · rename_i hx
      rw [if_pos hx] at h
      rw [span_take (by omega)]
    · rfl
theorem scan_take : ∀ {l : List Nat} {q : Nat} {h : Bool}, scan h l < q → scan h (l.take q) = scan h l
  | [], q, h, _ => by simp
  | x :: t, 0, h, hq => by omega
  | x :: t, q + 1, h, hq => by
    rw [List.take_succ_cons]
    unfold scan at hq ⊢
    split
    · rename_i hx
      rw [if_pos hx] at hq
      rw [scan_take (by omega)]
    · rfl
theorem drop_take_ (rs : List Nat) (i p : Nat) : (rs.take p).drop i = (rs.drop i).take (p - i) := by rw [List.drop_take]
section
variable {rs : List Nat} {i p : Nat}
theorem endW_take (h : endW rs i ≤ p) : endW (rs.take p) i = endW rs i := by
  unfold endW at h ⊢; rw [drop_take_, span_take (by omega)]
theorem endD_take (h : endD rs i ≤ p) : endD (rs.take p) i = endD rs i := by
  unfold endD at h ⊢; rw [drop_take_, span_take (by omega)]
theorem skip_take (h : skipR rs i ≤ p) : skipR (rs.take p) i = skipR rs i := by
  unfold skipR at h ⊢; rw [drop_take_, span_take (by omega)]
theorem endT_take (h : endT rs i < p) : endT (rs.take p) i = endT rs i := by
  unfold endT at h ⊢; rw [drop_take_, scan_take (by omega)]
theorem cut_take {m : Nat} (h : m ≤ p) : cutR (rs.take p) i m = cutR rs i m := by
  unfold cutR; rw [drop_take_, List.take_take, Nat.min_eq_left (by omega)]
theorem getD_take_ (h : i < p) : (rs.take p).getD i 0 = rs.getD i 0 := by simp [List.getD, h]
end
theorem nextP_take {rs : List Nat} {i m p : Nat} {t : Tk} (hi : i < rs.length) (h : nextP rs i = .inl (t, m)) (hp : m ≤ p) : nextP (rs.take p) i = .inl (t, m) := by
  have haft := nextP_after hi h
  rw [← h]
  unfold nextP at h ⊢
  rw [getD_take_ (by omega)]
  split at h
  · rename_i hc
    injection h with h; injection h with _ h
    rw [if_pos hc, if_pos hc, endW_take (by omega), cut_take (by omega)]
  rename_i hc
  rw [if_neg hc, if_neg hc]
  split at h
  · rename_i hc3
    rw [if_pos hc3, if_pos hc3]
    unfold countP at h ⊢
    have hm : endD rs i = m := by
      split at h
      · split at h
        · injection h with h; injection h
        · cases h
      · injection h with h; injection h
    rw [endD_take (by omega), cut_take (by omega)]
  rename_i hc3
  rw [if_neg hc3, if_neg hc3]
  split at h
  · rename_i h34
    rw [if_pos h34, if_pos h34]
    unfold textP at h ⊢
    have hm : endT rs i + 1 = m ∧ endT rs i ≠ rs.length := by
      split at h
      · cases h
      rename_i hne
      split at h
      · cases h
      split at h
      · injection h with h; injection h with _ h; exact ⟨h, hne⟩
      · cases h
    have hle := endT_le (rs := rs) (i := i) (by omega)
    rw [endT_take (by omega), cut_take (by omega), getD_take_ (by omega), if_neg (by simp; omega), if_neg hm.2]
  rename_i h34
  rw [if_neg h34, if_neg h34]
theorem lexF_places : ∀ (f : Nat) (rs : List Nat) (i : Nat) (acc r : List Tk), i ≤ rs.length → lexF f rs i acc = .inl r →
    ∃ ts, r = acc ++ ts ∧ ∀ k t, ts[k]? = some t → ∃ a : Nat, t.at_ = (a : Int) ∧ i ≤ a ∧ a < rs.length ∧
      (∀ f', a - i < f' → lexF f' (rs.take a) i acc = .inl (acc ++ ts.take k)) ∧ ∀ t', ts[k + 1]? = some t' → t.at_ < t'.at_ := by
  intro f
  induction f with
  | zero =>
    intro rs i acc r hi h
    rw [lexF] at h
    injection h with h
    exact ⟨[], by rw [h]; simp, fun k t ht => by simp at ht⟩
  | succ f ih =>
    intro rs i acc r hi h
    by_cases hend : skipR rs i = rs.length
    · rw [lexF_end hend] at h
      injection h with h
      exact ⟨[], by rw [h]; simp, fun k t ht => by simp at ht⟩
    have hsk := skip_le (rs := rs) hi
    cases hn : nextP rs (skipR rs i) with
    | inr e => rw [lexF_bad hend hn] at h; cases h
    | inl e =>
      obtain ⟨t0, m⟩ := e
      rw [lexF_step hend hn] at h
      have haft := nextP_after (by omega) hn
      have hat := nextP_at hn
      obtain ⟨ts, hts, hall⟩ := ih rs m (acc ++ [t0]) r haft.2 h
      refine ⟨t0 :: ts, by rw [hts]; simp, fun k t ht => ?_⟩
      cases k with
      | zero =>
        simp at ht
        subst ht
        refine ⟨skipR rs i, hat, hsk.1, by omega, fun f' _ => ?_, fun t' ht' => ?_⟩
        · rw [lexF_end (by rw [skip_take (Nat.le_refl _)]; simp; omega)]; simp
        · obtain ⟨a, ha, hma, _⟩ := hall 0 t' (by simpa using ht')
          rw [hat, ha]; omega
      | succ k =>
        obtain ⟨a, ha, hma, hal, hlex, hnx⟩ := hall k t (by simpa using ht)
        refine ⟨a, ha, by omega, hal, fun f' hf' => ?_, fun t' ht' => hnx t' (by simpa using ht')⟩
        obtain ⟨f'', rfl⟩ : ∃ f'', f' = f'' + 1 := ⟨f' - 1, by omega⟩
        have e1 : skipR (rs.take a) i = skipR rs i := skip_take (by omega)
        rw [lexF_step (by rw [e1]; simp; omega) (by rw [e1]; exact nextP_take (by omega) hn hma), hlex f'' (by omega)]
        simp
/-- the tokens' places; what is ahead of one -/
theorem lexP_places {rs : List Nat} {ts : List Tk} (h : lexP rs = .inl ts) : ∀ k t, ts[k]? = some t → ∃ a : Nat, t.at_ = (a : Int) ∧ a < rs.length ∧ lexP (rs.take a) = .inl (ts.take k) ∧ ∀ t', ts[k + 1]? = some t' → t.at_ < t'.at_ := by
  intro k t ht
  obtain ⟨ts', e, hall⟩ := lexF_places _ rs 0 [] ts (Nat.zero_le _) h
  simp at e
  subst e
  obtain ⟨a, ha, _, hal, hlex, hnx⟩ := hall k t ht
  refine ⟨a, ha, hal, ?_, hnx⟩
  unfold lexP
  rw [hlex _ (by simp; omega)]; simp
theorem Reads.tk_pre {w : World} {B n : Nat} {A : Option Addr} {l : List Tk} (h : Reads w B 4 A n (recs tkC l)) {k : Nat} (hk : k ≤ n) : Reads w B 4 A k (recs tkC (l.take k)) := by
  refine ⟨?_, fun h0 => ?_⟩
  · rw [recs_take tkC_len, List.length_take, h.1]; omega
  · obtain ⟨ad, e, hb, hc⟩ := h.2 (by omega)
    refine ⟨ad, e, hb, fun j u hu => hc j u ?_⟩
    rw [recs_take tkC_len, List.getElem?_take] at hu
    split at hu
    · exact hu
    · cases hu
theorem tokP_cases (s : ByteArray) : (∃ ts, s.size ≤ 400 ∧ lexP (runes (bl s)) = .inl ts ∧ tokP s = (ts, ((runes (bl s)).length : Int), 0)) ∨ (∃ (a er : Int), er ≠ 0 ∧ tokP s = ([], a, er)) := by
  rcases Nat.lt_or_ge 400 s.size with h | h
  · exact .inr ⟨0, 3, by decide, by unfold tokP; rw [if_pos h]⟩
  · cases hl : lexP (runes (bl s)) with
    | inl ts => exact .inl ⟨ts, h, rfl, tokP_inl h hl⟩
    | inr e =>
      obtain ⟨a, er⟩ := e
      refine .inr ⟨a, er, ?_, tokP_inr h hl⟩
      have key : ∀ (f i : Nat) (acc : List Tk), lexF f (runes (bl s)) i acc = .inr (a, er) → er ≠ 0 := by
        intro f
        induction f with
        | zero => intro i acc h; rw [lexF] at h; cases h
        | succ f ih =>
          intro i acc h
          rw [lexF] at h
          split at h
          · cases h
          · split at h
            · exact ih _ _ h
            · rename_i hn
              injection h with h
              rw [h] at hn
              exact nextP_err hn
      exact key _ _ _ hl
/-- of a line's tokens: a token, what is ahead of it, and the one ahead of it -/
theorem places_of {s : ByteArray} {ts : List Tk} (hs : s.size ≤ 400) (h : lexP (runes (bl s)) = .inl ts) {k : Nat} {t : Tk} (ht : ts[k]? = some t) :
    ∃ a : Nat, t.at_ = (a : Int) ∧ a < (runes (bl s)).length ∧ tokP (cutA s a) = (ts.take k, (a : Int), 0) ∧ (∀ t', ts[k + 1]? = some t' → t.at_ < t'.at_) := by
  obtain ⟨a, ha, hal, hlex, hnx⟩ := lexP_places h k t ht
  refine ⟨a, ha, hal, ?_, hnx⟩
  have hpf := pos_facts a (bl s) (by omega)
  have hb : runes (bl (cutA s a)) = (runes (bl s)).take a := by rw [bl_cutA]; exact hpf.2.1
  have hsz : (cutA s a).size ≤ 400 := by
    rw [← bl_len, bl_cutA, List.length_take]
    have := bl_len s
    omega
  rw [tokP_inl hsz (by rw [hb]; exact hlex), hb, List.length_take, Nat.min_eq_left (by omega)]
/-- a token without its place -/
def nop (t : Tk) : Tk := ⟨t.kind, t.text, t.num, 0⟩
def mvR (a : Nat) : (Tk × Nat) ⊕ (Nat × Int) → (Tk × Nat) ⊕ (Nat × Int)
  | .inl (t, m) => .inl (⟨t.kind, t.text, t.num, t.at_ + a⟩, a + m)
  | .inr (b, e) => .inr (a + b, e)
section
variable {rs : List Nat} {i : Nat}
theorem skip_shift : skipR rs i = i + skipR (rs.drop i) 0 := by unfold skipR; simp
theorem endW_shift : endW rs i = i + endW (rs.drop i) 0 := by unfold endW; simp
theorem endD_shift : endD rs i = i + endD (rs.drop i) 0 := by unfold endD; simp
theorem endT_shift : endT rs i = i + endT (rs.drop i) 0 := by unfold endT; simp
theorem cut_shift (m : Nat) : cutR rs i (i + m) = cutR (rs.drop i) 0 m := by
  unfold cutR; rw [show i + m - i = m by omega]; simp
theorem getD_shift (k : Nat) : rs.getD (i + k) 0 = (rs.drop i).getD k 0 := by simp [List.getD]
theorem nextP_shift (hi : i < rs.length) : nextP rs i = mvR i (nextP (rs.drop i) 0) := by
  have g0 : rs.getD i 0 = (rs.drop i).getD 0 0 := getD_shift (i := i) 0
  unfold nextP
  rw [g0]
  split
  · rw [endW_shift, cut_shift]; simp [mvR]
  split
  · unfold countP
    rw [endD_shift, cut_shift]
    split
    · split <;> simp [mvR]
    · simp [mvR]
  split
  · unfold textP
    have hl : (i + endT (rs.drop i) 0 = rs.length) ↔ (endT (rs.drop i) 0 = (rs.drop i).length) := by simp; omega
    rw [endT_shift, getD_shift, Nat.add_assoc, cut_shift]
    split
    · rename_i h; rw [if_pos (hl.1 h)]; simp [mvR]
    · rename_i h; rw [if_neg (fun x => h (hl.2 x))]
      split
      · simp [mvR]
      · split <;> simp [mvR]
  split
  · simp [mvR]
  split <;> simp [mvR]
end
/-- the tokens of a row of runes, without their places -/
def Lx : List Nat → List Tk → Prop
  | rs, [] => skipR rs 0 = rs.length
  | rs, t :: ts => skipR rs 0 ≠ rs.length ∧ ∃ m, nextP (rs.drop (skipR rs 0)) 0 = .inl (t, m) ∧ Lx (rs.drop (skipR rs 0 + m)) ts
theorem nop_of {t : Tk} (h : t.at_ = 0) : nop t = t := by cases t; simp only at h; subst h; rfl
theorem lexF_Lx : ∀ (f : Nat) (rs : List Nat) (i : Nat) (acc r : List Tk), i ≤ rs.length → rs.length - i < f → lexF f rs i acc = .inl r → ∃ ts, r = acc ++ ts ∧ Lx (rs.drop i) (ts.map nop) := by
  intro f
  induction f with
  | zero => intro rs i acc r hi hf; omega
  | succ f ih =>
    intro rs i acc r hi hf h
    by_cases hend : skipR rs i = rs.length
    · rw [lexF_end hend] at h
      injection h with h
      refine ⟨[], by rw [h]; simp, ?_⟩
      rw [skip_shift] at hend
      show skipR _ 0 = _
      simp; omega
    have hsk := skip_le (rs := rs) hi
    have hss := skip_shift (rs := rs) (i := i)
    cases hn : nextP rs (skipR rs i) with
    | inr e => rw [lexF_bad hend hn] at h; cases h
    | inl e =>
      obtain ⟨t0, m⟩ := e
      rw [lexF_step hend hn] at h
      have haft := nextP_after (by omega) hn
      obtain ⟨ts, hts, hlx⟩ := ih rs m (acc ++ [t0]) r haft.2 (by omega) h
      refine ⟨t0 :: ts, by rw [hts]; simp, ?_⟩
      rw [nextP_shift (by omega)] at hn
      have hd : (rs.drop i).drop (skipR (rs.drop i) 0) = rs.drop (skipR rs i) := by rw [List.drop_drop, ← hss]
      cases hq : nextP (rs.drop (skipR rs i)) 0 with
      | inr e => rw [hq] at hn; cases e; cases hn
      | inl e =>
        obtain ⟨t1, m1⟩ := e
        rw [hq] at hn
        injection hn with hn
        injection hn with h1 h2
        have ha := nextP_at hq
        refine ⟨by simp; omega, m1, ?_, ?_⟩
        · rw [hd, hq]
          congr 2
          rw [← nop_of (t := t1) (by rw [ha]; rfl), ← h1]; rfl
        · have e : (rs.drop i).drop (skipR (rs.drop i) 0 + m1) = rs.drop m := by rw [List.drop_drop]; congr 1; omega
          rw [e]; exact hlx
theorem Lx_lexF : ∀ (ts : List Tk) (rs : List Nat) (i : Nat) (acc : List Tk) (f : Nat), i ≤ rs.length → rs.length - i < f → Lx (rs.drop i) ts → ∃ us, lexF f rs i acc = .inl (acc ++ us) ∧ us.map nop = ts := by
  intro ts
  induction ts with
  | nil =>
    intro rs i acc f hi hf h
    have h' : skipR (rs.drop i) 0 = (rs.drop i).length := h
    refine ⟨[], ?_, rfl⟩
    rw [lexF_end (by rw [skip_shift, h']; simp; omega)]; simp
  | cons t ts ih =>
    intro rs i acc f hi hf h
    obtain ⟨h1, m, h2, h3⟩ := h
    have hss := skip_shift (rs := rs) (i := i)
    have hsk := skip_le (rs := rs) hi
    have hend : skipR rs i ≠ rs.length := fun e => h1 (by simp; omega)
    rw [List.drop_drop, ← hss] at h2
    have hn : nextP rs (skipR rs i) = .inl (⟨t.kind, t.text, t.num, t.at_ + skipR rs i⟩, skipR rs i + m) := by
      rw [nextP_shift (by omega), h2]; rfl
    have haft := nextP_after (by omega) hn
    obtain ⟨f', rfl⟩ : ∃ f', f = f' + 1 := ⟨f - 1, by omega⟩
    have e : (rs.drop i).drop (skipR (rs.drop i) 0 + m) = rs.drop (skipR rs i + m) := by rw [List.drop_drop]; congr 1; omega
    rw [e] at h3
    obtain ⟨us, hu, hb⟩ := ih rs (skipR rs i + m) (acc ++ [⟨t.kind, t.text, t.num, t.at_ + skipR rs i⟩]) f' haft.2 (by omega) h3
    refine ⟨⟨t.kind, t.text, t.num, t.at_ + skipR rs i⟩ :: us, ?_, ?_⟩
    · rw [lexF_step hend hn, hu]; simp
    · rw [List.map_cons, hb]
      congr 1
      exact nop_of (nextP_at h2)
theorem lexP_Lx {rs : List Nat} {ts : List Tk} (h : lexP rs = .inl ts) : Lx rs (ts.map nop) := by
  obtain ⟨us, e, hx⟩ := lexF_Lx _ rs 0 [] ts (Nat.zero_le _) (by omega) h
  simp at e; subst e; simpa using hx
theorem Lx_lexP {rs : List Nat} {ts : List Tk} (h : Lx rs ts) : ∃ us, lexP rs = .inl us ∧ us.map nop = ts := by
  obtain ⟨us, e, hx⟩ := Lx_lexF ts rs 0 [] (rs.length + 1) (Nat.zero_le _) (by omega) (by simpa using h)
  exact ⟨us, by unfold lexP; rw [e]; simp, hx⟩
theorem span_app {p : Nat → Bool} {c : Nat} (hc : p c = false) : ∀ (a b : List Nat), spanN p (a ++ c :: b) = spanN p a
  | [], b => by rw [List.nil_append, span_cons, hc]; rfl
  | x :: t, b => by rw [List.cons_append, span_cons, span_cons, span_app hc t b]
theorem span_app_lt {p : Nat → Bool} : ∀ {a : List Nat} (b : List Nat), spanN p a < a.length → spanN p (a ++ b) = spanN p a
  | [], b, h => by simp [spanN] at h
  | x :: t, b, h => by
    rw [span_cons] at h
    rw [List.cons_append, span_cons, span_cons]
    split
    · rename_i hx
      rw [if_pos hx] at h
      rw [span_app_lt b (by simpa using h)]
    · rfl
theorem span_app_all {p : Nat → Bool} : ∀ {a : List Nat} (b : List Nat), spanN p a = a.length → spanN p (a ++ b) = a.length + spanN p b
  | [], b, h => by simp
  | x :: t, b, h => by
    rw [span_cons] at h
    split at h
    · rename_i hx
      rw [List.cons_append, span_cons, if_pos hx, span_app_all b (by simpa using h)]; simp; omega
    · simp at h
theorem scan_app : ∀ {a : List Nat} {h : Bool} (b : List Nat), scan h a < a.length → scan h (a ++ b) = scan h a
  | [], h, b, hl => by simp [scan] at hl
  | x :: t, h, b, hl => by
    rw [List.cons_append]
    unfold scan at hl ⊢
    split
    · rename_i hx
      rw [if_pos hx] at hl
      rw [scan_app b (by simpa using hl)]
    · rfl
theorem next_app {q : List Nat} {t : Tk} {m : Nat} (b : List Nat) (hq : q ≠ []) (h : nextP q 0 = .inl (t, m)) : nextP (q ++ 32 :: b) 0 = .inl (t, m) := by
  have hl : 0 < q.length := List.length_pos_iff.2 hq
  have haft := nextP_after hl h
  have g0 : (q ++ 32 :: b).getD 0 0 = q.getD 0 0 := by simp [List.getD, List.getElem?_append_left hl]
  have hcut : ∀ k, k ≤ q.length → cutR (q ++ 32 :: b) 0 k = cutR q 0 k := by
    intro k hk
    unfold cutR
    simp only [List.drop_zero, Nat.sub_zero]
    rw [List.take_append_of_le_length hk]
  have eW : endW (q ++ 32 :: b) 0 = endW q 0 := by unfold endW; simp only [List.drop_zero]; rw [span_app (by decide)]
  have eD : endD (q ++ 32 :: b) 0 = endD q 0 := by unfold endD; simp only [List.drop_zero]; rw [span_app (by decide)]
  have lW : endW q 0 ≤ q.length := by unfold endW; have := span_le wordR q; simpa using this
  have lD : endD q 0 ≤ q.length := by unfold endD; have := span_le smallR q; simpa using this
  rw [← h]
  unfold nextP at h ⊢
  rw [g0, eW, hcut _ lW]
  split at h
  · rename_i hc; rw [if_pos hc, if_pos hc]
  rename_i hc
  rw [if_neg hc, if_neg hc]
  split at h
  · rename_i hc3
    rw [if_pos hc3, if_pos hc3]
    unfold countP
    rw [eD, hcut _ lD]
  rename_i hc3
  rw [if_neg hc3, if_neg hc3]
  split at h
  · rename_i h34
    rw [if_pos h34, if_pos h34]
    unfold textP at h ⊢
    have lT := endT_le (rs := q) (i := 0) (by omega)
    have hne : endT q 0 ≠ q.length := by
      intro e
      rw [if_pos e] at h; cases h
    have eT : endT (q ++ 32 :: b) 0 = endT q 0 := by
      unfold endT at hne lT ⊢
      simp only [List.drop_zero] at hne lT ⊢
      rw [scan_app _ (by omega)]
    have gT : (q ++ 32 :: b).getD (endT q 0) 0 = q.getD (endT q 0) 0 := by simp [List.getD, List.getElem?_append_left (show endT q 0 < q.length by omega)]
    rw [eT, gT, hcut _ (by omega), if_neg hne, if_neg (by simp; omega)]
  rename_i h34
  rw [if_neg h34, if_neg h34]
theorem Lx_app : ∀ {ts : List Tk} {q b : List Nat} {us : List Tk}, Lx q ts → Lx b us → Lx (q ++ 32 :: b) (ts ++ us) := by
  intro ts
  induction ts with
  | nil =>
    intro q b us h1 h2
    have h1' : skipR q 0 = q.length := h1
    have hs : skipR (q ++ 32 :: b) 0 = q.length + (1 + skipR b 0) := by
      unfold skipR at h1' ⊢
      simp only [Nat.zero_add, List.drop_zero] at h1' ⊢
      rw [span_app_all _ h1', span_cons, if_pos (by decide)]; omega
    rw [List.nil_append]
    cases us with
    | nil =>
      have h2' : skipR b 0 = b.length := h2
      show skipR _ 0 = _
      rw [hs, h2']; simp; omega
    | cons u us =>
      obtain ⟨h3, m, h4, h5⟩ := h2
      have hd : ∀ k, (q ++ 32 :: b).drop (q.length + (1 + k)) = b.drop k := by
        intro k
        rw [List.drop_append, List.drop_of_length_le (by omega), List.nil_append, show q.length + (1 + k) - q.length = k + 1 by omega, List.drop_succ_cons]
      refine ⟨by rw [hs]; simp; omega, m, ?_, ?_⟩
      · rw [hs, hd]; exact h4
      · rw [hs, show q.length + (1 + skipR b 0) + m = q.length + (1 + (skipR b 0 + m)) by omega, hd]; exact h5
  | cons t ts ih =>
    intro q b us h1 h2
    obtain ⟨h3, m, h4, h5⟩ := h1
    have hle := (skip_le (rs := q) (i := 0) (Nat.zero_le _)).2
    have hs : skipR (q ++ 32 :: b) 0 = skipR q 0 := by
      unfold skipR at h3 hle ⊢
      simp only [Nat.zero_add, List.drop_zero] at h3 hle ⊢
      rw [span_app_lt _ (by omega)]
    have hne : q.drop (skipR q 0) ≠ [] := by
      intro e
      have := congrArg List.length e
      simp at this; omega
    have haft := nextP_after (by have := List.length_pos_iff.2 hne; exact this) h4
    simp only [List.length_drop] at haft
    refine ⟨by rw [hs]; simp; omega, m, ?_, ?_⟩
    · rw [hs, List.drop_append_of_le_length hle]; exact next_app _ hne h4
    · rw [hs, List.drop_append_of_le_length (by omega)]; exact ih h5 h2
/-- a blank parts the runes of two texts -/
theorem dec_app32 {a : List UInt8} (ha : a ≠ []) (b : List UInt8) : dec (a ++ 32 :: b) = dec a := by
  have hl : 0 < a.length := List.length_pos_iff.2 ha
  by_cases h : (dec (a ++ 32 :: b)).2 ≤ a.length
  · have := dec_take h
    rw [← this, List.take_left]
  · exfalso
    have hne : a ++ 32 :: b ≠ [] := by simp
    have hv : ¬ ((Lib.decodeL (a ++ 32 :: b)).1 = 65533 ∧ (Lib.decodeL (a ++ 32 :: b)).2 = 1) := by
      intro hh
      have : (dec (a ++ 32 :: b)).2 = 1 := hh.2
      omega
    have he : enc (dec (a ++ 32 :: b)).1 = (a ++ 32 :: b).take (dec (a ++ 32 :: b)).2 := Lib.encode_decode _ hne hv
    have hmem : (32 : UInt8) ∈ enc (dec (a ++ 32 :: b)).1 := by
      rw [he, List.take_append]
      refine List.mem_append_right _ ?_
      obtain ⟨k, hk⟩ : ∃ k, (dec (a ++ 32 :: b)).2 - a.length = k + 1 := ⟨_, (Nat.succ_pred_eq_of_pos (by omega)).symm⟩
      rw [hk]; simp
    by_cases hr : 128 ≤ (dec (a ++ 32 :: b)).1
    · have := enc_high hr _ hmem
      simp at this
    · have e1 := enc_one (r := (dec (a ++ 32 :: b)).1) (by omega)
      have := congrArg List.length he
      have hd := dec_le _ hne
      rw [e1, List.length_take] at this
      simp at this hd
      omega
theorem runes_app32 : ∀ (a b : List UInt8), runes (a ++ 32 :: b) = runes a ++ 32 :: runes b := by
  intro a
  induction hn : a.length using Nat.strongRecOn generalizing a with
  | _ n ih =>
    intro b
    by_cases ha : a = []
    · subst ha
      have := runes_enc (r := 32) (by unfold validR; omega) b
      rw [enc_one (by omega)] at this
      exact this
    · have hd := dec_le a ha
      have hp := dec_pos a
      rw [runes_step (by simp), dec_app32 ha, runes_step ha, List.drop_append_of_le_length hd, ih (a.drop (dec a).2).length (by simp; omega) _ rfl]
      rfl
theorem cut_next {rs : List Nat} {i m : Nat} {t : Tk} (hi : i < rs.length) (h : nextP rs i = .inl (t, m)) : nextP (cutR rs i m) 0 = .inl (nop t, m - i) := by
  have haft := nextP_after hi h
  have hat := nextP_at h
  have h1 := nextP_take hi h (Nat.le_refl m)
  rw [nextP_shift (by simp; omega)] at h1
  have e : (rs.take m).drop i = cutR rs i m := by unfold cutR; rw [List.drop_take]
  rw [e] at h1
  cases hq : nextP (cutR rs i m) 0 with
  | inr e => rw [hq] at h1; cases e; cases h1
  | inl e =>
    obtain ⟨t1, m1⟩ := e
    rw [hq] at h1
    injection h1 with h1
    injection h1 with h2 h3
    have ha := nextP_at hq
    have e1 : t1 = nop t := by rw [← nop_of (t := t1) (by rw [ha]; rfl), ← h2]; rfl
    rw [e1, show m1 = m - i by omega]
theorem nextP_cases {rs : List Nat} {i m : Nat} {t : Tk} (h : nextP rs i = .inl (t, m)) :
    (classV (rs.getD i 0) = 2 ∧ m = endW rs i ∧ t = ⟨1, lowT (cutR rs i m), 0, i⟩) ∨
    (classV (rs.getD i 0) = 3 ∧ m = endD rs i ∧ (cutR rs i m).all digR = true ∧ numOk (cutR rs i m) = true ∧ t = ⟨2, ⟨#[]⟩, (valR (cutR rs i m) : Int), i⟩) ∨
    (classV (rs.getD i 0) = 3 ∧ m = endD rs i ∧ (cutR rs i m).all digR = false ∧ t = ⟨3, strR (cutR rs i m), 0, i⟩) ∨
    (rs.getD i 0 = 34 ∧ m = endT rs i + 1 ∧ endT rs i ≠ rs.length ∧ rs.getD (endT rs i) 0 = 34 ∧ ∃ u, unqV (bl (strR (cutR rs i m))) = some u ∧ t = ⟨4, ⟨u.toArray⟩, 0, i⟩) ∨
    ((rs.getD i 0 = 61 ∨ rs.getD i 0 = 58 ∨ rs.getD i 0 = 44 ∨ rs.getD i 0 = 45) ∧ m = i + 1 ∧ t = ⟨5, strR [rs.getD i 0], 0, i⟩) := by
  unfold nextP at h
  split at h
  · rename_i hc
    injection h with h; injection h with h1 h2
    subst h2
    exact .inl ⟨hc, rfl, h1.symm⟩
  split at h
  · rename_i _ hc
    unfold countP at h
    split at h
    · rename_i ha
      split at h
      · rename_i hn
        injection h with h; injection h with h1 h2
        subst h2
        exact .inr (.inl ⟨hc, rfl, ha, hn, h1.symm⟩)
      · cases h
    · rename_i ha
      injection h with h; injection h with h1 h2
      subst h2
      exact .inr (.inr (.inl ⟨hc, rfl, by simpa using ha, h1.symm⟩))
  split at h
  · rename_i _ _ h34
    unfold textP at h
    split at h
    · cases h
    rename_i hne
    split at h
    · cases h
    rename_i hq
    split at h
    · rename_i hs
      injection h with h; injection h with h1 h2
      subst h2
      obtain ⟨u, hu⟩ := Option.isSome_iff_exists.1 hs
      refine .inr (.inr (.inr (.inl ⟨h34, rfl, hne, by simpa using hq, u, hu, ?_⟩)))
      rw [← h1]; unfold unqT; rw [hu]; rfl
    · cases h
  split at h
  · rename_i hx
    injection h with h; injection h with h1 h2
    subst h2
    exact .inr (.inr (.inr (.inr ⟨hx, rfl, h1.symm⟩)))
  split at h <;> cases h
def lowR (r : Nat) : Nat := if 65 ≤ r ∧ r ≤ 90 then r + 32 else r
theorem enc_low (r : Nat) : (enc r).map lowB = enc (lowR r) := by
  by_cases h : r < 128
  · have hl : lowR r < 128 := by unfold lowR; split <;> omega
    rw [enc_one h, enc_one hl, List.map_singleton]
    have e : (UInt8.ofNat r).toNat = r := by rw [UInt8.toNat_ofNat']; omega
    unfold lowB lowR
    rw [e]
    split
    · have : UInt8.ofNat r + 32 = UInt8.ofNat (r + 32) := by
        apply UInt8.toNat_inj.1
        rw [UInt8.toNat_add, e, UInt8.toNat_ofNat']
        rfl
      rw [this]
    · rfl
  · have hl : lowR r = r := by unfold lowR; rw [if_neg (by omega)]
    rw [hl]
    have hh := enc_high (r := r) (by omega)
    have key : ∀ b ∈ enc r, lowB b = b := by
      intro b hb
      have := hh b hb
      unfold lowB; rw [if_neg (by omega)]
    conv => rhs; rw [← List.map_id (enc r)]
    exact List.map_congr_left (fun b hb => by rw [key b hb]; rfl)
theorem low_flat (l : List Nat) : (l.flatMap enc).map lowB = (l.map lowR).flatMap enc := by
  induction l with
  | nil => rfl
  | cons r t ih => rw [List.flatMap_cons, List.map_append, ih, enc_low, List.map_cons, List.flatMap_cons]
theorem lowR_idem (r : Nat) : lowR (lowR r) = lowR r := by
  unfold lowR
  repeat' split
  all_goals omega
theorem class_low (r : Nat) : classV (lowR r) = classV r := by
  unfold lowR
  split
  · have e1 : classV (r : Int) = 2 := by
      unfold classV
      repeat' split
      all_goals omega
    have e2 : classV ((r + 32 : Nat) : Int) = 2 := by
      unfold classV
      repeat' split
      all_goals omega
    rw [e1, e2]
  · rfl
theorem word_low {r : Nat} (h : wordR r = true) : wordR (lowR r) = true := by
  unfold wordR hasC at h ⊢
  rw [class_low]
  by_cases hr : 65 ≤ r ∧ r ≤ 90
  · have e1 : classV (r : Int) = 2 := by
      unfold classV
      repeat' split
      all_goals omega
    rw [e1]; rfl
  · have e : lowR r = r := by unfold lowR; rw [if_neg hr]
    rw [e]; exact h
theorem lowT_bl (l : List Nat) : bl (lowT l) = (l.map lowR).flatMap enc := by
  rw [← low_flat, ← bl_strR]; unfold lowT bl; simp
theorem lowT_idem (l : List Nat) : lowT (l.map lowR) = lowT l := by
  unfold lowT
  rw [bl_strR, bl_strR, low_flat, low_flat, List.map_map]
  have : (lowR ∘ lowR) = lowR := funext lowR_idem
  rw [this]
theorem word_good {r : Nat} (h : wordR r = true) : badR r = false := by
  rcases hb : badR r with _ | _
  · rfl
  · have hc : classV r = 0 := by unfold badR at hb; simpa using hb
    rw [badR_iff] at hb
    unfold wordR hasC at h
    rw [hc] at h
    simp at h
    omega
theorem bad_low (r : Nat) : badR (lowR r) = badR r := by unfold badR; rw [class_low]
theorem next_good {rs : List Nat} {i m : Nat} {t : Tk} (hi : i < rs.length) (h : nextP rs i = .inl (t, m)) : ∀ r ∈ cutR rs i m, badR r = false := by
  have hx : rs[i]? = some (rs.getD i 0) := by simp [List.getD, List.getElem?_eq_getElem hi]
  rcases nextP_cases h with ⟨hc, rfl, _⟩ | ⟨hc, rfl, _⟩ | ⟨hc, rfl, _⟩ | ⟨hc, rfl, hne, hq, _⟩ | ⟨hc, rfl, _⟩
  · intro r hr
    obtain ⟨k, h1, h2, h3⟩ := cutR_mem hr
    exact word_good (spanI_in (p := wordR) h1 h2 h3)
  · intro r hr; exact small_good (cut_small r hr)
  · intro r hr; exact small_good (cut_small r hr)
  · have hl := endT_le (rs := rs) (i := i) (by omega)
    have he : rs[endT rs i]? = some (rs.getD (endT rs i) 0) := by simp [List.getD, List.getElem?_eq_getElem (show endT rs i < rs.length by omega)]
    exact cut_good he hq
  · rw [cut_one hx]
    intro r hr
    rw [List.mem_singleton] at hr
    subst hr
    rcases hc with e | e | e | e <;> rw [e] <;> decide
theorem dd_canon : ∀ (n : Nat) (l : List UInt8), l.length = n → (∀ b ∈ l, isD b = true) → l ≠ [] → (1 < l.length → l.head? ≠ some 48) → Lib.decDigits (valD l) = l := by
  intro n
  induction n with
  | zero => intro l hl _ hne; exact absurd (List.eq_nil_of_length_eq_zero hl) hne
  | succ n ih =>
    intro l hl hd hne hh
    obtain ⟨a, d, rfl⟩ : ∃ a d, l = a ++ [d] := ⟨l.dropLast, l.getLast hne, (List.dropLast_concat_getLast hne).symm⟩
    have hdd := hd d (by simp)
    unfold isD at hdd
    simp only [Bool.and_eq_true, decide_eq_true_eq] at hdd
    have hv : valD (a ++ [d]) = valD a * 10 + (d.toNat - 48) := by unfold valD; rw [List.foldl_append]; rfl
    have hback : UInt8.ofNat (48 + (d.toNat - 48)) = d := by
      apply UInt8.toNat_inj.1
      rw [UInt8.toNat_ofNat']; omega
    by_cases ha : a = []
    · subst ha
      rw [hv, dd_lt (by show (0 : Nat) * 10 + _ < 10; omega)]
      show [UInt8.ofNat (48 + (0 * 10 + (d.toNat - 48)))] = [d]
      rw [Nat.zero_mul, Nat.zero_add, hback]
    · have hal : 0 < a.length := List.length_pos_iff.2 ha
      have hha : a.head? ≠ some 48 := by
        have h1 := hh (by simp; omega)
        cases a with
        | nil => exact absurd rfl ha
        | cons x y => simpa using h1
      have h2 := ih a (by simpa using hl) (fun b hb => hd b (by simp [hb])) ha (fun _ => hha)
      have h3 : valD a ≠ 0 := by
        intro e
        rw [e, dd_lt (by omega)] at h2
        rw [← h2] at hha
        exact hha rfl
      rw [hv, dd_ge (by omega), show (valD a * 10 + (d.toNat - 48)) / 10 = valD a by omega, show (valD a * 10 + (d.toNat - 48)) % 10 = d.toNat - 48 by omega, h2, hback]
theorem itoa_nat (n : Nat) : Lib.itoa (n : Int) = Lib.decDigits n := by unfold Lib.itoa; rw [if_neg (by omega)]; simp
theorem itoa_cut {l : List Nat} (h : l.all digR = true) (hne : l ≠ []) (hok : numOk l = true) : Lib.itoa (valR l : Int) = l.flatMap enc := by
  have hd : ∀ r ∈ l, digR r = true := by simpa using h
  rw [flat_small (fun r hr => dig_lt (hd r hr)), itoa_nat, ← valD_map hd]
  refine dd_canon _ _ rfl (isD_map hd) (by simpa using hne) (fun hl => ?_)
  unfold numOk at hok
  simp only [List.length_map] at hl
  cases l with
  | nil => exact absurd rfl hne
  | cons x t =>
    simp at hok hl
    intro e
    simp at e
    have hx := dig_lt (hd x (by simp))
    have e2 := (ofNat_eq_iff hx (show 48 < 128 by omega)).1 e
    rcases hok.2 with e3 | e3
    · subst e3; simp at hl
    · exact e3 e2
theorem skip_zero {q : List Nat} {t : Tk} {m : Nat} (hq : q ≠ []) (h : nextP q 0 = .inl (t, m)) : skipR q 0 = 0 := by
  cases q with
  | nil => exact absurd rfl hq
  | cons r l =>
    have hb : blankR r = false := by
      rcases hb : blankR r with _ | _
      · rfl
      · exfalso
        have hc : classV r = 1 := by unfold blankR hasC at hb; simpa using hb
        have hr : r = 9 ∨ r = 32 := by
          unfold classV at hc
          repeat' split at hc
          all_goals omega
        rcases hr with rfl | rfl <;> simp [nextP, classV] at h
    unfold skipR; simp only [List.drop_zero]; rw [span_cons, hb]; rfl
/-- a token's own text -/
theorem own_next {rs : List Nat} {i m : Nat} {t : Tk} (hi : i < rs.length) (h : nextP rs i = .inl (t, m)) :
    ∃ q, runes (bl (writtenP t)) = q ∧ q ≠ [] ∧ nextP q 0 = .inl (nop t, q.length) ∧ (bl (writtenP t)).length = ((cutR rs i m).flatMap enc).length := by
  have hx : rs[i]? = some (rs.getD i 0) := by simp [List.getD, List.getElem?_eq_getElem hi]
  have haft := nextP_after hi h
  have hgood := next_good hi h
  have hcn := cut_next hi h
  have hlen : (cutR rs i m).length = m - i := cutR_len haft.2
  have hne : cutR rs i m ≠ [] := by intro e; rw [e] at hlen; simp at hlen; omega
  have key : bl (writtenP t) = (cutR rs i m).flatMap enc → ∃ q, runes (bl (writtenP t)) = q ∧ q ≠ [] ∧ nextP q 0 = .inl (nop t, q.length) ∧ (bl (writtenP t)).length = ((cutR rs i m).flatMap enc).length := by
    intro e
    exact ⟨cutR rs i m, by rw [e]; exact runes_flat hgood, hne, by rw [hcn, hlen], by rw [e]⟩
  rcases nextP_cases h with ⟨hc, hm, ht⟩ | ⟨hc, hm, hall, hok, ht⟩ | ⟨hc, hm, hall, ht⟩ | ⟨hc, hm, hne2, hq, u, hu, ht⟩ | ⟨hc, hm, ht⟩
  · have hw : writtenP t = lowT (cutR rs i m) := by rw [ht]; unfold writtenP; simp
    have hlow : runes (bl (writtenP t)) = (cutR rs i m).map lowR := by
      rw [hw, lowT_bl]
      refine runes_flat (fun r hr => ?_)
      obtain ⟨x, hx, rfl⟩ := List.mem_map.1 hr
      rw [bad_low]; exact hgood x hx
    refine ⟨_, hlow, by simpa using hne, ?_, ?_⟩
    · obtain ⟨x, l, hxl⟩ : ∃ x l, cutR rs i m = x :: l := by
        cases hh : cutR rs i m with
        | nil => exact absurd hh hne
        | cons x l => exact ⟨x, l, rfl⟩
      have hx0 : x = rs.getD i 0 := by
        have h0 := cutR_at (rs := rs) (i := i) (m := m) (k := 0) (by omega)
        rw [hxl, Nat.add_zero, hx] at h0
        simpa using h0
      have hgd : ((cutR rs i m).map lowR).getD 0 0 = lowR x := by rw [hxl]; rfl
      have hall : ∀ r ∈ (cutR rs i m).map lowR, wordR r = true := by
        intro r hr
        obtain ⟨y, hy, rfl⟩ := List.mem_map.1 hr
        obtain ⟨k, h1, h2, h3⟩ := cutR_mem hy
        exact word_low (spanI_in (p := wordR) h1 (by rw [hm] at h2; exact h2) h3)
      have hend : endW ((cutR rs i m).map lowR) 0 = ((cutR rs i m).map lowR).length := by
        unfold endW; simp only [List.drop_zero, Nat.zero_add]
        exact span_is (Nat.le_refl _) (fun j x _ hx => hall x (List.mem_of_getElem? hx)) (fun x hx => by simp at hx)
      have hcut : cutR ((cutR rs i m).map lowR) 0 ((cutR rs i m).map lowR).length = (cutR rs i m).map lowR := by
        generalize (cutR rs i m).map lowR = z
        unfold cutR; simp
      unfold nextP
      rw [hgd, if_pos (by rw [class_low, hx0]; exact hc), hend, hcut, lowT_idem, ht]
      rfl
    · rw [hw, lowT_bl, ← low_flat, List.length_map]
  · refine key ?_
    rw [← itoa_cut hall hne hok]
    rw [ht]; unfold writtenP bl; simp
  · refine key ?_
    rw [← bl_strR]
    rw [ht]; unfold writtenP; simp
  · refine key ?_
    obtain ⟨h1, h2, h3⟩ := unq_some hu
    rw [← bl_strR, ← h2, ht]
    unfold writtenP
    have e : bl (⟨u.toArray⟩ : ByteArray) = u := by simp [bl]
    dsimp only
    rw [if_neg (by decide), if_pos rfl, e, if_pos h1]
  · refine key ?_
    rw [hm, cut_one hx, ← bl_strR]
    rw [ht]; unfold writtenP; simp
theorem size_bl (s : ByteArray) : (bl s).length = s.size := bl_len s
theorem tokP_own {rs : List Nat} {i m : Nat} {t : Tk} (hi : i < rs.length) (h : nextP rs i = .inl (t, m)) (hs : (writtenP t).size ≤ 400) :
    tokP (writtenP t) = ([nop t], ((runes (bl (writtenP t))).length : Int), 0) := by
  obtain ⟨q, h1, h2, h3, _⟩ := own_next hi h
  refine tokP_inl hs ?_
  rw [h1]
  have hz := skip_zero h2 h3
  have hl : 0 < q.length := List.length_pos_iff.2 h2
  unfold lexP
  rw [lexF_step (by rw [hz]; omega) (by rw [hz]; exact h3), lexF_end skip_end]
  rfl
theorem tkEq_iff {x y : Tk} : tkEq x y = true ↔ x = y := by
  have hb : ∀ a b : ByteArray, (a.toList == b.toList) = true ↔ a = b := by
    intro a b
    rw [beq_iff_eq]
    constructor
    · intro h
      rw [ByteArray.toList_eq, ByteArray.toList_eq] at h
      exact Go.WideShapes.bytes_inj h
    · intro h; rw [h]
  unfold tkEq
  cases x; cases y
  simp only [Bool.and_eq_true, beq_iff_eq, Tk.mk.injEq]
  constructor
  · rintro ⟨⟨⟨h1, h2⟩, h3⟩, h4⟩; exact ⟨h1, (hb _ _).1 (by simpa using h2), h3, h4⟩
  · rintro ⟨h1, h2, h3, h4⟩; exact ⟨⟨⟨h1, by simpa using (hb _ _).2 h2⟩, h3⟩, h4⟩
theorem check_cases (t : Tk) : checkP t = 0 ∨ checkP t = 50 := by
  unfold checkP
  split
  · split
    · split <;> simp
    · simp
  · simp
theorem check_zero {t : Tk} (h : checkP t = 0) : (writtenP t).size ≤ 400 ∧ lexP (runes (bl (writtenP t))) = .inl [nop t] ∧ tokP (writtenP t) = ([nop t], ((runes (bl (writtenP t))).length : Int), 0) := by
  unfold checkP at h
  split at h
  · rename_i h0
    split at h
    · rename_i x hx
      split at h
      · rename_i he
        have hxe := tkEq_iff.1 he
        rcases tokP_cases (writtenP t) with ⟨ts, h1, h2, h3⟩ | ⟨a, er, h1, h2⟩
        · rw [h3] at hx
          dsimp only at hx
          rw [hx, hxe] at h2 h3
          exact ⟨h1, h2, h3⟩
        · rw [h2] at h0; exact absurd h0 h1
      · cases h
    · cases h
  · cases h
theorem check_own {rs : List Nat} {i m : Nat} {t : Tk} (hi : i < rs.length) (h : nextP rs i = .inl (t, m)) (hs : (writtenP t).size ≤ 400) : checkP t = 0 := by
  unfold checkP
  rw [tokP_own hi h hs]
  have e : tkEq (nop t) ⟨t.kind, t.text, t.num, 0⟩ = true := tkEq_iff.2 rfl
  simp only [if_true, e]
theorem lexF_mem : ∀ (f : Nat) (rs : List Nat) (i : Nat) (acc r : List Tk), i ≤ rs.length → lexF f rs i acc = .inl r → ∀ t ∈ r, t ∈ acc ∨ ∃ k m, k < rs.length ∧ nextP rs k = .inl (t, m) := by
  intro f
  induction f with
  | zero =>
    intro rs i acc r hi h t ht
    rw [lexF] at h
    injection h with h
    subst h; exact .inl ht
  | succ f ih =>
    intro rs i acc r hi h t ht
    by_cases hend : skipR rs i = rs.length
    · rw [lexF_end hend] at h
      injection h with h
      subst h; exact .inl ht
    have hsk := skip_le (rs := rs) hi
    cases hn : nextP rs (skipR rs i) with
    | inr e => rw [lexF_bad hend hn] at h; cases h
    | inl e =>
      obtain ⟨t0, m⟩ := e
      rw [lexF_step hend hn] at h
      have haft := nextP_after (by omega) hn
      rcases ih rs m _ r haft.2 h t ht with h1 | h1
      · rw [List.mem_append] at h1
        rcases h1 with h1 | h1
        · exact .inl h1
        · simp at h1; subst h1
          exact .inr ⟨_, _, by omega, hn⟩
      · exact .inr h1
theorem good_len : ∀ (n : Nat) (l : List UInt8), l.length = n → (((runes l).filter (fun r => !badR r)).flatMap enc).length ≤ l.length := by
  intro n
  induction n using Nat.strongRecOn with
  | _ n ih =>
    intro l hl
    by_cases hne : l = []
    · subst hne; simp [runes_nil]
    · have hp := dec_pos l
      have hd := dec_le l hne
      have h1 := ih (l.drop (dec l).2).length (by simp; omega) _ rfl
      rw [runes_step hne, List.filter_cons]
      simp only [List.length_drop] at h1
      split
      · rename_i hg
        have hb : badR (dec l).1 = false := by simpa using hg
        have he := congrArg List.length (enc_dec hne (good_valid hb).2)
        rw [List.length_take] at he
        rw [List.flatMap_cons, List.length_append]
        omega
      · omega
theorem flat_sub {a b : List Nat} (h : a.Sublist b) : (a.flatMap enc).length ≤ (b.flatMap enc).length := by
  induction h with
  | slnil => simp
  | cons x _ ih => rw [List.flatMap_cons, List.length_append]; omega
  | cons_cons x _ ih => rw [List.flatMap_cons, List.flatMap_cons, List.length_append, List.length_append]; omega
/-- a line's tokens may be -/
theorem check_of_line {s : ByteArray} {ts : List Tk} (hs : s.size ≤ 400) (h : lexP (runes (bl s)) = .inl ts) : ∀ t ∈ ts, checkP t = 0 ∧ (writtenP t).size ≤ 400 := by
  intro t ht
  rcases lexF_mem _ _ 0 [] ts (Nat.zero_le _) h t ht with h1 | ⟨k, m, h1, h2⟩
  · simp at h1
  · have hsz : (writtenP t).size ≤ 400 := by
      obtain ⟨q, _, _, _, h3⟩ := own_next h1 h2
      have hg := next_good h1 h2
      have e1 : (cutR (runes (bl s)) k m).filter (fun r => !badR r) = cutR (runes (bl s)) k m := List.filter_eq_self.2 (fun r hr => by simp [hg r hr])
      have hsub : (cutR (runes (bl s)) k m).Sublist (runes (bl s)) := (List.take_sublist _ _).trans (List.drop_sublist _ _)
      have h4 := flat_sub (hsub.filter (fun r => !badR r))
      rw [e1] at h4
      have h5 := good_len _ (bl s) rfl
      rw [size_bl] at h3 h5
      omega
    exact ⟨check_own h1 h2 hsz, hsz⟩
def joinB (l : List Tk) : List UInt8 := Lib.join (l.map fun t => bl (writtenP t)) [32]
theorem joinB_cons (t u : Tk) (l : List Tk) : joinB (t :: u :: l) = bl (writtenP t) ++ 32 :: joinB (u :: l) := by
  unfold joinB
  rw [List.map_cons, List.map_cons, Lib.join_cons, Lib.join_cons]
  simp [Lib.joinTail]
theorem Lx_join : ∀ {l : List Tk}, (∀ t ∈ l, checkP t = 0) → Lx (runes (joinB l)) (l.map nop)
  | [], _ => rfl
  | [t], h => by
    have h1 := (check_zero (h t (by simp))).2.1
    have h2 := lexP_Lx h1
    have e : joinB [t] = bl (writtenP t) := by unfold joinB; rw [List.map_singleton, Lib.join_one]
    rw [e]; exact h2
  | t :: u :: l, h => by
    have h1 := (check_zero (h t (by simp))).2.1
    have h2 := lexP_Lx h1
    have h3 := Lx_join (l := u :: l) (fun x hx => h x (List.mem_cons_of_mem _ hx))
    rw [joinB_cons, runes_app32]
    exact Lx_app h2 h3
/-- joined tokens are read again -/
theorem tok_join {l : List Tk} (h : ∀ t ∈ l, checkP t = 0) (hl : (joinB l).length ≤ 400) : ∃ us, tokP ⟨(joinB l).toArray⟩ = (us, ((runes (joinB l)).length : Int), 0) ∧ us.map nop = l.map nop := by
  obtain ⟨us, h1, h2⟩ := Lx_lexP (Lx_join h)
  have e : bl (⟨(joinB l).toArray⟩ : ByteArray) = joinB l := by simp [bl]
  refine ⟨us, ?_, h2⟩
  rw [tokP_inl (s := ⟨(joinB l).toArray⟩) (by rw [← size_bl, e]; exact hl) (by rw [e]; exact h1), e]
/-- what the document's answer checks: the place is not looked at -/
def writtenR (t : Tk) : ByteArray := if t.kind = 2 ∧ t.num < 0 then ⟨#[]⟩ else writtenP t
def checkR (t : Tk) : Int := if (tokP (writtenR t)).2.2 = 0 then (match (tokP (writtenR t)).1 with | [x] => if x.kind = t.kind ∧ x.text = t.text ∧ x.num = t.num then 0 else 50 | _ => 50) else 50
theorem next_num {rs : List Nat} {i m : Nat} {t : Tk} (h : nextP rs i = .inl (t, m)) : 0 ≤ t.num := by
  rcases nextP_cases h with ⟨_, _, ht⟩ | ⟨_, _, _, _, ht⟩ | ⟨_, _, _, ht⟩ | ⟨_, _, _, _, u, _, ht⟩ | ⟨_, _, ht⟩ <;> rw [ht] <;> simp
theorem check_num {t : Tk} (h : checkP t = 0) : 0 ≤ t.num := by
  have h1 := (check_zero h).2.1
  rcases lexF_mem _ _ 0 [] _ (Nat.zero_le _) h1 (nop t) (by simp) with h1 | ⟨k, m, h1, h2⟩
  · simp at h1
  · exact next_num (t := nop t) h2
theorem checkR_eq (t : Tk) : checkR t = checkP t := by
  by_cases hn : t.kind = 2 ∧ t.num < 0
  · have h1 : checkR t = 50 := by
      unfold checkR writtenR
      rw [if_pos hn]
      rfl
    rcases check_cases t with h | h
    · have := check_num h; omega
    · rw [h1, h]
  · have hw : writtenR t = writtenP t := by unfold writtenR; rw [if_neg hn]
    rcases check_cases t with h | h
    · obtain ⟨h1, h2, h3⟩ := check_zero h
      rw [h]
      unfold checkR
      rw [hw, h3]
      simp [nop]
    · rw [h]
      unfold checkR
      rw [hw]
      split
      · rename_i h0
        split
        · rename_i x hx
          split
          · rename_i he
            exfalso
            rcases tokP_cases (writtenP t) with ⟨ts, h1, h2, h3⟩ | ⟨a, er, h1, h2⟩
            · rw [h3] at hx
              dsimp only at hx
              rcases lexF_mem _ _ 0 [] _ (Nat.zero_le _) h2 x (by rw [hx]; simp) with h4 | ⟨k, m, h4, h5⟩
              · simp at h4
              · have hwx : writtenP x = writtenP t := by unfold writtenP; rw [he.1, he.2.1, he.2.2]
                have h6 := check_own h4 h5 (by rw [hwx]; exact h1)
                have hcx : checkP x = checkP t := by unfold checkP; rw [hwx, he.1, he.2.1, he.2.2]
                rw [hcx, h] at h6; cases h6
            · rw [h2] at h0; exact h1 h0
          · rfl
        · rfl
      · rfl
end Go.Proofs.YtmkmmggimokagaaGreatDoor
