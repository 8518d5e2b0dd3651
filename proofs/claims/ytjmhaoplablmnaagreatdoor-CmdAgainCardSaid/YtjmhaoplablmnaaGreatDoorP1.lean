/- Layer 8: what is wanted of layers 5 and 23. Layer 8, plain: how a command is read from its tokens. Layer 8, plain: the tokens of the pieces of a command's line. Layer 8, plain: the fields of a command, its line, and the tokens of that. -/
import Derived.Test.YtjmhaoplablmnaaGreatDoorQ1
import Derived.Test.YtjmhaoplablmnaaGreatDoorK7
import Derived.Test.YtjmhaoplablmnaaGreatDoorK5
import Derived.Test.YtjmhaoplablmnaaGreatDoorK10
import Derived.Test.YtjmhaoplablmnaaGreatDoorK9
import Derived.Lib.Join
namespace Go.Proofs.YtjmhaoplablmnaaGreatDoor
set_option linter.unusedVariables false
open Go.RowKit
/-- the place of a text in a row; below 0: it is not there -/
def idxS (xs : List ByteArray) (s : ByteArray) : Int := match xs.findIdx? (fun x => s.toList == x.toList) with | some k => (k : Int) | none => -1
theorem find_first {α : Type} {p : α → Bool} : ∀ {l : List α} {k : Nat} {x : α}, l[k]? = some x → p x = true → (∀ y ∈ l.take k, p y = false) → l.findIdx? p = some k
  | [], k, x, h, _, _ => by simp at h
  | y :: t, 0, x, h, hp, _ => by
    simp at h; subst h
    rw [List.findIdx?_cons, hp]; rfl
  | y :: t, k + 1, x, h, hp, ha => by
    have h1 := ha y (by simp)
    rw [List.findIdx?_cons, h1, find_first (l := t) (k := k) (by simpa using h) hp (fun z hz => ha z (by simp [hz]))]
    rfl
theorem find_none {α : Type} {p : α → Bool} {l : List α} (h : ∀ y ∈ l, p y = false) : l.findIdx? p = none := by
  induction l with
  | nil => rfl
  | cons y t ih => rw [List.findIdx?_cons, h y (by simp), ih (fun z hz => h z (by simp [hz]))]; rfl
theorem results_cell1 {P : Program} {fn : Func} {p t : Tmp} {ty : TypeId} (h : fn.results = #[.cell p ty, .tmp t]) (tmps : Array Value) (w : World) (g : Nat) (tt : TypeId) (cs : Array Value) (fr : Nat × Nat) (d : TypeDesc)
    (hp : tmps.getD p undef = .pointer (some ⟨g, 0, none⟩)) (hg : w.heap[g]? = some (.cells cs tt fr))
    (hu : P.underlying ty = some d) (hd : (match d with | .struct _ | .array _ _ => true | _ => false) = true) (hi : (P.info? ty).map (·.size) = some cs.size) :
    (results fn tmps).run P w = .ok (.tuple #[.agg cs, tmps.getD t undef]) w := by
  have hp' : tmps[p]?.getD undef = .pointer (some ⟨g, 0, none⟩) := by simpa using hp
  simp [results, h, hp', asAddr, run_loadVar_row w g tt ty cs fr d hg hu hd hi]
theorem itoa_any (x : Int) (w : World) (h0 : -9223372036854775808 ≤ x) (h1 : x ≤ 9223372036854775807) (hT : Lib.TabIs Tryz.prog w "internal/strconv.uint64pow10" .u64 Lib.pow10Tab) :
    Calls Tryz.prog 21 #[.int .i64 x] w fun e w' => e = .returned (.string ⟨(Lib.itoa x).toArray⟩) ∧ Below w.heap.size w w' :=
  (Tryz.strconv_Itoa x h0 h1 w hT).mono fun e w' ⟨he, k, os, hw⟩ => ⟨he, by rw [hw]; exact Lib.below_grow _ _ (Nat.le_refl _) _ _⟩
theorem index_s (A : Option Addr) (n c B : Nat) (l : List ByteArray) (x : ByteArray) (w : World) (hr : Reads w B 1 A n (strs l)) (hn : n ≤ 1000000) :
    Calls Tryz.prog 74 #[.slice A n c, .string x] w fun e w' => e = .returned (.int .i64 (idxS l x)) ∧ w = w' := by
  have hlen : l.length = n := by have := hr.1; simpa [strs] using this
  replace hlen := Lib.hid hlen
  go_enter Tryz.func74, Tryz.ntmps74
  go_wp2
  go_loop [8] (fun i => ∃ k : Nat, k ≤ n ∧ i = .int .i64 k ∧ Hid (∀ y ∈ l.take k, (x.toList == y.toList) = false)) (fun i => n - (intOf i).toNat)
  case atStart => exact ⟨0, Nat.zero_le _, rfl, (by show ∀ y ∈ _, _; simp)⟩
  case round =>
    obtain ⟨k, hk, rfl, HA⟩ := hrel
    by_cases hlt : k < n
    · obtain ⟨b, o, rfl, hb, hc⟩ := hr.plain (by omega) (by omega)
      obtain ⟨y, hy⟩ : ∃ y, Hid (l[k]? = some y) := ⟨_, List.getElem?_eq_getElem (by rw [hlen.out]; exact hlt)⟩
      have c0 := hc k (.string y) (by rw [strs, List.getElem?_map, hy.out]; rfl)
      have hj0 : (0 : Int) ≤ (k : Int) := by omega
      have hj1 : (k : Int) < (n : Int) := by omega
      clear hc hr
      by_cases t1 : (x.toList == y.toList) = true
      · have hf : Hid (idxS l x = (k : Int)) := by show _ = _; unfold idxS; rw [find_first (p := fun (y : ByteArray) => x.toList == y.toList) hy.out t1 HA.out]
        go_wp2
        go_ret
        exact ⟨by rw [hf.out]; rfl, rfl⟩
      · replace t1 : (x.toList == y.toList) = false := by simpa using t1
        have HB : Hid (∀ y ∈ l.take (k + 1), (x.toList == y.toList) = false) := by
          show ∀ y ∈ _, _
          intro z hz
          rw [take_snocT hy.out, List.mem_append] at hz
          rcases hz with hz | hz
          · exact HA.out z hz
          · rw [List.mem_singleton] at hz; subst hz; exact t1
        go_wp2
        go_round
        case rel => exact ⟨k + 1, by omega, by go_num, HB⟩
        case measure => simp [intOf]; omega
    · have hf : Hid (idxS l x = -1) := by
        show _ = _; unfold idxS
        rw [find_none (p := fun (y : ByteArray) => x.toList == y.toList)]
        have := HA.out
        rw [List.take_of_length_le (by rw [hlen.out]; omega)] at this
        exact this
      clear hr
      go_wp2
      go_ret
      exact ⟨by rw [hf.out]; rfl, rfl⟩
/-- how far a reader is, and what is wrong; below 0: nothing is -/
structure Rr where
  at_ : Nat
  bad : Int
def tk0 : Tk := ⟨0, ⟨#[]⟩, 0, 0⟩
/-- the place of the token that comes next -/
def placeP (ts : List Tk) (en : Int) (i : Nat) : Int := match ts[i]? with | some t => t.at_ | none => en
def failP (ts : List Tk) (en : Int) (r : Rr) : Rr := if 0 ≤ r.bad then r else ⟨r.at_, placeP ts en r.at_⟩
/-- may the token that comes next be taken? -/
def mayP (ts : List Tk) (k : Int) (p : Tk → Bool) (r : Rr) : Option Tk :=
  if r.bad < 0 then (match ts[r.at_]? with | some t => if t.kind = k ∧ p t = true then some t else none | none => none) else none
def takeP (ts : List Tk) (en : Int) (k : Int) (p : Tk → Bool) (r : Rr) : Tk × Bool × Rr :=
  match mayP ts k p r with | some t => (t, true, ⟨r.at_ + 1, r.bad⟩) | none => (tk0, false, failP ts en r)
def seesP (ts : List Tk) (k : Int) (r : Rr) : Bool := (mayP ts k (fun _ => true) r).isSome
def signP (ts : List Tk) (en : Int) (s : List UInt8) (r : Rr) : Rr := (takeP ts en 5 (fun t => t.text.toList == s) r).2.2
def numR (ts : List Tk) (en : Int) (p : Int → Bool) (r : Rr) : Int × Rr := ((takeP ts en 2 (fun t => p t.num) r).1.num, (takeP ts en 2 (fun t => p t.num) r).2.2)
def lenB (n : Int) : Bool := inB n 1 100000
def timeP (t : Tk) : Bool := (hrsE t.text.data.toList == 0) && lenB (hrsN t.text.data.toList)
def lengthP (ts : List Tk) (en : Int) (r : Rr) : Int × Rr :=
  match mayP ts 3 (fun _ => true) r with
  | some t => (hrsN t.text.data.toList, (takeP ts en 3 timeP r).2.2)
  | none => numR ts en lenB r
def namedP (ts : List Tk) (en : Int) (r : Rr) : ByteArray × Rr := ((takeP ts en 1 (fun t => nameB t.text) r).1.text, (takeP ts en 1 (fun t => nameB t.text) r).2.2)
/-- what stands behind a field's = -/
inductive Vl where
  | none | text (s : ByteArray) | count (n : Int) | pair (a b : Int) | rng (a b : Int)
def bU : List UInt8 := [117, 115, 101, 114]
def bA : List UInt8 := [97, 99, 99, 111, 117, 110, 116]
def bPrio : List UInt8 := [112, 114, 105, 111]
def bAny : List UInt8 := [97, 110, 121]
def bGood : List UInt8 := [103, 111, 111, 100]
def bBad : List UInt8 := [98, 97, 100]
def bFrom : List UInt8 := [102, 114, 111, 109]
def bNodes : List UInt8 := [110, 111, 100, 101, 115]
def bAlt : List UInt8 := [97, 108, 116]
def bRange : List UInt8 := [114, 97, 110, 103, 101]
def bTime : List UInt8 := [116, 105, 109, 101]
def valueP (ts : List Tk) (en : Int) (f : List UInt8) (r : Rr) : Vl × Rr :=
  if f == bU || f == bA then (.text (namedP ts en r).1, (namedP ts en r).2)
  else if f == bPrio then (.count (numR ts en (fun n => inB n 0 100) r).1, (numR ts en (fun n => inB n 0 100) r).2)
  else if f == bAny || (f == bGood || f == bBad) then (.count (numR ts en (fun n => inB n 1 99999) r).1, (numR ts en (fun n => inB n 1 99999) r).2)
  else if f == bFrom then (.count (numR ts en (fun n => inB n 0 1000000) r).1, (numR ts en (fun n => inB n 0 1000000) r).2)
  else if f == bNodes then (.count (numR ts en (fun n => inB n 1 48) r).1, (numR ts en (fun n => inB n 1 48) r).2)
  else if f == bAlt then
    (.pair (numR ts en (fun n => inB n 1 48) r).1 (lengthP ts en (signP ts en [58] (numR ts en (fun n => inB n 1 48) r).2)).1, (lengthP ts en (signP ts en [58] (numR ts en (fun n => inB n 1 48) r).2)).2)
  else if f == bRange then
    (.rng (numR ts en (fun n => inB n 1 48) r).1 (numR ts en (fun n => inB n 1 48) (signP ts en [45] (numR ts en (fun n => inB n 1 48) r).2)).1, (numR ts en (fun n => inB n 1 48) (signP ts en [45] (numR ts en (fun n => inB n 1 48) r).2)).2)
  else (.count (lengthP ts en r).1, (lengthP ts en r).2)
def bW : Nat → List UInt8 | 1 => bU | 2 => bA | 3 => bPrio | 4 => bAny | 5 => bGood | 6 => bBad | 7 => bNodes | 8 => bAlt | 9 => bRange | 10 => bTime | 11 => bFrom | _ => []
def fieldsN (k : Int) : List Nat := if k = 1 then [1, 2, 3, 4, 5, 6, 7, 8, 9, 10] else if k = 5 then [3, 10] else if k = 6 then [7] else if k = 10 then [11, 7, 10] else []
def fieldsP (k : Int) : List ByteArray := (fieldsN k).map fun i => ⟨(bW i).toArray⟩
def manyP (f : List UInt8) : Int := if f == bAny || (f == bGood || f == bBad) then 4 else if f == bAlt then 6 else 1
def waitsP (f : List UInt8) : Bool := manyP f == 4
abbrev Fd := ByteArray × Vl
def likeP (f : List UInt8) (x : Fd) : Bool := (x.1.toList == f) || (waitsP f && waitsP x.1.toList)
def openP (k : Int) (had : List Fd) (f : ByteArray) : Bool := (fieldsP k).any (fun x => f.toList == x.toList) && decide (((had.countP (likeP f.toList) : Nat) : Int) < manyP f.toList)
def twiceP (f : Fd) (x : Fd) : Bool := match x.2, f.2 with | .count a, .count b => waitsP x.1.toList && (waitsP f.1.toList && (a == b)) | _, _ => false
def fieldP (ts : List Tk) (en : Int) (k : Int) (had : List Fd) (r : Rr) : Fd × Rr :=
  match mayP ts 1 (fun t => openP k had t.text) r with
  | none => ((⟨#[]⟩, .none), failP ts en r)
  | some t =>
    let q := signP ts en [61] ⟨r.at_ + 1, r.bad⟩
    let v := valueP ts en t.text.toList q
    if v.2.bad < 0 ∧ had.any (twiceP (t.text, v.1)) = true then ((t.text, v.1), failP ts en ⟨q.at_, v.2.bad⟩) else ((t.text, v.1), v.2)
def cm0 : Cm := ⟨0, 0, ⟨#[]⟩, ⟨#[]⟩, ⟨#[]⟩, sh0, 0, false, 0, false, [], 0, 0, 0⟩
def depsL : List ByteArray := [⟨#[]⟩, ⟨#[97, 110, 121]⟩, ⟨#[103, 111, 111, 100]⟩, ⟨#[98, 97, 100]⟩]
def putC (c : Cm) (f : Fd) : Cm :=
  match f.2 with
  | .none => c
  | .text s => if f.1.toList == bU then { c with user := s } else { c with account := s }
  | .pair a b => { c with shape := { c.shape with alts := c.shape.alts ++ [(a, b)] } }
  | .rng a b => { c with shape := { c.shape with mn := a, mx := b } }
  | .count n =>
    if f.1.toList == bPrio then { c with prio := n, hasPrio := true }
    else if f.1.toList == bFrom then { c with frm := n }
    else if f.1.toList == bNodes then { c with nodes := n }
    else if f.1.toList == bTime then { c with time := n, hasTime := true }
    else { c with after := c.after ++ [(idxS depsL f.1, n)] }
def wordsL8 : List ByteArray := [⟨#[]⟩, ⟨#[115, 117, 98, 109, 105, 116]⟩, ⟨#[99, 97, 110, 99, 101, 108]⟩, ⟨#[104, 111, 108, 100]⟩, ⟨#[114, 101, 108, 101, 97, 115, 101]⟩, ⟨#[97, 108, 116, 101, 114]⟩, ⟨#[114, 101, 115, 105, 122, 101]⟩, ⟨#[100, 114, 97, 105, 110]⟩, ⟨#[114, 101, 115, 117, 109, 101]⟩, ⟨#[102, 97, 105, 108]⟩, ⟨#[114, 101, 115, 101, 114, 118, 101]⟩, ⟨#[117, 110, 114, 101, 115, 101, 114, 118, 101]⟩, ⟨#[115, 116, 97, 116, 117, 115]⟩]
def subjP (ts : List Tk) (en : Int) (k : Int) (r : Rr) : Cm × Rr :=
  if k = 1 then
    let x := takeP ts en (if seesP ts 4 r then 4 else 1) (fun t => nameB t.text) r
    ({ cm0 with kind := k, name := x.1.text }, x.2.2)
  else if k = 7 ∨ k = 8 ∨ k = 9 then ({ cm0 with kind := k, node := (numR ts en (fun n => inB n 0 47) r).1 }, (numR ts en (fun n => inB n 0 47) r).2)
  else if k = 10 then ({ cm0 with kind := k }, r)
  else if k = 12 ∧ ts.length ≤ r.at_ then ({ cm0 with kind := k }, r)
  else ({ cm0 with kind := k, job := (numR ts en (fun n => inB n 1 99999) r).1 }, (numR ts en (fun n => inB n 1 99999) r).2)
def headP (ts : List Tk) (en : Int) (r : Rr) : Cm × Rr :=
  match mayP ts 1 (fun t => decide (0 < idxS wordsL8 t.text)) r with
  | none => (cm0, failP ts en r)
  | some t => subjP ts en (idxS wordsL8 t.text) ⟨r.at_ + 1, r.bad⟩
def loopP (ts : List Tk) (en : Int) : Nat → Cm → List Fd → Bool → Rr → Cm × Bool × Rr
  | 0, c, _, fr, r => (c, fr, r)
  | n + 1, c, had, fr, r =>
    if r.bad < 0 ∧ r.at_ < ts.length then
      let f := fieldP ts en c.kind had r
      loopP ts en n (if f.2.bad < 0 then putC c f.1 else c) (had ++ [f.1]) (fr || (f.1.1.toList == bFrom)) f.2
    else (c, fr, r)
def missP (c : Cm) (fr : Bool) : Bool :=
  if c.kind = 1 then (c.user.toList == []) || ((c.account.toList == []) || (decide (c.shape.alts.length = 0) && ((c.nodes == 0) && (c.shape.mn == 0) || !c.hasTime)))
  else if c.kind = 5 then !c.hasPrio && !c.hasTime
  else if c.kind = 6 then c.nodes == 0
  else if c.kind = 10 then !fr || ((c.nodes == 0) || !c.hasTime)
  else false
def shapedP (s : Sh) (nodes wall : Int) : Sh :=
  if 0 < s.alts.length then ⟨if 0 < nodes then 0 else 2, s.alts, s.mn, s.mx, wall⟩
  else if 0 < s.mn then ⟨if 0 < nodes then 0 else 3, s.alts, s.mn, s.mx, wall⟩
  else ⟨1, [(nodes, wall)], s.mn, s.mx, s.wall⟩
def closeP (c : Cm) : Cm := if c.kind = 1 then { c with shape := shapedP c.shape c.nodes c.time, nodes := 0, time := 0, hasTime := false } else c
/-- a command of tokens: it, the place that is wrong, the error -/
def readP (ts : List Tk) (en : Int) : Cm × Int × Int :=
  let h := headP ts en ⟨0, -1⟩
  let x := loopP ts en (ts.length + 1) h.1 [] false h.2
  let r := if x.2.2.bad < 0 ∧ missP x.1 x.2.1 = true then failP ts en x.2.2 else x.2.2
  if 0 ≤ r.bad then (cm0, r.bad, 80)
  else if cmdE (closeP x.1) ≠ 0 ∨ (shE (closeP x.1).shape ≠ 0 ∧ x.1.kind = 1) then (cm0, 0, 80)
  else (closeP x.1, en, 0)
def cparseP (s : ByteArray) : Cm × Int × Int := if (tokP s).2.2 = 0 then readP (tokP s).1 (tokP s).2.1 else (cm0, (tokP s).2.1, (tokP s).2.2)
theorem runes_low {x : UInt8} (h : x.toNat < 128) (b : List UInt8) : runes (x :: b) = x.toNat :: runes b := by
  have := runes_enc (r := x.toNat) (by unfold validR; omega) b
  rw [enc_one h] at this
  simpa using this
theorem runes_lows : ∀ {a : List UInt8}, (∀ x ∈ a, x.toNat < 128) → ∀ b, runes (a ++ b) = a.map UInt8.toNat ++ runes b
  | [], _, b => rfl
  | x :: a, h, b => by
    rw [List.cons_append, runes_low (h x (by simp)), runes_lows (fun y hy => h y (by simp [hy])) b]; rfl
theorem Lx_cons {rs : List Nat} {t : Tk} {m : Nat} {ts : List Tk} (hne : rs ≠ []) (h : nextP rs 0 = .inl (t, m)) (h2 : Lx (rs.drop m) ts) : Lx rs (t :: ts) := by
  have hz := skip_zero hne h
  have hl := List.length_pos_iff.2 hne
  refine ⟨by rw [hz]; omega, m, by rw [hz]; exact h, ?_⟩
  rw [hz, Nat.zero_add]; exact h2
theorem cut_app (q b : List Nat) : cutR (q ++ b) 0 q.length = q := by unfold cutR; simp
/-- a word, and what is none behind it -/
theorem next_word {q : List Nat} {c : Nat} {b : List Nat} (hne : q ≠ []) (h1 : classV (q.getD 0 0) = 2) (h2 : ∀ r ∈ q, wordR r = true) (hc : wordR c = false) :
    nextP (q ++ c :: b) 0 = .inl (⟨1, lowT q, 0, 0⟩, q.length) := by
  have hl := List.length_pos_iff.2 hne
  have g0 : (q ++ c :: b).getD 0 0 = q.getD 0 0 := by simp [List.getD, List.getElem?_append_left hl]
  have eW : endW (q ++ c :: b) 0 = q.length := by
    unfold endW; simp only [List.drop_zero, Nat.zero_add]
    rw [span_app hc]
    exact span_is (Nat.le_refl _) (fun j x _ hx => h2 x (List.mem_of_getElem? hx)) (fun x hx => by simp at hx)
  unfold nextP
  rw [g0, if_pos h1, eW, cut_app]; rfl
/-- digits and units, and what is none behind them -/
theorem next_small_ {q : List Nat} {c : Nat} {b : List Nat} (hne : q ≠ []) (h1 : classV (q.getD 0 0) = 3) (h2 : ∀ r ∈ q, smallR r = true) (hc : smallR c = false) :
    nextP (q ++ c :: b) 0 = (if q.all digR then (if numOk q then .inl (⟨2, ⟨#[]⟩, (valR q : Int), 0⟩, q.length) else .inr (0, 50)) else .inl (⟨3, strR q, 0, 0⟩, q.length)) := by
  have hl := List.length_pos_iff.2 hne
  have g0 : (q ++ c :: b).getD 0 0 = q.getD 0 0 := by simp [List.getD, List.getElem?_append_left hl]
  have eD : endD (q ++ c :: b) 0 = q.length := by
    unfold endD; simp only [List.drop_zero, Nat.zero_add]
    rw [span_app hc]
    exact span_is (Nat.le_refl _) (fun j x _ hx => h2 x (List.mem_of_getElem? hx)) (fun x hx => by simp at hx)
  unfold nextP
  rw [g0, if_neg (by rw [h1]; decide), if_pos h1]
  unfold countP
  rw [eD, cut_app]; rfl
theorem next_small_end {q : List Nat} (hne : q ≠ []) (h1 : classV (q.getD 0 0) = 3) (h2 : ∀ r ∈ q, smallR r = true) :
    nextP q 0 = (if q.all digR then (if numOk q then .inl (⟨2, ⟨#[]⟩, (valR q : Int), 0⟩, q.length) else .inr (0, 50)) else .inl (⟨3, strR q, 0, 0⟩, q.length)) := by
  have eD : endD q 0 = q.length := by
    unfold endD; simp only [List.drop_zero, Nat.zero_add]
    exact span_is (Nat.le_refl _) (fun j x _ hx => h2 x (List.mem_of_getElem? hx)) (fun x hx => by simp at hx)
  have ec : cutR q 0 q.length = q := by have := cut_app q []; simpa using this
  unfold nextP
  rw [if_neg (by rw [h1]; decide), if_pos h1]
  unfold countP
  rw [eD, ec]; rfl
theorem next_sign {c : Nat} {b : List Nat} (hc : c = 61 ∨ c = 58 ∨ c = 45) : nextP (c :: b) 0 = .inl (⟨5, strR [c], 0, 0⟩, 1) := by
  rcases hc with rfl | rfl | rfl <;> rfl
theorem Lx_sign {c : Nat} {b : List Nat} {ts : List Tk} (hc : c = 61 ∨ c = 58 ∨ c = 45) (h : Lx b ts) : Lx (c :: b) (⟨5, strR [c], 0, 0⟩ :: ts) :=
  Lx_cons (by simp) (next_sign hc) (by simpa using h)
def sgT (c : UInt8) : Tk := ⟨5, ⟨#[c]⟩, 0, 0⟩
def wdT (l : List UInt8) : Tk := ⟨1, ⟨l.toArray⟩, 0, 0⟩
def nuT (n : Int) : Tk := ⟨2, ⟨#[]⟩, n, 0⟩
def tmT (l : List UInt8) : Tk := ⟨3, ⟨l.toArray⟩, 0, 0⟩
theorem strR_sign {c : UInt8} (h : c.toNat < 128) : (⟨5, strR [c.toNat], 0, 0⟩ : Tk) = sgT c := by
  have : strR [c.toNat] = ⟨#[c]⟩ := by
    have e : [c.toNat].flatMap enc = [c] := by simp [enc_one h]
    unfold strR; rw [e]
  rw [this]; rfl
/-- a small letter -/
def lowL (b : UInt8) : Bool := decide (97 ≤ b.toNat) && decide (b.toNat ≤ 122)
theorem low_lt {b : UInt8} (h : lowL b = true) : 97 ≤ b.toNat ∧ b.toNat ≤ 122 := by unfold lowL at h; simpa using h
theorem low_class {b : UInt8} (h : lowL b = true) : classV (b.toNat : Int) = 2 := by
  have := low_lt h
  unfold classV
  repeat' split
  all_goals omega
theorem low_word {b : UInt8} (h : lowL b = true) : wordR b.toNat = true := letter_word (low_class h)
theorem lowT_low {l : List UInt8} (h : ∀ b ∈ l, lowL b = true) : lowT (l.map UInt8.toNat) = ⟨l.toArray⟩ := by
  have e : (l.map UInt8.toNat).flatMap enc = l := by
    rw [flat_small (fun r hr => by obtain ⟨b, hb, rfl⟩ := List.mem_map.1 hr; have := low_lt (h b hb); omega), List.map_map]
    conv => rhs; rw [← List.map_id l]
    exact List.map_congr_left (fun b _ => by simp)
  unfold lowT
  rw [bl_strR, e]
  have : l.map lowB = l := by
    conv => rhs; rw [← List.map_id l]
    refine List.map_congr_left (fun b hb => ?_)
    have := low_lt (h b hb)
    unfold lowB; rw [if_neg (by omega)]; rfl
  rw [this]
/-- a field's name and its = -/
theorem Lx_name {l : List UInt8} (h : ∀ b ∈ l, lowL b = true) (hne : l ≠ []) {b : List UInt8} {ts : List Tk} (hx : Lx (runes b) ts) : Lx (runes (l ++ 61 :: b)) (wdT l :: sgT 61 :: ts) := by
  have hr : runes (l ++ 61 :: b) = l.map UInt8.toNat ++ 61 :: runes b := by
    rw [runes_lows (fun x hx => by have := low_lt (h x hx); omega), runes_low (by decide)]; rfl
  rw [hr]
  have hlne : l.map UInt8.toNat ≠ [] := by simpa using hne
  have hc : classV ((l.map UInt8.toNat).getD 0 0 : Nat) = 2 := by
    cases l with
    | nil => exact absurd rfl hne
    | cons x t => exact low_class (h x (by simp))
  have hw : ∀ r ∈ l.map UInt8.toNat, wordR r = true := fun r hr => by obtain ⟨b, hb, rfl⟩ := List.mem_map.1 hr; exact low_word (h b hb)
  have h1 := next_word (c := 61) (b := runes b) hlne hc hw (by decide)
  rw [lowT_low h] at h1
  refine Lx_cons (by simp) h1 ?_
  rw [List.drop_left]
  have h2 := Lx_sign (c := 61) (by omega) hx
  rw [show (61 : Nat) = (61 : UInt8).toNat from rfl, strR_sign (by decide)] at h2
  exact h2
/-- a number's digits -/
def nR (n : Nat) : List Nat := (Lib.decDigits n).map UInt8.toNat
theorem nR_dig (n : Nat) : ∀ r ∈ nR n, digR r = true := by
  intro r hr
  obtain ⟨b, hb, rfl⟩ := List.mem_map.1 hr
  have := dd_isD n b hb
  unfold isD at this
  simp only [Bool.and_eq_true, decide_eq_true_eq] at this
  rw [digR_iff]; omega
theorem nR_ne (n : Nat) : nR n ≠ [] := by unfold nR; simpa using dd_ne n
theorem nR_class (n : Nat) : classV ((nR n).getD 0 0 : Nat) = 3 := by
  cases h : nR n with
  | nil => exact absurd h (nR_ne n)
  | cons x t =>
    have := nR_dig n x (by rw [h]; simp)
    rw [digR_iff] at this
    exact digit_iff.2 this
theorem dd_len9 : ∀ (k n : Nat), n < 10 ^ (k + 1) → (Lib.decDigits n).length ≤ k + 1
  | 0, n, h => by rw [dd_lt (by simpa using h)]; simp
  | k + 1, n, h => by
    by_cases h1 : n < 10
    · rw [dd_lt h1]; simp
    · rw [dd_ge h1, List.length_append]
      have := dd_len9 k (n / 10) (by rw [Nat.pow_succ] at h; omega)
      simp; omega
theorem nR_num {n : Nat} (h : n < 1000000000) : numOk (nR n) = true := by
  have hl : (nR n).length ≤ 9 := by unfold nR; rw [List.length_map]; exact dd_len9 8 n (by omega)
  unfold numOk
  rw [Bool.and_eq_true]
  refine ⟨by simpa using hl, ?_⟩
  by_cases h0 : 0 < n
  · have := dd_head h0
    cases hd : Lib.decDigits n with
    | nil => exact absurd hd (dd_ne n)
    | cons x t =>
      rw [hd] at this
      have hx : ¬ x.toNat = 48 := fun e => this (by
        have : x = 48 := UInt8.toNat_inj.1 e
        rw [this]; rfl)
      unfold nR; rw [hd]
      simp [hx]
  · have : n = 0 := by omega
    subst this
    unfold nR; rw [dd_lt (by omega)]; decide
theorem nR_val (n : Nat) : valR (nR n) = n := by
  have h1 := valD_map (nR_dig n)
  have h2 : (nR n).map UInt8.ofNat = Lib.decDigits n := by
    unfold nR; rw [List.map_map]
    conv => rhs; rw [← List.map_id (Lib.decDigits n)]
    exact List.map_congr_left (fun b _ => by simp)
  rw [h2, dd_val] at h1
  exact h1.symm
theorem nR_runes (n : Nat) (b : List UInt8) : runes (Lib.decDigits n ++ b) = nR n ++ runes b := runes_lows (fun x hx => by
  have := dd_isD n x hx
  unfold isD at this
  simp only [Bool.and_eq_true, decide_eq_true_eq] at this
  omega) b
theorem Lx_num {n : Nat} (h : n < 1000000000) : Lx (runes (Lib.decDigits n)) [nuT n] := by
  have hr := nR_runes n []
  rw [List.append_nil] at hr
  rw [hr, runes_nil, List.append_nil]
  have h1 := next_small_end (nR_ne n) (nR_class n) (fun r hr => dig_small (nR_dig n r hr))
  rw [if_pos (List.all_eq_true.2 (nR_dig n)), if_pos (nR_num h), nR_val] at h1
  refine Lx_cons (nR_ne n) h1 ?_
  rw [List.drop_length]; rfl
theorem Lx_num_sign {n : Nat} (h : n < 1000000000) {c : UInt8} (hc : c = 58 ∨ c = 45) {b : List UInt8} {ts : List Tk} (hx : Lx (runes b) ts) : Lx (runes (Lib.decDigits n ++ c :: b)) (nuT n :: sgT c :: ts) := by
  have hcs : c.toNat < 128 := by rcases hc with rfl | rfl <;> decide
  have hcn : c.toNat = 61 ∨ c.toNat = 58 ∨ c.toNat = 45 := by rcases hc with rfl | rfl <;> decide
  rw [nR_runes, runes_low hcs]
  have h1 := next_small_ (c := c.toNat) (b := runes b) (nR_ne n) (nR_class n) (fun r hr => dig_small (nR_dig n r hr)) (by rcases hc with rfl | rfl <;> decide)
  rw [if_pos (List.all_eq_true.2 (nR_dig n)), if_pos (nR_num h), nR_val] at h1
  refine Lx_cons (by simp) h1 ?_
  rw [List.drop_left]
  have h2 := Lx_sign hcn hx
  rw [strR_sign hcs] at h2
  exact h2
/-- a time's text -/
theorem pts_small : ∀ (k n : Nat), k ≤ 4 → ∀ b ∈ pts k n, isD b = true ∨ b = 100 ∨ b = 104 ∨ b = 109 ∨ b = 115
  | 0, n, _ => by simp [pts]
  | k + 1, n, hk => by
    intro b hb
    unfold pts at hb
    rw [List.mem_append] at hb
    rcases hb with hb | hb
    · exact pts_small k n (by omega) b hb
    · unfold pt at hb
      split at hb
      · rw [List.mem_append] at hb
        rcases hb with hb | hb
        · exact .inl (dd_isD _ b hb)
        · rw [List.mem_singleton] at hb
          subst hb
          right
          rcases k with _ | _ | _ | k <;> simp [sg]
      · simp at hb
theorem show_small (n : Nat) : ∀ b ∈ showL n, isD b = true ∨ b = 100 ∨ b = 104 ∨ b = 109 ∨ b = 115 := by
  unfold showL
  split
  · intro b hb; simp at hb; rcases hb with rfl | rfl <;> decide
  · exact pts_small 4 n (by omega)
theorem unit_small {b : UInt8} (h : isD b = true ∨ b = 100 ∨ b = 104 ∨ b = 109 ∨ b = 115) : smallR b.toNat = true ∧ b.toNat < 128 := by
  rcases h with h | rfl | rfl | rfl | rfl
  · unfold isD at h; simp only [Bool.and_eq_true, decide_eq_true_eq] at h; unfold smallR; simp; omega
  all_goals decide
/-- what stands first: a digit -/
theorem pts_first : ∀ (k n : Nat), k ≤ 4 → pts k n = [] ∨ ∃ b t, pts k n = b :: t ∧ isD b = true
  | 0, n, _ => .inl rfl
  | k + 1, n, hk => by
    rcases pts_first k n (by omega) with h | ⟨b, t, h, hb⟩
    · unfold pts; rw [h, List.nil_append]
      unfold pt
      split
      · right
        cases hd : Lib.decDigits (ct k n) with
        | nil => exact absurd hd (dd_ne _)
        | cons b t => exact ⟨b, t ++ [sg k], by simp, dd_isD _ b (by rw [hd]; simp)⟩
      · exact .inl rfl
    · right
      exact ⟨b, t ++ pt k n, by unfold pts; rw [h]; rfl, hb⟩
theorem pts_unit : ∀ (k n : Nat), k ≤ 4 → pts k n = [] ∨ ∃ b ∈ pts k n, isD b = false
  | 0, n, _ => .inl rfl
  | k + 1, n, hk => by
    by_cases hp : pt k n = []
    · rcases pts_unit k n (by omega) with h | ⟨b, hb, h⟩
      · left; unfold pts; rw [h, hp]; rfl
      · right; exact ⟨b, by unfold pts; simp [hb], h⟩
    · right
      refine ⟨sg k, ?_, sg_not k⟩
      unfold pts pt at *
      split at hp
      · rename_i hh; rw [if_pos hh]; simp
      · exact absurd rfl hp
theorem show_facts (n : Nat) : (∃ b t, showL n = b :: t ∧ isD b = true) ∧ (∃ b ∈ showL n, isD b = false) := by
  unfold showL
  split
  · exact ⟨⟨48, [115], rfl, by decide⟩, 115, by simp, by decide⟩
  · rename_i h
    have hne : pts 4 n ≠ [] := fun e => h (pts_nil.1 e)
    exact ⟨(pts_first 4 n (by omega)).resolve_left hne, (pts_unit 4 n (by omega)).resolve_left hne⟩
theorem Lx_time (n : Nat) : Lx (runes (showL n)) [tmT (showL n)] := by
  obtain ⟨⟨b, t, hbt, hb⟩, u, hu, hud⟩ := show_facts n
  have hr : runes (showL n) = (showL n).map UInt8.toNat := by
    have := runes_lows (a := showL n) (fun x hx => (unit_small (show_small n x hx)).2) []
    simpa [runes_nil] using this
  have hfl : ((showL n).map UInt8.toNat).flatMap enc = showL n := by
    rw [flat_small (fun r hr => by obtain ⟨b, hb, rfl⟩ := List.mem_map.1 hr; exact (unit_small (show_small n b hb)).2), List.map_map]
    conv => rhs; rw [← List.map_id (showL n)]
    exact List.map_congr_left (fun b _ => by simp)
  have hne : (showL n).map UInt8.toNat ≠ [] := by rw [hbt]; simp
  have hc : classV (((showL n).map UInt8.toNat).getD 0 0 : Nat) = 3 := by
    rw [hbt]
    unfold isD at hb; simp only [Bool.and_eq_true, decide_eq_true_eq] at hb
    exact digit_iff.2 (by simpa using hb)
  have hnd : ¬ ((showL n).map UInt8.toNat).all digR = true := by
    intro h
    have h1 := List.all_eq_true.1 h u.toNat (List.mem_map_of_mem hu)
    rw [digR_iff] at h1
    unfold isD at hud
    simp [h1.1, h1.2] at hud
  rw [hr]
  have h1 := next_small_end hne hc (fun r hr => by obtain ⟨b, hb, rfl⟩ := List.mem_map.1 hr; exact (unit_small (show_small n b hb)).1)
  rw [if_neg hnd] at h1
  have e : strR ((showL n).map UInt8.toNat) = ⟨(showL n).toArray⟩ := by unfold strR; rw [hfl]
  rw [e] at h1
  refine Lx_cons hne h1 ?_
  rw [List.drop_length]; rfl
/-- a text, quoted -/
theorem scan_quoted : ∀ (qs b : List Nat), (∀ q ∈ qs, badR q = false) → scan false (quoteRs qs ++ 34 :: b) = (quoteRs qs).length
  | [], b, _ => by unfold quoteRs; simp only [List.flatMap_nil, List.nil_append, scan]; rw [if_neg (by decide)]; rfl
  | q :: qs, b, h => by
    have hq := h q (by simp)
    have ih := scan_quoted qs b (fun x hx => h x (by simp [hx]))
    unfold quoteRs at ih ⊢
    rw [List.flatMap_cons]
    by_cases hs : q = 34 ∨ q = 92
    · rw [if_pos hs]
      simp only [List.cons_append, List.nil_append, scan]
      rw [if_pos (by decide)]
      have e1 : heldR false 92 = true := by decide
      rw [e1]
      have e2 : textR true q = true := by unfold textR; simp [hq]
      have e3 : heldR true q = false := by unfold heldR; simp
      rw [if_pos e2, e3, ih]; simp
    · rw [if_neg hs]
      simp only [List.cons_append, List.nil_append, scan]
      have e2 : textR false q = true := by unfold textR; simp [hq]; intro e; exact hs (.inl e)
      have e3 : heldR false q = false := by unfold heldR; simp; intro e; exact hs (.inr e)
      rw [if_pos e2, e3, ih]; simp
theorem Lx_text {u : List UInt8} (hu : okL u = true) : Lx (runes (quoteL u)) [⟨4, ⟨u.toArray⟩, 0, 0⟩] := by
  have hg : ∀ r ∈ runes u, badR r = false := ok_mem hu
  have hR : runes (quoteL u) = 34 :: (quoteRs (runes u) ++ [34]) := by
    rw [quote_rs hu]
    refine runes_flat (fun r hr => ?_)
    simp only [List.mem_cons, List.mem_append, List.not_mem_nil, or_false] at hr
    rcases hr with rfl | hr | rfl
    · decide
    · exact quoteRs_good hg r hr
    · decide
  have hsc : scan true (34 :: (quoteRs (runes u) ++ [34])) = (quoteRs (runes u)).length + 1 := by
    rw [scan, if_pos (by decide), show heldR true 34 = false by decide, scan_quoted _ _ hg]
  rw [hR]
  have hfl : (34 :: (quoteRs (runes u) ++ [34])).flatMap enc = quoteL u := (quote_rs hu).symm
  generalize hL : quoteRs (runes u) = q at hsc hfl
  have eT : endT (34 :: (q ++ [34])) 0 = q.length + 1 := by unfold endT; simp only [List.drop_zero, Nat.zero_add]; exact hsc
  have ec : cutR (34 :: (q ++ [34])) 0 (q.length + 1 + 1) = 34 :: (q ++ [34]) := by
    have := cut_app (34 :: (q ++ [34])) []
    simpa using this
  have h1 : nextP (34 :: (q ++ [34])) 0 = .inl (⟨4, ⟨u.toArray⟩, 0, 0⟩, q.length + 1 + 1) := by
    unfold nextP
    simp only [List.getD_cons_zero]
    rw [if_neg (by decide), if_neg (by decide)]
    simp only [if_true]
    unfold textP
    rw [eT, if_neg (by simp), if_neg (by simp [List.getD]), ec, bl_strR, hfl, unqT, unq_quote hu]
    rfl
  refine Lx_cons (by simp) h1 ?_
  have : (34 :: (q ++ [34])).drop (q.length + 1 + 1) = [] := by apply List.drop_of_length_le; simp
  rw [this]; rfl
/-- a field's value, as it is written -/
inductive Vt where
  | word (s : ByteArray) | num (n : Int) | time (n : Int) | alt (a b : Int) | rng (a b : Int)
def vlOf : Vt → Vl | .word s => .text s | .num n => .count n | .time n => .count n | .alt a b => .pair a b | .rng a b => .rng a b
def vtT : Vt → List UInt8
  | .word s => bl s | .num n => Lib.itoa n | .time n => showL n.toNat | .alt a b => Lib.itoa a ++ 58 :: showL b.toNat | .rng a b => Lib.itoa a ++ 45 :: Lib.itoa b
abbrev Fl := List UInt8 × Vt
def fText (f : Fl) : List UInt8 := f.1 ++ 61 :: vtT f.2
def vToks : Vt → List Tk
  | .word s => [⟨1, s, 0, 0⟩] | .num n => [nuT n] | .time n => [tmT (showL n.toNat)] | .alt a b => [nuT a, sgT 58, tmT (showL b.toNat)] | .rng a b => [nuT a, sgT 45, nuT b]
def fToks (f : Fl) : List Tk := wdT f.1 :: sgT 61 :: vToks f.2
def bWd (k : Int) : List UInt8 := bl (wordsL8.getD k.toNat ⟨#[]⟩)
def depW (h : Int) : List UInt8 := if h = 1 then bAny else if h = 2 then bGood else bBad
def formF (s : Sh) : List Fl :=
  if s.kind = 1 then [(bNodes, .num (s.alts.getD 0 (0, 0)).1), (bTime, .time (s.alts.getD 0 (0, 0)).2)]
  else if s.kind = 2 then s.alts.map fun a => (bAlt, .alt a.1 a.2)
  else if s.kind = 3 then [(bRange, .rng s.mn s.mx), (bTime, .time s.wall)]
  else []
def fieldsF (c : Cm) : List Fl :=
  (if c.kind = 1 then [(bU, .word c.user), (bA, .word c.account)] else []) ++ ((if c.hasPrio = true then [(bPrio, .num c.prio)] else []) ++ (c.after.map (fun d => (depW d.1, .num d.2)) ++
    ((if c.kind = 10 then [(bFrom, .num c.frm)] else []) ++ ((if 0 < c.nodes then [(bNodes, .num c.nodes)] else []) ++ (formF c.shape ++ (if c.hasTime = true then [(bTime, .time c.time)] else []))))))
def subjT (c : Cm) : List UInt8 :=
  if c.kind = 1 then (if wordB c.name = true then bl c.name else if okL (bl c.name) = true then quoteL (bl c.name) else [])
  else if c.kind = 7 ∨ c.kind = 8 ∨ c.kind = 9 then Lib.itoa c.node
  else if 0 < c.job then Lib.itoa c.job else []
def partsP (c : Cm) : List (List UInt8) := bWd c.kind :: ((if subjT c = [] then [] else [subjT c]) ++ (fieldsF c).map fText)
def lineP (c : Cm) : List UInt8 := Lib.join (partsP c) [32]
def cshowP (c : Cm) : ByteArray × Int := if cmdE c = 0 then (if (lineP c).length ≤ 400 then (⟨(lineP c).toArray⟩, 0) else (⟨#[]⟩, 3)) else (⟨#[]⟩, 80)
def okVt : Vt → Prop
  | .word s => nameB s = true ∧ wordB s = true | .num n => 0 ≤ n ∧ n ≤ 1000000 | .time n => 1 ≤ n ∧ n ≤ 100000 | .alt a b => 1 ≤ a ∧ a ≤ 48 ∧ 1 ≤ b ∧ b ≤ 100000 | .rng a b => 1 ≤ a ∧ a ≤ 48 ∧ 1 ≤ b ∧ b ≤ 48
theorem itoa_nn {n : Int} (h : 0 ≤ n) : Lib.itoa n = Lib.decDigits n.toNat := by
  obtain ⟨m, rfl⟩ := Int.eq_ofNat_of_zero_le h
  rw [itoa_nat]; rfl
theorem nuT_nn {n : Int} (h : 0 ≤ n) : nuT (n.toNat : Int) = nuT n := by rw [Int.toNat_of_nonneg h]
theorem Lx_value {v : Vt} (h : okVt v) : Lx (runes (vtT v)) (vToks v) := by
  cases v with
  | word s =>
    obtain ⟨_, h1⟩ := h
    unfold wordB at h1
    have h2 := (check_zero (by simpa using h1)).2.1
    exact lexP_Lx h2
  | num n =>
    have := Lx_num (n := n.toNat) (by have := h.2; omega)
    rw [nuT_nn h.1] at this
    show Lx (runes (Lib.itoa n)) [nuT n]; rw [itoa_nn h.1]; exact this
  | time n => exact Lx_time _
  | alt a b =>
    have := Lx_num_sign (n := a.toNat) (by have := h.2.1; omega) (c := 58) (.inl rfl) (Lx_time b.toNat)
    rw [nuT_nn (by have := h.1; omega)] at this
    show Lx (runes (Lib.itoa a ++ 58 :: showL b.toNat)) _; rw [itoa_nn (n := a) (by have := h.1; omega)]; exact this
  | rng a b =>
    have h2 := Lx_num (n := b.toNat) (by have := h.2.2.2; omega)
    rw [nuT_nn (by have := h.2.2.1; omega)] at h2
    have := Lx_num_sign (n := a.toNat) (by have := h.2.1; omega) (c := 45) (.inr rfl) h2
    rw [nuT_nn (by have := h.1; omega)] at this
    show Lx (runes (Lib.itoa a ++ 45 :: Lib.itoa b)) _; rw [itoa_nn (n := a) (by have := h.1; omega), itoa_nn (n := b) (by have := h.2.2.1; omega)]; exact this
def lowN (l : List UInt8) : Prop := (∀ b ∈ l, lowL b = true) ∧ l ≠ []
theorem Lx_field {f : Fl} (h1 : lowN f.1) (h2 : okVt f.2) : Lx (runes (fText f)) (fToks f) := Lx_name h1.1 h1.2 (Lx_value h2)
/-- pieces, blanks between them -/
theorem join_cons (a b : List UInt8) (l : List (List UInt8)) : Lib.join (a :: b :: l) [32] = a ++ 32 :: Lib.join (b :: l) [32] := by
  rw [Lib.join_cons, Lib.join_cons]
  simp [Lib.joinTail]
theorem Lx_pieces : ∀ {l : List (List UInt8 × List Tk)}, l ≠ [] → (∀ x ∈ l, Lx (runes x.1) x.2) → Lx (runes (Lib.join (l.map (·.1)) [32])) (l.flatMap (·.2))
  | [], h, _ => absurd rfl h
  | [x], _, h => by
    rw [List.map_singleton, Lib.join_one]
    simpa using h x (by simp)
  | x :: y :: l, _, h => by
    rw [List.map_cons, List.map_cons, join_cons, ← List.map_cons, runes_app32, List.flatMap_cons]
    exact Lx_app (h x (by simp)) (Lx_pieces (l := y :: l) (by simp) (fun z hz => h z (List.mem_cons_of_mem _ hz)))
def subjK (c : Cm) : List Tk :=
  if c.kind = 1 then [⟨if wordB c.name = true then 1 else 4, c.name, 0, 0⟩] else if c.kind = 7 ∨ c.kind = 8 ∨ c.kind = 9 then [nuT c.node] else if 0 < c.job then [nuT c.job] else []
def toksP (c : Cm) : List Tk := wdT (bWd c.kind) :: (subjK c ++ (fieldsF c).flatMap fToks)
/-- what a command has that may be -/
structure OkC (c : Cm) : Prop where
  kind : 1 ≤ c.kind ∧ c.kind ≤ 12
  name : c.kind = 1 → nameB c.name = true
  node : (c.kind = 7 ∨ c.kind = 8 ∨ c.kind = 9) → 0 ≤ c.node ∧ c.node ≤ 47
  job : 0 ≤ c.job ∧ c.job ≤ 99999
  flds : ∀ f ∈ fieldsF c, lowN f.1 ∧ okVt f.2
theorem kinds12 {k : Int} (h1 : 1 ≤ k) (h2 : k ≤ 12) : k = 1 ∨ k = 2 ∨ k = 3 ∨ k = 4 ∨ k = 5 ∨ k = 6 ∨ k = 7 ∨ k = 8 ∨ k = 9 ∨ k = 10 ∨ k = 11 ∨ k = 12 := by omega
theorem Lx_low {l : List UInt8} (h : lowN l) : Lx (runes l) [wdT l] := by
  have hr : runes l = l.map UInt8.toNat := by
    have := runes_lows (a := l) (fun x hx => by have := low_lt (h.1 x hx); omega) []
    simpa [runes_nil] using this
  have hlne : l.map UInt8.toNat ≠ [] := by simpa using h.2
  have hc : classV ((l.map UInt8.toNat).getD 0 0 : Nat) = 2 := by
    cases l with
    | nil => exact absurd rfl h.2
    | cons x t => exact low_class (h.1 x (by simp))
  have hw : ∀ r ∈ l.map UInt8.toNat, wordR r = true := fun r hr => by obtain ⟨b, hb, rfl⟩ := List.mem_map.1 hr; exact low_word (h.1 b hb)
  rw [hr]
  have eW : endW (l.map UInt8.toNat) 0 = (l.map UInt8.toNat).length := by
    unfold endW; simp only [List.drop_zero, Nat.zero_add]
    exact span_is (Nat.le_refl _) (fun j x _ hx => hw x (List.mem_of_getElem? hx)) (fun x hx => by simp at hx)
  have ec : cutR (l.map UInt8.toNat) 0 (l.map UInt8.toNat).length = l.map UInt8.toNat := by have := cut_app (l.map UInt8.toNat) []; simpa using this
  have h1 : nextP (l.map UInt8.toNat) 0 = .inl (wdT l, (l.map UInt8.toNat).length) := by
    unfold nextP
    rw [if_pos hc, eW, ec, lowT_low h.1]; rfl
  refine Lx_cons hlne h1 ?_
  rw [List.drop_length]; rfl
theorem kind_low {k : Int} (h1 : 1 ≤ k) (h2 : k ≤ 12) : lowN (bWd k) := by
  rcases kinds12 h1 h2 with rfl | rfl | rfl | rfl | rfl | rfl | rfl | rfl | rfl | rfl | rfl | rfl <;> exact ⟨by decide, by decide⟩
theorem name_ok8 {s : ByteArray} (h : nameB s = true) : okL (bl s) = true ∧ bl s ≠ [] := by
  unfold nameB at h
  simp only [Bool.and_eq_true, beq_iff_eq] at h
  obtain ⟨h1, h2⟩ := h
  have hok : okL (bl s) = true := by
    rcases hh : okL (bl s) with _ | _
    · rw [checkE_bad hh] at h1; simp at h1
    · rfl
  refine ⟨hok, fun e => ?_⟩
  rw [e] at h2
  unfold inB at h2
  simp [checkN, runes_nil] at h2
theorem Lx_line {c : Cm} (h : OkC c) : Lx (runes (lineP c)) (toksP c) := by
  have hF : ∀ x ∈ (fieldsF c).map (fun f => (fText f, fToks f)), Lx (runes x.1) x.2 := by
    intro x hx
    obtain ⟨f, hf, rfl⟩ := List.mem_map.1 hx
    exact Lx_field (h.flds f hf).1 (h.flds f hf).2
  have hW : Lx (runes (bWd c.kind)) [wdT (bWd c.kind)] := Lx_low (kind_low h.kind.1 h.kind.2)
  have mk : ∀ (sp : List (List UInt8 × List Tk)), (∀ x ∈ sp, Lx (runes x.1) x.2) → sp.map (·.1) = (if subjT c = [] then [] else [subjT c]) → sp.flatMap (·.2) = subjK c → Lx (runes (lineP c)) (toksP c) := by
    intro sp h1 h2 h3
    have := Lx_pieces (l := (bWd c.kind, [wdT (bWd c.kind)]) :: (sp ++ (fieldsF c).map (fun f => (fText f, fToks f)))) (by simp) (by
      intro x hx
      simp only [List.mem_cons, List.mem_append] at hx
      rcases hx with rfl | hx | hx
      · exact hW
      · exact h1 x hx
      · exact hF x hx)
    have e1 : ((bWd c.kind, [wdT (bWd c.kind)]) :: (sp ++ (fieldsF c).map (fun f => (fText f, fToks f)))).map (·.1) = partsP c := by
      unfold partsP
      rw [List.map_cons, List.map_append, h2, List.map_map]; rfl
    have e2 : ((bWd c.kind, [wdT (bWd c.kind)]) :: (sp ++ (fieldsF c).map (fun f => (fText f, fToks f)))).flatMap (·.2) = toksP c := by
      unfold toksP
      rw [List.flatMap_cons, List.flatMap_append, h3, List.flatMap_map]; rfl
    rw [e1, e2] at this
    exact this
  by_cases hk : c.kind = 1
  · obtain ⟨hok, hne⟩ := name_ok8 (h.name hk)
    by_cases hw : wordB c.name = true
    · have e : subjT c = bl c.name := by unfold subjT; rw [if_pos hk, if_pos hw]
      refine mk [(bl c.name, [⟨1, c.name, 0, 0⟩])] ?_ (by rw [e, if_neg hne]; rfl) (by unfold subjK; rw [if_pos hk, if_pos hw]; rfl)
      intro x hx
      rw [List.mem_singleton] at hx; subst hx
      have h2 := (check_zero (t := ⟨1, c.name, 0, 0⟩) (by unfold wordB at hw; simpa using hw)).2.1
      exact lexP_Lx h2
    · have e : subjT c = quoteL (bl c.name) := by unfold subjT; rw [if_pos hk, if_neg hw, if_pos hok]
      refine mk [(quoteL (bl c.name), [⟨4, c.name, 0, 0⟩])] ?_ (by rw [e, if_neg (by unfold quoteL; simp)]; rfl) (by unfold subjK; rw [if_pos hk, if_neg hw]; rfl)
      intro x hx
      rw [List.mem_singleton] at hx; subst hx
      have h2 := Lx_text hok
      rw [show (⟨(bl c.name).toArray⟩ : ByteArray) = c.name by simp [bl]] at h2
      exact h2
  have num : ∀ n : Int, 0 ≤ n → n ≤ 99999 → Lib.itoa n ≠ [] ∧ Lx (runes (Lib.itoa n)) [nuT n] := by
    intro n h0 h1
    rw [itoa_nn h0]
    refine ⟨dd_ne _, ?_⟩
    have := Lx_num (n := n.toNat) (by omega)
    rwa [nuT_nn h0] at this
  by_cases hn : c.kind = 7 ∨ c.kind = 8 ∨ c.kind = 9
  · obtain ⟨h1, h2⟩ := h.node hn
    obtain ⟨h3, h4⟩ := num c.node h1 (by omega)
    have e : subjT c = Lib.itoa c.node := by unfold subjT; rw [if_neg hk, if_pos hn]
    refine mk [(Lib.itoa c.node, [nuT c.node])] ?_ (by rw [e, if_neg h3]; rfl) (by unfold subjK; rw [if_neg hk, if_pos hn]; rfl)
    intro x hx
    rw [List.mem_singleton] at hx; subst hx
    exact h4
  by_cases hj : 0 < c.job
  · obtain ⟨h3, h4⟩ := num c.job (by omega) h.job.2
    have e : subjT c = Lib.itoa c.job := by unfold subjT; rw [if_neg hk, if_neg hn, if_pos hj]
    refine mk [(Lib.itoa c.job, [nuT c.job])] ?_ (by rw [e, if_neg h3]; rfl) (by unfold subjK; rw [if_neg hk, if_neg hn, if_pos hj]; rfl)
    intro x hx
    rw [List.mem_singleton] at hx; subst hx
    exact h4
  · have e : subjT c = [] := by unfold subjT; rw [if_neg hk, if_neg hn, if_neg hj]
    exact mk [] (by simp) (by rw [e, if_pos rfl]; rfl) (by unfold subjK; rw [if_neg hk, if_neg hn, if_neg hj]; rfl)
/-- the tokens of a command's line -/
theorem tok_line {c : Cm} (h : OkC c) (hl : (lineP c).length ≤ 400) : ∃ us, tokP ⟨(lineP c).toArray⟩ = (us, ((runes (lineP c)).length : Int), 0) ∧ us.map nop = toksP c := by
  obtain ⟨us, h1, h2⟩ := Lx_lexP (Lx_line h)
  have e : bl (⟨(lineP c).toArray⟩ : ByteArray) = lineP c := by simp [bl]
  refine ⟨us, ?_, h2⟩
  rw [tokP_inl (s := ⟨(lineP c).toArray⟩) (by rw [← size_bl, e]; exact hl) (by rw [e]; exact h1), e]
end Go.Proofs.YtjmhaoplablmnaaGreatDoor
