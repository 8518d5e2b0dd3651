/- Bundle P1. -/
import Derived.Test.YtjmhaoplablmnaaGreatDoorQ1s
import Derived.Test.YtjmhaoplablmnaaGreatDoorK7s
import Derived.Test.YtjmhaoplablmnaaGreatDoorK5s
import Derived.Test.YtjmhaoplablmnaaGreatDoorK10s
import Derived.Test.YtjmhaoplablmnaaGreatDoorK9s
import Derived.Lib.Join
namespace Go.Proofs.YtjmhaoplablmnaaGreatDoor
set_option linter.unusedSimpArgs false
set_option maxRecDepth 100000
set_option linter.unusedVariables false
open Go.RowKit
def idxS (xs : List ByteArray) (s : ByteArray) : Int := match xs.findIdx? (fun x => s.toList == x.toList) with | some k => (k : Int) | none => -1
theorem find_first {α : Type} {p : α → Bool} : ∀ {l : List α} {k : Nat} {x : α}, l[k]? = some x → p x = true → (∀ y ∈ l.take k, p y = false) → l.findIdx? p = some k
  | [], k, x, h, _, _ => by simp at h
  | y :: t, 0, x, h, hp, _ => by
    simp at h; subst h
    rw [List.findIdx?_cons, hp]; rfl
  | y :: t, k + 1, x, h, hp, ha => by
    have h1 := ha y (by simp)
    rw [List.findIdx?_cons, h1, find_first (l := t) (k := k) (by simpa using h) hp (fun z hz => ha z (by simp [hz]))]
    rfl
theorem find_none {α : Type} {p : α → Bool} {l : List α} (h : ∀ y ∈ l, p y = false) : l.findIdx? p = none := by
  induction l with
  | nil => rfl
  | cons y t ih => rw [List.findIdx?_cons, h y (by simp), ih (fun z hz => h z (by simp [hz]))]; rfl
theorem results_cell1 {P : Program} {fn : Func} {p t : Tmp} {ty : TypeId} (h : fn.results = #[.cell p ty, .tmp t]) (tmps : Array Value) (w : World) (g : Nat) (tt : TypeId) (cs : Array Value) (fr : Nat × Nat) (d : TypeDesc)
    (hp : tmps.getD p undef = .pointer (some ⟨g, 0, none⟩)) (hg : w.heap[g]? = some (.cells cs tt fr))
    (hu : P.underlying ty = some d) (hd : (match d with | .struct _ | .array _ _ => true | _ => false) = true) (hi : (P.info? ty).map (·.size) = some cs.size) :
    (results fn tmps).run P w = .ok (.tuple #[.agg cs, tmps.getD t undef]) w := by
  have hp' : tmps[p]?.getD undef = .pointer (some ⟨g, 0, none⟩) := by simpa using hp
  simp [results, h, hp', asAddr, run_loadVar_row w g tt ty cs fr d hg hu hd hi]
theorem itoa_any (x : Int) (w : World) (h0 : -9223372036854775808 ≤ x) (h1 : x ≤ 9223372036854775807) (hT : Lib.TabIs Tryz.prog w "internal/strconv.uint64pow10" .u64 Lib.pow10Tab) :
    Calls Tryz.prog 21 #[.int .i64 x] w fun e w' => e = .returned (.string ⟨(Lib.itoa x).toArray⟩) ∧ Below w.heap.size w w' :=
  (Tryz.strconv_Itoa x h0 h1 w hT).mono fun e w' ⟨he, k, os, hw⟩ => ⟨he, by rw [hw]; exact Lib.below_grow _ _ (Nat.le_refl _) _ _⟩
theorem index_s (A : Option Addr) (n c B : Nat) (l : List ByteArray) (x : ByteArray) (w : World) (hr : Reads w B 1 A n (strs l)) (hn : n ≤ 1000000) :
    Calls Tryz.prog 74 #[.slice A n c, .string x] w fun e w' => e = .returned (.int .i64 (idxS l x)) ∧ w = w' := by
  have hlen : l.length = n := by have := hr.1; simpa [strs] using this
  replace hlen := Lib.hid hlen
  go_enter Tryz.func74, Tryz.ntmps74
  go_wp2
  go_loop [8] (fun i => ∃ k : Nat, k ≤ n ∧ i = .int .i64 k ∧ Hid (∀ y ∈ l.take k, (x.toList == y.toList) = false)) (fun i => n - (intOf i).toNat)
  case atStart => exact ⟨0, Nat.zero_le _, rfl, (by show ∀ y ∈ _, _; simp)⟩
  case round =>
    obtain ⟨k, hk, rfl, HA⟩ := hrel
    by_cases hlt : k < n
    · obtain ⟨b, o, rfl, hb, hc⟩ := hr.plain (by omega) (by omega)
      obtain ⟨y, hy⟩ : ∃ y, Hid (l[k]? = some y) := ⟨_, List.getElem?_eq_getElem (by rw [hlen.out]; exact hlt)⟩
      have c0 := hc k (.string y) (by rw [strs, List.getElem?_map, hy.out]; rfl)
      have hj0 : (0 : Int) ≤ (k : Int) := by omega
      have hj1 : (k : Int) < (n : Int) := by omega
      clear hc hr
      by_cases t1 : (x.toList == y.toList) = true
      · have hf : Hid (idxS l x = (k : Int)) := by show _ = _; unfold idxS; rw [find_first (p := fun (y : ByteArray) => x.toList == y.toList) hy.out t1 HA.out]
        go_wp2
        go_ret
        exact ⟨by rw [hf.out]; rfl, rfl⟩
      · replace t1 : (x.toList == y.toList) = false := by simpa using t1
        have HB : Hid (∀ y ∈ l.take (k + 1), (x.toList == y.toList) = false) := by
          show ∀ y ∈ _, _
          intro z hz
          rw [take_snocT hy.out, List.mem_append] at hz
          rcases hz with hz | hz
          · exact HA.out z hz
          · rw [List.mem_singleton] at hz; subst hz; exact t1
        go_wp2
        go_round
        case rel => exact ⟨k + 1, by omega, by go_num, HB⟩
        case measure => simp [intOf]; omega
    · have hf : Hid (idxS l x = -1) := by
        show _ = _; unfold idxS
        rw [find_none (p := fun (y : ByteArray) => x.toList == y.toList)]
        have := HA.out
        rw [List.take_of_length_le (by rw [hlen.out]; omega)] at this
        exact this
      clear hr
      go_wp2
      go_ret
      exact ⟨by rw [hf.out]; rfl, rfl⟩
structure Rr where
  at_ : Nat
  bad : Int
def tk0 : Tk := ⟨0, ⟨#[]⟩, 0, 0⟩
def placeP (ts : List Tk) (en : Int) (i : Nat) : Int := match ts[i]? with | some t => t.at_ | none => en
def failP (ts : List Tk) (en : Int) (r : Rr) : Rr := if 0 ≤ r.bad then r else ⟨r.at_, placeP ts en r.at_⟩
def mayP (ts : List Tk) (k : Int) (p : Tk → Bool) (r : Rr) : Option Tk :=
  if r.bad < 0 then (match ts[r.at_]? with | some t => if t.kind = k ∧ p t = true then some t else none | none => none) else none
def takeP (ts : List Tk) (en : Int) (k : Int) (p : Tk → Bool) (r : Rr) : Tk × Bool × Rr :=
  match mayP ts k p r with | some t => (t, true, ⟨r.at_ + 1, r.bad⟩) | none => (tk0, false, failP ts en r)
def seesP (ts : List Tk) (k : Int) (r : Rr) : Bool := (mayP ts k (fun _ => true) r).isSome
def signP (ts : List Tk) (en : Int) (s : List UInt8) (r : Rr) : Rr := (takeP ts en 5 (fun t => t.text.toList == s) r).2.2
def numR (ts : List Tk) (en : Int) (p : Int → Bool) (r : Rr) : Int × Rr := ((takeP ts en 2 (fun t => p t.num) r).1.num, (takeP ts en 2 (fun t => p t.num) r).2.2)
def lenB (n : Int) : Bool := inB n 1 100000
def timeP (t : Tk) : Bool := (hrsE t.text.data.toList == 0) && lenB (hrsN t.text.data.toList)
def lengthP (ts : List Tk) (en : Int) (r : Rr) : Int × Rr :=
  match mayP ts 3 (fun _ => true) r with
  | some t => (hrsN t.text.data.toList, (takeP ts en 3 timeP r).2.2)
  | none => numR ts en lenB r
def namedP (ts : List Tk) (en : Int) (r : Rr) : ByteArray × Rr := ((takeP ts en 1 (fun t => nameB t.text) r).1.text, (takeP ts en 1 (fun t => nameB t.text) r).2.2)
inductive Vl where
  | none | text (s : ByteArray) | count (n : Int) | pair (a b : Int) | rng (a b : Int)
def bU : List UInt8 := [117, 115, 101, 114]
def bA : List UInt8 := [97, 99, 99, 111, 117, 110, 116]
def bPrio : List UInt8 := [112, 114, 105, 111]
def bAny : List UInt8 := [97, 110, 121]
def bGood : List UInt8 := [103, 111, 111, 100]
def bBad : List UInt8 := [98, 97, 100]
def bFrom : List UInt8 := [102, 114, 111, 109]
def bNodes : List UInt8 := [110, 111, 100, 101, 115]
def bAlt : List UInt8 := [97, 108, 116]
def bRange : List UInt8 := [114, 97, 110, 103, 101]
def bTime : List UInt8 := [116, 105, 109, 101]
def valueP (ts : List Tk) (en : Int) (f : List UInt8) (r : Rr) : Vl × Rr :=
  if f == bU || f == bA then (.text (namedP ts en r).1, (namedP ts en r).2)
  else if f == bPrio then (.count (numR ts en (fun n => inB n 0 100) r).1, (numR ts en (fun n => inB n 0 100) r).2)
  else if f == bAny || (f == bGood || f == bBad) then (.count (numR ts en (fun n => inB n 1 99999) r).1, (numR ts en (fun n => inB n 1 99999) r).2)
  else if f == bFrom then (.count (numR ts en (fun n => inB n 0 1000000) r).1, (numR ts en (fun n => inB n 0 1000000) r).2)
  else if f == bNodes then (.count (numR ts en (fun n => inB n 1 48) r).1, (numR ts en (fun n => inB n 1 48) r).2)
  else if f == bAlt then
    (.pair (numR ts en (fun n => inB n 1 48) r).1 (lengthP ts en (signP ts en [58] (numR ts en (fun n => inB n 1 48) r).2)).1, (lengthP ts en (signP ts en [58] (numR ts en (fun n => inB n 1 48) r).2)).2)
  else if f == bRange then
    (.rng (numR ts en (fun n => inB n 1 48) r).1 (numR ts en (fun n => inB n 1 48) (signP ts en [45] (numR ts en (fun n => inB n 1 48) r).2)).1, (numR ts en (fun n => inB n 1 48) (signP ts en [45] (numR ts en (fun n => inB n 1 48) r).2)).2)
  else (.count (lengthP ts en r).1, (lengthP ts en r).2)
def bW : Nat → List UInt8 | 1 => bU | 2 => bA | 3 => bPrio | 4 => bAny | 5 => bGood | 6 => bBad | 7 => bNodes | 8 => bAlt | 9 => bRange | 10 => bTime | 11 => bFrom | _ => []
def fieldsN (k : Int) : List Nat := if k = 1 then [1, 2, 3, 4, 5, 6, 7, 8, 9, 10] else if k = 5 then [3, 10] else if k = 6 then [7] else if k = 10 then [11, 7, 10] else []
def fieldsP (k : Int) : List ByteArray := (fieldsN k).map fun i => ⟨(bW i).toArray⟩
def manyP (f : List UInt8) : Int := if f == bAny || (f == bGood || f == bBad) then 4 else if f == bAlt then 6 else 1
def waitsP (f : List UInt8) : Bool := manyP f == 4
abbrev Fd := ByteArray × Vl
def likeP (f : List UInt8) (x : Fd) : Bool := (x.1.toList == f) || (waitsP f && waitsP x.1.toList)
def openP (k : Int) (had : List Fd) (f : ByteArray) : Bool := (fieldsP k).any (fun x => f.toList == x.toList) && decide (((had.countP (likeP f.toList) : Nat) : Int) < manyP f.toList)
def twiceP (f : Fd) (x : Fd) : Bool := match x.2, f.2 with | .count a, .count b => waitsP x.1.toList && (waitsP f.1.toList && (a == b)) | _, _ => false
def fieldP (ts : List Tk) (en : Int) (k : Int) (had : List Fd) (r : Rr) : Fd × Rr :=
  match mayP ts 1 (fun t => openP k had t.text) r with
  | none => ((⟨#[]⟩, .none), failP ts en r)
  | some t =>
    let q := signP ts en [61] ⟨r.at_ + 1, r.bad⟩
    let v := valueP ts en t.text.toList q
    if v.2.bad < 0 ∧ had.any (twiceP (t.text, v.1)) = true then ((t.text, v.1), failP ts en ⟨q.at_, v.2.bad⟩) else ((t.text, v.1), v.2)
def cm0 : Cm := ⟨0, 0, ⟨#[]⟩, ⟨#[]⟩, ⟨#[]⟩, sh0, 0, false, 0, false, [], 0, 0, 0⟩
def depsL : List ByteArray := [⟨#[]⟩, ⟨#[97, 110, 121]⟩, ⟨#[103, 111, 111, 100]⟩, ⟨#[98, 97, 100]⟩]
def putC (c : Cm) (f : Fd) : Cm :=
  match f.2 with
  | .none => c
  | .text s => if f.1.toList == bU then { c with user := s } else { c with account := s }
  | .pair a b => { c with shape := { c.shape with alts := c.shape.alts ++ [(a, b)] } }
  | .rng a b => { c with shape := { c.shape with mn := a, mx := b } }
  | .count n =>
    if f.1.toList == bPrio then { c with prio := n, hasPrio := true }
    else if f.1.toList == bFrom then { c with frm := n }
    else if f.1.toList == bNodes then { c with nodes := n }
    else if f.1.toList == bTime then { c with time := n, hasTime := true }
    else { c with after := c.after ++ [(idxS depsL f.1, n)] }
def wordsL8 : List ByteArray := [⟨#[]⟩, ⟨#[115, 117, 98, 109, 105, 116]⟩, ⟨#[99, 97, 110, 99, 101, 108]⟩, ⟨#[104, 111, 108, 100]⟩, ⟨#[114, 101, 108, 101, 97, 115, 101]⟩, ⟨#[97, 108, 116, 101, 114]⟩, ⟨#[114, 101, 115, 105, 122, 101]⟩, ⟨#[100, 114, 97, 105, 110]⟩, ⟨#[114, 101, 115, 117, 109, 101]⟩, ⟨#[102, 97, 105, 108]⟩, ⟨#[114, 101, 115, 101, 114, 118, 101]⟩, ⟨#[117, 110, 114, 101, 115, 101, 114, 118, 101]⟩, ⟨#[115, 116, 97, 116, 117, 115]⟩]
def subjP (ts : List Tk) (en : Int) (k : Int) (r : Rr) : Cm × Rr :=
  if k = 1 then
    let x := takeP ts en (if seesP ts 4 r then 4 else 1) (fun t => nameB t.text) r
    ({ cm0 with kind := k, name := x.1.text }, x.2.2)
  else if k = 7 ∨ k = 8 ∨ k = 9 then ({ cm0 with kind := k, node := (numR ts en (fun n => inB n 0 47) r).1 }, (numR ts en (fun n => inB n 0 47) r).2)
  else if k = 10 then ({ cm0 with kind := k }, r)
  else if k = 12 ∧ ts.length ≤ r.at_ then ({ cm0 with kind := k }, r)
  else ({ cm0 with kind := k, job := (numR ts en (fun n => inB n 1 99999) r).1 }, (numR ts en (fun n => inB n 1 99999) r).2)
def headP (ts : List Tk) (en : Int) (r : Rr) : Cm × Rr :=
  match mayP ts 1 (fun t => decide (0 < idxS wordsL8 t.text)) r with
  | none => (cm0, failP ts en r)
  | some t => subjP ts en (idxS wordsL8 t.text) ⟨r.at_ + 1, r.bad⟩
def loopP (ts : List Tk) (en : Int) : Nat → Cm → List Fd → Bool → Rr → Cm × Bool × Rr
  | 0, c, _, fr, r => (c, fr, r)
  | n + 1, c, had, fr, r =>
    if r.bad < 0 ∧ r.at_ < ts.length then
      let f := fieldP ts en c.kind had r
      loopP ts en n (if f.2.bad < 0 then putC c f.1 else c) (had ++ [f.1]) (fr || (f.1.1.toList == bFrom)) f.2
    else (c, fr, r)
def missP (c : Cm) (fr : Bool) : Bool :=
  if c.kind = 1 then (c.user.toList == []) || ((c.account.toList == []) || (decide (c.shape.alts.length = 0) && ((c.nodes == 0) && (c.shape.mn == 0) || !c.hasTime)))
  else if c.kind = 5 then !c.hasPrio && !c.hasTime
  else if c.kind = 6 then c.nodes == 0
  else if c.kind = 10 then !fr || ((c.nodes == 0) || !c.hasTime)
  else false
def shapedP (s : Sh) (nodes wall : Int) : Sh :=
  if 0 < s.alts.length then ⟨if 0 < nodes then 0 else 2, s.alts, s.mn, s.mx, wall⟩
  else if 0 < s.mn then ⟨if 0 < nodes then 0 else 3, s.alts, s.mn, s.mx, wall⟩
  else ⟨1, [(nodes, wall)], s.mn, s.mx, s.wall⟩
def closeP (c : Cm) : Cm := if c.kind = 1 then { c with shape := shapedP c.shape c.nodes c.time, nodes := 0, time := 0, hasTime := false } else c
def readP (ts : List Tk) (en : Int) : Cm × Int × Int :=
  let h := headP ts en ⟨0, -1⟩
  let x := loopP ts en (ts.length + 1) h.1 [] false h.2
  let r := if x.2.2.bad < 0 ∧ missP x.1 x.2.1 = true then failP ts en x.2.2 else x.2.2
  if 0 ≤ r.bad then (cm0, r.bad, 80)
  else if cmdE (closeP x.1) ≠ 0 ∨ (shE (closeP x.1).shape ≠ 0 ∧ x.1.kind = 1) then (cm0, 0, 80)
  else (closeP x.1, en, 0)
def cparseP (s : ByteArray) : Cm × Int × Int := if (tokP s).2.2 = 0 then readP (tokP s).1 (tokP s).2.1 else (cm0, (tokP s).2.1, (tokP s).2.2)
def lowL (b : UInt8) : Bool := decide (97 ≤ b.toNat) && decide (b.toNat ≤ 122)
def nR (n : Nat) : List Nat := (Lib.decDigits n).map UInt8.toNat
theorem dd_len9 : ∀ (k n : Nat), n < 10 ^ (k + 1) → (Lib.decDigits n).length ≤ k + 1
  | 0, n, h => by rw [dd_lt (by simpa using h)]; simp
  | k + 1, n, h => by
    by_cases h1 : n < 10
    · rw [dd_lt h1]; simp
    · rw [dd_ge h1, List.length_append]
      have := dd_len9 k (n / 10) (by rw [Nat.pow_succ] at h; omega)
      simp; omega
inductive Vt where
  | word (s : ByteArray) | num (n : Int) | time (n : Int) | alt (a b : Int) | rng (a b : Int)
def vtT : Vt → List UInt8
  | .word s => bl s | .num n => Lib.itoa n | .time n => showL n.toNat | .alt a b => Lib.itoa a ++ 58 :: showL b.toNat | .rng a b => Lib.itoa a ++ 45 :: Lib.itoa b
abbrev Fl := List UInt8 × Vt
def fText (f : Fl) : List UInt8 := f.1 ++ 61 :: vtT f.2
def bWd (k : Int) : List UInt8 := bl (wordsL8.getD k.toNat ⟨#[]⟩)
def depW (h : Int) : List UInt8 := if h = 1 then bAny else if h = 2 then bGood else bBad
def formF (s : Sh) : List Fl :=
  if s.kind = 1 then [(bNodes, .num (s.alts.getD 0 (0, 0)).1), (bTime, .time (s.alts.getD 0 (0, 0)).2)]
  else if s.kind = 2 then s.alts.map fun a => (bAlt, .alt a.1 a.2)
  else if s.kind = 3 then [(bRange, .rng s.mn s.mx), (bTime, .time s.wall)]
  else []
def fieldsF (c : Cm) : List Fl :=
  (if c.kind = 1 then [(bU, .word c.user), (bA, .word c.account)] else []) ++ ((if c.hasPrio = true then [(bPrio, .num c.prio)] else []) ++ (c.after.map (fun d => (depW d.1, .num d.2)) ++
    ((if c.kind = 10 then [(bFrom, .num c.frm)] else []) ++ ((if 0 < c.nodes then [(bNodes, .num c.nodes)] else []) ++ (formF c.shape ++ (if c.hasTime = true then [(bTime, .time c.time)] else []))))))
def subjT (c : Cm) : List UInt8 :=
  if c.kind = 1 then (if wordB c.name = true then bl c.name else if okL (bl c.name) = true then quoteL (bl c.name) else [])
  else if c.kind = 7 ∨ c.kind = 8 ∨ c.kind = 9 then Lib.itoa c.node
  else if 0 < c.job then Lib.itoa c.job else []
def partsP (c : Cm) : List (List UInt8) := bWd c.kind :: ((if subjT c = [] then [] else [subjT c]) ++ (fieldsF c).map fText)
def lineP (c : Cm) : List UInt8 := Lib.join (partsP c) [32]
def cshowP (c : Cm) : ByteArray × Int := if cmdE c = 0 then (if (lineP c).length ≤ 400 then (⟨(lineP c).toArray⟩, 0) else (⟨#[]⟩, 3)) else (⟨#[]⟩, 80)
def okVt : Vt → Prop
  | .word s => nameB s = true ∧ wordB s = true | .num n => 0 ≤ n ∧ n ≤ 1000000 | .time n => 1 ≤ n ∧ n ≤ 100000 | .alt a b => 1 ≤ a ∧ a ≤ 48 ∧ 1 ≤ b ∧ b ≤ 100000 | .rng a b => 1 ≤ a ∧ a ≤ 48 ∧ 1 ≤ b ∧ b ≤ 48
theorem itoa_nn {n : Int} (h : 0 ≤ n) : Lib.itoa n = Lib.decDigits n.toNat := by
  obtain ⟨m, rfl⟩ := Int.eq_ofNat_of_zero_le h
  rw [itoa_nat]; rfl
def lowN (l : List UInt8) : Prop := (∀ b ∈ l, lowL b = true) ∧ l ≠ []
theorem join_cons (a b : List UInt8) (l : List (List UInt8)) : Lib.join (a :: b :: l) [32] = a ++ 32 :: Lib.join (b :: l) [32] := by
  rw [Lib.join_cons, Lib.join_cons]
  simp [Lib.joinTail]
theorem kinds12 {k : Int} (h1 : 1 ≤ k) (h2 : k ≤ 12) : k = 1 ∨ k = 2 ∨ k = 3 ∨ k = 4 ∨ k = 5 ∨ k = 6 ∨ k = 7 ∨ k = 8 ∨ k = 9 ∨ k = 10 ∨ k = 11 ∨ k = 12 := by omega
theorem name_ok8 {s : ByteArray} (h : nameB s = true) : okL (bl s) = true ∧ bl s ≠ [] := by
  unfold nameB at h
  simp only [Bool.and_eq_true, beq_iff_eq] at h
  obtain ⟨h1, h2⟩ := h
  have hok : okL (bl s) = true := by
    rcases hh : okL (bl s) with _ | _
    · rw [checkE_bad hh] at h1; simp at h1
    · rfl
  refine ⟨hok, fun e => ?_⟩
  rw [e] at h2
  unfold inB at h2
  simp [checkN, runes_nil] at h2
end Go.Proofs.YtjmhaoplablmnaaGreatDoor
