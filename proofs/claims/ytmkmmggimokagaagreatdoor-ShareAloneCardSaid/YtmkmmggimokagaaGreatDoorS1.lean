/- Layer 7, plain: shapes, their options. Layer 7: pairs in slices; a function that is handed over; what may be. Layer 7: Check walked. Layer 7: apart walked. Layer 7: Check walked. Layer 7: Check walked, the other kinds. Layer 7: Same walked. Layer 7: slices.Clone walked. -/
import Derived.Test.YtmkmmggimokagaaGreatDoorK1
import Derived.Shelf.Abstract
import Derived.Laws.StructEq
import Derived.Deep.QuietTactic
import Derived.Lib.SliceRun
namespace Go.Proofs.YtmkmmggimokagaaGreatDoor
set_option linter.unusedVariables false
open Go.RowKit
/-- a pair of numbers: how many, and how long; or how, and whose -/
abbrev Pr := Int × Int
def prC (a : Pr) : List Value := [.int .i64 a.1, .int .i64 a.2]
theorem prC_len (a : Pr) : (prC a).length = 2 := rfl
/-- what a job asks for -/
structure Sh where
  kind : Int
  alts : List Pr
  mn : Int
  mx : Int
  wall : Int
deriving DecidableEq
def fineA (a : Pr) : Bool := decide (1 ≤ a.1) && decide (a.1 ≤ 48) && decide (1 ≤ a.2) && decide (a.2 ≤ 100000)
def bareS (s : Sh) : Bool := (s.mn == 0) && (s.mx == 0) && (s.wall == 0)
/-- no two of one size -/
def apartL (l : List Pr) : Bool := decide (l.map Prod.fst).Nodup
def okS (s : Sh) : Bool :=
  if s.kind = 1 then bareS s && decide (s.alts.length = 1) && s.alts.all fineA
  else if s.kind = 2 then bareS s && decide (1 ≤ s.alts.length) && decide (s.alts.length ≤ 6) && apartL s.alts && s.alts.all fineA
  else if s.kind = 3 then decide (s.alts.length = 0) && decide (s.mn ≤ s.mx) && fineA (s.mn, s.wall) && decide (s.mx ≤ 48)
  else false
def shE (s : Sh) : Int := if okS s = true then 0 else 70
def optS (s : Sh) : List Pr := if okS s = true then (if s.kind = 3 then (List.range (s.mx - s.mn + 1).toNat).map (fun (i : Nat) => (s.mx - (i : Int), s.wall)) else s.alts) else []
def allowS (s : Sh) (c n : Int) : Bool :=
  if c < 0 ∨ ((optS s).length : Int) ≤ c then false
  else if s.kind = 3 then decide (s.mn ≤ n) && decide (n ≤ s.mx)
  else ((optS s).getD c.toNat (0, 0)).1 == n
def sameS (a b : Sh) : Bool := (a.kind == b.kind) && (a.mn == b.mn) && (a.mx == b.mx) && (a.wall == b.wall) && decide (a.alts = b.alts)
/-- a shape as a value: its list lies at A -/
def shC (s : Sh) (A : Option Addr) (c : Nat) : List Value := [.int .i64 s.kind, .slice A s.alts.length c, .int .i64 s.mn, .int .i64 s.mx, .int .i64 s.wall]
def shV (s : Sh) (A : Option Addr) (c : Nat) : Value := .agg #[.int .i64 s.kind, .slice A s.alts.length c, .int .i64 s.mn, .int .i64 s.mx, .int .i64 s.wall]
theorem apart_iff (l : List Pr) : apartL l = true ↔ ∀ (i j : Nat) (a b : Pr), i < j → l[i]? = some a → l[j]? = some b → a.1 ≠ b.1 := by
  unfold apartL
  rw [decide_eq_true_eq, List.nodup_iff_pairwise_ne, List.pairwise_iff_getElem]
  constructor
  · intro h i j a b hij ha hb
    obtain ⟨h1, h2⟩ := List.getElem?_eq_some_iff.1 ha
    obtain ⟨h3, h4⟩ := List.getElem?_eq_some_iff.1 hb
    have := h i j (by simpa using h1) (by simpa using h3) hij
    simp only [List.getElem_map] at this
    rw [h2, h4] at this
    exact this
  · intro h i j hi hj hij
    have hi' : i < l.length := by simpa using hi
    have hj' : j < l.length := by simpa using hj
    have := h i j _ _ hij (List.getElem?_eq_getElem hi') (List.getElem?_eq_getElem hj')
    simpa using this
theorem Reads.pr_at {w : World} {B n k : Nat} {A : Option Addr} {l : List Pr} (h : Reads w B 2 A n (recs prC l)) (hk : k < n) :
    ∃ (b o : Nat) (x : Pr), A = some ⟨b, o, none⟩ ∧ b < B ∧ Hid (l[k]? = some x) ∧ w.cell? ⟨b, o + k * 2, none⟩ = some (.int .i64 x.1) ∧ w.cell? ⟨b, o + k * 2 + 1, none⟩ = some (.int .i64 x.2) := by
  obtain ⟨b, o, x, e, hb, hx, hc⟩ := h.rec_at prC_len (by omega) hk
  exact ⟨b, o, x, e, hb, hx, hc 0 _ rfl, hc 1 _ rfl⟩
/-- what is asked of a function that tells of pairs, and may lay memory of its own -/
def PredB (g : Nat) (lb : Array Value) (p : Pr → Bool) (w : World) : Prop :=
  ∀ (W : World) (x : Pr), Below w.heap.size w W → Calls Tryz.prog g (#[.agg #[.int .i64 x.1, .int .i64 x.2]] ++ lb) W fun e w' => e = .returned (.bool (p x)) ∧ Below w.heap.size w w'
def idxP (p : Pr → Bool) (l : List Pr) : Int := match l.findIdx? p with | some i => (i : Int) | none => -1
theorem idxP_hit {p : Pr → Bool} {l : List Pr} {k : Nat} {x : Pr} (hx : l[k]? = some x) (hp : p x = true) (hn : ∀ j y, j < k → l[j]? = some y → p y = false) : idxP p l = (k : Int) := by
  have h : l.findIdx? p = some k := by
    rw [List.findIdx?_eq_some_iff_getElem]
    obtain ⟨h1, h2⟩ := List.getElem?_eq_some_iff.1 hx
    refine ⟨h1, by rw [h2]; exact hp, fun j hj => ?_⟩
    rw [hn j _ hj (List.getElem?_eq_getElem (by omega))]; decide
  unfold idxP; rw [h]
theorem idxP_miss {p : Pr → Bool} {l : List Pr} (hn : ∀ j y, j < l.length → l[j]? = some y → p y = false) : idxP p l = -1 := by
  have h : l.findIdx? p = none := by
    rw [List.findIdx?_eq_none_iff]
    intro x hx
    obtain ⟨j, hj, rfl⟩ := List.mem_iff_getElem.1 hx
    exact hn j _ hj (List.getElem?_eq_getElem hj)
  unfold idxP; rw [h]
theorem idxP_any (p : Pr → Bool) (l : List Pr) : decide (0 ≤ idxP p l) = l.any p := by
  unfold idxP
  cases h : l.findIdx? p with
  | none =>
    rw [List.findIdx?_eq_none_iff] at h
    have : l.any p = false := by rw [List.any_eq_false]; intro x hx; rw [h x hx]; decide
    rw [this]; rfl
  | some i =>
    rw [List.findIdx?_eq_some_iff_getElem] at h
    obtain ⟨h1, h2, _⟩ := h
    have : l.any p = true := List.any_eq_true.2 ⟨_, List.getElem_mem h1, h2⟩
    rw [this]; simp
theorem fine_any (a : Pr) (w : World) : Calls Tryz.prog 89 #[.agg #[.int .i64 a.1, .int .i64 a.2]] w fun e w' => e = .returned (.bool (fineA a)) ∧ Below w.heap.size w w' := by
  obtain ⟨x, y⟩ := a
  unfold fineA
  dsimp only
  cases h1 : decide (1 ≤ x) <;> cases h2 : decide (x ≤ 48) <;> cases h3 : decide (1 ≤ y) <;> cases h4 : decide (y ≤ 100000)
  all_goals
    go_enter Tryz.func89, Tryz.ntmps89
    go_wp2
    go_ret
    exact ⟨rfl, (Below.refl _ _).alloc (Nat.le_refl _) _⟩
set_option maxHeartbeats 1000000 in
theorem idxA_any (p : Pr → Bool) (g : Nat) (lb : Array Value) (eg : ∀ args w, (callFunc g args).run Tryz.prog w = .ok (.enter g args) w) (A : Option Addr) (n c B : Nat) (l : List Pr) (w : World)
    (hr : Reads w B 2 A n (recs prC l)) (hB : B ≤ w.heap.size) (hn : n ≤ 1000000) (hp : PredB g lb p w) :
    Calls Tryz.prog 107 #[.slice A n c, .func (.func g) #[] lb] w fun e w' => e = .returned (.int .i64 (idxP p l)) ∧ Below w.heap.size w w' := by
  have hlen := hr.rec_len prC_len (by omega)
  have HP := Lib.hid hp
  clear hp
  go_enter Tryz.func107, Tryz.ntmps107
  go_wp2
  go_loopw [5, 8] (fun _ i wr => ∃ k : Nat, k ≤ n ∧ i = .int .i64 k ∧ Below w.heap.size w wr ∧ Hid (∀ j y, j < k → l[j]? = some y → p y = false)) (fun _ i _ => n - (intOf i).toNat)
  case atStart => exact ⟨0, Nat.zero_le _, rfl, Below.refl _ _, Lib.hid (fun j y hj => by omega)⟩
  case round =>
    obtain ⟨k, hk, rfl, hbr, HN⟩ := hrel
    by_cases hlt : k < n
    · have hr1 := hr.below (hbr.mono hB)
      obtain ⟨b, o, x, rfl, hbb, hx, c0, c1⟩ := hr1.pr_at hlt
      have hcall := Lib.hid (HP.out wr x hbr)
      have hj0 : (0 : Int) ≤ (k : Int) := by omega
      have hj1 : (k : Int) < (n : Int) := by omega
      have t0 : decide ((k : Int) < (n : Int)) = true := by simp; omega
      clear hr1
      cases hq : p x with
      | true =>
        rw [hq] at hcall
        have HR : Hid (idxP p l = (k : Int)) := by show _ = _; exact idxP_hit hx.out hq HN.out
        go_wp2_with (go_at_fn g; refine hcall.out.mono ?_; rintro e w' ⟨rfl, hb'⟩)
        go_ret
        exact ⟨by rw [HR.out]; rfl, hb'⟩
      | false =>
        rw [hq] at hcall
        have HN2 : Hid (∀ j y, j < k + 1 → l[j]? = some y → p y = false) := Lib.hid (fun j y hj hy => by
          by_cases e : j = k
          · subst e; rw [hx.out] at hy; rw [← Option.some.inj hy]; exact hq
          · exact HN.out j y (by omega) hy)
        go_wp2_with (go_at_fn g; refine hcall.out.mono ?_; rintro e w' ⟨rfl, hb'⟩)
        go_roundw
        case rel => exact ⟨k + 1, by omega, by simp, hb', HN2⟩
        case measure => simp [intOf]; omega
    · obtain rfl : k = n := by omega
      have t0 : decide ((k : Int) < (k : Int)) = false := by simp
      have HR : Hid (idxP p l = -1) := by show _ = _; exact idxP_miss (fun j y hj hy => HN.out j y (by rw [← hlen.out]; exact hj) hy)
      go_wp2
      go_ret
      exact ⟨by rw [HR.out]; rfl, hbr⟩
theorem hasA_any (p : Pr → Bool) (g : Nat) (lb : Array Value) (eg : ∀ args w, (callFunc g args).run Tryz.prog w = .ok (.enter g args) w) (A : Option Addr) (n c B : Nat) (l : List Pr) (w : World)
    (hr : Reads w B 2 A n (recs prC l)) (hB : B ≤ w.heap.size) (hn : n ≤ 1000000) (hp : PredB g lb p w) :
    Calls Tryz.prog 91 #[.slice A n c, .func (.func g) #[] lb] w fun e w' => e = .returned (.bool (l.any p)) ∧ Below w.heap.size w w' := by
  have hc := Lib.hid (idxA_any p g lb eg A n c B l w hr hB hn hp)
  have HR := Lib.hid (idxP_any p l)
  obtain ⟨i, hi⟩ : ∃ i, Hid (idxP p l = i) := ⟨_, rfl⟩
  rw [hi.out] at hc HR
  clear hr hp
  go_enter Tryz.func91, Tryz.ntmps91
  go_wp2_with (fail)
  refine hc.out.mono ?_; rintro e w' ⟨rfl, hb'⟩
  go_wp2
  go_ret
  exact ⟨by rw [← HR.out]; rfl, hb'⟩
theorem notfine_any (a : Pr) (w : World) : Calls Tryz.prog 92 #[.agg #[.int .i64 a.1, .int .i64 a.2]] w fun e w' => e = .returned (.bool (!fineA a)) ∧ Below w.heap.size w w' := by
  have hc := Lib.hid (fun v => fine_any a v)
  obtain ⟨b, hb⟩ : ∃ b, fineA a = b := ⟨_, rfl⟩
  rw [hb] at hc ⊢
  obtain ⟨x, y⟩ := a
  dsimp only at hc ⊢
  clear hb
  go_enter Tryz.func92, Tryz.ntmps92
  go_wp2_with (fail)
  refine (hc.out _).mono ?_; rintro e w1 ⟨rfl, hb1⟩
  have B1 := Lib.hid (((Below.refl w.heap.size w).alloc (Nat.le_refl _) _).trans (hb1.mono (by simp)))
  clear hb1
  cases b
  all_goals
    go_wp2
    go_ret
    exact ⟨rfl, B1.out⟩
theorem pred_notfine (w : World) : PredB 92 #[] (fun x => !fineA x) w := fun W x hb =>
  (notfine_any x W).mono fun e w' ⟨he, hb'⟩ => ⟨he, hb.trans (hb'.mono hb.size)⟩
/-- the same size as one that lies in a block -/
theorem pred_apart (a : Pr) (g : Nat) (w : World) (hg : g < w.heap.size) (hc : w.cell? ⟨g, 0, none⟩ = some (.int .i64 a.1)) : PredB 106 #[.pointer (some ⟨g, 0, none⟩)] (fun x => a.1 == x.1) w := by
  intro W x hb
  obtain ⟨x, y⟩ := x
  have hc2 : W.cell? ⟨g, 0, none⟩ = some (.int .i64 a.1) := by rw [(bcell hb).1 _ _ hg]; exact hc
  have hg2 : g < W.heap.size := Nat.lt_of_lt_of_le hg hb.size
  have hB := Lib.hid hb
  clear hc hb hg
  show Calls Tryz.prog 106 #[.agg #[.int .i64 x, .int .i64 y], .pointer (some ⟨g, 0, none⟩)] W _
  go_enter Tryz.func106, Tryz.ntmps106
  go_wp2
  go_ret
  exact ⟨rfl, hB.out.alloc hB.out.size _⟩
theorem Reads.preR {α : Type} {enc : α → List Value} {m : Nat} (he : ∀ x, (enc x).length = m) {w : World} {B n : Nat} {A : Option Addr} {l : List α} (h : Reads w B m A n (recs enc l)) {k : Nat} (hk : k ≤ n) : Reads w B m A k (recs enc (l.take k)) := by
  have h1 := h.1
  refine ⟨?_, fun h0 => ?_⟩
  · rw [recs_take he, List.length_take, h1]
    exact Nat.min_eq_left (Nat.mul_le_mul_right m hk)
  · obtain ⟨ad, e, hb, hc⟩ := h.2 (by omega)
    refine ⟨ad, e, hb, fun j u hu => hc j u ?_⟩
    rw [recs_take he, List.getElem?_take] at hu
    split at hu
    · exact hu
    · cases hu
theorem elemA : Tryz.prog.elem 23 = 66 := by kernel_rfl
theorem sizeA (v : World) : (sizeOf (Tryz.prog.elem 23)).run Tryz.prog v = .ok 2 v := by rw [elemA]; exact Tryz.sizeOf66 v
set_option maxRecDepth 1000000 in
theorem cutA_hi {b o n c : Nat} {i : Nat} (hi : i ≤ n) (hc : n ≤ c) (h0 : 0 < n) :
    (∀ v : World, (Instr.slice 23 (.slice (some ⟨b, o, none⟩) n c) none (some (.int .i64 (i : Int))) none).run Tryz.prog v = .ok (.slice (some ⟨b, o, none⟩) i c) v) ∧
      (∀ v : World, (Instr.sliceAt 23 (.slice (some ⟨b, o, none⟩) n c) none (some (.int .i64 (i : Int))) none).run Tryz.prog v = .ok (.slice (some ⟨b, o, none⟩) i c) v) := by
  have h1 : ∀ v : World, (Instr.slice 23 (.slice (some ⟨b, o, none⟩) n c) none (some (.int .i64 (i : Int))) none).run Tryz.prog v = .ok (.slice (some ⟨b, o, none⟩) i c) v := by
    intro v
    rw [run_slice_h v 23 _ n c Tryz.underlying23 .i64 (i : Int) (by omega) (by omega), sizeA v]
    have hne : ¬ c = 0 := by omega
    simp [Result.andThen, sliced, hne, Addr.add]
  exact ⟨h1, fun v => by rw [run_sliceAt_slice v _ _ _ _ _ Tryz.underlying23]; exact h1 v⟩
def ApartTo (l : List Pr) (i : Nat) : Prop := ∀ j k (a b : Pr), j < k → k < i → l[j]? = some a → l[k]? = some b → a.1 ≠ b.1
theorem apartTo_next {l : List Pr} {i : Nat} {x : Pr} (h : ApartTo l i) (hx : l[i]? = some x) (hn : (l.take i).any (fun y => x.1 == y.1) = false) : ApartTo l (i + 1) := by
  intro j k a b hjk hk ha hb
  by_cases e : k = i
  · subst e
    rw [hx] at hb
    obtain rfl := Option.some.inj hb
    rw [List.any_eq_false] at hn
    have hm : a ∈ l.take k := List.mem_of_getElem? (i := j) (by rw [List.getElem?_take, if_pos hjk]; exact ha)
    have := hn a hm
    intro e
    exact this (by simp [e])
  · exact h j k a b hjk (by omega) ha hb
theorem apartTo_no {l : List Pr} {i : Nat} {x : Pr} (hx : l[i]? = some x) (hn : (l.take i).any (fun y => x.1 == y.1) = true) : apartL l = false := by
  cases hq : apartL l with
  | false => rfl
  | true =>
    rw [apart_iff] at hq
    obtain ⟨y, hy, e⟩ := List.any_eq_true.1 hn
    obtain ⟨j, hj, hj2⟩ := List.mem_iff_getElem.1 hy
    rw [List.length_take] at hj
    have h1 : l[j]? = some y := by
      rw [← hj2, List.getElem_take]
      exact List.getElem?_eq_getElem (by omega)
    exact absurd (by simpa using e : x.1 = y.1) (Ne.symm (hq j i y x (by omega) h1 hx))
theorem apartTo_all {l : List Pr} (h : ApartTo l l.length) : apartL l = true := by
  rw [apart_iff]
  intro i j a b hij ha hb
  exact h i j a b hij (List.getElem?_eq_some_iff.1 hb).1 ha hb
set_option maxHeartbeats 1000000 in
theorem apart_any (A : Option Addr) (n c B : Nat) (l : List Pr) (w : World) (hr : Reads w B 2 A n (recs prC l)) (hB : B ≤ w.heap.size) (hn : n ≤ 1000000) (hcap : n ≤ c) :
    Calls Tryz.prog 90 #[.slice A n c] w fun e w' => e = .returned (.bool (apartL l)) ∧ Below w.heap.size w w' := by
  have hlen := hr.rec_len prC_len (by omega)
  have hmf : ∀ (fn : Fn) (first cap : Array Value) (w : World), (Instr.makeFunc fn first cap).run Tryz.prog w = .ok (.func fn first cap) w := fun _ _ _ _ => rfl
  go_enter Tryz.func90, Tryz.ntmps90
  go_wp2
  go_loopw [3, 4, 7] (fun _ _ i wr => ∃ k : Nat, k ≤ n ∧ i = .int .i64 k ∧ Below w.heap.size w wr ∧ Hid (ApartTo l k)) (fun _ _ i _ => n - (intOf i).toNat)
  case atStart => exact ⟨0, Nat.zero_le _, rfl, Below.refl _ _, Lib.hid (fun j k a b h1 h2 => by omega)⟩
  case round =>
    obtain ⟨k, hk, rfl, hbr, HN⟩ := hrel
    by_cases hlt : k < n
    · have hr1 := hr.below (hbr.mono hB)
      obtain ⟨b, o, x, rfl, hbb, hx, c0, c1⟩ := hr1.pr_at hlt
      have hj0 : (0 : Int) ≤ (k : Int) := by omega
      have hj1 : (k : Int) < (n : Int) := by omega
      have t0 : decide ((k : Int) < (n : Int)) = true := by simp; omega
      obtain ⟨s1, s2⟩ := cutA_hi (b := b) (o := o) hk hcap (by omega)
      have hszr := hbr.size
      have hRP := Lib.hid (hr1.preR prC_len hk)
      have eg : ∀ args w, (callFunc 106 args).run Tryz.prog w = .ok (.enter 106 args) w := enters_of Tryz.func106 (by kernel_rfl) rfl
      have hbx : Below wr.heap.size wr (wr.alloc (.cells #[.int .i64 x.1, .int .i64 x.2] 66)) := (Below.refl _ _).alloc (Nat.le_refl _) _
      have hpa := pred_apart x wr.heap.size (wr.alloc (.cells #[.int .i64 x.1, .int .i64 x.2] 66)) (by simp) (cell_of_row (wr.alloc (.cells #[.int .i64 x.1, .int .i64 x.2] 66)) wr.heap.size 0 #[.int .i64 x.1, .int .i64 x.2] 66 (0, 0) (heap_alloc_new wr _))
      have hcall := Lib.hid (hasA_any (fun y => x.1 == y.1) 106 #[.pointer (some ⟨wr.heap.size, 0, none⟩)] eg (some ⟨b, o, none⟩) k c B (l.take k) (wr.alloc (.cells #[.int .i64 x.1, .int .i64 x.2] 66)) (hRP.out.below (hbx.mono (by omega))) (by simp; omega) (by omega) hpa)
      have HBX := Lib.hid (hbr.trans (hbx.mono hszr))
      clear hpa hbx hr hr1 eg
      cases hq : (l.take k).any (fun y => x.1 == y.1) with
      | true =>
        rw [hq] at hcall
        have HR : Hid (apartL l = false) := by show _ = _; exact apartTo_no hx.out hq
        clear hq
        go_wp2_with (fail)
        refine hcall.out.mono ?_; rintro e w2 ⟨rfl, hb2⟩
        go_wp2
        go_ret
        exact ⟨by rw [HR.out]; rfl, HBX.out.trans (hb2.mono (by simp; omega))⟩
      | false =>
        rw [hq] at hcall
        have HN2 : Hid (ApartTo l (k + 1)) := by show ApartTo _ _; exact apartTo_next HN.out hx.out hq
        clear hq
        go_wp2_with (fail)
        refine hcall.out.mono ?_; rintro e w2 ⟨rfl, hb2⟩
        go_wp2
        go_roundw
        case rel => exact ⟨k + 1, by omega, by simp, HBX.out.trans (hb2.mono (by simp; omega)), HN2⟩
        case measure => simp [intOf]; omega
    · obtain rfl : k = n := by omega
      have t0 : decide ((k : Int) < (k : Int)) = false := by simp
      have HR : Hid (apartL l = true) := by show _ = _; exact apartTo_all (by rw [hlen.out]; exact HN.out)
      go_wp2
      go_ret
      exact ⟨by rw [HR.out]; rfl, hbr⟩
theorem bare_cases (s : Sh) : (s.mn = 0 ∧ s.mx = 0 ∧ s.wall = 0 ∧ bareS s = true) ∨ (bareS s = false ∧ (((s.mn == 0) = false) ∨ (s.mn = 0 ∧ (s.mx == 0) = false) ∨ (s.mn = 0 ∧ s.mx = 0 ∧ (s.wall == 0) = false))) := by
  unfold bareS
  cases h1 : s.mn == 0
  · exact .inr ⟨by simp, .inl rfl⟩
  · have e1 : s.mn = 0 := by simpa using h1
    cases h2 : s.mx == 0
    · exact .inr ⟨by simp, .inr (.inl ⟨e1, rfl⟩)⟩
    · have e2 : s.mx = 0 := by simpa using h2
      cases h3 : s.wall == 0
      · exact .inr ⟨by simp, .inr (.inr ⟨e1, e2, rfl⟩)⟩
      · exact .inl ⟨e1, e2, by simpa using h3, by simp⟩
theorem boxed_cell {w w' : World} {cs : Array Value} {t : TypeId} (hb : Below (w.alloc (.cells cs t)).heap.size (w.alloc (.cells cs t)) w') (j : Nat) : w'.cell? ⟨w.heap.size, j, none⟩ = cs[j]? := by
  rw [(bcell hb).1 _ _ (by simp)]
  exact cell_of_row (w.alloc (.cells cs t)) w.heap.size j cs t (0, 0) (heap_alloc_new w _)
set_option maxHeartbeats 2000000 in
theorem shape_one (s : Sh) (A : Option Addr) (c B : Nat) (w : World) (hr : Reads w B 2 A s.alts.length (recs prC s.alts)) (hB : B ≤ w.heap.size) (hn : s.alts.length ≤ 1000000) (hk : s.kind = 1) :
    Calls Tryz.prog 67 #[shV s A c] w fun e w' => e = .returned (.int .i64 (shE s)) ∧ Below w.heap.size w w' := by
  have hbc := bare_cases s
  have HE : Hid (shE s = if (bareS s && decide (s.alts.length = 1) && s.alts.all fineA) = true then 0 else 70) := by
    show _ = _
    unfold shE okS; rw [if_pos hk]
  obtain ⟨R, hR⟩ : ∃ R, Hid (shE s = R) := ⟨_, rfl⟩
  rw [hR.out] at HE ⊢
  unfold shV
  obtain ⟨n, hnn⟩ : ∃ n, Hid (s.alts.length = n) := ⟨_, rfl⟩
  rw [hnn.out] at HE hr hn ⊢
  rw [hk]
  obtain ⟨kind, l, mn, mx, wall⟩ := s
  dsimp only at HE hr hnn hbc ⊢
  clear hk hR
  rcases hbc with ⟨e1, e2, e3, hb⟩ | ⟨hb, h⟩
  · rw [hb] at HE
    rw [e1, e2, e3]
    clear hb e1 e2 e3
    by_cases h1 : n = 1
    · subst h1
      obtain ⟨b, o, x, rfl, hbb, hx, c0, c1⟩ := hr.pr_at (k := 0) (by omega)
      have hl : Hid (l.all fineA = fineA x) := by
        show _ = _
        match l, hnn.out, hx.out with
        | [y], _, h => simp at h; simp [h]
      rw [hl.out] at HE
      have hf := Lib.hid (fun v => fine_any x v)
      obtain ⟨q, hq⟩ : ∃ q, fineA x = q := ⟨_, rfl⟩
      rw [hq] at hf HE
      simp only [Nat.zero_mul, Nat.add_zero] at c0 c1
      have hb9 : b < w.heap.size := by omega
      clear hq hl hr hx
      cases q
      all_goals
        have HR := Lib.hid HE.out
        clear HE
        go_enter Tryz.func67, Tryz.ntmps67
        go_wp2_with (fail)
        refine (hf.out _).mono ?_; rintro e w1 ⟨rfl, hb1⟩
        have B1 := Lib.hid (((Below.refl w.heap.size w).alloc (Nat.le_refl _) _).trans (hb1.mono (by simp)))
        clear hb1
        go_wp2
        go_ret
        exact ⟨by rw [HR.out]; rfl, B1.out⟩
    · have HR : Hid (R = 70) := by
        show _ = _
        rw [HE.out]; simp [h1]
      have t1 : ((n : Int) == 1) = false := by simp; omega
      clear HE h1
      go_enter Tryz.func67, Tryz.ntmps67
      go_wp2
      go_ret
      exact ⟨by rw [HR.out]; rfl, (Below.refl _ _).alloc (Nat.le_refl _) _⟩
  · rw [hb] at HE
    have HR : Hid (R = 70) := by show _ = _; rw [HE.out]; simp
    clear HE hb
    rcases h with h | ⟨e1, h⟩ | ⟨e1, e2, h⟩
    all_goals
      (try rw [e1])
      (try rw [e2])
      go_enter Tryz.func67, Tryz.ntmps67
      go_wp2
      go_ret
      exact ⟨by rw [HR.out]; rfl, (Below.refl _ _).alloc (Nat.le_refl _) _⟩
theorem any_notfine (l : List Pr) : l.any (fun x => !fineA x) = !l.all fineA := by
  induction l with
  | nil => rfl
  | cons x t ih => simp only [List.any_cons, List.all_cons, ih, Bool.not_and]
set_option maxHeartbeats 2000000 in
theorem shape_two (s : Sh) (A : Option Addr) (c B : Nat) (w : World) (hr : Reads w B 2 A s.alts.length (recs prC s.alts)) (hB : B ≤ w.heap.size) (hn : s.alts.length ≤ 1000000) (hcap : s.alts.length ≤ c) (hk : s.kind = 2) :
    Calls Tryz.prog 67 #[shV s A c] w fun e w' => e = .returned (.int .i64 (shE s)) ∧ Below w.heap.size w w' := by
  have hbc := bare_cases s
  have HE : Hid (shE s = if (bareS s && decide (1 ≤ s.alts.length) && decide (s.alts.length ≤ 6) && apartL s.alts && s.alts.all fineA) = true then 0 else 70) := by
    show _ = _
    unfold shE okS; rw [if_neg (show ¬ s.kind = 1 by omega), if_pos hk]
  obtain ⟨R, hR⟩ : ∃ R, Hid (shE s = R) := ⟨_, rfl⟩
  rw [hR.out] at HE ⊢
  unfold shV
  obtain ⟨n, hnn⟩ : ∃ n, Hid (s.alts.length = n) := ⟨_, rfl⟩
  rw [hnn.out] at HE hr hn hcap ⊢
  rw [hk]
  obtain ⟨kind, l, mn, mx, wall⟩ := s
  dsimp only at HE hr hnn hbc ⊢
  clear hk hR
  rcases hbc with ⟨e1, e2, e3, hb⟩ | ⟨hb, h⟩
  · rw [hb] at HE
    rw [e1, e2, e3]
    clear hb e1 e2 e3
    by_cases h1 : 1 ≤ n
    · have t1 : decide ((1 : Int) ≤ (n : Int)) = true := by simp; omega
      have t1' : decide (1 ≤ n) = true := by simp; omega
      by_cases h6 : n ≤ 6
      · have t6 : decide ((n : Int) ≤ 6) = true := by simp; omega
        have t6' : decide (n ≤ 6) = true := by simp; omega
        rw [t1', t6'] at HE
        have hbx : Below w.heap.size w (w.alloc (.cells #[.int .i64 2, .slice A n c, .int .i64 0, .int .i64 0, .int .i64 0] 25)) := (Below.refl _ _).alloc (Nat.le_refl _) _
        have HBX := Lib.hid hbx
        have ca := Lib.hid (apart_any A n c B l _ (hr.below (hbx.mono hB)) (by simp; omega) hn hcap)
        have eg : ∀ args w, (callFunc 92 args).run Tryz.prog w = .ok (.enter 92 args) w := enters_of Tryz.func92 (by kernel_rfl) rfl
        have cb := Lib.hid (fun v (hv : Below w.heap.size w v) => hasA_any (fun x => !fineA x) 92 #[] eg A n c B l v (hr.below (hv.mono hB)) (Nat.le_trans hB hv.size) hn (pred_notfine v))
        have HA := Lib.hid (any_notfine l)
        rw [any_notfine l] at cb
        obtain ⟨q, hq⟩ : ∃ q, apartL l = q := ⟨_, rfl⟩
        obtain ⟨p, hp⟩ : ∃ q, l.all fineA = q := ⟨_, rfl⟩
        rw [hq] at ca HE
        rw [hp] at cb HE
        clear hq hp eg hbx HA hr
        cases q
        · have HR : Hid (R = 70) := by show _ = _; rw [HE.out]; simp
          clear HE h1 h6
          go_enter Tryz.func67, Tryz.ntmps67
          go_wp2_with (fail)
          refine ca.out.mono ?_; rintro e w1 ⟨rfl, hb1⟩
          have B1 := Lib.hid (HBX.out.trans (hb1.mono (by simp)))
          clear hb1
          go_wp2
          go_ret
          exact ⟨by rw [HR.out]; rfl, B1.out⟩
        · cases p
          all_goals
            have HR := Lib.hid HE.out
            clear HE h1 h6
            go_enter Tryz.func67, Tryz.ntmps67
            go_wp2_with (fail)
            refine ca.out.mono ?_; rintro e w1 ⟨rfl, hb1⟩
            have B1 := Lib.hid (HBX.out.trans (hb1.mono (by simp)))
            have k1 : w1.cell? ⟨w.heap.size, 1, none⟩ = some (.slice A n c) := boxed_cell hb1 1
            clear hb1
            go_wp2_with (fail)
            refine (cb.out _ B1.out).mono ?_; rintro e w2 ⟨rfl, hb2⟩
            have B2 := Lib.hid (B1.out.trans (hb2.mono B1.out.size))
            clear hb2
            go_wp2
            go_ret
            exact ⟨by rw [HR.out]; rfl, B2.out⟩
      · have t6 : decide ((n : Int) ≤ 6) = false := by simp; omega
        have t6' : decide (n ≤ 6) = false := by simp; omega
        have HR : Hid (R = 70) := by show _ = _; rw [HE.out]; simp [t6']
        clear HE h1 h6 hr
        go_enter Tryz.func67, Tryz.ntmps67
        go_wp2
        go_ret
        exact ⟨by rw [HR.out]; rfl, (Below.refl _ _).alloc (Nat.le_refl _) _⟩
    · have t1 : decide ((1 : Int) ≤ (n : Int)) = false := by simp; omega
      have t1' : decide (1 ≤ n) = false := by simp; omega
      have HR : Hid (R = 70) := by show _ = _; rw [HE.out]; simp [t1']
      clear HE h1 hr
      go_enter Tryz.func67, Tryz.ntmps67
      go_wp2
      go_ret
      exact ⟨by rw [HR.out]; rfl, (Below.refl _ _).alloc (Nat.le_refl _) _⟩
  · rw [hb] at HE
    have HR : Hid (R = 70) := by show _ = _; rw [HE.out]; simp
    clear HE hb hr
    rcases h with h | ⟨e1, h⟩ | ⟨e1, e2, h⟩
    all_goals
      (try rw [e1])
      (try rw [e2])
      go_enter Tryz.func67, Tryz.ntmps67
      go_wp2
      go_ret
      exact ⟨by rw [HR.out]; rfl, (Below.refl _ _).alloc (Nat.le_refl _) _⟩
set_option maxHeartbeats 2000000 in
theorem shape_three (s : Sh) (A : Option Addr) (c : Nat) (w : World) (hk : s.kind = 3) :
    Calls Tryz.prog 67 #[shV s A c] w fun e w' => e = .returned (.int .i64 (shE s)) ∧ Below w.heap.size w w' := by
  have HE : Hid (shE s = if (decide (s.alts.length = 0) && decide (s.mn ≤ s.mx) && fineA (s.mn, s.wall) && decide (s.mx ≤ 48)) = true then 0 else 70) := by
    show _ = _
    unfold shE okS; rw [if_neg (show ¬ s.kind = 1 by omega), if_neg (show ¬ s.kind = 2 by omega), if_pos hk]
  obtain ⟨R, hR⟩ : ∃ R, Hid (shE s = R) := ⟨_, rfl⟩
  rw [hR.out] at HE ⊢
  unfold shV
  obtain ⟨n, hnn⟩ : ∃ n, Hid (s.alts.length = n) := ⟨_, rfl⟩
  rw [hnn.out] at HE ⊢
  rw [hk]
  obtain ⟨kind, l, mn, mx, wall⟩ := s
  dsimp only at HE ⊢
  have hf := Lib.hid (fun v => fine_any (mn, wall) v)
  obtain ⟨q, hq⟩ : ∃ q, fineA (mn, wall) = q := ⟨_, rfl⟩
  rw [hq] at hf HE
  dsimp only at hf
  clear hk hR hq
  cases z1 : mn == 0 <;> cases z2 : mx == 0 <;> cases z3 : wall == 0
  all_goals
    by_cases h0 : n = 0
    · subst h0
      cases t1 : decide (mn ≤ mx)
      · have HR : Hid (R = 70) := by show _ = _; rw [HE.out, t1]; simp
        clear HE
        go_enter Tryz.func67, Tryz.ntmps67
        go_wp2
        go_ret
        exact ⟨by rw [HR.out]; rfl, (Below.refl _ _).alloc (Nat.le_refl _) _⟩
      · cases q
        · have HR : Hid (R = 70) := by show _ = _; rw [HE.out]; simp
          clear HE
          go_enter Tryz.func67, Tryz.ntmps67
          go_wp2_with (fail)
          refine (hf.out _).mono ?_; rintro e w1 ⟨rfl, hb1⟩
          have B1 := Lib.hid (((Below.refl w.heap.size w).alloc (Nat.le_refl _) _).trans (hb1.mono (by simp)))
          clear hb1
          go_wp2
          go_ret
          exact ⟨by rw [HR.out]; rfl, B1.out⟩
        · cases t2 : decide (mx ≤ 48)
          all_goals
            rw [t1, t2] at HE
            have HR := Lib.hid HE.out
            clear HE
            go_enter Tryz.func67, Tryz.ntmps67
            go_wp2_with (fail)
            refine (hf.out _).mono ?_; rintro e w1 ⟨rfl, hb1⟩
            have B1 := Lib.hid (((Below.refl w.heap.size w).alloc (Nat.le_refl _) _).trans (hb1.mono (by simp)))
            have k3 : w1.cell? ⟨w.heap.size, 3, none⟩ = some (.int .i64 mx) := boxed_cell hb1 3
            clear hb1
            go_wp2
            go_ret
            exact ⟨by rw [HR.out]; rfl, B1.out⟩
    · have t0 : ((n : Int) == 0) = false := by simp; omega
      have HR : Hid (R = 70) := by show _ = _; rw [HE.out]; simp [h0]
      clear HE h0
      go_enter Tryz.func67, Tryz.ntmps67
      go_wp2
      go_ret
      exact ⟨by rw [HR.out]; rfl, (Below.refl _ _).alloc (Nat.le_refl _) _⟩
set_option maxHeartbeats 2000000 in
theorem shape_none (s : Sh) (A : Option Addr) (c : Nat) (w : World) (h1 : s.kind ≠ 1) (h2 : s.kind ≠ 2) (h3 : s.kind ≠ 3) :
    Calls Tryz.prog 67 #[shV s A c] w fun e w' => e = .returned (.int .i64 (shE s)) ∧ Below w.heap.size w w' := by
  have HE : Hid (shE s = 70) := by
    show _ = _
    unfold shE okS; rw [if_neg h1, if_neg h2, if_neg h3]; rfl
  rw [HE.out]
  unfold shV
  obtain ⟨kind, l, mn, mx, wall⟩ := s
  dsimp only at h1 h2 h3 ⊢
  have t1 : (kind == 1) = false := by simpa using h1
  have t2 : (kind == 2) = false := by simpa using h2
  have t3 : (kind == 3) = false := by simpa using h3
  clear h1 h2 h3
  cases z1 : mn == 0 <;> cases z2 : mx == 0 <;> cases z3 : wall == 0
  all_goals
    go_enter Tryz.func67, Tryz.ntmps67
    go_wp2
    go_ret
    exact ⟨rfl, (Below.refl _ _).alloc (Nat.le_refl _) _⟩
theorem shape_any (s : Sh) (A : Option Addr) (c B : Nat) (w : World) (hr : Reads w B 2 A s.alts.length (recs prC s.alts)) (hB : B ≤ w.heap.size) (hn : s.alts.length ≤ 1000000) (hcap : s.alts.length ≤ c) :
    Calls Tryz.prog 67 #[shV s A c] w fun e w' => e = .returned (.int .i64 (shE s)) ∧ Below w.heap.size w w' := by
  by_cases h1 : s.kind = 1
  · exact shape_one s A c B w hr hB hn h1
  · by_cases h2 : s.kind = 2
    · exact shape_two s A c B w hr hB hn hcap h2
    · by_cases h3 : s.kind = 3
      · exact shape_three s A c w h3
      · exact shape_none s A c w h1 h2 h3
set_option maxRecDepth 100000 in
theorem prA_equalIn (x y : Pr) (v : World) : (Op.equalIn 10000 66 (.agg #[.int .i64 x.1, .int .i64 x.2]) (.agg #[.int .i64 y.1, .int .i64 y.2])).run Tryz.prog v = .ok (decide (x = y)) v := by
  rw [run_equalIn_agg v _ _ _ _ (by kernel_rfl) (by kernel_rfl)]
  have e : (Tryz.prog.fieldsOf 66).toList = [{ name := "Nodes", type := 3, offset := 0, embedded := false, tag := "", pkgPath := "", byteOffset := 0 }, { name := "Wall", type := 3, offset := 1, embedded := false, tag := "", pkgPath := "", byteOffset := 8 }] := by kernel_rfl
  rw [e]
  obtain ⟨x1, x2⟩ := x
  obtain ⟨y1, y2⟩ := y
  simp [go_sem, Op.eqFields]
  repeat' split
  all_goals simp_all
theorem prA_neq (x y : Pr) (v : World) : (binOp .neq 66 (.agg #[.int .i64 x.1, .int .i64 x.2]) (.agg #[.int .i64 y.1, .int .i64 y.2])).run Tryz.prog v = .ok (.bool (!decide (x = y))) v := by
  rw [run_neq_struct, prA_equalIn]; rfl
set_option maxHeartbeats 1000000 in
theorem equalA_any (A A2 : Option Addr) (n m c c2 B : Nat) (l l2 : List Pr) (w : World) (hr : Reads w B 2 A n (recs prC l)) (hr2 : Reads w B 2 A2 m (recs prC l2)) (hn : n ≤ 1000000) (hm : m ≤ 1000000) (hB : B ≤ w.heap.size) :
    Calls Tryz.prog 93 #[.slice A n c, .slice A2 m c2] w fun e w' => e = .returned (.bool (decide (l = l2))) ∧ Below w.heap.size w w' := by
  have hlen : Hid (l.length = n) := hr.rec_len prC_len (by omega)
  have hlen2 : Hid (l2.length = m) := hr2.rec_len prC_len (by omega)
  obtain ⟨R, hR⟩ : ∃ R, Hid (decide (l = l2) = R) := ⟨_, rfl⟩
  rw [hR.out]
  by_cases hnm : n = m
  · subst hnm
    have t0 : ((n : Int) != (n : Int)) = false := by simp
    go_enter Tryz.func93, Tryz.ntmps93
    go_wp2
    go_loopw [5, 13] (fun _ i wr => ∃ (k p : Nat), k ≤ n ∧ i = .int .i64 k ∧ wr = w.drewN p ∧ Hid (l.take k = l2.take k)) (fun _ i _ => n - (intOf i).toNat)
    case atStart => exact ⟨0, 0, Nat.zero_le _, rfl, rfl, by show _ = _; simp⟩
    case round =>
      obtain ⟨k, p, hk, rfl, rfl, HO⟩ := hrel
      by_cases hlt : k < n
      · have t1 : decide ((k : Int) < (n : Int)) = true := by simp; omega
        obtain ⟨b, o, x, rfl, hbb, hx, c0, c1⟩ := hr.pr_at hlt
        obtain ⟨b2, o2, y, rfl, hbb2, hy, d0, d1⟩ := hr2.pr_at hlt
        have hj0 : (0 : Int) ≤ (k : Int) := by omega
        have hj1 : (k : Int) < (n : Int) := by omega
        have hneq := fun v => prA_neq x y v
        by_cases hxy : x = y
        · have e : decide (x = y) = true := decide_eq_true hxy
          rw [e] at hneq
          have HO2 : Hid (l.take (k + 1) = l2.take (k + 1)) := by
            show _ = _
            rw [List.take_add_one, List.take_add_one, hx.out, hy.out, HO.out, hxy]
          clear e hxy hr hr2
          go_wp2
          go_quiet (fail)
          go_wp2
          go_roundw
          case rel => exact ⟨k + 1, _, by omega, by go_num, by first | rfl | exact World.drewN_drewN _ _ _, HO2⟩
          case measure => simp [intOf]; omega
        · have e : decide (x = y) = false := decide_eq_false hxy
          rw [e] at hneq
          have HR : Hid (R = false) := by
            show _ = _
            rw [← hR.out]
            refine decide_eq_false (fun hl => hxy ?_)
            have h1 := hx.out
            rw [hl, hy.out] at h1
            exact (Option.some.inj h1).symm
          clear e hxy hr hr2
          go_wp2
          go_quiet (fail)
          go_wp2
          go_ret
          exact ⟨by rw [HR.out]; rfl, below_drewN (below_drewN (Below.refl _ _) _) _⟩
      · obtain rfl : k = n := by omega
        have t1 : decide ((k : Int) < (k : Int)) = false := by simp
        have HR : Hid (R = true) := by
          show _ = _
          rw [← hR.out]
          refine decide_eq_true ?_
          have h1 := HO.out
          rwa [List.take_of_length_le (by rw [hlen.out]; exact Nat.le_refl _), List.take_of_length_le (by rw [hlen2.out]; exact Nat.le_refl _)] at h1
        go_wp2
        go_ret
        exact ⟨by rw [HR.out]; rfl, below_drewN (Below.refl _ _) _⟩
  · have t0 : ((n : Int) != (m : Int)) = true := by simp; omega
    have HR : Hid (R = false) := by
      show _ = _
      rw [← hR.out]
      exact decide_eq_false (fun hl => hnm (by rw [← hlen.out, ← hlen2.out, hl]))
    clear hnm
    go_enter Tryz.func93, Tryz.ntmps93
    go_wp2
    go_ret
    exact ⟨by rw [HR.out]; rfl, Below.refl _ _⟩
set_option maxHeartbeats 1000000 in
theorem sameS_any (a b : Sh) (A A2 : Option Addr) (c c2 B : Nat) (w : World) (hr : Reads w B 2 A a.alts.length (recs prC a.alts)) (hr2 : Reads w B 2 A2 b.alts.length (recs prC b.alts)) (hn : a.alts.length ≤ 1000000) (hm : b.alts.length ≤ 1000000) (hB : B ≤ w.heap.size) :
    Calls Tryz.prog 69 #[shV a A c, shV b A2 c2] w fun e w' => e = .returned (.bool (sameS a b)) ∧ Below w.heap.size w w' := by
  have hc := Lib.hid (fun v (hv : Below w.heap.size w v) => equalA_any A A2 _ _ c c2 B a.alts b.alts v (hr.below (hv.mono hB)) (hr2.below (hv.mono hB)) hn hm (Nat.le_trans hB hv.size))
  unfold shV sameS
  obtain ⟨q, hq⟩ : ∃ q, decide (a.alts = b.alts) = q := ⟨_, rfl⟩
  rw [hq] at hc ⊢
  clear hq hr hr2
  obtain ⟨n, hnn⟩ : ∃ n, a.alts.length = n := ⟨_, rfl⟩
  obtain ⟨m, hmm⟩ : ∃ n, b.alts.length = n := ⟨_, rfl⟩
  rw [hnn, hmm] at hc ⊢
  obtain ⟨k1, l1, x1, y1, z1⟩ := a
  obtain ⟨k2, l2, x2, y2, z2⟩ := b
  dsimp only at hc ⊢
  clear hnn hmm hn hm
  cases t1 : k1 == k2
  · go_enter Tryz.func69, Tryz.ntmps69
    go_wp2
    go_ret
    exact ⟨rfl, ((Below.refl _ _).alloc (Nat.le_refl _) _).alloc (by simp) _⟩
  cases t2 : x1 == x2
  · go_enter Tryz.func69, Tryz.ntmps69
    go_wp2
    go_ret
    exact ⟨rfl, ((Below.refl _ _).alloc (Nat.le_refl _) _).alloc (by simp) _⟩
  cases t3 : y1 == y2
  · go_enter Tryz.func69, Tryz.ntmps69
    go_wp2
    go_ret
    exact ⟨rfl, ((Below.refl _ _).alloc (Nat.le_refl _) _).alloc (by simp) _⟩
  cases t4 : z1 == z2
  · go_enter Tryz.func69, Tryz.ntmps69
    go_wp2
    go_ret
    exact ⟨rfl, ((Below.refl _ _).alloc (Nat.le_refl _) _).alloc (by simp) _⟩
  have hbx := Lib.hid (((Below.refl w.heap.size w).alloc (Nat.le_refl _) (.cells #[.int .i64 k1, .slice A n c, .int .i64 x1, .int .i64 y1, .int .i64 z1] 25)).alloc (by simp) (.cells #[.int .i64 k2, .slice A2 m c2, .int .i64 x2, .int .i64 y2, .int .i64 z2] 25))
  go_enter Tryz.func69, Tryz.ntmps69
  go_wp2_with (fail)
  refine (hc.out _ hbx.out).mono ?_; rintro e w1 ⟨rfl, hb1⟩
  go_wp2
  go_ret
  exact ⟨rfl, bt hbx.out hb1⟩
theorem Tryz.infoA : (Tryz.prog.info? 66).map (fun i => (i.zero, i.size, i.bytes)) = some (some (.agg #[.int .i64 0, .int .i64 0]), 2, 16) := by kernel_rfl
theorem prC_one (a : Pr) : ∀ v ∈ prC a, v.oneCell' = true := by
  intro v hv
  simp only [prC, List.mem_cons, List.not_mem_nil, or_false] at hv
  rcases hv with rfl | rfl <;> rfl
theorem app_a {w : World} {ops : Array Oper} {rest : List Oper} {o : Oper} {a : Act} {Q : Exit → Act → World → Prop} {s x : Operand}
    (hgd : o.guard = none) (ho : o.op = .call { callee := .builtin .append, args := #[s, x], argTypes := #[23, 23] })
    (base : Nat) {v : Value} {n : Nat} {xs : List Pr} (hs : a.eval s = v) (hown : Owns w base 66 2 v n (recs prC xs))
    {B : Nat} {A : Option Addr} {m c : Nat} {news : List Pr} (hx : a.eval x = .slice A m c) (hr : Reads w B 2 A m (recs prC news))
    (hlen : n + m ≤ 1000000) (hbase : base ≤ w.heap.size)
    (h : ∀ v' w', Owns w' base 66 2 v' (n + m) (recs prC (xs ++ news)) → AppKeeps base v w w' → (v'.ownBlock = v.ownBlock ∨ v'.ownBlock = some w.heap.size) → wpList Tryz.prog ops Q rest (a.put o.dst v') w') : wpList Tryz.prog ops Q (o :: rest) a w :=
  wp_app hgd ho Tryz.underlying23 Tryz.infoA rfl (by omega) base hs hown hx hr (recs_one prC_one _) (by simp only [maxLen]; omega) (by omega) hbase (fun v' w' h1 => h v' w' (by rw [recs_append]; exact h1))
theorem eqA_nil (A : Option Addr) (n c : Nat) (v : World) : (binOp .eql 23 (.slice A n c) (.slice none 0 0)).run Tryz.prog v = .ok (.bool A.isNone) v := Lib.run_eql_slice_nil v 23 66 A n c 0 0 Tryz.underlying23
set_option maxHeartbeats 1000000 in
set_option maxRecDepth 100000 in
theorem cloneA_any (A : Option Addr) (n c B : Nat) (l : List Pr) (w : World) (hr : Reads w B 2 A n (recs prC l)) (hB : B ≤ w.heap.size) (hn : n ≤ 100000) :
    Calls Tryz.prog 94 #[.slice A n c] w (RetOwn w 66 2 n (recs prC l)) := by
  have hlen := hr.rec_len prC_len (by omega)
  have heq := fun v => eqA_nil A n c v
  cases hA : A with
  | none =>
    subst hA
    rw [show (none : Option Addr).isNone = true from rfl] at heq
    have h0 : n = 0 := by
      rcases Nat.eq_zero_or_pos n with h | h
      · exact h
      · obtain ⟨ad, e, _⟩ := hr.2 h; cases e
    have hl : l = [] := List.length_eq_zero_iff.1 (by rw [hlen.out, h0])
    subst h0 hl
    clear hr hlen
    go_enter Tryz.func94, Tryz.ntmps94
    go_wp2
    go_ret
    exact ⟨_, rfl, Owns.nil, Below.refl _ _⟩
  | some ad =>
    subst hA
    rw [show (some ad).isNone = false from rfl] at heq
    have hr2 := Lib.hid (hr.below ((Below.refl B w).alloc hB (.cells #[] 66)))
    have h0 := Lib.hid (Owns.madeN w [] 66 (n := 0) (size := 2) (B := w.heap.size) rfl (by simp [maxLen]) (Nat.le_refl _))
    have hb := (Below.refl w.heap.size w).alloc (Nat.le_refl _) (.cells #[] 66)
    go_enter Tryz.func94, Tryz.ntmps94
    go_wp2_with (at_builtin; refine app_a (xs := []) rfl rfl w.heap.size rfl h0.out rfl hr2.out (by omega) (by simp) ?_)
    intro v4 w4 o4 k4 _
    have kb4 := k4.below hb (Nat.le_refl _) (by simp)
    have O4 := Lib.hid o4
    clear k4 o4
    go_wp2
    go_ret
    exact ⟨_, rfl, O4.out, kb4⟩
end Go.Proofs.YtmkmmggimokagaaGreatDoor
