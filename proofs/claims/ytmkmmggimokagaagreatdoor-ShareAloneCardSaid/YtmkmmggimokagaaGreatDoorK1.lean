/- Words for memory used by all contracts of this family: a slice that reads as a list of cells, and small closing lemmas. Slices of structs: a list of records reads as the cells of its records, one behind the other. append onto a row of the call's own: the laws that the walks below use. The call's own slices, those without room among them; append onto them. Regions that draw their order, whose operations read and whose calls make memory: one walk of the text serves, in the class of the worlds that keep all old blocks. Arguments opened: a slice of records reads as a list. Plain arithmetic for layer 1: clamped sums and products, no program in sight. Contracts of the functions of layer 1 (sat) and of its reference: what each call returns, for every input. -/
import Derived.Test.YtmkmmggimokagaaGreatDoorRows
import Derived.WalkKit
import Derived.WalkSpells
import Derived.WalkLawsBesides
import Derived.Lib.Hide
import Derived.Laws.OwnMore
import Derived.Deep.AppendLies
import Derived.Deep.Draws
import Derived.Maps.AppendAt
import Derived.RegionTactic
import Derived.OwnWalk
import Derived.Lib.UnsafeStr
import Derived.Lib.OthersKept
import Derived.Deep.QuietTactic
import Derived.BigQuiet
import Derived.Deep.Slices
import Derived.Deep.Fields
import Derived.ChangeArms
namespace Go.Proofs.YtmkmmggimokagaaGreatDoor
set_option linter.unusedVariables false
open Go.RowKit
theorem ret_int {k : IntKind} {a b : Int} (h : a = b) : Ending.returned (.int k a) = .returned (.int k b) := by rw [h]
theorem ret_bool {a b : Bool} (h : a = b) : Ending.returned (.bool a) = .returned (.bool b) := by rw [h]
theorem ret_v {a b : Value} (h : a = b) : Ending.returned a = .returned b := by rw [h]
theorem bcell {W w1 : World} (hb : Below W.heap.size W w1) : (∀ b o, b < W.heap.size → w1.cell? ⟨b, o, none⟩ = W.cell? ⟨b, o, none⟩) ∧ (∀ b o, b < W.heap.size → w1.frozen? ⟨b, o, none⟩ = W.frozen? ⟨b, o, none⟩) :=
  ⟨fun b o h => hb.cell (p := ⟨b, o, none⟩) h, fun b o h => hb.frozen (p := ⟨b, o, none⟩) h⟩
theorem below_drewN {B : Nat} {a w : World} (h : Below B a w) (n : Nat) : Below B a (w.drewN n) := ⟨h.os, h.tape, h.output, h.size, h.block⟩
theorem below_drew {B : Nat} {a w : World} (h : Below B a w) : Below B a w.drew := ⟨h.os, h.tape, h.output, h.size, h.block⟩
theorem bt {a b c : World} (h : Below a.heap.size a b) (k : Below b.heap.size b c) : Below a.heap.size a c := h.trans (k.mono h.size)
theorem block_of_add (a : Addr) (n : Nat) : (a.add n).block = a.block := by unfold Addr.add; split <;> rfl
theorem add_of_add (a : Addr) (i j : Nat) : (a.add i).add j = a.add (i + j) := by
  unfold Addr.add
  by_cases hi : i = 0 <;> by_cases hj : j = 0 <;> simp [hi, hj, Nat.add_assoc]
/-- the slice value '.slice A n c' holds the cells xs ('size' cells an element) and lies below block B -/
def Reads (w : World) (B size : Nat) (A : Option Addr) (n : Nat) (xs : List Value) : Prop :=
  xs.length = n * size ∧ (0 < n → ∃ ad, A = some ad ∧ ad.block < B ∧ ∀ j u, xs[j]? = some u → w.cell? (ad.add j) = some u)
section
variable {w w' : World} {B B' size n : Nat} {A : Option Addr} {xs : List Value}
theorem Reads.none_ : Reads w B size A 0 [] := ⟨by simp, fun h => absurd h (by omega)⟩
theorem Reads.at_ {k : Nat} (h : Reads w B 1 A n xs) (hk : k < n) : ∃ ad u, A = some ad ∧ ad.block < B ∧ xs[k]? = some u ∧ w.cell? (ad.add k) = some u := by
  obtain ⟨ad, e, hb, hc⟩ := h.2 (by omega)
  have hl : k < xs.length := by have := h.1; omega
  exact ⟨ad, xs[k], e, hb, List.getElem?_eq_getElem hl, hc k _ (List.getElem?_eq_getElem hl)⟩
theorem Reads.keep (h : Reads w B size A n xs) (hk : ∀ p : Addr, p.block < B → w'.cell? p = w.cell? p) : Reads w' B size A n xs :=
  ⟨h.1, fun hn => by
    obtain ⟨ad, e, hb, hc⟩ := h.2 hn
    exact ⟨ad, e, hb, fun j u hu => (hk _ (by rw [block_of_add]; exact hb)).trans (hc j u hu)⟩⟩
theorem Reads.more (h : Reads w B size A n xs) (hB : B ≤ B') : Reads w B' size A n xs :=
  ⟨h.1, fun hn => by
    obtain ⟨ad, e, hb, hc⟩ := h.2 hn
    exact ⟨ad, e, by omega, hc⟩⟩
theorem Reads.below (h : Reads w B size A n xs) (hb : Below B w w') : Reads w' B size A n xs := h.keep fun _ hp => hb.cell hp
theorem Reads.drew (h : Reads w B size A n xs) : Reads w.drew B size A n xs := h
theorem Reads.drewN (h : Reads w B size A n xs) (k : Nat) : Reads (w.drewN k) B size A n xs := h
theorem Reads.alloc (h : Reads w B size A n xs) (hB : B ≤ w.heap.size) (o : Obj) : Reads (w.alloc o) B size A n xs := h.keep fun p hp => World.cell?_alloc_lt w o p (by omega)
theorem Reads.setCell (h : Reads w B size A n xs) {p : Addr} (hB : B ≤ p.block) (u : Value) : Reads (w.setCell p u) B size A n xs :=
  h.keep fun q hq => World.cell?_setCell_other w p q u (fun e => by subst e; omega)
theorem Reads.grown (h : Reads w B size A n xs) {row : Option Nat} (hg : w.grownBy w' row) (hB : B ≤ w.heap.size) (hr : ∀ g, row = some g → B ≤ g) : Reads w' B size A n xs :=
  h.keep fun p hp => World.cell?_of_block (hg.block p.block (by omega) (fun e => by have := hr _ e.symm; omega))
theorem Reads.cut (h : Reads w B size A n xs) {k cap : Nat} (hk : k ≤ n) (hc : n ≤ cap) :
    Reads w B size (if cap = k then A else A.map (·.add (k * size))) (n - k) (xs.drop (k * size)) := by
  refine ⟨by rw [List.length_drop, h.1, Nat.sub_mul], fun hn => ?_⟩
  obtain ⟨ad, rfl, hb, hcell⟩ := h.2 (by omega)
  rw [if_neg (by omega)]
  refine ⟨ad.add (k * size), rfl, by rw [block_of_add]; exact hb, fun j u hu => ?_⟩
  rw [add_of_add]
  exact hcell _ u (by rw [← hu, List.getElem?_drop])
theorem Reads.of_own {base : Nat} {e : TypeId} {c : Nat} (h : w.ownsRow base e size (.slice A n c) n xs) : Reads w w.heap.size size A n xs := by
  refine ⟨h.1, fun hn => ?_⟩
  obtain ⟨g, cap, hv, _, hlt⟩ := h.form hn
  have hA : A = some ⟨g, 0, none⟩ := by injection hv
  subst hA
  exact ⟨_, rfl, hlt, h.cells (g := g) rfl⟩
/-- a block just made, read as a slice of all its cells -/
theorem Reads.made (w : World) (l : List Value) (t : TypeId) : Reads (w.alloc (.cells l.toArray t)) (w.heap.size + 1) 1 (some ⟨w.heap.size, 0, none⟩) l.length l := by
  refine ⟨by simp, fun _ => ⟨_, rfl, by simp, fun j u hu => ?_⟩⟩
  have h := cell_of_row (w.alloc (.cells l.toArray t)) w.heap.size j l.toArray t (0, 0) (heap_alloc_new w _)
  have e : (Addr.add ⟨w.heap.size, 0, none⟩ j) = ⟨w.heap.size, j, none⟩ := by unfold Addr.add; split <;> simp_all
  rw [e, h]; simpa using hu
end
/-- block g is a row of bytes, of which the first are l (what []byte(s) makes) -/
def BytesAt (w : World) (t : TypeId) (g : Nat) (l : List UInt8) : Prop :=
  ∃ (cur : Array Value) (m : Nat), w.heap[g]? = some (.cells cur t (m, m + 1)) ∧ l.length ≤ m ∧ l.length ≤ cur.size ∧ ∀ (j : Nat) (b : UInt8), l[j]? = some b → cur[j]? = some (Value.int .u8 (b.toNat : Int))
theorem BytesAt.cell {w : World} {t : TypeId} {g : Nat} {l : List UInt8} (h : BytesAt w t g l) {j : Nat} {b : UInt8} (hj : l[j]? = some b) : w.cell? ⟨g, j, none⟩ = some (.int .u8 (b.toNat : Int)) := by
  obtain ⟨cur, m, h1, h2, h3, h4⟩ := h
  simp [World.cell?, h1, h4 j b hj]
theorem BytesAt.frozen {w : World} {t : TypeId} {g : Nat} {l : List UInt8} (h : BytesAt w t g l) {j : Nat} (hj : j < l.length) : w.frozen? ⟨g, j, none⟩ = false := by
  obtain ⟨cur, m, h1, h2, h3, h4⟩ := h
  simp only [World.frozen?, h1]
  simp; omega
theorem BytesAt.set_ {w : World} {t : TypeId} {g : Nat} {l : List UInt8} (h : BytesAt w t g l) (j : Nat) (b : UInt8) : BytesAt (w.setCell ⟨g, j, none⟩ (.int .u8 (b.toNat : Int))) t g (l.set j b) := by
  obtain ⟨cur, m, h1, h2, h3, h4⟩ := h
  refine ⟨cur.setIfInBounds j (.int .u8 (b.toNat : Int)), m, ?_, by simpa using h2, by simpa using h3, ?_⟩
  · simp [World.setCell, Array.getElem?_modify, h1]
  · intro i c hi
    rw [List.getElem?_set] at hi
    rw [Array.getElem?_setIfInBounds]
    split at hi
    · split at hi
      · rename_i e1 e2
        subst e1
        simp at hi
        subst hi
        rw [if_pos rfl, if_pos (by omega)]
      · cases hi
    · rename_i e1
      rw [if_neg e1]
      exact h4 i c hi
theorem BytesAt.made (w : World) (t : TypeId) (s : ByteArray) (cap : Nat) : BytesAt (w.alloc (.cells (bytesRow s cap) t ((bytesRow s cap).size, (bytesRow s cap).size + 1))) t w.heap.size s.data.toList := by
  refine ⟨_, _, heap_alloc_new w _, ?_, ?_, ?_⟩
  · simp [bytesRow]
  · simp [bytesRow]
  · intro j b hj
    have hlt : j < s.data.size := by simpa using (List.getElem?_eq_some_iff.1 hj).1
    rw [bytesRow_at s cap j hlt]
    obtain ⟨_, e⟩ := List.getElem?_eq_some_iff.1 hj
    rw [← e]; simp
theorem BytesAt.below {w w' : World} {t : TypeId} {g B : Nat} {l : List UInt8} (h : BytesAt w t g l) (hb : Below B w w') (hg : g < B) : BytesAt w' t g l := by
  obtain ⟨cur, m, h1, h2, h3, h4⟩ := h
  exact ⟨cur, m, (hb.block g hg).trans h1, h2, h3, h4⟩
/-- a slice of ints -/
def ints (l : List Int) : List Value := l.map (Value.int .i64)
theorem ints_len (l : List Int) : (ints l).length = l.length := by simp [ints]
theorem ints_at {l : List Int} {k : Nat} {u : Value} (h : (ints l)[k]? = some u) : u = .int .i64 (l.getD k 0) := by
  simp only [ints, List.getElem?_map, Option.map_eq_some_iff] at h
  obtain ⟨x, hx, rfl⟩ := h
  simp [List.getD, hx]
theorem cell_lt {w : World} {a : Addr} {v : Value} (h : w.cell? a = some v) : a.block < w.heap.size := by
  rcases Nat.lt_or_ge a.block w.heap.size with hl | hg
  · exact hl
  · simp [World.cell?, Array.getElem?_eq_none hg] at h
/-- what a row's proof knows of a slice of ints that came in, in these words -/
theorem reads_of_row {w : World} {a : Option Addr} {len cap : Nat} {zs : List Int}
    (h : (a = none ∧ len = 0 ∧ cap = 0 ∧ zs = []) ∨ ∃ x, a = some x ∧ len ≤ cap ∧ cap ≤ maxLen ∧ zs.length = cap ∧ (∀ i, i < zs.length → w.cell? (x.add i) = some (.int .i64 (zs.getD i 0))) ∧ ∀ n ∈ zs, (Lit.int .i64 n).wf = true) :
    ∃ xs : List Int, Reads w w.heap.size 1 a len (ints xs) ∧ len ≤ maxLen ∧ len ≤ cap ∧ ∀ n ∈ xs, (Lit.int .i64 n).wf = true := by
  rcases h with ⟨rfl, rfl, rfl, rfl⟩ | ⟨x, rfl, hl, hm, hz, hc, hw⟩
  · exact ⟨[], Reads.none_, by simp, Nat.le_refl _, by simp⟩
  · refine ⟨zs.take len, ⟨by simp [ints]; omega, fun h0 => ?_⟩, by omega, hl, fun n hn => hw n (List.mem_of_mem_take hn)⟩
    have hb := cell_lt (hc 0 (by omega))
    rw [block_of_add] at hb
    refine ⟨x, rfl, hb, fun j u hu => ?_⟩
    simp only [ints, List.map_take, List.getElem?_take, List.getElem?_map] at hu
    split at hu
    · simp only [Option.map_eq_some_iff] at hu
      obtain ⟨z, hz1, rfl⟩ := hu
      rw [hc j (by omega)]
      simp [List.getD, hz1]
    · cases hu
theorem Reads.int_at {w : World} {B n k : Nat} {A : Option Addr} {xs : List Int} (h : Reads w B 1 A n (ints xs)) (hk : k < n) :
    ∃ ad x, A = some ad ∧ ad.block < B ∧ Hid (xs[k]? = some x) ∧ w.cell? (ad.add k) = some (.int .i64 x) := by
  obtain ⟨ad, u, e, hb, hx, hc⟩ := h.at_ hk
  simp only [ints, List.getElem?_map, Option.map_eq_some_iff] at hx
  obtain ⟨x, hx, rfl⟩ := hx
  exact ⟨ad, x, e, hb, hx, hc⟩
theorem Reads.len {w : World} {B n : Nat} {A : Option Addr} {xs : List Int} (h : Reads w B 1 A n (ints xs)) : Hid (xs.length = n) := by
  have := h.1; rw [ints_len] at this
  show xs.length = n
  omega
theorem add_plain (b o j : Nat) : (Addr.add ⟨b, o, none⟩ j) = ⟨b, o + j, none⟩ := by unfold Addr.add; split <;> simp_all
theorem Reads.plain {w : World} {B size n : Nat} {A : Option Addr} {xs : List Value} (h : Reads w B size A n xs) (hn : 0 < n) (hs : 0 < size) :
    ∃ b o, A = some ⟨b, o, none⟩ ∧ b < B ∧ ∀ (j : Nat) (u : Value), xs[j]? = some u → w.cell? ⟨b, o + j, none⟩ = some u := by
  obtain ⟨⟨b, o, sp⟩, rfl, hb, hc⟩ := h.2 hn
  have h0 : 0 < xs.length := by rw [h.1]; exact Nat.mul_pos hn hs
  have h1 := hc 0 _ (List.getElem?_eq_getElem h0)
  have hsp : sp = none := by
    cases sp with
    | none => rfl
    | some s =>
      have e : (Addr.add ⟨b, o, some s⟩ 0) = ⟨b, o, some s⟩ := by simp [Addr.add]
      rw [e] at h1
      simp only [World.cell?] at h1
      split at h1 <;> simp at h1
  subst hsp
  refine ⟨b, o, rfl, hb, fun j u hu => ?_⟩
  rw [← add_plain]; exact hc j u hu
/-- the cells of a list of records, m cells each -/
def recs {α : Type} (enc : α → List Value) (l : List α) : List Value := l.flatMap enc
theorem recs_len {α : Type} {enc : α → List Value} {m : Nat} (he : ∀ x, (enc x).length = m) (l : List α) : (recs enc l).length = l.length * m := by
  induction l with
  | nil => simp [recs]
  | cons x t ih =>
    show (enc x ++ recs enc t).length = _
    rw [List.length_append, he, ih, List.length_cons, Nat.succ_mul]; omega
theorem recs_at {α : Type} {enc : α → List Value} {m : Nat} (he : ∀ x, (enc x).length = m) : ∀ {l : List α} {k j : Nat} {x : α}, l[k]? = some x → j < m → (recs enc l)[k * m + j]? = (enc x)[j]?
  | y :: t, 0, j, x, h, hj => by
    simp at h; subst h
    show (enc y ++ recs enc t)[0 * m + j]? = _
    rw [List.getElem?_append_left (by rw [he]; omega)]; simp
  | y :: t, k + 1, j, x, h, hj => by
    simp at h
    show (enc y ++ recs enc t)[(k + 1) * m + j]? = _
    rw [List.getElem?_append_right (by rw [he, Nat.succ_mul]; omega), he, show (k + 1) * m + j - m = k * m + j by rw [Nat.succ_mul]; omega]
    exact recs_at he h hj
theorem recs_append {α : Type} (enc : α → List Value) (a b : List α) : recs enc (a ++ b) = recs enc a ++ recs enc b := by simp [recs]
theorem Reads.rec_at {α : Type} {enc : α → List Value} {m : Nat} (he : ∀ x, (enc x).length = m) (hm : 0 < m) {w : World} {B n k : Nat} {A : Option Addr} {l : List α} (h : Reads w B m A n (recs enc l)) (hk : k < n) :
    ∃ b o x, A = some ⟨b, o, none⟩ ∧ b < B ∧ Hid (l[k]? = some x) ∧ ∀ j v, (enc x)[j]? = some v → w.cell? ⟨b, o + (k * m + j), none⟩ = some v := by
  obtain ⟨b, o, e, hb, hc⟩ := h.plain (by omega) hm
  have hl : l.length = n := by
    have h1 := h.1
    rw [recs_len he] at h1
    exact Nat.eq_of_mul_eq_mul_right hm h1
  have hx : l[k]? = some (l[k]'(by omega)) := List.getElem?_eq_getElem (by omega)
  refine ⟨b, o, _, e, hb, hx, fun j v hv => ?_⟩
  have hj : j < m := by rw [← he (l[k]'(by omega))]; exact (List.getElem?_eq_some_iff.1 hv).1
  exact hc _ v (by rw [recs_at he hx hj, hv])
theorem Reads.rec_len {α : Type} {enc : α → List Value} {m : Nat} (he : ∀ x, (enc x).length = m) (hm : 0 < m) {w : World} {B n : Nat} {A : Option Addr} {l : List α} (h : Reads w B m A n (recs enc l)) : Hid (l.length = n) := by
  have h1 := h.1
  rw [recs_len he] at h1
  exact Nat.eq_of_mul_eq_mul_right hm h1
theorem recs_one {α : Type} {enc : α → List Value} (he : ∀ x, ∀ u ∈ enc x, u.oneCell' = true) (l : List α) : ∀ u ∈ recs enc l, u.oneCell' = true := by
  intro u hu
  simp only [recs, List.mem_flatMap] at hu
  obtain ⟨x, _, hx⟩ := hu
  exact he x u hx
theorem recs_single {α : Type} (enc : α → List Value) (x : α) : recs enc [x] = enc x := by simp [recs]
theorem recs_take {α : Type} {enc : α → List Value} {m : Nat} (he : ∀ x, (enc x).length = m) : ∀ (l : List α) (k : Nat), recs enc (l.take k) = (recs enc l).take (k * m)
  | [], k => by simp [recs]
  | x :: t, 0 => by simp [recs]
  | x :: t, k + 1 => by
    show enc x ++ recs enc (t.take k) = (enc x ++ recs enc t).take ((k + 1) * m)
    rw [recs_take he t k, List.take_append, he, Nat.succ_mul, Nat.add_sub_cancel, List.take_of_length_le (l := enc x) (by rw [he]; omega)]
theorem recs_drop {α : Type} {enc : α → List Value} {m : Nat} (he : ∀ x, (enc x).length = m) : ∀ (l : List α) (k : Nat), recs enc (l.drop k) = (recs enc l).drop (k * m)
  | [], k => by simp [recs]
  | x :: t, 0 => by simp [recs]
  | x :: t, k + 1 => by
    show recs enc (t.drop k) = (enc x ++ recs enc t).drop ((k + 1) * m)
    rw [recs_drop he t k, List.drop_append, he, Nat.succ_mul, Nat.add_sub_cancel, List.drop_of_length_le (l := enc x) (by rw [he]; omega), List.nil_append]
/-- a store into one cell of one record -/
theorem recs_set {α : Type} {enc : α → List Value} {m : Nat} (he : ∀ x, (enc x).length = m) : ∀ {l : List α} {k j : Nat} {x y : α} {v : Value}, l[k]? = some x → j < m → enc y = (enc x).set j v → (recs enc l).set (k * m + j) v = recs enc (l.set k y)
  | z :: t, 0, j, x, y, v, h, hj, hy => by
    simp at h; subst h
    show (enc z ++ recs enc t).set (0 * m + j) v = enc y ++ recs enc t
    rw [List.set_append_left _ _ (by rw [he]; omega), hy]; simp
  | z :: t, k + 1, j, x, y, v, h, hj, hy => by
    simp at h
    show (enc z ++ recs enc t).set ((k + 1) * m + j) v = enc z ++ recs enc (t.set k y)
    rw [List.set_append_right _ _ (by rw [he, Nat.succ_mul]; omega), he, show (k + 1) * m + j - m = k * m + j by rw [Nat.succ_mul]; omega, recs_set he h hj hy]
section
variable {P : Program} (w : World)
theorem run_append_of_nil (base : Nat) (t ty e : TypeId) (i : TypeInfo) (size : Nat) (ht : P.underlying t = some (.slice e)) (hi : P.info? e = some i)
    (v : Value) (n : Nat) (xs : List Value) (hown : w.ownsRow base e size v n xs) (c : Nat) : (Builtin.append_ #[t, t] ty #[v, .slice none 0 c]).run P w = .ok v w := by
  rcases hown.2 with ⟨rfl, rfl⟩ | ⟨g, cap, cur, rfl, _, _, hnc, _⟩
  · simp [Builtin.append_, run_underlying ht, sizeOf, typeInfo, hi, Builtin.lenOf, Builtin.firstCells]
  · simp [Builtin.append_, run_underlying ht, sizeOf, typeInfo, hi, Builtin.lenOf, Builtin.firstCells, hnc, storeCells]
theorem run_append_any (base : Nat) (t ty e : TypeId) (i : TypeInfo) (z : Value) (size bytes : Nat) (ht : P.underlying t = some (.slice e)) (hi : P.info? e = some i) (hz : i.zero = some z)
    (hsize : i.size = size) (hby : i.bytes = bytes) (hzs : z.cells.size = size) (hsz : 0 < size)
    (v : Value) (n : Nat) (xs : List Value) (hown : w.ownsRow base e size v n xs)
    (B : Nat) (A : Option Addr) (m c : Nat) (news : List Value) (hr : Reads w B size A m news) (h1 : ∀ u ∈ news, u.oneCell' = true)
    (h63 : n + m ≤ maxLen) (hbytes : (n + m) * bytes ≤ 140737488355328) (hbase : base ≤ w.heap.size) :
    ∃ v' w', (Builtin.append_ #[t, t] ty #[v, .slice A m c]).run P w = .ok v' w' ∧ w'.ownsRow base e size v' (n + m) (xs ++ news) ∧ w.grownBy w' v.ownBlock ∧
      (v'.ownBlock = v.ownBlock ∨ v'.ownBlock = some w.heap.size) := by
  rcases A with _ | ad
  · have hm : m = 0 := by
      rcases Nat.eq_zero_or_pos m with h0 | h0
      · exact h0
      · obtain ⟨ad, h, _⟩ := hr.2 h0
        cases h
    subst hm
    have hn : news = [] := List.eq_nil_of_length_eq_zero (by simpa using hr.1)
    subst hn
    exact ⟨v, w, run_append_of_nil w base t ty e i size ht hi v n xs hown c, by simpa using hown, World.grownBy.refl w _, .inl rfl⟩
  · have hcells : ∀ j u, news[j]? = some u → w.cell? (ad.add j) = some u := by
      intro j u hu
      rcases Nat.eq_zero_or_pos m with h0 | h0
      · subst h0
        have hn : news = [] := List.eq_nil_of_length_eq_zero (by simpa using hr.1)
        subst hn
        simp at hu
      · obtain ⟨ad', h, _, hc⟩ := hr.2 h0
        injection h with h
        subst h
        exact hc j u hu
    obtain ⟨v', w', hrun, h2, h3, _, h5⟩ := run_append_own_at (P := P) w base t ty e i z size bytes ht hi hz hsize hby hzs hsz v n xs hown ad m c news hr.1 hcells h1 h63 hbytes hbase
    exact ⟨v', w', hrun, h2, h3, h5⟩
theorem wp_append_any {o : Oper} {a : Act} {K : Act → World → Prop} {Q : Exit → Act → World → Prop} (s x : Operand) (t : TypeId)
    (ho : o.op = .call { callee := .builtin .append, args := #[s, x], argTypes := #[t, t] })
    (base : Nat) (e : TypeId) (i : TypeInfo) (z : Value) (size bytes : Nat) (ht : P.underlying t = some (.slice e)) (hi : P.info? e = some i) (hz : i.zero = some z)
    (hsize : i.size = size) (hby : i.bytes = bytes) (hzs : z.cells.size = size) (hsz : 0 < size)
    (v : Value) (n : Nat) (xs : List Value) (hs : a.eval s = v) (hown : w.ownsRow base e size v n xs)
    (B : Nat) (A : Option Addr) (m c : Nat) (news : List Value) (hx : a.eval x = .slice A m c) (hr : Reads w B size A m news) (h1 : ∀ u ∈ news, u.oneCell' = true)
    (h63 : n + m ≤ maxLen) (hbytes : (n + m) * bytes ≤ 140737488355328) (hbase : base ≤ w.heap.size)
    (h : ∀ v' w', w'.ownsRow base e size v' (n + m) (xs ++ news) → w.grownBy w' v.ownBlock → (v'.ownBlock = v.ownBlock ∨ v'.ownBlock = some w.heap.size) → K (a.put o.dst v') w') : o.wp P a w K Q := by
  obtain ⟨v', w', hrun, h2, h3, h4⟩ := run_append_any (P := P) w base t o.type e i z size bytes ht hi hz hsize hby hzs hsz v n xs hown B A m c news hr h1 h63 hbytes hbase
  unfold Oper.wp execOp
  simp only [ho, resolve, invoke, builtin, Sem.run_bind, Sem.run_pure, Result.andThen_ok, List.map_toArray, List.map_cons, List.map_nil, hs, hx, hrun]
  exact h v' w' h2 h3 h4
theorem wpList_append_any {ops : Array Oper} {rest : List Oper} {o : Oper} {a : Act} {Q : Exit → Act → World → Prop} (hgd : o.guard = none) (s x : Operand) (t : TypeId)
    (ho : o.op = .call { callee := .builtin .append, args := #[s, x], argTypes := #[t, t] })
    (base : Nat) (e : TypeId) (i : TypeInfo) (z : Value) (size bytes : Nat) (ht : P.underlying t = some (.slice e)) (hi : P.info? e = some i) (hz : i.zero = some z)
    (hsize : i.size = size) (hby : i.bytes = bytes) (hzs : z.cells.size = size) (hsz : 0 < size)
    (v : Value) (n : Nat) (xs : List Value) (hs : a.eval s = v) (hown : w.ownsRow base e size v n xs)
    (B : Nat) (A : Option Addr) (m c : Nat) (news : List Value) (hx : a.eval x = .slice A m c) (hr : Reads w B size A m news) (h1 : ∀ u ∈ news, u.oneCell' = true)
    (h63 : n + m ≤ maxLen) (hbytes : (n + m) * bytes ≤ 140737488355328) (hbase : base ≤ w.heap.size)
    (h : ∀ v' w', w'.ownsRow base e size v' (n + m) (xs ++ news) → w.grownBy w' v.ownBlock → (v'.ownBlock = v.ownBlock ∨ v'.ownBlock = some w.heap.size) → wpList P ops Q rest (a.put o.dst v') w') : wpList P ops Q (o :: rest) a w :=
  wpList_plain hgd fun _ hK => wp_append_any w s x t ho base e i z size bytes ht hi hz hsize hby hzs hsz v n xs hs hown B A m c news hx hr h1 h63 hbytes hbase fun v' w' h2 h3 h4 => hK _ _ (h v' w' h2 h3 h4)
theorem step_append_any {ops : Array Oper} {o : Oper} {a : Act} {K : Act → World → Prop} {Q : Exit → Act → World → Prop} {E : Prop} (hgd : o.guard = none) (s x : Operand) (t : TypeId)
    (ho : o.op = .call { callee := .builtin .append, args := #[s, x], argTypes := #[t, t] })
    (base : Nat) (e : TypeId) (i : TypeInfo) (z : Value) (size bytes : Nat) (ht : P.underlying t = some (.slice e)) (hi : P.info? e = some i) (hz : i.zero = some z)
    (hsize : i.size = size) (hby : i.bytes = bytes) (hzs : z.cells.size = size) (hsz : 0 < size)
    (v : Value) (n : Nat) (xs : List Value) (hs : a.eval s = v) (hown : w.ownsRow base e size v n xs)
    (B : Nat) (A : Option Addr) (m c : Nat) (news : List Value) (hx : a.eval x = .slice A m c) (hr : Reads w B size A m news) (h1 : ∀ u ∈ news, u.oneCell' = true)
    (h63 : n + m ≤ maxLen) (hbytes : (n + m) * bytes ≤ 140737488355328) (hbase : base ≤ w.heap.size)
    (h : ∀ v' w', w'.ownsRow base e size v' (n + m) (xs ++ news) → w.grownBy w' v.ownBlock → (v'.ownBlock = v.ownBlock ∨ v'.ownBlock = some w.heap.size) → K (a.put o.dst v') w') :
    if Region.wanted o (yielded ops a.tmps) = true then Oper.wp P o a w K Q else E := by
  have hw : Region.wanted o (yielded ops a.tmps) = true := by simp [Region.wanted, hgd]
  rw [if_pos hw]
  exact wp_append_any w s x t ho base e i z size bytes ht hi hz hsize hby hzs hsz v n xs hs hown B A m c news hx hr h1 h63 hbytes hbase h
end
theorem own_slice {w : World} {base : Nat} {e : TypeId} {size n : Nat} {v : Value} {xs : List Value} (h : w.ownsRow base e size v n xs) : ∃ A c, v = .slice A n c ∧ n ≤ c := by
  rcases h.2 with ⟨rfl, rfl⟩ | ⟨g, cap, cur, rfl, _, _, hc, _⟩
  · exact ⟨none, 0, rfl, Nat.le_refl _⟩
  · exact ⟨_, cap, rfl, hc⟩
theorem own_nil {w : World} {base : Nat} {e : TypeId} {size : Nat} : w.ownsRow base e size (.slice none 0 0) 0 [] := ⟨by simp, .inl ⟨rfl, rfl⟩⟩
/-- moving an iterator on keeps a row of cells -/
theorem own_iterAt {w : World} {base : Nat} {e : TypeId} {size n : Nat} {v : Value} {xs : List Value} (h : w.ownsRow base e size v n xs) {k : Nat} {s : ByteArray} {pos : Nat} (hk : w.heap[k]? = some (.stringIter s pos)) (pos' : Nat) :
    (w.iterAt k s pos').ownsRow base e size v n xs := by
  refine ⟨h.1, ?_⟩
  rcases h.2 with h0 | ⟨g, cap, cur, hv, hbg, hg, rest⟩
  · exact .inl h0
  · have hkg : g ≠ k := by
      intro e1
      rw [e1, hk] at hg
      cases hg
    exact .inr ⟨g, cap, cur, hv, hbg, (Lib.iterAt_other w k g s pos' hkg).trans hg, rest⟩
/-- an append kept everything below a block -/
theorem below_app {B : Nat} {w0 w w' : World} {base : Nat} {e : TypeId} {size n : Nat} {v : Value} {xs : List Value} (hb : Below B w0 w) (hB : B ≤ base) (hB2 : B ≤ w.heap.size) (h : w.ownsRow base e size v n xs) (hg : w.grownBy w' v.ownBlock) : Below B w0 w' :=
  hb.grown hg hB2 (fun k hk => Nat.le_trans hB (h.lt k hk).1)
theorem Tryz.info_int : (Tryz.prog.info? 3).map (fun i => (i.zero, i.size, i.bytes)) = some (some (.int .i64 0), 1, 8) := by kernel_rfl
theorem ints_one (l : List Int) : ∀ u ∈ ints l, u.oneCell' = true := by
  intro u hu
  simp only [ints, List.mem_map] at hu
  obtain ⟨x, _, rfl⟩ := hu
  rfl
/-- 'append(s, x...)' of ints, s nil or the call's own -/
theorem wp_app_ints {w : World} {ops : Array Oper} {rest : List Oper} {o : Oper} {a : Act} {Q : Exit → Act → World → Prop} (s x : Operand) (hgd : o.guard = none)
    (ho : o.op = .call { callee := .builtin .append, args := #[s, x], argTypes := #[38, 38] })
    (base : Nat) (v : Value) (n : Nat) (xs : List Int) (hs : a.eval s = v) (hown : w.ownsRow base 3 1 v n (ints xs))
    (B : Nat) (A : Option Addr) (m c : Nat) (news : List Int) (hx : a.eval x = .slice A m c) (hr : Reads w B 1 A m (ints news))
    (hlen : n + m ≤ 17592186044416) (hbase : base ≤ w.heap.size)
    (h : ∀ v' w', w'.ownsRow base 3 1 v' (n + m) (ints (xs ++ news)) → w.grownBy w' v.ownBlock → (v'.ownBlock = v.ownBlock ∨ v'.ownBlock = some w.heap.size) → wpList Tryz.prog ops Q rest (a.put o.dst v') w') : wpList Tryz.prog ops Q (o :: rest) a w := by
  obtain ⟨i0, hi0, hz0, hz1, hz2⟩ := info_parts Tryz.info_int
  refine wpList_append_any w hgd s x _ ho base 3 i0 _ 1 8 Tryz.underlying38 hi0 hz0 hz1 hz2 rfl (by omega) v n (ints xs) hs hown B A m c (ints news) hx hr (ints_one _) (by simp only [maxLen]; omega) (by omega) hbase ?_
  intro v' w' h1 h2 h3
  exact h v' w' (by simpa [ints] using h1) h2 h3
theorem Tryz.info_byte : (Tryz.prog.info? 5).map (fun i => (i.zero, i.size, i.bytes)) = some (some (.int .u8 0), 1, 1) := by kernel_rfl
theorem bytes_one (l : List UInt8) : ∀ u ∈ Lib.byteCells l, u.oneCell' = true := by
  intro u hu
  simp only [Lib.byteCells, List.mem_map] at hu
  obtain ⟨x, _, rfl⟩ := hu
  rfl
/-- 'append(s, x...)' of bytes, s nil or the call's own -/
theorem wp_app_bytes {w : World} {ops : Array Oper} {rest : List Oper} {o : Oper} {a : Act} {Q : Exit → Act → World → Prop} (s x : Operand) (hgd : o.guard = none)
    (ho : o.op = .call { callee := .builtin .append, args := #[s, x], argTypes := #[165, 165] })
    (base : Nat) (v : Value) (n : Nat) (xs : List UInt8) (hs : a.eval s = v) (hown : w.ownsRow base 5 1 v n (Lib.byteCells xs))
    (B : Nat) (A : Option Addr) (m c : Nat) (news : List UInt8) (hx : a.eval x = .slice A m c) (hr : Reads w B 1 A m (Lib.byteCells news))
    (hlen : n + m ≤ 140737488355328) (hbase : base ≤ w.heap.size)
    (h : ∀ v' w', w'.ownsRow base 5 1 v' (n + m) (Lib.byteCells (xs ++ news)) → w.grownBy w' v.ownBlock → (v'.ownBlock = v.ownBlock ∨ v'.ownBlock = some w.heap.size) → wpList Tryz.prog ops Q rest (a.put o.dst v') w') : wpList Tryz.prog ops Q (o :: rest) a w := by
  obtain ⟨i0, hi0, hz0, hz1, hz2⟩ := info_parts Tryz.info_byte
  refine wpList_append_any w hgd s x _ ho base 5 i0 _ 1 1 Tryz.underlying165 hi0 hz0 hz1 hz2 rfl (by omega) v n (Lib.byteCells xs) hs hown B A m c (Lib.byteCells news) hx hr (bytes_one _) (by simp only [maxLen]; omega) (by omega) hbase ?_
  intro v' w' h1 h2 h3
  exact h v' w' (by simpa [Lib.byteCells] using h1) h2 h3
theorem made_byte (w : World) (x : Int) (b : UInt8) (h : (b.toNat : Int) = x) : Reads (w.alloc (.cells #[.int .u8 x] 5)) (w.heap.size + 1) 1 (some ⟨w.heap.size, 0, none⟩) 1 (Lib.byteCells [b]) := by
  subst h; exact Reads.made w (Lib.byteCells [b]) 5
/-- 'string(b)' of a slice of bytes, nil or not -/
theorem str_of_reads {w : World} {B n c : Nat} {A : Option Addr} {l : List UInt8} (hr : Reads w B 1 A n (Lib.byteCells l)) :
    (convert 165 9 (.slice A n c)).run Tryz.prog w = .ok (.string ⟨l.toArray⟩) w := by
  have hn : l.length = n := by have := hr.1; simp [Lib.byteCells] at this; omega
  subst hn
  rcases A with _ | ad
  · have : l = [] := by
      rcases l with _ | ⟨b, t⟩
      · rfl
      · obtain ⟨ad, h, _⟩ := hr.2 (by simp)
        cases h
    subst this
    exact run_convert_bytes_nil w 165 5 Tryz.underlying165 Tryz.underlying5 _ _ 9 Tryz.underlying9
  · refine run_convert_bytes_back w 165 9 5 ad c l Tryz.underlying165 Tryz.underlying5 Tryz.underlying9 (fun j hj => ?_)
    obtain ⟨ad', h, _, hc⟩ := hr.2 (by omega)
    injection h with h
    subst h
    exact hc j _ (by simp [Lib.byteCells, hj])
/-- the call's own slice: a row of its own, or a slice without room -/
def Owns (w : World) (B : Nat) (e : TypeId) (size : Nat) (v : Value) (n : Nat) (xs : List Value) : Prop :=
  w.ownsRow B e size v n xs ∨ ∃ A, v = .slice A 0 0 ∧ n = 0 ∧ xs = []
/-- what an append to v may have written -/
def AppKeeps (base : Nat) (v : Value) (w w' : World) : Prop := ∃ row, w.grownBy w' row ∧ ∀ g, row = some g → v.ownBlock = some g ∧ base ≤ g
section
variable {w w' : World} {B : Nat} {e : TypeId} {size n : Nat} {v : Value} {xs : List Value}
theorem Owns.nil {A : Option Addr} : Owns w B e size (.slice A 0 0) 0 [] := .inr ⟨A, rfl, rfl, rfl⟩
theorem Owns.len (h : Owns w B e size v n xs) : xs.length = n * size := by
  rcases h with h | ⟨A, rfl, rfl, rfl⟩
  · exact h.1
  · simp
theorem Owns.slice (h : Owns w B e size v n xs) : ∃ A c, v = .slice A n c ∧ n ≤ c ∧ c ≤ maxLen := by
  rcases h with h | ⟨A, rfl, rfl, rfl⟩
  · rcases h.2 with ⟨rfl, rfl⟩ | ⟨g, cap, cur, rfl, _, _, hc, hm, _⟩
    · exact ⟨none, 0, rfl, Nat.le_refl _, by simp [maxLen]⟩
    · exact ⟨_, cap, rfl, hc, hm⟩
  · exact ⟨A, 0, rfl, Nat.le_refl _, by simp [maxLen]⟩
theorem Owns.reads {A : Option Addr} {c : Nat} (h : Owns w B e size (.slice A n c) n xs) : Reads w w.heap.size size A n xs := by
  rcases h with h | ⟨A', h1, rfl, rfl⟩
  · exact Reads.of_own h
  · exact Reads.none_
theorem Owns.keep (h : Owns w B e size v n xs) (hk : ∀ g, v.ownBlock = some g → B ≤ g → g < w.heap.size → w'.heap[g]? = w.heap[g]?) : Owns w' B e size v n xs := by
  rcases h with h | h
  · refine .inl ⟨h.1, ?_⟩
    rcases h.2 with h0 | ⟨g, cap, cur, rfl, hbg, hg, rest⟩
    · exact .inl h0
    · have hlt : g < w.heap.size := by
        rcases Nat.lt_or_ge g w.heap.size with h' | h'
        · exact h'
        · rw [Array.getElem?_eq_none h'] at hg; cases hg
      exact .inr ⟨g, cap, cur, rfl, hbg, (hk g rfl hbg hlt).trans hg, rest⟩
  · exact .inr h
theorem Owns.below (h : Owns w B e size v n xs) (hb : Below w.heap.size w w') : Owns w' B e size v n xs := h.keep fun g _ _ hg => hb.block g hg
theorem Owns.alloc (h : Owns w B e size v n xs) (o : Obj) : Owns (w.alloc o) B e size v n xs := h.keep fun g _ _ hg => Below.heap_alloc _ _ _ hg
theorem Owns.drew (h : Owns w B e size v n xs) : Owns w.drew B e size v n xs := h.keep fun g _ _ hg => rfl
theorem Owns.drewN (h : Owns w B e size v n xs) (k : Nat) : Owns (w.drewN k) B e size v n xs := h.keep fun g _ _ hg => rfl
theorem Owns.setCell (h : Owns w B e size v n xs) {p : Addr} (hp : v.ownBlock ≠ some p.block) (u : Value) : Owns (w.setCell p u) B e size v n xs :=
  h.keep fun g hg _ _ => Below.heap_setCell _ _ _ _ (fun e1 => hp (by rw [hg, e1]))
theorem Owns.setBelow (h : Owns w B e size v n xs) {p : Addr} (hp : p.block < B) (u : Value) : Owns (w.setCell p u) B e size v n xs :=
  h.keep fun g hg hB _ => Below.heap_setCell _ _ _ _ (by omega)
theorem Owns.app {base : Nat} {v2 : Value} (h : Owns w B e size v n xs) (hk : AppKeeps base v2 w w') (hne : v.ownBlock ≠ v2.ownBlock) : Owns w' B e size v n xs := by
  obtain ⟨row, hg, hrow⟩ := hk
  exact h.keep fun g h1 _ hlt => hg.block g hlt (fun e1 => hne (by rw [h1, (hrow g e1.symm).1]))
theorem Owns.mono {B' : Nat} (h : Owns w B e size v n xs) (hB : B' ≤ B) : Owns w B' e size v n xs := by
  rcases h with h | h
  · refine .inl ⟨h.1, ?_⟩
    rcases h.2 with h0 | ⟨g, cap, cur, h1, hbg, rest⟩
    · exact .inl h0
    · exact .inr ⟨g, cap, cur, h1, by omega, rest⟩
  · exact .inr h
/-- a slice that is not empty lies in a block of its own -/
theorem Owns.at_ (h : Owns w B e size v n xs) (hn : 0 < n) : ∃ g c, v = .slice (some ⟨g, 0, none⟩) n c ∧ B ≤ g ∧ g < w.heap.size ∧ n ≤ c ∧ c ≤ maxLen ∧ (∀ (j : Nat) (u : Value), xs[j]? = some u → w.cell? ⟨g, j, none⟩ = some u) ∧ ∀ j, w.frozen? ⟨g, j, none⟩ = false := by
  rcases h with h | ⟨A, rfl, rfl, rfl⟩
  · rcases h.2 with ⟨rfl, rfl⟩ | ⟨g, cap, cur, rfl, hbg, hg, hc, hm, _⟩
    · exact absurd hn (by omega)
    · refine ⟨g, cap, rfl, hbg, ?_, hc, hm, fun j u hu => ?_, fun j => h.frozenAt j⟩
      · rcases Nat.lt_or_ge g w.heap.size with h' | h'
        · exact h'
        · rw [Array.getElem?_eq_none h'] at hg; cases hg
      · rw [h.cellAt j (by rw [← h.1]; exact (List.getElem?_eq_some_iff.1 hu).1), hu]
  · exact absurd hn (by omega)
theorem Owns.stored {g c : Nat} (h : Owns w B e size (.slice (some ⟨g, 0, none⟩) n c) n xs) (hn : 0 < n) (j : Nat) (u : Value) : Owns (w.setCell ⟨g, j, none⟩ u) B e size (.slice (some ⟨g, 0, none⟩) n c) n (xs.set j u) := by
  rcases h with h | ⟨A, h1, rfl, rfl⟩
  · exact .inl (h.stored j u).1
  · exact absurd hn (by omega)
theorem AppKeeps.below {B0 base : Nat} {w0 : World} (hk : AppKeeps base v w w') (hb : Below B0 w0 w) (h1 : B0 ≤ base) (h2 : B0 ≤ w.heap.size) : Below B0 w0 w' := by
  obtain ⟨row, hg, hrow⟩ := hk
  exact hb.grown hg h2 (fun k hk => Nat.le_trans h1 (hrow k hk).2)
theorem AppKeeps.reads {base B2 m s2 : Nat} {A : Option Addr} {ys : List Value} (hk : AppKeeps base v w w') (hr : Reads w B2 s2 A m ys) (h1 : B2 ≤ base) (h2 : B2 ≤ w.heap.size) : Reads w' B2 s2 A m ys := by
  obtain ⟨row, hg, hrow⟩ := hk
  exact hr.grown hg h2 (fun k hk => Nat.le_trans h1 (hrow k hk).2)
theorem AppKeeps.hsize {base : Nat} (hk : AppKeeps base v w w') : w.heap.size ≤ w'.heap.size := by
  obtain ⟨row, hg, hrow⟩ := hk
  exact hg.size
/-- a cell elsewhere reads as it did -/
theorem AppKeeps.cell {base : Nat} (hk : AppKeeps base v w w') {p : Addr} (h1 : p.block < w.heap.size) (h2 : v.ownBlock ≠ some p.block) : w'.cell? p = w.cell? p := by
  obtain ⟨row, hg, hrow⟩ := hk
  exact World.cell?_of_block (hg.block p.block h1 (fun e => h2 (hrow _ e.symm).1))
theorem AppKeeps.cell_low {base : Nat} (hk : AppKeeps base v w w') {p : Addr} (h1 : p.block < w.heap.size) (h2 : p.block < base) : w'.cell? p = w.cell? p := by
  obtain ⟨row, hg, hrow⟩ := hk
  exact World.cell?_of_block (hg.block p.block h1 (fun e => by have := (hrow _ e.symm).2; omega))
theorem AppKeeps.frozen_low {base : Nat} (hk : AppKeeps base v w w') {p : Addr} (h1 : p.block < w.heap.size) (h2 : p.block < base) : w'.frozen? p = w.frozen? p := by
  obtain ⟨row, hg, hrow⟩ := hk
  exact World.frozen?_of_block (hg.block p.block h1 (fun e => by have := (hrow _ e.symm).2; omega))
end
section
variable {P : Program} (w : World)
theorem run_append_owns (base : Nat) (t ty e : TypeId) (i : TypeInfo) (z : Value) (size bytes : Nat) (ht : P.underlying t = some (.slice e)) (hi : P.info? e = some i) (hz : i.zero = some z)
    (hsize : i.size = size) (hby : i.bytes = bytes) (hzs : z.cells.size = size) (hsz : 0 < size)
    (v : Value) (n : Nat) (xs : List Value) (hown : Owns w base e size v n xs)
    (B : Nat) (A : Option Addr) (m c : Nat) (news : List Value) (hr : Reads w B size A m news) (h1 : ∀ u ∈ news, u.oneCell' = true)
    (h63 : n + m ≤ maxLen) (hbytes : (n + m) * bytes ≤ 140737488355328) (hbase : base ≤ w.heap.size) :
    ∃ v' w', (Builtin.append_ #[t, t] ty #[v, .slice A m c]).run P w = .ok v' w' ∧ Owns w' base e size v' (n + m) (xs ++ news) ∧ AppKeeps base v w w' ∧
      (v'.ownBlock = v.ownBlock ∨ v'.ownBlock = some w.heap.size) := by
  rcases hown with hown | ⟨A0, rfl, rfl, rfl⟩
  · obtain ⟨v', w', h2, h3, h4, h5⟩ := run_append_any (P := P) w base t ty e i z size bytes ht hi hz hsize hby hzs hsz v n xs hown B A m c news hr h1 h63 hbytes hbase
    exact ⟨v', w', h2, .inl h3, ⟨_, h4, fun g hg => ⟨hg, (hown.lt g hg).1⟩⟩, h5⟩
  · rcases Nat.eq_zero_or_pos m with h0 | h0
    · subst h0
      have hn : news = [] := List.eq_nil_of_length_eq_zero (by simpa using hr.1)
      subst hn
      refine ⟨.slice A0 0 0, w, ?_, .inr ⟨A0, rfl, rfl, rfl⟩, ⟨none, World.grownBy.refl w _, fun g hg => by cases hg⟩, .inl rfl⟩
      rcases A with _ | ad
      · rcases A0 with _ | a0 <;> simp [Builtin.append_, run_underlying ht, sizeOf, typeInfo, hi, Builtin.lenOf, Builtin.firstCells, storeCells]
      · rcases A0 with _ | a0 <;> simp [Builtin.append_, run_underlying ht, sizeOf, typeInfo, hi, Builtin.lenOf, Builtin.firstCells, storeCells, loadCells, loadCellsFrom]
    · obtain ⟨ad, rfl, hb, hc⟩ := hr.2 h0
      rcases A0 with _ | a0
      · obtain ⟨v', w', h2, h3, h4, h5⟩ := run_append_any (P := P) w base t ty e i z size bytes ht hi hz hsize hby hzs hsz (.slice none 0 0) 0 [] ⟨by simp, .inl ⟨rfl, rfl⟩⟩ B (some ad) m c news hr h1 h63 hbytes hbase
        exact ⟨v', w', h2, .inl h3, ⟨_, h4, fun g hg => by cases hg⟩, h5⟩
      · subst hsize
        subst hby
        have hr2 := run_append_grow (P := P) w t ty e i z ht hi hz a0 0 0 [] (by simp) (by simp) ad m c news hr.1 hc (by omega) (by simp only [maxLen] at h63; omega) (growslice_fits (by omega) hbytes)
        refine ⟨_, _, hr2, .inl ⟨by simp [hr.1], .inr ⟨w.heap.size, _, _, rfl, hbase, heap_alloc_new w.drew _, grownCap_ge w (0 + m) 0 e, grownCap_le_maxLen w (0 + m) 0 e h63, ?_, ?_⟩⟩, ⟨none, ⟨rfl, rfl, rfl, by simp, fun k hk _ => Below.heap_alloc w.drew _ k hk⟩, fun g hg => by cases hg⟩, .inr rfl⟩
        · have hge := grownCap_ge w (0 + m) 0 e
          simp only [Array.size_append, List.size_toArray, size_zeroCells, hzs, hr.1, List.length_nil, Nat.zero_add, ← Nat.add_mul]
          congr 1
          simp only [Nat.zero_add] at hge
          omega
        · simp only [Array.toList_append, List.nil_append]
          rw [Nat.zero_add, ← hr.1]
          exact List.take_left
theorem wp_append_owns {o : Oper} {a : Act} {K : Act → World → Prop} {Q : Exit → Act → World → Prop} (s x : Operand) (t : TypeId)
    (ho : o.op = .call { callee := .builtin .append, args := #[s, x], argTypes := #[t, t] })
    (base : Nat) (e : TypeId) (i : TypeInfo) (z : Value) (size bytes : Nat) (ht : P.underlying t = some (.slice e)) (hi : P.info? e = some i) (hz : i.zero = some z)
    (hsize : i.size = size) (hby : i.bytes = bytes) (hzs : z.cells.size = size) (hsz : 0 < size)
    (v : Value) (n : Nat) (xs : List Value) (hs : a.eval s = v) (hown : Owns w base e size v n xs)
    (B : Nat) (A : Option Addr) (m c : Nat) (news : List Value) (hx : a.eval x = .slice A m c) (hr : Reads w B size A m news) (h1 : ∀ u ∈ news, u.oneCell' = true)
    (h63 : n + m ≤ maxLen) (hbytes : (n + m) * bytes ≤ 140737488355328) (hbase : base ≤ w.heap.size)
    (h : ∀ v' w', Owns w' base e size v' (n + m) (xs ++ news) → AppKeeps base v w w' → (v'.ownBlock = v.ownBlock ∨ v'.ownBlock = some w.heap.size) → K (a.put o.dst v') w') : o.wp P a w K Q := by
  obtain ⟨v', w', hrun, h2, h3, h4⟩ := run_append_owns (P := P) w base t o.type e i z size bytes ht hi hz hsize hby hzs hsz v n xs hown B A m c news hr h1 h63 hbytes hbase
  unfold Oper.wp execOp
  simp only [ho, resolve, invoke, builtin, Sem.run_bind, Sem.run_pure, Result.andThen_ok, List.map_toArray, List.map_cons, List.map_nil, hs, hx, hrun]
  exact h v' w' h2 h3 h4
theorem wpList_append_owns {ops : Array Oper} {rest : List Oper} {o : Oper} {a : Act} {Q : Exit → Act → World → Prop} (hgd : o.guard = none) (s x : Operand) (t : TypeId)
    (ho : o.op = .call { callee := .builtin .append, args := #[s, x], argTypes := #[t, t] })
    (base : Nat) (e : TypeId) (i : TypeInfo) (z : Value) (size bytes : Nat) (ht : P.underlying t = some (.slice e)) (hi : P.info? e = some i) (hz : i.zero = some z)
    (hsize : i.size = size) (hby : i.bytes = bytes) (hzs : z.cells.size = size) (hsz : 0 < size)
    (v : Value) (n : Nat) (xs : List Value) (hs : a.eval s = v) (hown : Owns w base e size v n xs)
    (B : Nat) (A : Option Addr) (m c : Nat) (news : List Value) (hx : a.eval x = .slice A m c) (hr : Reads w B size A m news) (h1 : ∀ u ∈ news, u.oneCell' = true)
    (h63 : n + m ≤ maxLen) (hbytes : (n + m) * bytes ≤ 140737488355328) (hbase : base ≤ w.heap.size)
    (h : ∀ v' w', Owns w' base e size v' (n + m) (xs ++ news) → AppKeeps base v w w' → (v'.ownBlock = v.ownBlock ∨ v'.ownBlock = some w.heap.size) → wpList P ops Q rest (a.put o.dst v') w') : wpList P ops Q (o :: rest) a w :=
  wpList_plain hgd fun _ hK => wp_append_owns w s x t ho base e i z size bytes ht hi hz hsize hby hzs hsz v n xs hs hown B A m c news hx hr h1 h63 hbytes hbase fun v' w' h2 h3 h4 => hK _ _ (h v' w' h2 h3 h4)
end
/-- append onto the call's own slice, at an element type's row of the table -/
theorem wp_app {w : World} {ops : Array Oper} {rest : List Oper} {o : Oper} {a : Act} {Q : Exit → Act → World → Prop} {s x : Operand} {t e : TypeId} {z : Value} {size bytes : Nat}
    (hgd : o.guard = none) (ho : o.op = .call { callee := .builtin .append, args := #[s, x], argTypes := #[t, t] })
    (ht : Tryz.prog.underlying t = some (.slice e)) (hinfo : (Tryz.prog.info? e).map (fun i => (i.zero, i.size, i.bytes)) = some (some z, size, bytes)) (hzs : z.cells.size = size) (hsz : 0 < size)
    (base : Nat) {v : Value} {n : Nat} {xs : List Value} (hs : a.eval s = v) (hown : Owns w base e size v n xs)
    {B : Nat} {A : Option Addr} {m c : Nat} {news : List Value} (hx : a.eval x = .slice A m c) (hr : Reads w B size A m news) (h1 : ∀ u ∈ news, u.oneCell' = true)
    (h63 : n + m ≤ maxLen) (hbytes : (n + m) * bytes ≤ 140737488355328) (hbase : base ≤ w.heap.size)
    (h : ∀ v' w', Owns w' base e size v' (n + m) (xs ++ news) → AppKeeps base v w w' → (v'.ownBlock = v.ownBlock ∨ v'.ownBlock = some w.heap.size) → wpList Tryz.prog ops Q rest (a.put o.dst v') w') : wpList Tryz.prog ops Q (o :: rest) a w := by
  obtain ⟨i0, hi0, hz0, hz1, hz2⟩ := info_parts hinfo
  exact wpList_append_owns w hgd s x _ ho base e i0 _ size bytes ht hi0 hz0 hz1 hz2 hzs hsz v n xs hs hown B A m c news hx hr h1 h63 hbytes hbase h
/-- the same, as a step of a region that draws its order -/
theorem step_app {w : World} {ops : Array Oper} {o : Oper} {a : Act} {K : Act → World → Prop} {Q : Exit → Act → World → Prop} {E : Prop} {s x : Operand} {t e : TypeId} {z : Value} {size bytes : Nat}
    (hgd : o.guard = none) (ho : o.op = .call { callee := .builtin .append, args := #[s, x], argTypes := #[t, t] })
    (ht : Tryz.prog.underlying t = some (.slice e)) (hinfo : (Tryz.prog.info? e).map (fun i => (i.zero, i.size, i.bytes)) = some (some z, size, bytes)) (hzs : z.cells.size = size) (hsz : 0 < size)
    (base : Nat) {v : Value} {n : Nat} {xs : List Value} (hs : a.eval s = v) (hown : Owns w base e size v n xs)
    {B : Nat} {A : Option Addr} {m c : Nat} {news : List Value} (hx : a.eval x = .slice A m c) (hr : Reads w B size A m news) (h1 : ∀ u ∈ news, u.oneCell' = true)
    (h63 : n + m ≤ maxLen) (hbytes : (n + m) * bytes ≤ 140737488355328) (hbase : base ≤ w.heap.size)
    (h : ∀ v' w', Owns w' base e size v' (n + m) (xs ++ news) → AppKeeps base v w w' → (v'.ownBlock = v.ownBlock ∨ v'.ownBlock = some w.heap.size) → K (a.put o.dst v') w') :
    if Region.wanted o (yielded ops a.tmps) = true then Oper.wp Tryz.prog o a w K Q else E := by
  obtain ⟨i0, hi0, hz0, hz1, hz2⟩ := info_parts hinfo
  have hw : Region.wanted o (yielded ops a.tmps) = true := by simp [Region.wanted, hgd]
  rw [if_pos hw]
  exact wp_append_owns w s x _ ho base e i0 _ size bytes ht hi0 hz0 hz1 hz2 hzs hsz v n xs hs hown B A m c news hx hr h1 h63 hbytes hbase h
/-- a block just made, read as a slice of elements of some cells each -/
theorem Reads.madeN (w : World) (l : List Value) (t : TypeId) {n size : Nat} (h : l.length = n * size) : Reads (w.alloc (.cells l.toArray t)) (w.heap.size + 1) size (some ⟨w.heap.size, 0, none⟩) n l := by
  refine ⟨h, fun _ => ⟨_, rfl, by simp, fun j u hu => ?_⟩⟩
  have h := cell_of_row (w.alloc (.cells l.toArray t)) w.heap.size j l.toArray t (0, 0) (heap_alloc_new w _)
  have e : (Addr.add ⟨w.heap.size, 0, none⟩ j) = ⟨w.heap.size, j, none⟩ := by unfold Addr.add; split <;> simp_all
  rw [e, h]; simpa using hu
theorem Reads.madeRec {α : Type} {enc : α → List Value} {size : Nat} (w : World) (x : α) (t : TypeId) (h : (enc x).length = size) : Reads (w.alloc (.cells (enc x).toArray t)) (w.heap.size + 1) size (some ⟨w.heap.size, 0, none⟩) 1 (recs enc [x]) := by
  rw [recs_single]; exact Reads.madeN w (enc x) t (by rw [h, Nat.one_mul])
theorem Owns.madeN (w : World) (l : List Value) (t : TypeId) {n size B : Nat} (h : l.length = n * size) (hn : n ≤ maxLen) (hB : B ≤ w.heap.size) : Owns (w.alloc (.cells l.toArray t)) B t size (.slice (some ⟨w.heap.size, 0, none⟩) n n) n l := by
  have h1 := World.ownsRow_lit (base := B) (e := t) (size := size) w l.toArray n hB hn (by simpa using h)
  exact .inl (by simpa using h1)
/-- a call hands back a slice of its own -/
def RetOwn (w : World) (e : TypeId) (size n : Nat) (xs : List Value) (en : Ending) (w' : World) : Prop :=
  ∃ v, en = .returned v ∧ Owns w' w.heap.size e size v n xs ∧ Below w.heap.size w w'
/-- .. and a number beside it -/
def RetOwnE (w : World) (e : TypeId) (size n : Nat) (xs : List Value) (er : Int) (en : Ending) (w' : World) : Prop :=
  ∃ v, en = .returned (.tuple #[v, .int .i64 er]) ∧ Owns w' w.heap.size e size v n xs ∧ Below w.heap.size w w'
/-- 'make(T, 0, c)' -/
theorem wp_make0 {w : World} {ops : Array Oper} {rest : List Oper} {o : Oper} {a : Act} {Q : Exit → Act → World → Prop} {t e : TypeId} {z : Value} {size bytes : Nat} {l k : Operand}
    (hgd : o.guard = none) (ho : o.op = .makeSlice t l k)
    (ht : Tryz.prog.underlying t = some (.slice e)) (hinfo : (Tryz.prog.info? e).map (fun i => (i.zero, i.size, i.bytes)) = some (some z, size, bytes))
    (hl : a.eval l = .int .i64 0) (c : Nat) (hc : a.eval k = .int .i64 (c : Int)) (hbytes : bytes * c ≤ 281474976710656) (h63 : c ≤ maxLen) (base : Nat) (hbase : base ≤ w.heap.size)
    (h : ∀ w', Owns w' base e size (.slice (some ⟨w.heap.size, 0, none⟩) 0 c) 0 [] → Below w.heap.size w w' → w'.heap.size = w.heap.size + 1 → wpList Tryz.prog ops Q rest (a.put o.dst (.slice (some ⟨w.heap.size, 0, none⟩) 0 c)) w') : wpList Tryz.prog ops Q (o :: rest) a w := by
  obtain ⟨i0, hi0, hz0, hz1, hz2⟩ := info_parts hinfo
  have hb' : (i0.bytes : Int) * (c : Int) ≤ 281474976710656 := by
    have h : ((i0.bytes * c : Nat) : Int) ≤ 281474976710656 := by rw [hz2]; omega
    rwa [Int.natCast_mul] at h
  have hr := run_make (P := Tryz.prog) w t e i0 z ht hi0 hz0 .i64 .i64 0 c (Int.le_refl _) (by omega) hb' (by simp only [maxLen] at h63; omega)
  simp only [Int.toNat_zero, Int.toNat_natCast] at hr
  refine wpList_plain hgd fun _ hK => ?_
  unfold Oper.wp execOp
  simp only [ho, hl, hc, Sem.run_bind, Sem.run_pure, Result.andThen_ok, hr]
  refine hK _ _ (h _ (.inl (World.ownsRow_made w _ c hbase h63 (by rw [← hz1]; exact size_madeCells _ _))) ((Below.refl _ _).alloc (Nat.le_refl _) _) (by simp))
/-- a world in which every block of w is as it was -/
structure Later (w : World) where
  val : World
  below : Below w.heap.size w val
instance (w : World) : Nonempty (Later w) := ⟨⟨w, Below.refl _ _⟩⟩
theorem later_cell (w : World) : ∀ (x : Later w) (b o : Nat), b < w.heap.size → x.val.cell? ⟨b, o, none⟩ = w.cell? ⟨b, o, none⟩ :=
  fun x b o h => x.below.cell (p := ⟨b, o, none⟩) h
theorem wp_region_later {P : Program} {id : Nat} {Q : Exit → Act → World → Prop} {a : Act} {w : World} {l : List Oper} (hm : P.follows .mixedOrders = true) (hB : Region.lexB .any l.toArray = true)
    (h : wpQuiet P l.toArray (fun w' => ∃ x : Later w, w' = x.val) (fun a' => ∀ w', (∃ x : Later w, w' = x.val) → Q .normal a' w') l a) : (Code.region id l.toArray true).wp P Q a w :=
  wp_region_quiet (C := fun w' => ∃ x : Later w, w' = x.val) hm hB ⟨⟨_, below_drew (Below.refl _ _)⟩, rfl⟩ (by simpa using h)
/-- a callee that makes memory -/
theorem later_of {P : Program} {f : FuncId} {args : Array Value} {w : World} {x : Later w} {v : Value}
    (h : Calls P f args x.val fun e w' => e = .returned v ∧ Below x.val.heap.size x.val w') : Calls P f args x.val fun e w'' => e = .returned v ∧ ∃ y : Later w, w'' = y.val :=
  h.mono fun _ w' ⟨he, hb⟩ => ⟨he, ⟨w', bt x.below hb⟩, rfl⟩
/-- a callee that leaves the world alone -/
theorem later_same {P : Program} {f : FuncId} {args : Array Value} {w : World} {x : Later w} {v : Value}
    (h : Calls P f args x.val fun e w' => e = .returned v ∧ x.val = w') : Calls P f args x.val fun e w'' => e = .returned v ∧ ∃ y : Later w, w'' = y.val :=
  h.mono fun _ w' ⟨he, hb⟩ => ⟨he, x, hb.symm⟩
end Go.Proofs.YtmkmmggimokagaaGreatDoor
namespace Go.Proofs.YtmkmmggimokagaaGreatDoor
set_option linter.unusedVariables false
open Go.RowKit Go.ChangeShapes Go.WideShapes Go.Deep
theorem list_of_all {α : Type} {Q : Nat → α → Prop} : ∀ (n : Nat), (∀ i, i < n → ∃ a, Q i a) → ∃ l : List α, l.length = n ∧ ∀ i a, l[i]? = some a → Q i a
  | 0, _ => ⟨[], rfl, fun i a h => by simp at h⟩
  | n + 1, h => by
    obtain ⟨l, hl, hq⟩ := list_of_all n (fun i hi => h i (by omega))
    obtain ⟨a, ha⟩ := h n (by omega)
    refine ⟨l ++ [a], by simp [hl], fun i b hb => ?_⟩
    rcases Nat.lt_or_ge i n with hi | hi
    · exact hq i b (by rwa [List.getElem?_append_left (by omega)] at hb)
    · rw [List.getElem?_append_right (by omega), hl] at hb
      have h0 : i - n < 1 := by simpa using (List.getElem?_eq_some_iff.1 hb).1
      obtain rfl : i = n := by omega
      simp at hb; subst hb; exact ha
section
variable {H : Type} {enc0 : TypeId × Value → H} {w : World} {base : Nat} {held : Bool}
theorem open_list {t e : TypeId} {m : Nat} {α : Type} {enc : α → List Value} {wf : α → Prop} {fuel : Nat} {cs : List Value} {x : DataW H × List MemPlace}
    (ht : Tryz.prog.underlying t = some (.slice e)) (hC : Tryz.prog.cellsOf e = m) (hm : 0 < m) (he : ∀ a, (enc a).length = m)
    (hE : ∀ (fuel : Nat) (cs : List Value) (x : DataW H × List MemPlace), DataW.trod enc0 Tryz.prog w base (fun _ => true) held fuel e cs = some x → ∃ a : α, cs = enc a ∧ wf a)
    (h : DataW.trod enc0 Tryz.prog w base (fun _ => true) held fuel t cs = some x) :
    ∃ (A : Option Addr) (n c : Nat) (l : List α), cs = [.slice A n c] ∧ Reads w w.heap.size m A n (recs enc l) ∧ n ≤ c ∧ n ≤ maxLen ∧ ∀ a ∈ l, wf a := by
  rcases open_slice ht h with ⟨rfl, _⟩ | ⟨a, len, cap, k, n, D, Pl, rfl, hb, hl, hmx, hk, _, hx⟩
  · exact ⟨none, 0, 0, [], rfl, Reads.none_, Nat.le_refl _, Nat.zero_le _, by simp⟩
  · have hk' : k = cap := by simpa using hk
    obtain ⟨l, hll, hq⟩ := list_of_all (Q := fun i (x : α) => (∀ r v, (enc x)[r]? = some v → w.cell? (a.add (i * m + r)) = some v) ∧ wf x) len (fun i hi => by
      obtain ⟨cs', hc, ht'⟩ := hx i (by omega)
      obtain ⟨y, rfl, hy⟩ := hE _ _ _ ht'
      obtain ⟨_, _, hcell⟩ := World.cells?_some hc
      refine ⟨y, fun r v hv => ?_, hy⟩
      have hr : r < m := by rw [← he y]; exact (List.getElem?_eq_some_iff.1 hv).1
      have h1 := hcell r (by rw [hC]; exact hr)
      rw [hC, add_of_add, hv] at h1
      exact h1)
    refine ⟨some a, len, cap, l, rfl, ⟨by rw [recs_len he, hll], fun h0 => ⟨a, rfl, ?_, fun j v hv => ?_⟩⟩, hl, by omega, fun y hy => ?_⟩
    · have hx0 : l[0]? = some (l[0]'(by omega)) := List.getElem?_eq_getElem (by omega)
      have h2 := (hq 0 _ hx0).1 0 _ (List.getElem?_eq_getElem (by rw [he]; exact hm))
      have h3 := cell_lt h2
      rwa [block_of_add] at h3
    · have hj : j < l.length * m := by rw [← recs_len he]; exact (List.getElem?_eq_some_iff.1 hv).1
      have hi : j / m < l.length := (Nat.div_lt_iff_lt_mul hm).2 hj
      have hx0 : l[j / m]? = some (l[j / m]'hi) := List.getElem?_eq_getElem hi
      have e1 : j / m * m + j % m = j := by rw [Nat.mul_comm]; exact Nat.div_add_mod j m
      have h2 := (hq _ _ hx0).1 (j % m) v (by rw [← recs_at he hx0 (Nat.mod_lt _ hm), e1]; exact hv)
      rwa [e1] at h2
    · obtain ⟨i, hi⟩ := List.getElem?_of_mem hy
      exact (hq i y hi).2
end
end Go.Proofs.YtmkmmggimokagaaGreatDoor
namespace Go.Proofs.YtmkmmggimokagaaGreatDoor
set_option linter.unusedVariables false
/-- a number held within two ends -/
def clamp (n lo hi : Int) : Int := if n < lo then lo else if hi < n then hi else n
theorem clamp_lo {n lo hi : Int} (h : n < lo) : clamp n lo hi = lo := by simp [clamp, h]
theorem clamp_hi {n lo hi : Int} (h : ¬ n < lo) (h2 : hi < n) : clamp n lo hi = hi := by simp [clamp, h, h2]
theorem clamp_in {n lo hi : Int} (h : ¬ n < lo) (h2 : ¬ hi < n) : clamp n lo hi = n := by simp [clamp, h, h2]
theorem clamp_bd (n : Int) {E : Int} (h : 0 ≤ E) : 0 ≤ clamp n 0 E ∧ clamp n 0 E ≤ E := by unfold clamp; split <;> (try split) <;> omega
theorem clamp_cases (n : Int) {E : Int} (h : 0 ≤ E) : (n < 0 ∧ clamp n 0 E = 0) ∨ (0 ≤ n ∧ n ≤ E ∧ clamp n 0 E = n) ∨ (E < n ∧ clamp n 0 E = E) := by
  unfold clamp; split <;> (try split) <;> omega
theorem clamp_mono {a b E : Int} (h : 0 ≤ E) (hab : a ≤ b) : clamp a 0 E ≤ clamp b 0 E := by
  rcases clamp_cases a h with h1 | h1 | h1 <;> rcases clamp_cases b h with h2 | h2 | h2 <;> omega
/-- the sum of clamped numbers -/
def tot (E : Int) : List Int → Int
  | [] => 0
  | x :: r => clamp x 0 E + tot E r
theorem tot_nonneg (E : Int) (h : 0 ≤ E) (l : List Int) : 0 ≤ tot E l := by
  induction l with
  | nil => simp [tot]
  | cons x r ih => have := clamp_bd x h; simp only [tot]; omega
theorem tot_append (E : Int) (a b : List Int) : tot E (a ++ b) = tot E a + tot E b := by
  induction a with
  | nil => simp [tot]
  | cons x r ih => simp only [List.cons_append, tot, ih]; omega
theorem tot_take_succ (E : Int) (l : List Int) (k : Nat) (h : k < l.length) : tot E (l.take (k + 1)) = tot E (l.take k) + clamp (l.getD k 0) 0 E := by
  rw [List.take_succ_eq_append_getElem h, tot_append]
  simp [tot, List.getD, List.getElem?_eq_getElem h]
theorem tot_take_next {E : Int} {l : List Int} {k : Nat} {x : Int} (h : l[k]? = some x) : tot E (l.take (k + 1)) = tot E (l.take k) + clamp x 0 E := by
  obtain ⟨hk, hx⟩ := List.getElem?_eq_some_iff.1 h
  rw [tot_take_succ E l k hk]; simp [List.getD, h]
theorem tot_take_le (E : Int) (hE : 0 ≤ E) (l : List Int) (k : Nat) : tot E (l.take k) ≤ tot E l := by
  have h := tot_append E (l.take k) (l.drop k)
  rw [List.take_append_drop] at h
  have := tot_nonneg E hE (l.drop k)
  omega
/-- what is added, held at an end -/
def addV (E : Int) (l : List Int) : Int := if tot E l ≤ E then tot E l else E
/-- it was not too much -/
def fitsV (E : Int) (l : List Int) : Bool := decide (tot E l ≤ E)
theorem addV_bd (E : Int) (h : 0 ≤ E) (l : List Int) : 0 ≤ addV E l ∧ addV E l ≤ E := by
  have := tot_nonneg E h l
  unfold addV; split <;> omega
theorem addV_of_le {E : Int} {l : List Int} (h : tot E l ≤ E) : addV E l = tot E l := by simp [addV, h]
theorem addV_of_gt {E : Int} {l : List Int} (h : E < tot E l) : addV E l = E := by unfold addV; rw [if_neg (by omega)]
theorem fitsV_of_le {E : Int} {l : List Int} (h : tot E l ≤ E) : fitsV E l = true := by simp [fitsV, h]
theorem fitsV_of_gt {E : Int} {l : List Int} (h : E < tot E l) : fitsV E l = false := by simp [fitsV]; omega
/-- one step of the reference's sum -/
theorem addV_step (E : Int) (hE : 0 ≤ E) (l : List Int) (k : Nat) (x : Int) (h : l[k]? = some x) : clamp (addV E (l.take k) + clamp x 0 E) 0 E = addV E (l.take (k + 1)) := by
  have h1 := tot_take_next (E := E) h
  have h2 := clamp_bd x hE
  have h3 := tot_nonneg E hE (l.take k)
  unfold addV
  rw [h1]
  rcases clamp_cases ((if tot E (l.take k) ≤ E then tot E (l.take k) else E) + clamp x 0 E) hE with h4 | h4 | h4 <;> (try rw [h4.2.2]) <;> (try rw [h4.2]) <;> split at h4 <;> (try split) <;> omega
/-- a product of clamped numbers, held at an end -/
def mulV (E a b : Int) : Int := if clamp a 0 E * clamp b 0 E ≤ E then clamp a 0 E * clamp b 0 E else E
theorem mulV_comm (E a b : Int) : mulV E a b = mulV E b a := by unfold mulV; rw [Int.mul_comm]
theorem mulV_zero {E a b : Int} (hE : 0 ≤ E) (h : clamp a 0 E = 0 ∨ clamp b 0 E = 0) : mulV E a b = 0 := by
  unfold mulV; rcases h with h | h <;> rw [h] <;> simp [hE]
theorem mul_gt_iff {x y M : Int} (hy : 0 < y) : M / y < x ↔ M < x * y := by
  rw [Int.ediv_lt_iff_lt_mul hy]
/-- held at an end from above -/
def capM (M z : Int) : Int := if z ≤ M then z else M
theorem mulV_cap (E a b : Int) : mulV E a b = capM E (0 + clamp a 0 E * clamp b 0 E) := by rw [Int.zero_add]; rfl
theorem capM_in {M z : Int} (h : z ≤ M) : capM M z = z := by simp [capM, h]
theorem capM_out {M z : Int} (h : M ≤ z) : capM M z = M := by unfold capM; split <;> omega
theorem cap_step {M x y out r : Int} (hx : 0 ≤ x) (hxM : x ≤ M) (ho : 0 ≤ out) (hoM : out ≤ M) (hy : 0 < y) (hr : r = (y % 2) * x) :
    capM M (clamp (out + r) 0 M + clamp (x + x) 0 M * (y / 2)) = capM M (out + x * y) := by
  have hM : 0 ≤ M := by omega
  have hy2 : x * y = 2 * (x * (y / 2)) + (y % 2) * x := by
    have h : y = 2 * (y / 2) + y % 2 := by omega
    have h2 : x * y = x * (2 * (y / 2) + y % 2) := by rw [← h]
    rw [h2, Int.mul_add, Int.mul_comm x (y % 2), ← Int.mul_assoc, Int.mul_comm x 2, Int.mul_assoc]
  rw [← hr] at hy2
  have hr0 : 0 ≤ r ∧ r ≤ x := by
    rcases (by omega : y % 2 = 0 ∨ y % 2 = 1) with h | h <;> rw [h] at hr <;> omega
  have hr1 : y / 2 = 0 → r = x := fun h => by
    have : y % 2 = 1 := by omega
    rw [this] at hr; omega
  have hq : 0 ≤ x * (y / 2) := Int.mul_nonneg hx (by omega)
  have hq1 : y / 2 ≠ 0 → x ≤ x * (y / 2) := fun h => by
    have := Int.mul_le_mul_of_nonneg_left (by omega : 1 ≤ y / 2) hx
    omega
  have hqM : y / 2 ≠ 0 → M ≤ M * (y / 2) := fun h => by
    have := Int.mul_le_mul_of_nonneg_left (by omega : 1 ≤ y / 2) hM
    omega
  have hz : y / 2 = 0 → x * (y / 2) = 0 ∧ M * (y / 2) = 0 := fun h => by rw [h]; simp
  rw [hy2]
  have e2 : (x + x) * (y / 2) = 2 * (x * (y / 2)) := by rw [Int.add_mul]; omega
  rcases clamp_cases (x + x) hM with h | h | h
  · omega
  · rw [h.2.2, e2]
    rcases clamp_cases (out + r) hM with g | g | g
    · omega
    · rw [g.2.2]; congr 1; omega
    · rw [g.2, capM_out (by omega), capM_out (by omega)]
  · rw [h.2]
    by_cases h0 : y / 2 = 0
    · have := hz h0
      have := hr1 h0
      rcases clamp_cases (out + r) hM with g | g | g
      · omega
      · rw [g.2.2]; congr 1; omega
      · rw [g.2, capM_out (by omega), capM_out (by omega)]
    · have := hq1 h0
      have := hqM h0
      have := clamp_bd (out + r) hM
      rw [capM_out (by omega), capM_out (by omega)]
/-- a time less another one -/
def subV (a b : Int) : Int := clamp (clamp a 0 1000000 - clamp b 0 1000000) 0 1000000
theorem subV_max (a b : Int) : subV a b = max (clamp a 0 1000000 - clamp b 0 1000000) 0 := by
  have h1 := clamp_bd a (E := 1000000) (by omega)
  have h2 := clamp_bd b (E := 1000000) (by omega)
  unfold subV
  rcases clamp_cases (clamp a 0 1000000 - clamp b 0 1000000) (E := 1000000) (by omega) with h | h | h <;> omega
/-- half of a usage -/
def halfV (n : Int) : Int := clamp n 0 1000000000000 / 2
theorem halfV_ref (n : Int) : (clamp n 0 1000000000000 - clamp n 0 1000000000000 % 2) / 2 = halfV n := by unfold halfV; omega
end Go.Proofs.YtmkmmggimokagaaGreatDoor
namespace Go.Proofs.YtmkmmggimokagaaGreatDoor
set_option linter.unusedVariables false
open Go.RowKit
theorem within_any (n lo hi : Int) (w : World) :
    Calls Tryz.prog 46 #[.int .i64 n, .int .i64 lo, .int .i64 hi] w fun e w' => e = .returned (.int .i64 (clamp n lo hi)) ∧ w = w' := by
  go_enter Tryz.func46, Tryz.ntmps46
  go_wp2
  · go_ret
    exact ⟨ret_int (clamp_lo (by assumption)).symm, rfl⟩
  · go_ret
    exact ⟨ret_int (clamp_hi (by omega) (by omega)).symm, rfl⟩
  · go_ret
    exact ⟨ret_int (clamp_in (by omega) (by omega)).symm, rfl⟩
theorem usage_any (n : Int) (w : World) :
    Calls Tryz.prog 28 #[.int .i64 n] w fun e w' => e = .returned (.int .i64 (clamp n 0 1000000000000)) ∧ w = w' := by
  go_enter Tryz.func28, Tryz.ntmps28
  go_wp2_with (go_at_call 46; refine (within_any _ _ _ _).mono ?_; rintro e w' ⟨rfl, rfl⟩)
  go_ret
  exact ⟨rfl, rfl⟩
set_option maxHeartbeats 400000 in
theorem sum_any (E : Int) (A : Option Addr) (n c B : Nat) (xs : List Int) (w : World) (hE : 0 ≤ E) (hE2 : E ≤ 1000000000000) (hn : n ≤ maxLen)
    (hr : Reads w B 1 A n (ints xs)) :
    Calls Tryz.prog 61 #[.int .i64 E, .slice A n c] w fun e w' => e = .returned (.tuple #[.int .i64 (addV E xs), .bool (fitsV E xs)]) ∧ w = w' := by
  have hlen : Hid (xs.length = n) := hr.len
  unfold maxLen at hn
  go_enter Tryz.func61, Tryz.ntmps61
  go_wp2
  go_loop [6, 12] (fun l i => ∃ k : Nat, k ≤ n ∧ i = .int .i64 k ∧ l = .int .i64 (E - tot E (xs.take k)) ∧ tot E (xs.take k) ≤ E) (fun _ i => n - (intOf i).toNat)
  case atStart => exact ⟨0, Nat.zero_le _, rfl, by simp [tot], by simp [tot]; omega⟩
  case round =>
    obtain ⟨k, hk, rfl, rfl, ht⟩ := hrel
    have h0 := tot_nonneg E hE (xs.take k)
    by_cases hlt : k < n
    · obtain ⟨ad, x, rfl, hb, hx, hc⟩ := hr.int_at hlt
      have hs := Lib.hid (tot_take_next (E := E) hx.out)
      have hle := tot_take_le E hE xs (k + 1)
      have hcl := clamp_bd x hE
      clear hr
      by_cases hgt : E - tot E (xs.take k) < clamp x 0 E
      · go_wp2_with (go_at_call 46; refine (within_any _ _ _ _).mono ?_; rintro e w' ⟨rfl, rfl⟩)
        go_ret2
        have h2 : E < tot E xs := by have := hs.out; omega
        exact ⟨ret_v (by rw [addV_of_gt h2, fitsV_of_gt h2]; rfl), rfl⟩
      · go_wp2_with (go_at_call 46; refine (within_any _ _ _ _).mono ?_; rintro e w' ⟨rfl, rfl⟩)
        go_round
        case rel => exact ⟨k + 1, by omega, by go_num, by rw [hs.out]; go_num, by have := hs.out; omega⟩
        case measure => simp [intOf]; omega
    · go_wp2
      go_ret2
      have e : xs.take k = xs := List.take_of_length_le (by have := hlen.out; omega)
      rw [e] at ht
      exact ⟨ret_v (by rw [addV_of_le ht, fitsV_of_le ht, e]; simp; omega), rfl⟩
theorem plus_any (A : Option Addr) (n c B : Nat) (xs : List Int) (w : World) (hn : n ≤ maxLen) (hr : Reads w B 1 A n (ints xs)) :
    Calls Tryz.prog 45 #[.slice A n c] w fun e w' => e = .returned (.int .i64 (addV 1000000000000 xs)) ∧ w = w' := by
  go_enter Tryz.func45, Tryz.ntmps45
  go_wp2_with (go_at_call 61; refine (sum_any _ _ _ _ B xs _ (by omega) (by omega) hn hr).mono ?_; rintro e w' ⟨rfl, rfl⟩)
  go_ret
  exact ⟨rfl, rfl⟩
end Go.Proofs.YtmkmmggimokagaaGreatDoor
