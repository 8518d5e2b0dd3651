/- Arguments of layer 15 opened: lists of jobs. Arguments of layer 17's statements opened. Layer 18: arguments of the statements opened. -/
import Derived.Test.YtmkmmggimokagaaGreatDoorT1
import Derived.Test.YtmkmmggimokagaaGreatDoorQ9
import Derived.Test.YtmkmmggimokagaaGreatDoorK1
import Derived.Test.YtmkmmggimokagaaGreatDoorLedP
import Derived.Lib.SmallJoins
import Derived.ChangeSame
namespace Go.Proofs.YtmkmmggimokagaaGreatDoor
set_option linter.unusedVariables false
open Go.RowKit Go.ChangeShapes Go.WideShapes Go.Deep
section
variable {H : Type} {enc0 : TypeId × Value → H} {w : World} {base : Nat} {held : Bool}
theorem open_listC {t e : TypeId} {m : Nat} {α : Type} {enc : α → List Value} {wf : α → Prop} {fuel : Nat} {cs : List Value} {x : DataW H × List MemPlace}
    (ht : Tryz.prog.underlying t = some (.slice e)) (hC : Tryz.prog.cellsOf e = m) (hm : 0 < m) (he : ∀ a, (enc a).length = m)
    (hE : ∀ (fuel : Nat) (cs : List Value) (x : DataW H × List MemPlace), DataW.trod enc0 Tryz.prog w base (fun _ => true) held fuel e cs = some x → ∃ a : α, cs = enc a ∧ wf a)
    (h : DataW.trod enc0 Tryz.prog w base (fun _ => true) held fuel t cs = some x) :
    ∃ (A : Option Addr) (n c : Nat) (l : List α), cs = [.slice A n c] ∧ Reads w w.heap.size m A n (recs enc l) ∧ n ≤ c ∧ c ≤ maxLen ∧ ∀ a ∈ l, wf a := by
  rcases open_slice ht h with ⟨rfl, _⟩ | ⟨a, len, cap, k, n, D, Pl, rfl, hb, hl, hmx, hk, _, hx⟩
  · exact ⟨none, 0, 0, [], rfl, Reads.none_, Nat.le_refl _, Nat.zero_le _, by simp⟩
  · have hk' : k = cap := by simpa using hk
    obtain ⟨l, hll, hq⟩ := list_of_all (Q := fun i (x : α) => (∀ r v, (enc x)[r]? = some v → w.cell? (a.add (i * m + r)) = some v) ∧ wf x) len (fun i hi => by
      obtain ⟨cs', hc, ht'⟩ := hx i (by omega)
      obtain ⟨y, rfl, hy⟩ := hE _ _ _ ht'
      obtain ⟨_, _, hcell⟩ := World.cells?_some hc
      refine ⟨y, fun r v hv => ?_, hy⟩
      have hr : r < m := by rw [← he y]; exact (List.getElem?_eq_some_iff.1 hv).1
      have h1 := hcell r (by rw [hC]; exact hr)
      rw [hC, add_of_add, hv] at h1
      exact h1)
    refine ⟨some a, len, cap, l, rfl, ⟨by rw [recs_len he, hll], fun h0 => ⟨a, rfl, ?_, fun j v hv => ?_⟩⟩, hl, by omega, fun y hy => ?_⟩
    · have hx0 : l[0]? = some (l[0]'(by omega)) := List.getElem?_eq_getElem (by omega)
      have h2 := (hq 0 _ hx0).1 0 _ (List.getElem?_eq_getElem (by rw [he]; exact hm))
      have h3 := cell_lt h2
      rwa [block_of_add] at h3
    · have hj : j < l.length * m := by rw [← recs_len he]; exact (List.getElem?_eq_some_iff.1 hv).1
      have hi : j / m < l.length := (Nat.div_lt_iff_lt_mul hm).2 hj
      have hx0 : l[j / m]? = some (l[j / m]'hi) := List.getElem?_eq_getElem hi
      have e1 : j / m * m + j % m = j := by rw [Nat.mul_comm]; exact Nat.div_add_mod j m
      have h2 := (hq _ _ hx0).1 (j % m) v (by rw [← recs_at he hx0 (Nat.mod_lt _ hm), e1]; exact hv)
      rwa [e1] at h2
    · obtain ⟨i, hi⟩ := List.getElem?_of_mem hy
      exact (hq i y hi).2
set_option maxHeartbeats 1000000 in
set_option maxRecDepth 100000 in
theorem open_jobE {fuel : Nat} {cs : List Value} {x : DataW H × List MemPlace} (h : DataW.trod enc0 Tryz.prog w base (fun _ => true) held fuel 29 cs = some x) :
    ∃ r : JR, cs = jrC r ∧ JbIn w r.x r.A r.c r.A2 r.c2 := by
  obtain ⟨xs, n, _, _, hlen, hxl, hf⟩ := DataW.trod_struct Tryz.underlying29 h
  have hl : cs.length = 20 := hlen.trans (by kernel_rfl)
  match cs, hl, xs, hxl with
  | [c0, c1, c2, c3, c4, c5, c6, c7, c8, c9, c10, c11, c12, c13, c14, c15, c16, c17, c18, c19], _, [y0, y1, y2, y3, y4, y5, y6, y7, y8, y9, y10, y11, y12, y13, y14, y15], _ =>
    have k1 : Tryz.prog.cellsOf 26 = 1 := by kernel_rfl
    have k2 : Tryz.prog.cellsOf 3 = 1 := by kernel_rfl
    have k3 : Tryz.prog.cellsOf 9 = 1 := by kernel_rfl
    have k4 : Tryz.prog.cellsOf 4 = 1 := by kernel_rfl
    have k5 : Tryz.prog.cellsOf 25 = 5 := by kernel_rfl
    have k6 : Tryz.prog.cellsOf 27 = 1 := by kernel_rfl
    obtain ⟨n0, e0, _⟩ := DataW.trod_int Tryz.underlying3 (hf 0 _ rfl)
    obtain ⟨s1, e1, _, m1⟩ := DataW.trod_string Tryz.underlying9 (hf 1 _ rfl)
    obtain ⟨s2, e2, _, m2⟩ := DataW.trod_string Tryz.underlying9 (hf 2 _ rfl)
    obtain ⟨s3, e3, _, m3⟩ := DataW.trod_string Tryz.underlying9 (hf 3 _ rfl)
    obtain ⟨s, A, c, e4, hr, hc⟩ := open_sh (hf 4 _ rfl)
    obtain ⟨n5, e5, _⟩ := DataW.trod_int Tryz.underlying3 (hf 5 _ rfl)
    obtain ⟨A2, c2, l, e6, hr2, hc2⟩ := open_deps (hf 6 _ rfl)
    obtain ⟨n7, e7, _⟩ := DataW.trod_int Tryz.underlying3 (hf 7 _ rfl)
    obtain ⟨b8, e8, _⟩ := DataW.trod_bool Tryz.underlying4 (hf 8 _ rfl)
    obtain ⟨n9, e9, _⟩ := DataW.trod_int Tryz.underlying3 (hf 9 _ rfl)
    obtain ⟨n10, e10, _⟩ := DataW.trod_int Tryz.underlying3 (hf 10 _ rfl)
    obtain ⟨n11, e11, _⟩ := DataW.trod_int Tryz.underlying3 (hf 11 _ rfl)
    obtain ⟨n12, e12, _⟩ := DataW.trod_int Tryz.underlying3 (hf 12 _ rfl)
    obtain ⟨n13, e13, _⟩ := DataW.trod_int Tryz.underlying3 (hf 13 _ rfl)
    obtain ⟨n14, e14, _, m14⟩ := DataW.trod_int Tryz.underlying27 (hf 14 _ rfl)
    obtain ⟨n15, e15, _⟩ := DataW.trod_int Tryz.underlying3 (hf 15 _ rfl)
    obtain ⟨u, hu, hu2⟩ : ∃ s : Nat, n14 = (s : Int) ∧ s < M64 := by
      obtain ⟨h0, h1⟩ := Go.bounds_u64 m14
      exact ⟨n14.toNat, by omega, by rw [M64_is]; omega⟩
    subst hu
    unfold shC at e4
    simp [k1, k2, k3, k4, k5, k6] at e0 e1 e2 e3 e4 e5 e6 e7 e8 e9 e10 e11 e12 e13 e14 e15
    obtain ⟨f1, f2, f3, f4, f5⟩ := e4
    subst e0 e1 e2 e3 f1 f2 f3 f4 f5 e5 e6 e7 e8 e9 e10 e11 e12 e13 e14 e15
    exact ⟨⟨⟨n0, s1, s2, s3, s, n5, l, n7, b8, n9, n10, n11, n12, n13, u, n15⟩, A, c, A2, c2⟩, rfl, hr, hr2, hc, hc2, hu2⟩
set_option maxRecDepth 100000 in
theorem open_jobs {b0 : Nat} {r : Reach} {v : Value} {d : DataW H} {p : List MemPlace} (hv : Value.okWide Tryz.prog w r b0 37 v) (h : DataW.Trod enc0 Tryz.prog w base (fun _ => true) held 37 v d p) :
    ∃ (A : Option Addr) (n c : Nat) (l : List JR), v = .slice A n c ∧ Reads w w.heap.size 20 A n (recs jrC l) ∧ n ≤ c ∧ c ≤ maxLen ∧ ∀ r ∈ l, JbIn w r.x r.A r.c r.A2 r.c2 := by
  obtain ⟨fuel, hf⟩ := h
  obtain ⟨A0, n0, c0, rfl⟩ := okWide_slice Tryz.underlying37 hv
  obtain ⟨A, n, c, l, e, hr, h1, h2, hw⟩ := open_listC (m := 20) Tryz.underlying37 (by kernel_rfl) (by omega) jrC_len (fun _ _ _ h => open_jobE h) hf
  simp [Value.cells] at e
  obtain ⟨rfl, rfl, rfl⟩ := e
  exact ⟨_, _, _, l, rfl, hr, h1, h2, hw⟩
end
end Go.Proofs.YtmkmmggimokagaaGreatDoor
namespace Go.Proofs.YtmkmmggimokagaaGreatDoor
set_option linter.unusedVariables false
open Go.RowKit Go.ChangeShapes Go.WideShapes Go.Deep
section
variable {H : Type} {enc0 : TypeId × Value → H} {w : World} {base : Nat} {held : Bool}
set_option maxRecDepth 100000 in
theorem open_u {fuel : Nat} {cs : List Value} {x : DataW H × List MemPlace} (h : DataW.trod enc0 Tryz.prog w base (fun _ => true) held fuel 48 cs = some x) : ∃ u : U, cs = ucells u ∧ True := by
  obtain ⟨xs, n, _, _, hlen, hxl, hf⟩ := DataW.trod_struct Tryz.underlying48 h
  have hl : cs.length = 4 := hlen.trans (by kernel_rfl)
  match cs, hl, xs, hxl with
  | [c0, c1, c2, c3], _, [y0, y1, y2, y3], _ =>
    obtain ⟨s0, e0, _⟩ := DataW.trod_string Tryz.underlying9 (hf 0 _ rfl)
    obtain ⟨s1, e1, _⟩ := DataW.trod_string Tryz.underlying9 (hf 1 _ rfl)
    obtain ⟨n2, e2, _⟩ := DataW.trod_int Tryz.underlying3 (hf 2 _ rfl)
    obtain ⟨n3, e3, _⟩ := DataW.trod_int Tryz.underlying3 (hf 3 _ rfl)
    have k1 : Tryz.prog.cellsOf 9 = 1 := by kernel_rfl
    have k2 : Tryz.prog.cellsOf 3 = 1 := by kernel_rfl
    simp [k1, k2] at e0 e1 e2 e3
    subst e0; subst e1; subst e2; subst e3
    exact ⟨⟨s0, s1, n2, n3⟩, rfl, trivial⟩
set_option maxRecDepth 100000 in
theorem open_us {b0 : Nat} {r : Reach} {v : Value} {d : DataW H} {p : List MemPlace} (hv : Value.okWide Tryz.prog w r b0 22 v) (h : DataW.Trod enc0 Tryz.prog w base (fun _ => true) held 22 v d p) :
    ∃ (A : Option Addr) (n c : Nat) (l : List U), v = .slice A n c ∧ Reads w w.heap.size 4 A n (recs ucells l) ∧ n ≤ c ∧ n ≤ maxLen := by
  obtain ⟨fuel, hf⟩ := h
  obtain ⟨A0, n0, c0, rfl⟩ := okWide_slice Tryz.underlying22 hv
  obtain ⟨A, n, c, l, e, h1, h2, h3, _⟩ := open_list (m := 4) Tryz.underlying22 (by kernel_rfl) (by omega) ucells_len (fun _ _ _ h => open_u h) hf
  simp [Value.cells] at e
  obtain ⟨rfl, rfl, rfl⟩ := e
  exact ⟨_, _, _, l, rfl, h1, h2, h3⟩
end
end Go.Proofs.YtmkmmggimokagaaGreatDoor
namespace Go.Proofs.YtmkmmggimokagaaGreatDoor
set_option linter.unusedVariables false
open Go.RowKit Go.ChangeShapes Go.WideShapes Go.Deep
/-- no two jobs: the witness's -/
def zTwo : Value := .agg #[.int .i64 0, .string ⟨#[]⟩, .string ⟨#[]⟩, .string ⟨#[]⟩, .int .i64 0, .slice none 0 0, .int .i64 0, .int .i64 0, .int .i64 0, .int .i64 0, .slice none 0 0, .int .i64 0, .bool false, .int .i64 0, .int .i64 0, .int .i64 0, .int .i64 0, .int .i64 0, .int .u64 0, .int .i64 0, .int .i64 0, .string ⟨#[]⟩, .string ⟨#[]⟩, .string ⟨#[]⟩, .int .i64 0, .slice none 0 0, .int .i64 0, .int .i64 0, .int .i64 0, .int .i64 0, .slice none 0 0, .int .i64 0, .bool false, .int .i64 0, .int .i64 0, .int .i64 0, .int .i64 0, .int .i64 0, .int .u64 0, .int .i64 0]
section
variable {H : Type} {enc0 : TypeId × Value → H} {w : World} {base : Nat} {held : Bool}
set_option maxRecDepth 100000 in
theorem open_is18 {b0 : Nat} {r : Reach} {v : Value} {d : DataW H} {p : List MemPlace} (hv : Value.okWide Tryz.prog w r b0 38 v) (h : DataW.Trod enc0 Tryz.prog w base (fun _ => true) held 38 v d p) :
    ∃ (A : Option Addr) (n c : Nat) (l : List Int), v = .slice A n c ∧ Reads w w.heap.size 1 A n (ints l) ∧ n ≤ maxLen ∧ n ≤ c ∧ c ≤ maxLen := by
  obtain ⟨A, n, c, rfl⟩ := okWide_slice Tryz.underlying38 hv
  obtain ⟨fuel, hf⟩ := h
  rcases open_ints Tryz.underlying38 Tryz.underlying3 (by kernel_rfl) hf with ⟨hcs, _⟩ | ⟨x, l, c, zs, hcs, _, hl, hm, hz, _, hcell, hwz⟩
  · simp [Value.cells] at hcs
    obtain ⟨rfl, rfl, rfl⟩ := hcs
    obtain ⟨xs, h1, h2, _, _⟩ := reads_of_row (w := w) (a := none) (len := 0) (cap := 0) (zs := []) (.inl ⟨rfl, rfl, rfl, rfl⟩)
    exact ⟨_, _, _, xs, rfl, h1, h2, Nat.le_refl _, Nat.zero_le _⟩
  · simp [Value.cells] at hcs
    obtain ⟨rfl, rfl, rfl⟩ := hcs
    obtain ⟨xs, h1, h2, _, _⟩ := reads_of_row (w := w) (.inr ⟨_, rfl, hl, hm, by simpa using hz, hcell, hwz⟩)
    exact ⟨_, _, _, xs, rfl, h1, h2, hl, hm⟩
set_option maxRecDepth 100000 in
theorem open_two {b0 : Nat} {r : Reach} {v : Value} {d : DataW H} {p : List MemPlace} (hv : Value.okWide Tryz.prog w r b0 31 v) (h : DataW.Trod enc0 Tryz.prog w base (fun _ => true) held 31 v d p) :
    ∃ a b : JR, v = .agg (jrC a ++ jrC b).toArray ∧ JbIn w a.x a.A a.c a.A2 a.c2 ∧ JbIn w b.x b.A b.c b.A2 b.c2 := by
  obtain ⟨cv, rfl, hsz⟩ := okWide_struct Tryz.underlying31 hv
  obtain ⟨fuel, hf0⟩ := h
  obtain ⟨xs, n, _, _, hlen, hxl, hf⟩ := DataW.trod_struct Tryz.underlying31 hf0
  obtain ⟨cs⟩ := cv
  have hl : cs.length = 40 := by simpa using hsz.trans (by kernel_rfl)
  match xs, hxl with
  | [y0, y1], _ =>
    have k1 : Tryz.prog.cellsOf 29 = 20 := by kernel_rfl
    obtain ⟨a, e0, ha⟩ := open_jobE (hf 0 _ rfl)
    obtain ⟨b, e1, hb⟩ := open_jobE (hf 1 _ rfl)
    have e0 : List.take (Tryz.prog.cellsOf 29) (List.drop 0 cs) = jrC a := e0
    have e1 : List.take (Tryz.prog.cellsOf 29) (List.drop 20 cs) = jrC b := e1
    rw [k1] at e0 e1
    refine ⟨a, b, ?_, ha, hb⟩
    rw [← e0, ← e1]
    have h3 : (List.drop 20 cs).take 20 = List.drop 20 cs := List.take_of_length_le (by rw [List.length_drop, hl]; omega)
    show Value.agg _ = Value.agg (List.toArray (List.take 20 (List.drop 0 cs) ++ List.take 20 (List.drop 20 cs)))
    rw [h3, List.drop_zero, List.take_append_drop]
end
end Go.Proofs.YtmkmmggimokagaaGreatDoor
