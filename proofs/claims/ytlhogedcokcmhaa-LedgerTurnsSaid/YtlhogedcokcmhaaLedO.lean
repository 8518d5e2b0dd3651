/- Arguments of layer 17's statements opened. -/
import Derived.Test.YtlhogedcokcmhaaOpn
import Derived.Test.YtlhogedcokcmhaaLedP
import Derived.Lib.SmallJoins
namespace Go.Proofs.Ytlhogedcokcmhaa
set_option linter.unusedVariables false
open Go.RowKit Go.ChangeShapes Go.WideShapes Go.Deep
section
variable {H : Type} {enc0 : TypeId × Value → H} {w : World} {base : Nat} {held : Bool}
theorem open_u {fuel : Nat} {cs : List Value} {x : DataW H × List MemPlace} (h : DataW.trod enc0 Try.prog w base (fun _ => true) held fuel 42 cs = some x) : ∃ u : U, cs = ucells u ∧ True := by
  obtain ⟨xs, n, _, _, hlen, hxl, hf⟩ := DataW.trod_struct Try.underlying42 h
  have hl : cs.length = 4 := hlen.trans (by kernel_rfl)
  match cs, hl, xs, hxl with
  | [c0, c1, c2, c3], _, [y0, y1, y2, y3], _ =>
    obtain ⟨s0, e0, _⟩ := DataW.trod_string Try.underlying9 (hf 0 _ rfl)
    obtain ⟨s1, e1, _⟩ := DataW.trod_string Try.underlying9 (hf 1 _ rfl)
    obtain ⟨n2, e2, _⟩ := DataW.trod_int Try.underlying3 (hf 2 _ rfl)
    obtain ⟨n3, e3, _⟩ := DataW.trod_int Try.underlying3 (hf 3 _ rfl)
    have k1 : Try.prog.cellsOf 9 = 1 := by kernel_rfl
    have k2 : Try.prog.cellsOf 3 = 1 := by kernel_rfl
    simp [k1, k2] at e0 e1 e2 e3
    subst e0; subst e1; subst e2; subst e3
    exact ⟨⟨s0, s1, n2, n3⟩, rfl, trivial⟩
theorem open_us {b0 : Nat} {r : Reach} {v : Value} {d : DataW H} {p : List MemPlace} (hv : Value.okWide Try.prog w r b0 22 v) (h : DataW.Trod enc0 Try.prog w base (fun _ => true) held 22 v d p) :
    ∃ (A : Option Addr) (n c : Nat) (l : List U), v = .slice A n c ∧ Reads w w.heap.size 4 A n (recs ucells l) ∧ n ≤ c ∧ n ≤ maxLen := by
  obtain ⟨fuel, hf⟩ := h
  obtain ⟨A0, n0, c0, rfl⟩ := okWide_slice Try.underlying22 hv
  obtain ⟨A, n, c, l, e, h1, h2, h3, _⟩ := open_list (m := 4) Try.underlying22 (by kernel_rfl) (by omega) ucells_len (fun _ _ _ h => open_u h) hf
  simp [Value.cells] at e
  obtain ⟨rfl, rfl, rfl⟩ := e
  exact ⟨_, _, _, l, rfl, h1, h2, h3⟩
theorem open_name {b0 : Nat} {r : Reach} {v : Value} {d : DataW H} {p : List MemPlace} (hv : Value.okWide Try.prog w r b0 24 v) (h : DataW.Trod enc0 Try.prog w base (fun _ => true) held 24 v d p) :
    ∃ (a b : ByteArray) (n : Int), v = .agg #[.string a, .string b, .int .i64 n] ∧ a.size ≤ maxLen ∧ b.size ≤ maxLen := by
  obtain ⟨v0, v1, v2, y0, y1, y2, n, rfl, _, _, h0, h1, h2⟩ := Joins.open_agg3 Try.underlying24 (by kernel_rfl) (by kernel_rfl) hv h
  obtain ⟨s0, e0, _, m0⟩ := DataW.trod_string Try.underlying9 h0
  obtain ⟨s1, e1, _, m1⟩ := DataW.trod_string Try.underlying9 h1
  obtain ⟨n2, e2, _⟩ := DataW.trod_int Try.underlying3 h2
  simp at e0 e1 e2
  subst e0; subst e1; subst e2
  exact ⟨_, _, _, rfl, m0, m1⟩
end
end Go.Proofs.Ytlhogedcokcmhaa
