/- Arguments of layer 23's statements opened. -/
import Derived.Test.YtenonfoocjcdmaaDoorNoL
import Derived.Test.YtenonfoocjcdmaaDoorK10
namespace Go.Proofs.YtenonfoocjcdmaaDoor
set_option linter.unusedVariables false
open Go.RowKit Go.ChangeShapes Go.WideShapes Go.Deep
section
variable {H : Type} {enc0 : TypeId × Value → H} {w : World} {base : Nat} {held : Bool}
set_option maxRecDepth 100000 in
theorem open_nt {fuel : Nat} {cs : List Value} {x : DataW H × List MemPlace} (h : DataW.trod enc0 Tryd.prog w base (fun _ => true) held fuel 57 cs = some x) : ∃ t : Nt, cs = ntC t := by
  obtain ⟨xs, n, _, _, hlen, hxl, hf⟩ := DataW.trod_struct Tryd.underlying57 h
  have hl : cs.length = 4 := hlen.trans (by kernel_rfl)
  match cs, hl, xs, hxl with
  | [c0, c1, c2, c3], _, [y0, y1, y2, y3], _ =>
    obtain ⟨n0, e0, _⟩ := DataW.trod_int Tryd.underlying3 (hf 0 _ rfl)
    obtain ⟨n1, e1, _⟩ := DataW.trod_int Tryd.underlying3 (hf 1 _ rfl)
    obtain ⟨n2, e2, _⟩ := DataW.trod_int Tryd.underlying3 (hf 2 _ rfl)
    obtain ⟨n3, e3, _⟩ := DataW.trod_int Tryd.underlying3 (hf 3 _ rfl)
    have k2 : Tryd.prog.cellsOf 3 = 1 := by kernel_rfl
    simp [k2] at e0 e1 e2 e3
    subst e0; subst e1; subst e2; subst e3
    exact ⟨⟨n0, n1, n2, n3⟩, rfl⟩
set_option maxRecDepth 100000 in
theorem open_nt1 {b0 : Nat} {r : Reach} {v : Value} {d : DataW H} {p : List MemPlace} (hv : Value.okWide Tryd.prog w r b0 57 v) (h : DataW.Trod enc0 Tryd.prog w base (fun _ => true) held 57 v d p) : ∃ t : Nt, v = ntV t := by
  obtain ⟨cs, rfl, hsz⟩ := okWide_struct Tryd.underlying57 hv
  obtain ⟨fuel, hf⟩ := h
  obtain ⟨t, e⟩ := open_nt hf
  refine ⟨t, ?_⟩
  have e2 : cs.toList = ntC t := by simpa [Value.cells] using e
  obtain ⟨l⟩ := cs
  simp at e2
  subst e2
  rfl
end
end Go.Proofs.YtenonfoocjcdmaaDoor
