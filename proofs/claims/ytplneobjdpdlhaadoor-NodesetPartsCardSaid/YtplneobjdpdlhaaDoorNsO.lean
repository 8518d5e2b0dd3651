/- Layer 9: what a statement's frame hands over: tables, errors, arguments. -/
import Derived.Test.YtplneobjdpdlhaaDoorNsL4
import Derived.Lib.LaidTab
import Derived.LaidSub
import Derived.LaidLaws
import Derived.MakeChecks
import Derived.OpenShut
import Derived.FnData
namespace Go.Proofs.YtplneobjdpdlhaaDoor
set_option linter.unusedVariables false
open Go.RowKit Go.ChangeShapes Go.WideShapes Go.Deep
theorem laid_one {W : World} {l : List (String × DataW Unit)} (h : laidMetH Tryd.prog l W) {n : String} {d : DataW Unit} (hl : (l.filter fun x => x.1 == n) = [(n, d)]) (hp : ([(n, d)].all fun x => x.2.handleName?.isNone) = true) : laidMet Tryd.prog [(n, d)] W := by
  have h2 := h.filter (fun x => x.1 == n)
  rw [hl, MakeChecks.laidMetH_plain _ _ _ hp] at h2
  exact h2
theorem iface_cell {W : World} {n : String} {nm : String} {d : DataW Unit} {g ti : Nat} {ms : Array (String × TypeId)} (h : laidMet Tryd.prog [(n, .iface nm d)] W)
    (hg : Tryd.prog.globalNamed n = some g) (hty : (Tryd.prog.globals[g]?).map (·.type) = some ti) (hi : Tryd.prog.underlying ti = some (.interface ms)) : ∃ t p, W.cell? ⟨g, 0, none⟩ = some (.iface t p) := by
  obtain ⟨ps, ⟨g', t', cs, fuel, p, q, hg', ht', hvar, hd, _, _⟩, _⟩ := h
  obtain rfl := Option.some.inj (hg.symm.trans hg')
  obtain rfl := Option.some.inj (hty.symm.trans ht')
  obtain ⟨f, u, v, hcs, _, _⟩ := iface_of_trod hi hd
  have := World.var?_cell hg hvar 0
  refine ⟨u, v, this.trans ?_⟩
  have e : cs = #[.iface u v] := by
    apply Array.toList_inj.1
    rw [hcs]
  rw [e]; rfl
set_option maxRecDepth 100000 in
theorem env_of {W : World} {l : List (String × DataW Unit)} (h : laidMetH Tryd.prog l W) (hsh : W.ShapedOpen Tryd.prog)
    (h1 : (l.filter fun x => x.1 == "math/bits.deBruijn64tab") = [("math/bits.deBruijn64tab", Rows.laid_math_bits_deBruijn64tab)])
    (h2 : (l.filter fun x => x.1 == "strconv.ErrSyntax") = [("strconv.ErrSyntax", Rows.laid_strconv_ErrSyntax)])
    (h3 : (l.filter fun x => x.1 == "strconv.ErrRange") = [("strconv.ErrRange", Rows.laid_strconv_ErrRange)]) : Env9 W := by
  have a1 := laid_one h h1 (by kernel_rfl)
  have a2 := laid_one h h2 (by kernel_rfl)
  have a3 := laid_one h h3 (by kernel_rfl)
  have hT : Lib.TabIs Tryd.prog W "math/bits.deBruijn64tab" .u8 (Lib.deBruijn64tab.map fun (x : Nat) => (x : Int)) :=
    Lib.tabIs_of_head (g := 0) (t := 57) (e := 5) (n := 64) (rest := []) (by kernel_rfl) (by kernel_rfl) Tryd.underlying57 Tryd.underlying5 (by kernel_rfl) (by kernel_rfl) a1
  have hD : DeB W := by
    intro j hj
    have hlen : (Lib.deBruijn64tab.map fun (x : Nat) => (x : Int)).length = 64 := by kernel_rfl
    have := hT.cell (g := 0) (by kernel_rfl) j (by omega)
    rw [this]
    congr 2
    have hl2 : Lib.deBruijn64tab.length = 64 := by kernel_rfl
    simp [List.getD, hl2, hj]
  have e2 := iface_cell (g := 2) a2 (by kernel_rfl) (by kernel_rfl) Tryd.underlying54
  have e3 := iface_cell (g := 3) a3 (by kernel_rfl) (by kernel_rfl) Tryd.underlying54
  have e4 := Tryd.laysM145.s1_3 W hsh
  refine ⟨⟨e2, e3, e4, ?_, ?_, ?_⟩, hD, cell_lt (hD 0 (by decide))⟩
  · obtain ⟨t, p, hc⟩ := e2; exact cell_lt hc
  · obtain ⟨t, p, hc⟩ := e3; exact cell_lt hc
  · obtain ⟨m, hc⟩ := e4; exact cell_lt hc
set_option maxRecDepth 100000 in
/-- a slice of numbers of the machine that comes in -/
theorem open_is {H : Type} {enc0 : TypeId × Value → H} {w : World} {base b0 : Nat} {held : Bool} {r : Reach} {v : Value} {d : DataW H} {p : List MemPlace} (hv : Value.okWide Tryd.prog w r b0 22 v) (h : DataW.Trod enc0 Tryd.prog w base (fun _ => true) held 22 v d p) :
    ∃ (A : Option Addr) (n c : Nat) (l : List Int), v = .slice A n c ∧ Reads w w.heap.size 1 A n (ints l) ∧ n ≤ maxLen := by
  obtain ⟨A, n, c, rfl⟩ := okWide_slice Tryd.underlying22 hv
  obtain ⟨fuel, hf⟩ := h
  rcases open_ints Tryd.underlying22 Tryd.underlying3 (by kernel_rfl) hf with ⟨hcs, _⟩ | ⟨x, l, c, zs, hcs, _, hl, hm, hz, _, hcell, hwz⟩
  · simp [Value.cells] at hcs
    obtain ⟨rfl, rfl, rfl⟩ := hcs
    obtain ⟨xs, h1, h2, _, _⟩ := reads_of_row (w := w) (a := none) (len := 0) (cap := 0) (zs := []) (.inl ⟨rfl, rfl, rfl, rfl⟩)
    exact ⟨_, _, _, xs, rfl, h1, h2⟩
  · simp [Value.cells] at hcs
    obtain ⟨rfl, rfl, rfl⟩ := hcs
    obtain ⟨xs, h1, h2, _, _⟩ := reads_of_row (w := w) (.inr ⟨_, rfl, hl, hm, by simpa using hz, hcell, hwz⟩)
    exact ⟨_, _, _, xs, rfl, h1, h2⟩
theorem nat_u64 {a : Int} (h : (Lit.int .u64 a).wf = true) : ∃ s : Nat, a = (s : Int) ∧ s < M64 := by
  obtain ⟨h0, h1⟩ := Go.bounds_u64 h
  exact ⟨a.toNat, by omega, by rw [M64_is]; omega⟩
end Go.Proofs.YtplneobjdpdlhaaDoor
