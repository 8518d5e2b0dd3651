/- Layer 14: lists of acts; are they few, and small, walked. Layer 14, plain: what acts leave of a job's sizes; lists that lie away from a block. Arguments of layer 14 opened: lists of acts. Layer 14: JobLife walked (printed by a program of my own). -/
import Derived.Test.YtghmcdfmbjabnaaGreatDoorQ11y
import Derived.Test.YtghmcdfmbjabnaaGreatDoorQ4t
import Derived.Test.YtghmcdfmbjabnaaGreatDoorQ4y
import Derived.Test.YtghmcdfmbjabnaaGreatDoorQ9t
import Derived.Test.YtghmcdfmbjabnaaGreatDoorQ9y
import Derived.Test.YtghmcdfmbjabnaaGreatDoorQ0t
import Derived.Deep.DeepCutAuto
import Derived.Deep.CutBlock
import Derived.Deep.RegionWith
namespace Go.Proofs.YtghmcdfmbjabnaaGreatDoor
set_option linter.unusedVariables false
open Go.RowKit
/-- an act, and where its command's lists lie -/
structure AR where
  a : Ac
  D : Option Addr
  d : Nat
  D2 : Option Addr
  d2 : Nat
def arC (r : AR) : List Value := acC r.a r.D r.d r.D2 r.d2
theorem cmC_info {x : Cm} {D D2 : Option Addr} {d d2 : Nat} : (Tryz.prog.info? 30).map (·.size) = some (cmC x D d D2 d2).length := by show _ = some 18; kernel_rfl
/-- a job's lists do not lie in block p -/
def Away (p : Nat) (A : Option Addr) (n : Nat) : Prop := 0 < n → ∀ ad, A = some ad → ad.block ≠ p
def JbAway (p : Nat) (x : Jb) (A A2 : Option Addr) : Prop := Away p A x.shape.alts.length ∧ Away p A2 x.after.length
theorem Reads.away {w w' : World} {B size n p : Nat} {A : Option Addr} {xs : List Value} (h : Reads w B size A n xs) (ho : Away p A n) (hw : Only p w w') : Reads w' B size A n xs := by
  refine ⟨h.1, fun hn => ?_⟩
  obtain ⟨ad, e, hlt, hc⟩ := h.2 hn
  have hlo := ho hn ad e
  refine ⟨ad, e, hlt, fun j u hu => ?_⟩
  rw [← hc j u hu]
  exact World.cell?_of_block (hw.block _ (by rw [block_of_add]; exact hlo))
theorem JbAt.away {w w' : World} {B p : Nat} {x : Jb} {A A2 : Option Addr} {c c2 : Nat} (h : JbAt w B x A c A2 c2) (ho : JbAway p x A A2) (hw : Only p w w') : JbAt w' B x A c A2 c2 :=
  ⟨h.1.away ho.1 hw, h.2.1.away ho.2 hw, h.2.2⟩
theorem away_of_reads {w : World} {B size n p : Nat} {A : Option Addr} {xs : List Value} (h : Reads w B size A n xs) (hp : B ≤ p) : Away p A n := by
  intro hn ad e
  obtain ⟨ad', e', hlt, _⟩ := h.2 hn
  rw [e] at e'
  rw [Option.some.inj e']
  omega
theorem JbAt.away_of {w : World} {B p : Nat} {x : Jb} {A A2 : Option Addr} {c c2 : Nat} (h : JbAt w B x A c A2 c2) (hp : B ≤ p) : JbAway p x A A2 := ⟨away_of_reads h.1 hp, away_of_reads h.2.1 hp⟩
theorem JbOff.away {lo p : Nat} {x : Jb} {A A2 : Option Addr} (h : JbOff lo x A A2) (hp : p < lo) : JbAway p x A A2 :=
  ⟨fun hn ad e => by have := h.1 hn ad e; omega, fun hn ad e => by have := h.2 hn ad e; omega⟩
theorem CmAt.more {w : World} {B B' : Nat} {x : Cm} {A A2 : Option Addr} {c c2 : Nat} (h : CmAt w B x A c A2 c2) (hB : B ≤ B') : CmAt w B' x A c A2 c2 := ⟨h.1.more hB, h.2.1.more hB, h.2.2⟩
end Go.Proofs.YtghmcdfmbjabnaaGreatDoor
namespace Go.Proofs.YtghmcdfmbjabnaaGreatDoor
set_option linter.unusedVariables false
open Go.RowKit Go.ChangeShapes Go.WideShapes Go.Deep
section
variable {H : Type} {enc0 : TypeId × Value → H} {w : World} {base : Nat} {held : Bool}
set_option maxHeartbeats 1000000 in
set_option maxRecDepth 100000 in
theorem open_cmE {fuel : Nat} {cs : List Value} {x : DataW H × List MemPlace} (h : DataW.trod enc0 Tryz.prog w base (fun _ => true) held fuel 30 cs = some x) :
    ∃ (x : Cm) (A A2 : Option Addr) (c c2 : Nat), cs = cmC x A c A2 c2 ∧ CmIn w x A c A2 c2 := by
  obtain ⟨xs, n, _, _, hlen, hxl, hf⟩ := DataW.trod_struct Tryz.underlying30 h
  have hl : cs.length = 18 := hlen.trans (by kernel_rfl)
  match cs, hl, xs, hxl with
  | [c0, c1, c2, c3, c4, c5, c6, c7, c8, c9, c10, c11, c12, c13, c14, c15, c16, c17], _, [y0, y1, y2, y3, y4, y5, y6, y7, y8, y9, y10, y11, y12, y13], _ =>
    have k1 : Tryz.prog.cellsOf 25 = 1 := by kernel_rfl
    have k2 : Tryz.prog.cellsOf 3 = 1 := by kernel_rfl
    have k3 : Tryz.prog.cellsOf 9 = 1 := by kernel_rfl
    have k4 : Tryz.prog.cellsOf 4 = 1 := by kernel_rfl
    have k5 : Tryz.prog.cellsOf 24 = 5 := by kernel_rfl
    obtain ⟨n0, e0, _⟩ := DataW.trod_int Tryz.underlying3 (hf 0 _ rfl)
    obtain ⟨n1, e1, _⟩ := DataW.trod_int Tryz.underlying3 (hf 1 _ rfl)
    obtain ⟨s2, e2, _, m2⟩ := DataW.trod_string Tryz.underlying9 (hf 2 _ rfl)
    obtain ⟨s3, e3, _, m3⟩ := DataW.trod_string Tryz.underlying9 (hf 3 _ rfl)
    obtain ⟨s4, e4, _, m4⟩ := DataW.trod_string Tryz.underlying9 (hf 4 _ rfl)
    obtain ⟨s, A, c, e5, hr, hc⟩ := open_sh (hf 5 _ rfl)
    obtain ⟨n6, e6, _⟩ := DataW.trod_int Tryz.underlying3 (hf 6 _ rfl)
    obtain ⟨b7, e7, _⟩ := DataW.trod_bool Tryz.underlying4 (hf 7 _ rfl)
    obtain ⟨n8, e8, _⟩ := DataW.trod_int Tryz.underlying3 (hf 8 _ rfl)
    obtain ⟨b9, e9, _⟩ := DataW.trod_bool Tryz.underlying4 (hf 9 _ rfl)
    obtain ⟨A2, c2, l, e10, hr2, hc2⟩ := open_deps (hf 10 _ rfl)
    obtain ⟨n11, e11, _⟩ := DataW.trod_int Tryz.underlying3 (hf 11 _ rfl)
    obtain ⟨n12, e12, _⟩ := DataW.trod_int Tryz.underlying3 (hf 12 _ rfl)
    obtain ⟨n13, e13, _⟩ := DataW.trod_int Tryz.underlying3 (hf 13 _ rfl)
    unfold shC at e5
    simp [k1, k2, k3, k4, k5] at e0 e1 e2 e3 e4 e5 e6 e7 e8 e9 e10 e11 e12 e13
    obtain ⟨f1, f2, f3, f4, f5⟩ := e5
    subst e0 e1 e2 e3 e4 f1 f2 f3 f4 f5 e6 e7 e8 e9 e10 e11 e12 e13
    exact ⟨⟨n0, n1, s2, s3, s4, s, n6, b7, n8, b9, l, n11, n12, n13⟩, A, A2, c, c2, rfl, hr, hr2, hc, hc2⟩
set_option maxHeartbeats 1000000 in
set_option maxRecDepth 100000 in
theorem open_acE {fuel : Nat} {cs : List Value} {x : DataW H × List MemPlace} (h : DataW.trod enc0 Tryz.prog w base (fun _ => true) held fuel 32 cs = some x) :
    ∃ r : AR, cs = arC r ∧ (CmIn w r.a.cmd r.D r.d r.D2 r.d2 ∧ r.a.set < M64) := by
  obtain ⟨xs, n, _, _, hlen, hxl, hf⟩ := DataW.trod_struct Tryz.underlying32 h
  have hl : cs.length = 22 := hlen.trans (by kernel_rfl)
  match cs, hl, xs, hxl with
  | c0 :: c1 :: c2 :: c3 :: cr, hl, [y0, y1, y2, y3, y4], _ =>
    have k2 : Tryz.prog.cellsOf 3 = 1 := by kernel_rfl
    have k6 : Tryz.prog.cellsOf 26 = 1 := by kernel_rfl
    have k7 : Tryz.prog.cellsOf 30 = 18 := by kernel_rfl
    have hcr : cr.length = 18 := by simpa using hl
    obtain ⟨n0, e0, _⟩ := DataW.trod_int Tryz.underlying3 (hf 0 _ rfl)
    obtain ⟨n1, e1, _⟩ := DataW.trod_int Tryz.underlying3 (hf 1 _ rfl)
    obtain ⟨n2, e2, _⟩ := DataW.trod_int Tryz.underlying3 (hf 2 _ rfl)
    obtain ⟨n3, e3, _, m3⟩ := DataW.trod_int Tryz.underlying26 (hf 3 _ rfl)
    obtain ⟨y, A, A2, c, c2, e4, hc⟩ := open_cmE (hf 4 _ rfl)
    obtain ⟨u, hu, hu2⟩ : ∃ s : Nat, n3 = (s : Int) ∧ s < M64 := by
      obtain ⟨h0, h1⟩ := Go.bounds_u64 m3
      exact ⟨n3.toNat, by omega, by rw [M64_is]; omega⟩
    subst hu
    simp [k2, k6, k7] at e0 e1 e2 e3 e4
    subst e0 e1 e2 e3
    refine ⟨⟨⟨n0, n1, n2, u, y⟩, A, c, A2, c2⟩, ?_, hc, hu2⟩
    show _ = _ :: _ :: _ :: _ :: cmC y A c A2 c2
    rw [← e4]
    simp [List.take_of_length_le, hcr]
end
end Go.Proofs.YtghmcdfmbjabnaaGreatDoor
namespace Go.Proofs.YtghmcdfmbjabnaaGreatDoor
set_option linter.unusedVariables false
open Go.RowKit
end Go.Proofs.YtghmcdfmbjabnaaGreatDoor
