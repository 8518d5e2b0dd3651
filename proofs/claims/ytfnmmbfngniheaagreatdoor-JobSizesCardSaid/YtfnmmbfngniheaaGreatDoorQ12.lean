/- Layer 14: lists of acts; are they few, and small, walked. Drawn regions whose calls make memory, whole rows read in them and stored into new blocks: helpers. Layer 14, plain: what acts leave of a job's sizes; lists that lie away from a block. Arguments of layer 14 opened: lists of acts. Layer 14: JobLife walked (printed by a program of my own). -/
import Derived.Test.YtfnmmbfngniheaaGreatDoorQ11
import Derived.Test.YtfnmmbfngniheaaGreatDoorQ4
import Derived.Test.YtfnmmbfngniheaaGreatDoorQ9
import Derived.Test.YtfnmmbfngniheaaGreatDoorK1
import Derived.Laws.Rows
import Derived.Laws.Tables
import Derived.Deep.MidRow
import Derived.OrdersHeld
import Derived.Deep.DeepCutAuto
import Derived.Deep.CutBlock
import Derived.Deep.RegionWith
namespace Go.Proofs.YtfnmmbfngniheaaGreatDoor
set_option linter.unusedVariables false
open Go.RowKit
/-- an act, and where its command's lists lie -/
structure AR where
  a : Ac
  D : Option Addr
  d : Nat
  D2 : Option Addr
  d2 : Nat
def arC (r : AR) : List Value := acC r.a r.D r.d r.D2 r.d2
theorem arC_len (r : AR) : (arC r).length = 22 := rfl
def fewL (l : List AR) : Bool := decide (l.length ≤ 200) && l.all (fun r => fewC r.a.cmd)
theorem fewL_at {l : List AR} (h : fewL l = true) {k : Nat} {r : AR} (hk : l[k]? = some r) : fewC r.a.cmd = true := by
  unfold fewL at h
  simp only [Bool.and_eq_true, List.all_eq_true] at h
  exact h.2 r (List.mem_of_getElem? hk)
/-- a command in the middle of a list of acts -/
theorem act_cmd {r : AR} {w : World} {b o k : Nat} (h : ∀ j v, (arC r)[j]? = some v → w.cell? ⟨b, o + (k * 22 + j), none⟩ = some v) : w.rangeAt b (o + (k * 22 + 4)) (cmC r.a.cmd r.D r.d r.D2 r.d2) := by
  intro j u hu
  have := h (4 + j) u (by rw [show 4 + j = j + 4 by omega]; simpa [arC, acC] using hu)
  rwa [show o + (k * 22 + 4) + j = o + (k * 22 + (4 + j)) by omega]
theorem act_row {r : AR} {w : World} {b o k : Nat} (h : ∀ j v, (arC r)[j]? = some v → w.cell? ⟨b, o + (k * 22 + j), none⟩ = some v) : w.rangeAt b (o + k * 22) (arC r) := by
  intro j u hu
  rw [show o + k * 22 + j = o + (k * 22 + j) by omega]
  exact h j u hu
theorem range_below {w w' : World} {B b o : Nat} {cs : List Value} (h : w.rangeAt b o cs) (hb : b < B) (hw : Below B w w') : w'.rangeAt b o cs := fun j u hu => (hw.cell (p := ⟨b, o + j, none⟩) hb).trans (h j u hu)
theorem cmC_info {x : Cm} {D D2 : Option Addr} {d d2 : Nat} : (Tryz.prog.info? 27).map (·.size) = some (cmC x D d D2 d2).length := by show _ = some 18; kernel_rfl
theorem arC_info {r : AR} : (Tryz.prog.info? 63).map (·.size) = some (arC r).length := by show _ = some 22; kernel_rfl
set_option maxHeartbeats 4000000 in
set_option maxRecDepth 100000 in
theorem fewL_any (l : List AR) (A : Option Addr) (n c B : Nat) (w : World) (hr : Reads w B 22 A n (recs arC l)) (hB : B ≤ w.heap.size) (hn : n ≤ maxLen) :
    Calls Tryz.prog 46 #[.slice A n c] w fun e w' => e = .returned (.bool (fewL l)) ∧ Below w.heap.size w w' := by
  have hlen := hr.rec_len arC_len (by omega)
  by_cases hm : n ≤ 200
  case neg =>
    have t2 : decide ((200 : Int) < (n : Int)) = true := by simp; omega
    have t2' : decide (200 < n) = true := by simp; omega
    have HR : Hid (fewL l = false) := by show _ = _; unfold fewL; rw [hlen.out, decide_eq_false hm]; rfl
    clear hm hr
    go_enter Tryz.func46, Tryz.ntmps46
    go_wp2
    go_ret
    exact ⟨by rw [HR.out]; rfl, Below.refl _ _⟩
  have t2 : decide ((200 : Int) < (n : Int)) = false := by simp; omega
  have t2' : decide (200 < n) = false := by simp; omega
  have HRd := Lib.hid hr
  have HBW := Lib.hid hB
  clear hr hB
  go_enter Tryz.func46, Tryz.ntmps46
  go_wp2
  go_loopw [3] (fun i wr => ∃ k : Nat, k ≤ n ∧ i = .int .i64 k ∧ Below w.heap.size w wr ∧ Hid (∀ j r, j < k → l[j]? = some r → fewC r.a.cmd = true)) (fun i _ => n - (intOf i).toNat)
  case atStart => exact ⟨0, Nat.zero_le _, rfl, Below.refl _ _, fun j r h => by omega⟩
  case round =>
    obtain ⟨k, hk, rfl, hbw, HG⟩ := hrel
    by_cases hlt : k < n
    · obtain ⟨b, o, x, rfl, hbb, hx, hc⟩ := Reads.rec_at arC_len (by omega) HRd.out hlt
      have KR := Lib.hid (range_below (act_cmd hc) (Nat.lt_of_lt_of_le hbb HBW.out) hbw)
      have hi0 : (0 : Int) ≤ (k : Int) := by omega
      have hi1 : (k : Int) < (n : Int) := by omega
      have t0 : decide ((k : Int) < (n : Int)) = true := by simp; omega
      have q1 := Lib.hid (fun v => few08_any x.a.cmd x.D x.D2 x.d x.d2 v)
      rw [cmV_is] at q1
      unfold cmA at q1
      have CSZ := Lib.hid (cmC_info (x := x.a.cmd) (D := x.D) (D2 := x.D2) (d := x.d) (d2 := x.d2))
      obtain ⟨ds, hds⟩ : ∃ ds, Hid (cmC x.a.cmd x.D x.d x.D2 x.d2 = ds) := ⟨_, rfl⟩
      rw [hds.out] at KR q1 CSZ
      clear hc
      cases z1 : fewC x.a.cmd
      case false =>
        rw [z1] at q1
        have HR : Hid (fewL l = false) := by
          show _ = _
          cases h : fewL l
          · rfl
          · have := fewL_at h hx.out; rw [z1] at this; cases this
        go_wp2_with (first | (refine wpList_load_mid rfl 27 _ rfl b (o + (k * 22 + 4)) rfl ds _ KR.out Tryz.underlying27 rfl CSZ.out ?_) | (go_at_call 15; refine (q1.out _).mono ?_; rintro e w1 ⟨rfl, hw1⟩))
        go_ret
        exact ⟨by rw [HR.out]; rfl, bt hbw hw1⟩
      rw [z1] at q1
      have HG2 : Hid (∀ j r, j < k + 1 → l[j]? = some r → fewC r.a.cmd = true) := by
        intro j r hj hr2
        by_cases e : j = k
        · subst e; rw [hx.out] at hr2; rw [← Option.some.inj hr2]; exact z1
        · exact HG.out j r (by omega) hr2
      clear z1
      go_wp2_with (first | (refine wpList_load_mid rfl 27 _ rfl b (o + (k * 22 + 4)) rfl ds _ KR.out Tryz.underlying27 rfl CSZ.out ?_) | (go_at_call 15; refine (q1.out _).mono ?_; rintro e w1 ⟨rfl, hw1⟩))
      go_roundw
      case rel => exact ⟨k + 1, by omega, by simp, bt hbw hw1, HG2⟩
      case measure => simp [intOf]; omega
    · obtain rfl : k = n := by omega
      have t0 : decide ((k : Int) < (k : Int)) = false := by simp
      have HR : Hid (fewL l = true) := by
        show _ = _
        unfold fewL
        rw [hlen.out, decide_eq_true hm, Bool.true_and, List.all_eq_true]
        intro r hr2
        obtain ⟨j, hj⟩ := List.getElem?_of_mem hr2
        have hjl := (List.getElem?_eq_some_iff.1 hj).1
        rw [hlen.out] at hjl
        exact HG.out j r hjl hj
      go_wp2
      go_ret
      exact ⟨by rw [HR.out]; rfl, hbw⟩
end Go.Proofs.YtfnmmbfngniheaaGreatDoor

namespace Go.Proofs.YtfnmmbfngniheaaGreatDoor
set_option linter.unusedVariables false
open Go.RowKit
theorem yl_row {P : Program} {S : World → Prop} {o : Oper} {a : Act} (ty : TypeId) (x : Operand) (ho : o.op = .load ty x) (g : Nat) (hx : a.eval x = .pointer (some ⟨g, 0, none⟩)) (t : TypeId) (cs : Array Value) (fr : Nat × Nat) (d : TypeDesc)
    (hS : ∀ w, S w → w.heap[g]? = some (.cells cs t fr)) (hu : P.underlying ty = some d) (hd : (match d with | .struct _ | .array _ _ => true | _ => false) = true) (hi : (P.info? ty).map (·.size) = some cs.size) :
    ∀ w, S w → (execOp a.eval o).run P w = .ok (.value (.agg cs)) w := by
  intro w hw
  unfold execOp
  simp only [ho, hx, Instr.loadAt, Instr.sureAddr, Sem.run_bind, Sem.run_pure, Result.andThen_ok, run_loadVar_row w g t ty cs fr d (hS w hw) hu hd hi]
theorem yl_mid {P : Program} {S : World → Prop} {op : Oper} {a : Act} (ty : TypeId) (x : Operand) (ho : op.op = .load ty x) (b o : Nat) (hx : a.eval x = .pointer (some ⟨b, o, none⟩)) (cs : List Value) (d : TypeDesc)
    (hS : ∀ w, S w → w.rangeAt b o cs) (hu : P.underlying ty = some d) (hd : d.isRow = true) (hi : (P.info? ty).map (·.size) = some cs.length) :
    ∀ w, S w → (execOp a.eval op).run P w = .ok (.value (.agg cs.toArray)) w := by
  intro w hw
  unfold execOp
  simp only [ho, hx, Instr.loadAt, Instr.sureAddr, Sem.run_bind, Sem.run_pure, Result.andThen_ok, run_loadVar_mid w b o ty cs d (hS w hw) hu hd hi]
/-- all old cells as they were -/
theorem hk_mk {w3 w' : World} (h : Below w3.heap.size w3 w') : (∀ b o, b < w3.heap.size → w'.cell? ⟨b, o, none⟩ = w3.cell? ⟨b, o, none⟩) ∧ Below w3.heap.size w3 w' := ⟨fun b o hb => h.cell (p := ⟨b, o, none⟩) hb, h⟩
theorem hk_call {w3 w' w'' : World} (h : (∀ b o, b < w3.heap.size → w'.cell? ⟨b, o, none⟩ = w3.cell? ⟨b, o, none⟩) ∧ Below w3.heap.size w3 w') (hb : Below w'.heap.size w' w'') : (∀ b o, b < w3.heap.size → w''.cell? ⟨b, o, none⟩ = w3.cell? ⟨b, o, none⟩) ∧ Below w3.heap.size w3 w'' :=
  hk_mk (h.2.trans (hb.mono h.2.size))
theorem hk_drew {w3 : World} : (∀ b o, b < w3.heap.size → w3.drew.cell? ⟨b, o, none⟩ = w3.cell? ⟨b, o, none⟩) ∧ Below w3.heap.size w3 w3.drew := hk_mk (below_drew (Below.refl _ _))
theorem hk_alloc {w3 w' : World} (h : (∀ b o, b < w3.heap.size → w'.cell? ⟨b, o, none⟩ = w3.cell? ⟨b, o, none⟩) ∧ Below w3.heap.size w3 w') (ob : Obj) : (∀ b o, b < w3.heap.size → (w'.alloc ob).cell? ⟨b, o, none⟩ = w3.cell? ⟨b, o, none⟩) ∧ Below w3.heap.size w3 (w'.alloc ob) :=
  hk_mk (h.2.alloc h.2.size _)
theorem hk_set {w3 w' : World} (h : (∀ b o, b < w3.heap.size → w'.cell? ⟨b, o, none⟩ = w3.cell? ⟨b, o, none⟩) ∧ Below w3.heap.size w3 w') {g k : Nat} (hg : w3.heap.size ≤ g) (u : Value) : (∀ b o, b < w3.heap.size → (w'.setCell ⟨g, k, none⟩ u).cell? ⟨b, o, none⟩ = w3.cell? ⟨b, o, none⟩) ∧ Below w3.heap.size w3 (w'.setCell ⟨g, k, none⟩ u) :=
  hk_mk (h.2.setCell (p := ⟨g, k, none⟩) hg u)
theorem hk_row {w3 w' : World} (h : (∀ b o, b < w3.heap.size → w'.cell? ⟨b, o, none⟩ = w3.cell? ⟨b, o, none⟩) ∧ Below w3.heap.size w3 w') {g : Nat} (hg : w3.heap.size ≤ g) (cs : Array Value) : (∀ b o, b < w3.heap.size → (w'.setRow g cs).cell? ⟨b, o, none⟩ = w3.cell? ⟨b, o, none⟩) ∧ Below w3.heap.size w3 (w'.setRow g cs) :=
  hk_mk (h.2.trans ⟨rfl, rfl, rfl, by simp, fun k hk => Go.setRow_other w' g k cs (by omega)⟩)
theorem hk_size {w3 w' : World} (h : (∀ b o, b < w3.heap.size → w'.cell? ⟨b, o, none⟩ = w3.cell? ⟨b, o, none⟩) ∧ Below w3.heap.size w3 w') : w3.heap.size ≤ w'.heap.size := h.2.size
theorem hk_block {w3 w' : World} (h : (∀ b o, b < w3.heap.size → w'.cell? ⟨b, o, none⟩ = w3.cell? ⟨b, o, none⟩) ∧ Below w3.heap.size w3 w') {g : Nat} {ob : Obj} (hg : w3.heap[g]? = some ob) : w'.heap[g]? = some ob := (h.2.block g (Array.getElem?_eq_some_iff.1 hg).1).trans hg
theorem hk_range {w3 w' : World} (h : (∀ b o, b < w3.heap.size → w'.cell? ⟨b, o, none⟩ = w3.cell? ⟨b, o, none⟩) ∧ Below w3.heap.size w3 w') {b o : Nat} {cs : List Value} (hr : w3.rangeAt b o cs) : w'.rangeAt b o cs := by
  intro j v hv
  have h1 := hr j v hv
  rw [h.1 b (o + j) (World.block_lt_of_cell? w3 _ h1)]
  exact h1
end Go.Proofs.YtfnmmbfngniheaaGreatDoor

namespace Go.Proofs.YtfnmmbfngniheaaGreatDoor
set_option linter.unusedVariables false
open Go.RowKit
theorem altP_texts (x : Jb) (c : Cm) : (altP x c).name = x.name ∧ (altP x c).user = x.user ∧ (altP x c).account = x.account ∧ (altP x c).nodes = x.nodes := by unfold altP; split <;> exact ⟨rfl, rfl, rfl, rfl⟩
theorem act_texts (x : Jb) (a : Ac) : (actD x a).name = x.name ∧ (actD x a).user = x.user ∧ (actD x a).account = x.account ∧ ((actD x a).nodes = x.nodes ∨ (actD x a).nodes = 0 ∨ (actD x a).nodes = a.set) := by
  unfold actD
  split
  · unfold holdD; split <;> exact ⟨rfl, rfl, rfl, .inl rfl⟩
  split
  · exact ⟨rfl, rfl, rfl, .inl rfl⟩
  split
  · exact ⟨rfl, rfl, rfl, .inl rfl⟩
  split
  · exact ⟨rfl, rfl, rfl, .inr (.inr rfl)⟩
  split
  · exact ⟨rfl, rfl, rfl, .inr (.inr rfl)⟩
  split
  · unfold finD; split <;> exact ⟨rfl, rfl, rfl, .inr (.inl rfl)⟩
  split
  · have h := altP_texts x a.cmd
    unfold altD
    split <;> exact ⟨h.1, h.2.1, h.2.2.1, .inl h.2.2.2⟩
  · exact ⟨rfl, rfl, rfl, .inl rfl⟩
theorem act_sz {x : Jb} {a : Ac} (hz : JbSz x) (hs : a.set < M64) : JbSz (actD x a) := by
  obtain ⟨h1, h2, h3, h4⟩ := act_texts x a
  refine ⟨by rw [h1, h2, h3]; exact hz.1, ?_⟩
  rcases h4 with h | h | h <;> rw [h]
  · exact hz.2
  · rw [M64_is]; decide
  · exact hs
/-- a job's lists do not lie in block p -/
def Away (p : Nat) (A : Option Addr) (n : Nat) : Prop := 0 < n → ∀ ad, A = some ad → ad.block ≠ p
def JbAway (p : Nat) (x : Jb) (A A2 : Option Addr) : Prop := Away p A x.shape.alts.length ∧ Away p A2 x.after.length
theorem Reads.away {w w' : World} {B size n p : Nat} {A : Option Addr} {xs : List Value} (h : Reads w B size A n xs) (ho : Away p A n) (hw : Only p w w') : Reads w' B size A n xs := by
  refine ⟨h.1, fun hn => ?_⟩
  obtain ⟨ad, e, hlt, hc⟩ := h.2 hn
  have hlo := ho hn ad e
  refine ⟨ad, e, hlt, fun j u hu => ?_⟩
  rw [← hc j u hu]
  exact World.cell?_of_block (hw.block _ (by rw [block_of_add]; exact hlo))
theorem JbAt.away {w w' : World} {B p : Nat} {x : Jb} {A A2 : Option Addr} {c c2 : Nat} (h : JbAt w B x A c A2 c2) (ho : JbAway p x A A2) (hw : Only p w w') : JbAt w' B x A c A2 c2 :=
  ⟨h.1.away ho.1 hw, h.2.1.away ho.2 hw, h.2.2⟩
theorem away_of_reads {w : World} {B size n p : Nat} {A : Option Addr} {xs : List Value} (h : Reads w B size A n xs) (hp : B ≤ p) : Away p A n := by
  intro hn ad e
  obtain ⟨ad', e', hlt, _⟩ := h.2 hn
  rw [e] at e'
  rw [Option.some.inj e']
  omega
theorem JbAt.away_of {w : World} {B p : Nat} {x : Jb} {A A2 : Option Addr} {c c2 : Nat} (h : JbAt w B x A c A2 c2) (hp : B ≤ p) : JbAway p x A A2 := ⟨away_of_reads h.1 hp, away_of_reads h.2.1 hp⟩
theorem JbOff.away {lo p : Nat} {x : Jb} {A A2 : Option Addr} (h : JbOff lo x A A2) (hp : p < lo) : JbAway p x A A2 :=
  ⟨fun hn ad e => by have := h.1 hn ad e; omega, fun hn ad e => by have := h.2 hn ad e; omega⟩
theorem CmAt.more {w : World} {B B' : Nat} {x : Cm} {A A2 : Option Addr} {c c2 : Nat} (h : CmAt w B x A c A2 c2) (hB : B ≤ B') : CmAt w B' x A c A2 c2 := ⟨h.1.more hB, h.2.1.more hB, h.2.2⟩
theorem doJ_bad {x : Jb} {a : Ac} (hx : okJ x = true) (hm : actM x a ≠ 0) : doJ x a = (noJ, actM x a) := by rw [doJ_is]; unfold turnJ; rw [if_pos hx, if_neg hm]
theorem doJ_good {x : Jb} {a : Ac} (hx : okJ x = true) (hm : actM x a = 0) : doJ x a = (actD x a, 0) := by rw [doJ_is, hm]; unfold turnJ; rw [if_pos hx, if_pos rfl]
/-- a job that a call has handed back, laid into a new variable, made behind the call or ahead of it -/
theorem var_late {wr wc w5 : World} {q : Jb} {F F2 : Option Addr} {f f2 : Nat} {z : Array Value} (hw : Below wr.heap.size wr wc) (hb5 : Below wc.heap.size wc w5) (hat : JbAt w5 w5.heap.size q F f F2 f2) (hoff : JbOff wc.heap.size q F F2) :
    Hid (((w5.alloc (.cells z 30)).setRow w5.heap.size (jbA q F f F2 f2)).heap[w5.heap.size]? = some (.cells (jbA q F f F2 f2) 30 (0, 0))) ∧ Hid (JbAt ((w5.alloc (.cells z 30)).setRow w5.heap.size (jbA q F f F2 f2)) ((w5.alloc (.cells z 30)).setRow w5.heap.size (jbA q F f F2 f2)).heap.size q F f F2 f2) ∧ Hid (JbOff wr.heap.size q F F2) ∧ wr.heap.size ≤ w5.heap.size ∧ Hid (Below wr.heap.size wr ((w5.alloc (.cells z 30)).setRow w5.heap.size (jbA q F f F2 f2))) := by
  have h1 : Below w5.heap.size w5 ((w5.alloc (.cells z 30)).setRow w5.heap.size (jbA q F f F2 f2)) := below_row bx0 (Nat.le_refl _) _
  have h2 := Nat.le_trans hw.size hb5.size
  exact ⟨setRow_heap _ _ _ _ _ _ (heap_alloc_new w5 _), (hat.below h1).more h1.size, ⟨hoff.1.mono hw.size, hoff.2.mono hw.size⟩, h2, (hw.trans (hb5.mono hw.size)).trans (h1.mono h2)⟩
theorem var_early {wr wc w5 : World} {q : Jb} {F F2 : Option Addr} {f f2 g : Nat} {z : Array Value} (hw : Below wr.heap.size wr wc) (hz : wc.heap[g]? = some (.cells z 30 (0, 0))) (hg : wr.heap.size ≤ g) (hb5 : Below wc.heap.size wc w5) (hat : JbAt w5 w5.heap.size q F f F2 f2) (hoff : JbOff wc.heap.size q F F2) :
    Hid ((w5.setRow g (jbA q F f F2 f2)).heap[g]? = some (.cells (jbA q F f F2 f2) 30 (0, 0))) ∧ Hid (JbAt (w5.setRow g (jbA q F f F2 f2)) (w5.setRow g (jbA q F f F2 f2)).heap.size q F f F2 f2) ∧ Hid (JbOff wr.heap.size q F F2) ∧ wr.heap.size ≤ g ∧ Hid (Below wr.heap.size wr (w5.setRow g (jbA q F f F2 f2))) := by
  have hs := hw.size
  have hz1 : g < wc.heap.size := (Array.getElem?_eq_some_iff.1 hz).1
  refine ⟨setRow_heap _ _ _ _ _ _ ((hb5.block _ hz1).trans hz), ?_, ⟨hoff.1.mono hs, hoff.2.mono hs⟩, hg, below_row (hw.trans (hb5.mono hs)) hg _⟩
  rw [Go.setRow_size]
  exact hat.only hoff hz1 row_only
/-- who runs started no later than promised -/
theorem run_start {x : Jb} (hx : okJ x = true) (h : x.state = 2) : x.start ≤ x.promise := (of_run (st_r h ((okJ_iff x).1 hx).2.2.2.2.2.2)).2.2.2.2.1
theorem not_over {x : Jb} (h : x.state = 1 ∨ x.state = 2) : endedB x.state = false := by
  rcases h with h | h <;> rw [h] <;> decide
end Go.Proofs.YtfnmmbfngniheaaGreatDoor

namespace Go.Proofs.YtfnmmbfngniheaaGreatDoor
set_option linter.unusedVariables false
open Go.RowKit Go.ChangeShapes Go.WideShapes Go.Deep
section
variable {H : Type} {enc0 : TypeId × Value → H} {w : World} {base : Nat} {held : Bool}
set_option maxHeartbeats 1000000 in
set_option maxRecDepth 100000 in
theorem open_cmE {fuel : Nat} {cs : List Value} {x : DataW H × List MemPlace} (h : DataW.trod enc0 Tryz.prog w base (fun _ => true) held fuel 27 cs = some x) :
    ∃ (x : Cm) (A A2 : Option Addr) (c c2 : Nat), cs = cmC x A c A2 c2 ∧ CmIn w x A c A2 c2 := by
  obtain ⟨xs, n, _, _, hlen, hxl, hf⟩ := DataW.trod_struct Tryz.underlying27 h
  have hl : cs.length = 18 := hlen.trans (by kernel_rfl)
  match cs, hl, xs, hxl with
  | [c0, c1, c2, c3, c4, c5, c6, c7, c8, c9, c10, c11, c12, c13, c14, c15, c16, c17], _, [y0, y1, y2, y3, y4, y5, y6, y7, y8, y9, y10, y11, y12, y13], _ =>
    have k1 : Tryz.prog.cellsOf 25 = 1 := by kernel_rfl
    have k2 : Tryz.prog.cellsOf 3 = 1 := by kernel_rfl
    have k3 : Tryz.prog.cellsOf 9 = 1 := by kernel_rfl
    have k4 : Tryz.prog.cellsOf 4 = 1 := by kernel_rfl
    have k5 : Tryz.prog.cellsOf 24 = 5 := by kernel_rfl
    obtain ⟨n0, e0, _⟩ := DataW.trod_int Tryz.underlying3 (hf 0 _ rfl)
    obtain ⟨n1, e1, _⟩ := DataW.trod_int Tryz.underlying3 (hf 1 _ rfl)
    obtain ⟨s2, e2, _, m2⟩ := DataW.trod_string Tryz.underlying9 (hf 2 _ rfl)
    obtain ⟨s3, e3, _, m3⟩ := DataW.trod_string Tryz.underlying9 (hf 3 _ rfl)
    obtain ⟨s4, e4, _, m4⟩ := DataW.trod_string Tryz.underlying9 (hf 4 _ rfl)
    obtain ⟨s, A, c, e5, hr, hc⟩ := open_sh (hf 5 _ rfl)
    obtain ⟨n6, e6, _⟩ := DataW.trod_int Tryz.underlying3 (hf 6 _ rfl)
    obtain ⟨b7, e7, _⟩ := DataW.trod_bool Tryz.underlying4 (hf 7 _ rfl)
    obtain ⟨n8, e8, _⟩ := DataW.trod_int Tryz.underlying3 (hf 8 _ rfl)
    obtain ⟨b9, e9, _⟩ := DataW.trod_bool Tryz.underlying4 (hf 9 _ rfl)
    obtain ⟨A2, c2, l, e10, hr2, hc2⟩ := open_deps (hf 10 _ rfl)
    obtain ⟨n11, e11, _⟩ := DataW.trod_int Tryz.underlying3 (hf 11 _ rfl)
    obtain ⟨n12, e12, _⟩ := DataW.trod_int Tryz.underlying3 (hf 12 _ rfl)
    obtain ⟨n13, e13, _⟩ := DataW.trod_int Tryz.underlying3 (hf 13 _ rfl)
    unfold shC at e5
    simp [k1, k2, k3, k4, k5] at e0 e1 e2 e3 e4 e5 e6 e7 e8 e9 e10 e11 e12 e13
    obtain ⟨f1, f2, f3, f4, f5⟩ := e5
    subst e0 e1 e2 e3 e4 f1 f2 f3 f4 f5 e6 e7 e8 e9 e10 e11 e12 e13
    exact ⟨⟨n0, n1, s2, s3, s4, s, n6, b7, n8, b9, l, n11, n12, n13⟩, A, A2, c, c2, rfl, hr, hr2, hc, hc2⟩
set_option maxHeartbeats 1000000 in
set_option maxRecDepth 100000 in
theorem open_acE {fuel : Nat} {cs : List Value} {x : DataW H × List MemPlace} (h : DataW.trod enc0 Tryz.prog w base (fun _ => true) held fuel 63 cs = some x) :
    ∃ r : AR, cs = arC r ∧ (CmIn w r.a.cmd r.D r.d r.D2 r.d2 ∧ r.a.set < M64) := by
  obtain ⟨xs, n, _, _, hlen, hxl, hf⟩ := DataW.trod_struct Tryz.underlying63 h
  have hl : cs.length = 22 := hlen.trans (by kernel_rfl)
  match cs, hl, xs, hxl with
  | c0 :: c1 :: c2 :: c3 :: cr, hl, [y0, y1, y2, y3, y4], _ =>
    have k2 : Tryz.prog.cellsOf 3 = 1 := by kernel_rfl
    have k6 : Tryz.prog.cellsOf 28 = 1 := by kernel_rfl
    have k7 : Tryz.prog.cellsOf 27 = 18 := by kernel_rfl
    have hcr : cr.length = 18 := by simpa using hl
    obtain ⟨n0, e0, _⟩ := DataW.trod_int Tryz.underlying3 (hf 0 _ rfl)
    obtain ⟨n1, e1, _⟩ := DataW.trod_int Tryz.underlying3 (hf 1 _ rfl)
    obtain ⟨n2, e2, _⟩ := DataW.trod_int Tryz.underlying3 (hf 2 _ rfl)
    obtain ⟨n3, e3, _, m3⟩ := DataW.trod_int Tryz.underlying28 (hf 3 _ rfl)
    obtain ⟨y, A, A2, c, c2, e4, hc⟩ := open_cmE (hf 4 _ rfl)
    obtain ⟨u, hu, hu2⟩ : ∃ s : Nat, n3 = (s : Int) ∧ s < M64 := by
      obtain ⟨h0, h1⟩ := Go.bounds_u64 m3
      exact ⟨n3.toNat, by omega, by rw [M64_is]; omega⟩
    subst hu
    simp [k2, k6, k7] at e0 e1 e2 e3 e4
    subst e0 e1 e2 e3
    refine ⟨⟨⟨n0, n1, n2, u, y⟩, A, c, A2, c2⟩, ?_, hc, hu2⟩
    show _ = _ :: _ :: _ :: _ :: cmC y A c A2 c2
    rw [← e4]
    simp [List.take_of_length_le, hcr]
set_option maxRecDepth 100000 in
theorem open_acs {b0 : Nat} {r : Reach} {v : Value} {d : DataW H} {p : List MemPlace} (hv : Value.okWide Tryz.prog w r b0 67 v) (h : DataW.Trod enc0 Tryz.prog w base (fun _ => true) held 67 v d p) :
    ∃ (A : Option Addr) (n c : Nat) (l : List AR), v = .slice A n c ∧ Reads w w.heap.size 22 A n (recs arC l) ∧ n ≤ maxLen ∧ ∀ r ∈ l, CmIn w r.a.cmd r.D r.d r.D2 r.d2 ∧ r.a.set < M64 := by
  obtain ⟨fuel, hf⟩ := h
  obtain ⟨A0, n0, c0, rfl⟩ := okWide_slice Tryz.underlying67 hv
  obtain ⟨A, n, c, l, e, hr, h1, h2, hw⟩ := open_list (m := 22) Tryz.underlying67 (by kernel_rfl) (by omega) arC_len (fun _ _ _ h => open_acE h) hf
  simp [Value.cells] at e
  obtain ⟨rfl, rfl, rfl⟩ := e
  exact ⟨_, _, _, l, rfl, hr, h2, hw⟩
end
end Go.Proofs.YtfnmmbfngniheaaGreatDoor

namespace Go.Proofs.YtfnmmbfngniheaaGreatDoor
set_option linter.unusedVariables false
open Go.RowKit
set_option linter.unusedSimpArgs false in
set_option maxHeartbeats 16000000 in
set_option maxRecDepth 100000 in
theorem jobLife_walk (x : Jb) (A A2 : Option Addr) (c c2 : Nat) (l : List AR) (L : Option Addr) (n m : Nat) (w : World) (hx : JbIn w x A c A2 c2) (hr : Reads w w.heap.size 22 L n (recs arC l)) (hn : n ≤ maxLen) (hl : ∀ r ∈ l, CmIn w r.a.cmd r.D r.d r.D2 r.d2 ∧ r.a.set < M64) :
    Calls Tryz.prog 9 #[jbV x A c A2 c2, .slice L n m] w fun e w' => e = .returned (.bool true) ∧ Below w.heap.size w w' := by
  have f1 := Lib.hid (fun v => few14_any x A A2 c c2 v)
  have f2 := Lib.hid (fun v (hv : Below w.heap.size w v) => fewL_any l L n m w.heap.size v (hr.below hv) hv.size hn)
  have X := fun h => Lib.hid (hx.at_ h)
  have hlen := hr.rec_len arC_len (by omega)
  have HRd := Lib.hid hr
  have HL := Lib.hid hl
  clear hx hr hl
  rw [jbV_is] at f1 ⊢
  have HS := Lib.hid (jbA_size x A c A2 c2)
  have HJ0 : Hid ((w.alloc (.cells (jbA x A c A2 c2) 30)).heap[w.heap.size]? = some (.cells (jbA x A c A2 c2) 30 (0, 0))) := heap_alloc_new w _
  cases b1 : fewJ x
  case false =>
    rw [b1] at f1
    clear b1 X
    go_enter Tryz.func9, Tryz.ntmps9
    go_wp2_with (first
      | (refine wpList_load_row rfl 30 _ rfl (w.heap.size) rfl 30 _ (0, 0) _ HJ0.out Tryz.underlying30 rfl (info30 HS.out) ?_)
      | (go_at_call 16; refine (f1.out _).mono ?_; rintro e w1 ⟨rfl, hw1⟩; obtain ⟨j1, hb1, s1⟩ := box_row hw1; have J1 := Lib.hid j1; have B1 := Lib.hid hb1; clear j1 hb1 hw1)
      | (go_at_call 17; refine (awake14_any _).mono ?_; rintro e w4 ⟨rfl, hw4⟩))
    go_ret
    exact ⟨rfl, bt B1.out hw4⟩
  rw [b1] at f1
  have X1 := X b1
  clear b1 X
  cases b2 : fewL l
  case false =>
    rw [b2] at f2
    clear b2 X1
    go_enter Tryz.func9, Tryz.ntmps9
    go_wp2_with (first
      | (refine wpList_load_row rfl 30 _ rfl (w.heap.size) rfl 30 _ (0, 0) _ HJ0.out Tryz.underlying30 rfl (info30 HS.out) ?_)
      | (go_at_call 16; refine (f1.out _).mono ?_; rintro e w1 ⟨rfl, hw1⟩; obtain ⟨j1, hb1, s1⟩ := box_row hw1; have J1 := Lib.hid j1; have B1 := Lib.hid hb1; clear j1 hb1 hw1)
      | (go_at_call 46; refine (f2.out _ B1.out).mono ?_; rintro e w2 ⟨rfl, hw2⟩; have J2 := Lib.hid ((hw2.block _ s1).trans J1.out); have B2 := Lib.hid (bt B1.out hw2); have s2 : w.heap.size < w2.heap.size := (by have := hw2.size; omega); clear hw2)
      | (go_at_call 17; refine (awake14_any _).mono ?_; rintro e w4 ⟨rfl, hw4⟩))
    go_ret
    exact ⟨rfl, bt B2.out hw4⟩
  rw [b2] at f2
  have HFL := Lib.hid b2
  clear b2
  have hck := Lib.hid (fun v (hv : Below w.heap.size w v) => jcheck_any x A A2 c c2 w.heap.size v (X1.out.1.below hv) hv.size X1.out.2)
  rw [jbV_is] at hck
  cases b3 : okJ x
  case false =>
    rw [jobE_f b3] at hck
    clear b3
    go_enter Tryz.func9, Tryz.ntmps9
    go_wp2_with (first
      | (refine wpList_load_row rfl 30 _ rfl (w.heap.size) rfl 30 _ (0, 0) _ HJ0.out Tryz.underlying30 rfl (info30 HS.out) ?_)
      | (go_at_call 16; refine (f1.out _).mono ?_; rintro e w1 ⟨rfl, hw1⟩; obtain ⟨j1, hb1, s1⟩ := box_row hw1; have J1 := Lib.hid j1; have B1 := Lib.hid hb1; clear j1 hb1 hw1)
      | (go_at_call 46; refine (f2.out _ B1.out).mono ?_; rintro e w2 ⟨rfl, hw2⟩; have J2 := Lib.hid ((hw2.block _ s1).trans J1.out); have B2 := Lib.hid (bt B1.out hw2); have s2 : w.heap.size < w2.heap.size := (by have := hw2.size; omega); clear hw2)
      | (refine wpList_load_row_g (by kernel_rfl) 30 _ rfl (w.heap.size) rfl 30 _ (0, 0) _ J2.out Tryz.underlying30 rfl (info30 HS.out) ?_)
      | (go_at_call 21; refine (hck.out _ B2.out).mono ?_; rintro e w3 ⟨rfl, hw3⟩; have J3 := Lib.hid ((hw3.block _ s2).trans J2.out); have B3 := Lib.hid (bt B2.out hw3); have s3 : w.heap.size < w3.heap.size := (by have := hw3.size; omega); clear hw3)
      | (go_at_call 17; refine (awake14_any _).mono ?_; rintro e w4 ⟨rfl, hw4⟩))
    go_ret
    exact ⟨rfl, bt B3.out hw4⟩
  rw [jobE_t b3] at hck
  have HK := Lib.hid b3
  clear b3
  go_enter Tryz.func9, Tryz.ntmps9
  go_wp2_with (first
    | (refine wpList_load_row rfl 30 _ rfl (w.heap.size) rfl 30 _ (0, 0) _ HJ0.out Tryz.underlying30 rfl (info30 HS.out) ?_)
    | (go_at_call 16; refine (f1.out _).mono ?_; rintro e w1 ⟨rfl, hw1⟩; obtain ⟨j1, hb1, s1⟩ := box_row hw1; have J1 := Lib.hid j1; have B1 := Lib.hid hb1; clear j1 hb1 hw1)
    | (go_at_call 46; refine (f2.out _ B1.out).mono ?_; rintro e w2 ⟨rfl, hw2⟩; have J2 := Lib.hid ((hw2.block _ s1).trans J1.out); have B2 := Lib.hid (bt B1.out hw2); have s2 : w.heap.size < w2.heap.size := (by have := hw2.size; omega); clear hw2)
    | (refine wpList_load_row_g (by kernel_rfl) 30 _ rfl (w.heap.size) rfl 30 _ (0, 0) _ J2.out Tryz.underlying30 rfl (info30 HS.out) ?_)
    | (go_at_call 21; refine (hck.out _ B2.out).mono ?_; rintro e w3 ⟨rfl, hw3⟩; have J3 := Lib.hid ((hw3.block _ s2).trans J2.out); have B3 := Lib.hid (bt B2.out hw3); have s3 : w.heap.size < w3.heap.size := (by have := hw3.size; omega); clear hw3))
  have AT3 := Lib.hid (X1.out.1.below B3.out)
  have AW3 := Lib.hid (X1.out.1.away_of (Nat.le_refl _))
  have SZ3 := Lib.hid X1.out.2
  clear J1 J2 B1 B2 X1 hck f1 f2 HJ0
  have hm2 : n ≤ 200 := by have h := HFL.out; unfold fewL at h; rw [hlen.out] at h; simp only [Bool.and_eq_true, decide_eq_true_eq] at h; exact h.1
  go_loopw [5] (fun i wr => ∃ (k : Nat) (y : Jb) (E E2 : Option Addr) (e e2 : Nat), k ≤ n ∧ i = .int .i64 k ∧ Hid (wr.heap[w.heap.size]? = some (.cells (jbA y E e E2 e2) 30 (0, 0))) ∧ Hid (JbAt wr wr.heap.size y E e E2 e2) ∧ Hid (JbAway w.heap.size y E E2) ∧ Hid (okJ y = true) ∧ Hid (JbSz y) ∧ Hid (Below w.heap.size w wr)) (fun i _ => n - (intOf i).toNat)
  case atStart => exact ⟨0, x, A, A2, c, c2, Nat.zero_le _, rfl, J3, AT3.out.more B3.out.size, AW3, HK, SZ3, B3⟩
  case round =>
    obtain ⟨k, y, E, E2, ee, e2, hk, rfl, JR, ATR, AWR, OKR, SZR, BR⟩ := hrel
    clear J3 AT3 AW3 HK SZ3 B3 s3
    have HT := Lib.hid (jbA_size y E ee E2 e2)
    have sr : w.heap.size < wr.heap.size := (Array.getElem?_eq_some_iff.1 JR.out).1
    by_cases hlt : k < n
    · obtain ⟨b, o, r, rfl, hbb, hr, hc⟩ := Reads.rec_at arC_len (by omega) HRd.out hlt
      have KR := Lib.hid (range_below (act_row hc) hbb BR.out)
      clear hc
      have hi0 : (0 : Int) ≤ (k : Int) := by omega
      have hi1 : (k : Int) < (n : Int) := by omega
      have t0 : decide ((k : Int) < (n : Int)) = true := by simp; omega
      have HA := Lib.hid (CmIn.at_ (HL.out r (List.mem_of_getElem? hr.out)).1 (fewL_at HFL.out hr.out))
      have HM := Lib.hid (HL.out r (List.mem_of_getElem? hr.out)).2
      have hdo := Lib.hid (fun v (hv : Below wr.heap.size wr v) => do_any y r.a E E2 r.D r.D2 ee e2 r.d r.d2 wr.heap.size v (ATR.out.below hv) (((HA.out.1.below BR.out).more BR.out.size).below hv) hv.size SZR.out HA.out.2 HM.out)
      rw [jbV_is] at hdo
      unfold acV acA at hdo
      have CSZ := Lib.hid (arC_info (r := r))
      obtain ⟨av, has⟩ : ∃ av, Hid (arC r = av) := ⟨_, rfl⟩
      rw [show acC r.a r.D r.d r.D2 r.d2 = av from has.out] at hdo
      rw [has.out] at KR CSZ
      obtain ⟨Q, HQ⟩ : ∃ Q, Hid (doJ y r.a = Q) := ⟨_, rfl⟩
      rw [HQ.out] at hdo
      unfold RetJX at hdo
      obtain ⟨ys, hys⟩ : ∃ ys, Hid (jbA y E ee E2 e2 = ys) := ⟨_, rfl⟩
      rw [hys.out] at JR HT hdo
      obtain ⟨qj, qe⟩ := Q
      dsimp only at hdo
      go_upto_region 6 with (fail)
      go_cut [6, 7] (fun p er wx => ∃ (g : Nat) (F F2 : Option Addr) (f f2 : Nat), p = .pointer (some ⟨g, 0, none⟩) ∧ er = .int .i64 qe ∧ Hid (wx.heap[g]? = some (.cells (jbA qj F f F2 f2) 30 (0, 0))) ∧ Hid (JbAt wx wx.heap.size qj F f F2 f2) ∧ Hid (JbOff wr.heap.size qj F F2) ∧ wr.heap.size ≤ g ∧ Hid (Below wr.heap.size wr wx))
      case first =>
        refine wp_region_held_drew (S := (fun w' => (∀ b o, b < wr.heap.size → w'.cell? ⟨b, o, none⟩ = wr.cell? ⟨b, o, none⟩) ∧ Below wr.heap.size wr w')) (by kernel_rfl) ?_ (fun hHeld => ?_)
        · (try dsimp only); (first | assumption | exact hk_drew | exact hk_call (by assumption) (by assumption) | (refine hk_alloc (by assumption) _) | (refine hk_row (by assumption) (by first | exact Nat.le_refl _ | exact hk_size (by assumption) | omega | (simp; done) | (simp; omega)) _) | (refine hk_set (by assumption) (by first | exact Nat.le_refl _ | exact hk_size (by assumption) | omega | (simp; done) | (simp; omega)) _))
        first
          | (refine wpAnyH_take (i := 0) (oi := ⟨_, _, _, _, _, _⟩) (v := (.agg ys)) rfl (by kernel_rfl) (by kernel_rfl) (by kernel_rfl) (fun _ _ _ h => h) (Or.inl ⟨by rfl, yl_row 30 _ (by rfl) (w.heap.size) (by rfl) 30 _ (0, 0) _ (fun w_ h_ => hk_block h_ JR.out) Tryz.underlying30 rfl (info30 HT.out)⟩) (by assumption) ?_)
          | (refine wpAnyH_take (i := 0) (oi := ⟨_, _, _, _, _, _⟩) (v := (.agg av.toArray)) rfl (by kernel_rfl) (by kernel_rfl) (by kernel_rfl) (fun _ _ _ h => h) (Or.inl ⟨by rfl, yl_mid 63 _ (by rfl) b (o + k * 22) (by rfl) av _ (fun w_ h_ => hk_range h_ KR.out) Tryz.underlying63 rfl CSZ.out⟩) (by assumption) ?_)
          | (refine wpAnyH_take (i := 0) (oi := ⟨_, _, _, _, _, _⟩) (v := ?v_47) rfl (by kernel_rfl) (by kernel_rfl) (by kernel_rfl) (fun _ _ _ h => h) (Or.inl ⟨by rfl, ?hy_47⟩) (by assumption) ?r_47; case hy_47 => (intro w_ hS_; (try dsimp only at hS_); go_simp; try with_reducible rfl))
        try simp only [Act.put, List.setIfInBounds_toArray, List.set_cons_zero, List.set_cons_succ]
        refine wpAnyH_take (i := 1) (oi := ⟨_, _, _, _, _, _⟩) (v := ?v_48) rfl (by kernel_rfl) (by kernel_rfl) (by kernel_rfl) (fun _ _ _ h => h) (Or.inl ⟨by rfl, ?hy_48⟩) (by assumption) ?r_48
        case hy_48 => (intro w_ hS_; (try dsimp only at hS_); go_simp; try with_reducible rfl)
        try simp only [Act.put, List.setIfInBounds_toArray, List.set_cons_zero, List.set_cons_succ]
        refine wpAnyH_take (i := 2) (oi := ⟨_, _, _, _, _, _⟩) (v := ?v_49) rfl (by kernel_rfl) (by kernel_rfl) (by kernel_rfl) (fun _ _ _ h => h) (Or.inl ⟨by rfl, ?hy_49⟩) (by assumption) ?r_49
        case hy_49 => (intro w_ hS_; (try dsimp only at hS_); go_simp; try with_reducible rfl)
        try simp only [Act.put, List.setIfInBounds_toArray, List.set_cons_zero, List.set_cons_succ]
        refine wpAnyH_take (i := 3) (oi := ⟨_, _, _, _, _, _⟩) (v := ?v_50) rfl (by kernel_rfl) (by kernel_rfl) (by kernel_rfl) (fun _ _ _ h => h) (Or.inl ⟨by rfl, ?hy_50⟩) (by assumption) ?r_50
        case hy_50 => (intro w_ hS_; (try dsimp only at hS_); go_simp; try with_reducible rfl)
        try simp only [Act.put, List.setIfInBounds_toArray, List.set_cons_zero, List.set_cons_succ]
        first
          | (refine wpAnyH_take (i := 4) (oi := ⟨_, _, _, _, _, _⟩) (v := (.agg ys)) rfl (by kernel_rfl) (by kernel_rfl) (by kernel_rfl) (fun _ _ _ h => h) (Or.inl ⟨by rfl, yl_row 30 _ (by rfl) (w.heap.size) (by rfl) 30 _ (0, 0) _ (fun w_ h_ => hk_block h_ JR.out) Tryz.underlying30 rfl (info30 HT.out)⟩) (by assumption) ?_)
          | (refine wpAnyH_take (i := 4) (oi := ⟨_, _, _, _, _, _⟩) (v := (.agg av.toArray)) rfl (by kernel_rfl) (by kernel_rfl) (by kernel_rfl) (fun _ _ _ h => h) (Or.inl ⟨by rfl, yl_mid 63 _ (by rfl) b (o + k * 22) (by rfl) av _ (fun w_ h_ => hk_range h_ KR.out) Tryz.underlying63 rfl CSZ.out⟩) (by assumption) ?_)
          | (refine wpAnyH_take (i := 4) (oi := ⟨_, _, _, _, _, _⟩) (v := ?v_51) rfl (by kernel_rfl) (by kernel_rfl) (by kernel_rfl) (fun _ _ _ h => h) (Or.inl ⟨by rfl, ?hy_51⟩) (by assumption) ?r_51; case hy_51 => (intro w_ hS_; (try dsimp only at hS_); go_simp; try with_reducible rfl))
        try simp only [Act.put, List.setIfInBounds_toArray, List.set_cons_zero, List.set_cons_succ]
        refine wpAnyH_ready (rs := [5, 9]) (by kernel_rfl) (by simp) ?_
        refine AllReadyH.cons (o := ⟨_, _, _, _, _, _⟩) rfl (fun K hK => ?_) ?_
        · go_simp
          (first | (go_at_call 44; refine (hdo.out _ (And.right (by assumption))).mono ?_; rintro e w5 ⟨F, f, F2, f2, rfl, hat, hoff, hb5⟩))
          try go_wp2_with (fail)
          refine hK.out _ _ ?_ (fun hHeld => ?_)
          · (try dsimp only); (first | assumption | exact hk_drew | exact hk_call (by assumption) (by assumption) | (refine hk_alloc (by assumption) _) | (refine hk_row (by assumption) (by first | exact Nat.le_refl _ | exact hk_size (by assumption) | omega | (simp; done) | (simp; omega)) _) | (refine hk_set (by assumption) (by first | exact Nat.le_refl _ | exact hk_size (by assumption) | omega | (simp; done) | (simp; omega)) _))
          clear hK K
          try simp only [Act.put, List.setIfInBounds_toArray, List.set_cons_zero, List.set_cons_succ]
          refine wpAnyH_take (i := 6) (oi := ⟨_, _, _, _, _, _⟩) (v := ?v_52) rfl (by kernel_rfl) (by kernel_rfl) (by kernel_rfl) (fun _ _ _ h => h) (Or.inl ⟨by rfl, ?hy_52⟩) (by assumption) ?r_52
          case hy_52 => (intro w_ hS_; (try dsimp only at hS_); go_simp; try with_reducible rfl)
          try simp only [Act.put, List.setIfInBounds_toArray, List.set_cons_zero, List.set_cons_succ]
          refine wpAnyH_take (i := 7) (oi := ⟨_, _, _, _, _, _⟩) (v := ?v_53) rfl (by kernel_rfl) (by kernel_rfl) (by kernel_rfl) (fun _ _ _ h => h) (Or.inl ⟨by rfl, ?hy_53⟩) (by assumption) ?r_53
          case hy_53 => (intro w_ hS_; (try dsimp only at hS_); go_simp; try with_reducible rfl)
          try simp only [Act.put, List.setIfInBounds_toArray, List.set_cons_zero, List.set_cons_succ]
          refine wpAnyH_take (i := 8) (oi := ⟨_, _, _, _, _, _⟩) (v := ?v_54) rfl (by kernel_rfl) (by kernel_rfl) (by kernel_rfl) (fun _ _ _ h => h) (Or.inl ⟨by rfl, ?hy_54⟩) (by assumption) ?r_54
          case hy_54 => (intro w_ hS_; (try dsimp only at hS_); go_simp; try with_reducible rfl)
          try simp only [Act.put, List.setIfInBounds_toArray, List.set_cons_zero, List.set_cons_succ]
          refine wpAnyH_ready (rs := [9]) (by kernel_rfl) (by simp) ?_
          refine AllReadyH.cons (o := ⟨_, _, _, _, _, _⟩) rfl (fun K hK => ?_) AllReadyH.nil
          go_simp
          refine hK.out _ _ ?_ (fun hHeld => ?_)
          · (try dsimp only); (first | assumption | exact hk_drew | exact hk_call (by assumption) (by assumption) | (refine hk_alloc (by assumption) _) | (refine hk_row (by assumption) (by first | exact Nat.le_refl _ | exact hk_size (by assumption) | omega | (simp; done) | (simp; omega)) _) | (refine hk_set (by assumption) (by first | exact Nat.le_refl _ | exact hk_size (by assumption) | omega | (simp; done) | (simp; omega)) _))
          clear hK K
          try simp only [Act.put, List.setIfInBounds_toArray, List.set_cons_zero, List.set_cons_succ]
          refine wpAnyH_ready (rs := [10]) (by kernel_rfl) (by simp) ?_
          refine AllReadyH.cons (o := ⟨_, _, _, _, _, _⟩) rfl (fun K hK => ?_) AllReadyH.nil
          first | (rw [if_pos (by rfl)]; first | (refine wp_store_row 30 _ _ rfl _ (jbA qj F f F2 f2) rfl rfl 30 _ (heap_alloc_new _ _) (info30 (jbA_size _ _ _ _ _)) rfl (jbA_one _ _ _ _ _) ?_) | (refine wp_store_row 30 _ _ rfl _ (jbA qj F f F2 f2) rfl rfl 30 _ ((hb5.block _ (by simp)).trans (heap_alloc_new _ _)) (info30 (jbA_size _ _ _ _ _)) rfl (jbA_one _ _ _ _ _) ?_)) | go_simp
          refine hK.out _ _ ?_ (fun hHeld => ?_)
          · (try dsimp only); (first | assumption | exact hk_drew | exact hk_call (by assumption) (by assumption) | (refine hk_alloc (by assumption) _) | (refine hk_row (by assumption) (by first | exact Nat.le_refl _ | exact hk_size (by assumption) | omega | (simp; done) | (simp; omega)) _) | (refine hk_set (by assumption) (by first | exact Nat.le_refl _ | exact hk_size (by assumption) | omega | (simp; done) | (simp; omega)) _))
          clear hK K
          try simp only [Act.put, List.setIfInBounds_toArray, List.set_cons_zero, List.set_cons_succ]
          refine wpAnyH_take (i := 11) (oi := ⟨_, _, _, _, _, _⟩) (v := ?v_55) rfl (by kernel_rfl) (by kernel_rfl) (by kernel_rfl) (fun _ _ _ h => h) (Or.inl ⟨by rfl, ?hy_55⟩) (by assumption) ?r_55
          case hy_55 => (intro w_ hS_; (try dsimp only at hS_); go_simp; try with_reducible rfl)
          try simp only [Act.put, List.setIfInBounds_toArray, List.set_cons_zero, List.set_cons_succ]
          refine wpAnyH_done (by kernel_rfl) ?_ _
          (go_wp2_with (fail); go_meet; first | exact ⟨_, F, F2, f, f2, rfl, rfl, var_late (below_drew (Below.refl _ _)) hb5 hat hoff⟩ | exact ⟨_, F, F2, f, f2, rfl, rfl, var_early (below_drew bx0) (heap_alloc_new _ _) (Nat.le_refl _) hb5 hat hoff⟩)
        refine AllReadyH.cons (o := ⟨_, _, _, _, _, _⟩) rfl (fun K hK => ?_) AllReadyH.nil
        go_simp
        refine hK.out _ _ ?_ (fun hHeld => ?_)
        · (try dsimp only); (first | assumption | exact hk_drew | exact hk_call (by assumption) (by assumption) | (refine hk_alloc (by assumption) _) | (refine hk_row (by assumption) (by first | exact Nat.le_refl _ | exact hk_size (by assumption) | omega | (simp; done) | (simp; omega)) _) | (refine hk_set (by assumption) (by first | exact Nat.le_refl _ | exact hk_size (by assumption) | omega | (simp; done) | (simp; omega)) _))
        clear hK K
        try simp only [Act.put, List.setIfInBounds_toArray, List.set_cons_zero, List.set_cons_succ]
        refine wpAnyH_ready (rs := [5]) (by kernel_rfl) (by simp) ?_
        refine AllReadyH.cons (o := ⟨_, _, _, _, _, _⟩) rfl (fun K hK => ?_) AllReadyH.nil
        go_simp
        (first | (go_at_call 44; refine (hdo.out _ (And.right (by assumption))).mono ?_; rintro e w5 ⟨F, f, F2, f2, rfl, hat, hoff, hb5⟩))
        try go_wp2_with (fail)
        refine hK.out _ _ ?_ (fun hHeld => ?_)
        · (try dsimp only); (first | assumption | exact hk_drew | exact hk_call (by assumption) (by assumption) | (refine hk_alloc (by assumption) _) | (refine hk_row (by assumption) (by first | exact Nat.le_refl _ | exact hk_size (by assumption) | omega | (simp; done) | (simp; omega)) _) | (refine hk_set (by assumption) (by first | exact Nat.le_refl _ | exact hk_size (by assumption) | omega | (simp; done) | (simp; omega)) _))
        clear hK K
        try simp only [Act.put, List.setIfInBounds_toArray, List.set_cons_zero, List.set_cons_succ]
        refine wpAnyH_take (i := 6) (oi := ⟨_, _, _, _, _, _⟩) (v := ?v_56) rfl (by kernel_rfl) (by kernel_rfl) (by kernel_rfl) (fun _ _ _ h => h) (Or.inl ⟨by rfl, ?hy_56⟩) (by assumption) ?r_56
        case hy_56 => (intro w_ hS_; (try dsimp only at hS_); go_simp; try with_reducible rfl)
        try simp only [Act.put, List.setIfInBounds_toArray, List.set_cons_zero, List.set_cons_succ]
        refine wpAnyH_take (i := 7) (oi := ⟨_, _, _, _, _, _⟩) (v := ?v_57) rfl (by kernel_rfl) (by kernel_rfl) (by kernel_rfl) (fun _ _ _ h => h) (Or.inl ⟨by rfl, ?hy_57⟩) (by assumption) ?r_57
        case hy_57 => (intro w_ hS_; (try dsimp only at hS_); go_simp; try with_reducible rfl)
        try simp only [Act.put, List.setIfInBounds_toArray, List.set_cons_zero, List.set_cons_succ]
        refine wpAnyH_take (i := 8) (oi := ⟨_, _, _, _, _, _⟩) (v := ?v_58) rfl (by kernel_rfl) (by kernel_rfl) (by kernel_rfl) (fun _ _ _ h => h) (Or.inl ⟨by rfl, ?hy_58⟩) (by assumption) ?r_58
        case hy_58 => (intro w_ hS_; (try dsimp only at hS_); go_simp; try with_reducible rfl)
        try simp only [Act.put, List.setIfInBounds_toArray, List.set_cons_zero, List.set_cons_succ]
        refine wpAnyH_ready (rs := [10]) (by kernel_rfl) (by simp) ?_
        refine AllReadyH.cons (o := ⟨_, _, _, _, _, _⟩) rfl (fun K hK => ?_) AllReadyH.nil
        first | (rw [if_pos (by rfl)]; first | (refine wp_store_row 30 _ _ rfl _ (jbA qj F f F2 f2) rfl rfl 30 _ (heap_alloc_new _ _) (info30 (jbA_size _ _ _ _ _)) rfl (jbA_one _ _ _ _ _) ?_) | (refine wp_store_row 30 _ _ rfl _ (jbA qj F f F2 f2) rfl rfl 30 _ ((hb5.block _ (by simp)).trans (heap_alloc_new _ _)) (info30 (jbA_size _ _ _ _ _)) rfl (jbA_one _ _ _ _ _) ?_)) | go_simp
        refine hK.out _ _ ?_ (fun hHeld => ?_)
        · (try dsimp only); (first | assumption | exact hk_drew | exact hk_call (by assumption) (by assumption) | (refine hk_alloc (by assumption) _) | (refine hk_row (by assumption) (by first | exact Nat.le_refl _ | exact hk_size (by assumption) | omega | (simp; done) | (simp; omega)) _) | (refine hk_set (by assumption) (by first | exact Nat.le_refl _ | exact hk_size (by assumption) | omega | (simp; done) | (simp; omega)) _))
        clear hK K
        try simp only [Act.put, List.setIfInBounds_toArray, List.set_cons_zero, List.set_cons_succ]
        refine wpAnyH_take (i := 11) (oi := ⟨_, _, _, _, _, _⟩) (v := ?v_59) rfl (by kernel_rfl) (by kernel_rfl) (by kernel_rfl) (fun _ _ _ h => h) (Or.inl ⟨by rfl, ?hy_59⟩) (by assumption) ?r_59
        case hy_59 => (intro w_ hS_; (try dsimp only at hS_); go_simp; try with_reducible rfl)
        try simp only [Act.put, List.setIfInBounds_toArray, List.set_cons_zero, List.set_cons_succ]
        refine wpAnyH_done (by kernel_rfl) ?_ _
        (go_wp2_with (fail); go_meet; first | exact ⟨_, F, F2, f, f2, rfl, rfl, var_late (below_drew (Below.refl _ _)) hb5 hat hoff⟩ | exact ⟨_, F, F2, f, f2, rfl, rfl, var_early (below_drew bx0) (heap_alloc_new _ _) (Nat.le_refl _) hb5 hat hoff⟩)
      case rest =>
        obtain ⟨g, F, F2, f, f2, rfl, rfl, JG, ATG, OFG, hg, BC⟩ := hcut
        obtain ⟨w7, hw7⟩ : ∃ w7 : World, w7 = wc := ⟨_, rfl⟩
        subst hw7
        have s7 : w.heap.size < w7.heap.size := by have := BC.out.size; omega
        have sg : g < w7.heap.size := (Array.getElem?_eq_some_iff.1 JG.out).1
        have JY := Lib.hid ((BC.out.block _ sr).trans JR.out)
        have ATY := Lib.hid ((ATR.out.below BC.out).more BC.out.size)
        have BW := Lib.hid (BR.out.trans (BC.out.mono BR.out.size))
        have gw : g ≠ w.heap.size := by omega
        clear KR CSZ hdo has
        by_cases hm : actM y r.a = 0
        case neg =>
          have e1 : qj = noJ := congrArg Prod.fst (HQ.out.symm.trans (doJ_bad OKR.out hm))
          have e2 : qe = actM y r.a := congrArg Prod.snd (HQ.out.symm.trans (doJ_bad OKR.out hm))
          have t7 : (qe != 0) = true := by rw [e2]; simpa using hm
          clear HQ e2 hm
          subst e1
          have HSM := Lib.hid (fun v (hv : Below w7.heap.size w7 v) => rsameJ_any noJ noJ F F2 none none f f2 0 0 w7.heap.size v (ATG.out.below hv) (noJ_at v _ 0).1 hv.size)
          rw [sameJ_refl, jbV_is, jbV_is, noJ_is] at HSM
          have HGS := Lib.hid (jbA_size noJ F f F2 f2)
          obtain ⟨gs, hgs⟩ : ∃ gs, Hid (jbA noJ F f F2 f2 = gs) := ⟨_, rfl⟩
          rw [hgs.out] at HSM JG HGS
          go_wp2_with (first
            | (refine wpList_load_row rfl 30 _ rfl (g) rfl 30 _ (0, 0) _ JG.out Tryz.underlying30 rfl (info30 HGS.out) ?_)
            | (go_at_call 20; refine (HSM.out _ (Below.refl _ _)).mono ?_; rintro e w8 ⟨rfl, hb8⟩))
          go_roundw
          case rel =>
            have JY8 := (hb8.block _ s7).trans JY.out
            rw [← hys.out] at JY8
            exact ⟨k + 1, y, E, E2, ee, e2, by omega, by simp, JY8, (ATY.out.below hb8).more hb8.size, AWR, OKR, SZR, bt BW.out hb8⟩
          case measure => simp [intOf]; omega

        case pos =>
          have e1 : qj = actD y r.a := congrArg Prod.fst (HQ.out.symm.trans (doJ_good OKR.out hm))
          have e2 : qe = 0 := congrArg Prod.snd (HQ.out.symm.trans (doJ_good OKR.out hm))
          clear HQ
          subst e1 e2
          have OKZ := Lib.hid (act_ok OKR.out hm)
          have LF := act_life OKR.out hm
          have SZZ := Lib.hid (act_sz SZR.out HM.out)

          obtain ⟨z, hzz⟩ : ∃ z, Hid (actD y r.a = z) := ⟨_, rfl⟩
          rw [hzz.out] at JG ATG OFG OKZ LF SZZ 
          clear hzz hm
          have JY8 := JY
          obtain ⟨gs, hgs⟩ : ∃ gs, Hid (jbA z F f F2 f2 = gs) := ⟨_, rfl⟩
          have HGS := Lib.hid (jbA_size z F f F2 f2)
          have HG1 := Lib.hid (jbA_one z F f F2 f2)
          have hov := Lib.hid (fun v (hv : Below w7.heap.size w7 v) => over14_any y E E2 ee e2 w7.heap.size v (ATY.out.below hv) hv.size SZR.out)
          have hck := Lib.hid (fun v (hv : Below w7.heap.size w7 v) => jcheck_any z F F2 f f2 w7.heap.size v (ATG.out.below hv) hv.size SZZ.out)
          obtain ⟨lst, lid, lborn, lused, l2, l1⟩ := LF
          rw [not_over lst, Bool.and_false, jbV_is, hys.out] at hov
          rw [jobE_t OKZ.out, jbV_is, hgs.out] at hck
          rw [hgs.out] at JG HGS HG1
          have n0 : (z.id != y.id) = false := by rw [lid]; simp
          have n13 : (z.born != y.born) = false := by rw [lborn]; simp
          have n19 : decide (z.used < y.used) = false := decide_eq_false (by omega)
          have hcase : ((z.state == 2) = true ∧ (z.state == 1) = false ∧ (y.state != 2) = false ∧ (y.state != 1) = true ∧ decide (y.promise < z.start) = decide (y.promise < z.start) ∧ decide (z.promise < z.start) = false ∧ y.held = y.held) ∨
              ((z.state == 2) = true ∧ (z.state == 1) = false ∧ (y.state != 2) = true ∧ (y.state != 1) = false ∧ decide (y.promise < z.start) = false ∧ decide (z.promise < z.start) = false ∧ y.held = false) ∨
              ((z.state == 2) = false ∧ (z.state == 1) = true ∧ (y.state != 1) = false) ∨ ((z.state == 2) = false ∧ (z.state == 1) = false) := by
            by_cases h2 : z.state = 2
            · have hst := run_start OKZ.out h2
              have d1 : decide (z.promise < z.start) = false := decide_eq_false (by omega)
              rcases l2 h2 with h | ⟨h, h3, h4⟩
              · left; exact ⟨by simp [h2], by simp [h2], by simp [h], by simp [h], rfl, d1, rfl⟩
              · right; left; exact ⟨by simp [h2], by simp [h2], by simp [h], by simp [h], decide_eq_false (by omega), d1, h4⟩
            · right; right
              by_cases h1 : z.state = 1
              · left; exact ⟨by simp [h2], by simp [h1], by simp [l1 h1]⟩
              · right; exact ⟨by simp [h2], by simp [h1]⟩
          clear lst lid lborn lused l2 l1 hi0 HL
          go_upto_region 12 with (first
            | (refine wpList_load_row rfl 30 _ rfl (w.heap.size) rfl 30 _ (0, 0) _ JY.out Tryz.underlying30 rfl (info30 HT.out) ?_)
            | (go_at_call 23; refine (hov.out _ (Below.refl _ _)).mono ?_; rintro e w8 ⟨rfl, hb8⟩; have JG8 := Lib.hid ((hb8.block _ sg).trans JG.out); have JY8 := Lib.hid ((hb8.block _ s7).trans JY.out))
            | (refine wpList_load_row_g (by kernel_rfl) 30 _ rfl (g) rfl 30 _ (0, 0) _ JG8.out Tryz.underlying30 rfl (info30 HGS.out) ?_)
            | (go_at_call 21; refine (hck.out _ hb8).mono ?_; rintro e w9 ⟨rfl, hb9⟩; have hb79 := Lib.hid (bt hb8 hb9); have s97 := hb79.out.size
               have JG9 := Lib.hid ((hb79.out.block _ sg).trans JG.out)
               have JY9 := Lib.hid ((hb79.out.block _ s7).trans JY.out)
               have z0 : w9.cell? ⟨g, 0, none⟩ = some (.int .i64 z.id) := (cell_of_row w9 _ 0 _ _ _ JG9.out).trans (by rw [← hgs.out]; rfl)
               have z11 : w9.cell? ⟨g, 11, none⟩ = some (.int .i64 z.state) := (cell_of_row w9 _ 11 _ _ _ JG9.out).trans (by rw [← hgs.out]; rfl)
               have z13 : w9.cell? ⟨g, 13, none⟩ = some (.int .i64 z.born) := (cell_of_row w9 _ 13 _ _ _ JG9.out).trans (by rw [← hgs.out]; rfl)
               have z14 : w9.cell? ⟨g, 14, none⟩ = some (.int .i64 z.promise) := (cell_of_row w9 _ 14 _ _ _ JG9.out).trans (by rw [← hgs.out]; rfl)
               have z16 : w9.cell? ⟨g, 16, none⟩ = some (.int .i64 z.start) := (cell_of_row w9 _ 16 _ _ _ JG9.out).trans (by rw [← hgs.out]; rfl)
               have z19 : w9.cell? ⟨g, 19, none⟩ = some (.int .i64 z.used) := (cell_of_row w9 _ 19 _ _ _ JG9.out).trans (by rw [← hgs.out]; rfl)

               have y0 : w9.cell? ⟨w.heap.size, 0, none⟩ = some (.int .i64 y.id) := (cell_of_row w9 _ 0 _ _ _ JY9.out).trans (by rw [← hys.out]; rfl)
               have y11 : w9.cell? ⟨w.heap.size, 11, none⟩ = some (.int .i64 y.state) := (cell_of_row w9 _ 11 _ _ _ JY9.out).trans (by rw [← hys.out]; rfl)
               have y12 : w9.cell? ⟨w.heap.size, 12, none⟩ = some (.bool y.held) := (cell_of_row w9 _ 12 _ _ _ JY9.out).trans (by rw [← hys.out]; rfl)
               have y13 : w9.cell? ⟨w.heap.size, 13, none⟩ = some (.int .i64 y.born) := (cell_of_row w9 _ 13 _ _ _ JY9.out).trans (by rw [← hys.out]; rfl)
               have y14 : w9.cell? ⟨w.heap.size, 14, none⟩ = some (.int .i64 y.promise) := (cell_of_row w9 _ 14 _ _ _ JY9.out).trans (by rw [← hys.out]; rfl)
               have y19 : w9.cell? ⟨w.heap.size, 19, none⟩ = some (.int .i64 y.used) := (cell_of_row w9 _ 19 _ _ _ JY9.out).trans (by rw [← hys.out]; rfl)

               clear hb8 hb9 JG8 JY8))
          rcases hcase with ⟨a1, a2, a3, a4, _, a6, _⟩ | ⟨a1, a2, a3, a4, a5, a6, a7⟩ | ⟨a1, a2, a3⟩ | ⟨a1, a2⟩
          all_goals
            go_upto_region 16 with (fail)
            go_wp2_with (first
              | (refine wpList_load_row rfl 30 _ rfl (g) rfl 30 _ (0, 0) _ JG9.out Tryz.underlying30 rfl (info30 HGS.out) ?_)
              | (refine wpList_store_row rfl 30 _ _ rfl (w.heap.size) _ rfl rfl 30 _ JY9.out (info30 HGS.out) (HT.out.trans HGS.out.symm) HG1.out ?_))
            go_roundw
            case rel =>
              refine ⟨k + 1, z, F, F2, f, f2, by omega, by simp, ?_, ?_, OFG.out.away sr, OKZ, SZZ, below_row (bt BW.out hb79.out) (Nat.le_refl _) _⟩
              · rw [hgs.out]; exact setRow_heap _ _ _ _ _ _ JY9.out
              · exact (((ATG.out.below hb79.out).more s97).away (OFG.out.away sr) row_only).more (by rw [Go.setRow_size]; exact Nat.le_refl _)
            case measure => simp [intOf]; omega

    · obtain rfl : k = n := by omega
      have t0 : decide ((k : Int) < (k : Int)) = false := by simp
      go_wp2_with (go_at_call 17; refine (awake14_any _).mono ?_; rintro e w4 ⟨rfl, hw4⟩)
      go_ret
      exact ⟨rfl, bt BR.out hw4⟩
end Go.Proofs.YtfnmmbfngniheaaGreatDoor
