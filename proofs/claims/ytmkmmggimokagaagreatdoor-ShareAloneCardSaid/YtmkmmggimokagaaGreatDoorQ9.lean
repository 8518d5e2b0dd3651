/- Layer 14: the reference's Same walked (printed by a program of my own). Layer 14: New walked. Layer 14: small jobs and commands, as the statements ask. Layer 14: awake walked (printed by a program of my own). Layer 14: jobs and commands as they came in, small ones. Arguments of layers 8 and 14 opened: shapes, dependencies, commands, jobs. -/
import Derived.Test.YtmkmmggimokagaaGreatDoorJbW1
import Derived.Test.YtmkmmggimokagaaGreatDoorS3
import Derived.Test.YtmkmmggimokagaaGreatDoorQ7
import Derived.Test.YtmkmmggimokagaaGreatDoorQ0
import Derived.OpenShut
import Derived.MakeChecks
namespace Go.Proofs.YtmkmmggimokagaaGreatDoor
set_option linter.unusedVariables false
open Go.RowKit
/-- a whole row read under a guard that holds -/
theorem wpList_load_row_g {P : Program} {ops : Array Oper} {rest : List Oper} {o : Oper} {a : Act} {w : World} {Q : Exit → Act → World → Prop} (hgd : Region.wanted o (yielded ops a.tmps) = true) (ty : TypeId) (x : Operand) (ho : o.op = .load ty x)
    (g : Nat) (hx : a.eval x = .pointer (some ⟨g, 0, none⟩)) (t : TypeId) (cs : Array Value) (fr : Nat × Nat) (d : TypeDesc) (hg : w.heap[g]? = some (.cells cs t fr))
    (hu : P.underlying ty = some d) (hd : (match d with | .struct _ | .array _ _ => true | _ => false) = true) (hi : (P.info? ty).map (·.size) = some cs.size)
    (h : wpList P ops Q rest (a.put o.dst (.agg cs)) w) : wpList P ops Q (o :: rest) a w :=
  wpList_step fun _ hK => by rw [if_pos hgd]; exact wp_load_row ty x ho g hx t cs fr d hg hu hd hi (hK _ _ h)
theorem newD_at {w : World} {B : Nat} {x : Cm} {A A2 : Option Addr} {c c2 : Nat} {id now : Int} (h : CmAt w B x A c A2 c2) : JbAt w B (newD id x now) A c A2 c2 := h
theorem newD_sz {x : Cm} {id now : Int} (h : CmSz x) : JbSz (newD id x now) := ⟨h, by rw [M64_is]; show (0 : Nat) < _; decide⟩
theorem newJ_k {id now : Int} {x : Cm} (h : (x.kind == 1) = false) : newJ id x now = (noJ, 80) := by unfold newJ; rw [h]; rfl
theorem newJ_c {id now : Int} {x : Cm} (h : (cmdE x == 0) = false) : newJ id x now = (noJ, 80) := by unfold newJ; rw [h, Bool.and_false]; rfl
theorem newJ_j {id now : Int} {x : Cm} (h : (x.kind == 1) = true) (h2 : (cmdE x == 0) = true) (h3 : okJ (newD id x now) = false) : newJ id x now = (noJ, 140) := by unfold newJ; rw [h, h2, h3]; rfl
theorem newJ_y {id now : Int} {x : Cm} (h : (x.kind == 1) = true) (h2 : (cmdE x == 0) = true) (h3 : okJ (newD id x now) = true) : newJ id x now = (newD id x now, 0) := by unfold newJ; rw [h, h2, h3]; rfl
theorem retJX_no {w w' : World} {er : Int} (hb : Below w.heap.size w w') : RetJX w (noJ, er) (.returned (.tuple #[.agg #[.int .i64 0, .string ⟨#[]⟩, .string ⟨#[]⟩, .string ⟨#[]⟩, .int .i64 0, .slice none 0 0, .int .i64 0, .int .i64 0, .int .i64 0, .int .i64 0, .slice none 0 0, .int .i64 0, .bool false, .int .i64 0, .int .i64 0, .int .i64 0, .int .i64 0, .int .i64 0, .int .u64 0, .int .i64 0], .int .i64 er])) w' :=
  ⟨none, 0, none, 0, rfl, (noJ_at _ _ w.heap.size).1, (noJ_at w' 0 _).2, hb⟩
def fewA (s : Sh) : Bool := decide (s.alts.length ≤ 100)
def fewT (a b c : ByteArray) : Bool := decide (a.size ≤ 1000) && (decide (b.size ≤ 1000) && decide (c.size ≤ 1000))
def fewJ (x : Jb) : Bool := fewA x.shape && (decide (x.after.length ≤ 100) && fewT x.name x.user x.account)
def fewC (x : Cm) : Bool := fewA x.shape && (decide (x.after.length ≤ 100) && fewT x.name x.user x.account)
theorem le_int1 (n : Nat) : decide ((n : Int) ≤ 100) = decide (n ≤ 100) := by congr 1; apply propext; omega
theorem le_int2 (n : Nat) : decide ((n : Int) ≤ 1000) = decide (n ≤ 1000) := by congr 1; apply propext; omega
theorem few07_any (s : Sh) (A : Option Addr) (c : Nat) (w : World) : Calls Tryz.prog 14 #[shV s A c] w fun e w' => e = .returned (.bool (fewA s)) ∧ Below w.heap.size w w' := by
  unfold shV fewA
  obtain ⟨n, hn⟩ : ∃ n, s.alts.length = n := ⟨_, rfl⟩
  rw [hn]
  clear hn
  have i1 := le_int1 n
  obtain ⟨q1, h⟩ : ∃ q, decide (n ≤ 100) = q := ⟨_, rfl⟩
  rw [h] at i1 ⊢
  clear h
  cases q1
  all_goals
    go_enter Tryz.func14, Tryz.ntmps14
    go_wp2
    go_ret
    exact ⟨rfl, bx0⟩
set_option maxHeartbeats 4000000 in
set_option maxRecDepth 100000 in
theorem few14_any (x : Jb) (A A2 : Option Addr) (c c2 : Nat) (w : World) : Calls Tryz.prog 6 #[jbV x A c A2 c2] w fun e w' => e = .returned (.bool (fewJ x)) ∧ Below w.heap.size w w' := by
  have q := Lib.hid (fun v => few07_any x.shape A c v)
  unfold fewJ fewT
  unfold shV at q
  obtain ⟨z, hz⟩ : ∃ z, fewA x.shape = z := ⟨_, rfl⟩
  rw [hz] at q ⊢
  clear hz
  rw [jbV_is]
  have e1 : (jbA x A c A2 c2)[1]? = some (.string x.name) := rfl
  have e2 : (jbA x A c A2 c2)[2]? = some (.string x.user) := rfl
  have e3 : (jbA x A c A2 c2)[3]? = some (.string x.account) := rfl
  have e4 : (jbA x A c A2 c2)[4]? = some (.int .i64 x.shape.kind) := rfl
  have e5 : (jbA x A c A2 c2)[5]? = some (.slice A x.shape.alts.length c) := rfl
  have e6 : (jbA x A c A2 c2)[6]? = some (.int .i64 x.shape.mn) := rfl
  have e7 : (jbA x A c A2 c2)[7]? = some (.int .i64 x.shape.mx) := rfl
  have e8 : (jbA x A c A2 c2)[8]? = some (.int .i64 x.shape.wall) := rfl
  have e10 : (jbA x A c A2 c2)[10]? = some (.slice A2 x.after.length c2) := rfl
  have HS := Lib.hid (jbA_size x A c A2 c2)
  have H1 := Lib.hid (jbA_one x A c A2 c2)
  obtain ⟨cs, hcs⟩ : ∃ cs, Hid (jbA x A c A2 c2 = cs) := ⟨_, rfl⟩
  rw [hcs.out] at HS H1 e1 e2 e3 e4 e5 e6 e7 e8 e10 ⊢
  obtain ⟨n, hn⟩ : ∃ n, x.shape.alts.length = n := ⟨_, rfl⟩
  obtain ⟨m, hm⟩ : ∃ n, x.after.length = n := ⟨_, rfl⟩
  rw [hn] at q e5
  rw [hm] at e10 ⊢
  clear hn hm
  have i1 := le_int1 m
  have i2 := le_int2 x.name.size
  have i3 := le_int2 x.user.size
  have i4 := le_int2 x.account.size
  obtain ⟨q1, h1⟩ : ∃ q, decide (m ≤ 100) = q := ⟨_, rfl⟩
  obtain ⟨q2, h2⟩ : ∃ q, decide (x.name.size ≤ 1000) = q := ⟨_, rfl⟩
  obtain ⟨q3, h3⟩ : ∃ q, decide (x.user.size ≤ 1000) = q := ⟨_, rfl⟩
  obtain ⟨q4, h4⟩ : ∃ q, decide (x.account.size ≤ 1000) = q := ⟨_, rfl⟩
  rw [h1] at i1 ⊢
  rw [h2] at i2 ⊢
  rw [h3] at i3 ⊢
  rw [h4] at i4 ⊢
  clear h1 h2 h3 h4
  cases z
  case false =>
    go_enter Tryz.func6, Tryz.ntmps6
    go_wp2_with (fail)
    refine (q.out _).mono ?_; rintro e w1 ⟨rfl, hb1⟩
    go_wp2
    go_ret
    exact ⟨rfl, bt bx0 hb1⟩
  go_enter Tryz.func6, Tryz.ntmps6
  go_wp2_with (fail)
  refine (q.out _).mono ?_; rintro e w1 ⟨rfl, hb1⟩
  obtain ⟨g1, hb, s1⟩ := box_row hb1
  have B1 := Lib.hid hb
  have m1 : w1.cell? ⟨w.heap.size, 1, none⟩ = some (.string x.name) := (cell_of_row w1 _ 1 _ _ _ g1).trans e1
  have m2 : w1.cell? ⟨w.heap.size, 2, none⟩ = some (.string x.user) := (cell_of_row w1 _ 2 _ _ _ g1).trans e2
  have m3 : w1.cell? ⟨w.heap.size, 3, none⟩ = some (.string x.account) := (cell_of_row w1 _ 3 _ _ _ g1).trans e3
  have m10 : w1.cell? ⟨w.heap.size, 10, none⟩ = some (.slice A2 m c2) := (cell_of_row w1 _ 10 _ _ _ g1).trans e10
  clear hb1 hb g1
  cases q1
  case false =>
    go_wp2
    go_ret
    exact ⟨rfl, B1.out⟩
  cases q2
  case false =>
    go_wp2
    go_ret
    exact ⟨rfl, B1.out⟩
  cases q3
  case false =>
    go_wp2
    go_ret
    exact ⟨rfl, B1.out⟩
  cases q4
  all_goals
    go_wp2
    go_ret
    exact ⟨rfl, B1.out⟩
def sub0 : Cm := ⟨1, 0, ⟨#[97]⟩, ⟨#[117]⟩, ⟨#[120]⟩, ⟨1, [(2, 60)], 0, 0, 0⟩, 0, false, 0, false, [], 0, 0, 0⟩
theorem Reads.only_ {w w' : World} {B size n p : Nat} {A : Option Addr} {xs : List Value} (h : Reads w B size A n xs) (ho : Off (p + 1) A n) (hw : Only p w w') : Reads w' B size A n xs := h.only ho (Nat.lt_succ_self p) hw
def aJ : Jb := newD 3 sub0 1
def bJ : Jb := promD aJ 5 0
def cJ : Jb := startD bJ 4 3
def dJ : Jb := finD cJ 3
theorem aJ_is : newJ 3 sub0 1 = (aJ, 0) := by kernel_rfl
theorem bJ_is : promJ aJ 5 0 = (bJ, 0) := by kernel_rfl
theorem cJ_is : startJ bJ 4 3 = (cJ, 0) := by kernel_rfl
theorem eJ_is : startJ bJ 6 3 = (noJ, 141) := by kernel_rfl
theorem dJ_is : endJ cJ 3 = (dJ, 0) := by kernel_rfl
theorem dJ_over : (okJ dJ && endedB dJ.state) = true := by kernel_rfl
theorem cJ_over : (okJ cJ && endedB cJ.state) = false := by kernel_rfl
theorem noJ_err : jobE noJ = 140 := by kernel_rfl
theorem dJ_same : sameJ dJ dJ = true := by kernel_rfl
theorem aJ_sz : JbSz aJ := ⟨⟨by decide, by decide, by decide⟩, by rw [M64_is]; decide⟩
theorem bJ_sz : JbSz bJ := ⟨⟨by decide, by decide, by decide⟩, by rw [M64_is]; decide⟩
theorem cJ_sz : JbSz cJ := ⟨⟨by decide, by decide, by decide⟩, by rw [M64_is]; decide⟩
theorem dJ_sz : JbSz dJ := ⟨⟨by decide, by decide, by decide⟩, by rw [M64_is]; decide⟩
theorem noJ_sz : JbSz noJ := ⟨⟨by decide, by decide, by decide⟩, by rw [M64_is]; decide⟩
theorem sub0_sz : CmSz sub0 := ⟨by decide, by decide, by decide⟩
theorem sameJ_refl (x : Jb) : sameJ x x = true := by unfold sameJ sameS; simp
theorem jobE_zero (x : Jb) : (jobE x == 0) = okJ x := by unfold jobE; cases okJ x <;> rfl
theorem fewA_len {s : Sh} (h : fewA s = true) : s.alts.length ≤ 100 := by unfold fewA at h; simpa using h
theorem fewJ_of {x : Jb} (h : fewJ x = true) : x.shape.alts.length ≤ 100 ∧ x.after.length ≤ 100 ∧ x.name.size ≤ 1000 ∧ x.user.size ≤ 1000 ∧ x.account.size ≤ 1000 := by
  unfold fewJ fewT at h
  simp only [Bool.and_eq_true, decide_eq_true_eq] at h
  exact ⟨fewA_len h.1, h.2.1, h.2.2.1, h.2.2.2.1, h.2.2.2.2⟩
theorem fewC_of {x : Cm} (h : fewC x = true) : x.shape.alts.length ≤ 100 ∧ x.after.length ≤ 100 ∧ x.name.size ≤ 1000 ∧ x.user.size ≤ 1000 ∧ x.account.size ≤ 1000 := by
  unfold fewC fewT at h
  simp only [Bool.and_eq_true, decide_eq_true_eq] at h
  exact ⟨fewA_len h.1, h.2.1, h.2.2.1, h.2.2.2.1, h.2.2.2.2⟩
/-- a job's lists as they came in -/
def JbIn (w : World) (x : Jb) (A : Option Addr) (c : Nat) (A2 : Option Addr) (c2 : Nat) : Prop :=
  Reads w w.heap.size 2 A x.shape.alts.length (recs prC x.shape.alts) ∧ Reads w w.heap.size 2 A2 x.after.length (recs prC x.after) ∧ x.shape.alts.length ≤ c ∧ x.after.length ≤ c2 ∧ x.nodes < M64
def CmIn (w : World) (x : Cm) (A : Option Addr) (c : Nat) (A2 : Option Addr) (c2 : Nat) : Prop :=
  Reads w w.heap.size 2 A x.shape.alts.length (recs prC x.shape.alts) ∧ Reads w w.heap.size 2 A2 x.after.length (recs prC x.after) ∧ x.shape.alts.length ≤ c ∧ x.after.length ≤ c2
theorem JbIn.at_ {w : World} {x : Jb} {A : Option Addr} {c : Nat} {A2 : Option Addr} {c2 : Nat} (h : JbIn w x A c A2 c2) (hf : fewJ x = true) : JbAt w w.heap.size x A c A2 c2 ∧ JbSz x := by
  obtain ⟨h1, h2, h3, h4, h5⟩ := h
  obtain ⟨f1, f2, f3, f4, f5⟩ := fewJ_of hf
  exact ⟨⟨h1, h2, by omega, by omega, h3, h4⟩, ⟨by omega, by omega, by omega⟩, h5⟩
theorem CmIn.at_ {w : World} {x : Cm} {A : Option Addr} {c : Nat} {A2 : Option Addr} {c2 : Nat} (h : CmIn w x A c A2 c2) (hf : fewC x = true) : CmAt w w.heap.size x A c A2 c2 ∧ CmSz x := by
  obtain ⟨h1, h2, h3, h4⟩ := h
  obtain ⟨f1, f2, f3, f4, f5⟩ := fewC_of hf
  exact ⟨⟨h1, h2, by omega, by omega, h3, h4⟩, by omega, by omega, by omega⟩
end Go.Proofs.YtmkmmggimokagaaGreatDoor
namespace Go.Proofs.YtmkmmggimokagaaGreatDoor
set_option linter.unusedVariables false
open Go.RowKit Go.ChangeShapes Go.WideShapes Go.Deep
section
variable {H : Type} {enc0 : TypeId × Value → H} {w : World} {base : Nat} {held : Bool}
set_option maxRecDepth 100000 in
theorem open_alt {fuel : Nat} {cs : List Value} {x : DataW H × List MemPlace} (h : DataW.trod enc0 Tryz.prog w base (fun _ => true) held fuel 66 cs = some x) : ∃ t : Pr, cs = prC t ∧ True := by
  obtain ⟨xs, n, _, _, hlen, hxl, hf⟩ := DataW.trod_struct Tryz.underlying66 h
  have hl : cs.length = 2 := hlen.trans (by kernel_rfl)
  match cs, hl, xs, hxl with
  | [c0, c1], _, [y0, y1], _ =>
    obtain ⟨n0, e0, _⟩ := DataW.trod_int Tryz.underlying3 (hf 0 _ rfl)
    obtain ⟨n1, e1, _⟩ := DataW.trod_int Tryz.underlying3 (hf 1 _ rfl)
    have k2 : Tryz.prog.cellsOf 3 = 1 := by kernel_rfl
    simp [k2] at e0 e1
    subst e0; subst e1
    exact ⟨(n0, n1), rfl, trivial⟩
set_option maxRecDepth 100000 in
theorem open_dep {fuel : Nat} {cs : List Value} {x : DataW H × List MemPlace} (h : DataW.trod enc0 Tryz.prog w base (fun _ => true) held fuel 72 cs = some x) : ∃ t : Pr, cs = prC t ∧ True := by
  obtain ⟨xs, n, _, _, hlen, hxl, hf⟩ := DataW.trod_struct Tryz.underlying72 h
  have hl : cs.length = 2 := hlen.trans (by kernel_rfl)
  match cs, hl, xs, hxl with
  | [c0, c1], _, [y0, y1], _ =>
    obtain ⟨n0, e0, _⟩ := DataW.trod_int Tryz.underlying3 (hf 0 _ rfl)
    obtain ⟨n1, e1, _⟩ := DataW.trod_int Tryz.underlying3 (hf 1 _ rfl)
    have k2 : Tryz.prog.cellsOf 3 = 1 := by kernel_rfl
    simp [k2] at e0 e1
    subst e0; subst e1
    exact ⟨(n0, n1), rfl, trivial⟩
/-- the list is as long as its slice -/
theorem list_len {A : Option Addr} {n B : Nat} {l : List Pr} (h : Reads w B 2 A n (recs prC l)) : l.length = n := by
  have := h.1
  rw [recs_len prC_len] at this
  omega
theorem open_alts {fuel : Nat} {cs : List Value} {x : DataW H × List MemPlace} (h : DataW.trod enc0 Tryz.prog w base (fun _ => true) held fuel 23 cs = some x) :
    ∃ (A : Option Addr) (c : Nat) (l : List Pr), cs = [.slice A l.length c] ∧ Reads w w.heap.size 2 A l.length (recs prC l) ∧ l.length ≤ c := by
  obtain ⟨A, n, c, l, e, hr, h1, h2, _⟩ := open_list (m := 2) Tryz.underlying23 (by kernel_rfl) (by omega) prC_len (fun _ _ _ h => open_alt h) h
  have hl := list_len hr
  subst hl
  exact ⟨A, c, l, e, hr, h1⟩
theorem open_deps {fuel : Nat} {cs : List Value} {x : DataW H × List MemPlace} (h : DataW.trod enc0 Tryz.prog w base (fun _ => true) held fuel 26 cs = some x) :
    ∃ (A : Option Addr) (c : Nat) (l : List Pr), cs = [.slice A l.length c] ∧ Reads w w.heap.size 2 A l.length (recs prC l) ∧ l.length ≤ c := by
  obtain ⟨A, n, c, l, e, hr, h1, h2, _⟩ := open_list (m := 2) Tryz.underlying26 (by kernel_rfl) (by omega) prC_len (fun _ _ _ h => open_dep h) h
  have hl := list_len hr
  subst hl
  exact ⟨A, c, l, e, hr, h1⟩
set_option maxRecDepth 100000 in
theorem open_sh {fuel : Nat} {cs : List Value} {x : DataW H × List MemPlace} (h : DataW.trod enc0 Tryz.prog w base (fun _ => true) held fuel 25 cs = some x) :
    ∃ (s : Sh) (A : Option Addr) (c : Nat), cs = shC s A c ∧ Reads w w.heap.size 2 A s.alts.length (recs prC s.alts) ∧ s.alts.length ≤ c := by
  obtain ⟨xs, n, _, _, hlen, hxl, hf⟩ := DataW.trod_struct Tryz.underlying25 h
  have hl : cs.length = 5 := hlen.trans (by kernel_rfl)
  match cs, hl, xs, hxl with
  | [c0, c1, c2, c3, c4], _, [y0, y1, y2, y3, y4], _ =>
    have k1 : Tryz.prog.cellsOf 23 = 1 := by kernel_rfl
    have k2 : Tryz.prog.cellsOf 3 = 1 := by kernel_rfl
    obtain ⟨n0, e0, _⟩ := DataW.trod_int Tryz.underlying3 (hf 0 _ rfl)
    obtain ⟨A, c, l, e1, hr, hc⟩ := open_alts (hf 1 _ rfl)
    obtain ⟨n2, e2, _⟩ := DataW.trod_int Tryz.underlying3 (hf 2 _ rfl)
    obtain ⟨n3, e3, _⟩ := DataW.trod_int Tryz.underlying3 (hf 3 _ rfl)
    obtain ⟨n4, e4, _⟩ := DataW.trod_int Tryz.underlying3 (hf 4 _ rfl)
    simp [k1, k2] at e0 e1 e2 e3 e4
    subst e0; subst e1; subst e2; subst e3; subst e4
    exact ⟨⟨n0, l, n2, n3, n4⟩, A, c, rfl, hr, hc⟩
/-- texts of the machine -/
def CmWf (x : Cm) : Prop := x.name.size ≤ maxLen ∧ x.user.size ≤ maxLen ∧ x.account.size ≤ maxLen
set_option maxHeartbeats 1000000 in
set_option maxRecDepth 100000 in
theorem open_cm {b0 : Nat} {r : Reach} {v : Value} {d : DataW H} {p : List MemPlace} (hv : Value.okWide Tryz.prog w r b0 77 v) (h : DataW.Trod enc0 Tryz.prog w base (fun _ => true) held 77 v d p) :
    ∃ (x : Cm) (A A2 : Option Addr) (c c2 : Nat), v = cmV x A c A2 c2 ∧ Reads w w.heap.size 2 A x.shape.alts.length (recs prC x.shape.alts) ∧ Reads w w.heap.size 2 A2 x.after.length (recs prC x.after) ∧ x.shape.alts.length ≤ c ∧ x.after.length ≤ c2 ∧ CmWf x := by
  obtain ⟨cv, rfl, hsz⟩ := okWide_struct Tryz.underlying77 hv
  obtain ⟨fuel, hf0⟩ := h
  obtain ⟨xs, n, _, _, hlen, hxl, hf⟩ := DataW.trod_struct Tryz.underlying77 hf0
  obtain ⟨cs⟩ := cv
  have hl : cs.length = 18 := by simpa using hsz.trans (by kernel_rfl)
  match cs, hl, xs, hxl with
  | [c0, c1, c2, c3, c4, c5, c6, c7, c8, c9, c10, c11, c12, c13, c14, c15, c16, c17], _, [y0, y1, y2, y3, y4, y5, y6, y7, y8, y9, y10, y11, y12, y13], _ =>
    have k1 : Tryz.prog.cellsOf 26 = 1 := by kernel_rfl
    have k2 : Tryz.prog.cellsOf 3 = 1 := by kernel_rfl
    have k3 : Tryz.prog.cellsOf 9 = 1 := by kernel_rfl
    have k4 : Tryz.prog.cellsOf 4 = 1 := by kernel_rfl
    have k5 : Tryz.prog.cellsOf 25 = 5 := by kernel_rfl
    obtain ⟨n0, e0, _⟩ := DataW.trod_int Tryz.underlying3 (hf 0 _ rfl)
    obtain ⟨n1, e1, _⟩ := DataW.trod_int Tryz.underlying3 (hf 1 _ rfl)
    obtain ⟨s2, e2, _, m2⟩ := DataW.trod_string Tryz.underlying9 (hf 2 _ rfl)
    obtain ⟨s3, e3, _, m3⟩ := DataW.trod_string Tryz.underlying9 (hf 3 _ rfl)
    obtain ⟨s4, e4, _, m4⟩ := DataW.trod_string Tryz.underlying9 (hf 4 _ rfl)
    obtain ⟨s, A, c, e5, hr, hc⟩ := open_sh (hf 5 _ rfl)
    obtain ⟨n6, e6, _⟩ := DataW.trod_int Tryz.underlying3 (hf 6 _ rfl)
    obtain ⟨b7, e7, _⟩ := DataW.trod_bool Tryz.underlying4 (hf 7 _ rfl)
    obtain ⟨n8, e8, _⟩ := DataW.trod_int Tryz.underlying3 (hf 8 _ rfl)
    obtain ⟨b9, e9, _⟩ := DataW.trod_bool Tryz.underlying4 (hf 9 _ rfl)
    obtain ⟨A2, c2, l, e10, hr2, hc2⟩ := open_deps (hf 10 _ rfl)
    obtain ⟨n11, e11, _⟩ := DataW.trod_int Tryz.underlying3 (hf 11 _ rfl)
    obtain ⟨n12, e12, _⟩ := DataW.trod_int Tryz.underlying3 (hf 12 _ rfl)
    obtain ⟨n13, e13, _⟩ := DataW.trod_int Tryz.underlying3 (hf 13 _ rfl)
    unfold shC at e5
    simp [k1, k2, k3, k4, k5, Value.cells] at e0 e1 e2 e3 e4 e5 e6 e7 e8 e9 e10 e11 e12 e13
    obtain ⟨f1, f2, f3, f4, f5⟩ := e5
    subst e0 e1 e2 e3 e4 f1 f2 f3 f4 f5 e6 e7 e8 e9 e10 e11 e12 e13
    exact ⟨⟨n0, n1, s2, s3, s4, s, n6, b7, n8, b9, l, n11, n12, n13⟩, A, A2, c, c2, rfl, hr, hr2, hc, hc2, m2, m3, m4⟩
/-- texts and numbers of the machine -/
def JbWf (x : Jb) : Prop := (x.name.size ≤ maxLen ∧ x.user.size ≤ maxLen ∧ x.account.size ≤ maxLen) ∧ x.nodes < M64
set_option maxHeartbeats 1000000 in
set_option maxRecDepth 100000 in
theorem open_jb {b0 : Nat} {r : Reach} {v : Value} {d : DataW H} {p : List MemPlace} (hv : Value.okWide Tryz.prog w r b0 29 v) (h : DataW.Trod enc0 Tryz.prog w base (fun _ => true) held 29 v d p) :
    ∃ (x : Jb) (A A2 : Option Addr) (c c2 : Nat), v = jbV x A c A2 c2 ∧ Reads w w.heap.size 2 A x.shape.alts.length (recs prC x.shape.alts) ∧ Reads w w.heap.size 2 A2 x.after.length (recs prC x.after) ∧ x.shape.alts.length ≤ c ∧ x.after.length ≤ c2 ∧ JbWf x := by
  obtain ⟨cv, rfl, hsz⟩ := okWide_struct Tryz.underlying29 hv
  obtain ⟨fuel, hf0⟩ := h
  obtain ⟨xs, n, _, _, hlen, hxl, hf⟩ := DataW.trod_struct Tryz.underlying29 hf0
  obtain ⟨cs⟩ := cv
  have hl : cs.length = 20 := by simpa using hsz.trans (by kernel_rfl)
  match cs, hl, xs, hxl with
  | [c0, c1, c2, c3, c4, c5, c6, c7, c8, c9, c10, c11, c12, c13, c14, c15, c16, c17, c18, c19], _, [y0, y1, y2, y3, y4, y5, y6, y7, y8, y9, y10, y11, y12, y13, y14, y15], _ =>
    have k1 : Tryz.prog.cellsOf 26 = 1 := by kernel_rfl
    have k2 : Tryz.prog.cellsOf 3 = 1 := by kernel_rfl
    have k3 : Tryz.prog.cellsOf 9 = 1 := by kernel_rfl
    have k4 : Tryz.prog.cellsOf 4 = 1 := by kernel_rfl
    have k5 : Tryz.prog.cellsOf 25 = 5 := by kernel_rfl
    have k6 : Tryz.prog.cellsOf 27 = 1 := by kernel_rfl
    obtain ⟨n0, e0, _⟩ := DataW.trod_int Tryz.underlying3 (hf 0 _ rfl)
    obtain ⟨s1, e1, _, m1⟩ := DataW.trod_string Tryz.underlying9 (hf 1 _ rfl)
    obtain ⟨s2, e2, _, m2⟩ := DataW.trod_string Tryz.underlying9 (hf 2 _ rfl)
    obtain ⟨s3, e3, _, m3⟩ := DataW.trod_string Tryz.underlying9 (hf 3 _ rfl)
    obtain ⟨s, A, c, e4, hr, hc⟩ := open_sh (hf 4 _ rfl)
    obtain ⟨n5, e5, _⟩ := DataW.trod_int Tryz.underlying3 (hf 5 _ rfl)
    obtain ⟨A2, c2, l, e6, hr2, hc2⟩ := open_deps (hf 6 _ rfl)
    obtain ⟨n7, e7, _⟩ := DataW.trod_int Tryz.underlying3 (hf 7 _ rfl)
    obtain ⟨b8, e8, _⟩ := DataW.trod_bool Tryz.underlying4 (hf 8 _ rfl)
    obtain ⟨n9, e9, _⟩ := DataW.trod_int Tryz.underlying3 (hf 9 _ rfl)
    obtain ⟨n10, e10, _⟩ := DataW.trod_int Tryz.underlying3 (hf 10 _ rfl)
    obtain ⟨n11, e11, _⟩ := DataW.trod_int Tryz.underlying3 (hf 11 _ rfl)
    obtain ⟨n12, e12, _⟩ := DataW.trod_int Tryz.underlying3 (hf 12 _ rfl)
    obtain ⟨n13, e13, _⟩ := DataW.trod_int Tryz.underlying3 (hf 13 _ rfl)
    obtain ⟨n14, e14, _, m14⟩ := DataW.trod_int Tryz.underlying27 (hf 14 _ rfl)
    obtain ⟨n15, e15, _⟩ := DataW.trod_int Tryz.underlying3 (hf 15 _ rfl)
    obtain ⟨u, hu, hu2⟩ : ∃ s : Nat, n14 = (s : Int) ∧ s < M64 := by
      obtain ⟨h0, h1⟩ := Go.bounds_u64 m14
      exact ⟨n14.toNat, by omega, by rw [M64_is]; omega⟩
    subst hu
    unfold shC at e4
    simp [k1, k2, k3, k4, k5, k6, Value.cells] at e0 e1 e2 e3 e4 e5 e6 e7 e8 e9 e10 e11 e12 e13 e14 e15
    obtain ⟨f1, f2, f3, f4, f5⟩ := e4
    subst e0 e1 e2 e3 f1 f2 f3 f4 f5 e5 e6 e7 e8 e9 e10 e11 e12 e13 e14 e15
    exact ⟨⟨n0, s1, s2, s3, s, n5, l, n7, b8, n9, n10, n11, n12, n13, u, n15⟩, A, A2, c, c2, rfl, hr, hr2, hc, hc2, ⟨m1, m2, m3⟩, hu2⟩
end
end Go.Proofs.YtmkmmggimokagaaGreatDoor
