/- Layer 5: tokens joined. Layer 5: the reference's Join. Arguments of layer 5's statements opened; a table of Go's library. -/
import Derived.Test.YtjmhaoplablmnaaGreatDoorK9
import Derived.Test.YtjmhaoplablmnaaGreatDoorJn
import Derived.Test.YtjmhaoplablmnaaGreatDoorK5
import Derived.Test.YtjmhaoplablmnaaGreatDoorLexR7
import Derived.Test.YtjmhaoplablmnaaGreatDoorK1
import Derived.Lib.SmallJoins
import Derived.LaidSub
import Derived.Lib.LaidTab
import Derived.OpenShut
import Derived.MakeChecks
namespace Go.Proofs.YtjmhaoplablmnaaGreatDoor
set_option linter.unusedVariables false
open Go.RowKit
def joinP (l : List Tk) : ByteArray × Int := if (l.all fun t => checkP t == 0) then (if (joinB l).length ≤ 400 then (⟨(joinB l).toArray⟩, 0) else (⟨#[]⟩, 3)) else (⟨#[]⟩, 50)
theorem joinB_le : ∀ {l : List Tk}, (∀ t ∈ l, checkP t = 0) → (joinB l).length ≤ 401 * l.length
  | [], _ => by simp [joinB, Lib.join_nil]
  | [t], h => by
    have h1 := (check_zero (h t (by simp))).1
    have e : joinB [t] = bl (writtenP t) := by unfold joinB; rw [List.map_singleton, Lib.join_one]
    rw [e, size_bl]; simp; omega
  | t :: u :: l, h => by
    have h1 := (check_zero (h t (by simp))).1
    have h2 := joinB_le (l := u :: l) (fun x hx => h x (List.mem_cons_of_mem _ hx))
    rw [joinB_cons, List.length_append, size_bl]
    simp only [List.length_cons] at h2 ⊢
    omega
theorem joinB_nil : joinB [] = [] := rfl
theorem joinB_one (t : Tk) : joinB [t] = bl (writtenP t) := by unfold joinB; rw [List.map_singleton, Lib.join_one]
theorem joinB_snoc : ∀ (l : List Tk) (t : Tk), l ≠ [] → joinB (l ++ [t]) = joinB l ++ 32 :: bl (writtenP t)
  | [], t, h => absurd rfl h
  | [x], t, _ => by show joinB (x :: t :: []) = _; rw [joinB_cons, joinB_one, joinB_one]
  | x :: y :: l, t, _ => by
    show joinB (x :: y :: (l ++ [t])) = _
    rw [joinB_cons, joinB_cons]
    have := joinB_snoc (y :: l) t (by simp)
    rw [List.cons_append] at this
    rw [this]; simp
theorem Tryz.infoS : (Tryz.prog.info? 9).map (fun i => (i.zero, i.size, i.bytes)) = some (some (.string ⟨#[]⟩), 1, 16) := by kernel_rfl
/-- strings as cells -/
def strs (l : List ByteArray) : List Value := l.map Value.string
theorem strs_app (a b : List ByteArray) : strs (a ++ b) = strs a ++ strs b := by simp [strs]
theorem strs_one (l : List ByteArray) : ∀ u ∈ strs l, u.oneCell' = true := by
  intro u hu
  simp only [strs, List.mem_map] at hu
  obtain ⟨x, _, rfl⟩ := hu
  rfl
theorem app_s {w : World} {ops : Array Oper} {rest : List Oper} {o : Oper} {a : Act} {Q : Exit → Act → World → Prop} {s x : Operand}
    (hgd : o.guard = none) (ho : o.op = .call { callee := .builtin .append, args := #[s, x], argTypes := #[45, 45] })
    (base : Nat) {v : Value} {n : Nat} {xs : List ByteArray} (hs : a.eval s = v) (hown : Owns w base 9 1 v n (strs xs))
    {B : Nat} {A : Option Addr} {m c : Nat} {news : List ByteArray} (hx : a.eval x = .slice A m c) (hr : Reads w B 1 A m (strs news))
    (hlen : n + m ≤ 1000000) (hbase : base ≤ w.heap.size)
    (h : ∀ v' w', Owns w' base 9 1 v' (n + m) (strs (xs ++ news)) → AppKeeps base v w w' → (v'.ownBlock = v.ownBlock ∨ v'.ownBlock = some w.heap.size) → wpList Tryz.prog ops Q rest (a.put o.dst v') w') : wpList Tryz.prog ops Q (o :: rest) a w :=
  wp_app hgd ho Tryz.underlying45 Tryz.infoS rfl (by omega) base hs hown hx hr (strs_one _) (by simp only [maxLen]; omega) (by omega) hbase (fun v' w' h1 => h v' w' (by rw [strs_app]; exact h1))
/-- a round's state: so many tokens have been written -/
def JoinInv (n B : Nat) (A : Option Addr) (l : List Tk) (w : World) (o i : Value) (wr : World) : Prop :=
  ∃ k : Nat, k ≤ n ∧ i = .int .i64 (k : Int) ∧ Owns wr w.heap.size 9 1 o k (strs ((l.take k).map writtenP)) ∧ Below w.heap.size w wr ∧ ∀ t ∈ l.take k, checkP t = 0
theorem take_snocT {α : Type} {l : List α} {k : Nat} {r : α} (h : l[k]? = some r) : l.take (k + 1) = l.take k ++ [r] := by rw [List.take_add_one, h]; rfl
/-- a round's state: so many tokens stand in the text -/
def RJoin (n B : Nat) (A : Option Addr) (l : List Tk) (w : World) (o i : Value) (wr : World) : Prop :=
  ∃ (k : Nat) (O : ByteArray), k ≤ n ∧ i = .int .i64 (k : Int) ∧ o = .string O ∧ Hid (O.data.toList = joinB (l.take k)) ∧ O.size ≤ 401 * k ∧ Below w.heap.size w wr ∧ ∀ t ∈ l.take k, checkP t = 0
theorem app_data (a b : ByteArray) : (a ++ b).data.toList = a.data.toList ++ b.data.toList := by rw [ByteArray.data_append, Array.toList_append]
end Go.Proofs.YtjmhaoplablmnaaGreatDoor
namespace Go.Proofs.YtjmhaoplablmnaaGreatDoor
set_option linter.unusedVariables false
open Go.RowKit Go.ChangeShapes Go.WideShapes Go.Deep
set_option maxRecDepth 100000 in
theorem pow_of {W : World} {l : List (String × DataW Unit)} (h : laidMetH Tryz.prog l W) (hl : (l.filter fun x => x.1 == "internal/strconv.uint64pow10") = [("internal/strconv.uint64pow10", Rows.laid_internal_strconv_uint64pow10)]) :
    Lib.TabIs Tryz.prog W "internal/strconv.uint64pow10" .u64 Lib.pow10Tab := by
  have h2 := h.filter (fun x => x.1 == "internal/strconv.uint64pow10")
  rw [hl, MakeChecks.laidMetH_plain _ _ _ (by kernel_rfl)] at h2
  exact Lib.tabIs_of_head (g := 0) (t := 178) (e := 160) (n := 20) (rest := []) (by kernel_rfl) (by kernel_rfl) Tryz.underlying178 Tryz.underlying160 (by kernel_rfl) (by kernel_rfl) h2
/-- a token of numbers of the machine -/
def TkWf (t : Tk) : Prop := t.text.size ≤ maxLen ∧ -9223372036854775808 ≤ t.num ∧ t.num ≤ 9223372036854775807
section
variable {H : Type} {enc0 : TypeId × Value → H} {w : World} {base : Nat} {held : Bool}
set_option maxRecDepth 100000 in
theorem open_tk {fuel : Nat} {cs : List Value} {x : DataW H × List MemPlace} (h : DataW.trod enc0 Tryz.prog w base (fun _ => true) held fuel 96 cs = some x) : ∃ t : Tk, cs = tkC t ∧ TkWf t := by
  obtain ⟨xs, n, _, _, hlen, hxl, hf⟩ := DataW.trod_struct Tryz.underlying96 h
  have hl : cs.length = 4 := hlen.trans (by kernel_rfl)
  match cs, hl, xs, hxl with
  | [c0, c1, c2, c3], _, [y0, y1, y2, y3], _ =>
    obtain ⟨n0, e0, _⟩ := DataW.trod_int Tryz.underlying3 (hf 0 _ rfl)
    obtain ⟨s1, e1, _, m1⟩ := DataW.trod_string Tryz.underlying9 (hf 1 _ rfl)
    obtain ⟨n2, e2, _, m2⟩ := DataW.trod_int Tryz.underlying3 (hf 2 _ rfl)
    obtain ⟨n3, e3, _⟩ := DataW.trod_int Tryz.underlying3 (hf 3 _ rfl)
    have k1 : Tryz.prog.cellsOf 9 = 1 := by kernel_rfl
    have k2 : Tryz.prog.cellsOf 3 = 1 := by kernel_rfl
    simp [k1, k2] at e0 e1 e2 e3
    subst e0; subst e1; subst e2; subst e3
    exact ⟨⟨n0, s1, n2, n3⟩, rfl, m1, (Go.bounds_i64 m2).1, (Go.bounds_i64 m2).2⟩
set_option maxRecDepth 100000 in
theorem open_tks {b0 : Nat} {r : Reach} {v : Value} {d : DataW H} {p : List MemPlace} (hv : Value.okWide Tryz.prog w r b0 62 v) (h : DataW.Trod enc0 Tryz.prog w base (fun _ => true) held 62 v d p) :
    ∃ (A : Option Addr) (n c : Nat) (l : List Tk), v = .slice A n c ∧ Reads w w.heap.size 4 A n (recs tkC l) ∧ n ≤ c ∧ n ≤ maxLen ∧ ∀ t ∈ l, TkWf t := by
  obtain ⟨fuel, hf⟩ := h
  obtain ⟨A0, n0, c0, rfl⟩ := okWide_slice Tryz.underlying62 hv
  obtain ⟨A, n, c, l, e, h1, h2, h3, h4⟩ := open_list (m := 4) Tryz.underlying62 (by kernel_rfl) (by omega) tkC_len (fun _ _ _ h => open_tk h) hf
  simp [Value.cells] at e
  obtain ⟨rfl, rfl, rfl⟩ := e
  exact ⟨_, _, _, l, rfl, h1, h2, h3, h4⟩
set_option maxRecDepth 100000 in
theorem open_tk1 {b0 : Nat} {r : Reach} {v : Value} {d : DataW H} {p : List MemPlace} (hv : Value.okWide Tryz.prog w r b0 96 v) (h : DataW.Trod enc0 Tryz.prog w base (fun _ => true) held 96 v d p) :
    ∃ t : Tk, v = tkV t ∧ TkWf t := by
  obtain ⟨cs, rfl, hsz⟩ := okWide_struct Tryz.underlying96 hv
  obtain ⟨fuel, hf⟩ := h
  obtain ⟨t, e, ht⟩ := open_tk hf
  refine ⟨t, ?_, ht⟩
  have e2 : cs.toList = tkC t := by simpa [Value.cells] using e
  obtain ⟨l⟩ := cs
  simp at e2
  subst e2
  rfl
end
end Go.Proofs.YtjmhaoplablmnaaGreatDoor
