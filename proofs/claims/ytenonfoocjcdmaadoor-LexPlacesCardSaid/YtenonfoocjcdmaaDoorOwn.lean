/- The call's own slices, those without room among them; append onto them. -/
import Derived.Test.YtenonfoocjcdmaaDoorApp
import Derived.Test.YtenonfoocjcdmaaDoorRec
namespace Go.Proofs.YtenonfoocjcdmaaDoor
set_option linter.unusedVariables false
open Go.RowKit
/-- the call's own slice: a row of its own, or a slice without room -/
def Owns (w : World) (B : Nat) (e : TypeId) (size : Nat) (v : Value) (n : Nat) (xs : List Value) : Prop :=
  w.ownsRow B e size v n xs ∨ ∃ A, v = .slice A 0 0 ∧ n = 0 ∧ xs = []
/-- what an append to v may have written -/
def AppKeeps (base : Nat) (v : Value) (w w' : World) : Prop := ∃ row, w.grownBy w' row ∧ ∀ g, row = some g → v.ownBlock = some g ∧ base ≤ g
section
variable {w w' : World} {B : Nat} {e : TypeId} {size n : Nat} {v : Value} {xs : List Value}
theorem Owns.nil {A : Option Addr} : Owns w B e size (.slice A 0 0) 0 [] := .inr ⟨A, rfl, rfl, rfl⟩
theorem Owns.len (h : Owns w B e size v n xs) : xs.length = n * size := by
  rcases h with h | ⟨A, rfl, rfl, rfl⟩
  · exact h.1
  · simp
theorem Owns.slice (h : Owns w B e size v n xs) : ∃ A c, v = .slice A n c ∧ n ≤ c ∧ c ≤ maxLen := by
  rcases h with h | ⟨A, rfl, rfl, rfl⟩
  · rcases h.2 with ⟨rfl, rfl⟩ | ⟨g, cap, cur, rfl, _, _, hc, hm, _⟩
    · exact ⟨none, 0, rfl, Nat.le_refl _, by simp [maxLen]⟩
    · exact ⟨_, cap, rfl, hc, hm⟩
  · exact ⟨A, 0, rfl, Nat.le_refl _, by simp [maxLen]⟩
theorem Owns.reads {A : Option Addr} {c : Nat} (h : Owns w B e size (.slice A n c) n xs) : Reads w w.heap.size size A n xs := by
  rcases h with h | ⟨A', h1, rfl, rfl⟩
  · exact Reads.of_own h
  · exact Reads.none_
theorem Owns.keep (h : Owns w B e size v n xs) (hk : ∀ g, v.ownBlock = some g → B ≤ g → g < w.heap.size → w'.heap[g]? = w.heap[g]?) : Owns w' B e size v n xs := by
  rcases h with h | h
  · refine .inl ⟨h.1, ?_⟩
    rcases h.2 with h0 | ⟨g, cap, cur, rfl, hbg, hg, rest⟩
    · exact .inl h0
    · have hlt : g < w.heap.size := by
        rcases Nat.lt_or_ge g w.heap.size with h' | h'
        · exact h'
        · rw [Array.getElem?_eq_none h'] at hg; cases hg
      exact .inr ⟨g, cap, cur, rfl, hbg, (hk g rfl hbg hlt).trans hg, rest⟩
  · exact .inr h
theorem Owns.below (h : Owns w B e size v n xs) (hb : Below w.heap.size w w') : Owns w' B e size v n xs := h.keep fun g _ _ hg => hb.block g hg
theorem Owns.alloc (h : Owns w B e size v n xs) (o : Obj) : Owns (w.alloc o) B e size v n xs := h.keep fun g _ _ hg => Below.heap_alloc _ _ _ hg
theorem Owns.drew (h : Owns w B e size v n xs) : Owns w.drew B e size v n xs := h.keep fun g _ _ hg => rfl
theorem Owns.drewN (h : Owns w B e size v n xs) (k : Nat) : Owns (w.drewN k) B e size v n xs := h.keep fun g _ _ hg => rfl
theorem Owns.setCell (h : Owns w B e size v n xs) {p : Addr} (hp : v.ownBlock ≠ some p.block) (u : Value) : Owns (w.setCell p u) B e size v n xs :=
  h.keep fun g hg _ _ => Below.heap_setCell _ _ _ _ (fun e1 => hp (by rw [hg, e1]))
theorem Owns.setBelow (h : Owns w B e size v n xs) {p : Addr} (hp : p.block < B) (u : Value) : Owns (w.setCell p u) B e size v n xs :=
  h.keep fun g hg hB _ => Below.heap_setCell _ _ _ _ (by omega)
theorem Owns.app {base : Nat} {v2 : Value} (h : Owns w B e size v n xs) (hk : AppKeeps base v2 w w') (hne : v.ownBlock ≠ v2.ownBlock) : Owns w' B e size v n xs := by
  obtain ⟨row, hg, hrow⟩ := hk
  exact h.keep fun g h1 _ hlt => hg.block g hlt (fun e1 => hne (by rw [h1, (hrow g e1.symm).1]))
theorem Owns.mono {B' : Nat} (h : Owns w B e size v n xs) (hB : B' ≤ B) : Owns w B' e size v n xs := by
  rcases h with h | h
  · refine .inl ⟨h.1, ?_⟩
    rcases h.2 with h0 | ⟨g, cap, cur, h1, hbg, rest⟩
    · exact .inl h0
    · exact .inr ⟨g, cap, cur, h1, by omega, rest⟩
  · exact .inr h
/-- a slice that is not empty lies in a block of its own -/
theorem Owns.at_ (h : Owns w B e size v n xs) (hn : 0 < n) : ∃ g c, v = .slice (some ⟨g, 0, none⟩) n c ∧ B ≤ g ∧ g < w.heap.size ∧ n ≤ c ∧ c ≤ maxLen ∧ (∀ (j : Nat) (u : Value), xs[j]? = some u → w.cell? ⟨g, j, none⟩ = some u) ∧ ∀ j, w.frozen? ⟨g, j, none⟩ = false := by
  rcases h with h | ⟨A, rfl, rfl, rfl⟩
  · rcases h.2 with ⟨rfl, rfl⟩ | ⟨g, cap, cur, rfl, hbg, hg, hc, hm, _⟩
    · exact absurd hn (by omega)
    · refine ⟨g, cap, rfl, hbg, ?_, hc, hm, fun j u hu => ?_, fun j => h.frozenAt j⟩
      · rcases Nat.lt_or_ge g w.heap.size with h' | h'
        · exact h'
        · rw [Array.getElem?_eq_none h'] at hg; cases hg
      · rw [h.cellAt j (by rw [← h.1]; exact (List.getElem?_eq_some_iff.1 hu).1), hu]
  · exact absurd hn (by omega)
theorem Owns.stored {g c : Nat} (h : Owns w B e size (.slice (some ⟨g, 0, none⟩) n c) n xs) (hn : 0 < n) (j : Nat) (u : Value) : Owns (w.setCell ⟨g, j, none⟩ u) B e size (.slice (some ⟨g, 0, none⟩) n c) n (xs.set j u) := by
  rcases h with h | ⟨A, h1, rfl, rfl⟩
  · exact .inl (h.stored j u).1
  · exact absurd hn (by omega)
theorem AppKeeps.below {B0 base : Nat} {w0 : World} (hk : AppKeeps base v w w') (hb : Below B0 w0 w) (h1 : B0 ≤ base) (h2 : B0 ≤ w.heap.size) : Below B0 w0 w' := by
  obtain ⟨row, hg, hrow⟩ := hk
  exact hb.grown hg h2 (fun k hk => Nat.le_trans h1 (hrow k hk).2)
theorem AppKeeps.reads {base B2 m s2 : Nat} {A : Option Addr} {ys : List Value} (hk : AppKeeps base v w w') (hr : Reads w B2 s2 A m ys) (h1 : B2 ≤ base) (h2 : B2 ≤ w.heap.size) : Reads w' B2 s2 A m ys := by
  obtain ⟨row, hg, hrow⟩ := hk
  exact hr.grown hg h2 (fun k hk => Nat.le_trans h1 (hrow k hk).2)
theorem AppKeeps.hsize {base : Nat} (hk : AppKeeps base v w w') : w.heap.size ≤ w'.heap.size := by
  obtain ⟨row, hg, hrow⟩ := hk
  exact hg.size
/-- a cell elsewhere reads as it did -/
theorem AppKeeps.cell {base : Nat} (hk : AppKeeps base v w w') {p : Addr} (h1 : p.block < w.heap.size) (h2 : v.ownBlock ≠ some p.block) : w'.cell? p = w.cell? p := by
  obtain ⟨row, hg, hrow⟩ := hk
  exact World.cell?_of_block (hg.block p.block h1 (fun e => h2 (hrow _ e.symm).1))
theorem AppKeeps.cell_low {base : Nat} (hk : AppKeeps base v w w') {p : Addr} (h1 : p.block < w.heap.size) (h2 : p.block < base) : w'.cell? p = w.cell? p := by
  obtain ⟨row, hg, hrow⟩ := hk
  exact World.cell?_of_block (hg.block p.block h1 (fun e => by have := (hrow _ e.symm).2; omega))
theorem AppKeeps.frozen_low {base : Nat} (hk : AppKeeps base v w w') {p : Addr} (h1 : p.block < w.heap.size) (h2 : p.block < base) : w'.frozen? p = w.frozen? p := by
  obtain ⟨row, hg, hrow⟩ := hk
  exact World.frozen?_of_block (hg.block p.block h1 (fun e => by have := (hrow _ e.symm).2; omega))
end
section
variable {P : Program} (w : World)
theorem run_append_owns (base : Nat) (t ty e : TypeId) (i : TypeInfo) (z : Value) (size bytes : Nat) (ht : P.underlying t = some (.slice e)) (hi : P.info? e = some i) (hz : i.zero = some z)
    (hsize : i.size = size) (hby : i.bytes = bytes) (hzs : z.cells.size = size) (hsz : 0 < size)
    (v : Value) (n : Nat) (xs : List Value) (hown : Owns w base e size v n xs)
    (B : Nat) (A : Option Addr) (m c : Nat) (news : List Value) (hr : Reads w B size A m news) (h1 : ∀ u ∈ news, u.oneCell' = true)
    (h63 : n + m ≤ maxLen) (hbytes : (n + m) * bytes ≤ 140737488355328) (hbase : base ≤ w.heap.size) :
    ∃ v' w', (Builtin.append_ #[t, t] ty #[v, .slice A m c]).run P w = .ok v' w' ∧ Owns w' base e size v' (n + m) (xs ++ news) ∧ AppKeeps base v w w' ∧
      (v'.ownBlock = v.ownBlock ∨ v'.ownBlock = some w.heap.size) := by
  rcases hown with hown | ⟨A0, rfl, rfl, rfl⟩
  · obtain ⟨v', w', h2, h3, h4, h5⟩ := run_append_any (P := P) w base t ty e i z size bytes ht hi hz hsize hby hzs hsz v n xs hown B A m c news hr h1 h63 hbytes hbase
    exact ⟨v', w', h2, .inl h3, ⟨_, h4, fun g hg => ⟨hg, (hown.lt g hg).1⟩⟩, h5⟩
  · rcases Nat.eq_zero_or_pos m with h0 | h0
    · subst h0
      have hn : news = [] := List.eq_nil_of_length_eq_zero (by simpa using hr.1)
      subst hn
      refine ⟨.slice A0 0 0, w, ?_, .inr ⟨A0, rfl, rfl, rfl⟩, ⟨none, World.grownBy.refl w _, fun g hg => by cases hg⟩, .inl rfl⟩
      rcases A with _ | ad
      · rcases A0 with _ | a0 <;> simp [Builtin.append_, run_underlying ht, sizeOf, typeInfo, hi, Builtin.lenOf, Builtin.firstCells, storeCells]
      · rcases A0 with _ | a0 <;> simp [Builtin.append_, run_underlying ht, sizeOf, typeInfo, hi, Builtin.lenOf, Builtin.firstCells, storeCells, loadCells, loadCellsFrom]
    · obtain ⟨ad, rfl, hb, hc⟩ := hr.2 h0
      rcases A0 with _ | a0
      · obtain ⟨v', w', h2, h3, h4, h5⟩ := run_append_any (P := P) w base t ty e i z size bytes ht hi hz hsize hby hzs hsz (.slice none 0 0) 0 [] ⟨by simp, .inl ⟨rfl, rfl⟩⟩ B (some ad) m c news hr h1 h63 hbytes hbase
        exact ⟨v', w', h2, .inl h3, ⟨_, h4, fun g hg => by cases hg⟩, h5⟩
      · subst hsize
        subst hby
        have hr2 := run_append_grow (P := P) w t ty e i z ht hi hz a0 0 0 [] (by simp) (by simp) ad m c news hr.1 hc (by omega) (by simp only [maxLen] at h63; omega) (growslice_fits (by omega) hbytes)
        refine ⟨_, _, hr2, .inl ⟨by simp [hr.1], .inr ⟨w.heap.size, _, _, rfl, hbase, heap_alloc_new w.drew _, grownCap_ge w (0 + m) 0 e, grownCap_le_maxLen w (0 + m) 0 e h63, ?_, ?_⟩⟩, ⟨none, ⟨rfl, rfl, rfl, by simp, fun k hk _ => Below.heap_alloc w.drew _ k hk⟩, fun g hg => by cases hg⟩, .inr rfl⟩
        · have hge := grownCap_ge w (0 + m) 0 e
          simp only [Array.size_append, List.size_toArray, size_zeroCells, hzs, hr.1, List.length_nil, Nat.zero_add, ← Nat.add_mul]
          congr 1
          simp only [Nat.zero_add] at hge
          omega
        · simp only [Array.toList_append, List.nil_append]
          rw [Nat.zero_add, ← hr.1]
          exact List.take_left
theorem wp_append_owns {o : Oper} {a : Act} {K : Act → World → Prop} {Q : Exit → Act → World → Prop} (s x : Operand) (t : TypeId)
    (ho : o.op = .call { callee := .builtin .append, args := #[s, x], argTypes := #[t, t] })
    (base : Nat) (e : TypeId) (i : TypeInfo) (z : Value) (size bytes : Nat) (ht : P.underlying t = some (.slice e)) (hi : P.info? e = some i) (hz : i.zero = some z)
    (hsize : i.size = size) (hby : i.bytes = bytes) (hzs : z.cells.size = size) (hsz : 0 < size)
    (v : Value) (n : Nat) (xs : List Value) (hs : a.eval s = v) (hown : Owns w base e size v n xs)
    (B : Nat) (A : Option Addr) (m c : Nat) (news : List Value) (hx : a.eval x = .slice A m c) (hr : Reads w B size A m news) (h1 : ∀ u ∈ news, u.oneCell' = true)
    (h63 : n + m ≤ maxLen) (hbytes : (n + m) * bytes ≤ 140737488355328) (hbase : base ≤ w.heap.size)
    (h : ∀ v' w', Owns w' base e size v' (n + m) (xs ++ news) → AppKeeps base v w w' → (v'.ownBlock = v.ownBlock ∨ v'.ownBlock = some w.heap.size) → K (a.put o.dst v') w') : o.wp P a w K Q := by
  obtain ⟨v', w', hrun, h2, h3, h4⟩ := run_append_owns (P := P) w base t o.type e i z size bytes ht hi hz hsize hby hzs hsz v n xs hown B A m c news hr h1 h63 hbytes hbase
  unfold Oper.wp execOp
  simp only [ho, resolve, invoke, builtin, Sem.run_bind, Sem.run_pure, Result.andThen_ok, List.map_toArray, List.map_cons, List.map_nil, hs, hx, hrun]
  exact h v' w' h2 h3 h4
theorem wpList_append_owns {ops : Array Oper} {rest : List Oper} {o : Oper} {a : Act} {Q : Exit → Act → World → Prop} (hgd : o.guard = none) (s x : Operand) (t : TypeId)
    (ho : o.op = .call { callee := .builtin .append, args := #[s, x], argTypes := #[t, t] })
    (base : Nat) (e : TypeId) (i : TypeInfo) (z : Value) (size bytes : Nat) (ht : P.underlying t = some (.slice e)) (hi : P.info? e = some i) (hz : i.zero = some z)
    (hsize : i.size = size) (hby : i.bytes = bytes) (hzs : z.cells.size = size) (hsz : 0 < size)
    (v : Value) (n : Nat) (xs : List Value) (hs : a.eval s = v) (hown : Owns w base e size v n xs)
    (B : Nat) (A : Option Addr) (m c : Nat) (news : List Value) (hx : a.eval x = .slice A m c) (hr : Reads w B size A m news) (h1 : ∀ u ∈ news, u.oneCell' = true)
    (h63 : n + m ≤ maxLen) (hbytes : (n + m) * bytes ≤ 140737488355328) (hbase : base ≤ w.heap.size)
    (h : ∀ v' w', Owns w' base e size v' (n + m) (xs ++ news) → AppKeeps base v w w' → (v'.ownBlock = v.ownBlock ∨ v'.ownBlock = some w.heap.size) → wpList P ops Q rest (a.put o.dst v') w') : wpList P ops Q (o :: rest) a w :=
  wpList_plain hgd fun _ hK => wp_append_owns w s x t ho base e i z size bytes ht hi hz hsize hby hzs hsz v n xs hs hown B A m c news hx hr h1 h63 hbytes hbase fun v' w' h2 h3 h4 => hK _ _ (h v' w' h2 h3 h4)
end
/-- append onto the call's own slice, at an element type's row of the table -/
theorem wp_app {w : World} {ops : Array Oper} {rest : List Oper} {o : Oper} {a : Act} {Q : Exit → Act → World → Prop} {s x : Operand} {t e : TypeId} {z : Value} {size bytes : Nat}
    (hgd : o.guard = none) (ho : o.op = .call { callee := .builtin .append, args := #[s, x], argTypes := #[t, t] })
    (ht : Tryd.prog.underlying t = some (.slice e)) (hinfo : (Tryd.prog.info? e).map (fun i => (i.zero, i.size, i.bytes)) = some (some z, size, bytes)) (hzs : z.cells.size = size) (hsz : 0 < size)
    (base : Nat) {v : Value} {n : Nat} {xs : List Value} (hs : a.eval s = v) (hown : Owns w base e size v n xs)
    {B : Nat} {A : Option Addr} {m c : Nat} {news : List Value} (hx : a.eval x = .slice A m c) (hr : Reads w B size A m news) (h1 : ∀ u ∈ news, u.oneCell' = true)
    (h63 : n + m ≤ maxLen) (hbytes : (n + m) * bytes ≤ 140737488355328) (hbase : base ≤ w.heap.size)
    (h : ∀ v' w', Owns w' base e size v' (n + m) (xs ++ news) → AppKeeps base v w w' → (v'.ownBlock = v.ownBlock ∨ v'.ownBlock = some w.heap.size) → wpList Tryd.prog ops Q rest (a.put o.dst v') w') : wpList Tryd.prog ops Q (o :: rest) a w := by
  obtain ⟨i0, hi0, hz0, hz1, hz2⟩ := info_parts hinfo
  exact wpList_append_owns w hgd s x _ ho base e i0 _ size bytes ht hi0 hz0 hz1 hz2 hzs hsz v n xs hs hown B A m c news hx hr h1 h63 hbytes hbase h
/-- the same, as a step of a region that draws its order -/
theorem step_app {w : World} {ops : Array Oper} {o : Oper} {a : Act} {K : Act → World → Prop} {Q : Exit → Act → World → Prop} {E : Prop} {s x : Operand} {t e : TypeId} {z : Value} {size bytes : Nat}
    (hgd : o.guard = none) (ho : o.op = .call { callee := .builtin .append, args := #[s, x], argTypes := #[t, t] })
    (ht : Tryd.prog.underlying t = some (.slice e)) (hinfo : (Tryd.prog.info? e).map (fun i => (i.zero, i.size, i.bytes)) = some (some z, size, bytes)) (hzs : z.cells.size = size) (hsz : 0 < size)
    (base : Nat) {v : Value} {n : Nat} {xs : List Value} (hs : a.eval s = v) (hown : Owns w base e size v n xs)
    {B : Nat} {A : Option Addr} {m c : Nat} {news : List Value} (hx : a.eval x = .slice A m c) (hr : Reads w B size A m news) (h1 : ∀ u ∈ news, u.oneCell' = true)
    (h63 : n + m ≤ maxLen) (hbytes : (n + m) * bytes ≤ 140737488355328) (hbase : base ≤ w.heap.size)
    (h : ∀ v' w', Owns w' base e size v' (n + m) (xs ++ news) → AppKeeps base v w w' → (v'.ownBlock = v.ownBlock ∨ v'.ownBlock = some w.heap.size) → K (a.put o.dst v') w') :
    if Region.wanted o (yielded ops a.tmps) = true then Oper.wp Tryd.prog o a w K Q else E := by
  obtain ⟨i0, hi0, hz0, hz1, hz2⟩ := info_parts hinfo
  have hw : Region.wanted o (yielded ops a.tmps) = true := by simp [Region.wanted, hgd]
  rw [if_pos hw]
  exact wp_append_owns w s x _ ho base e i0 _ size bytes ht hi0 hz0 hz1 hz2 hzs hsz v n xs hs hown B A m c news hx hr h1 h63 hbytes hbase h
/-- a block just made, read as a slice of elements of some cells each -/
theorem Reads.madeN (w : World) (l : List Value) (t : TypeId) {n size : Nat} (h : l.length = n * size) : Reads (w.alloc (.cells l.toArray t)) (w.heap.size + 1) size (some ⟨w.heap.size, 0, none⟩) n l := by
  refine ⟨h, fun _ => ⟨_, rfl, by simp, fun j u hu => ?_⟩⟩
  have h := cell_of_row (w.alloc (.cells l.toArray t)) w.heap.size j l.toArray t (0, 0) (heap_alloc_new w _)
  have e : (Addr.add ⟨w.heap.size, 0, none⟩ j) = ⟨w.heap.size, j, none⟩ := by unfold Addr.add; split <;> simp_all
  rw [e, h]; simpa using hu
theorem Reads.madeRec {α : Type} {enc : α → List Value} {size : Nat} (w : World) (x : α) (t : TypeId) (h : (enc x).length = size) : Reads (w.alloc (.cells (enc x).toArray t)) (w.heap.size + 1) size (some ⟨w.heap.size, 0, none⟩) 1 (recs enc [x]) := by
  rw [recs_single]; exact Reads.madeN w (enc x) t (by rw [h, Nat.one_mul])
theorem Owns.madeN (w : World) (l : List Value) (t : TypeId) {n size B : Nat} (h : l.length = n * size) (hn : n ≤ maxLen) (hB : B ≤ w.heap.size) : Owns (w.alloc (.cells l.toArray t)) B t size (.slice (some ⟨w.heap.size, 0, none⟩) n n) n l := by
  have h1 := World.ownsRow_lit (base := B) (e := t) (size := size) w l.toArray n hB hn (by simpa using h)
  exact .inl (by simpa using h1)
/-- a call hands back a slice of its own -/
def RetOwn (w : World) (e : TypeId) (size n : Nat) (xs : List Value) (en : Ending) (w' : World) : Prop :=
  ∃ v, en = .returned v ∧ Owns w' w.heap.size e size v n xs ∧ Below w.heap.size w w'
/-- .. and a number beside it -/
def RetOwnE (w : World) (e : TypeId) (size n : Nat) (xs : List Value) (er : Int) (en : Ending) (w' : World) : Prop :=
  ∃ v, en = .returned (.tuple #[v, .int .i64 er]) ∧ Owns w' w.heap.size e size v n xs ∧ Below w.heap.size w w'
/-- 'make(T, 0, c)' -/
theorem wp_make0 {w : World} {ops : Array Oper} {rest : List Oper} {o : Oper} {a : Act} {Q : Exit → Act → World → Prop} {t e : TypeId} {z : Value} {size bytes : Nat} {l k : Operand}
    (hgd : o.guard = none) (ho : o.op = .makeSlice t l k)
    (ht : Tryd.prog.underlying t = some (.slice e)) (hinfo : (Tryd.prog.info? e).map (fun i => (i.zero, i.size, i.bytes)) = some (some z, size, bytes))
    (hl : a.eval l = .int .i64 0) (c : Nat) (hc : a.eval k = .int .i64 (c : Int)) (hbytes : bytes * c ≤ 281474976710656) (h63 : c ≤ maxLen) (base : Nat) (hbase : base ≤ w.heap.size)
    (h : ∀ w', Owns w' base e size (.slice (some ⟨w.heap.size, 0, none⟩) 0 c) 0 [] → Below w.heap.size w w' → w'.heap.size = w.heap.size + 1 → wpList Tryd.prog ops Q rest (a.put o.dst (.slice (some ⟨w.heap.size, 0, none⟩) 0 c)) w') : wpList Tryd.prog ops Q (o :: rest) a w := by
  obtain ⟨i0, hi0, hz0, hz1, hz2⟩ := info_parts hinfo
  have hb' : (i0.bytes : Int) * (c : Int) ≤ 281474976710656 := by
    have h : ((i0.bytes * c : Nat) : Int) ≤ 281474976710656 := by rw [hz2]; omega
    rwa [Int.natCast_mul] at h
  have hr := run_make (P := Tryd.prog) w t e i0 z ht hi0 hz0 .i64 .i64 0 c (Int.le_refl _) (by omega) hb' (by simp only [maxLen] at h63; omega)
  simp only [Int.toNat_zero, Int.toNat_natCast] at hr
  refine wpList_plain hgd fun _ hK => ?_
  unfold Oper.wp execOp
  simp only [ho, hl, hc, Sem.run_bind, Sem.run_pure, Result.andThen_ok, hr]
  refine hK _ _ (h _ (.inl (World.ownsRow_made w _ c hbase h63 (by rw [← hz1]; exact size_madeCells _ _))) ((Below.refl _ _).alloc (Nat.le_refl _) _) (by simp))
end Go.Proofs.YtenonfoocjcdmaaDoor
