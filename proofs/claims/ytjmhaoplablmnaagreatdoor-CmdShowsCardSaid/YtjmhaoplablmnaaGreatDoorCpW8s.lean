/- Layer 8: a field put into a command. -/
import Derived.Test.YtjmhaoplablmnaaGreatDoorP4s
import Derived.Deep.RegionLaw
namespace Go.Proofs.YtjmhaoplablmnaaGreatDoor
set_option linter.unusedVariables false
set_option linter.unusedSimpArgs false
open Go.RowKit
theorem z_pair (w : World) : (zeroValue 124).run Tryz.prog w = .ok (.agg #[.int .i64 0, .int .i64 0]) w := by kernel_rfl
theorem z_rng (w : World) : (zeroValue 126).run Tryz.prog w = .ok (.agg #[.int .i64 0, .int .i64 0]) w := by kernel_rfl
theorem z_text (w : World) : (zeroValue 127).run Tryz.prog w = .ok (.string ⟨#[]⟩) w := by kernel_rfl
def asP : Vl → Int × Int × Bool | .pair a b => (a, b, true) | _ => (0, 0, false)
def asR : Vl → Int × Int × Bool | .rng a b => (a, b, true) | _ => (0, 0, false)
def asT : Vl → ByteArray × Bool | .text s => (s, true) | _ => (⟨#[]⟩, false)
theorem as_pair (v : Vl) (w : World) : (Instr.typeAssert (vlV v) 71 124 true).run Tryz.prog w = .ok (.tuple #[.agg #[.int .i64 (asP v).1, .int .i64 (asP v).2.1], .bool (asP v).2.2]) w := by
  cases v <;> simp [vlV, asP, Instr.typeAssert, go_sem, Tryz.underlying124, z_pair]
theorem as_rng (v : Vl) (w : World) : (Instr.typeAssert (vlV v) 71 126 true).run Tryz.prog w = .ok (.tuple #[.agg #[.int .i64 (asR v).1, .int .i64 (asR v).2.1], .bool (asR v).2.2]) w := by
  cases v <;> simp [vlV, asR, Instr.typeAssert, go_sem, Tryz.underlying126, z_rng]
theorem as_text (v : Vl) (w : World) : (Instr.typeAssert (vlV v) 71 127 true).run Tryz.prog w = .ok (.tuple #[.string (asT v).1, .bool (asT v).2]) w := by
  cases v <;> simp [vlV, asT, Instr.typeAssert, go_sem, Tryz.underlying127, z_text]
theorem as_count1 (n : Int) (w : World) : (Instr.typeAssert (.iface 119 (.int .i64 n)) 71 119 false).run Tryz.prog w = .ok (.int .i64 n) w := by
  simp [Instr.typeAssert, go_sem, Tryz.underlying119]
theorem step_a8 {w : World} {ops : Array Oper} {o : Oper} {a : Act} {K : Act → World → Prop} {Q : Exit → Act → World → Prop} {E : Prop} {s x : Operand}
    (hgd : o.guard = none) (ho : o.op = .call { callee := .builtin .append, args := #[s, x], argTypes := #[22, 22] })
    (base : Nat) {v : Value} {n : Nat} {xs : List Pr} (hs : a.eval s = v) (hown : Owns w base 82 2 v n (recs prC xs))
    {B : Nat} {A : Option Addr} {m c : Nat} {news : List Pr} (hx : a.eval x = .slice A m c) (hr : Reads w B 2 A m (recs prC news))
    (hlen : n + m ≤ 1000000) (hbase : base ≤ w.heap.size)
    (h : ∀ v' w', Owns w' base 82 2 v' (n + m) (recs prC (xs ++ news)) → AppKeeps base v w w' → (v'.ownBlock = v.ownBlock ∨ v'.ownBlock = some w.heap.size) → K (a.put o.dst v') w') :
    if Region.wanted o (yielded ops a.tmps) = true then Oper.wp Tryz.prog o a w K Q else E :=
  step_app hgd ho Tryz.underlying22 Tryz.infoA rfl (by omega) base hs hown hx hr (recs_one prC_one _) (by simp only [maxLen]; omega) (by omega) hbase (fun v' w' h1 => h v' w' (by rw [recs_append]; exact h1))
theorem step_d8 {w : World} {ops : Array Oper} {o : Oper} {a : Act} {K : Act → World → Prop} {Q : Exit → Act → World → Prop} {E : Prop} {s x : Operand}
    (hgd : o.guard = none) (ho : o.op = .call { callee := .builtin .append, args := #[s, x], argTypes := #[25, 25] })
    (base : Nat) {v : Value} {n : Nat} {xs : List Pr} (hs : a.eval s = v) (hown : Owns w base 50 2 v n (recs prC xs))
    {B : Nat} {A : Option Addr} {m c : Nat} {news : List Pr} (hx : a.eval x = .slice A m c) (hr : Reads w B 2 A m (recs prC news))
    (hlen : n + m ≤ 1000000) (hbase : base ≤ w.heap.size)
    (h : ∀ v' w', Owns w' base 50 2 v' (n + m) (recs prC (xs ++ news)) → AppKeeps base v w w' → (v'.ownBlock = v.ownBlock ∨ v'.ownBlock = some w.heap.size) → K (a.put o.dst v') w') :
    if Region.wanted o (yielded ops a.tmps) = true then Oper.wp Tryz.prog o a w K Q else E :=
  step_app hgd ho Tryz.underlying25 Tryz.infoD rfl (by omega) base hs hown hx hr (recs_one prC_one _) (by simp only [maxLen]; omega) (by omega) hbase (fun v' w' h1 => h v' w' (by rw [recs_append]; exact h1))
theorem lt_al8 {w : World} {b : Nat} {o : Obj} (h : b < w.heap.size) : b < (w.alloc o).drew.heap.size := by show b < (w.alloc o).heap.size; rw [World.size_alloc]; omega
theorem le_al8 {w : World} {b : Nat} {o : Obj} (h : b ≤ w.heap.size) : b ≤ (w.alloc o).drew.heap.size := by show b ≤ (w.alloc o).heap.size; rw [World.size_alloc]; omega
theorem AppKeeps.block_low8 {w w' : World} {base b : Nat} {v : Value} (hk : AppKeeps base v w w') (h1 : b < w.heap.size) (h2 : b < base) : w'.heap[b]? = w.heap[b]? := by
  obtain ⟨row, hg, hrow⟩ := hk
  exact hg.block b h1 (fun e => by have := (hrow _ e.symm).2; omega)
structure CmO (w : World) (C Bo : Nat) (x : Cm) (A : Option Addr) (c : Nat) (A2 : Option Addr) (c2 : Nat) : Prop where
  blk : w.heap[C]? = some (.cells (cmA x A c A2 c2) 27 (0, 0))
  alts : Owns w Bo 82 2 (.slice A x.shape.alts.length c) x.shape.alts.length (recs prC x.shape.alts)
  aft : Owns w Bo 50 2 (.slice A2 x.after.length c2) x.after.length (recs prC x.after)
  lt : C < Bo
  ne : ∀ a b, A = some a → A2 = some b → a.block ≠ b.block
  lo : (∀ a, A = some a → a.block < w.heap.size) ∧ (∀ a, A2 = some a → a.block < w.heap.size)
  hi : Bo ≤ w.heap.size
def PutK (w : World) (C : Nat) (A A2 : Option Addr) (w' : World) : Prop := Kb (fun b => b = C ∨ (∃ a, A = some a ∧ a.block = b) ∨ (∃ a, A2 = some a ∧ a.block = b)) w w'
def RetPut (w : World) (C Bo : Nat) (A A2 : Option Addr) (y : Cm) (e : Ending) (w' : World) : Prop :=
  e = .returned (.tuple #[]) ∧ ∃ A' c' A2' c2', CmO w' C Bo y A' c' A2' c2' ∧ PutK w C A A2 w' ∧ (∀ a', A' = some a' → w.heap.size ≤ a'.block ∨ ∃ a, A = some a ∧ a.block = a'.block) ∧ (∀ a', A2' = some a' → w.heap.size ≤ a'.block ∨ ∃ a, A2 = some a ∧ a.block = a'.block)
theorem own_ne8 {A : Option Addr} {n c g : Nat} (h : ∀ a, A = some a → a.block ≠ g) : (Value.slice A n c).ownBlock ≠ some g := by
  cases A with
  | none => simp [Value.ownBlock]
  | some a => intro e; exact h a rfl (by simpa [Value.ownBlock] using e)
theorem Owns.app8 {w w' : World} {B base : Nat} {e : TypeId} {size n : Nat} {v v2 : Value} {xs : List Value} (h : Owns w B e size v n xs) (hk : AppKeeps base v2 w w') (hne : ∀ g, v.ownBlock = some g → v2.ownBlock ≠ some g) : Owns w' B e size v n xs := by
  obtain ⟨row, hg, hr⟩ := hk
  exact h.keep fun g h1 _ h3 => hg.block g h3 (fun x => hne g h1 (hr _ x.symm).1)
theorem AppKeeps.kb8 {base : Nat} {v : Value} {w w' : World} (h : AppKeeps base v w w') : Kb (fun b => v.ownBlock = some b) w w' := by
  obtain ⟨row, hg, hr⟩ := h
  exact ⟨hg.os, hg.tape, hg.output, hg.size, fun b hb hn => hg.block b hb (fun e => hn (hr _ e.symm).1)⟩
theorem own_is8 {A : Option Addr} {n c b : Nat} (h : (Value.slice A n c).ownBlock = some b) : ∃ a, A = some a ∧ a.block = b := by
  cases A with
  | none => simp [Value.ownBlock] at h
  | some a => exact ⟨a, rfl, by simpa [Value.ownBlock] using h⟩
theorem cm_alts8 (x : Cm) (l : List Pr) (n : Nat) (hl : l.length = n) (A A5 A2 : Option Addr) (c c5 c2 : Nat) : (cmA x A c A2 c2).setIfInBounds 6 (.slice A5 n c5) = cmA { x with shape := { x.shape with alts := l } } A5 c5 A2 c2 := by subst hl; rfl
theorem cm_aft8 (x : Cm) (l : List Pr) (n : Nat) (hl : l.length = n) (A A5 A2 : Option Addr) (c c5 c2 : Nat) : (cmA x A c A2 c2).setIfInBounds 14 (.slice A5 n c5) = cmA { x with after := l } A c A5 c5 := by subst hl; rfl
theorem RetPut.alts {w W W1 w4 : World} {C Bo : Nat} {x : Cm} {A : Option Addr} {c : Nat} {A2 : Option Addr} {c2 : Nat} (hw : w.heap.size ≤ W.heap.size) (k : Kb (· = C) w W1) (hW : W.heap.size = W1.heap.size) (h : CmO W1 C Bo x A c A2 c2) (hA : ∀ a, A = some a → a.block < w.heap.size) (hA2 : ∀ a, A2 = some a → a.block < w.heap.size) {A5 : Option Addr} {c5 : Nat} {u : Pr}
    (o4 : Owns w4 Bo 82 2 (.slice A5 (x.shape.alts.length + 1) c5) (x.shape.alts.length + 1) (recs prC (x.shape.alts ++ [u]))) (k4 : AppKeeps Bo (.slice A x.shape.alts.length c) W1 w4)
    (hob : (Value.slice A5 (x.shape.alts.length + 1) c5).ownBlock = (Value.slice A x.shape.alts.length c).ownBlock ∨ (Value.slice A5 (x.shape.alts.length + 1) c5).ownBlock = some W.heap.size)
    (g4 : w4.heap[C]? = some (.cells (cmA x A c A2 c2) 27 (0, 0))) :
    RetPut w C Bo A A2 { x with shape := { x.shape with alts := x.shape.alts ++ [u] } } (.returned (.tuple #[])) (w4.setCell ⟨C, 6, none⟩ (.slice A5 (x.shape.alts.length + 1) c5)) := by
  have hl : (x.shape.alts ++ [u]).length = x.shape.alts.length + 1 := by simp
  have hnew : ∀ a', A5 = some a' → w.heap.size ≤ a'.block ∨ ∃ a, A = some a ∧ a.block = a'.block := by
    intro a' e
    rcases hob with e2 | e2
    · right
      exact own_is8 (n := x.shape.alts.length) (c := c) (by rw [← e2, e]; rfl)
    · left
      rw [e] at e2
      have : a'.block = W.heap.size := by simpa [Value.ownBlock] using e2
      omega
  refine ⟨rfl, A5, c5, A2, c2, ⟨?_, ?_, ?_, h.lt, ?_, ⟨?_, ?_⟩, ?_⟩, ?_, hnew, fun a ha => .inr ⟨a, ha, rfl⟩⟩
  · rw [← cm_alts8 x _ _ hl]; exact setCell_blk g4
  · show Owns _ Bo _ 2 (.slice A5 (x.shape.alts ++ [u]).length c5) (x.shape.alts ++ [u]).length _
    rw [hl]; exact o4.setBelow (p := ⟨C, 6, none⟩) h.lt _
  · refine (h.aft.app8 k4 ?_).setBelow (p := ⟨C, 6, none⟩) h.lt _
    intro g hg
    obtain ⟨b, hb, e⟩ := own_is8 hg
    exact own_ne8 (fun a ha => by rw [← e]; exact h.ne a b ha hb)
  · intro a b ha hb
    rcases hnew a ha with h1 | ⟨a0, h1, h2⟩
    · have := hA2 b hb; omega
    · rw [← h2]; exact h.ne a0 b h1 hb
  · intro a ha
    have hs : (w4.setCell ⟨C, 6, none⟩ (.slice A5 (x.shape.alts.length + 1) c5)).heap.size = w4.heap.size := by simp [World.setCell]
    rw [hs]
    rcases o4.at_ (by omega) with ⟨g, c', e, h1, h2, _⟩
    injection e with e1 e2 e3
    rw [ha] at e1
    injection e1 with e1
    rw [e1]; exact h2
  · intro a ha
    have hs : (w4.setCell ⟨C, 6, none⟩ (.slice A5 (x.shape.alts.length + 1) c5)).heap.size = w4.heap.size := by simp [World.setCell]
    rw [hs]
    have := h.lo.2 a ha
    have := k4.hsize
    omega
  · have hs : (w4.setCell ⟨C, 6, none⟩ (.slice A5 (x.shape.alts.length + 1) c5)).heap.size = w4.heap.size := by simp [World.setCell]
    rw [hs]
    have := h.hi
    have := k4.hsize
    omega
  · exact Kb.set_ (S := fun b => b = C ∨ (∃ a, A = some a ∧ a.block = b) ∨ (∃ a, A2 = some a ∧ a.block = b)) ((k.mono (fun _ x => .inl x)).trans (k4.kb8.mono (fun b hb => .inr (.inl (own_is8 hb))))) (p := ⟨C, 6, none⟩) (.inl rfl) _
theorem RetPut.aft {w W W1 w4 : World} {C Bo : Nat} {x : Cm} {A : Option Addr} {c : Nat} {A2 : Option Addr} {c2 : Nat} (hw : w.heap.size ≤ W.heap.size) (k : Kb (· = C) w W1) (hW : W.heap.size = W1.heap.size) (h : CmO W1 C Bo x A c A2 c2) (hA : ∀ a, A = some a → a.block < w.heap.size) (hA2 : ∀ a, A2 = some a → a.block < w.heap.size) {A5 : Option Addr} {c5 : Nat} {u : Pr}
    (o4 : Owns w4 Bo 50 2 (.slice A5 (x.after.length + 1) c5) (x.after.length + 1) (recs prC (x.after ++ [u]))) (k4 : AppKeeps Bo (.slice A2 x.after.length c2) W1 w4)
    (hob : (Value.slice A5 (x.after.length + 1) c5).ownBlock = (Value.slice A2 x.after.length c2).ownBlock ∨ (Value.slice A5 (x.after.length + 1) c5).ownBlock = some W.heap.size)
    (g4 : w4.heap[C]? = some (.cells (cmA x A c A2 c2) 27 (0, 0))) :
    RetPut w C Bo A A2 { x with after := x.after ++ [u] } (.returned (.tuple #[])) (w4.setCell ⟨C, 14, none⟩ (.slice A5 (x.after.length + 1) c5)) := by
  have hl : (x.after ++ [u]).length = x.after.length + 1 := by simp
  have hnew : ∀ a', A5 = some a' → w.heap.size ≤ a'.block ∨ ∃ a, A2 = some a ∧ a.block = a'.block := by
    intro a' e
    rcases hob with e2 | e2
    · right
      exact own_is8 (n := x.after.length) (c := c2) (by rw [← e2, e]; rfl)
    · left
      rw [e] at e2
      have : a'.block = W.heap.size := by simpa [Value.ownBlock] using e2
      omega
  have hs : (w4.setCell ⟨C, 14, none⟩ (.slice A5 (x.after.length + 1) c5)).heap.size = w4.heap.size := by simp [World.setCell]
  refine ⟨rfl, A, c, A5, c5, ⟨?_, ?_, ?_, h.lt, ?_, ⟨?_, ?_⟩, ?_⟩, ?_, fun a ha => .inr ⟨a, ha, rfl⟩, hnew⟩
  · rw [← cm_aft8 x _ _ hl A A5 A2 c c5 c2]; exact setCell_blk g4
  · refine (h.alts.app8 k4 ?_).setBelow (p := ⟨C, 14, none⟩) h.lt _
    intro g hg
    obtain ⟨b, hb, e⟩ := own_is8 hg
    exact own_ne8 (fun a ha => by rw [← e]; exact (h.ne b a hb ha).symm)
  · show Owns _ Bo _ 2 (.slice A5 (x.after ++ [u]).length c5) (x.after ++ [u]).length _
    rw [hl]; exact o4.setBelow (p := ⟨C, 14, none⟩) h.lt _
  · intro a b ha hb
    rcases hnew b hb with h1 | ⟨a0, h1, h2⟩
    · have := hA a ha; omega
    · rw [← h2]; exact h.ne a a0 ha h1
  · intro a ha
    rw [hs]
    have := h.lo.1 a ha
    have := k4.hsize
    omega
  · intro a ha
    rw [hs]
    rcases o4.at_ (by omega) with ⟨g, c', e, h1, h2, _⟩
    injection e with e1 e2 e3
    rw [ha] at e1
    injection e1 with e1
    rw [e1]; exact h2
  · rw [hs]
    have := h.hi
    have := k4.hsize
    omega
  · exact Kb.set_ (S := fun b => b = C ∨ (∃ a, A = some a ∧ a.block = b) ∨ (∃ a, A2 = some a ∧ a.block = b)) ((k.mono (fun _ x => .inl x)).trans (k4.kb8.mono (fun b hb => .inr (.inr (own_is8 hb))))) (p := ⟨C, 14, none⟩) (.inl rfl) _
theorem CmO.cell {w : World} {C Bo : Nat} {x : Cm} {A : Option Addr} {c : Nat} {A2 : Option Addr} {c2 : Nat} (h : CmO w C Bo x A c A2 c2) (k : Nat) : w.cell? ⟨C, k, none⟩ = (cmA x A c A2 c2)[k]? := cell_of_row w _ k _ _ _ h.blk
theorem CmO.to {w w' : World} {C Bo : Nat} {x y : Cm} {A : Option Addr} {c : Nat} {A2 : Option Addr} {c2 : Nat} (h : CmO w C Bo x A c A2 c2) (hb : w'.heap[C]? = some (.cells (cmA y A c A2 c2) 27 (0, 0))) (hk : Kb (· = C) w w') (e1 : y.shape.alts = x.shape.alts) (e2 : y.after = x.after) :
    CmO w' C Bo y A c A2 c2 :=
  ⟨hb, by rw [e1]; exact h.alts.kb hk (fun k hk => by have : k = C := hk; have := h.lt; omega), by rw [e2]; exact h.aft.kb hk (fun k hk => by have : k = C := hk; have := h.lt; omega), h.lt, h.ne, ⟨fun a ha => Nat.lt_of_lt_of_le (h.lo.1 a ha) hk.size, fun a ha => Nat.lt_of_lt_of_le (h.lo.2 a ha) hk.size⟩, Nat.le_trans h.hi hk.size⟩
theorem RetPut.one {w w' : World} {C Bo : Nat} {x y : Cm} {A : Option Addr} {c : Nat} {A2 : Option Addr} {c2 : Nat} (h : CmO w C Bo x A c A2 c2) (hb : w'.heap[C]? = some (.cells (cmA y A c A2 c2) 27 (0, 0))) (hk : Kb (· = C) w w') (e1 : y.shape.alts = x.shape.alts) (e2 : y.after = x.after) :
    RetPut w C Bo A A2 y (.returned (.tuple #[])) w' :=
  ⟨rfl, _, _, _, _, h.to hb hk e1 e2, hk.mono (fun _ x => .inl x), fun a ha => .inr ⟨a, ha, rfl⟩, fun a ha => .inr ⟨a, ha, rfl⟩⟩
set_option maxRecDepth 100000 in
theorem put_user (x : Cm) (f : ByteArray) (s : ByteArray) (C Bo : Nat) (A : Option Addr) (c : Nat) (A2 : Option Addr) (c2 : Nat) (w : World) (h : CmO w C Bo x A c A2 c2) (u0 : (f.toList == bU) = true) :
    Calls Tryz.prog 45 #[.pointer (some ⟨C, 0, none⟩), .agg #[.string f, vlV (.text s)]] w (RetPut w C Bo A A2 { x with user := s }) := by
  have t0 : (f.toList == [117, 115, 101, 114]) = true := u0
  have a1 := as_pair (.text s)
  have a2 := as_rng (.text s)
  have a3 := as_text (.text s)
  have a4 := as_count (.text s)
  simp only [vlV, asP, asR, asT, asC] at a1 a2 a3 a4 ⊢
  have c_3 : w.cell? ⟨C, 3, none⟩ = some (.string x.user) := (h.cell 3).trans rfl
  have hfz : ∀ j, w.frozen? ⟨C, j, none⟩ = false := fun j => fz_of h.blk
  have hlt := lt_of_block h.blk
  have H := Lib.hid h
  clear h u0
  go_enter Tryz.func45, Tryz.ntmps45
  go_wp2
  refine bodyPost_ret (results_none rfl _ _ _) rfl ?_
  exact RetPut.one H.out ((Below.heap_alloc _ _ _ (by simpa [World.setCell] using hlt)).trans (setCell_blk (k := 3) (H.out.blk))) ((Kb.set_ (S := (· = C)) (Kb.refl (· = C) w) (p := ⟨C, 3, none⟩) rfl _).alloc _) rfl rfl
set_option maxRecDepth 100000 in
theorem put_account (x : Cm) (f : ByteArray) (s : ByteArray) (C Bo : Nat) (A : Option Addr) (c : Nat) (A2 : Option Addr) (c2 : Nat) (w : World) (h : CmO w C Bo x A c A2 c2) (u0 : (f.toList == bU) = false) :
    Calls Tryz.prog 45 #[.pointer (some ⟨C, 0, none⟩), .agg #[.string f, vlV (.text s)]] w (RetPut w C Bo A A2 { x with account := s }) := by
  have t0 : (f.toList == [117, 115, 101, 114]) = false := u0
  have a1 := as_pair (.text s)
  have a2 := as_rng (.text s)
  have a3 := as_text (.text s)
  have a4 := as_count (.text s)
  simp only [vlV, asP, asR, asT, asC] at a1 a2 a3 a4 ⊢
  have c_4 : w.cell? ⟨C, 4, none⟩ = some (.string x.account) := (h.cell 4).trans rfl
  have hfz : ∀ j, w.frozen? ⟨C, j, none⟩ = false := fun j => fz_of h.blk
  have hlt := lt_of_block h.blk
  have H := Lib.hid h
  clear h u0
  go_enter Tryz.func45, Tryz.ntmps45
  go_wp2
  refine bodyPost_ret (results_none rfl _ _ _) rfl ?_
  exact RetPut.one H.out ((Below.heap_alloc _ _ _ (by simpa [World.setCell] using hlt)).trans (setCell_blk (k := 4) (H.out.blk))) ((Kb.set_ (S := (· = C)) (Kb.refl (· = C) w) (p := ⟨C, 4, none⟩) rfl _).alloc _) rfl rfl
set_option maxRecDepth 100000 in
theorem put_prio (x : Cm) (f : ByteArray) (n : Int) (C Bo : Nat) (A : Option Addr) (c : Nat) (A2 : Option Addr) (c2 : Nat) (w : World) (h : CmO w C Bo x A c A2 c2) (u0 : (f.toList == bPrio) = true) :
    Calls Tryz.prog 45 #[.pointer (some ⟨C, 0, none⟩), .agg #[.string f, vlV (.count n)]] w (RetPut w C Bo A A2 { x with prio := n, hasPrio := true }) := by
  have t0 : (f.toList == [112, 114, 105, 111]) = true := u0
  have a1 := as_pair (.count n)
  have a2 := as_rng (.count n)
  have a3 := as_text (.count n)
  have a4 := as_count (.count n)
  simp only [vlV, asP, asR, asT, asC] at a1 a2 a3 a4 ⊢
  have c_10 : w.cell? ⟨C, 10, none⟩ = some (.int .i64 x.prio) := (h.cell 10).trans rfl
  have c_11 : w.cell? ⟨C, 11, none⟩ = some (.bool x.hasPrio) := (h.cell 11).trans rfl
  have hfz : ∀ j, w.frozen? ⟨C, j, none⟩ = false := fun j => fz_of h.blk
  have hlt := lt_of_block h.blk
  have H := Lib.hid h
  clear h u0
  go_enter Tryz.func45, Tryz.ntmps45
  go_wp2
  refine bodyPost_end (results_none rfl _ _ _) rfl ?_
  exact RetPut.one H.out ((Below.heap_alloc _ _ _ (by simpa [World.setCell] using hlt)).trans (setCell_blk (k := 11) (setCell_blk (k := 10) (H.out.blk)))) ((Kb.set_ (S := (· = C)) (Kb.set_ (S := (· = C)) (Kb.refl (· = C) w) (p := ⟨C, 10, none⟩) rfl _) (p := ⟨C, 11, none⟩) rfl _).alloc _) rfl rfl
set_option maxRecDepth 100000 in
theorem put_from (x : Cm) (f : ByteArray) (n : Int) (C Bo : Nat) (A : Option Addr) (c : Nat) (A2 : Option Addr) (c2 : Nat) (w : World) (h : CmO w C Bo x A c A2 c2) (u0 : (f.toList == bPrio) = false) (u1 : (f.toList == bFrom) = true) :
    Calls Tryz.prog 45 #[.pointer (some ⟨C, 0, none⟩), .agg #[.string f, vlV (.count n)]] w (RetPut w C Bo A A2 { x with frm := n }) := by
  have t0 : (f.toList == [112, 114, 105, 111]) = false := u0
  have t1 : (f.toList == [102, 114, 111, 109]) = true := u1
  have a1 := as_pair (.count n)
  have a2 := as_rng (.count n)
  have a3 := as_text (.count n)
  have a4 := as_count (.count n)
  simp only [vlV, asP, asR, asT, asC] at a1 a2 a3 a4 ⊢
  have c_17 : w.cell? ⟨C, 17, none⟩ = some (.int .i64 x.frm) := (h.cell 17).trans rfl
  have hfz : ∀ j, w.frozen? ⟨C, j, none⟩ = false := fun j => fz_of h.blk
  have hlt := lt_of_block h.blk
  have H := Lib.hid h
  clear h u0 u1
  go_enter Tryz.func45, Tryz.ntmps45
  go_wp2
  refine bodyPost_end (results_none rfl _ _ _) rfl ?_
  exact RetPut.one H.out ((Below.heap_alloc _ _ _ (by simpa [World.setCell] using hlt)).trans (setCell_blk (k := 17) (H.out.blk))) ((Kb.set_ (S := (· = C)) (Kb.refl (· = C) w) (p := ⟨C, 17, none⟩) rfl _).alloc _) rfl rfl
set_option maxRecDepth 100000 in
theorem put_nodes (x : Cm) (f : ByteArray) (n : Int) (C Bo : Nat) (A : Option Addr) (c : Nat) (A2 : Option Addr) (c2 : Nat) (w : World) (h : CmO w C Bo x A c A2 c2) (u0 : (f.toList == bPrio) = false) (u1 : (f.toList == bFrom) = false) (u2 : (f.toList == bNodes) = true) :
    Calls Tryz.prog 45 #[.pointer (some ⟨C, 0, none⟩), .agg #[.string f, vlV (.count n)]] w (RetPut w C Bo A A2 { x with nodes := n }) := by
  have t0 : (f.toList == [112, 114, 105, 111]) = false := u0
  have t1 : (f.toList == [102, 114, 111, 109]) = false := u1
  have t2 : (f.toList == [110, 111, 100, 101, 115]) = true := u2
  have a1 := as_pair (.count n)
  have a2 := as_rng (.count n)
  have a3 := as_text (.count n)
  have a4 := as_count (.count n)
  simp only [vlV, asP, asR, asT, asC] at a1 a2 a3 a4 ⊢
  have c_16 : w.cell? ⟨C, 16, none⟩ = some (.int .i64 x.nodes) := (h.cell 16).trans rfl
  have hfz : ∀ j, w.frozen? ⟨C, j, none⟩ = false := fun j => fz_of h.blk
  have hlt := lt_of_block h.blk
  have H := Lib.hid h
  clear h u0 u1 u2
  go_enter Tryz.func45, Tryz.ntmps45
  go_wp2
  refine bodyPost_end (results_none rfl _ _ _) rfl ?_
  exact RetPut.one H.out ((Below.heap_alloc _ _ _ (by simpa [World.setCell] using hlt)).trans (setCell_blk (k := 16) (H.out.blk))) ((Kb.set_ (S := (· = C)) (Kb.refl (· = C) w) (p := ⟨C, 16, none⟩) rfl _).alloc _) rfl rfl
set_option maxRecDepth 100000 in
theorem put_time (x : Cm) (f : ByteArray) (n : Int) (C Bo : Nat) (A : Option Addr) (c : Nat) (A2 : Option Addr) (c2 : Nat) (w : World) (h : CmO w C Bo x A c A2 c2) (u0 : (f.toList == bPrio) = false) (u1 : (f.toList == bFrom) = false) (u2 : (f.toList == bNodes) = false) (u3 : (f.toList == bTime) = true) :
    Calls Tryz.prog 45 #[.pointer (some ⟨C, 0, none⟩), .agg #[.string f, vlV (.count n)]] w (RetPut w C Bo A A2 { x with time := n, hasTime := true }) := by
  have t0 : (f.toList == [112, 114, 105, 111]) = false := u0
  have t1 : (f.toList == [102, 114, 111, 109]) = false := u1
  have t2 : (f.toList == [110, 111, 100, 101, 115]) = false := u2
  have t3 : (f.toList == [116, 105, 109, 101]) = true := u3
  have a1 := as_pair (.count n)
  have a2 := as_rng (.count n)
  have a3 := as_text (.count n)
  have a4 := as_count (.count n)
  simp only [vlV, asP, asR, asT, asC] at a1 a2 a3 a4 ⊢
  have c_12 : w.cell? ⟨C, 12, none⟩ = some (.int .i64 x.time) := (h.cell 12).trans rfl
  have c_13 : w.cell? ⟨C, 13, none⟩ = some (.bool x.hasTime) := (h.cell 13).trans rfl
  have hfz : ∀ j, w.frozen? ⟨C, j, none⟩ = false := fun j => fz_of h.blk
  have hlt := lt_of_block h.blk
  have H := Lib.hid h
  clear h u0 u1 u2 u3
  go_enter Tryz.func45, Tryz.ntmps45
  go_wp2
  refine bodyPost_end (results_none rfl _ _ _) rfl ?_
  exact RetPut.one H.out ((Below.heap_alloc _ _ _ (by simpa [World.setCell] using hlt)).trans (setCell_blk (k := 13) (setCell_blk (k := 12) (H.out.blk)))) ((Kb.set_ (S := (· = C)) (Kb.set_ (S := (· = C)) (Kb.refl (· = C) w) (p := ⟨C, 12, none⟩) rfl _) (p := ⟨C, 13, none⟩) rfl _).alloc _) rfl rfl
set_option maxRecDepth 100000 in
theorem put_range (x : Cm) (f : ByteArray) (a b : Int) (C Bo : Nat) (A : Option Addr) (c : Nat) (A2 : Option Addr) (c2 : Nat) (w : World) (h : CmO w C Bo x A c A2 c2)  :
    Calls Tryz.prog 45 #[.pointer (some ⟨C, 0, none⟩), .agg #[.string f, vlV (.rng a b)]] w (RetPut w C Bo A A2 { x with shape := { x.shape with mn := a, mx := b } }) := by
  have a1 := as_pair (.rng a b)
  have a2 := as_rng (.rng a b)
  have a3 := as_text (.rng a b)
  have a4 := as_count (.rng a b)
  simp only [vlV, asP, asR, asT, asC] at a1 a2 a3 a4 ⊢
  have c_7 : w.cell? ⟨C, 7, none⟩ = some (.int .i64 x.shape.mn) := (h.cell 7).trans rfl
  have c_8 : w.cell? ⟨C, 8, none⟩ = some (.int .i64 x.shape.mx) := (h.cell 8).trans rfl
  have hfz : ∀ j, w.frozen? ⟨C, j, none⟩ = false := fun j => fz_of h.blk
  have hlt := lt_of_block h.blk
  have H := Lib.hid h
  clear h 
  go_enter Tryz.func45, Tryz.ntmps45
  go_upto_region 7 with (fail)
  go_region
  go_wp2
  refine bodyPost_ret (results_none rfl _ _ _) rfl ?_
  exact RetPut.one H.out ((Below.heap_alloc _ _ _ (by rw [World.size_alloc]; simp [World.setCell]; omega)).trans ((Below.heap_alloc _ _ _ (by simpa [World.setCell] using hlt)).trans (setCell_blk (k := 8) (setCell_blk (k := 7) H.out.blk)))) ((((Kb.set_ (S := (· = C)) (Kb.set_ (S := (· = C)) (Kb.refl (· = C) w) (p := ⟨C, 7, none⟩) rfl _) (p := ⟨C, 8, none⟩) rfl _).alloc _).alloc _).drew) rfl rfl
set_option maxRecDepth 100000 in
theorem put_pair (x : Cm) (f : ByteArray) (a b : Int) (C Bo : Nat) (A : Option Addr) (c : Nat) (A2 : Option Addr) (c2 : Nat) (w : World) (h : CmO w C Bo x A c A2 c2) (hn : x.shape.alts.length ≤ 100000) :
    Calls Tryz.prog 45 #[.pointer (some ⟨C, 0, none⟩), .agg #[.string f, vlV (.pair a b)]] w (RetPut w C Bo A A2 { x with shape := { x.shape with alts := x.shape.alts ++ [(a, b)] } }) := by
  have a1 := as_pair (.pair a b)
  have a2 := as_rng (.pair a b)
  have a3 := as_text (.pair a b)
  have a4 := as_count (.pair a b)
  simp only [vlV, asP, asR, asT, asC] at a1 a2 a3 a4 ⊢
  have c_6 : w.cell? ⟨C, 6, none⟩ = some (.slice A x.shape.alts.length c) := (h.cell 6).trans rfl
  have hfz : ∀ j, w.frozen? ⟨C, j, none⟩ = false := fun j => fz_of h.blk
  have hlt := lt_of_block h.blk
  have H := Lib.hid h
  clear h 
  go_enter Tryz.func45, Tryz.ntmps45
  go_upto_region 4 with (fail)
  have hb2 : ((w.alloc (.cells #[.string f, .iface 124 (.agg #[.int .i64 a, .int .i64 b])] 73)).alloc (.cells #[.int .i64 a, .int .i64 b] 124)).heap[C]? = some (.cells (cmA x A c A2 c2) 27 (0, 0)) := (Below.heap_alloc _ _ _ (by rw [World.size_alloc]; omega)).trans ((Below.heap_alloc _ _ _ hlt).trans H.out.blk)
  have k2 : Kb (· = C) w ((w.alloc (.cells #[.string f, .iface 124 (.agg #[.int .i64 a, .int .i64 b])] 73)).alloc (.cells #[.int .i64 a, .int .i64 b] 124)) := ((Kb.refl _ w).alloc _).alloc _
  have hp2 := heap_alloc_new (w.alloc (.cells #[.string f, .iface 124 (.agg #[.int .i64 a, .int .i64 b])] 73)) (.cells #[.int .i64 a, .int .i64 b] 124)
  rw [World.size_alloc] at hp2
  have z2 : ((w.alloc (.cells #[.string f, .iface 124 (.agg #[.int .i64 a, .int .i64 b])] 73)).alloc (.cells #[.int .i64 a, .int .i64 b] 124)).heap.size = w.heap.size + 2 := by rw [World.size_alloc, World.size_alloc]
  obtain ⟨W2, hW2⟩ : ∃ W2, Hid (((w.alloc (.cells #[.string f, .iface 124 (.agg #[.int .i64 a, .int .i64 b])] 73)).alloc (.cells #[.int .i64 a, .int .i64 b] 124)) = W2) := ⟨_, rfl⟩
  rw [hW2.out] at hb2 k2 hp2 z2 ⊢
  have H2 := Lib.hid (H.out.to hb2 k2 rfl rfl)
  obtain ⟨pf, p0, p1⟩ := row2 hp2
  have d6 : W2.cell? ⟨C, 6, none⟩ = some (.slice A x.shape.alts.length c) := (H2.out.cell 6).trans rfl
  have hC2 : C < W2.heap.size := by omega
  have hP2 : w.heap.size + 1 < W2.heap.size := by omega
  have hCB := H2.out.lt
  have hBo : Bo ≤ W2.heap.size := H2.out.hi
  have e2 := (Below.heap_alloc (w.alloc (.cells #[.string f, .iface 124 (.agg #[.int .i64 a, .int .i64 b])] 73)) (.cells #[.int .i64 a, .int .i64 b] 124) w.heap.size (by rw [World.size_alloc]; omega)).trans (heap_alloc_new w _)
  rw [hW2.out] at e2
  obtain ⟨ef, e0, e1⟩ := row2 e2
  have hF2 : w.heap.size < W2.heap.size := by omega
  have HA := Lib.hid H.out.lo
  have hwW : w.heap.size ≤ W2.heap.size := by omega
  have K2 := Lib.hid k2
  clear hb2 hp2 k2 c_6 hfz z2
  go_region_law (refine step_a8 rfl rfl Bo rfl (H2.out.alts.alloc _) (news := [(a, b)]) rfl (Reads.madeRec W2 (a, b) _ (prC_len _)) (by omega) (le_al8 (by omega)) ?_; intro v4 w4 o4 k4 hob; obtain ⟨A5, c5, rfl, hc5, _⟩ := o4.slice; have g4 := (k4.block_low8 (b := C) (lt_al8 (by omega)) (by omega)).trans ((Below.heap_alloc _ _ _ (by omega)).trans H2.out.blk); have f4 : w4.frozen? ⟨C, 6, none⟩ = false := fz_of g4; have v4c : w4.cell? ⟨C, 6, none⟩ = some (.slice A x.shape.alts.length c) := (cell_of_row w4 _ 6 _ _ _ g4).trans rfl; have v4e : w4.cell? ⟨w.heap.size, 1, none⟩ = some (.iface 124 (.agg #[.int .i64 a, .int .i64 b])) := (k4.cell (p := ⟨w.heap.size, 1, none⟩) (lt_al8 hF2) (own_ne8 (fun q hq => Nat.ne_of_lt (HA.out.1 q hq)))).trans ((World.cell?_alloc_lt _ _ _ hF2).trans e1); have hl4 : w.heap.size < w4.heap.size := Nat.lt_of_lt_of_le (lt_al8 hF2) k4.hsize)
  all_goals go_wp2
  all_goals refine bodyPost_ret (results_none rfl _ _ _) rfl ?_
  all_goals exact RetPut.alts (W := (W2.alloc (.cells #[.int .i64 a, .int .i64 b] 82)).drew) (by rw [show ∀ v : World, v.drew.heap.size = v.heap.size from fun _ => rfl, World.size_alloc]; omega) ((K2.out.alloc _).drew) rfl (H2.out.to ((Below.heap_alloc _ _ _ hC2).trans H2.out.blk) (((Kb.refl (· = C) W2).alloc _).drew) rfl rfl) HA.out.1 HA.out.2 o4 k4 hob g4
set_option maxRecDepth 100000 in
theorem put_dep (x : Cm) (f : ByteArray) (n : Int) (C Bo : Nat) (A : Option Addr) (c : Nat) (A2 : Option Addr) (c2 : Nat) (w : World) (h : CmO w C Bo x A c A2 c2) (u0 : (f.toList == bPrio) = false) (u1 : (f.toList == bFrom) = false) (u2 : (f.toList == bNodes) = false) (u3 : (f.toList == bTime) = false) (hn : x.after.length ≤ 100000) :
    Calls Tryz.prog 45 #[.pointer (some ⟨C, 0, none⟩), .agg #[.string f, vlV (.count n)]] w (RetPut w C Bo A A2 { x with after := x.after ++ [(idxS depsL f, n)] }) := by
  have t0 : (f.toList == [112, 114, 105, 111]) = false := u0
  have t1 : (f.toList == [102, 114, 111, 109]) = false := u1
  have t2 : (f.toList == [110, 111, 100, 101, 115]) = false := u2
  have t3 : (f.toList == [116, 105, 109, 101]) = false := u3
  have a1 := as_pair (.count n)
  have a2 := as_rng (.count n)
  have a3 := as_text (.count n)
  have a4 := as_count (.count n)
  simp only [vlV, asP, asR, asT, asC] at a1 a2 a3 a4 ⊢
  have c_14 : w.cell? ⟨C, 14, none⟩ = some (.slice A2 x.after.length c2) := (h.cell 14).trans rfl
  have hfz : ∀ j, w.frozen? ⟨C, j, none⟩ = false := fun j => fz_of h.blk
  have hlt := lt_of_block h.blk
  have H := Lib.hid h
  clear h u0 u1 u2 u3
  obtain ⟨hq, hhq⟩ : ∃ q, idxS depsL f = q := ⟨_, rfl⟩
  have hix := Lib.hid (index_s (some ⟨w.heap.size + 1, 0, none⟩) 4 4 _ depsL f _ (by have := reads_made (w.alloc (.cells #[.string f, .iface 119 (.int .i64 n)] 73)) depsL 9; rw [World.size_alloc w] at this; exact this) (by omega))
  rw [hhq] at hix ⊢
  have ac := as_count1 n
  have hb2 : ((w.alloc (.cells #[.string f, .iface 119 (.int .i64 n)] 73)).alloc (.cells (strs depsL).toArray 9)).heap[C]? = some (.cells (cmA x A c A2 c2) 27 (0, 0)) := (Below.heap_alloc _ _ _ (by rw [World.size_alloc]; omega)).trans ((Below.heap_alloc _ _ _ hlt).trans H.out.blk)
  have k2 : Kb (· = C) w ((w.alloc (.cells #[.string f, .iface 119 (.int .i64 n)] 73)).alloc (.cells (strs depsL).toArray 9)) := ((Kb.refl _ w).alloc _).alloc _
  have z2 : ((w.alloc (.cells #[.string f, .iface 119 (.int .i64 n)] 73)).alloc (.cells (strs depsL).toArray 9)).heap.size = w.heap.size + 2 := by rw [World.size_alloc, World.size_alloc]
  have e2 := (Below.heap_alloc (w.alloc (.cells #[.string f, .iface 119 (.int .i64 n)] 73)) (.cells (strs depsL).toArray 9) w.heap.size (by rw [World.size_alloc]; omega)).trans (heap_alloc_new w _)
  obtain ⟨W2, hW2⟩ : ∃ W2, Hid (((w.alloc (.cells #[.string f, .iface 119 (.int .i64 n)] 73)).alloc (.cells (strs depsL).toArray 9)) = W2) := ⟨_, rfl⟩
  rw [hW2.out] at hb2 k2 z2 e2 hix
  have H2 := Lib.hid (H.out.to hb2 k2 rfl rfl)
  have d14 : W2.cell? ⟨C, 14, none⟩ = some (.slice A2 x.after.length c2) := (H2.out.cell 14).trans rfl
  have hC2 : C < W2.heap.size := by omega
  have hCB := H2.out.lt
  have hBo : Bo ≤ W2.heap.size := H2.out.hi
  obtain ⟨ef, e0, e1⟩ := row2 e2
  have hF2 : w.heap.size < W2.heap.size := by omega
  have HA := Lib.hid H.out.lo
  have hwW : w.heap.size ≤ W2.heap.size := by omega
  have K2 := Lib.hid k2
  clear hb2 k2 c_14 z2 e2
  go_enter Tryz.func45, Tryz.ntmps45
  go_wp2_with (fail)
  rw [show (Obj.cells #[.string ⟨#[]⟩, .string ⟨#[97, 110, 121]⟩, .string ⟨#[103, 111, 111, 100]⟩, .string ⟨#[98, 97, 100]⟩] 9) = .cells (strs depsL).toArray 9 from rfl, hW2.out]
  refine hix.out.mono ?_; rintro e w3 ⟨rfl, rfl⟩
  clear hfz
  go_upto_region 18 with (fail)
  go_region_law (refine step_d8 rfl rfl Bo rfl (H2.out.aft.alloc _) (news := [(hq, n)]) rfl (Reads.madeRec W2 (hq, n) _ (prC_len _)) (by omega) (le_al8 (by omega)) ?_; intro v4 w4 o4 k4 hob; obtain ⟨A5, c5, rfl, hc5, _⟩ := o4.slice; have g4 := (k4.block_low8 (b := C) (lt_al8 (by omega)) (by omega)).trans ((Below.heap_alloc _ _ _ (by omega)).trans H2.out.blk); have f4 : w4.frozen? ⟨C, 14, none⟩ = false := fz_of g4; have v4c : w4.cell? ⟨C, 14, none⟩ = some (.slice A2 x.after.length c2) := (cell_of_row w4 _ 14 _ _ _ g4).trans rfl)
  all_goals go_wp2
  all_goals refine bodyPost_end (results_none rfl _ _ _) rfl ?_
  all_goals exact RetPut.aft (W := (W2.alloc (.cells #[.int .i64 hq, .int .i64 n] 50)).drew) (by rw [show ∀ v : World, v.drew.heap.size = v.heap.size from fun _ => rfl, World.size_alloc]; omega) ((K2.out.alloc _).drew) rfl (H2.out.to ((Below.heap_alloc _ _ _ hC2).trans H2.out.blk) (((Kb.refl (· = C) W2).alloc _).drew) rfl rfl) HA.out.1 HA.out.2 o4 k4 hob g4
theorem put_any (x : Cm) (f : Fd) (C Bo : Nat) (A : Option Addr) (c : Nat) (A2 : Option Addr) (c2 : Nat) (w : World) (h : CmO w C Bo x A c A2 c2) (hv : f.2 ≠ .none) (hn : x.shape.alts.length ≤ 100000) (hn2 : x.after.length ≤ 100000) :
    Calls Tryz.prog 45 #[.pointer (some ⟨C, 0, none⟩), .agg #[.string f.1, vlV f.2]] w (RetPut w C Bo A A2 (putC x f)) := by
  obtain ⟨f, v⟩ := f
  dsimp only at hv ⊢
  unfold putC
  dsimp only
  cases v with
  | none => exact absurd rfl hv
  | text s =>
    dsimp only
    cases hu : f.toList == bU with
    | true => exact put_user x f s C Bo A c A2 c2 w h hu
    | false => exact put_account x f s C Bo A c A2 c2 w h hu
  | pair a b => exact put_pair x f a b C Bo A c A2 c2 w h hn
  | rng a b => exact put_range x f a b C Bo A c A2 c2 w h
  | count n =>
    dsimp only
    cases h0 : f.toList == bPrio
    case true => exact put_prio x f n C Bo A c A2 c2 w h h0
    cases h1 : f.toList == bFrom
    case true => exact put_from x f n C Bo A c A2 c2 w h h0 h1
    cases h2 : f.toList == bNodes
    case true => exact put_nodes x f n C Bo A c A2 c2 w h h0 h1 h2
    cases h3 : f.toList == bTime
    case true => exact put_time x f n C Bo A c A2 c2 w h h0 h1 h2 h3
    exact put_dep x f n C Bo A c A2 c2 w h h0 h1 h2 h3 hn2
end Go.Proofs.YtjmhaoplablmnaaGreatDoor
