/- Contracts of layer 17: clone, insert. -/
import Derived.Test.YtlhogedcokcmhaaLedW3
import Derived.Test.YtlhogedcokcmhaaOwn
namespace Go.Proofs.Ytlhogedcokcmhaa
set_option linter.unusedVariables false
open Go.RowKit
theorem Try.infoU : (Try.prog.info? 42).map (fun i => (i.zero, i.size, i.bytes)) = some (some (.agg #[.string ⟨#[]⟩, .string ⟨#[]⟩, .int .i64 0, .int .i64 0]), 4, 48) := by kernel_rfl
theorem ucells_one (u : U) : ∀ v ∈ ucells u, v.oneCell' = true := by
  intro v hv
  simp only [ucells, List.mem_cons, List.not_mem_nil, or_false] at hv
  rcases hv with rfl | rfl | rfl | rfl <;> rfl
theorem app_u {w : World} {ops : Array Oper} {rest : List Oper} {o : Oper} {a : Act} {Q : Exit → Act → World → Prop} {s x : Operand}
    (hgd : o.guard = none) (ho : o.op = .call { callee := .builtin .append, args := #[s, x], argTypes := #[22, 22] })
    (base : Nat) {v : Value} {n : Nat} {xs : List U} (hs : a.eval s = v) (hown : Owns w base 42 4 v n (recs ucells xs))
    {B : Nat} {A : Option Addr} {m c : Nat} {news : List U} (hx : a.eval x = .slice A m c) (hr : Reads w B 4 A m (recs ucells news))
    (hlen : n + m ≤ 1000000) (hbase : base ≤ w.heap.size)
    (h : ∀ v' w', Owns w' base 42 4 v' (n + m) (recs ucells (xs ++ news)) → AppKeeps base v w w' → (v'.ownBlock = v.ownBlock ∨ v'.ownBlock = some w.heap.size) → wpList Try.prog ops Q rest (a.put o.dst v') w') : wpList Try.prog ops Q (o :: rest) a w :=
  wp_app hgd ho Try.underlying22 Try.infoU rfl (by omega) base hs hown hx hr (recs_one ucells_one _) (by simp only [maxLen]; omega) (by omega) hbase (fun v' w' h1 => h v' w' (by rw [recs_append]; exact h1))
theorem step_u {w : World} {ops : Array Oper} {o : Oper} {a : Act} {K : Act → World → Prop} {Q : Exit → Act → World → Prop} {E : Prop} {s x : Operand}
    (hgd : o.guard = none) (ho : o.op = .call { callee := .builtin .append, args := #[s, x], argTypes := #[22, 22] })
    (base : Nat) {v : Value} {n : Nat} {xs : List U} (hs : a.eval s = v) (hown : Owns w base 42 4 v n (recs ucells xs))
    {B : Nat} {A : Option Addr} {m c : Nat} {news : List U} (hx : a.eval x = .slice A m c) (hr : Reads w B 4 A m (recs ucells news))
    (hlen : n + m ≤ 1000000) (hbase : base ≤ w.heap.size)
    (h : ∀ v' w', Owns w' base 42 4 v' (n + m) (recs ucells (xs ++ news)) → AppKeeps base v w w' → (v'.ownBlock = v.ownBlock ∨ v'.ownBlock = some w.heap.size) → K (a.put o.dst v') w') :
    if Region.wanted o (yielded ops a.tmps) = true then Oper.wp Try.prog o a w K Q else E :=
  step_app hgd ho Try.underlying22 Try.infoU rfl (by omega) base hs hown hx hr (recs_one ucells_one _) (by simp only [maxLen]; omega) (by omega) hbase (fun v' w' h1 => h v' w' (by rw [recs_append]; exact h1))
theorem clone_any (A : Option Addr) (n c B : Nat) (l : List U) (w : World) (hn : n ≤ 1000) (hr : Reads w B 4 A n (recs ucells l)) (hB : B ≤ w.heap.size) :
    Calls Try.prog 23 #[.slice A n c] w (RetOwn w 42 4 n (recs ucells l)) := by
  rcases A with _ | ad
  · have h0 : n = 0 := by
      rcases Nat.eq_zero_or_pos n with h0 | h0
      · exact h0
      · obtain ⟨ad, h, _⟩ := hr.2 h0
        cases h
    subst h0
    have hl : recs ucells l = [] := List.eq_nil_of_length_eq_zero (by simpa using hr.1)
    have HL := Lib.hid hl
    clear hl
    have hnil : ∀ w' : World, (binOp .eql 22 (.slice none 0 c) (.slice none 0 0)).run Try.prog w' = .ok (.bool true) w' := fun w' => Lib.run_eql_slice_nil w' _ _ _ _ _ _ _ Try.underlying22
    go_enter Try.func23, Try.ntmps23
    go_wp2
    go_ret
    exact ⟨_, rfl, by rw [HL.out]; exact Owns.nil, Below.refl _ _⟩
  · have hnil : ∀ w' : World, (binOp .eql 22 (.slice (some ad) n c) (.slice none 0 0)).run Try.prog w' = .ok (.bool false) w' := fun w' => Lib.run_eql_slice_nil w' _ _ _ _ _ _ _ Try.underlying22
    go_enter Try.func23, Try.ntmps23
    have h0 : Owns (w.alloc (.cells #[] 42)) w.heap.size 42 4 (.slice (some ⟨w.heap.size, 0, none⟩) 0 0) 0 (recs ucells []) := Owns.madeN w [] _ (by simp) (by simp [maxLen]) (Nat.le_refl _)
    have hr2 := hr.alloc hB (.cells #[] 42)
    clear hr
    go_wp2_with (at_builtin; refine app_u rfl rfl w.heap.size rfl h0 rfl hr2 (by omega) (by simp) ?_)
    intro v' w' h1 h2 h3
    have hb := h2.below ((Below.refl w.heap.size w).alloc (Nat.le_refl _) _) (Nat.le_refl _) (by simp)
    clear hr2 h0 h2 h3
    have h1' : Owns w' w.heap.size 42 4 v' n (recs ucells l) := by simpa using h1
    clear h1
    go_wp2
    go_ret
    exact ⟨_, rfl, h1', hb⟩
theorem Reads.prefix_ {w : World} {B n : Nat} {A : Option Addr} {l : List U} (h : Reads w B 4 A n (recs ucells l)) {k : Nat} (hk : k ≤ n) : Reads w B 4 A k (recs ucells (l.take k)) := by
  refine ⟨?_, fun h0 => ?_⟩
  · rw [recs_take ucells_len, List.length_take, h.1]; omega
  · obtain ⟨ad, e, hb, hc⟩ := h.2 (by omega)
    refine ⟨ad, e, hb, fun j u hu => hc j u ?_⟩
    rw [recs_take ucells_len, List.getElem?_take] at hu
    split at hu
    · exact hu
    · cases hu
set_option maxHeartbeats 400000 in
theorem insert_any (A : Option Addr) (n c B k : Nat) (l : List U) (x : U) (w : World) (hn : n ≤ 1000) (hc : n ≤ c) (hk : k ≤ n) (hr : Reads w B 4 A n (recs ucells l)) (hB : B ≤ w.heap.size) :
    Calls Try.prog 24 #[.slice A n c, .int .i64 k, uv x] w (RetOwn w 42 4 (n + 1) (recs ucells (l.take k ++ x :: l.drop k))) := by
  have hlen := hr.rec_len ucells_len (by omega)
  have hr1 := hr.alloc hB (.cells #[.string x.user, .string x.acct, .int .i64 x.used, .int .i64 x.share] 42)
  clear hr
  go_enter Try.func24, Try.ntmps24
  go_wp2_with (first
    | (at_make
       refine wp_make0 rfl rfl Try.underlying22 Try.infoU rfl (n + 1) rfl (by omega) (by unfold maxLen; omega) (w.heap.size + 1) (by simp) ?_
       intro w1 o1 b1 z1
       simp only [World.size_alloc] at o1 b1 z1
       have hr2 := hr1.below (b1.mono (by omega))
       have x0 : w1.cell? ⟨w.heap.size, 0, none⟩ = some (.string x.user) := by rw [b1.cell (by simp)]; simp [go_sem]
       have x1 : w1.cell? ⟨w.heap.size, 1, none⟩ = some (.string x.acct) := by rw [b1.cell (by simp)]; simp [go_sem]
       have x2 : w1.cell? ⟨w.heap.size, 2, none⟩ = some (.int .i64 x.used) := by rw [b1.cell (by simp)]; simp [go_sem]
       have x3 : w1.cell? ⟨w.heap.size, 3, none⟩ = some (.int .i64 x.share) := by rw [b1.cell (by simp)]; simp [go_sem])
    | (at_builtin
       refine app_u (xs := []) (x := .tmp 15) rfl rfl (w.heap.size + 1) rfl o1 rfl (hr2.prefix_ hk) (by omega) (by omega) ?_
       intro v2 w2 o2 k2 _
       have z2 := k2.hsize
       have b2 := k2.below b1 (Nat.le_refl _) (by omega)
       have hr3 := k2.reads hr2 (by omega) (by omega)
       have y0 : w2.cell? ⟨w.heap.size, 0, none⟩ = some (.string x.user) := by rw [k2.cell_low (by simp; omega) (by simp)]; exact x0
       have y1 : w2.cell? ⟨w.heap.size, 1, none⟩ = some (.string x.acct) := by rw [k2.cell_low (by simp; omega) (by simp)]; exact x1
       have y2 : w2.cell? ⟨w.heap.size, 2, none⟩ = some (.int .i64 x.used) := by rw [k2.cell_low (by simp; omega) (by simp)]; exact x2
       have y3 : w2.cell? ⟨w.heap.size, 3, none⟩ = some (.int .i64 x.share) := by rw [k2.cell_low (by simp; omega) (by simp)]; exact x3
       have hr4 := Reads.madeRec w2 x 42 (ucells_len x)
       clear x0 x1 x2 x3 hr2 o1 k2)
    | (at_builtin
       refine app_u (x := .tmp 19) rfl rfl (w.heap.size + 1) rfl (o2.alloc _) rfl hr4 (by omega) (by simp; omega) ?_
       intro v3 w3 o3 k3 _
       have z3 := k3.hsize
       simp only [World.size_alloc] at z3
       have b3 := k3.below (b2.alloc (by omega) _) (Nat.le_refl _) (by simp; omega)
       have hr5 := ((k3.reads (hr3.alloc (by omega) _) (by omega) (by simp; omega)).cut hk hc)
       rw [← recs_drop ucells_len] at hr5
       clear hr3 hr4 o2 k3 y0 y1 y2 y3)
    | (at_builtin
       refine app_u (x := .tmp 24) rfl rfl (w.heap.size + 1) rfl o3 rfl hr5 (by omega) (by omega) ?_
       intro v4 w4 o4 k4 _
       have b4 := k4.below b3 (Nat.le_refl _) (by omega)
       clear hr5 o3 k4))
  all_goals
    go_ret
    have e1 : 0 + k + 1 + (n - k) = n + 1 := by omega
    refine ⟨_, rfl, ?_, ((Below.refl w.heap.size w).alloc (Nat.le_refl _) _).trans (b4.mono (by omega))⟩
    rw [e1] at o4
    have o5 := o4.mono (B' := w.heap.size) (by omega)
    simpa using o5
end Go.Proofs.Ytlhogedcokcmhaa
