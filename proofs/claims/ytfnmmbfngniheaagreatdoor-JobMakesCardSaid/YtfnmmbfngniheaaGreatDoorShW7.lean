/- Layer 7: slices.Clone walked. -/
import Derived.Test.YtfnmmbfngniheaaGreatDoorShW5
import Derived.Lib.SliceRun
namespace Go.Proofs.YtfnmmbfngniheaaGreatDoor
set_option linter.unusedVariables false
open Go.RowKit
theorem Tryz.infoA : (Tryz.prog.info? 114).map (fun i => (i.zero, i.size, i.bytes)) = some (some (.agg #[.int .i64 0, .int .i64 0]), 2, 16) := by kernel_rfl
theorem prC_one (a : Pr) : ∀ v ∈ prC a, v.oneCell' = true := by
  intro v hv
  simp only [prC, List.mem_cons, List.not_mem_nil, or_false] at hv
  rcases hv with rfl | rfl <;> rfl
theorem app_a {w : World} {ops : Array Oper} {rest : List Oper} {o : Oper} {a : Act} {Q : Exit → Act → World → Prop} {s x : Operand}
    (hgd : o.guard = none) (ho : o.op = .call { callee := .builtin .append, args := #[s, x], argTypes := #[22, 22] })
    (base : Nat) {v : Value} {n : Nat} {xs : List Pr} (hs : a.eval s = v) (hown : Owns w base 114 2 v n (recs prC xs))
    {B : Nat} {A : Option Addr} {m c : Nat} {news : List Pr} (hx : a.eval x = .slice A m c) (hr : Reads w B 2 A m (recs prC news))
    (hlen : n + m ≤ 1000000) (hbase : base ≤ w.heap.size)
    (h : ∀ v' w', Owns w' base 114 2 v' (n + m) (recs prC (xs ++ news)) → AppKeeps base v w w' → (v'.ownBlock = v.ownBlock ∨ v'.ownBlock = some w.heap.size) → wpList Tryz.prog ops Q rest (a.put o.dst v') w') : wpList Tryz.prog ops Q (o :: rest) a w :=
  wp_app hgd ho Tryz.underlying22 Tryz.infoA rfl (by omega) base hs hown hx hr (recs_one prC_one _) (by simp only [maxLen]; omega) (by omega) hbase (fun v' w' h1 => h v' w' (by rw [recs_append]; exact h1))
theorem eqA_nil (A : Option Addr) (n c : Nat) (v : World) : (binOp .eql 22 (.slice A n c) (.slice none 0 0)).run Tryz.prog v = .ok (.bool A.isNone) v := Lib.run_eql_slice_nil v 22 114 A n c 0 0 Tryz.underlying22
set_option maxHeartbeats 1000000 in
set_option maxRecDepth 100000 in
theorem cloneA_any (A : Option Addr) (n c B : Nat) (l : List Pr) (w : World) (hr : Reads w B 2 A n (recs prC l)) (hB : B ≤ w.heap.size) (hn : n ≤ 100000) :
    Calls Tryz.prog 131 #[.slice A n c] w (RetOwn w 114 2 n (recs prC l)) := by
  have hlen := hr.rec_len prC_len (by omega)
  have heq := fun v => eqA_nil A n c v
  cases hA : A with
  | none =>
    subst hA
    rw [show (none : Option Addr).isNone = true from rfl] at heq
    have h0 : n = 0 := by
      rcases Nat.eq_zero_or_pos n with h | h
      · exact h
      · obtain ⟨ad, e, _⟩ := hr.2 h; cases e
    have hl : l = [] := List.length_eq_zero_iff.1 (by rw [hlen.out, h0])
    subst h0 hl
    clear hr hlen
    go_enter Tryz.func131, Tryz.ntmps131
    go_wp2
    go_ret
    exact ⟨_, rfl, Owns.nil, Below.refl _ _⟩
  | some ad =>
    subst hA
    rw [show (some ad).isNone = false from rfl] at heq
    have hr2 := Lib.hid (hr.below ((Below.refl B w).alloc hB (.cells #[] 114)))
    have h0 := Lib.hid (Owns.madeN w [] 114 (n := 0) (size := 2) (B := w.heap.size) rfl (by simp [maxLen]) (Nat.le_refl _))
    have hb := (Below.refl w.heap.size w).alloc (Nat.le_refl _) (.cells #[] 114)
    go_enter Tryz.func131, Tryz.ntmps131
    go_wp2_with (at_builtin; refine app_a (xs := []) rfl rfl w.heap.size rfl h0.out rfl hr2.out (by omega) (by simp) ?_)
    intro v4 w4 o4 k4 _
    have kb4 := k4.below hb (Nat.le_refl _) (by simp)
    have O4 := Lib.hid o4
    clear k4 o4
    go_wp2
    go_ret
    exact ⟨_, rfl, O4.out, kb4⟩
end Go.Proofs.YtfnmmbfngniheaaGreatDoor
