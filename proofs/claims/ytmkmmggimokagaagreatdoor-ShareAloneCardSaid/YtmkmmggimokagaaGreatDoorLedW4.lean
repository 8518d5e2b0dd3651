/- Contracts of layer 17: clone, insert. -/
import Derived.Test.YtmkmmggimokagaaGreatDoorLedW3
import Derived.Test.YtmkmmggimokagaaGreatDoorK1
namespace Go.Proofs.YtmkmmggimokagaaGreatDoor
set_option linter.unusedVariables false
open Go.RowKit
theorem Tryz.infoU : (Tryz.prog.info? 48).map (fun i => (i.zero, i.size, i.bytes)) = some (some (.agg #[.string ⟨#[]⟩, .string ⟨#[]⟩, .int .i64 0, .int .i64 0]), 4, 48) := by kernel_rfl
theorem ucells_one (u : U) : ∀ v ∈ ucells u, v.oneCell' = true := by
  intro v hv
  simp only [ucells, List.mem_cons, List.not_mem_nil, or_false] at hv
  rcases hv with rfl | rfl | rfl | rfl <;> rfl
theorem app_u {w : World} {ops : Array Oper} {rest : List Oper} {o : Oper} {a : Act} {Q : Exit → Act → World → Prop} {s x : Operand}
    (hgd : o.guard = none) (ho : o.op = .call { callee := .builtin .append, args := #[s, x], argTypes := #[22, 22] })
    (base : Nat) {v : Value} {n : Nat} {xs : List U} (hs : a.eval s = v) (hown : Owns w base 48 4 v n (recs ucells xs))
    {B : Nat} {A : Option Addr} {m c : Nat} {news : List U} (hx : a.eval x = .slice A m c) (hr : Reads w B 4 A m (recs ucells news))
    (hlen : n + m ≤ 1000000) (hbase : base ≤ w.heap.size)
    (h : ∀ v' w', Owns w' base 48 4 v' (n + m) (recs ucells (xs ++ news)) → AppKeeps base v w w' → (v'.ownBlock = v.ownBlock ∨ v'.ownBlock = some w.heap.size) → wpList Tryz.prog ops Q rest (a.put o.dst v') w') : wpList Tryz.prog ops Q (o :: rest) a w :=
  wp_app hgd ho Tryz.underlying22 Tryz.infoU rfl (by omega) base hs hown hx hr (recs_one ucells_one _) (by simp only [maxLen]; omega) (by omega) hbase (fun v' w' h1 => h v' w' (by rw [recs_append]; exact h1))
theorem step_u {w : World} {ops : Array Oper} {o : Oper} {a : Act} {K : Act → World → Prop} {Q : Exit → Act → World → Prop} {E : Prop} {s x : Operand}
    (hgd : o.guard = none) (ho : o.op = .call { callee := .builtin .append, args := #[s, x], argTypes := #[22, 22] })
    (base : Nat) {v : Value} {n : Nat} {xs : List U} (hs : a.eval s = v) (hown : Owns w base 48 4 v n (recs ucells xs))
    {B : Nat} {A : Option Addr} {m c : Nat} {news : List U} (hx : a.eval x = .slice A m c) (hr : Reads w B 4 A m (recs ucells news))
    (hlen : n + m ≤ 1000000) (hbase : base ≤ w.heap.size)
    (h : ∀ v' w', Owns w' base 48 4 v' (n + m) (recs ucells (xs ++ news)) → AppKeeps base v w w' → (v'.ownBlock = v.ownBlock ∨ v'.ownBlock = some w.heap.size) → K (a.put o.dst v') w') :
    if Region.wanted o (yielded ops a.tmps) = true then Oper.wp Tryz.prog o a w K Q else E :=
  step_app hgd ho Tryz.underlying22 Tryz.infoU rfl (by omega) base hs hown hx hr (recs_one ucells_one _) (by simp only [maxLen]; omega) (by omega) hbase (fun v' w' h1 => h v' w' (by rw [recs_append]; exact h1))
theorem Reads.prefix_ {w : World} {B n : Nat} {A : Option Addr} {l : List U} (h : Reads w B 4 A n (recs ucells l)) {k : Nat} (hk : k ≤ n) : Reads w B 4 A k (recs ucells (l.take k)) := by
  refine ⟨?_, fun h0 => ?_⟩
  · rw [recs_take ucells_len, List.length_take, h.1]; omega
  · obtain ⟨ad, e, hb, hc⟩ := h.2 (by omega)
    refine ⟨ad, e, hb, fun j u hu => hc j u ?_⟩
    rw [recs_take ucells_len, List.getElem?_take] at hu
    split at hu
    · exact hu
    · cases hu
end Go.Proofs.YtmkmmggimokagaaGreatDoor
