/- Layer 9: Show walked. -/
import Derived.Test.YtplneobjdpdlhaaDoorNsS
import Derived.Test.YtplneobjdpdlhaaDoorNsR3
import Derived.Test.YtplneobjdpdlhaaDoorJn
namespace Go.Proofs.YtplneobjdpdlhaaDoor
set_option linter.unusedVariables false
open Go.RowKit
theorem Tryd.infoS : (Tryd.prog.info? 9).map (fun i => (i.zero, i.size, i.bytes)) = some (some (.string ⟨#[]⟩), 1, 16) := by kernel_rfl
def strs (l : List ByteArray) : List Value := l.map Value.string
theorem strs_app (a b : List ByteArray) : strs (a ++ b) = strs a ++ strs b := by simp [strs]
theorem strs_one (l : List ByteArray) : ∀ u ∈ strs l, u.oneCell' = true := by
  intro u hu
  simp only [strs, List.mem_map] at hu
  obtain ⟨x, _, rfl⟩ := hu
  rfl
theorem app_s {w : World} {ops : Array Oper} {rest : List Oper} {o : Oper} {a : Act} {Q : Exit → Act → World → Prop} {s x : Operand}
    (hgd : o.guard = none) (ho : o.op = .call { callee := .builtin .append, args := #[s, x], argTypes := #[43, 43] })
    (base : Nat) {v : Value} {n : Nat} {xs : List ByteArray} (hs : a.eval s = v) (hown : Owns w base 9 1 v n (strs xs))
    {B : Nat} {A : Option Addr} {m c : Nat} {news : List ByteArray} (hx : a.eval x = .slice A m c) (hr : Reads w B 1 A m (strs news))
    (hlen : n + m ≤ 1000000) (hbase : base ≤ w.heap.size)
    (h : ∀ v' w', Owns w' base 9 1 v' (n + m) (strs (xs ++ news)) → AppKeeps base v w w' → (v'.ownBlock = v.ownBlock ∨ v'.ownBlock = some w.heap.size) → wpList Tryd.prog ops Q rest (a.put o.dst v') w') : wpList Tryd.prog ops Q (o :: rest) a w :=
  wp_app hgd ho Tryd.underlying43 Tryd.infoS rfl (by omega) base hs hown hx hr (strs_one _) (by simp only [maxLen]; omega) (by omega) hbase (fun v' w' h1 => h v' w' (by rw [strs_app]; exact h1))
def segB (p : Nat × Nat) : ByteArray := ⟨(segT p).toArray⟩
theorem runs_len : ∀ l : List Nat, (runsL l).length ≤ l.length
  | [] => Nat.le_refl _
  | a :: l => by
    have := runs_len l
    rw [runsL]
    cases hr : runsL l with
    | nil => simp
    | cons p r => rw [hr] at this; dsimp only; split <;> simp at this ⊢ <;> omega
theorem segT_len {p : Nat × Nat} (h1 : p.1 < 100) (h2 : p.2 < 100) : (segT p).length ≤ 5 := by
  have a := decDigits_len h1
  have b := decDigits_len h2
  unfold segT
  split <;> simp <;> omega
theorem runs_lt : ∀ {l : List Nat}, (∀ i ∈ l, i < 64) → ∀ p ∈ runsL l, p.1 < 64 ∧ p.2 < 64
  | [], _, p, hp => by cases hp
  | a :: l, h, p, hp => by
    have ih := runs_lt (l := l) (fun i hi => h i (List.mem_cons_of_mem _ hi))
    have ha := h a (by simp)
    rw [runsL] at hp
    cases hr : runsL l with
    | nil => rw [hr] at hp; simp at hp; subst hp; exact ⟨ha, ha⟩
    | cons q r =>
      rw [hr] at hp ih
      have hq := ih q (by simp)
      dsimp only at hp
      split at hp
      · rcases List.mem_cons.1 hp with e | e
        · subst e; exact ⟨ha, hq.2⟩
        · exact ih p (List.mem_cons_of_mem _ e)
      · rcases List.mem_cons.1 hp with e | e
        · subst e; exact ⟨ha, ha⟩
        · exact ih p e
end Go.Proofs.YtplneobjdpdlhaaDoor
