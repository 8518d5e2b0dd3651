/- Layer 14: turn walked: a job is changed, if something is so of it (printed by a program of my own). Layer 14: what acts do to a job in a block, walked (printed by a program of my own). -/
import Derived.Test.YtmkmmggimokagaaGreatDoorQ4
import Derived.Test.YtmkmmggimokagaaGreatDoorQ5
import Derived.BigRegion
namespace Go.Proofs.YtmkmmggimokagaaGreatDoor
set_option linter.unusedVariables false
open Go.RowKit
/-- a block is a job -/
def JbBlk (v : World) (p : Nat) (x : Jb) (A : Option Addr) (c : Nat) (A2 : Option Addr) (c2 : Nat) : Prop := v.heap[p]? = some (.cells (jbA x A c A2 c2) 29 (0, 0))
/-- below block N all is as it was, but for one row -/
structure Kp (N : Nat) (row : Option Nat) (v v' : World) : Prop where
  os : v'.os = v.os
  tape : v'.tape = v.tape
  output : v'.output = v.output
  size : v.heap.size ≤ v'.heap.size
  block : ∀ k, k < N → some k ≠ row → v'.heap[k]? = v.heap[k]?
theorem Kp.trans {N : Nat} {row : Option Nat} {a b c : World} (h : Kp N row a b) (k : Kp N row b c) : Kp N row a c :=
  ⟨k.os.trans h.os, k.tape.trans h.tape, k.output.trans h.output, Nat.le_trans h.size k.size, fun i hi hr => (k.block i hi hr).trans (h.block i hi hr)⟩
theorem Kp.of_below {N : Nat} {row : Option Nat} {a b : World} (h : Below N a b) : Kp N row a b := ⟨h.os, h.tape, h.output, h.size, fun i hi _ => h.block i hi⟩
theorem Kp.of_grown {N : Nat} {row : Option Nat} {a b : World} (h : a.grownBy b row) (hN : N ≤ a.heap.size) : Kp N row a b := ⟨h.os, h.tape, h.output, h.size, fun i hi hr => h.block i (Nat.lt_of_lt_of_le hi hN) hr⟩
theorem Kp.below {N B : Nat} {row : Option Nat} {a b : World} (h : Kp N row a b) (hN : B ≤ N) (hr : ∀ k, row = some k → B ≤ k) : Below B a b :=
  ⟨h.os, h.tape, h.output, h.size, fun i hi => h.block i (Nat.lt_of_lt_of_le hi hN) (fun e => by have := hr i e.symm; omega)⟩
theorem grown_of_below {v v' : World} {row : Option Nat} (h : Below v.heap.size v v') : v.grownBy v' row := ⟨h.os, h.tape, h.output, h.size, fun k hk _ => h.block k hk⟩
/-- what is asked of the function that asks: it tells m, and writes one row at most (P says what of that) -/
def MayB (g : Nat) (lb : Array Value) (x : Jb) (A : Option Addr) (c : Nat) (A2 : Option Addr) (c2 : Nat) (m : Int) (row : Option Nat) (w : World) (P : World → Prop) : Prop :=
  ∀ v, Below w.heap.size w v → Calls Tryz.prog g (#[jbV x A c A2 c2] ++ lb) v fun e v' => e = .returned (.int .i64 m) ∧ v.grownBy v' row ∧ P v'
/-- what the function that does leaves: the job y in the block -/
def DoP (v : World) (p lo : Nat) (y : Jb) (e : Ending) (v' : World) : Prop :=
  e = .returned (.tuple #[]) ∧ Below p v v' ∧ (∀ k, p < k → k < v.heap.size → v'.heap[k]? = v.heap[k]?) ∧ ∃ A c A2 c2, JbBlk v' p y A c A2 c2 ∧ JbAt v' v'.heap.size y A c A2 c2 ∧ JbOff lo y A A2
/-- what is asked of the function that does: it turns the job x in a block to y -/
def DoB (g : Nat) (lb : Array Value) (x y : Jb) (N : Nat) (P : World → Prop) : Prop :=
  ∀ (v : World) (p lo : Nat) (A A2 : Option Addr) (c c2 : Nat), N ≤ p → p < lo → lo ≤ v.heap.size → P v → JbBlk v p x A c A2 c2 → JbAt v v.heap.size x A c A2 c2 → JbOff lo x A A2 →
    Calls Tryz.prog g (#[.pointer (some ⟨p, 0, none⟩)] ++ lb) v (DoP v p lo y)
/-- a call hands back a job in new memory, and an error -/
def RetJE (row : Option Nat) (w : World) (q : Jb × Int) (e : Ending) (w' : World) : Prop :=
  ∃ A c A2 c2, e = .returned (.tuple #[jbV q.1 A c A2 c2, .int .i64 q.2]) ∧ JbAt w' w'.heap.size q.1 A c A2 c2 ∧ JbOff w.heap.size q.1 A A2 ∧ Kp w.heap.size row w w'
theorem noJ_at (w : World) (B lo : Nat) : JbAt w B noJ none 0 none 0 ∧ JbOff lo noJ none none :=
  ⟨⟨Reads.none_, Reads.none_, by decide, by decide, Nat.le_refl _, Nat.le_refl _⟩, fun h => absurd h (by decide), fun h => absurd h (by decide)⟩
theorem noJ_is : jbA noJ none 0 none 0 = #[.int .i64 0, .string ⟨#[]⟩, .string ⟨#[]⟩, .string ⟨#[]⟩, .int .i64 0, .slice none 0 0, .int .i64 0, .int .i64 0, .int .i64 0, .int .i64 0, .slice none 0 0, .int .i64 0, .bool false, .int .i64 0, .int .i64 0, .int .i64 0, .int .i64 0, .int .i64 0, .int .u64 0, .int .i64 0] := rfl
theorem retJE_no {row : Option Nat} {w w' : World} {er : Int} (hb : Kp w.heap.size row w w') : RetJE row w (noJ, er) (.returned (.tuple #[.agg #[.int .i64 0, .string ⟨#[]⟩, .string ⟨#[]⟩, .string ⟨#[]⟩, .int .i64 0, .slice none 0 0, .int .i64 0, .int .i64 0, .int .i64 0, .int .i64 0, .slice none 0 0, .int .i64 0, .bool false, .int .i64 0, .int .i64 0, .int .i64 0, .int .i64 0, .int .i64 0, .int .u64 0, .int .i64 0], .int .i64 er])) w' :=
  ⟨none, 0, none, 0, rfl, (noJ_at _ _ w.heap.size).1, (noJ_at w' 0 _).2, hb⟩
theorem row_only {w : World} {b : Nat} {cs : Array Value} : Only b w (w.setRow b cs) := Only.refl.row
theorem kp_row {N : Nat} {row : Option Nat} {w : World} {b : Nat} (hb : N ≤ b) (cs : Array Value) : Kp N row w (w.setRow b cs) := Kp.of_below (below_row (Below.refl _ _) hb cs)
theorem three_two (w : World) (a b : Obj) : ((w.alloc a).alloc b).heap[w.heap.size]? = some a ∧ ((w.alloc a).alloc b).heap[w.heap.size + 1]? = some b :=
  ⟨(Below.heap_alloc _ _ _ (by simp)).trans (heap_alloc_new w _), alloc2 w a b⟩
theorem do_end {v v' : World} {p lo : Nat} {x y : Jb} {A A2 : Option Addr} {c c2 : Nat} {cs : Array Value} (ho : Only p v v') (hb : v'.heap[p]? = some (.cells cs 29 (0, 0))) (hcs : cs = jbA y A c A2 c2)
    (hs : y.shape = x.shape) (ha : y.after = x.after) (hat : JbAt v v.heap.size x A c A2 c2) (hoff : JbOff lo x A A2) (hp : p < lo) : DoP v p lo y (.returned (.tuple #[])) v' := by
  refine ⟨rfl, ho.below, fun k hk _ => ho.block k (by omega), A, c, A2, c2, ?_, ?_, hoff.as hs ha⟩
  · unfold JbBlk; rw [hb, hcs]
  · have := (hat.only hoff hp ho).as hs ha
    rwa [← ho.size] at this
end Go.Proofs.YtmkmmggimokagaaGreatDoor
