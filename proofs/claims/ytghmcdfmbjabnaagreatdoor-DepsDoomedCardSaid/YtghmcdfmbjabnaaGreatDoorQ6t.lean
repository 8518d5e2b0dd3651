/- Bundle Q6. -/
import Derived.Test.YtghmcdfmbjabnaaGreatDoorQ4t
import Derived.Test.YtghmcdfmbjabnaaGreatDoorQ5t
import Derived.BigRegion
namespace Go.Proofs.YtghmcdfmbjabnaaGreatDoor
set_option linter.unusedSimpArgs false
set_option maxRecDepth 100000
set_option linter.unusedVariables false
open Go.RowKit
structure Kp (N : Nat) (row : Option Nat) (v v' : World) : Prop where
  os : v'.os = v.os
  tape : v'.tape = v.tape
  output : v'.output = v.output
  size : v.heap.size ≤ v'.heap.size
  block : ∀ k, k < N → some k ≠ row → v'.heap[k]? = v.heap[k]?
theorem Kp.trans {N : Nat} {row : Option Nat} {a b c : World} (h : Kp N row a b) (k : Kp N row b c) : Kp N row a c :=
  ⟨k.os.trans h.os, k.tape.trans h.tape, k.output.trans h.output, Nat.le_trans h.size k.size, fun i hi hr => (k.block i hi hr).trans (h.block i hi hr)⟩
theorem Kp.of_below {N : Nat} {row : Option Nat} {a b : World} (h : Below N a b) : Kp N row a b := ⟨h.os, h.tape, h.output, h.size, fun i hi _ => h.block i hi⟩
theorem Kp.below {N B : Nat} {row : Option Nat} {a b : World} (h : Kp N row a b) (hN : B ≤ N) (hr : ∀ k, row = some k → B ≤ k) : Below B a b :=
  ⟨h.os, h.tape, h.output, h.size, fun i hi => h.block i (Nat.lt_of_lt_of_le hi hN) (fun e => by have := hr i e.symm; omega)⟩
theorem noJ_at (w : World) (B lo : Nat) : JbAt w B noJ none 0 none 0 ∧ JbOff lo noJ none none :=
  ⟨⟨Reads.none_, Reads.none_, by decide, by decide, Nat.le_refl _, Nat.le_refl _⟩, fun h => absurd h (by decide), fun h => absurd h (by decide)⟩
theorem row_only {w : World} {b : Nat} {cs : Array Value} : Only b w (w.setRow b cs) := Only.refl.row
theorem three_two (w : World) (a b : Obj) : ((w.alloc a).alloc b).heap[w.heap.size]? = some a ∧ ((w.alloc a).alloc b).heap[w.heap.size + 1]? = some b :=
  ⟨(Below.heap_alloc _ _ _ (by simp)).trans (heap_alloc_new w _), alloc2 w a b⟩
end Go.Proofs.YtghmcdfmbjabnaaGreatDoor
