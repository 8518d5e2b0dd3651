/- Layer 14: what acts ask of a job, walked (printed by a program of my own). Layer 14: what acts ask of a job, walked (printed by a program of my own). Layer 14: the acts walked (printed by a program of my own). Layer 14: the acts walked (printed by a program of my own). Layer 14: the acts walked (printed by a program of my own). Layer 14: the acts walked (printed by a program of my own). Layer 14: the acts walked (printed by a program of my own). -/
import Derived.Test.YtmkmmggimokagaaGreatDoorQ6
import Derived.Test.YtmkmmggimokagaaGreatDoorQ1
import Derived.Test.YtmkmmggimokagaaGreatDoorQ4
namespace Go.Proofs.YtmkmmggimokagaaGreatDoor
set_option linter.unusedVariables false
open Go.RowKit
theorem grown_then {v a b : World} {row : Option Nat} (h : v.grownBy a row) (k : Below a.heap.size a b) : v.grownBy b row :=
  ⟨k.os.trans h.os, k.tape.trans h.tape, k.output.trans h.output, Nat.le_trans h.size k.size, fun i hi hr => (k.block i (Nat.lt_of_lt_of_le hi h.size)).trans (h.block i hi hr)⟩
theorem keep3 (w : World) (a : Addr) (u : Value) (b o : Nat) (h : b ≠ a.block) : (w.setCell a u).cell? ⟨b, o, none⟩ = w.cell? ⟨b, o, none⟩ := World.cell?_of_block (Below.heap_setCell _ _ _ _ h)
/-- a call hands back a job in new memory, and an error; nothing old was written -/
def RetJX (w : World) (q : Jb × Int) (e : Ending) (w' : World) : Prop :=
  ∃ A c A2 c2, e = .returned (.tuple #[jbV q.1 A c A2 c2, .int .i64 q.2]) ∧ JbAt w' w'.heap.size q.1 A c A2 c2 ∧ JbOff w.heap.size q.1 A A2 ∧ Below w.heap.size w w'
def allocs (w : World) (l : List Obj) : World := l.foldl (fun w o => w.alloc o) w
theorem allocs_size (l : List Obj) : ∀ w : World, (allocs w l).heap.size = w.heap.size + l.length := by
  induction l with
  | nil => intro w; rfl
  | cons a l ih =>
    intro w
    show (allocs (w.alloc a) l).heap.size = _
    rw [ih, World.size_alloc, List.length_cons]; omega
theorem allocs_below (l : List Obj) : ∀ w : World, Below w.heap.size w (allocs w l) := by
  induction l with
  | nil => intro w; exact Below.refl _ _
  | cons a l ih => intro w; exact bt ((Below.refl _ _).alloc (Nat.le_refl _) a) (ih (w.alloc a))
theorem allocs_at (l : List Obj) : ∀ (w : World) (k : Nat) (o : Obj), l[k]? = some o → (allocs w l).heap[w.heap.size + k]? = some o := by
  induction l with
  | nil => intro w k o h; simp at h
  | cons a l ih =>
    intro w k o h
    show (allocs (w.alloc a) l).heap[w.heap.size + k]? = _
    cases k with
    | zero =>
      simp at h; subst h
      exact ((allocs_below l (w.alloc a)).block _ (by simp)).trans (heap_alloc_new w a)
    | succ k =>
      simp at h
      have := ih (w.alloc a) k o h
      rw [World.size_alloc] at this
      rwa [show w.heap.size + (k + 1) = w.heap.size + 1 + k by omega]
theorem cell_keep {v v' : World} {b : Nat} {u : Value} (hb : Below v.heap.size v v') (hl : b < v.heap.size) (h : v.cell? ⟨b, 0, none⟩ = some u) : v'.cell? ⟨b, 0, none⟩ = some u := (hb.cell (p := ⟨b, 0, none⟩) hl).trans h
theorem cell_keep_g {v v' : World} {row : Option Nat} {b : Nat} {u : Value} (hg : v.grownBy v' row) (hl : b < v.heap.size) (hn : some b ≠ row) (h : v.cell? ⟨b, 0, none⟩ = some u) : v'.cell? ⟨b, 0, none⟩ = some u := (World.cell?_of_block (a := ⟨b, 0, none⟩) (hg.block b hl hn)).trans h
theorem retX_end {w w1 : World} {q : Jb × Int} {A A2 : Option Addr} {c c2 : Nat} {V : World} {row : Option Nat} {r : Nat} (hV : Below w.heap.size w V) (hlt : r < V.heap.size) (hr : w.heap.size ≤ r) (hrow : ∀ k, row = some k → w.heap.size ≤ k)
    (hat : JbAt w1 w1.heap.size q.1 A c A2 c2) (hoff : JbOff V.heap.size q.1 A A2) (hk : Kp V.heap.size row V w1) (l : Array Value) :
    RetJX w q (.returned (.tuple #[.agg (jbA q.1 A c A2 c2), .int .i64 q.2])) (w1.setRow r l) := by
  refine ⟨A, c, A2, c2, rfl, ?_, ⟨hoff.1.mono hV.size, hoff.2.mono hV.size⟩, ?_⟩
  · rw [Go.setRow_size]
    exact hat.only hoff hlt row_only
  · exact below_row (hV.trans (hk.below hV.size hrow)) hr _
theorem start_has {x : Jb} {now : Int} {s : Nat} (hx : okJ x = true) (hm : startM x now s = 0) : hasO x.shape x.choice = true ∧ tickB now = true := by
  unfold startM at hm
  split at hm
  case isFalse => omega
  case isTrue h1 =>
    split at hm
    case isFalse => omega
    case isTrue h2 =>
      split at hm
      case isFalse => omega
      case isTrue h3 =>
        simp only [Bool.and_eq_true, beq_iff_eq, Bool.not_eq_true', decide_eq_true_eq] at h1 h2 h3
        obtain ⟨hs, hp1, hp2⟩ := h1
        have hq := of_queued (st_q hs ((okJ_iff x).1 hx).2.2.2.2.2.2)
        obtain ⟨a, b, c, d⟩ := hq
        rcases d with ⟨d, _⟩ | d
        · omega
        · exact ⟨d.2.1, h3.1⟩
end Go.Proofs.YtmkmmggimokagaaGreatDoor
