/- Layer 14: what acts ask of a job, walked (printed by a program of my own). Layer 14: what acts ask of a job, walked (printed by a program of my own). Layer 14: the acts walked (printed by a program of my own). Layer 14: the acts walked (printed by a program of my own). Layer 14: the acts walked (printed by a program of my own). Layer 14: the acts walked (printed by a program of my own). Layer 14: the acts walked (printed by a program of my own). -/
import Derived.Test.YtghmcdfmbjabnaaGreatDoorQ7t
import Derived.Test.YtghmcdfmbjabnaaGreatDoorQ6t
import Derived.Test.YtghmcdfmbjabnaaGreatDoorQ6x
import Derived.Test.YtghmcdfmbjabnaaGreatDoorQ1t
import Derived.Test.YtghmcdfmbjabnaaGreatDoorQ4t
import Derived.Test.YtghmcdfmbjabnaaGreatDoorQ4x
namespace Go.Proofs.YtghmcdfmbjabnaaGreatDoor
set_option linter.unusedVariables false
open Go.RowKit
theorem when_any (b : Bool) (w : World) : Calls Tryz.prog 104 #[.bool b] w fun e w' => e = .returned (.int .i64 (whenE b)) ∧ w = w' := by
  cases b
  all_goals
    go_enter Tryz.func104, Tryz.ntmps104
    go_wp2
    go_ret
    exact ⟨rfl, rfl⟩
set_option linter.unusedSimpArgs false in
set_option maxHeartbeats 4000000 in
set_option maxRecDepth 100000 in
theorem end_may (x : Jb) (A A2 : Option Addr) (c c2 : Nat) (st : Int) (H : Nat) (v : World) (hH : H < v.heap.size) (qH : v.cell? ⟨H, 0, none⟩ = some (.int .i64 st)) :
    Calls Tryz.prog 103 #[jbV x A c A2 c2, .pointer (some ⟨H, 0, none⟩)] v fun e v' => e = .returned (.int .i64 (endM x st)) ∧ Below v.heap.size v v' := by
  unfold endM
  have q1 := Lib.hid (fun w => ended_any st w)
  rw [jbV_is]
  have e11 : (jbA x A c A2 c2)[11]? = some (.int .i64 x.state) := rfl
  have HS := Lib.hid (jbA_size x A c A2 c2)
  have H1 := Lib.hid (jbA_one x A c A2 c2)
  obtain ⟨cs, hcs⟩ : ∃ cs, Hid (jbA x A c A2 c2 = cs) := ⟨_, rfl⟩
  rw [hcs.out] at HS H1 e11 ⊢
  obtain ⟨z, hz⟩ : ∃ q, endedB st = q := ⟨_, rfl⟩
  rw [hz] at q1 ⊢
  clear hz
  cases z
  case false =>
    rw [if_neg (by decide)]
    go_enter Tryz.func103, Tryz.ntmps103
    go_wp2_with (first | (go_at_call 83; refine (q1.out _).mono ?_; rintro e w1 ⟨rfl, rfl⟩) | (go_at_call 104; refine (when_any _ _).mono ?_; rintro e w1 ⟨rfl, rfl⟩))
    go_ret
    exact ⟨rfl, bx0⟩
  rw [if_pos rfl]
  cases t2 : x.state == 2 <;> cases t1 : x.state == 1 <;> cases t6 : st == 6
  all_goals
    go_enter Tryz.func103, Tryz.ntmps103
    go_wp2_with (first | (go_at_call 83; refine (q1.out _).mono ?_; rintro e w1 ⟨rfl, rfl⟩) | (go_at_call 104; refine (when_any _ _).mono ?_; rintro e w1 ⟨rfl, rfl⟩))
    go_ret
    exact ⟨rfl, bx0⟩
/-- a call hands back a job in new memory, and an error; nothing old was written -/
def RetJX (w : World) (q : Jb × Int) (e : Ending) (w' : World) : Prop :=
  ∃ A c A2 c2, e = .returned (.tuple #[jbV q.1 A c A2 c2, .int .i64 q.2]) ∧ JbAt w' w'.heap.size q.1 A c A2 c2 ∧ JbOff w.heap.size q.1 A A2 ∧ Below w.heap.size w w'
def allocs (w : World) (l : List Obj) : World := l.foldl (fun w o => w.alloc o) w
theorem allocs_size (l : List Obj) : ∀ w : World, (allocs w l).heap.size = w.heap.size + l.length := by
  induction l with
  | nil => intro w; rfl
  | cons a l ih =>
    intro w
    show (allocs (w.alloc a) l).heap.size = _
    rw [ih, World.size_alloc, List.length_cons]; omega
theorem allocs_below (l : List Obj) : ∀ w : World, Below w.heap.size w (allocs w l) := by
  induction l with
  | nil => intro w; exact Below.refl _ _
  | cons a l ih => intro w; exact bt ((Below.refl _ _).alloc (Nat.le_refl _) a) (ih (w.alloc a))
theorem allocs_at (l : List Obj) : ∀ (w : World) (k : Nat) (o : Obj), l[k]? = some o → (allocs w l).heap[w.heap.size + k]? = some o := by
  induction l with
  | nil => intro w k o h; simp at h
  | cons a l ih =>
    intro w k o h
    show (allocs (w.alloc a) l).heap[w.heap.size + k]? = _
    cases k with
    | zero =>
      simp at h; subst h
      exact ((allocs_below l (w.alloc a)).block _ (by simp)).trans (heap_alloc_new w a)
    | succ k =>
      simp at h
      have := ih (w.alloc a) k o h
      rw [World.size_alloc] at this
      rwa [show w.heap.size + (k + 1) = w.heap.size + 1 + k by omega]
theorem cell_keep {v v' : World} {b : Nat} {u : Value} (hb : Below v.heap.size v v') (hl : b < v.heap.size) (h : v.cell? ⟨b, 0, none⟩ = some u) : v'.cell? ⟨b, 0, none⟩ = some u := (hb.cell (p := ⟨b, 0, none⟩) hl).trans h
theorem retX_end {w w1 : World} {q : Jb × Int} {A A2 : Option Addr} {c c2 : Nat} {V : World} {row : Option Nat} {r : Nat} (hV : Below w.heap.size w V) (hlt : r < V.heap.size) (hr : w.heap.size ≤ r) (hrow : ∀ k, row = some k → w.heap.size ≤ k)
    (hat : JbAt w1 w1.heap.size q.1 A c A2 c2) (hoff : JbOff V.heap.size q.1 A A2) (hk : Kp V.heap.size row V w1) (l : Array Value) :
    RetJX w q (.returned (.tuple #[.agg (jbA q.1 A c A2 c2), .int .i64 q.2])) (w1.setRow r l) := by
  refine ⟨A, c, A2, c2, rfl, ?_, ⟨hoff.1.mono hV.size, hoff.2.mono hV.size⟩, ?_⟩
  · rw [Go.setRow_size]
    exact hat.only hoff hlt row_only
  · exact below_row (hV.trans (hk.below hV.size hrow)) hr _
set_option linter.unusedSimpArgs false in
set_option maxHeartbeats 4000000 in
set_option maxRecDepth 100000 in
theorem end_any (x : Jb) (st : Int) (A A2 : Option Addr) (c c2 B : Nat) (w : World) (hx : JbAt w B x A c A2 c2) (hB : B ≤ w.heap.size) (hz : JbSz x) :
    Calls Tryz.prog 52 #[jbV x A c A2 c2, .int .i64 st] w (RetJX w (endJ x st)) := by
  have hmf : ∀ (fn : Fn) (first cap : Array Value) (w : World), (Instr.makeFunc fn first cap).run Tryz.prog w = .ok (.func fn first cap) w := fun _ _ _ _ => rfl
  have eg : ∀ args w, (callFunc 103 args).run Tryz.prog w = .ok (.enter 103 args) w := enters_of Tryz.func103 (by kernel_rfl) rfl
  have eg2 : ∀ args w, (callFunc 105 args).run Tryz.prog w = .ok (.enter 105 args) w := enters_of Tryz.func105 (by kernel_rfl) rfl
  have ht : ∀ (V : World) (hV : Below w.heap.size w V) (hs : w.heap.size + 3 ≤ V.heap.size) (cst : V.cell? ⟨w.heap.size + 1, 0, none⟩ = some (.int .i64 st)), Calls Tryz.prog 96 #[jbV x A c A2 c2, .func (.func 103) #[] #[.pointer (some ⟨w.heap.size + 1, 0, none⟩)], .func (.func 105) #[] #[.pointer (some ⟨w.heap.size + 1, 0, none⟩)]] V (RetJE (none) V (endJ x st)) := by
    intro V hV hs cst
    refine turn_any x (finD x st) (endM x st) A A2 c c2 w.heap.size V _ _ eg (fun v => v.cell? ⟨w.heap.size + 1, 0, none⟩ = some (.int .i64 st)) _ ?_ _ _ eg2 ((hx.below (hV.mono hB)).more hB) hV.size hz ?_ ?_ ?_
    · intro k h; first | (cases h; done) | (cases h; constructor <;> omega)
    · intro _ v hv
      exact (end_may x A A2 c c2 st (w.heap.size + 1) v (by have := hv.size; omega) (by rw [(bcell hv).1 _ _ (by omega)]; assumption)).mono (fun e v' ⟨he, hb⟩ => ⟨he, grown_of_below hb, cell_keep hb (by have := hv.size; omega) (by rw [(bcell hv).1 _ _ (by omega)]; assumption)⟩)
    · intro _ _; exact end_do x st (w.heap.size + 1) _ (by omega)
    · intro v v' hp hk; simp only [World.cell?] at hp ⊢; first | (rw [hk _ (by omega)]; exact hp) | (obtain ⟨h1, h2⟩ := hp; rw [hk _ (by omega), hk _ (by omega)]; exact ⟨h1, h2⟩) | (obtain ⟨h1, h2, h3⟩ := hp; rw [hk _ (by omega), hk _ (by omega), hk _ (by omega)]; exact ⟨h1, h2, h3⟩)
  have HTN := Lib.hid ht
  clear ht hx hB hz eg eg2
  obtain ⟨q, hq⟩ : ∃ q, Hid (endJ x st = q) := ⟨_, rfl⟩
  rw [hq.out] at HTN ⊢
  rw [jbV_is] at HTN ⊢
  have HS := Lib.hid (jbA_size x A c A2 c2)
  have H1 := Lib.hid (jbA_one x A c A2 c2)
  obtain ⟨cs, hcs⟩ : ∃ cs, Hid (jbA x A c A2 c2 = cs) := ⟨_, rfl⟩
  rw [hcs.out] at HS H1 HTN ⊢
  clear hq
  obtain ⟨V, hV⟩ : ∃ V, Hid ((((w.alloc (.cells cs 28)).alloc (.cells #[.int .i64 st] 3)).alloc (.cells #[.int .i64 0, .string ⟨#[]⟩, .string ⟨#[]⟩, .string ⟨#[]⟩, .int .i64 0, .slice none 0 0, .int .i64 0, .int .i64 0, .int .i64 0, .int .i64 0, .slice none 0 0, .int .i64 0, .bool false, .int .i64 0, .int .i64 0, .int .i64 0, .int .i64 0, .int .i64 0, .int .u64 0, .int .i64 0] 28)) = V) := ⟨_, rfl⟩
  have HJ0 : Hid ((((w.alloc (.cells cs 28)).alloc (.cells #[.int .i64 st] 3)).alloc (.cells #[.int .i64 0, .string ⟨#[]⟩, .string ⟨#[]⟩, .string ⟨#[]⟩, .int .i64 0, .slice none 0 0, .int .i64 0, .int .i64 0, .int .i64 0, .int .i64 0, .slice none 0 0, .int .i64 0, .bool false, .int .i64 0, .int .i64 0, .int .i64 0, .int .i64 0, .int .i64 0, .int .u64 0, .int .i64 0] 28)).heap[w.heap.size]? = some (.cells cs 28 (0, 0))) := allocs_at [.cells cs 28, .cells #[.int .i64 st] 3, .cells #[.int .i64 0, .string ⟨#[]⟩, .string ⟨#[]⟩, .string ⟨#[]⟩, .int .i64 0, .slice none 0 0, .int .i64 0, .int .i64 0, .int .i64 0, .int .i64 0, .slice none 0 0, .int .i64 0, .bool false, .int .i64 0, .int .i64 0, .int .i64 0, .int .i64 0, .int .i64 0, .int .u64 0, .int .i64 0] 28] w 0 _ rfl
  have hb : Below w.heap.size w (((w.alloc (.cells cs 28)).alloc (.cells #[.int .i64 st] 3)).alloc (.cells #[.int .i64 0, .string ⟨#[]⟩, .string ⟨#[]⟩, .string ⟨#[]⟩, .int .i64 0, .slice none 0 0, .int .i64 0, .int .i64 0, .int .i64 0, .int .i64 0, .slice none 0 0, .int .i64 0, .bool false, .int .i64 0, .int .i64 0, .int .i64 0, .int .i64 0, .int .i64 0, .int .u64 0, .int .i64 0] 28)) := allocs_below [.cells cs 28, .cells #[.int .i64 st] 3, .cells #[.int .i64 0, .string ⟨#[]⟩, .string ⟨#[]⟩, .string ⟨#[]⟩, .int .i64 0, .slice none 0 0, .int .i64 0, .int .i64 0, .int .i64 0, .int .i64 0, .slice none 0 0, .int .i64 0, .bool false, .int .i64 0, .int .i64 0, .int .i64 0, .int .i64 0, .int .i64 0, .int .u64 0, .int .i64 0] 28] w
  have hz : (((w.alloc (.cells cs 28)).alloc (.cells #[.int .i64 st] 3)).alloc (.cells #[.int .i64 0, .string ⟨#[]⟩, .string ⟨#[]⟩, .string ⟨#[]⟩, .int .i64 0, .slice none 0 0, .int .i64 0, .int .i64 0, .int .i64 0, .int .i64 0, .slice none 0 0, .int .i64 0, .bool false, .int .i64 0, .int .i64 0, .int .i64 0, .int .i64 0, .int .i64 0, .int .u64 0, .int .i64 0] 28)).heap.size = _ := allocs_size [.cells cs 28, .cells #[.int .i64 st] 3, .cells #[.int .i64 0, .string ⟨#[]⟩, .string ⟨#[]⟩, .string ⟨#[]⟩, .int .i64 0, .slice none 0 0, .int .i64 0, .int .i64 0, .int .i64 0, .int .i64 0, .slice none 0 0, .int .i64 0, .bool false, .int .i64 0, .int .i64 0, .int .i64 0, .int .i64 0, .int .i64 0, .int .u64 0, .int .i64 0] 28] w
  have g1 : (((w.alloc (.cells cs 28)).alloc (.cells #[.int .i64 st] 3)).alloc (.cells #[.int .i64 0, .string ⟨#[]⟩, .string ⟨#[]⟩, .string ⟨#[]⟩, .int .i64 0, .slice none 0 0, .int .i64 0, .int .i64 0, .int .i64 0, .int .i64 0, .slice none 0 0, .int .i64 0, .bool false, .int .i64 0, .int .i64 0, .int .i64 0, .int .i64 0, .int .i64 0, .int .u64 0, .int .i64 0] 28)).heap[w.heap.size + 1]? = some (.cells #[.int .i64 st] 3) := allocs_at [.cells cs 28, .cells #[.int .i64 st] 3, .cells #[.int .i64 0, .string ⟨#[]⟩, .string ⟨#[]⟩, .string ⟨#[]⟩, .int .i64 0, .slice none 0 0, .int .i64 0, .int .i64 0, .int .i64 0, .int .i64 0, .slice none 0 0, .int .i64 0, .bool false, .int .i64 0, .int .i64 0, .int .i64 0, .int .i64 0, .int .i64 0, .int .u64 0, .int .i64 0] 28] w 1 _ rfl
  have g2 : (((w.alloc (.cells cs 28)).alloc (.cells #[.int .i64 st] 3)).alloc (.cells #[.int .i64 0, .string ⟨#[]⟩, .string ⟨#[]⟩, .string ⟨#[]⟩, .int .i64 0, .slice none 0 0, .int .i64 0, .int .i64 0, .int .i64 0, .int .i64 0, .slice none 0 0, .int .i64 0, .bool false, .int .i64 0, .int .i64 0, .int .i64 0, .int .i64 0, .int .i64 0, .int .u64 0, .int .i64 0] 28)).heap[w.heap.size + 2]? = some (.cells #[.int .i64 0, .string ⟨#[]⟩, .string ⟨#[]⟩, .string ⟨#[]⟩, .int .i64 0, .slice none 0 0, .int .i64 0, .int .i64 0, .int .i64 0, .int .i64 0, .slice none 0 0, .int .i64 0, .bool false, .int .i64 0, .int .i64 0, .int .i64 0, .int .i64 0, .int .i64 0, .int .u64 0, .int .i64 0] 28) := allocs_at [.cells cs 28, .cells #[.int .i64 st] 3, .cells #[.int .i64 0, .string ⟨#[]⟩, .string ⟨#[]⟩, .string ⟨#[]⟩, .int .i64 0, .slice none 0 0, .int .i64 0, .int .i64 0, .int .i64 0, .int .i64 0, .slice none 0 0, .int .i64 0, .bool false, .int .i64 0, .int .i64 0, .int .i64 0, .int .i64 0, .int .i64 0, .int .u64 0, .int .i64 0] 28] w 2 _ rfl
  rw [hV.out] at hb hz g1 g2
  simp only [List.length_cons, List.length_nil] at hz
  have cst : V.cell? ⟨w.heap.size + 1, 0, none⟩ = some (.int .i64 st) := cell_of_row V _ 0 _ _ _ g1
  have HT := Lib.hid (HTN.out V hb (by omega) cst)
  have HB := Lib.hid hb
  have hs : w.heap.size + 2 < V.heap.size := by omega
  have GR := Lib.hid g2
  clear HTN hb hz cst g1 g2
  go_enter Tryz.func52, Tryz.ntmps52
  go_wp2_with (refine wpList_load_row rfl 28 _ rfl (w.heap.size) rfl 28 _ (0, 0) _ HJ0.out Tryz.underlying28 rfl (info30 HS.out) ?_)
  rw [hV.out]
  refine HT.out.mono ?_; rintro e w1 ⟨A5, c5, A6, c6, rfl, hat, hoff, hk⟩
  have gr := (hk.block (w.heap.size + 2) (by omega) (by simp)).trans GR.out
  have GR1 := Lib.hid gr
  have hs1 : w.heap.size + 2 < w1.heap.size := (Array.getElem?_eq_some_iff.1 gr).1
  have HEND := Lib.hid (fun l => retX_end (w := w) (q := q) (row := none) HB.out hs (by omega) (fun k h => by cases h) hat hoff hk l)
  clear hat hoff hk gr
  rw [jbV_is]
  go_wp2_with (refine wpList_store_row rfl 28 _ _ rfl (w.heap.size + 2) _ rfl rfl 28 _ GR1.out (info30 (jbA_size _ _ _ _ _)) rfl (jbA_one _ _ _ _ _) ?_)
  (try simp only [Exit.inBlock, Exit.then])
  refine bodyPost_ret (results_cell2 rfl _ _ (w.heap.size + 2) _ _ _ _ rfl (setRow_heap _ _ _ _ _ _ GR1.out) Tryz.underlying28 rfl (info30 (jbA_size _ _ _ _ _))) rfl ?_
  exact HEND.out _
end Go.Proofs.YtghmcdfmbjabnaaGreatDoor
