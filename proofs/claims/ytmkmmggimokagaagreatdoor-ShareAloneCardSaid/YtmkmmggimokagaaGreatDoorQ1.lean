/- Layer 8: a command as a row of cells that stays closed. Layer 8: fits at all kinds; what of a command its kind may have; whether a command may be, plainly. Layer 8: what of a command its kind may have, walked (printed by a program of my own). Regions that draw their order: whole rows read. Layer 8: Check walked at submissions (printed by a program of my own). -/
import Derived.Test.YtmkmmggimokagaaGreatDoorC1
import Derived.Test.YtmkmmggimokagaaGreatDoorJbB
import Derived.Great.Ranges
import Derived.Deep.WholeRow
import Derived.Test.YtmkmmggimokagaaGreatDoorC2
import Derived.Test.YtmkmmggimokagaaGreatDoorCdW8
import Derived.Test.YtmkmmggimokagaaGreatDoorC3
import Derived.Test.YtmkmmggimokagaaGreatDoorCdW4
import Derived.BigRegion
import Derived.Test.YtmkmmggimokagaaGreatDoorK1
import Derived.Laws.Rows
namespace Go.Proofs.YtmkmmggimokagaaGreatDoor
set_option linter.unusedVariables false
open Go.RowKit
def cmC (x : Cm) (A : Option Addr) (c : Nat) (A2 : Option Addr) (c2 : Nat) : List Value :=
  [.int .i64 x.kind, .int .i64 x.job, .string x.name, .string x.user, .string x.account, .int .i64 x.shape.kind, .slice A x.shape.alts.length c, .int .i64 x.shape.mn, .int .i64 x.shape.mx, .int .i64 x.shape.wall,
    .int .i64 x.prio, .bool x.hasPrio, .int .i64 x.time, .bool x.hasTime, .slice A2 x.after.length c2, .int .i64 x.node, .int .i64 x.nodes, .int .i64 x.frm]
def cmA (x : Cm) (A : Option Addr) (c : Nat) (A2 : Option Addr) (c2 : Nat) : Array Value := (cmC x A c A2 c2).toArray
theorem cmV_is (x : Cm) (A : Option Addr) (c : Nat) (A2 : Option Addr) (c2 : Nat) : cmV x A c A2 c2 = .agg (cmA x A c A2 c2) := rfl
theorem cmA_size (x : Cm) (A : Option Addr) (c : Nat) (A2 : Option Addr) (c2 : Nat) : (cmA x A c A2 c2).size = 18 := rfl
theorem cmA_one (x : Cm) (A : Option Addr) (c : Nat) (A2 : Option Addr) (c2 : Nat) : (cmA x A c A2 c2).all (·.oneCell') = true := by unfold cmA; rw [List.all_toArray]; rfl
theorem info27 {cs : Array Value} (h : cs.size = 18) : (Tryz.prog.info? 77).map (·.size) = some cs.size := by rw [h]; kernel_rfl
theorem below_row {B : Nat} {a w : World} (h : Below B a w) {b : Nat} (hb : B ≤ b) (cs : Array Value) : Below B a (w.setRow b cs) :=
  h.trans ⟨rfl, rfl, rfl, by simp, fun k hk => Go.setRow_other w b k cs (by omega)⟩
theorem drew_heap (v : World) : v.drew.heap = v.heap := rfl
theorem sb_mk {B : Nat} {w3 w' : World} (h : Below B w3 w') : (∀ b o, b < B → w'.cell? ⟨b, o, none⟩ = w3.cell? ⟨b, o, none⟩) ∧ Below B w3 w' := ⟨fun b o hb => h.cell (p := ⟨b, o, none⟩) hb, h⟩
theorem three_block (w : World) (a b c : Obj) : (((w.alloc a).alloc b).alloc c).heap[w.heap.size]? = some a ∧ (((w.alloc a).alloc b).alloc c).heap[w.heap.size + 1]? = some b ∧ (((w.alloc a).alloc b).alloc c).heap[w.heap.size + 1 + 1]? = some c := by
  have h2 := heap_alloc_new (w.alloc a) b
  have h3 := heap_alloc_new ((w.alloc a).alloc b) c
  rw [World.size_alloc] at h2
  rw [World.size_alloc, World.size_alloc] at h3
  exact ⟨(Below.heap_alloc _ _ _ (by simp; omega)).trans ((Below.heap_alloc _ _ _ (by simp)).trans (heap_alloc_new w _)), (Below.heap_alloc _ _ _ (by simp)).trans h2, h3⟩
theorem three_below (w : World) (a b c : Obj) : Below w.heap.size w (((w.alloc a).alloc b).alloc c) := (((Below.refl _ _).alloc (Nat.le_refl _) _).alloc (by simp) _).alloc (by simp; omega) _
/-- what a command has may be -/
def fitB (x : Cm) : Bool := preB x && (if x.kind = 1 then subB x else kindB x)
theorem fits_any (x : Cm) (A A2 : Option Addr) (c c2 B : Nat) (w : World) (ha : CmAt w B x A c A2 c2) (hB : B ≤ w.heap.size) (hz : CmSz x) :
    Calls Tryz.prog 47 #[cmV x A c A2 c2] w fun e w' => e = .returned (.bool (fitB x)) ∧ Below w.heap.size w w' := by
  unfold fitB
  cases hp : preB x
  · exact fits_pre x A A2 c c2 w hp
  · rw [Bool.true_and]
    by_cases h1 : x.kind = 1
    · rw [if_pos h1]; exact fits_submit x A A2 c c2 B w hp h1 ha hB hz
    · rw [if_neg h1]
      unfold kindB
      by_cases h2 : x.kind = 2 ∨ x.kind = 3 ∨ x.kind = 4 ∨ x.kind = 11
      · rw [if_pos h2]; exact fits_job x A A2 c c2 w hp h2
      · rw [if_neg h2]
        by_cases h5 : x.kind = 5
        · rw [if_pos h5]; exact fits_alter x A A2 c c2 w hp h5
        · rw [if_neg h5]
          by_cases h6 : x.kind = 6
          · rw [if_pos h6]; exact fits_resize x A A2 c c2 w hp h6
          · rw [if_neg h6]
            by_cases h7 : x.kind = 7 ∨ x.kind = 8 ∨ x.kind = 9
            · rw [if_pos h7]; exact fits_node x A A2 c c2 w hp h7
            · rw [if_neg h7]
              by_cases h10 : x.kind = 10
              · rw [if_pos h10]; exact fits_reserve x A A2 c c2 w hp h10
              · rw [if_neg h10]
                exact fits_other x A A2 c c2 w hp (by omega)
def sh0 : Sh := ⟨0, [], 0, 0, 0⟩
/-- a command with just what its kind may have -/
def bareC (x : Cm) : Cm :=
  if x.kind = 1 then ⟨1, 0, x.name, x.user, x.account, x.shape, x.prio, x.hasPrio, 0, false, x.after, 0, 0, 0⟩
  else if x.kind = 2 ∨ x.kind = 3 ∨ x.kind = 4 ∨ x.kind = 11 ∨ x.kind = 12 then ⟨x.kind, x.job, ⟨#[]⟩, ⟨#[]⟩, ⟨#[]⟩, sh0, 0, false, 0, false, [], 0, 0, 0⟩
  else if x.kind = 5 then ⟨5, x.job, ⟨#[]⟩, ⟨#[]⟩, ⟨#[]⟩, sh0, x.prio, x.hasPrio, x.time, x.hasTime, [], 0, 0, 0⟩
  else if x.kind = 6 then ⟨6, x.job, ⟨#[]⟩, ⟨#[]⟩, ⟨#[]⟩, sh0, 0, false, 0, false, [], 0, x.nodes, 0⟩
  else if x.kind = 7 ∨ x.kind = 8 ∨ x.kind = 9 then ⟨x.kind, 0, ⟨#[]⟩, ⟨#[]⟩, ⟨#[]⟩, sh0, 0, false, 0, false, [], x.node, 0, 0⟩
  else if x.kind = 10 then ⟨10, 0, ⟨#[]⟩, ⟨#[]⟩, ⟨#[]⟩, sh0, 0, false, x.time, x.hasTime, [], 0, x.nodes, x.frm⟩
  else ⟨x.kind, 0, ⟨#[]⟩, ⟨#[]⟩, ⟨#[]⟩, sh0, 0, false, 0, false, [], 0, 0, 0⟩
/-- a command may be -/
def chkB (x : Cm) : Bool := decide (x.shape.alts.length ≤ 6) && (decide (x.after.length ≤ 4) && (fitB x && sameC x (bareC x)))
def cmdE (x : Cm) : Int := if chkB x = true then 0 else 80
set_option linter.unusedSimpArgs false in
set_option maxHeartbeats 8000000 in
set_option maxRecDepth 100000 in
theorem bare_submit (x : Cm) (A A2 : Option Addr) (c c2 : Nat) (w : World) (hk : x.kind = 1) :
    Calls Tryz.prog 49 #[cmV x A c A2 c2] w fun e w' => e = .returned (cmV (bareC x) A c A2 c2) ∧ Below w.heap.size w w' := by
  unfold bareC
  rw [cmV_is x]
  rw [if_pos hk]
  have e0 : (cmA x A c A2 c2)[0]? = some (.int .i64 1) := by rw [← hk]; rfl
  have e2 : (cmA x A c A2 c2)[2]? = some (.string x.name) := rfl
  have e3 : (cmA x A c A2 c2)[3]? = some (.string x.user) := rfl
  have e4 : (cmA x A c A2 c2)[4]? = some (.string x.account) := rfl
  have e5 : (cmA x A c A2 c2)[5]? = some (.int .i64 x.shape.kind) := rfl
  have e6 : (cmA x A c A2 c2)[6]? = some (.slice A x.shape.alts.length c) := rfl
  have e7 : (cmA x A c A2 c2)[7]? = some (.int .i64 x.shape.mn) := rfl
  have e8 : (cmA x A c A2 c2)[8]? = some (.int .i64 x.shape.mx) := rfl
  have e9 : (cmA x A c A2 c2)[9]? = some (.int .i64 x.shape.wall) := rfl
  have e10 : (cmA x A c A2 c2)[10]? = some (.int .i64 x.prio) := rfl
  have e11 : (cmA x A c A2 c2)[11]? = some (.bool x.hasPrio) := rfl
  have e14 : (cmA x A c A2 c2)[14]? = some (.slice A2 x.after.length c2) := rfl
  obtain ⟨cs, hcs⟩ : ∃ cs, cmA x A c A2 c2 = cs := ⟨_, rfl⟩
  rw [hcs] at e0 e2 e3 e4 e5 e6 e7 e8 e9 e10 e11 e14 ⊢
  clear hcs hk
  unfold cmV
  dsimp only
  obtain ⟨n, hn⟩ : ∃ n, x.shape.alts.length = n := ⟨_, rfl⟩
  obtain ⟨m, hm⟩ : ∃ n, x.after.length = n := ⟨_, rfl⟩
  rw [hn] at e6 ⊢
  rw [hm] at e14 ⊢
  clear hn hm
  obtain ⟨W1, hW1⟩ : ∃ W1, Hid ((((w.alloc (.cells cs 77)).alloc (.cells #[.int .i64 0, .int .i64 0, .string ⟨#[]⟩, .string ⟨#[]⟩, .string ⟨#[]⟩, .int .i64 0, .slice none 0 0, .int .i64 0, .int .i64 0, .int .i64 0, .int .i64 0, .bool false, .int .i64 0, .bool false, .slice none 0 0, .int .i64 0, .int .i64 0, .int .i64 0] 77)).alloc (.cells #[.int .i64 1, .int .i64 0, .string ⟨#[]⟩, .string ⟨#[]⟩, .string ⟨#[]⟩, .int .i64 0, .slice none 0 0, .int .i64 0, .int .i64 0, .int .i64 0, .int .i64 0, .bool false, .int .i64 0, .bool false, .slice none 0 0, .int .i64 0, .int .i64 0, .int .i64 0] 77)) = W1) := ⟨_, rfl⟩
  have hb0 := three_below w (.cells cs 77) (.cells #[.int .i64 0, .int .i64 0, .string ⟨#[]⟩, .string ⟨#[]⟩, .string ⟨#[]⟩, .int .i64 0, .slice none 0 0, .int .i64 0, .int .i64 0, .int .i64 0, .int .i64 0, .bool false, .int .i64 0, .bool false, .slice none 0 0, .int .i64 0, .int .i64 0, .int .i64 0] 77) (.cells #[.int .i64 1, .int .i64 0, .string ⟨#[]⟩, .string ⟨#[]⟩, .string ⟨#[]⟩, .int .i64 0, .slice none 0 0, .int .i64 0, .int .i64 0, .int .i64 0, .int .i64 0, .bool false, .int .i64 0, .bool false, .slice none 0 0, .int .i64 0, .int .i64 0, .int .i64 0] 77)
  obtain ⟨h1, h2, h3⟩ := three_block w (.cells cs 77) (.cells #[.int .i64 0, .int .i64 0, .string ⟨#[]⟩, .string ⟨#[]⟩, .string ⟨#[]⟩, .int .i64 0, .slice none 0 0, .int .i64 0, .int .i64 0, .int .i64 0, .int .i64 0, .bool false, .int .i64 0, .bool false, .slice none 0 0, .int .i64 0, .int .i64 0, .int .i64 0] 77) (.cells #[.int .i64 1, .int .i64 0, .string ⟨#[]⟩, .string ⟨#[]⟩, .string ⟨#[]⟩, .int .i64 0, .slice none 0 0, .int .i64 0, .int .i64 0, .int .i64 0, .int .i64 0, .bool false, .int .i64 0, .bool false, .slice none 0 0, .int .i64 0, .int .i64 0, .int .i64 0] 77)
  rw [hW1.out] at hb0 h1 h2 h3
  have HB0 := Lib.hid hb0
  have H1 := Lib.hid h1
  have H2 := Lib.hid h2
  have H3 := Lib.hid h3
  have hs1 : w.heap.size + 1 + 1 < W1.heap.size := (Array.getElem?_eq_some_iff.1 h3).1
  have hf1 : ∀ j, W1.frozen? ⟨w.heap.size + 1 + 1, j, none⟩ = false := fun j => by simp [World.frozen?, H3.out]
  have x2 : W1.cell? ⟨w.heap.size, 2, none⟩ = some (.string x.name) := (cell_of_row W1 _ 2 _ _ _ H1.out).trans e2
  have x3 : W1.cell? ⟨w.heap.size, 3, none⟩ = some (.string x.user) := (cell_of_row W1 _ 3 _ _ _ H1.out).trans e3
  have x4 : W1.cell? ⟨w.heap.size, 4, none⟩ = some (.string x.account) := (cell_of_row W1 _ 4 _ _ _ H1.out).trans e4
  have x5 : W1.cell? ⟨w.heap.size, 5, none⟩ = some (.int .i64 x.shape.kind) := (cell_of_row W1 _ 5 _ _ _ H1.out).trans e5
  have x6 : W1.cell? ⟨w.heap.size, 6, none⟩ = some (.slice A n c) := (cell_of_row W1 _ 6 _ _ _ H1.out).trans e6
  have x7 : W1.cell? ⟨w.heap.size, 7, none⟩ = some (.int .i64 x.shape.mn) := (cell_of_row W1 _ 7 _ _ _ H1.out).trans e7
  have x8 : W1.cell? ⟨w.heap.size, 8, none⟩ = some (.int .i64 x.shape.mx) := (cell_of_row W1 _ 8 _ _ _ H1.out).trans e8
  have x9 : W1.cell? ⟨w.heap.size, 9, none⟩ = some (.int .i64 x.shape.wall) := (cell_of_row W1 _ 9 _ _ _ H1.out).trans e9
  have x14 : W1.cell? ⟨w.heap.size, 14, none⟩ = some (.slice A2 m c2) := (cell_of_row W1 _ 14 _ _ _ H1.out).trans e14
  have o2 : W1.cell? ⟨w.heap.size + 1 + 1, 2, none⟩ = some (.string ⟨#[]⟩) := cell_of_row W1 _ 2 _ _ _ H3.out
  have o3 : W1.cell? ⟨w.heap.size + 1 + 1, 3, none⟩ = some (.string ⟨#[]⟩) := cell_of_row W1 _ 3 _ _ _ H3.out
  have o4 : W1.cell? ⟨w.heap.size + 1 + 1, 4, none⟩ = some (.string ⟨#[]⟩) := cell_of_row W1 _ 4 _ _ _ H3.out
  have o5 : W1.cell? ⟨w.heap.size + 1 + 1, 5, none⟩ = some (.int .i64 0) := cell_of_row W1 _ 5 _ _ _ H3.out
  have o6 : W1.cell? ⟨w.heap.size + 1 + 1, 6, none⟩ = some (.slice none 0 0) := cell_of_row W1 _ 6 _ _ _ H3.out
  have o7 : W1.cell? ⟨w.heap.size + 1 + 1, 7, none⟩ = some (.int .i64 0) := cell_of_row W1 _ 7 _ _ _ H3.out
  have o8 : W1.cell? ⟨w.heap.size + 1 + 1, 8, none⟩ = some (.int .i64 0) := cell_of_row W1 _ 8 _ _ _ H3.out
  have o9 : W1.cell? ⟨w.heap.size + 1 + 1, 9, none⟩ = some (.int .i64 0) := cell_of_row W1 _ 9 _ _ _ H3.out
  have o14 : W1.cell? ⟨w.heap.size + 1 + 1, 14, none⟩ = some (.slice none 0 0) := cell_of_row W1 _ 14 _ _ _ H3.out
  obtain ⟨W2, hW2⟩ : ∃ v, Hid ((((((((((W1.setCell ⟨w.heap.size + 1 + 1, 2, none⟩ (.string x.name)).setCell ⟨w.heap.size + 1 + 1, 3, none⟩ (.string x.user)).setCell ⟨w.heap.size + 1 + 1, 4, none⟩ (.string x.account)).setCell ⟨w.heap.size + 1 + 1, 5, none⟩ (.int .i64 x.shape.kind)).setCell ⟨w.heap.size + 1 + 1, 6, none⟩ (.slice A n c)).setCell ⟨w.heap.size + 1 + 1, 7, none⟩ (.int .i64 x.shape.mn)).setCell ⟨w.heap.size + 1 + 1, 8, none⟩ (.int .i64 x.shape.mx)).setCell ⟨w.heap.size + 1 + 1, 9, none⟩ (.int .i64 x.shape.wall)).setCell ⟨w.heap.size + 1 + 1, 14, none⟩ (.slice A2 m c2)).drew = v) := ⟨_, rfl⟩
  have O2 : Hid (W2.heap[w.heap.size + 1 + 1]? = some (.cells #[.int .i64 1, .int .i64 0, .string x.name, .string x.user, .string x.account, .int .i64 x.shape.kind, .slice A n c, .int .i64 x.shape.mn, .int .i64 x.shape.mx, .int .i64 x.shape.wall, .int .i64 0, .bool false, .int .i64 0, .bool false, .slice A2 m c2, .int .i64 0, .int .i64 0, .int .i64 0] 77 (0, 0))) := by
    show _ = _
    rw [← hW2.out, drew_heap]
    have h := (setCell_blk (k := 14) (a := .slice A2 m c2) (setCell_blk (k := 9) (a := .int .i64 x.shape.wall) (setCell_blk (k := 8) (a := .int .i64 x.shape.mx) (setCell_blk (k := 7) (a := .int .i64 x.shape.mn) (setCell_blk (k := 6) (a := .slice A n c) (setCell_blk (k := 5) (a := .int .i64 x.shape.kind) (setCell_blk (k := 4) (a := .string x.account) (setCell_blk (k := 3) (a := .string x.user) (setCell_blk (k := 2) (a := .string x.name) H3.out)))))))))
    simp only [List.setIfInBounds_toArray, List.set_cons_succ, List.set_cons_zero] at h
    exact h
  have J2 : Hid (W2.heap[w.heap.size]? = some (.cells cs 77 (0, 0))) := by
    show _ = _
    rw [← hW2.out, drew_heap, Below.heap_setCell _ _ _ _ (by first | (simp; done) | (simp; omega)), Below.heap_setCell _ _ _ _ (by first | (simp; done) | (simp; omega)), Below.heap_setCell _ _ _ _ (by first | (simp; done) | (simp; omega)), Below.heap_setCell _ _ _ _ (by first | (simp; done) | (simp; omega)), Below.heap_setCell _ _ _ _ (by first | (simp; done) | (simp; omega)), Below.heap_setCell _ _ _ _ (by first | (simp; done) | (simp; omega)), Below.heap_setCell _ _ _ _ (by first | (simp; done) | (simp; omega)), Below.heap_setCell _ _ _ _ (by first | (simp; done) | (simp; omega)), Below.heap_setCell _ _ _ _ (by first | (simp; done) | (simp; omega))]
    exact H1.out
  have R2 : Hid (W2.heap[w.heap.size + 1]? = some (.cells #[.int .i64 0, .int .i64 0, .string ⟨#[]⟩, .string ⟨#[]⟩, .string ⟨#[]⟩, .int .i64 0, .slice none 0 0, .int .i64 0, .int .i64 0, .int .i64 0, .int .i64 0, .bool false, .int .i64 0, .bool false, .slice none 0 0, .int .i64 0, .int .i64 0, .int .i64 0] 77 (0, 0))) := by
    show _ = _
    rw [← hW2.out, drew_heap, Below.heap_setCell _ _ _ _ (by first | (simp; done) | (simp; omega)), Below.heap_setCell _ _ _ _ (by first | (simp; done) | (simp; omega)), Below.heap_setCell _ _ _ _ (by first | (simp; done) | (simp; omega)), Below.heap_setCell _ _ _ _ (by first | (simp; done) | (simp; omega)), Below.heap_setCell _ _ _ _ (by first | (simp; done) | (simp; omega)), Below.heap_setCell _ _ _ _ (by first | (simp; done) | (simp; omega)), Below.heap_setCell _ _ _ _ (by first | (simp; done) | (simp; omega)), Below.heap_setCell _ _ _ _ (by first | (simp; done) | (simp; omega)), Below.heap_setCell _ _ _ _ (by first | (simp; done) | (simp; omega))]
    exact H2.out
  have B2 : Hid (Below w.heap.size w W2) := by
    show Below _ _ _
    rw [← hW2.out]
    exact below_drew (Below.setCell (Below.setCell (Below.setCell (Below.setCell (Below.setCell (Below.setCell (Below.setCell (Below.setCell (Below.setCell HB0.out (p := ⟨w.heap.size + 1 + 1, 2, none⟩) (show w.heap.size ≤ w.heap.size + 1 + 1 by omega) (.string x.name)) (p := ⟨w.heap.size + 1 + 1, 3, none⟩) (show w.heap.size ≤ w.heap.size + 1 + 1 by omega) (.string x.user)) (p := ⟨w.heap.size + 1 + 1, 4, none⟩) (show w.heap.size ≤ w.heap.size + 1 + 1 by omega) (.string x.account)) (p := ⟨w.heap.size + 1 + 1, 5, none⟩) (show w.heap.size ≤ w.heap.size + 1 + 1 by omega) (.int .i64 x.shape.kind)) (p := ⟨w.heap.size + 1 + 1, 6, none⟩) (show w.heap.size ≤ w.heap.size + 1 + 1 by omega) (.slice A n c)) (p := ⟨w.heap.size + 1 + 1, 7, none⟩) (show w.heap.size ≤ w.heap.size + 1 + 1 by omega) (.int .i64 x.shape.mn)) (p := ⟨w.heap.size + 1 + 1, 8, none⟩) (show w.heap.size ≤ w.heap.size + 1 + 1 by omega) (.int .i64 x.shape.mx)) (p := ⟨w.heap.size + 1 + 1, 9, none⟩) (show w.heap.size ≤ w.heap.size + 1 + 1 by omega) (.int .i64 x.shape.wall)) (p := ⟨w.heap.size + 1 + 1, 14, none⟩) (show w.heap.size ≤ w.heap.size + 1 + 1 by omega) (.slice A2 m c2))
  have x0 : W1.cell? ⟨w.heap.size, 0, none⟩ = some (.int .i64 1) := (cell_of_row W1 _ 0 _ _ _ h1).trans e0
  have HROW : Hid ((((w.alloc (.cells cs 77)).alloc (.cells #[.int .i64 0, .int .i64 0, .string ⟨#[]⟩, .string ⟨#[]⟩, .string ⟨#[]⟩, .int .i64 0, .slice none 0 0, .int .i64 0, .int .i64 0, .int .i64 0, .int .i64 0, .bool false, .int .i64 0, .bool false, .slice none 0 0, .int .i64 0, .int .i64 0, .int .i64 0] 77)).alloc (.cells #[.int .i64 0, .int .i64 0, .string ⟨#[]⟩, .string ⟨#[]⟩, .string ⟨#[]⟩, .int .i64 0, .slice none 0 0, .int .i64 0, .int .i64 0, .int .i64 0, .int .i64 0, .bool false, .int .i64 0, .bool false, .slice none 0 0, .int .i64 0, .int .i64 0, .int .i64 0] 77)).setRow (w.heap.size + 1 + 1) #[.int .i64 1, .int .i64 0, .string ⟨#[]⟩, .string ⟨#[]⟩, .string ⟨#[]⟩, .int .i64 0, .slice none 0 0, .int .i64 0, .int .i64 0, .int .i64 0, .int .i64 0, .bool false, .int .i64 0, .bool false, .slice none 0 0, .int .i64 0, .int .i64 0, .int .i64 0] = W1) := by
    show _ = _
    have hrow := World.setRow_alloc_new ((w.alloc (.cells cs 77)).alloc (.cells #[.int .i64 0, .int .i64 0, .string ⟨#[]⟩, .string ⟨#[]⟩, .string ⟨#[]⟩, .int .i64 0, .slice none 0 0, .int .i64 0, .int .i64 0, .int .i64 0, .int .i64 0, .bool false, .int .i64 0, .bool false, .slice none 0 0, .int .i64 0, .int .i64 0, .int .i64 0] 77)) #[.int .i64 0, .int .i64 0, .string ⟨#[]⟩, .string ⟨#[]⟩, .string ⟨#[]⟩, .int .i64 0, .slice none 0 0, .int .i64 0, .int .i64 0, .int .i64 0, .int .i64 0, .bool false, .int .i64 0, .bool false, .slice none 0 0, .int .i64 0, .int .i64 0, .int .i64 0] #[.int .i64 1, .int .i64 0, .string ⟨#[]⟩, .string ⟨#[]⟩, .string ⟨#[]⟩, .int .i64 0, .slice none 0 0, .int .i64 0, .int .i64 0, .int .i64 0, .int .i64 0, .bool false, .int .i64 0, .bool false, .slice none 0 0, .int .i64 0, .int .i64 0, .int .i64 0] 77
    rw [World.size_alloc, World.size_alloc] at hrow
    rw [hrow, hW1.out]
  clear h1 h2 h3 hb0
  go_enter Tryz.func49, Tryz.ntmps49
  go_wp2_with (refine wpList_store_row rfl 77 _ _ rfl (w.heap.size + 1 + 1) _ rfl rfl 77 _ (three_block w _ _ _).2.2 (by kernel_rfl) rfl (by rw [List.all_toArray]; rfl) ?_; rw [HROW.out])
  go_region
  rw [hW2.out]
  clear hf1 x2 o2 x3 o3 x4 o4 x5 o5 x6 o6 x7 o7 x8 o8 x9 o9 x14 o14
  have hs2 : w.heap.size + 1 + 1 < W2.heap.size := (Array.getElem?_eq_some_iff.1 O2.out).1
  have hf2 : ∀ j, W2.frozen? ⟨w.heap.size + 1 + 1, j, none⟩ = false := fun j => by simp [World.frozen?, O2.out]
  have x10 : W2.cell? ⟨w.heap.size, 10, none⟩ = some (.int .i64 x.prio) := (cell_of_row W2 _ 10 _ _ _ J2.out).trans e10
  have x11 : W2.cell? ⟨w.heap.size, 11, none⟩ = some (.bool x.hasPrio) := (cell_of_row W2 _ 11 _ _ _ J2.out).trans e11
  have o10 : W2.cell? ⟨w.heap.size + 1 + 1, 10, none⟩ = some (.int .i64 0) := cell_of_row W2 _ 10 _ _ _ O2.out
  have o11 : W2.cell? ⟨w.heap.size + 1 + 1, 11, none⟩ = some (.bool false) := cell_of_row W2 _ 11 _ _ _ O2.out
  obtain ⟨W3, hW3⟩ : ∃ v, Hid (((W2.setCell ⟨w.heap.size + 1 + 1, 10, none⟩ (.int .i64 x.prio)).setCell ⟨w.heap.size + 1 + 1, 11, none⟩ (.bool x.hasPrio)).drew = v) := ⟨_, rfl⟩
  have O3 : Hid (W3.heap[w.heap.size + 1 + 1]? = some (.cells #[.int .i64 1, .int .i64 0, .string x.name, .string x.user, .string x.account, .int .i64 x.shape.kind, .slice A n c, .int .i64 x.shape.mn, .int .i64 x.shape.mx, .int .i64 x.shape.wall, .int .i64 x.prio, .bool x.hasPrio, .int .i64 0, .bool false, .slice A2 m c2, .int .i64 0, .int .i64 0, .int .i64 0] 77 (0, 0))) := by
    show _ = _
    rw [← hW3.out, drew_heap]
    have h := (setCell_blk (k := 11) (a := .bool x.hasPrio) (setCell_blk (k := 10) (a := .int .i64 x.prio) O2.out))
    simp only [List.setIfInBounds_toArray, List.set_cons_succ, List.set_cons_zero] at h
    exact h
  have J3 : Hid (W3.heap[w.heap.size]? = some (.cells cs 77 (0, 0))) := by
    show _ = _
    rw [← hW3.out, drew_heap, Below.heap_setCell _ _ _ _ (by first | (simp; done) | (simp; omega)), Below.heap_setCell _ _ _ _ (by first | (simp; done) | (simp; omega))]
    exact J2.out
  have R3 : Hid (W3.heap[w.heap.size + 1]? = some (.cells #[.int .i64 0, .int .i64 0, .string ⟨#[]⟩, .string ⟨#[]⟩, .string ⟨#[]⟩, .int .i64 0, .slice none 0 0, .int .i64 0, .int .i64 0, .int .i64 0, .int .i64 0, .bool false, .int .i64 0, .bool false, .slice none 0 0, .int .i64 0, .int .i64 0, .int .i64 0] 77 (0, 0))) := by
    show _ = _
    rw [← hW3.out, drew_heap, Below.heap_setCell _ _ _ _ (by first | (simp; done) | (simp; omega)), Below.heap_setCell _ _ _ _ (by first | (simp; done) | (simp; omega))]
    exact R2.out
  have B3 : Hid (Below w.heap.size w W3) := by
    show Below _ _ _
    rw [← hW3.out]
    exact below_drew (Below.setCell (Below.setCell B2.out (p := ⟨w.heap.size + 1 + 1, 10, none⟩) (show w.heap.size ≤ w.heap.size + 1 + 1 by omega) (.int .i64 x.prio)) (p := ⟨w.heap.size + 1 + 1, 11, none⟩) (show w.heap.size ≤ w.heap.size + 1 + 1 by omega) (.bool x.hasPrio))
  go_wp2
  go_region
  rw [hW3.out]
  clear hf2 x10 o10 x11 o11
  have hs3 : w.heap.size + 1 + 1 < W3.heap.size := (Array.getElem?_eq_some_iff.1 O3.out).1
  go_wp2_with (first
    | (refine wpList_load_row rfl 77 _ rfl (w.heap.size + 1 + 1) rfl 77 _ (0, 0) _ O3.out Tryz.underlying77 rfl (by kernel_rfl) ?_)
    | (refine wpList_store_row rfl 77 _ _ rfl (w.heap.size + 1) _ rfl rfl 77 _ R3.out (by kernel_rfl) rfl (by rw [List.all_toArray]; rfl) ?_))
  (try simp only [Exit.inBlock, Exit.then])
  refine bodyPost_ret (results_cell_row rfl _ _ (w.heap.size + 1) _ _ _ _ rfl (setRow_heap _ _ _ _ _ _ R3.out) Tryz.underlying77 rfl (by kernel_rfl)) rfl ?_
  exact ⟨rfl, below_row B3.out (by omega) _⟩
/-- a whole row read in a region that draws its order -/
theorem quiet_load_row {P : Program} {C : World → Prop} {o : Oper} {a : Act} {K : Act → Prop} (ty : TypeId) (x : Operand) (ho : o.op = .load ty x) (g : Nat) (hx : a.eval x = .pointer (some ⟨g, 0, none⟩)) (t : TypeId) (cs : Array Value) (fr : Nat × Nat) (d : TypeDesc)
    (hg : ∀ w, C w → w.heap[g]? = some (.cells cs t fr)) (hu : P.underlying ty = some d) (hd : (match d with | .struct _ | .array _ _ => true | _ => false) = true) (hi : (P.info? ty).map (·.size) = some cs.size)
    (h : K (a.put o.dst (.agg cs))) : o.quiet P a C K := by
  refine ⟨.agg cs, fun w hw => ?_, h⟩
  unfold Oper.quietAt execOp
  simp only [ho, hx, Instr.loadAt, Instr.sureAddr, Sem.run_bind, Sem.run_pure, Result.andThen_ok, run_loadVar_row w g t ty cs fr d (hg w hw) hu hd hi]
  exact ⟨rfl, rfl⟩
theorem later_row {w : World} {g : Nat} {o : Obj} (h : w.heap[g]? = some o) : ∀ w', (∃ x : Later w, w' = x.val) → w'.heap[g]? = some o := by
  rintro _ ⟨x, rfl⟩
  exact (x.below.block g (Array.getElem?_eq_some_iff.1 h).1).trans h
theorem bare_at {w : World} {B : Nat} {x : Cm} {A A2 : Option Addr} {c c2 : Nat} (hk : x.kind = 1) (h : CmAt w B x A c A2 c2) : CmAt w B (bareC x) A c A2 c2 := by
  unfold bareC
  rw [if_pos hk]
  exact h
set_option maxHeartbeats 8000000 in
set_option maxRecDepth 100000 in
theorem chk_submit_any (x : Cm) (A A2 : Option Addr) (c c2 B : Nat) (w : World) (hk : x.kind = 1) (ha : CmAt w B x A c A2 c2) (hB : B ≤ w.heap.size) (hz : CmSz x) :
    Calls Tryz.prog 29 #[cmV x A c A2 c2] w fun e w' => e = .returned (.int .i64 (cmdE x)) ∧ Below w.heap.size w w' := by
  have hf := Lib.hid (fun v (hv : Below w.heap.size w v) => fits_any x A A2 c c2 B v (ha.below (hv.mono hB)) (Nat.le_trans hB hv.size) hz)
  have hbr := Lib.hid (fun v => bare_submit x A A2 c c2 v hk)
  have hsm := Lib.hid (fun v (hv : Below w.heap.size w v) => sameC_any x (bareC x) A A2 A A2 c c2 c c2 B v (ha.below (hv.mono hB)) (bare_at hk (ha.below (hv.mono hB))) (Nat.le_trans hB hv.size))
  have HE : Hid (cmdE x = if (decide (x.shape.alts.length ≤ 6) && (decide (x.after.length ≤ 4) && (fitB x && sameC x (bareC x)))) = true then 0 else 80) := rfl
  clear ha hB hz hk
  obtain ⟨R, hR⟩ : ∃ R, cmdE x = R := ⟨_, rfl⟩
  rw [hR] at HE ⊢
  obtain ⟨z1, hz1⟩ : ∃ q, fitB x = q := ⟨_, rfl⟩
  rw [hz1] at hf HE
  obtain ⟨z2, hz2⟩ : ∃ q, sameC x (bareC x) = q := ⟨_, rfl⟩
  rw [hz2] at hsm HE
  clear hR hz1 hz2
  rw [cmV_is x] at hf hbr hsm ⊢
  obtain ⟨V, hV⟩ : ∃ V, cmV (bareC x) A c A2 c2 = V := ⟨_, rfl⟩
  rw [hV] at hbr hsm
  have e6 : (cmA x A c A2 c2)[6]? = some (.slice A x.shape.alts.length c) := rfl
  have e14 : (cmA x A c A2 c2)[14]? = some (.slice A2 x.after.length c2) := rfl
  have HS := Lib.hid (cmA_size x A c A2 c2)
  obtain ⟨cs, hcs⟩ : ∃ cs, cmA x A c A2 c2 = cs := ⟨_, rfl⟩
  rw [hcs] at e6 e14 HS hf hbr hsm ⊢
  obtain ⟨n, hn⟩ : ∃ n, x.shape.alts.length = n := ⟨_, rfl⟩
  obtain ⟨m, hm⟩ : ∃ n, x.after.length = n := ⟨_, rfl⟩
  rw [hn] at e6 HE
  rw [hm] at e14 HE
  clear hcs hn hm hV
  have HBX : Hid (Below w.heap.size w (w.alloc (.cells cs 77))) := (Below.refl _ _).alloc (Nat.le_refl _) _
  obtain ⟨W0, hW0⟩ : ∃ W0, Hid (w.alloc (.cells cs 77) = W0) := ⟨_, rfl⟩
  have hcx : W0.heap[w.heap.size]? = some (.cells cs 77 (0, 0)) := by
    rw [← hW0.out]
    exact heap_alloc_new w _
  rw [hW0.out] at HBX
  have hs0 : w.heap.size < W0.heap.size := (Array.getElem?_eq_some_iff.1 hcx).1
  have x6 : W0.cell? ⟨w.heap.size, 6, none⟩ = some (.slice A n c) := (cell_of_row W0 _ 6 _ _ _ hcx).trans e6
  have x14 : W0.cell? ⟨w.heap.size, 14, none⟩ = some (.slice A2 m c2) := (cell_of_row W0 _ 14 _ _ _ hcx).trans e14
  have HCX := Lib.hid hcx
  clear hcx
  by_cases h6 : n ≤ 6
  case neg =>
    have t1 : decide ((6 : Int) < (n : Int)) = true := by simp; omega
    have t1' : decide (6 < n) = true := by simp; omega
    rw [decide_eq_false h6] at HE
    clear h6
    have HR : Hid (R = 80) := by show _ = _; rw [HE.out]; rfl
    clear HE
    go_enter Tryz.func29, Tryz.ntmps29
    go_wp2
    rw [hW0.out]
    refine wp_region_later (by kernel_rfl) (by kernel_rfl) ?_
    have hl_ := later_cell (W0)
    try simp only [Act.put]
    repeat (first | (go_big_quiet_want; refine quiet_load_row 77 _ rfl (w.heap.size) rfl 77 _ (0, 0) _ (later_row HCX.out) Tryz.underlying77 rfl (info27 HS.out) ?_; go_simp; go_big_quiet_on) | go_big_quiet_step (((first | (go_at_call 47; exact later_of (hf.out _ (HBX.out.trans ((Later.below _).mono (by omega))))) | (go_at_call 49; exact later_of (hbr.out _)) | (go_at_call 48; exact later_of (hsm.out _ (HBX.out.trans ((Later.below _).mono (by omega)))))))) | quiet_step (((first | (go_at_call 47; exact later_of (hf.out _ (HBX.out.trans ((Later.below _).mono (by omega))))) | (go_at_call 49; exact later_of (hbr.out _)) | (go_at_call 48; exact later_of (hsm.out _ (HBX.out.trans ((Later.below _).mono (by omega)))))))))
    refine wpQuiet_nil ?_
    intro w9 hx_
    obtain ⟨⟨w_, hb9⟩, e_⟩ := hx_
    have e2_ : w9 = w_ := e_
    clear e_
    subst e2_
    clear hl_
    go_wp2
    go_ret
    exact ⟨by rw [HR.out]; rfl, HBX.out.trans (hb9.mono (by omega))⟩
  have t1 : decide ((6 : Int) < (n : Int)) = false := by simp; omega
  have t1' : decide (6 < n) = false := by simp; omega
  rw [decide_eq_true h6] at HE
  clear h6
  by_cases h4 : m ≤ 4
  case neg =>
    have t2 : decide ((4 : Int) < (m : Int)) = true := by simp; omega
    have t2' : decide (4 < m) = true := by simp; omega
    rw [decide_eq_false h4] at HE
    clear h4
    have HR : Hid (R = 80) := by show _ = _; rw [HE.out]; rfl
    clear HE
    go_enter Tryz.func29, Tryz.ntmps29
    go_wp2
    rw [hW0.out]
    refine wp_region_later (by kernel_rfl) (by kernel_rfl) ?_
    have hl_ := later_cell (W0)
    try simp only [Act.put]
    repeat (first | (go_big_quiet_want; refine quiet_load_row 77 _ rfl (w.heap.size) rfl 77 _ (0, 0) _ (later_row HCX.out) Tryz.underlying77 rfl (info27 HS.out) ?_; go_simp; go_big_quiet_on) | go_big_quiet_step (((first | (go_at_call 47; exact later_of (hf.out _ (HBX.out.trans ((Later.below _).mono (by omega))))) | (go_at_call 49; exact later_of (hbr.out _)) | (go_at_call 48; exact later_of (hsm.out _ (HBX.out.trans ((Later.below _).mono (by omega)))))))) | quiet_step (((first | (go_at_call 47; exact later_of (hf.out _ (HBX.out.trans ((Later.below _).mono (by omega))))) | (go_at_call 49; exact later_of (hbr.out _)) | (go_at_call 48; exact later_of (hsm.out _ (HBX.out.trans ((Later.below _).mono (by omega)))))))))
    refine wpQuiet_nil ?_
    intro w9 hx_
    obtain ⟨⟨w_, hb9⟩, e_⟩ := hx_
    have e2_ : w9 = w_ := e_
    clear e_
    subst e2_
    clear hl_
    go_wp2
    go_ret
    exact ⟨by rw [HR.out]; rfl, HBX.out.trans (hb9.mono (by omega))⟩
  have t2 : decide ((4 : Int) < (m : Int)) = false := by simp; omega
  have t2' : decide (4 < m) = false := by simp; omega
  rw [decide_eq_true h4] at HE
  clear h4
  cases z1
  case false =>
    have HR : Hid (R = 80) := by show _ = _; rw [HE.out]; rfl
    clear HE
    go_enter Tryz.func29, Tryz.ntmps29
    go_wp2
    rw [hW0.out]
    refine wp_region_later (by kernel_rfl) (by kernel_rfl) ?_
    have hl_ := later_cell (W0)
    try simp only [Act.put]
    repeat (first | (go_big_quiet_want; refine quiet_load_row 77 _ rfl (w.heap.size) rfl 77 _ (0, 0) _ (later_row HCX.out) Tryz.underlying77 rfl (info27 HS.out) ?_; go_simp; go_big_quiet_on) | go_big_quiet_step (((first | (go_at_call 47; exact later_of (hf.out _ (HBX.out.trans ((Later.below _).mono (by omega))))) | (go_at_call 49; exact later_of (hbr.out _)) | (go_at_call 48; exact later_of (hsm.out _ (HBX.out.trans ((Later.below _).mono (by omega)))))))) | quiet_step (((first | (go_at_call 47; exact later_of (hf.out _ (HBX.out.trans ((Later.below _).mono (by omega))))) | (go_at_call 49; exact later_of (hbr.out _)) | (go_at_call 48; exact later_of (hsm.out _ (HBX.out.trans ((Later.below _).mono (by omega)))))))))
    refine wpQuiet_nil ?_
    intro w9 hx_
    obtain ⟨⟨w_, hb9⟩, e_⟩ := hx_
    have e2_ : w9 = w_ := e_
    clear e_
    subst e2_
    clear hl_
    go_wp2
    go_ret
    exact ⟨by rw [HR.out]; rfl, HBX.out.trans (hb9.mono (by omega))⟩
  cases z2
  case false =>
    have HR : Hid (R = 80) := by show _ = _; rw [HE.out]; rfl
    clear HE
    go_enter Tryz.func29, Tryz.ntmps29
    go_wp2
    rw [hW0.out]
    refine wp_region_later (by kernel_rfl) (by kernel_rfl) ?_
    have hl_ := later_cell (W0)
    try simp only [Act.put]
    repeat (first | (go_big_quiet_want; refine quiet_load_row 77 _ rfl (w.heap.size) rfl 77 _ (0, 0) _ (later_row HCX.out) Tryz.underlying77 rfl (info27 HS.out) ?_; go_simp; go_big_quiet_on) | go_big_quiet_step (((first | (go_at_call 47; exact later_of (hf.out _ (HBX.out.trans ((Later.below _).mono (by omega))))) | (go_at_call 49; exact later_of (hbr.out _)) | (go_at_call 48; exact later_of (hsm.out _ (HBX.out.trans ((Later.below _).mono (by omega)))))))) | quiet_step (((first | (go_at_call 47; exact later_of (hf.out _ (HBX.out.trans ((Later.below _).mono (by omega))))) | (go_at_call 49; exact later_of (hbr.out _)) | (go_at_call 48; exact later_of (hsm.out _ (HBX.out.trans ((Later.below _).mono (by omega)))))))))
    refine wpQuiet_nil ?_
    intro w9 hx_
    obtain ⟨⟨w_, hb9⟩, e_⟩ := hx_
    have e2_ : w9 = w_ := e_
    clear e_
    subst e2_
    clear hl_
    go_wp2
    go_ret
    exact ⟨by rw [HR.out]; rfl, HBX.out.trans (hb9.mono (by omega))⟩
  have HR : Hid (R = 0) := by show _ = _; rw [HE.out]; rfl
  clear HE
  go_enter Tryz.func29, Tryz.ntmps29
  go_wp2
  rw [hW0.out]
  refine wp_region_later (by kernel_rfl) (by kernel_rfl) ?_
  have hl_ := later_cell (W0)
  try simp only [Act.put]
  repeat (first | (go_big_quiet_want; refine quiet_load_row 77 _ rfl (w.heap.size) rfl 77 _ (0, 0) _ (later_row HCX.out) Tryz.underlying77 rfl (info27 HS.out) ?_; go_simp; go_big_quiet_on) | go_big_quiet_step (((first | (go_at_call 47; exact later_of (hf.out _ (HBX.out.trans ((Later.below _).mono (by omega))))) | (go_at_call 49; exact later_of (hbr.out _)) | (go_at_call 48; exact later_of (hsm.out _ (HBX.out.trans ((Later.below _).mono (by omega)))))))) | quiet_step (((first | (go_at_call 47; exact later_of (hf.out _ (HBX.out.trans ((Later.below _).mono (by omega))))) | (go_at_call 49; exact later_of (hbr.out _)) | (go_at_call 48; exact later_of (hsm.out _ (HBX.out.trans ((Later.below _).mono (by omega)))))))))
  refine wpQuiet_nil ?_
  intro w9 hx_
  obtain ⟨⟨w_, hb9⟩, e_⟩ := hx_
  have e2_ : w9 = w_ := e_
  clear e_
  subst e2_
  clear hl_
  go_wp2
  go_ret
  exact ⟨by rw [HR.out]; rfl, HBX.out.trans (hb9.mono (by omega))⟩
end Go.Proofs.YtmkmmggimokagaaGreatDoor
