/- Bundle P8. -/
import Derived.Test.YtjmhaoplablmnaaGreatDoorP1s
import Derived.Test.YtjmhaoplablmnaaGreatDoorP2s
import Derived.Test.YtjmhaoplablmnaaGreatDoorP7s
namespace Go.Proofs.YtjmhaoplablmnaaGreatDoor
set_option linter.unusedSimpArgs false
set_option maxRecDepth 100000
set_option linter.unusedVariables false
open Go.RowKit
section
variable {us : List Tk} {en : Int} {i : Nat} {t : Tk} {rest : List Tk}
end
inductive FitF : Fl → Prop where
  | user (s : ByteArray) (h : nameB s = true) : FitF (bU, .word s)
  | account (s : ByteArray) (h : nameB s = true) : FitF (bA, .word s)
  | prio (n : Int) (h : inB n 0 100 = true) : FitF (bPrio, .num n)
  | dep (d n : Int) (h : inB n 1 99999 = true) : FitF (depW d, .num n)
  | frm (n : Int) (h : inB n 0 1000000 = true) : FitF (bFrom, .num n)
  | nodes (n : Int) (h : inB n 1 48 = true) : FitF (bNodes, .num n)
  | alt (a b : Int) (h : inB a 1 48 = true) (h2 : inB b 1 100000 = true) : FitF (bAlt, .alt a b)
  | rng (a b : Int) (h : inB a 1 48 = true) (h2 : inB b 1 48 = true) : FitF (bRange, .rng a b)
  | time (n : Int) (h : inB n 1 100000 = true) : FitF (bTime, .time n)
theorem in_iff {n a b : Int} : inB n a b = true ↔ a ≤ n ∧ n ≤ b := by unfold inB; simp
theorem dep_or (d : Int) : depW d = bAny ∨ depW d = bGood ∨ depW d = bBad := by
  unfold depW
  split
  · exact .inl rfl
  · split
    · exact .inr (.inl rfl)
    · exact .inr (.inr rfl)
theorem FitF.ok {f : Fl} (h : FitF f) (hw : ∀ s, f.2 = .word s → wordB s = true) : lowN f.1 ∧ okVt f.2 := by
  have low : ∀ l ∈ [bU, bA, bPrio, bAny, bGood, bBad, bFrom, bNodes, bAlt, bRange, bTime], lowN l := by
    intro l hl
    simp only [List.mem_cons, List.not_mem_nil, or_false] at hl
    rcases hl with rfl | rfl | rfl | rfl | rfl | rfl | rfl | rfl | rfl | rfl | rfl <;> exact ⟨by decide, by decide⟩
  cases h with
  | user s h => exact ⟨low _ (by simp), h, hw s rfl⟩
  | account s h => exact ⟨low _ (by simp), h, hw s rfl⟩
  | prio n h => rw [in_iff] at h; exact ⟨low _ (by simp), by unfold okVt; dsimp only; omega⟩
  | dep d n h => rw [in_iff] at h; exact ⟨by rcases dep_or d with e | e | e <;> (dsimp only; rw [e]; exact low _ (by simp)), by unfold okVt; dsimp only; omega⟩
  | frm n h => rw [in_iff] at h; exact ⟨low _ (by simp), by unfold okVt; dsimp only; omega⟩
  | nodes n h => rw [in_iff] at h; exact ⟨low _ (by simp), by unfold okVt; dsimp only; omega⟩
  | alt a b h h2 => rw [in_iff] at h h2; exact ⟨low _ (by simp), by unfold okVt; dsimp only; omega⟩
  | rng a b h h2 => rw [in_iff] at h h2; exact ⟨low _ (by simp), by unfold okVt; dsimp only; omega⟩
  | time n h => rw [in_iff] at h; exact ⟨low _ (by simp), by unfold okVt; dsimp only; omega⟩
theorem ba_eq {a b : ByteArray} (h : (a.toList == b.toList) = true) : a = b := by
  rw [beq_iff_eq, ByteArray.toList_eq, ByteArray.toList_eq] at h
  exact Go.WideShapes.bytes_inj h
theorem sameS_eq {a b : Sh} (h : sameS a b = true) : a = b := by
  unfold sameS at h
  simp only [Bool.and_eq_true, beq_iff_eq, decide_eq_true_eq] at h
  cases a; cases b
  simp_all
theorem sameC_eq {x y : Cm} (h : sameC x y = true) : x = y := by
  unfold sameC at h
  simp only [Bool.and_eq_true, decide_eq_true_eq] at h
  obtain ⟨h1, h2, h3, h4, h5, h6, h7, h8, h9, h10, h11, h12, h13, h14⟩ := h
  have := sameS_eq h1
  have := ba_eq h5
  have := ba_eq h6
  have := ba_eq h7
  rw [beq_iff_eq] at h3 h4 h8 h9 h10 h11 h12 h13 h14
  cases x; cases y
  simp_all
theorem cmd_ok {c : Cm} (h : cmdE c = 0) : c.shape.alts.length ≤ 6 ∧ c.after.length ≤ 4 ∧ fitB c = true ∧ c = bareC c := by
  unfold cmdE at h
  split at h
  · rename_i hc
    unfold chkB at hc
    simp only [Bool.and_eq_true, decide_eq_true_eq] at hc
    exact ⟨hc.1, hc.2.1, hc.2.2.1, sameC_eq hc.2.2.2⟩
  · cases h
theorem cmd_kind {c : Cm} (h : fitB c = true) : 1 ≤ c.kind ∧ c.kind ≤ 12 := by
  unfold fitB at h
  rw [Bool.and_eq_true] at h
  have h2 := h.2
  split at h2
  · omega
  · unfold kindB at h2
    repeat' split at h2
    all_goals first | omega | skip
    simp only [Bool.and_eq_true, beq_iff_eq] at h2
    omega
end Go.Proofs.YtjmhaoplablmnaaGreatDoor
namespace Go.Proofs.YtjmhaoplablmnaaGreatDoor
set_option linter.unusedSimpArgs false
set_option maxRecDepth 100000
set_option linter.unusedVariables false
set_option linter.unusedSimpArgs false
open Go.RowKit
theorem ran {α : Type} {p : α → Prop} {l : List α} (h : ∀ x ∈ l, p x) : ∀ x ∈ l, p x := h
end Go.Proofs.YtjmhaoplablmnaaGreatDoor
namespace Go.Proofs.YtjmhaoplablmnaaGreatDoor
set_option linter.unusedSimpArgs false
set_option maxRecDepth 100000
set_option linter.unusedVariables false
set_option linter.unusedSimpArgs false
open Go.RowKit
end Go.Proofs.YtjmhaoplablmnaaGreatDoor
namespace Go.Proofs.YtjmhaoplablmnaaGreatDoor
set_option linter.unusedSimpArgs false
set_option maxRecDepth 100000
set_option linter.unusedVariables false
set_option linter.unusedSimpArgs false
open Go.RowKit
end Go.Proofs.YtjmhaoplablmnaaGreatDoor
namespace Go.Proofs.YtjmhaoplablmnaaGreatDoor
set_option linter.unusedSimpArgs false
set_option maxRecDepth 100000
set_option linter.unusedVariables false
set_option linter.unusedSimpArgs false
open Go.RowKit
end Go.Proofs.YtjmhaoplablmnaaGreatDoor
namespace Go.Proofs.YtjmhaoplablmnaaGreatDoor
set_option linter.unusedSimpArgs false
set_option maxRecDepth 100000
set_option linter.unusedVariables false
set_option linter.unusedSimpArgs false
open Go.RowKit
section
variable {ts : List Tk} {en : Int}
end
end Go.Proofs.YtjmhaoplablmnaaGreatDoor
