/- Layer 8: the reference's names, words, dependencies. Layer 8: the reference's Check at submissions (printed by a program of my own). Layer 8: the reference's Check at submissions (printed by a program of my own). Layer 8: the reference's Check at submissions (printed by a program of my own). Layer 8: the reference's Check at submissions (printed by a program of my own). Layer 8: the reference's Check at submissions (printed by a program of my own). Layer 8, plain: a submission may be, as the program and the reference ask. -/
import Derived.Test.YtmkmmggimokagaaGreatDoorC3
import Derived.Test.YtmkmmggimokagaaGreatDoorK4
import Derived.Test.YtmkmmggimokagaaGreatDoorLexR7
import Derived.Deep.QuietTactic
import Derived.Test.YtmkmmggimokagaaGreatDoorS3
import Derived.Test.YtmkmmggimokagaaGreatDoorQ1
namespace Go.Proofs.YtmkmmggimokagaaGreatDoor
set_option linter.unusedVariables false
open Go.RowKit
/-- none ahead of k is of the same job -/
def NoJob (l : List Pr) (k : Nat) (x : Pr) : Prop := ∀ j b, j < k → l[j]? = some b → b.2 ≠ x.2
theorem noJob_any {l : List Pr} {k : Nat} {x : Pr} (h : NoJob l k x) : (l.take k).any (fun y => y.2 == x.2) = false := by
  rw [List.any_eq_false]
  intro y hy
  obtain ⟨j, hj, e⟩ := List.mem_iff_getElem.1 hy
  rw [List.length_take] at hj
  have := h j y (by omega) (by rw [← e, List.getElem_take]; exact List.getElem?_eq_getElem (by omega))
  simpa using this
theorem job_any {l : List Pr} {i j : Nat} {x y : Pr} (hj : j < i) (hy : l[j]? = some y) (e : y.2 = x.2) : (l.take i).any (fun y => y.2 == x.2) = true := by
  rw [List.any_eq_true]
  exact ⟨y, List.mem_of_getElem? (i := j) (by rw [List.getElem?_take, if_pos hj]; exact hy), by simpa using e⟩
/-- a submission has nothing of the other kinds -/
def noneS (x : Cm) : Bool := (x.job == 0) && (!x.hasTime && ((x.node == 0) && ((x.nodes == 0) && (x.frm == 0))))
/-- a submission may be, as the reference asks -/
def rsubB (x : Cm) : Bool := noneS x && (subB x && ((if x.hasPrio = true then inB x.prio 0 100 else x.prio == 0) && (x.time == 0)))
theorem cbx {w : World} {o : Obj} : Below w.heap.size w (w.alloc o) := (Below.refl _ _).alloc (Nat.le_refl _) _
theorem sameS_refl (s : Sh) : sameS s s = true := by unfold sameS; simp
theorem okS_alts {s : Sh} (h : okS s = true) : s.alts.length ≤ 6 := by
  unfold okS at h
  split at h
  · simp only [Bool.and_eq_true, decide_eq_true_eq] at h; omega
  · split at h
    · simp only [Bool.and_eq_true, decide_eq_true_eq] at h; omega
    · split at h
      · simp only [Bool.and_eq_true, decide_eq_true_eq] at h; omega
      · cases h
theorem she_alts {s : Sh} (h : shE s = 0) : s.alts.length ≤ 6 := by
  unfold shE at h
  split at h
  case isTrue hk => exact okS_alts hk
  case isFalse => omega
theorem subB_lens {x : Cm} (h : subB x = true) : x.shape.alts.length ≤ 6 ∧ x.after.length ≤ 4 := by
  unfold subB depsB at h
  simp only [Bool.and_eq_true, decide_eq_true_eq, beq_iff_eq] at h
  exact ⟨she_alts h.2, h.1.2.2⟩
set_option linter.unusedSimpArgs false in
theorem chk_submit {x : Cm} (h1 : x.kind = 1) : chkB x = rsubB x := by
  obtain ⟨kind, job, name, user, account, s, prio, hp, time, ht, after, node, nodes, frm⟩ := x
  dsimp only at h1
  subst h1
  rw [Bool.eq_iff_iff]
  have HL := @subB_lens ⟨1, job, name, user, account, s, prio, hp, time, ht, after, node, nodes, frm⟩
  unfold chkB rsubB fitB preB noneS sameC bareC
  simp only [if_true, sameS_refl, Bool.and_eq_true, decide_eq_true_eq, beq_self_eq_true, true_and, and_true, Bool.not_eq_true', beq_iff_eq]
  generalize subB ⟨1, job, name, user, account, s, prio, hp, time, ht, after, node, nodes, frm⟩ = q at HL ⊢
  cases ht
  · simp only [Bool.false_eq_true, if_false, beq_iff_eq]
    constructor
    · rintro ⟨a, b, ⟨⟨c, d⟩, e⟩, f⟩
      simp_all
    · rintro ⟨f, e, c, d⟩
      have := HL e
      simp_all
  · simp
theorem cmd_submit {x : Cm} (h1 : x.kind = 1) : cmdE x = if rsubB x = true then 0 else 80 := by unfold cmdE; rw [chk_submit h1]
end Go.Proofs.YtmkmmggimokagaaGreatDoor
