/- Layer 14, plain: a job, and whether it may be. -/
import Derived.Test.YtmkmmggimokagaaGreatDoorC3
import Derived.Test.YtmkmmggimokagaaGreatDoorQ3
namespace Go.Proofs.YtmkmmggimokagaaGreatDoor
set_option linter.unusedVariables false
open Go.RowKit
/-- a job -/
structure Jb where
  id : Int
  name : ByteArray
  user : ByteArray
  account : ByteArray
  shape : Sh
  prio : Int
  after : List Pr
  state : Int
  held : Bool
  born : Int
  promise : Int
  choice : Int
  start : Int
  limit : Int
  nodes : Nat
  used : Int
def jbV (x : Jb) (A : Option Addr) (c : Nat) (A2 : Option Addr) (c2 : Nat) : Value :=
  .agg #[.int .i64 x.id, .string x.name, .string x.user, .string x.account, .int .i64 x.shape.kind, .slice A x.shape.alts.length c, .int .i64 x.shape.mn, .int .i64 x.shape.mx, .int .i64 x.shape.wall,
    .int .i64 x.prio, .slice A2 x.after.length c2, .int .i64 x.state, .bool x.held, .int .i64 x.born, .int .i64 x.promise, .int .i64 x.choice, .int .i64 x.start, .int .i64 x.limit, .int .u64 x.nodes, .int .i64 x.used]
/-- the submission a job may come of -/
def submC (x : Jb) : Cm := ⟨1, 0, x.name, x.user, x.account, x.shape, x.prio, true, 0, false, x.after, 0, 0, 0⟩
/-- a job's lists lie in a world -/
def JbAt (w : World) (B : Nat) (x : Jb) (A : Option Addr) (c : Nat) (A2 : Option Addr) (c2 : Nat) : Prop :=
  Reads w B 2 A x.shape.alts.length (recs prC x.shape.alts) ∧ Reads w B 2 A2 x.after.length (recs prC x.after) ∧ x.shape.alts.length ≤ 100000 ∧ x.after.length ≤ 100000 ∧ x.shape.alts.length ≤ c ∧ x.after.length ≤ c2
theorem JbAt.below {w w' : World} {B : Nat} {x : Jb} {A A2 : Option Addr} {c c2 : Nat} (h : JbAt w B x A c A2 c2) (hb : Below B w w') : JbAt w' B x A c A2 c2 :=
  ⟨h.1.below hb, h.2.1.below hb, h.2.2⟩
theorem JbAt.subm {w : World} {B : Nat} {x : Jb} {A A2 : Option Addr} {c c2 : Nat} (h : JbAt w B x A c A2 c2) : CmAt w B (submC x) A c A2 c2 := h
/-- a job's texts and numbers are the machine's -/
def JbSz (x : Jb) : Prop := (x.name.size ≤ 1000000 ∧ x.user.size ≤ 1000000 ∧ x.account.size ≤ 1000000) ∧ x.nodes < M64
theorem JbSz.subm {x : Jb} (h : JbSz x) : CmSz (submC x) := h.1
def tickB (n : Int) : Bool := inB n 0 1000000
def fewS (s : Nat) : Bool := decide (s < 281474976710656)
def endedB (n : Int) : Bool := inB n 3 7
/-- a number's option; the wall of none is 0 -/
def optAt (s : Sh) (ch : Int) : Pr := if ch < 0 ∨ ((optS s).length : Int) ≤ ch then (0, 0) else (optS s).getD ch.toNat (0, 0)
def wallS (s : Sh) (ch : Int) : Int := (optAt s ch).2
/-- a number is that of an option -/
def hasO (s : Sh) (ch : Int) : Bool := !(decide (ch < 0) || decide (((optS s).length : Int) ≤ ch))
def queuedB (x : Jb) : Bool := (x.start == 0) && ((x.limit == 0) && ((x.nodes == 0) && (((x.promise == -1) && (x.choice == 0)) || (tickB x.promise && (hasO x.shape x.choice && !x.held)))))
def runB (x : Jb) : Bool := hasO x.shape x.choice && (!x.held && (tickB x.start && (tickB x.promise && (decide (x.start ≤ x.promise) && (tickB x.limit && ((x.limit == x.start + wallS x.shape x.choice) && (fewS x.nodes && allowS x.shape x.choice (memL x.nodes).length)))))))
def overB (x : Jb) : Bool := (x.nodes == 0) && (tickB x.start && (tickB x.limit && (inB x.promise (-1) 1000000 && inB x.choice 0 48)))
def stateB (x : Jb) : Bool := if x.state = 1 then queuedB x else if x.state = 2 then runB x else endedB x.state && overB x
def usedB (n : Int) : Bool := inB n 0 1000000000000
def subJ (x : Jb) : Bool := subB (submC x) && inB x.prio 0 100
def laterB (x : Jb) : Bool := x.after.any (fun d => decide (x.id ≤ d.2))
/-- a job may be -/
def okJ (x : Jb) : Bool := inB x.id 1 99999 && (tickB x.born && (usedB x.used && (subJ x && (!laterB x && stateB x))))
def jobE (x : Jb) : Int := if okJ x = true then 0 else 140
theorem used_clamp (n : Int) : (n == clamp n 0 1000000000000) = usedB n := by
  unfold clamp usedB inB
  rw [Bool.eq_iff_iff]
  simp only [beq_iff_eq, Bool.and_eq_true, decide_eq_true_eq]
  constructor
  · intro h; split at h <;> (try split at h) <;> omega
  · rintro ⟨h1, h2⟩; split <;> (try split) <;> omega
theorem optS_fine {s : Sh} {a : Pr} (h : a ∈ optS s) : fineA a = true := by
  unfold optS at h
  split at h
  case isFalse => cases h
  case isTrue hk =>
    unfold okS at hk
    split at h
    case isTrue h3 =>
      rw [if_neg (by omega), if_neg (by omega), if_pos h3] at hk
      simp only [Bool.and_eq_true, decide_eq_true_eq] at hk
      obtain ⟨⟨⟨_, h5⟩, h6⟩, h7⟩ := hk
      unfold fineA at h6 ⊢
      simp only [Bool.and_eq_true, decide_eq_true_eq] at h6 ⊢
      obtain ⟨i, hi, rfl⟩ := List.mem_map.1 h
      rw [List.mem_range] at hi
      simp only
      omega
    case isFalse h3 =>
      split at hk
      · simp only [Bool.and_eq_true] at hk
        exact List.all_eq_true.1 hk.2 _ h
      · split at hk
        · simp only [Bool.and_eq_true] at hk
          exact List.all_eq_true.1 hk.2 _ h
        · cases hk
theorem opt_bounds {s : Sh} {ch : Int} (h : hasO s ch = true) : 1 ≤ (optAt s ch).1 ∧ (optAt s ch).1 ≤ 48 ∧ 1 ≤ (optAt s ch).2 ∧ (optAt s ch).2 ≤ 100000 := by
  unfold hasO at h
  simp only [Bool.not_eq_true', Bool.or_eq_false_iff, decide_eq_false_iff_not] at h
  have e : optAt s ch = (optS s).getD ch.toNat (0, 0) := by unfold optAt; rw [if_neg (by omega)]
  have hl : ch.toNat < (optS s).length := by omega
  have hm : optAt s ch ∈ optS s := by rw [e, List.getD_eq_getElem?_getD, List.getElem?_eq_getElem hl]; exact List.getElem_mem hl
  have := optS_fine hm
  unfold fineA at this
  simp only [Bool.and_eq_true, decide_eq_true_eq] at this
  obtain ⟨⟨⟨a, b⟩, c⟩, d⟩ := this
  exact ⟨a, b, c, d⟩
theorem opt_none {s : Sh} {ch : Int} (h : hasO s ch = false) : optAt s ch = (0, 0) := by
  unfold hasO at h
  simp only [Bool.not_eq_false', Bool.or_eq_true, decide_eq_true_eq] at h
  unfold optAt
  rw [if_pos h]
theorem hasO_wall (s : Sh) (ch : Int) : hasO s ch = decide (0 < wallS s ch) := by
  cases h : hasO s ch
  · rw [show wallS s ch = 0 by unfold wallS; rw [opt_none h]]; rfl
  · have := (opt_bounds h).2.2.1
    exact (decide_eq_true (show 0 < wallS s ch by unfold wallS; omega)).symm
theorem hasO_zero (s : Sh) (ch : Int) : (wallS s ch == 0) = !hasO s ch := by
  cases h : hasO s ch
  · rw [show wallS s ch = 0 by unfold wallS; rw [opt_none h]]; rfl
  · have := (opt_bounds h).2.2.1
    exact beq_eq_false_iff_ne.2 (show wallS s ch ≠ 0 by unfold wallS; omega)
/-- two jobs are the same -/
def sameJ (x y : Jb) : Bool := sameS x.shape y.shape && (decide (x.after = y.after) && ((x.name.toList == y.name.toList) && ((x.user.toList == y.user.toList) && ((x.account.toList == y.account.toList) && ((x.id == y.id) && ((x.prio == y.prio) && ((x.state == y.state) && ((x.held == y.held) && ((x.born == y.born) && ((x.promise == y.promise) && ((x.choice == y.choice) && ((x.start == y.start) && ((x.limit == y.limit) && (((x.nodes : Int) == (y.nodes : Int)) && (x.used == y.used)))))))))))))))
end Go.Proofs.YtmkmmggimokagaaGreatDoor
