/- Layer 7: the reference's Check walked. Layer 7: the reference's Check walked, lists. Layer 7: the reference's Check, Options, walked. Layer 7: the reference's Allows and Same, walked. Layer 7: the reference's Same walked. -/
import Derived.Test.YtmkmmggimokagaaGreatDoorS1
import Derived.Deep.QuietTactic
import Derived.Test.YtmkmmggimokagaaGreatDoorS2
namespace Go.Proofs.YtmkmmggimokagaaGreatDoor
set_option linter.unusedVariables false
open Go.RowKit
def sizeB (x : Int) : Bool := decide (1 ≤ x) && decide (x ≤ 48)
def wallB (x : Int) : Bool := decide (1 ≤ x) && decide (x ≤ 100000)
theorem fine_two (a : Pr) : fineA a = (sizeB a.1 && wallB a.2) := by unfold fineA sizeB wallB; rw [Bool.and_assoc, Bool.and_assoc]
theorem she_three {s : Sh} (h3 : s.kind = 3) : shE s = if (decide (s.alts.length = 0) && sizeB s.mn && sizeB s.mx && decide (s.mn ≤ s.mx) && wallB s.wall) = true then 0 else 70 := by
  unfold shE okS
  rw [if_neg (show ¬ s.kind = 1 by omega), if_neg (show ¬ s.kind = 2 by omega), if_pos h3]
  have e : (decide (s.alts.length = 0) && decide (s.mn ≤ s.mx) && fineA (s.mn, s.wall) && decide (s.mx ≤ 48)) = (decide (s.alts.length = 0) && sizeB s.mn && sizeB s.mx && decide (s.mn ≤ s.mx) && wallB s.wall) := by
    unfold fineA sizeB wallB
    rw [Bool.eq_iff_iff]
    simp only [Bool.and_eq_true, decide_eq_true_eq]
    constructor
    · rintro ⟨⟨⟨a, b⟩, ⟨⟨c, d⟩, e⟩, f⟩, g⟩
      exact ⟨⟨⟨⟨a, c, d⟩, by omega, g⟩, b⟩, e, f⟩
    · rintro ⟨⟨⟨⟨a, c, d⟩, _, g⟩, b⟩, e, f⟩
      exact ⟨⟨⟨a, b⟩, ⟨⟨c, d⟩, e⟩, f⟩, g⟩
  rw [e]
theorem apart_one {l : List Pr} (h : l.length ≤ 1) : apartL l = true := by
  rw [apart_iff]
  intro i j a b hij ha hb
  have := (List.getElem?_eq_some_iff.1 hb).1
  omega
theorem she_list {s : Sh} (h : s.kind = 1 ∨ s.kind = 2) : shE s = if (bareS s && decide (1 ≤ s.alts.length) && decide (s.alts.length ≤ if s.kind = 2 then 6 else 1) && apartL s.alts && s.alts.all fineA) = true then 0 else 70 := by
  unfold shE okS
  rcases h with h | h
  · rw [if_pos h, if_neg (show ¬ s.kind = 2 by omega)]
    have e : (bareS s && decide (s.alts.length = 1) && s.alts.all fineA) = (bareS s && decide (1 ≤ s.alts.length) && decide (s.alts.length ≤ 1) && apartL s.alts && s.alts.all fineA) := ?_
    · rw [e]
    by_cases h1 : s.alts.length = 1
    · rw [apart_one (by omega)]; simp [h1]
    · have e1 : decide (s.alts.length = 1) = false := decide_eq_false h1
      by_cases h2 : 1 ≤ s.alts.length
      · have e2 : decide (s.alts.length ≤ 1) = false := decide_eq_false (by omega)
        rw [e1, e2]; simp
      · have e2 : decide (1 ≤ s.alts.length) = false := decide_eq_false h2
        rw [e1, e2]; simp
  · rw [if_neg (show ¬ s.kind = 1 by omega), if_pos h, if_pos h]
/-- all ahead of i may be, and none behind is of the size of one of them -/
def GoodTo (l : List Pr) (i : Nat) : Prop := (∀ j a, j < i → l[j]? = some a → fineA a = true) ∧ ∀ j k (a b : Pr), j < i → j < k → l[j]? = some a → l[k]? = some b → a.1 ≠ b.1
def NoneOf (l : List Pr) (i k : Nat) (x : Pr) : Prop := ∀ j b, i < j → j < k → l[j]? = some b → x.1 ≠ b.1
theorem goodTo_next {l : List Pr} {i : Nat} {x : Pr} (h : GoodTo l i) (hx : l[i]? = some x) (hf : fineA x = true) (hn : NoneOf l i l.length x) : GoodTo l (i + 1) := by
  refine ⟨fun j a hj ha => ?_, fun j k a b hj hjk ha hb => ?_⟩
  · by_cases e : j = i
    · subst e; rw [hx] at ha; rw [← Option.some.inj ha]; exact hf
    · exact h.1 j a (by omega) ha
  · by_cases e : j = i
    · subst e
      rw [hx] at ha
      obtain rfl := Option.some.inj ha
      exact hn k b hjk (List.getElem?_eq_some_iff.1 hb).1 hb
    · exact h.2 j k a b (by omega) hjk ha hb
theorem goodTo_all {l : List Pr} (h : GoodTo l l.length) : (apartL l && l.all fineA) = true := by
  have h1 : apartL l = true := by
    rw [apart_iff]
    intro i j a b hij ha hb
    exact h.2 i j a b (List.getElem?_eq_some_iff.1 ha).1 hij ha hb
  have h2 : l.all fineA = true := by
    rw [List.all_eq_true]
    intro x hx
    obtain ⟨j, hj, e⟩ := List.mem_iff_getElem.1 hx
    exact h.1 j x hj (by rw [List.getElem?_eq_getElem hj, e])
  rw [h1, h2]; rfl
theorem bad_fine {l : List Pr} {i : Nat} {x : Pr} (hx : l[i]? = some x) (hf : fineA x = false) : (apartL l && l.all fineA) = false := by
  have : l.all fineA = false := by
    rw [List.all_eq_false]
    exact ⟨x, List.mem_of_getElem? hx, by rw [hf]; decide⟩
  rw [this, Bool.and_false]
theorem bad_same {l : List Pr} {i k : Nat} {x y : Pr} (hx : l[i]? = some x) (hy : l[k]? = some y) (hik : i < k) (e : x.1 = y.1) : (apartL l && l.all fineA) = false := by
  have : apartL l = false := by
    cases hq : apartL l with
    | false => rfl
    | true => rw [apart_iff] at hq; exact absurd e (hq i k x y hik hx hy)
  rw [this, Bool.false_and]
theorem bne_of {x : Int} (h : (x == 0) = false) : (x != 0) = true := by show (!(x == 0)) = true; rw [h]; rfl
theorem Reads.upR {w : World} {B B' n size : Nat} {A : Option Addr} {xs : List Value} (h : Reads w B size A n xs) (hB : B ≤ B') : Reads w B' size A n xs :=
  ⟨h.1, fun h0 => let ⟨ad, e, hb, hc⟩ := h.2 h0; ⟨ad, e, Nat.lt_of_lt_of_le hb hB, hc⟩⟩
theorem downN_wid (hi wall : Int) (k : Nat) : wid wall (downN hi (k + 1)) = wid wall (downN hi k) ++ [(hi - (k : Int), wall)] := by rw [downN_succ]; simp [wid]
theorem downN_at {hi : Int} {N j : Nat} (h : j < N) : (downN hi N)[j]? = some (hi - (j : Int)) := by
  unfold downN
  rw [List.getElem?_map, List.getElem?_range h]; rfl
theorem allow_hit {s : Sh} {ch n : Int} (h : ¬ (ch < 0 ∨ ((optS s).length : Int) ≤ ch)) :
    allowS s ch n = true ↔ ∃ (j : Nat) (x : Pr), (optS s)[j]? = some x ∧ x.1 = n ∧ ((j : Int) = ch ∨ s.kind = 3) := by
  unfold allowS
  rw [if_neg h]
  by_cases h3 : s.kind = 3
  · rw [if_pos h3]
    have hq : okS s = true := by
      cases hq : okS s with
      | true => rfl
      | false => rw [opt_no hq, List.length_nil] at h; exact absurd (by omega) h
    obtain ⟨_, h1, h2, h4, ho⟩ := opt_down hq h3
    rw [ho]
    simp only [Bool.and_eq_true, decide_eq_true_eq]
    constructor
    · rintro ⟨a, b⟩
      refine ⟨(s.mx - n).toNat, (n, s.wall), ?_, rfl, .inr h3⟩
      rw [List.getElem?_map, downN_at (by omega)]
      simp only [Option.map_some, Option.some.injEq, Prod.mk.injEq, and_true]
      omega
    · rintro ⟨j, x, hx, rfl, _⟩
      rw [List.getElem?_map] at hx
      have hj : j < (s.mx - s.mn + 1).toNat := by
        have : j < (downN s.mx (s.mx - s.mn + 1).toNat).length := by
          cases hd : (downN s.mx (s.mx - s.mn + 1).toNat)[j]? with
          | none => rw [hd] at hx; cases hx
          | some y => exact (List.getElem?_eq_some_iff.1 hd).1
        rwa [downN_len] at this
      rw [downN_at hj] at hx
      simp only [Option.map_some, Option.some.injEq] at hx
      subst hx
      dsimp only
      omega
  · rw [if_neg h3]
    constructor
    · intro e
      have hj : ch.toNat < (optS s).length := by omega
      refine ⟨ch.toNat, (optS s)[ch.toNat], List.getElem?_eq_getElem hj, ?_, .inl (by omega)⟩
      rw [List.getD_eq_getElem?_getD, List.getElem?_eq_getElem hj] at e
      simpa using e
    · rintro ⟨j, x, hx, e, hj⟩
      have hj2 : (j : Int) = ch := by
        rcases hj with h | h
        · exact h
        · exact absurd h h3
      have : ch.toNat = j := by omega
      rw [this, List.getD_eq_getElem?_getD, hx]
      simpa using e
def NoHit (l : List Pr) (ch n kind : Int) (i : Nat) : Prop := ∀ (j : Nat) (x : Pr), j < i → l[j]? = some x → ¬ (x.1 = n ∧ ((j : Int) = ch ∨ kind = 3))
end Go.Proofs.YtmkmmggimokagaaGreatDoor
