/- Plain Lean on ledgers: the order of entries is a strict total order; where an entry belongs. -/
import Derived.Test.YtmkmmggimokagaaGreatDoorLedP
import Derived.Lib.SlBytesConst
import Derived.Lib.Strings
namespace Go.Proofs.YtmkmmggimokagaaGreatDoor
set_option linter.unusedVariables false
open Go.RowKit

theorem less_irrefl : ∀ (a : List UInt8), Op.bytesLess a a = false
  | [] => rfl
  | x :: t => by
    rw [Op.bytesLess, less_irrefl t]
    simp
theorem less_trans : ∀ {a b c : List UInt8}, Op.bytesLess a b = true → Op.bytesLess b c = true → Op.bytesLess a c = true
  | _, [], _, h, _ => by cases ‹List UInt8› <;> simp [Op.bytesLess] at h
  | _, _ :: _, [], _, h => by simp [Op.bytesLess] at h
  | [], _ :: _, _ :: _, _, _ => rfl
  | x :: a, y :: b, z :: c, h1, h2 => by
    simp only [Op.bytesLess, Bool.or_eq_true, Bool.and_eq_true, decide_eq_true_eq, beq_iff_eq] at h1 h2 ⊢
    rcases h1 with h1 | ⟨rfl, h1⟩
    · rcases h2 with h2 | ⟨rfl, h2⟩
      · exact .inl (UInt8.lt_trans h1 h2)
      · exact .inl h1
    · rcases h2 with h2 | ⟨rfl, h2⟩
      · exact .inl h2
      · exact .inr ⟨rfl, less_trans h1 h2⟩
theorem less_total : ∀ {a b : List UInt8}, Op.bytesLess a b = false → a ≠ b → Op.bytesLess b a = true
  | [], [], _, h => absurd rfl h
  | [], _ :: _, h, _ => by simp [Op.bytesLess] at h
  | _ :: _, [], _, _ => rfl
  | x :: a, y :: b, h, hne => by
    simp only [Op.bytesLess, Bool.or_eq_false_iff, Bool.and_eq_false_iff, decide_eq_false_iff_not, beq_eq_false_iff_ne] at h
    simp only [Op.bytesLess, Bool.or_eq_true, Bool.and_eq_true, decide_eq_true_eq, beq_iff_eq]
    by_cases hxy : x = y
    · subst hxy
      refine .inr ⟨rfl, less_total (h.2.resolve_left (fun hh => hh rfl)) (fun e => hne (by rw [e]))⟩
    · left
      rcases UInt8.lt_or_le y x with h1 | h1
      · exact h1
      · exact absurd (UInt8.lt_of_le_of_ne h1 hxy) h.1
theorem tl_inj {a b : ByteArray} (h : a.toList = b.toList) : a = b := by
  rw [Lib.toList_data, Lib.toList_data] at h
  cases a; cases b; simp at h; rw [h]
theorem cmpS_neg {a b : ByteArray} : cmpS a b < 0 ↔ Op.bytesLess a.toList b.toList = true := by
  unfold cmpS
  by_cases h : Op.bytesLess a.toList b.toList = true
  · simp [h]
  · rw [if_neg h]; split <;> simp [h]
theorem cmpS_zero {a b : ByteArray} : cmpS a b = 0 ↔ a = b := by
  unfold cmpS
  by_cases h : Op.bytesLess a.toList b.toList = true
  · rw [if_pos h]
    constructor
    · intro e; simp at e
    · rintro rfl; rw [less_irrefl] at h; cases h
  · rw [if_neg h]
    by_cases h2 : (a.toList == b.toList) = true
    · rw [if_pos h2]; simp at h2; exact ⟨fun _ => tl_inj h2, fun _ => rfl⟩
    · rw [if_neg h2]
      constructor
      · intro e; simp at e
      · rintro rfl; simp at h2
theorem ordU_neg {u v : U} : ordU u v < 0 ↔ Op.bytesLess u.user.toList v.user.toList = true ∨ (u.user = v.user ∧ Op.bytesLess u.acct.toList v.acct.toList = true) := by
  unfold ordU orV
  by_cases h : cmpS u.user v.user = 0
  · rw [if_pos h, cmpS_neg]
    have e := cmpS_zero.1 h
    rw [e, less_irrefl]; simp
  · rw [if_neg h, cmpS_neg]
    constructor
    · exact .inl
    · rintro (h1 | h1)
      · exact h1
      · exact absurd (cmpS_zero.2 h1.1) h
theorem ordU_zero {u v : U} : ordU u v = 0 ↔ u.user = v.user ∧ u.acct = v.acct := by
  unfold ordU orV
  by_cases h : cmpS u.user v.user = 0
  · rw [if_pos h, cmpS_zero]
    exact ⟨fun e => ⟨cmpS_zero.1 h, e⟩, fun e => e.2⟩
  · rw [if_neg h]
    exact ⟨fun e => absurd e h, fun e => absurd (cmpS_zero.2 e.1) h⟩
theorem ordU_trans {a b c : U} (h1 : ordU a b < 0) (h2 : ordU b c < 0) : ordU a c < 0 := by
  rw [ordU_neg] at h1 h2 ⊢
  rcases h1 with h1 | ⟨e1, h1⟩ <;> rcases h2 with h2 | ⟨e2, h2⟩
  · exact .inl (less_trans h1 h2)
  · exact .inl (e2 ▸ h1)
  · exact .inl (e1 ▸ h2)
  · exact .inr ⟨e1.trans e2, less_trans h1 h2⟩
theorem ordU_congr {a b c : U} (h : a.user = b.user) (h2 : a.acct = b.acct) : ordU a c = ordU b c ∧ ordU c a = ordU c b := by
  unfold ordU; rw [h, h2]; exact ⟨rfl, rfl⟩
theorem ordU_irrefl (a : U) : ordU a a = 0 := ordU_zero.2 ⟨rfl, rfl⟩
theorem ordU_flip {a b : U} (h : 0 < ordU a b) : ordU b a < 0 := by
  have h1 : ¬ ordU a b < 0 := by omega
  have h2 : ¬ ordU a b = 0 := by omega
  rw [ordU_neg, not_or] at h1
  rw [ordU_zero] at h2
  rw [ordU_neg]
  by_cases e : a.user = b.user
  · refine .inr ⟨e.symm, less_total ?_ (fun e2 => h2 ⟨e, tl_inj e2⟩)⟩
    have := h1.2
    simp only [not_and] at this
    simpa using this e
  · exact .inl (less_total (by simpa using h1.1) (fun e2 => e (tl_inj e2)))

/-- a ledger's entries stand in order -/
theorem good_sorted : ∀ {l : List U} {p : Option U}, goodB l p = true → ∀ {i j : Nat} {a b : U}, i < j → l[i]? = some a → l[j]? = some b → ordU a b < 0
  | [], _, _, i, j, a, b, _, h1, _ => by simp at h1
  | u :: t, p, h, 0, j + 1, a, b, hij, h1, h2 => by
    simp at h1 h2; subst h1
    rw [goodB] at h
    simp only [Bool.and_eq_true] at h
    -- u ahead of every entry of t
    have key : ∀ (t : List U) (u : U), goodB t (some u) = true → ∀ (j : Nat) (b : U), t[j]? = some b → ordU u b < 0 := by
      intro t
      induction t with
      | nil => intro u _ j b hb; simp at hb
      | cons v r ih =>
        intro u hg j b hb
        rw [goodB] at hg
        simp only [Bool.and_eq_true] at hg
        have huv : ordU u v < 0 := by simpa [aheadO] using hg.1.2
        cases j with
        | zero => simp at hb; subst hb; exact huv
        | succ j => simp at hb; exact ordU_trans huv (ih v hg.2 j b hb)
    exact key t u h.2 j b h2
  | u :: t, p, h, i + 1, j + 1, a, b, hij, h1, h2 => by
    simp at h1 h2
    rw [goodB] at h
    simp only [Bool.and_eq_true] at h
    exact good_sorted h.2 (by omega) h1 h2
/-- how many entries stand ahead of one -/
def lowU (l : List U) (x : U) : Nat := (l.takeWhile (fun u => decide (ordU u x < 0))).length
theorem lowU_le (l : List U) (x : U) : lowU l x ≤ l.length := (List.takeWhile_sublist _).length_le
theorem lowU_is {l : List U} {x : U} {i : Nat} (hi : i ≤ l.length) (h1 : ∀ j u, j < i → l[j]? = some u → ordU u x < 0) (h2 : ∀ u, l[i]? = some u → ¬ ordU u x < 0) : lowU l x = i := by
  unfold lowU
  have hs : l = l.take i ++ l.drop i := (List.take_append_drop i l).symm
  rw [hs, List.takeWhile_append_of_pos (by
    intro u hu
    obtain ⟨j, hj⟩ := List.getElem?_of_mem hu
    rw [List.getElem?_take] at hj
    split at hj
    · rename_i hji; simpa using h1 j u hji hj
    · cases hj)]
  have hd : (l.drop i).takeWhile (fun u => decide (ordU u x < 0)) = [] := by
    cases hdl : l.drop i with
    | nil => rfl
    | cons v r =>
      have hv : l[i]? = some v := by
        have := congrArg (fun z => z[0]?) hdl
        simpa using this
      rw [List.takeWhile_cons, if_neg (by simpa using h2 v hv)]
  rw [hd, List.append_nil, List.length_take]; omega
end Go.Proofs.YtmkmmggimokagaaGreatDoor
