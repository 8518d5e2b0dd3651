/- Plain Lean on ledgers: what a charge leaves. -/
import Derived.Test.YtlhogedcokcmhaaLedL2
namespace Go.Proofs.Ytlhogedcokcmhaa
set_option linter.unusedVariables false
open Go.RowKit
theorem lowU_cons (v : U) (t : List U) (x : U) : lowU (v :: t) x = if ordU v x < 0 then lowU t x + 1 else 0 := by
  unfold lowU
  rw [List.takeWhile_cons]
  by_cases h : ordU v x < 0 <;> simp [h]
theorem lowU_before : ∀ {l : List U} {x : U} {k : Nat} {u : U}, k < lowU l x → l[k]? = some u → ordU u x < 0
  | [], x, k, u, h, h2 => by simp at h2
  | v :: t, x, k, u, h, h2 => by
    rw [lowU_cons] at h
    by_cases hv : ordU v x < 0
    · rw [if_pos hv] at h
      cases k with
      | zero => simp at h2; subst h2; exact hv
      | succ k => simp at h2; exact lowU_before (by omega) h2
    · rw [if_neg hv] at h; omega
theorem lowU_stop : ∀ {l : List U} {x : U} {u : U}, l[lowU l x]? = some u → ¬ ordU u x < 0
  | [], x, u, h2 => by simp at h2
  | v :: t, x, u, h2 => by
    rw [lowU_cons] at h2
    by_cases hv : ordU v x < 0
    · rw [if_pos hv] at h2; simp at h2; exact lowU_stop h2
    · rw [if_neg hv] at h2; simp at h2; subst h2; exact hv
theorem goodB_iff : ∀ {l : List U} {p : Option U}, goodB l p = true ↔ (∀ u ∈ l, goodU u = true) ∧ l.Pairwise (fun a b => ordU a b < 0) ∧ ∀ u, l.head? = some u → aheadO p u = true
  | [], p => by simp [goodB]
  | v :: t, p => by
    rw [goodB]
    simp only [Bool.and_eq_true, goodB_iff (l := t), List.mem_cons, List.pairwise_cons, List.head?_cons, Option.some.injEq]
    constructor
    · rintro ⟨⟨h1, h2⟩, h3, h4, h5⟩
      refine ⟨fun u hu => ?_, ⟨fun u hu => ?_, h4⟩, fun u hu => hu ▸ h2⟩
      · rcases hu with rfl | hu
        · exact h1
        · exact h3 u hu
      · cases t with
        | nil => cases hu
        | cons x r =>
          have h6 : ordU v x < 0 := by simpa [aheadO] using h5 x rfl
          rcases List.mem_cons.1 hu with rfl | hu
          · exact h6
          · exact ordU_trans h6 ((List.pairwise_cons.1 h4).1 u hu)
    · rintro ⟨h1, ⟨h2, h3⟩, h4⟩
      refine ⟨⟨h1 v (.inl rfl), h4 v rfl⟩, fun u hu => h1 u (.inr hu), h3, fun u hu => ?_⟩
      simpa [aheadO] using h2 u (List.mem_of_mem_head? hu)
theorem ledger_iff {l : List U} : ledgerV l = true ↔ l.length ≤ 200 ∧ (∀ u ∈ l, goodU u = true) ∧ l.Pairwise (fun a b => ordU a b < 0) := by
  unfold ledgerV
  simp only [Bool.and_eq_true, decide_eq_true_eq, goodB_iff]
  constructor
  · rintro ⟨h1, h2, h3, _⟩; exact ⟨h1, h2, h3⟩
  · rintro ⟨h1, h2, h3⟩; exact ⟨h1, h2, h3, fun _ _ => rfl⟩
/-- a charge: the entry that is charged stands between those ahead of it and those behind it -/
structure Chg (l : List U) (x : U) (n : Int) (M : List U) where
  a : List U
  b : List U
  u : U
  hu : ordU u x = 0
  hM : M = a ++ bump n u :: b
  hl : (l = a ++ u :: b) ∨ (l = a ++ b ∧ u.used = 0 ∧ u.share = 0)
  ha : ∀ v ∈ a, ordU v x < 0
  hb : ∀ v ∈ b, ordU x v < 0
theorem lowU_split (l : List U) (x : U) : ∀ v ∈ l.take (lowU l x), ordU v x < 0 := by
  intro v hv
  obtain ⟨j, hj⟩ := List.getElem?_of_mem hv
  rw [List.getElem?_take] at hj
  split at hj
  · exact lowU_before (by assumption) hj
  · cases hj
theorem ordU_pos_flip {a b : U} (h : ¬ ordU a b < 0) (h2 : ordU a b ≠ 0) : ordU b a < 0 := ordU_flip (by omega)
theorem charge_chg {l : List U} {user acct : ByteArray} {n : Int} (h : chargeE l user acct n = 0) : Nonempty (Chg l (newU user acct) n (chargeL l user acct n)) ∧ ledgerV l = true ∧ nameV user = true ∧ nameV acct = true ∧ 0 ≤ n ∧ (chargeL l user acct n).length ≤ 200 := by
  have h0 := h
  unfold chargeE at h
  cases hg : ledgerV l <;> simp [hg] at h
  cases n1 : nameV user <;> simp [n1] at h
  cases n2 : nameV acct <;> simp [n2] at h
  have hn : 0 ≤ n := by
    rcases Int.lt_or_le n 0 with h3 | h3
    · simp [h3] at h
    · exact h3
  rw [if_neg (by omega)] at h
  have hL := ledger_iff.1 hg
  have hll := lowU_le l (newU user acct)
  have hC : chargeL l user acct n = (baseL l (newU user acct)).modify (lowU l (newU user acct)) (bump n) := by unfold chargeL; rw [if_pos h0]
  have hsplit : l = l.take (lowU l (newU user acct)) ++ l.drop (lowU l (newU user acct)) := (List.take_append_drop _ _).symm
  cases hfo : foundU l (newU user acct) with
  | true =>
    have hi : ∃ u, l[lowU l (newU user acct)]? = some u ∧ ordU u (newU user acct) = 0 := by
      unfold foundU at hfo
      cases h : l[lowU l (newU user acct)]? with
      | none => rw [h] at hfo; cases hfo
      | some u => rw [h] at hfo; exact ⟨u, rfl, by simpa using hfo⟩
    obtain ⟨u, hu, ho⟩ := hi
    have hd := dropU hu
    have hl2 : l = l.take (lowU l (newU user acct)) ++ u :: l.drop (lowU l (newU user acct) + 1) := by rw [← hd]; exact hsplit
    have hM : chargeL l user acct n = l.take (lowU l (newU user acct)) ++ bump n u :: l.drop (lowU l (newU user acct) + 1) := by
      rw [hC]; unfold baseL; rw [hfo, if_pos rfl, modify_set hu, List.set_eq_take_append_cons_drop, if_pos (List.getElem?_eq_some_iff.1 hu).1]
    have hk := ordU_zero.1 ho
    refine ⟨⟨⟨_, _, u, ho, hM, .inl hl2, lowU_split l _, fun v hv => ?_⟩⟩, rfl, rfl, rfl, hn, ?_⟩
    · have h5 := hL.2.2
      rw [hl2, List.pairwise_append] at h5
      have h6 := (List.pairwise_cons.1 h5.2.1).1 v hv
      rw [← (ordU_congr (c := v) hk.1 hk.2).1]; exact h6
    · have h7 := congrArg List.length hl2
      rw [hM]; simp only [List.length_append, List.length_cons] at h7 ⊢; omega
  | false =>
    have h200 : l.length ≠ 200 := by
      intro h3
      rw [if_pos ⟨hfo, h3⟩] at h; omega
    have hx : (l.take (lowU l (newU user acct)) ++ newU user acct :: l.drop (lowU l (newU user acct)))[lowU l (newU user acct)]? = some (newU user acct) := by
      rw [List.getElem?_append_right (by simp; omega)]
      simp only [List.length_take]
      rw [show lowU l (newU user acct) - min (lowU l (newU user acct)) l.length = 0 by omega]; rfl
    have hM : chargeL l user acct n = l.take (lowU l (newU user acct)) ++ bump n (newU user acct) :: l.drop (lowU l (newU user acct)) := by
      rw [hC]; unfold baseL; rw [hfo, if_neg (by simp), modify_set hx, List.set_append_right _ _ (by simp; omega)]
      simp only [List.length_take]
      rw [show lowU l (newU user acct) - min (lowU l (newU user acct)) l.length = 0 by omega]; rfl
    refine ⟨⟨⟨_, _, newU user acct, ordU_irrefl _, hM, .inr ⟨hsplit, rfl, rfl⟩, lowU_split l _, ?_⟩⟩, rfl, rfl, rfl, hn, ?_⟩
    · intro v hv
      cases hd : l.drop (lowU l (newU user acct)) with
      | nil => rw [hd] at hv; cases hv
      | cons y r =>
        have hy : l[lowU l (newU user acct)]? = some y := by
          have := congrArg (fun z => z[0]?) hd
          simpa using this
        have h8 : ordU (newU user acct) y < 0 := ordU_pos_flip (lowU_stop hy) (by
          intro h9; unfold foundU at hfo; rw [hy] at hfo; simp [h9] at hfo)
        rw [hd] at hv
        rcases List.mem_cons.1 hv with rfl | hv
        · exact h8
        · have h5 := hL.2.2
          rw [hsplit, hd, List.pairwise_append] at h5
          exact ordU_trans h8 ((List.pairwise_cons.1 h5.2.1).1 v hv)
    · have h7 := congrArg List.length hsplit
      rw [hM]; simp only [List.length_append, List.length_cons] at h7 ⊢; omega
section
variable {l M : List U} {x : U} {n : Int}
theorem Chg.key (c : Chg l x n M) : c.u.user = x.user ∧ c.u.acct = x.acct := ordU_zero.1 c.hu
theorem Chg.sub (c : Chg l x n M) : ∀ v, v ∈ c.a ∨ v ∈ c.b → v ∈ l := by
  intro v hv
  rcases c.hl with h | ⟨h, _⟩
  · exact (congrArg (v ∈ ·) h).mpr (by simp only [List.mem_append, List.mem_cons]; exact hv.elim .inl (fun h => .inr (.inr h)))
  · exact (congrArg (v ∈ ·) h).mpr (by simp only [List.mem_append]; exact hv)
theorem Chg.uok (c : Chg l x n M) (hl : ledgerV l = true) : 0 ≤ c.u.share ∧ c.u.share ≤ c.u.used ∧ c.u.used ≤ 1000000000000 := by
  rcases c.hl with h | ⟨_, h1, h2⟩
  · have hg := ledger_mem hl (u := c.u) ((congrArg (c.u ∈ ·) h).mpr (by simp))
    unfold goodU at hg
    simp only [Bool.and_eq_true, decide_eq_true_eq] at hg
    omega
  · omega
theorem addV_two {a b : Int} (h0 : 0 ≤ a) (h1 : a ≤ 1000000000000) (h2 : 0 ≤ b) : addV 1000000000000 [a, b] = if a + b ≤ 1000000000000 then a + b else 1000000000000 := by
  unfold addV
  have e : tot 1000000000000 [a, b] = a + clamp b 0 1000000000000 := by simp only [tot, clamp_in (show ¬ a < 0 by omega) (show ¬ 1000000000000 < a by omega)]; omega
  rw [e]
  rcases clamp_cases b (E := 1000000000000) (by omega) with h | h | h
  · omega
  · rw [h.2.2]
  · rw [h.2]; split <;> split <;> omega
theorem Chg.ledger (c : Chg l x n M) (hl : ledgerV l = true) (hlen : M.length ≤ 200) (n1 : nameV x.user = true) (n2 : nameV x.acct = true) (hn : 0 ≤ n) : ledgerV M = true := by
  have hk := c.key
  have hu := c.uok hl
  have hL := ledger_iff.1 hl
  refine ledger_iff.2 ⟨hlen, fun v hv => ?_, ?_⟩
  · rw [c.hM] at hv
    rcases List.mem_append.1 hv with hv | hv
    · exact hL.2.1 v (c.sub v (.inl hv))
    · rcases List.mem_cons.1 hv with rfl | hv
      · have e1 := addV_two (b := n) (show 0 ≤ c.u.used by omega) hu.2.2 hn
        have e2 := addV_two (b := n) hu.1 (show c.u.share ≤ 1000000000000 by omega) hn
        show (nameV c.u.user && nameV c.u.acct && decide (0 ≤ addV 1000000000000 [c.u.used, n]) && decide (addV 1000000000000 [c.u.used, n] ≤ 1000000000000) && decide (0 ≤ addV 1000000000000 [c.u.share, n]) && decide (addV 1000000000000 [c.u.share, n] ≤ addV 1000000000000 [c.u.used, n])) = true
        rw [hk.1, hk.2, n1, n2, e1, e2]
        simp only [Bool.true_and, Bool.and_eq_true, decide_eq_true_eq]
        split <;> split <;> omega
      · exact hL.2.1 v (c.sub v (.inr hv))
  · rw [c.hM]
    have hpw : (c.a ++ c.b).Pairwise (fun a b => ordU a b < 0) := by
      rcases c.hl with h | ⟨h, _⟩
      · have h5 := hL.2.2
        rw [h, List.pairwise_append] at h5
        exact List.pairwise_append.2 ⟨h5.1, (List.pairwise_cons.1 h5.2.1).2, fun a ha b hb => h5.2.2 a ha b (List.mem_cons_of_mem _ hb)⟩
      · rw [← h]; exact hL.2.2
    rw [List.pairwise_append] at hpw ⊢
    refine ⟨hpw.1, List.pairwise_cons.2 ⟨fun v hv => ?_, hpw.2.1⟩, fun a ha b hb => ?_⟩
    · have := c.hb v hv
      rwa [← (ordU_congr (a := bump n c.u) (b := x) (c := v) hk.1 hk.2).1] at this
    · rcases List.mem_cons.1 hb with rfl | hb
      · have := c.ha a ha
        rwa [← (ordU_congr (a := bump n c.u) (b := x) (c := a) hk.1 hk.2).2] at this
      · exact hpw.2.2 a ha b hb
theorem tot_split (f : U → Int) (a b : List U) (u : U) : tot 1000000000000 ((a ++ u :: b).map f) = tot 1000000000000 ((a ++ b).map f) + clamp (f u) 0 1000000000000 := by
  simp only [List.map_append, List.map_cons, tot_append, tot]; omega
theorem Chg.totM (c : Chg l x n M) (f : U → Int) : tot 1000000000000 (M.map f) = tot 1000000000000 ((c.a ++ c.b).map f) + clamp (f (bump n c.u)) 0 1000000000000 := by
  exact (congrArg (fun z => tot 1000000000000 (z.map f)) c.hM).trans (tot_split f c.a c.b _)
theorem Chg.totl (c : Chg l x n M) (f : U → Int) (h0 : c.u.used = 0 → c.u.share = 0 → f c.u = 0) : tot 1000000000000 (l.map f) = tot 1000000000000 ((c.a ++ c.b).map f) + clamp (f c.u) 0 1000000000000 := by
  rcases c.hl with h | ⟨h, h1, h2⟩
  · exact (congrArg (fun z => tot 1000000000000 (z.map f)) h).trans (tot_split f c.a c.b _)
  · refine (congrArg (fun z => tot 1000000000000 (z.map f)) h).trans ?_
    rw [h0 h1 h2]; simp [clamp]
theorem tog_eq {l M : List U} {f : U → Int} (h1 : ledgerV l = true) (h2 : ledgerV M = true) (h : tot 1000000000000 (M.map f) = tot 1000000000000 (l.map f)) : togV M f = togV l f := by
  unfold togV addV; rw [if_pos h1, if_pos h2, h]
/-- what is told of others is as it was -/
theorem Chg.other (c : Chg l x n M) (h1 : ledgerV l = true) (h2 : ledgerV M = true) {f : U → Int} (hf : ∀ v : U, v.user = x.user → v.acct = x.acct → f v = 0) : togV M f = togV l f := by
  refine tog_eq h1 h2 ?_
  rw [c.totM, c.totl f (fun _ _ => hf _ c.key.1 c.key.2), hf _ c.key.1 c.key.2, hf (bump n c.u) c.key.1 c.key.2]
theorem tot_zero {l : List U} {f : U → Int} (h : ∀ v ∈ l, f v = 0) : tot 1000000000000 (l.map f) = 0 := by
  induction l with
  | nil => rfl
  | cons v t ih =>
    simp only [List.map_cons, tot, h v (by simp), ih (fun u hu => h u (by simp [hu]))]
    simp [clamp]
theorem Chg.self (c : Chg l x n M) (h1 : ledgerV l = true) (h2 : ledgerV M = true) : togV M (usedF x.user x.acct) = addV 1000000000000 [togV l (usedF x.user x.acct), n] := by
  have hz : ∀ v ∈ c.a ++ c.b, usedF x.user x.acct v = 0 := by
    intro v hv
    unfold usedF
    rw [if_neg]
    rintro ⟨e1, e2⟩
    have e := ordU_zero.2 ⟨e1, e2⟩
    rcases List.mem_append.1 hv with hv | hv
    · have := c.ha v hv; omega
    · have := c.hb v hv
      have e3 := ordU_zero.2 ⟨e1.symm, e2.symm⟩; omega
  have hu := c.uok h1
  have eu : usedF x.user x.acct c.u = c.u.used := by unfold usedF; rw [if_pos c.key]
  have eb : usedF x.user x.acct (bump n c.u) = addV 1000000000000 [c.u.used, n] := by unfold usedF; exact if_pos c.key
  have hb := addV_bds [c.u.used, n]
  have e1 : togV l (usedF x.user x.acct) = c.u.used := by
    unfold togV addV
    rw [if_pos h1, c.totl _ (fun h _ => by rw [eu, h]), tot_zero hz, eu, clamp_in (by omega) (by omega), if_pos (by omega)]; omega
  have e2 : togV M (usedF x.user x.acct) = addV 1000000000000 [c.u.used, n] := by
    unfold togV
    rw [if_pos h2]
    conv => lhs; unfold addV
    rw [c.totM, tot_zero hz, eb, clamp_in (by omega) (by omega), if_pos (by omega)]; omega
  rw [e1, e2]
theorem Chg.total (c : Chg l x n M) (h1 : ledgerV l = true) (h2 : ledgerV M = true) (hn : 0 ≤ n) (hlt : togV M (fun u => u.used) < 1000000000000) : togV M (fun u => u.used) = addV 1000000000000 [togV l (fun u => u.used), n] := by
  have hu := c.uok h1
  have hab := tot_nonneg 1000000000000 (by omega) ((c.a ++ c.b).map (fun u => u.used))
  have eM := c.totM (fun u => u.used)
  have el := c.totl (fun u => u.used) (fun h _ => h)
  have e2 := addV_two (b := n) (show 0 ≤ c.u.used by omega) hu.2.2 hn
  have hb : (bump n c.u).used = addV 1000000000000 [c.u.used, n] := rfl
  have hbd := addV_bds [c.u.used, n]
  rw [hb, clamp_in (by omega) (by omega), e2] at eM
  rw [clamp_in (by omega) (by omega)] at el
  unfold togV at hlt ⊢
  rw [if_pos h2] at hlt ⊢
  rw [if_pos h1]
  have e3 : addV 1000000000000 (M.map (fun u => u.used)) = if tot 1000000000000 (M.map (fun u => u.used)) ≤ 1000000000000 then tot 1000000000000 (M.map (fun u => u.used)) else 1000000000000 := rfl
  have e4 : addV 1000000000000 (l.map (fun u => u.used)) = if tot 1000000000000 (l.map (fun u => u.used)) ≤ 1000000000000 then tot 1000000000000 (l.map (fun u => u.used)) else 1000000000000 := rfl
  have hbl := addV_bds (l.map (fun u => u.used))
  rw [addV_two hbl.1 hbl.2 hn, e3, e4]
  rw [e3] at hlt
  split at eM <;> split at hlt <;> split <;> split <;> omega
end
end Go.Proofs.Ytlhogedcokcmhaa
