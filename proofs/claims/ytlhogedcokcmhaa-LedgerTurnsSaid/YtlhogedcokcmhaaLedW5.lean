/- Contracts of layer 17: Decay. -/
import Derived.Test.YtlhogedcokcmhaaLedW4
namespace Go.Proofs.Ytlhogedcokcmhaa
set_option linter.unusedVariables false
open Go.RowKit
def halfU (u : U) : U := { u with share := halfV u.share }
def halfTo (k : Nat) (l : List U) : List U := (l.take k).map halfU ++ l.drop k
theorem halfTo_at {l : List U} {k : Nat} {u : U} (h : l[k]? = some u) : (halfTo k l)[k]? = some u := by
  have hk := (List.getElem?_eq_some_iff.1 h).1
  unfold halfTo
  rw [List.getElem?_append_right (by simp; omega), List.getElem?_drop]
  simp only [List.length_map, List.length_take]
  rw [show k + (k - min k l.length) = k by omega, h]
theorem halfTo_succ {l : List U} {k : Nat} {u : U} (h : l[k]? = some u) : halfTo (k + 1) l = (halfTo k l).set k (halfU u) := by
  have hk := (List.getElem?_eq_some_iff.1 h).1
  unfold halfTo
  rw [List.set_append_right _ _ (by simp; omega), dropU h]
  simp only [List.length_map, List.length_take]
  rw [show k - min k l.length = 0 by omega, List.set_cons_zero, List.take_add_one, h]
  simp
theorem Owns.u_at {w : World} {B g n c k : Nat} {l : List U} {u : U} (h : Owns w B 42 4 (.slice (some ⟨g, 0, none⟩) n c) n (recs ucells l)) (hk : k < n) (hx : l[k]? = some u) :
    B ≤ g ∧ g < w.heap.size ∧ w.cell? ⟨g, k * 4, none⟩ = some (.string u.user) ∧ w.cell? ⟨g, k * 4 + 1, none⟩ = some (.string u.acct) ∧ w.cell? ⟨g, k * 4 + 2, none⟩ = some (.int .i64 u.used) ∧ w.cell? ⟨g, k * 4 + 3, none⟩ = some (.int .i64 u.share) ∧ (∀ j, w.frozen? ⟨g, j, none⟩ = false) := by
  obtain ⟨g', c', e, hB, hg, _, _, hc, hf⟩ := h.at_ (by omega)
  have e1 : g = g' ∧ c = c' := by simpa using e
  obtain ⟨rfl, rfl⟩ := e1
  exact ⟨hB, hg, hc _ _ (by rw [show k * 4 = k * 4 + 0 by omega, recs_at ucells_len hx (by omega)]; rfl), hc _ _ (by rw [recs_at ucells_len hx (by omega)]; rfl), hc _ _ (by rw [recs_at ucells_len hx (by omega)]; rfl), hc _ _ (by rw [recs_at ucells_len hx (by omega)]; rfl), hf⟩
/-- the list that halving hands back -/
def decayL (l : List U) : List U := if ledgerV l then l.map halfU else []
def RetL (w : World) (l : List U) (en : Ending) (w' : World) : Prop := RetOwn w 42 4 l.length (recs ucells l) en w'
set_option maxHeartbeats 400000 in
theorem decay_any (A : Option Addr) (n c B : Nat) (l : List U) (w : World) (hn : n ≤ maxLen) (hr : Reads w B 4 A n (recs ucells l)) (hB : B ≤ w.heap.size) :
    Calls Try.prog 11 #[.slice A n c] w (RetL w (decayL l)) := by
  have hlen := hr.rec_len ucells_len (by omega)
  by_cases hg : ledgerV l = true
  · have hle : n ≤ 200 := by
      have h := hlen.out
      simp [ledgerV] at hg; omega
    have HE : Hid (decayL l = l.map halfU) := by show _ = _; unfold decayL; rw [if_pos hg]
    have hE : chkE l = 0 := by unfold chkE; rw [if_pos hg]
    clear hg
    go_enter Try.func11, Try.ntmps11
    go_wp2_with (first
      | (go_at_call 13; refine (check_any A n c B l _ hn hr hB).mono ?_; rintro e w1 ⟨rfl, hb1⟩; rw [hE]
         have hr1 := hr.below (hb1.mono hB); have hz1 := hb1.size; clear hr)
      | (go_at_call 23; refine (clone_any A n c B l _ (by omega) hr1 (by omega)).mono ?_; rintro e w2 ⟨v, rfl, o2, hb2⟩; obtain ⟨A2, c2, rfl, hc2, _⟩ := o2.slice
         have hz2 := hb2.size; have b2 := bt hb1 hb2; have o3 := o2.mono hz1; clear hr1 o2 hE))
    go_loopw [12] (fun i wr => ∃ k : Nat, k ≤ n ∧ i = .int .i64 k ∧ Owns wr w.heap.size 42 4 (.slice A2 n c2) n (recs ucells (halfTo k l)) ∧ Below w.heap.size w wr) (fun i _ => n - (intOf i).toNat)
    case atStart => exact ⟨0, Nat.zero_le _, rfl, by simpa [halfTo] using o3, b2⟩
    case round =>
      obtain ⟨k, hk, rfl, o4, b4⟩ := hrel
      by_cases hlt : k < n
      · obtain ⟨u, hx⟩ : ∃ u, Hid (l[k]? = some u) := ⟨l[k]'(by have := hlen.out; omega), List.getElem?_eq_getElem _⟩
        obtain ⟨g, c', e, _, _, _, _, _, _⟩ := o4.at_ (by omega)
        have e1 : A2 = some ⟨g, 0, none⟩ := by simpa using congrArg (fun v => match v with | .slice a _ _ => a | _ => none) e
        subst e1
        clear e
        obtain ⟨hBg, hgl, _, _, _, q3, hf⟩ := o4.u_at hlt (halfTo_at hx.out)
        have hf3 := hf (k * 4 + 3)
        clear hf o3 b2
        go_wp2_with (go_at_call 28; refine (half_any _ _).mono ?_; rintro e w' ⟨rfl, rfl⟩)
        go_roundw
        case rel =>
          refine ⟨k + 1, by omega, by go_num, ?_, b4.setCell hBg _⟩
          have o5 := o4.stored (by omega) (k * 4 + 3) (.int .i64 (halfV u.share))
          rw [recs_set ucells_len (halfTo_at hx.out) (by omega) (y := halfU u) rfl, ← halfTo_succ hx.out] at o5
          exact o5
        case measure => simp [intOf]; omega
      · have HL : Hid (halfTo k l = decayL l) := by
          show _ = _
          have := hlen.out
          rw [HE.out]; unfold halfTo; rw [List.take_of_length_le (by omega), List.drop_eq_nil_of_le (by omega), List.append_nil]
        have hl2 : Hid ((decayL l).length = n) := by show _ = _; rw [HE.out]; simpa using hlen.out
        go_wp2
        go_ret
        refine ⟨_, rfl, ?_, b4⟩
        rw [hl2.out, ← HL.out]; exact o4
  · have hg' : ledgerV l = false := by simpa using hg
    have HE : Hid (decayL l = []) := by show _ = _; unfold decayL; rw [if_neg hg]
    have hE : chkE l = 2 := by unfold chkE; rw [if_neg hg]
    clear hg hg'
    go_enter Try.func11, Try.ntmps11
    go_wp2_with (go_at_call 13; refine (check_any A n c B l _ hn hr hB).mono ?_; rintro e w1 ⟨rfl, hb1⟩; rw [hE])
    go_ret
    refine ⟨_, rfl, ?_, hb1⟩
    rw [HE.out]; exact Owns.nil
end Go.Proofs.Ytlhogedcokcmhaa
