/- Layer 17: Same of like lists, Charge whole, the probe. -/
import Derived.Test.YtlhogedcokcmhaaLedW7
import Derived.Test.YtlhogedcokcmhaaLedW8
import Derived.Test.YtlhogedcokcmhaaLedW10
namespace Go.Proofs.Ytlhogedcokcmhaa
set_option linter.unusedVariables false
open Go.RowKit
set_option maxHeartbeats 400000 in
theorem equal_like (A A2 : Option Addr) (n c c2 B B2 : Nat) (l : List U) (w : World) (hn : n ≤ maxLen) (hr : Reads w B 4 A n (recs ucells l)) (hr2 : Reads w B2 4 A2 n (recs ucells l)) :
    Calls Try.prog 36 #[.slice A n c, .slice A2 n c2] w fun e w' => e = .returned (.bool true) ∧ ∃ k, w' = w.drewN k := by
  unfold maxLen at hn
  go_enter Try.func36, Try.ntmps36
  go_wp2
  go_loopw [13] (fun i wr => ∃ k m : Nat, k ≤ n ∧ i = .int .i64 k ∧ wr = w.drewN m) (fun i _ => n - (intOf i).toNat)
  case atStart => exact ⟨0, 0, Nat.zero_le _, rfl, rfl⟩
  case round =>
    obtain ⟨k, m, hk, rfl, rfl⟩ := hrel
    by_cases hlt : k < n
    · obtain ⟨b, o, u, rfl, hbb, hx, c0, c1, c2, c3⟩ := hr.u_at hlt
      obtain ⟨b', o', u', rfl, hbb', hx', d0, d1, d2, d3⟩ := hr2.u_at hlt
      obtain rfl : u = u' := by have h := hx'.out; rw [hx.out] at h; exact Option.some.inj h
      have hj0 : (0 : Int) ≤ (k : Int) := by omega
      have hj1 : (k : Int) < (n : Int) := by omega
      clear hr hr2 hx hx'
      go_wp2
      go_quiet (fail)
      go_wp2
      go_roundw
      case rel => exact ⟨k + 1, _, by omega, by go_num, by first | rfl | exact World.drewN_drewN _ _ _⟩
      case measure => simp [intOf]; omega
    · clear hr hr2
      go_wp2
      go_ret
      exact ⟨rfl, m, rfl⟩
theorem same_like (A A2 : Option Addr) (n c c2 B B2 : Nat) (l : List U) (w : World) (hn : n ≤ maxLen) (hr : Reads w B 4 A n (recs ucells l)) (hr2 : Reads w B2 4 A2 n (recs ucells l)) :
    Calls Try.prog 19 #[.slice A n c, .slice A2 n c2] w fun e w' => e = .returned (.bool true) ∧ Below w.heap.size w w' := by
  go_enter Try.func19, Try.ntmps19
  go_wp2_with (go_at_call 36; refine (equal_like A A2 n c c2 B B2 l _ hn hr hr2).mono ?_; rintro e w' ⟨rfl, k, rfl⟩)
  go_ret
  exact ⟨rfl, below_drewN (Below.refl _ _) _⟩
theorem modify_set {α : Type} {f : α → α} : ∀ {l : List α} {i : Nat} {u : α}, l[i]? = some u → l.modify i f = l.set i (f u)
  | a :: t, 0, u, h => by simp at h; subst h; simp
  | a :: t, i + 1, u, h => by simp at h; simp [modify_set h]
theorem charge_any (A : Option Addr) (n c B : Nat) (l : List U) (user acct : ByteArray) (z : Int) (w : World) (hn : n ≤ maxLen) (hc : n ≤ c) (hr : Reads w B 4 A n (recs ucells l)) (hB : B ≤ w.heap.size) :
    Calls Try.prog 8 #[.slice A n c, .string user, .string acct, .int .i64 z] w (RetLE w (chargeL l user acct z) (chargeE l user acct z)) := by
  have hlen := (hr.rec_len ucells_len (by omega)).out
  by_cases h1 : ledgerV l = true ∧ (nameV user && nameV acct && decide (0 ≤ z)) = true
  · obtain ⟨hg, h2⟩ := h1
    have h2' := h2
    simp only [Bool.and_eq_true, decide_eq_true_eq] at h2'
    obtain ⟨⟨n1, n2⟩, hz⟩ := h2'
    have hz2 : decide (z < 0) = false := by simp; omega
    cases hfo : foundU l (newU user acct) with
    | true =>
      have hE : chargeE l user acct z = 0 := by unfold chargeE; simp [hg, n1, n2, hz2, hfo]
      have hi : ∃ u, l[lowU l (newU user acct)]? = some u := by
        unfold foundU at hfo
        cases h : l[lowU l (newU user acct)]? with
        | none => rw [h] at hfo; cases hfo
        | some u => exact ⟨u, rfl⟩
      obtain ⟨u, hu⟩ := hi
      have hL : chargeL l user acct z = l.set (lowU l (newU user acct)) (bump z u) := by
        unfold chargeL baseL; rw [if_pos hE, hfo, if_pos rfl, modify_set hu]
      rw [hE, hL]
      exact charge_found A n c B l user acct z w hn hc hr hB hg n1 n2 hz hfo _ rfl u hu
    | false =>
      by_cases h200 : n = 200
      · have hE : chargeE l user acct z = 3 := by unfold chargeE; simp [hg, n1, n2, hz2, hfo, hlen, h200]
        have hL : chargeL l user acct z = [] := by unfold chargeL; rw [if_neg (by rw [hE]; omega)]
        rw [hE, hL]
        exact charge_full A n c B l user acct z w hn hr hB hg n1 n2 hz hfo h200
      · have hle : n < 200 := by simp [ledgerV] at hg; omega
        have hE : chargeE l user acct z = 0 := by unfold chargeE; simp [hg, n1, n2, hz2, hfo]; omega
        have hll := lowU_le l (newU user acct)
        have hu : (l.take (lowU l (newU user acct)) ++ newU user acct :: l.drop (lowU l (newU user acct)))[lowU l (newU user acct)]? = some (newU user acct) := by
          rw [List.getElem?_append_right (by simp; omega)]
          simp only [List.length_take]
          rw [show lowU l (newU user acct) - min (lowU l (newU user acct)) l.length = 0 by omega]; rfl
        have hL : chargeL l user acct z = (l.take (lowU l (newU user acct)) ++ newU user acct :: l.drop (lowU l (newU user acct))).set (lowU l (newU user acct)) (bump z (newU user acct)) := by
          unfold chargeL baseL; rw [if_pos hE, hfo, if_neg (by simp), modify_set hu]
        rw [hE, hL]
        exact charge_new A n c B l user acct z w hn hc hr hB hg n1 n2 hz hfo hle _ rfl _ hu
  · have h2 : ledgerV l = false ∨ (nameV user && nameV acct && decide (0 ≤ z)) = false := by
      cases hg : ledgerV l
      · exact .inl rfl
      · right
        cases h3 : (nameV user && nameV acct && decide (0 ≤ z))
        · rfl
        · exact absurd ⟨hg, h3⟩ h1
    have hE : chargeE l user acct z = 2 := by
      unfold chargeE
      rcases h2 with h2 | h2
      · simp [h2]
      · cases hg : ledgerV l <;> simp
        cases n1 : nameV user <;> cases n2 : nameV acct <;> simp [n1, n2] at h2 ⊢
        intro h; omega
    have hL : chargeL l user acct z = [] := by unfold chargeL; rw [if_neg (by rw [hE]; omega)]
    rw [hE, hL]
    exact charge_bad A n c B l user acct z w hn hr hB h2
def awL : List U := [⟨⟨#[117]⟩, ⟨#[120]⟩, 7, 7⟩]
def awM : List U := [⟨⟨#[117]⟩, ⟨#[120]⟩, 7, 3⟩]
theorem aw1 : chargeL [] ⟨#[117]⟩ ⟨#[120]⟩ 7 = awL := by rfl
theorem aw2 : chargeE [] ⟨#[117]⟩ ⟨#[120]⟩ 7 = 0 := by rfl
theorem awV : ledgerV awL = true := by rfl
theorem awV2 : ledgerV awM = true := by rfl
theorem aw3 : decayL awL = awM := by rfl
theorem aw4 : chargeE awL ⟨#[]⟩ ⟨#[120]⟩ 7 = 2 := by rfl
theorem aw5 : togV awM (usedF ⟨#[117]⟩ ⟨#[120]⟩) = 7 := by unfold togV; rw [if_pos awV2]; simp [awM, usedF, addV, tot, clamp]
theorem aw6 : togV awM (shareF ⟨#[117]⟩) = 3 := by unfold togV; rw [if_pos awV2]; simp [awM, shareF, addV, tot, clamp]
theorem aw7 : togV awM (·.used) = 7 := by unfold togV; rw [if_pos awV2]; simp [awM, addV, tot, clamp]
theorem aw8 : chkE [⟨⟨#[]⟩, ⟨#[]⟩, 0, 0⟩] = 2 := by rfl
set_option maxHeartbeats 1000000 in
theorem awake_any (w : World) : Calls Try.prog 7 #[] w fun e w' => e = .returned (.bool true) ∧ Below w.heap.size w w' := by
  have r0 : Reads w w.heap.size 4 none 0 (recs ucells []) := Reads.none_
  go_enter Try.func7, Try.ntmps7
  go_wp2_with (first
    | (go_at_call 8; ((with_reducible refine (charge_any none 0 0 w.heap.size [] ⟨#[117]⟩ ⟨#[120]⟩ 7 _ (by simp [maxLen]) (Nat.le_refl _) r0 (Nat.le_refl _)).mono ?_)); rintro e w1 ⟨v1, rfl, o1, b1⟩; rw [aw2]; rw [aw1] at o1; replace o1 : Owns w1 w.heap.size 42 4 v1 1 (recs ucells awL) := o1
       obtain ⟨A1, c1, rfl, hc1, _⟩ := o1.slice
       have r1 : Reads w1 w1.heap.size 4 A1 1 (recs ucells awL) := o1.reads
       have z1 := b1.size
       have h1 : 1 ≤ c1 := hc1
       clear hc1 o1 r0)
    | (go_at_call 11; ((with_reducible refine (decay_any A1 1 c1 w1.heap.size awL _ (by simp [maxLen]) r1 (Nat.le_refl _)).mono ?_)); rintro e w2 ⟨v2, rfl, o2, hb2⟩; rw [aw3] at o2; replace o2 : Owns w2 w1.heap.size 42 4 v2 1 (recs ucells awM) := o2
       obtain ⟨A2, c2, rfl, hc2, _⟩ := o2.slice
       have r2 : Reads w2 w2.heap.size 4 A2 1 (recs ucells awM) := o2.reads
       have r1' := r1.below hb2
       have z2 := hb2.size
       have b2 := bt b1 hb2
       clear hc2 o2 r1)
    | (go_at_call 8; ((with_reducible refine (charge_any A1 1 c1 w1.heap.size awL ⟨#[]⟩ ⟨#[120]⟩ 7 _ (by simp [maxLen]) h1 r1' z2).mono ?_)); rintro e w3 ⟨v3, rfl, o3, hb3⟩; rw [aw4]
       have r3 := r2.below hb3
       have z3 := hb3.size
       have b3 := bt b2 hb3
       obtain ⟨bb, o, u, rfl, hbb, hx, d0, d1, d2, d3⟩ := r3.u_at (k := 0) (by omega)
       obtain rfl : (⟨⟨#[117]⟩, ⟨#[120]⟩, 7, 3⟩ : U) = u := by have h := hx.out; simpa [awM] using h
       clear o3 r1' r2 hx)
    | (go_at_call 17; ((with_reducible refine (used_any _ 1 c2 w2.heap.size awM ⟨#[117]⟩ ⟨#[120]⟩ _ (by simp [maxLen]) r3 z3).mono ?_)); rintro e w4 ⟨rfl, hb4⟩; rw [aw5]
       have r4 := r3.below (hb4.mono z3); have z4 := hb4.size; have b4 := bt b3 hb4)
    | (go_at_call 18; ((with_reducible refine (share_any _ 1 c2 w2.heap.size awM ⟨#[117]⟩ _ (by simp [maxLen]) r4 (by omega)).mono ?_)); rintro e w5 ⟨rfl, hb5⟩; rw [aw6]
       have r5 := r4.below (hb5.mono (by omega)); have z5 := hb5.size; have b5 := bt b4 hb5)
    | (go_at_call 15; ((with_reducible refine (total_any _ 1 c2 w2.heap.size awM _ (by simp [maxLen]) r5 (by omega)).mono ?_)); rintro e w6 ⟨rfl, hb6⟩; rw [aw7]
       have r6 := r5.below (hb6.mono (by omega)); have z6 := hb6.size; have b6 := bt b5 hb6
       have r8 : Reads (w6.alloc (.cells #[.string ⟨#[]⟩, .string ⟨#[]⟩, .int .i64 0, .int .i64 0] 42)) (w6.heap.size + 1) 4 (some ⟨w6.heap.size, 0, none⟩) 1 (recs ucells [⟨⟨#[]⟩, ⟨#[]⟩, 0, 0⟩]) := Reads.madeRec (enc := ucells) w6 ⟨⟨#[]⟩, ⟨#[]⟩, 0, 0⟩ 42 rfl)
    | (go_at_call 13; ((with_reducible refine (check_any (some ⟨w6.heap.size, 0, none⟩) 1 1 (w6.heap.size + 1) [⟨⟨#[]⟩, ⟨#[]⟩, 0, 0⟩] _ (by simp [maxLen]) r8 (by simp)).mono ?_)); rintro e w7 ⟨rfl, hb7⟩; rw [aw8]
       have r7 := (r6.alloc (by omega) _).below (hb7.mono (by simp; omega)); have b7 := (b6.alloc b6.size _).trans (hb7.mono (by simp; have := b6.size; omega)))
    | (go_at_call 19; ((with_reducible refine (same_like _ _ 1 c2 c2 w2.heap.size w2.heap.size awM _ (by simp [maxLen]) r7 r7).mono ?_)); rintro e w8 ⟨rfl, hb8⟩))
  go_ret
  exact ⟨rfl, bt b7 hb8⟩
end Go.Proofs.Ytlhogedcokcmhaa
