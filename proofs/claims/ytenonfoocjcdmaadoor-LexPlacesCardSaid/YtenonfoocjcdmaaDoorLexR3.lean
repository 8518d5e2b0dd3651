/- Layer 5, the document's answer: the number of runes; a text. -/
import Derived.Test.YtenonfoocjcdmaaDoorLexR2
namespace Go.Proofs.YtenonfoocjcdmaaDoor
set_option linter.unusedVariables false
open Go.RowKit
theorem valR_snoc (l : List Nat) (r : Nat) : valR (l ++ [r]) = valR l * 10 + (r - 48) := by simp [valR]
theorem valR_lt {l : List Nat} (h : ∀ r ∈ l, digR r = true) : ∀ k, k ≤ l.length → valR (l.take k) < 10 ^ k := by
  intro k
  induction k with
  | zero => intro _; simp [valR]
  | succ k ih =>
    intro hk
    have h1 := ih (by omega)
    have hx : l[k]? = some (l[k]'(by omega)) := List.getElem?_eq_getElem (by omega)
    have h2 := digR_iff.1 (h _ (List.mem_of_getElem? hx))
    rw [take_snoc hx, valR_snoc, Nat.pow_succ]
    omega
set_option maxHeartbeats 1000000 in
theorem number05_ok (A : Option Addr) (n c B : Nat) (l : List Nat) (w : World) (h : Reads w B 1 A n (rcs l)) (hd : ∀ r ∈ l, digR r = true) (hne : l ≠ []) (hok : numOk l = true) :
    Calls Tryd.prog 77 #[.slice A n c] w fun e w' => e = .returned (.int .i64 (valR l : Nat)) ∧ w = w' := by
  have hlen := h.rune_len
  have h0 : 0 < l.length := by rcases l with _ | ⟨a, t⟩; exact absurd rfl hne; simp
  have hx0 : l[0]? = some (l.headD 0) := by cases l; exact absurd rfl hne; rfl
  obtain ⟨ad, rfl, hb, hc0⟩ := h.rune_at hx0
  unfold numOk at hok
  simp at hok
  obtain ⟨h9, hz⟩ := hok
  have hrd := Lib.hid h
  have hD := Lib.hid hd
  obtain ⟨x0, hx1⟩ : ∃ x0, Hid (l.headD 0 = x0) := ⟨_, rfl⟩
  rw [hx1.out] at hc0
  have hz2 : l.length = 1 ∨ (1 < l.length ∧ ((x0 : Int) == 48) = false) := by
    rcases Nat.lt_or_ge 1 l.length with h1 | h1
    · right
      refine ⟨h1, ?_⟩
      have := hz.resolve_left (by omega)
      rw [← hx1.out]
      simp
      cases l with
      | nil => exact absurd rfl hne
      | cons a t => simp at this ⊢; omega
    · left; omega
  have hV := Lib.hid (valR_lt hd)
  clear h hd hz hne
  have tn0 : ((n : Int) == 0) = false := by simp; omega
  have tn9 : decide ((9 : Int) < (n : Int)) = false := by simp; omega
  have cell0 : w.cell? (ad.add 0) = some (.int .i32 (x0 : Int)) := hc0
  have cell0' : w.cell? ad = some (.int .i32 (x0 : Int)) := by simpa [Addr.add] using hc0
  have go : ∀ (t1 : (decide ((1 : Int) < (n : Int)) = false) ∨ (decide ((1 : Int) < (n : Int)) = true ∧ ((x0 : Int) == 48) = false)), Calls Tryd.prog 77 #[.slice (some ad) n c] w fun e w' => e = .returned (.int .i64 (valR l : Nat)) ∧ w = w' := by
    intro t1
    have t0n : (0 : Int) < (n : Int) := by omega
    rcases t1 with t1 | ⟨t1, t2⟩
    all_goals
      go_enter Tryd.func77, Tryd.ntmps77
      go_wp2
      go_loopw [3, 4] (fun u v wr => ∃ k : Nat, u = .int .i64 (valR (l.take k) : Nat) ∧ v = .int .i64 (k : Int) ∧ k ≤ n ∧ wr = w) (fun _ v _ => n - (intOf v).toNat)
      case atStart => exact ⟨0, rfl, rfl, Nat.zero_le _, rfl⟩
      case round =>
        obtain ⟨k, rfl, rfl, hkn, rfl⟩ := hrel
        by_cases hlt : k < n
        · obtain ⟨y, hy⟩ : ∃ y, Hid (l[k]? = some y) := ⟨_, List.getElem?_eq_getElem (by omega)⟩
          obtain ⟨ad2, e, _, hc1⟩ := hrd.out.rune_at hy.out
          injection e with e
          subst e
          have tk : (k : Int) < (n : Int) := by omega
          obtain ⟨hd1, hd2⟩ := digR_iff.1 (hD.out y (List.mem_of_getElem? hy.out))
          have s1 : decide ((y : Int) < 48) = false := by simp; omega
          have s2 : decide ((57 : Int) < (y : Int)) = false := by simp; omega
          have hvb : valR (l.take k) < 1000000000 := by
            have h1 := hV.out k (by omega)
            have h2 : 10 ^ k ≤ 10 ^ 9 := Nat.pow_le_pow_right (by omega) (by omega)
            omega
          have hvs : Hid (valR (l.take (k + 1)) = valR (l.take k) * 10 + (y - 48)) := by show _ = _; rw [take_snoc hy.out, valR_snoc]
          obtain ⟨vk, hvk⟩ : ∃ vk, Hid (valR (l.take k) = vk) := ⟨_, rfl⟩
          rw [hvk.out] at hvb hvs ⊢
          go_wp2
          go_roundw
          case rel => exact ⟨k + 1, by rw [hvs.out]; go_num, by go_num, by omega, by trivial⟩
          case measure => simp [intOf]; omega
        · obtain rfl : k = n := by omega
          have hE : Hid (l.take k = l) := by show _ = _; rw [← hlen]; exact List.take_length
          go_wp2
          go_ret
          exact ⟨by rw [hE.out]; first | done | rfl, rfl⟩
  rcases hz2 with h1 | ⟨h1, h2⟩
  · exact go (.inl (by simp; omega))
  · exact go (.inr ⟨by simp; omega, h2⟩)
theorem number05_bad (A : Option Addr) (n c B : Nat) (l : List Nat) (w : World) (h : Reads w B 1 A n (rcs l)) (hne : l ≠ []) (hn : n ≤ 100000) (hok : numOk l = false) :
    Calls Tryd.prog 77 #[.slice A n c] w fun e w' => e = .returned (.int .i64 (-1)) ∧ w = w' := by
  have hlen := h.rune_len
  have h0 : 0 < l.length := by rcases l with _ | ⟨a, t⟩; exact absurd rfl hne; simp
  have hx0 : l[0]? = some (l.headD 0) := by cases l; exact absurd rfl hne; rfl
  obtain ⟨ad, rfl, hb, hc0⟩ := h.rune_at hx0
  unfold numOk at hok
  simp at hok
  obtain ⟨x0, hx1⟩ : ∃ x0, Hid (l.headD 0 = x0) := ⟨_, rfl⟩
  rw [hx1.out] at hc0
  have tn0 : ((n : Int) == 0) = false := by simp; omega
  have cell0 : w.cell? (ad.add 0) = some (.int .i32 (x0 : Int)) := hc0
  have cell0' : w.cell? ad = some (.int .i32 (x0 : Int)) := by simpa [Addr.add] using hc0
  have hcase : decide ((9 : Int) < (n : Int)) = true ∨ (decide ((9 : Int) < (n : Int)) = false ∧ decide ((1 : Int) < (n : Int)) = true ∧ ((x0 : Int) == 48) = true) := by
    by_cases h9 : l.length ≤ 9
    · right
      obtain ⟨h1, h2⟩ := hok h9
      refine ⟨by simp; omega, by simp; omega, ?_⟩
      rw [← hx1.out]
      simp
      cases l with
      | nil => exact absurd rfl hne
      | cons a t => simp at h2 ⊢; omega
    · left; simp; omega
  have t0n : (0 : Int) < (n : Int) := by omega
  clear hok h hne
  rcases hcase with t1 | ⟨t1, t2, t3⟩
  all_goals
    go_enter Tryd.func77, Tryd.ntmps77
    go_wp2
    go_ret
    exact ⟨rfl, rfl⟩
/-- how far a text was read: not held -/
def St (rs : List Nat) (a i : Nat) : Prop := a ≤ i ∧ i ≤ endT rs a ∧ heldN true (rs.drop a) (i - a) = false
section
variable {rs : List Nat} {a i x : Nat}
theorem endT_more (h1 : a ≤ i) (h : i ≤ endT rs a) (hx : rs[i]? = some x) (ht : textR (heldN true (rs.drop a) (i - a)) x = true) : i + 1 ≤ endT rs a := by
  rcases Nat.lt_or_ge i (endT rs a) with h2 | h2
  · exact h2
  · have e : endT rs a = i := by omega
    have e2 : scan true (rs.drop a) = i - a := by unfold endT at e; omega
    have h3 := scan_stop (h := true) (l := rs.drop a) (x := x) (by rw [e2]; exact drop_get h1 hx)
    rw [e2, ht] at h3; cases h3
theorem endT_here (h1 : a ≤ i) (h : i ≤ endT rs a) (hx : rs[i]? = some x) (ht : textR (heldN true (rs.drop a) (i - a)) x = false) : endT rs a = i := by
  rcases Nat.lt_or_ge i (endT rs a) with h2 | h2
  · have h3 := scan_mid (h := true) (l := rs.drop a) (k := i - a) (x := x) (by unfold endT at h2; omega) (drop_get h1 hx)
    rw [ht] at h3; cases h3
  · omega
theorem held_step (h1 : a ≤ i) (hx : rs[i]? = some x) : heldN true (rs.drop a) (i + 1 - a) = heldR (heldN true (rs.drop a) (i - a)) x := by
  rw [show i + 1 - a = (i - a) + 1 by omega, heldN_succ (drop_get h1 hx)]
theorem st_start (hx : rs[a]? = some 34) : St rs a (a + 1) := by
  have h0 : heldN true (rs.drop a) (a - a) = true := by simp [heldN]
  refine ⟨by omega, endT_more (Nat.le_refl _) (by unfold endT; omega) hx (by rw [h0]; decide), ?_⟩
  rw [held_step (Nat.le_refl _) hx, h0]; decide
theorem st_quote (h : St rs a i) (hx : rs[i]? = some 34) : endT rs a = i := endT_here h.1 h.2.1 hx (by rw [h.2.2]; decide)
theorem st_bad (h : St rs a i) (hx : rs[i]? = some x) (hb : badR x = true) : endT rs a = i := endT_here h.1 h.2.1 hx (by unfold textR; rw [hb]; rfl)
theorem st_next (h : St rs a i) (hx : rs[i]? = some x) (hb : badR x = false) (h34 : x ≠ 34) (h92 : x ≠ 92) : St rs a (i + 1) := by
  refine ⟨by have := h.1; omega, endT_more h.1 h.2.1 hx (by rw [h.2.2]; unfold textR; rw [hb]; simp [h34]), ?_⟩
  rw [held_step h.1 hx, h.2.2]; unfold heldR; simp [h92]
theorem st_esc (h : St rs a i) (hx : rs[i]? = some 92) : i + 1 ≤ endT rs a ∧ heldN true (rs.drop a) (i + 1 - a) = true := by
  refine ⟨endT_more h.1 h.2.1 hx (by rw [h.2.2]; decide), ?_⟩
  rw [held_step h.1 hx, h.2.2]; decide
theorem st_esc_end (h : St rs a i) (hx : rs[i]? = some 92) (hn : i + 1 = rs.length) : endT rs a = rs.length := by
  have h1 := (st_esc h hx).1
  have h2 := endT_le (rs := rs) (i := a) (by have := h.1; omega)
  omega
theorem st_esc_bad {y : Nat} (h : St rs a i) (hx : rs[i]? = some 92) (hy : rs[i + 1]? = some y) (hb : badR y = true) : endT rs a = i + 1 :=
  endT_here (by have := h.1; omega) (st_esc h hx).1 hy (by unfold textR; rw [hb]; rfl)
theorem st_esc_next {y : Nat} (h : St rs a i) (hx : rs[i]? = some 92) (hy : rs[i + 1]? = some y) (hb : badR y = false) : St rs a (i + 2) := by
  have h1 := st_esc h hx
  have ha := h.1
  refine ⟨by omega, endT_more (by omega) h1.1 hy (by rw [h1.2]; unfold textR; rw [hb]; simp), ?_⟩
  rw [show i + 2 - a = (i + 1) + 1 - a by omega, held_step (by omega) hy, h1.2]; unfold heldR; simp
end
end Go.Proofs.YtenonfoocjcdmaaDoor
