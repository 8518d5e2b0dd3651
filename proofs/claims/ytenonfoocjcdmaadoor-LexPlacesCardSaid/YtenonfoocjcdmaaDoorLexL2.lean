/- Layer 5: the statement LexPlaces. -/
import Derived.Test.YtenonfoocjcdmaaDoorLexL1
import Derived.Test.YtenonfoocjcdmaaDoorLexQ1
namespace Go.Proofs.YtenonfoocjcdmaaDoor
set_option linter.unusedVariables false
open Go.RowKit
theorem Reads.tk_pre {w : World} {B n : Nat} {A : Option Addr} {l : List Tk} (h : Reads w B 4 A n (recs tkC l)) {k : Nat} (hk : k ≤ n) : Reads w B 4 A k (recs tkC (l.take k)) := by
  refine ⟨?_, fun h0 => ?_⟩
  · rw [recs_take tkC_len, List.length_take, h.1]; omega
  · obtain ⟨ad, e, hb, hc⟩ := h.2 (by omega)
    refine ⟨ad, e, hb, fun j u hu => hc j u ?_⟩
    rw [recs_take tkC_len, List.getElem?_take] at hu
    split at hu
    · exact hu
    · cases hu
theorem tokP_cases (s : ByteArray) : (∃ ts, s.size ≤ 400 ∧ lexP (runes (bl s)) = .inl ts ∧ tokP s = (ts, ((runes (bl s)).length : Int), 0)) ∨ (∃ (a er : Int), er ≠ 0 ∧ tokP s = ([], a, er)) := by
  rcases Nat.lt_or_ge 400 s.size with h | h
  · exact .inr ⟨0, 3, by decide, by unfold tokP; rw [if_pos h]⟩
  · cases hl : lexP (runes (bl s)) with
    | inl ts => exact .inl ⟨ts, h, rfl, tokP_inl h hl⟩
    | inr e =>
      obtain ⟨a, er⟩ := e
      refine .inr ⟨a, er, ?_, tokP_inr h hl⟩
      have key : ∀ (f i : Nat) (acc : List Tk), lexF f (runes (bl s)) i acc = .inr (a, er) → er ≠ 0 := by
        intro f
        induction f with
        | zero => intro i acc h; rw [lexF] at h; cases h
        | succ f ih =>
          intro i acc h
          rw [lexF] at h
          split at h
          · cases h
          · split at h
            · exact ih _ _ h
            · rename_i hn
              injection h with h
              rw [h] at hn
              exact nextP_err hn
      exact key _ _ _ hl
/-- of a line's tokens: a token, what is ahead of it, and the one ahead of it -/
theorem places_of {s : ByteArray} {ts : List Tk} (hs : s.size ≤ 400) (h : lexP (runes (bl s)) = .inl ts) {k : Nat} {t : Tk} (ht : ts[k]? = some t) :
    ∃ a : Nat, t.at_ = (a : Int) ∧ a < (runes (bl s)).length ∧ tokP (cutA s a) = (ts.take k, (a : Int), 0) ∧ (∀ t', ts[k + 1]? = some t' → t.at_ < t'.at_) := by
  obtain ⟨a, ha, hal, hlex, hnx⟩ := lexP_places h k t ht
  refine ⟨a, ha, hal, ?_, hnx⟩
  have hpf := pos_facts a (bl s) (by omega)
  have hb : runes (bl (cutA s a)) = (runes (bl s)).take a := by rw [bl_cutA]; exact hpf.2.1
  have hsz : (cutA s a).size ≤ 400 := by
    rw [← bl_len, bl_cutA, List.length_take]
    have := bl_len s
    omega
  rw [tokP_inl hsz (by rw [hb]; exact hlex), hb, List.length_take, Nat.min_eq_left (by omega)]
set_option maxHeartbeats 2000000 in
theorem lexPlaces_walk (s : ByteArray) (z : Int) (w : World) : Calls Tryd.prog 7 #[.string s, .int .i64 z] w fun e w' => e = .returned (.bool true) ∧ Below w.heap.size w w' := by
  have h1 := Lib.hid (fun v => tokens_any s v)
  have hslice : True := trivial
  by_cases hgo : ∃ (ts : List Tk) (k : Nat), s.size ≤ 400 ∧ lexP (runes (bl s)) = .inl ts ∧ tokP s = (ts, ((runes (bl s)).length : Int), 0) ∧ z = (k : Int) ∧ k < ts.length
  case neg =>
    have hcase : (∃ ts a er, tokP s = (ts, a, er) ∧ ((er != 0) = true ∨ ((er != 0) = false ∧ decide (z < 0) = true) ∨ ((er != 0) = false ∧ decide (z < 0) = false ∧ decide ((ts.length : Int) ≤ z) = true))) := by
      rcases tokP_cases s with ⟨ts, hs, hl, ht⟩ | ⟨a, er, hne, ht⟩
      · refine ⟨ts, _, _, ht, .inr ?_⟩
        by_cases hz : z < 0
        · left; exact ⟨by decide, by simpa using hz⟩
        · right
          refine ⟨by decide, by simpa using hz, ?_⟩
          simp
          rcases Int.lt_or_le z ts.length with h | h
          · exact absurd ⟨ts, z.toNat, hs, hl, ht, by omega, by omega⟩ hgo
          · exact h
      · exact ⟨[], a, er, ht, .inl (by simpa using hne)⟩
    obtain ⟨ts, a, er, ht, hc⟩ := hcase
    rw [ht] at h1
    clear hgo ht
    rcases hc with t1 | ⟨t1, t2⟩ | ⟨t1, t2, t3⟩
    all_goals
      go_enter Tryd.func7, Tryd.ntmps7
      go_wp2_with (first
        | (go_at_call 18; refine (h1.out _).mono ?_; rintro e w1 ⟨v1, rfl, ho1, hb1⟩; obtain ⟨A1, c1, rfl, hcap1, hcm1⟩ := ho1.slice; replace ho1 := Lib.hid ho1; dsimp only at ho1 hcap1 ⊢)
        | (go_at_call 21; refine (awake05_any _).mono ?_; rintro e w4 ⟨rfl, hb4⟩))
      go_ret
      exact ⟨rfl, bt hb1 hb4⟩
  case pos =>
    obtain ⟨ts, k, hs, hl, ht, rfl, hk⟩ := hgo
    rw [ht] at h1
    have hpl := Lib.hid (fun j t (h : ts[j]? = some t) => places_of hs hl h)
    have hN : (runes (bl s)).length ≤ 400 := by have := runes_size s; omega
    obtain ⟨N, hNN⟩ : ∃ N, Hid ((runes (bl s)).length = N) := ⟨_, rfl⟩
    have hcut := Lib.hid (fun (a : Nat) v (h : a ≤ (runes (bl s)).length) => cut_yes s a v (by unfold maxLen; omega) h)
    rw [hNN.out] at h1 hpl hN hcut
    clear ht hl
    go_enter Tryd.func7, Tryd.ntmps7
    have tk0 : decide ((k : Int) < 0) = false := by simp
    have tk1 : decide ((ts.length : Int) ≤ (k : Int)) = false := by simp; omega
    have tk2 : decide (ts.length ≤ k) = false := by simp; omega
    go_wp2_with (go_at_call 18; refine (h1.out _).mono ?_; rintro e w1 ⟨v1, rfl, ho1, hb1⟩; obtain ⟨A1, c1, rfl, hcap1, hcm1⟩ := ho1.slice; have hr1 := Lib.hid ho1.reads; clear ho1; dsimp only at hr1 hcap1 ⊢)
    have hlen : ts.length ≤ 9223372036854775807 := by unfold maxLen at hcm1; omega
    go_loopw [8] (fun i wr => ∃ j m : Nat, j ≤ ts.length ∧ i = .int .i64 j ∧ wr = w1.drewN m) (fun i _ => ts.length - (intOf i).toNat)
    case atStart => exact ⟨0, 0, Nat.zero_le _, rfl, rfl⟩
    case round =>
      obtain ⟨j, m, hj, rfl, rfl⟩ := hrel
      by_cases hlt : j < ts.length
      · obtain ⟨b, o, u, rfl, hbb, hx, c0, c1, c2, c3⟩ := hr1.out.tk_at hlt
        obtain ⟨a, ha, haN, hta, hnx⟩ := hpl.out j u hx.out
        have ta0 : decide ((a : Int) < 0) = false := by simp
        have taN : decide ((N : Int) ≤ (a : Int)) = false := by simp; omega
        rw [ha] at c3
        have hj1 : (j : Int) < (ts.length : Int) := by omega
        have ha2 := Lib.hid ha
        clear hta hnx ha
        by_cases h0 : j = 0
        · have tj : decide ((0 : Int) < (j : Int)) = false := by simp; omega
          have tj2 : decide (0 < j) = false := by simp; omega
          have hj2 := Lib.hid hlt
          have taN2 : decide (N ≤ a) = false := by simp; omega
          clear h0 tj
          go_upto_region 7 with (fail)
          go_quiet (fail)
          go_wp2
          go_roundw
          case rel => exact ⟨j + 1, _, by have := hj2.out; omega, by go_num, by first | rfl | exact World.drewN_drewN _ _ _⟩
          case measure => have := hj2.out; simp [intOf]; omega
        · obtain ⟨i, rfl⟩ : ∃ i, j = i + 1 := ⟨j - 1, by omega⟩
          obtain ⟨b', o', u', e', hbb', hx', d0, d1, d2, d3⟩ := hr1.out.tk_at (k := i) (by omega)
          injection e' with e'
          injection e' with e1 e2
          subst e1; subst e2
          obtain ⟨a', ha', _, _, hnx'⟩ := hpl.out i u' hx'.out
          have hlt2 := hnx' u hx.out
          rw [ha', ha2.out] at hlt2
          rw [ha'] at d3
          have t1 : decide ((a : Int) ≤ (a' : Int)) = false := by simp; omega
          have t2 : decide (a ≤ a') = false := by simp; omega
          have taN2 : decide (N ≤ a) = false := by simp; omega
          have hj2 := Lib.hid hlt
          clear h0 hlt2 hnx' ha' hx hx'
          go_upto_region 7 with (fail)
          go_quiet (fail)
          go_wp2
          go_roundw
          case rel => exact ⟨i + 1 + 1, _, by have := hj2.out; omega, by go_num, by first | rfl | exact World.drewN_drewN _ _ _⟩
          case measure => have := hj2.out; simp [intOf]; omega
      · obtain rfl : j = ts.length := by omega
        obtain ⟨b, o, u, rfl, hbb, hx, c0, c1, c2, c3⟩ := hr1.out.tk_at hk
        obtain ⟨a, ha, haN, hta, hnx⟩ := hpl.out k u hx.out
        rw [ha] at c3
        have hj1 : (k : Int) < (ts.length : Int) := by omega
        have hcut2 := Lib.hid (fun v => hcut.out a v (by omega))
        have htok := Lib.hid (fun v => tokens_any (cutA s a) v)
        rw [hta] at htok
        obtain ⟨p1, hp1⟩ : ∃ p1, Hid (cutA s a = p1) := ⟨_, rfl⟩
        obtain ⟨p2, hp2⟩ : ∃ p2, Hid (cutB s a = p2) := ⟨_, rfl⟩
        rw [hp1.out] at hcut2 htok
        rw [hp2.out] at hcut2
        clear hnx ha hta hcut
        have hlk : Hid ((List.take k ts).length = k) := by show _ = _; simp; omega
        go_wp2_with (first
          | (go_at_call 22; refine (hcut2.out _).mono ?_; rintro e w2 ⟨rfl, hb2⟩; have hz2 : w1.heap.size ≤ w2.heap.size := hb2.size; have x3 := (hb2.cell (p := ⟨b, o + k * 4 + 3, none⟩) hbb).trans c3; have hr2 := Lib.hid ((hr1.out.drewN m).below hb2); replace hb2 := Lib.hid hb2)
          | (go_at_call 18; refine (htok.out _).mono ?_; rintro e w3 ⟨v3, rfl, ho3, hb3⟩; dsimp only at ho3; rw [hlk.out] at ho3; obtain ⟨A3, c3', rfl, hcap3, hcm3⟩ := ho3.slice; have hr3 := Lib.hid ho3.reads; clear ho3; have y3 := (hb3.cell (p := ⟨b, o + k * 4 + 3, none⟩) (by show b < w2.heap.size; omega)).trans x3; have hr4 := Lib.hid ((hr2.out.below (hb3.mono hz2)).tk_pre (k := k) (by omega)); replace hb3 := Lib.hid hb3; dsimp only)
          | (go_at_call 20; refine (same05_any A3 (some ⟨b, o, none⟩) k c3' _ _ _ (ts.take k) (ts.take k) true _ (by unfold maxLen; omega) hr3.out hr4.out rfl (fun _ => rfl)).mono ?_; rintro e w4 ⟨rfl, hb4⟩; replace hb4 := Lib.hid hb4)
          | (go_at_call 21; refine (awake05_any _).mono ?_; rintro e w5 ⟨rfl, hb5⟩))
        go_ret
        exact ⟨rfl, bt (bt (bt (bt (below_drewN hb1 m) hb2.out) hb3.out) hb4.out) hb5⟩
end Go.Proofs.YtenonfoocjcdmaaDoor
