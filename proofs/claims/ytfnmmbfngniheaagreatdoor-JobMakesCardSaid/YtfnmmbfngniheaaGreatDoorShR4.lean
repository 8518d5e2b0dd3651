/- Layer 7: the reference's Allows and Same, walked. -/
import Derived.Test.YtfnmmbfngniheaaGreatDoorShR3
import Derived.Test.YtfnmmbfngniheaaGreatDoorShW6
namespace Go.Proofs.YtfnmmbfngniheaaGreatDoor
set_option linter.unusedVariables false
open Go.RowKit
theorem downN_at {hi : Int} {N j : Nat} (h : j < N) : (downN hi N)[j]? = some (hi - (j : Int)) := by
  unfold downN
  rw [List.getElem?_map, List.getElem?_range h]; rfl
theorem allow_hit {s : Sh} {ch n : Int} (h : ¬ (ch < 0 ∨ ((optS s).length : Int) ≤ ch)) :
    allowS s ch n = true ↔ ∃ (j : Nat) (x : Pr), (optS s)[j]? = some x ∧ x.1 = n ∧ ((j : Int) = ch ∨ s.kind = 3) := by
  unfold allowS
  rw [if_neg h]
  by_cases h3 : s.kind = 3
  · rw [if_pos h3]
    have hq : okS s = true := by
      cases hq : okS s with
      | true => rfl
      | false => rw [opt_no hq, List.length_nil] at h; exact absurd (by omega) h
    obtain ⟨_, h1, h2, h4, ho⟩ := opt_down hq h3
    rw [ho]
    simp only [Bool.and_eq_true, decide_eq_true_eq]
    constructor
    · rintro ⟨a, b⟩
      refine ⟨(s.mx - n).toNat, (n, s.wall), ?_, rfl, .inr h3⟩
      rw [List.getElem?_map, downN_at (by omega)]
      simp only [Option.map_some, Option.some.injEq, Prod.mk.injEq, and_true]
      omega
    · rintro ⟨j, x, hx, rfl, _⟩
      rw [List.getElem?_map] at hx
      have hj : j < (s.mx - s.mn + 1).toNat := by
        have : j < (downN s.mx (s.mx - s.mn + 1).toNat).length := by
          cases hd : (downN s.mx (s.mx - s.mn + 1).toNat)[j]? with
          | none => rw [hd] at hx; cases hx
          | some y => exact (List.getElem?_eq_some_iff.1 hd).1
        rwa [downN_len] at this
      rw [downN_at hj] at hx
      simp only [Option.map_some, Option.some.injEq] at hx
      subst hx
      dsimp only
      omega
  · rw [if_neg h3]
    constructor
    · intro e
      have hj : ch.toNat < (optS s).length := by omega
      refine ⟨ch.toNat, (optS s)[ch.toNat], List.getElem?_eq_getElem hj, ?_, .inl (by omega)⟩
      rw [List.getD_eq_getElem?_getD, List.getElem?_eq_getElem hj] at e
      simpa using e
    · rintro ⟨j, x, hx, e, hj⟩
      have hj2 : (j : Int) = ch := by
        rcases hj with h | h
        · exact h
        · exact absurd h h3
      have : ch.toNat = j := by omega
      rw [this, List.getD_eq_getElem?_getD, hx]
      simpa using e
def NoHit (l : List Pr) (ch n kind : Int) (i : Nat) : Prop := ∀ (j : Nat) (x : Pr), j < i → l[j]? = some x → ¬ (x.1 = n ∧ ((j : Int) = ch ∨ kind = 3))
set_option maxHeartbeats 2000000 in
theorem rallows_any (s : Sh) (A : Option Addr) (c B : Nat) (ch n : Int) (w : World) (hr : Reads w B 2 A s.alts.length (recs prC s.alts)) (hB : B ≤ w.heap.size) (hn : s.alts.length ≤ 100000) (hcap : s.alts.length ≤ c) :
    Calls Tryz.prog 146 #[shV s A c, .int .i64 ch, .int .i64 n] w fun e w' => e = .returned (.bool (allowS s ch n)) ∧ Below w.heap.size w w' := by
  have hc := Lib.hid (fun v (hv : Below w.heap.size w v) => ropts_any s A c B v (hr.below (hv.mono hB)) (Nat.le_trans hB hv.size) hn hcap)
  have hol := optS_len s hn
  have HA : Hid (allowS s ch n = if ch < 0 ∨ ((optS s).length : Int) ≤ ch then false else if s.kind = 3 then decide (s.mn ≤ n) && decide (n ≤ s.mx) else ((optS s).getD ch.toNat (0, 0)).1 == n) := rfl
  have HI := fun h => Lib.hid (allow_hit (s := s) (ch := ch) (n := n) h)
  obtain ⟨R, hR⟩ : ∃ R, Hid (allowS s ch n = R) := ⟨_, rfl⟩
  rw [hR.out] at HA HI ⊢
  obtain ⟨l, hl⟩ : ∃ l, optS s = l := ⟨_, rfl⟩
  rw [hl] at hc hol HA HI
  unfold shV at hc ⊢
  obtain ⟨m, hm⟩ : ∃ n, s.alts.length = n := ⟨_, rfl⟩
  rw [hm] at hc hn hcap ⊢
  obtain ⟨kind, l0, mn, mx, wall⟩ := s
  dsimp only at hc HA HI hr ⊢
  clear hl hm hR hr
  obtain ⟨N, hN⟩ : ∃ N, Hid (l.length = N) := ⟨_, rfl⟩
  rw [hN.out] at HA hol HI
  unfold RetOpt at hc
  rw [hN.out] at hc
  have HBX : Hid (Below w.heap.size w (w.alloc (.cells #[.int .i64 kind, .slice A m c, .int .i64 mn, .int .i64 mx, .int .i64 wall] 24))) := (Below.refl _ _).alloc (Nat.le_refl _) _
  by_cases h0 : ch < 0
  · have t0 : decide (ch < 0) = true := by simpa using h0
    have HR : Hid (R = false) := by show _ = _; rw [HA.out, if_pos (.inl h0)]
    clear h0 HA HI
    go_enter Tryz.func146, Tryz.ntmps146
    go_wp2_with (fail)
    refine (hc.out _ HBX.out).mono ?_; rintro e w1 ⟨A1, c1, rfl, h1, hr1, hb1⟩
    go_wp2
    go_ret
    exact ⟨by rw [HR.out]; rfl, bt HBX.out hb1⟩
  have t0 : decide (ch < 0) = false := by simpa using h0
  by_cases h2 : (N : Int) ≤ ch
  · have t2 : decide ((N : Int) ≤ ch) = true := by simpa using h2
    have HR : Hid (R = false) := by show _ = _; rw [HA.out, if_pos (.inr h2)]
    clear h0 h2 HA HI
    go_enter Tryz.func146, Tryz.ntmps146
    go_wp2_with (fail)
    refine (hc.out _ HBX.out).mono ?_; rintro e w1 ⟨A1, c1, rfl, h1, hr1, hb1⟩
    go_wp2
    go_ret
    exact ⟨by rw [HR.out]; rfl, bt HBX.out hb1⟩
  have t2 : decide ((N : Int) ≤ ch) = false := by simpa using h2
  have hI := HI (by omega)
  clear HI HA h0 h2
  obtain ⟨q, hq⟩ : ∃ q, (kind == 3) = q := ⟨_, rfl⟩
  have hq2 : kind = 3 ↔ q = true := by rw [← hq]; simp
  go_enter Tryz.func146, Tryz.ntmps146
  go_wp2_with (fail)
  refine (hc.out _ HBX.out).mono ?_; rintro e w1 ⟨A1, c1, rfl, h1, hr1, hb1⟩
  have k0 : w1.cell? ⟨w.heap.size, 0, none⟩ = some (.int .i64 kind) := boxed_cell hb1 0
  have B1 := Lib.hid (bt HBX.out hb1)
  have HRd := Lib.hid hr1
  clear hb1 hr1 hc
  go_wp2
  go_loopw [8] (fun i wr => ∃ (k p : Nat), k ≤ N ∧ i = .int .i64 k ∧ wr = w1.drewN p ∧ Hid (NoHit l ch n kind k)) (fun i _ => N - (intOf i).toNat)
  case atStart => exact ⟨0, 0, Nat.zero_le _, rfl, rfl, Lib.hid (fun j x hj => by omega)⟩
  case round =>
    obtain ⟨k, p, hk, rfl, rfl, HN⟩ := hrel
    by_cases hlt : k < N
    · obtain ⟨b, o, x, rfl, hbb, hx, c0, c1⟩ := HRd.out.pr_at hlt
      have hi0 : (0 : Int) ≤ (k : Int) := by omega
      have hi1 : (k : Int) < (N : Int) := by omega
      have t4 : decide ((k : Int) < (N : Int)) = true := by simp; omega
      have hstep : ∀ (hno : ¬ (x.1 = n ∧ ((k : Int) = ch ∨ kind = 3))), Hid (NoHit l ch n kind (k + 1)) := by
        intro hno j y hj hy
        by_cases e : j = k
        · subst e; rw [hx.out] at hy; rw [← Option.some.inj hy]; exact hno
        · exact HN.out j y (by omega) hy
      cases u1 : x.1 == n
      · have HN2 := hstep (fun h => by rw [h.1] at u1; simp at u1)
        clear hstep
        cases u2 : ((k : Int) == ch) <;> cases q
        all_goals
          go_wp2
          (try (go_quiet (fail); go_wp2))
          go_roundw
          case rel => exact ⟨k + 1, _, by omega, by simp, by first | rfl | exact World.drewN_drewN _ _ _, HN2⟩
          case measure => simp [intOf]; omega
      · cases u2 : ((k : Int) == ch)
        · cases q
          · have HN2 := hstep (fun h => by
              rcases h.2 with e | e
              · rw [e] at u2; simp at u2
              · rw [hq2] at e; cases e)
            clear hstep
            go_wp2
            (try (go_quiet (fail); go_wp2))
            go_roundw
            case rel => exact ⟨k + 1, _, by omega, by simp, by first | rfl | exact World.drewN_drewN _ _ _, HN2⟩
            case measure => simp [intOf]; omega
          · have HR : Hid (R = true) := hI.out.2 ⟨k, x, hx.out, by simpa using u1, .inr (hq2.2 rfl)⟩
            clear hstep
            go_wp2
            (try (go_quiet (fail); go_wp2))
            go_ret
            exact ⟨by rw [HR.out]; rfl, by first | exact below_drewN B1.out _ | exact below_drewN (below_drewN B1.out _) _⟩
        · have HR : Hid (R = true) := hI.out.2 ⟨k, x, hx.out, by simpa using u1, .inl (by simpa using u2)⟩
          clear hstep
          cases q
          all_goals
            go_wp2
            (try (go_quiet (fail); go_wp2))
            go_ret
            exact ⟨by rw [HR.out]; rfl, by first | exact below_drewN B1.out _ | exact below_drewN (below_drewN B1.out _) _⟩
    · obtain rfl : k = N := by omega
      have t4 : decide ((k : Int) < (k : Int)) = false := by simp
      have HR : Hid (R = false) := by
        show _ = _
        cases hR : R with
        | false => rfl
        | true =>
          obtain ⟨j, x, hx, e, hj⟩ := hI.out.1 hR
          exact absurd ⟨e, hj⟩ (HN.out j x (by rw [← hN.out]; exact (List.getElem?_eq_some_iff.1 hx).1) hx)
      go_wp2
      go_ret
      exact ⟨by rw [HR.out]; rfl, below_drewN B1.out _⟩
set_option maxHeartbeats 2000000 in
theorem rsameA_any (A A2 : Option Addr) (n m c c2 B : Nat) (l l2 : List Pr) (w : World) (hr : Reads w B 2 A n (recs prC l)) (hr2 : Reads w B 2 A2 m (recs prC l2)) (hn : n ≤ 1000000) (hm : m ≤ 1000000) (hB : B ≤ w.heap.size) :
    Calls Tryz.prog 139 #[.slice A n c, .slice A2 m c2] w fun e w' => e = .returned (.bool (decide (l = l2))) ∧ Below w.heap.size w w' := by
  have hlen : Hid (l.length = n) := hr.rec_len prC_len (by omega)
  have hlen2 : Hid (l2.length = m) := hr2.rec_len prC_len (by omega)
  obtain ⟨R, hR⟩ : ∃ R, Hid (decide (l = l2) = R) := ⟨_, rfl⟩
  rw [hR.out]
  by_cases hnm : n = m
  · subst hnm
    have t0 : ((n : Int) != (n : Int)) = false := by simp
    go_enter Tryz.func139, Tryz.ntmps139
    go_wp2
    go_loopw [5] (fun i wr => ∃ (k p : Nat), k ≤ n ∧ i = .int .i64 k ∧ wr = w.drewN p ∧ Hid (l.take k = l2.take k)) (fun i _ => n - (intOf i).toNat)
    case atStart => exact ⟨0, 0, Nat.zero_le _, rfl, rfl, by show _ = _; simp⟩
    case round =>
      obtain ⟨k, p, hk, rfl, rfl, HO⟩ := hrel
      by_cases hlt : k < n
      · have t1 : decide ((k : Int) < (n : Int)) = true := by simp; omega
        obtain ⟨b, o, x, rfl, hbb, hx, c0, c1⟩ := hr.pr_at hlt
        obtain ⟨b2, o2, y, rfl, hbb2, hy, d0, d1⟩ := hr2.pr_at hlt
        have hj0 : (0 : Int) ≤ (k : Int) := by omega
        have hj1 : (k : Int) < (n : Int) := by omega
        have hxy : x = y ↔ x.1 = y.1 ∧ x.2 = y.2 := by
          obtain ⟨x1, x2⟩ := x
          obtain ⟨y1, y2⟩ := y
          simp
        cases u1 : x.1 != y.1
        · cases u2 : x.2 != y.2
          · have e : x = y := hxy.2 ⟨by simpa using u1, by simpa using u2⟩
            have HO2 : Hid (l.take (k + 1) = l2.take (k + 1)) := by
              show _ = _
              rw [List.take_add_one, List.take_add_one, hx.out, hy.out, HO.out, e]
            clear e hxy hr hr2
            go_wp2
            go_quiet (fail)
            go_wp2
            go_roundw
            case rel => exact ⟨k + 1, _, by omega, by simp, by first | rfl | exact World.drewN_drewN _ _ _, HO2⟩
            case measure => simp [intOf]; omega
          · have HR : Hid (R = false) := by
              show _ = _
              rw [← hR.out]
              refine decide_eq_false (fun hl => ?_)
              have h1 := hx.out
              rw [hl, hy.out] at h1
              rw [Option.some.inj h1] at u2
              simp at u2
            clear hxy hr hr2
            go_wp2
            go_quiet (fail)
            go_wp2
            go_ret
            exact ⟨by rw [HR.out]; rfl, below_drewN (below_drewN (Below.refl _ _) _) _⟩
        · have HR : Hid (R = false) := by
            show _ = _
            rw [← hR.out]
            refine decide_eq_false (fun hl => ?_)
            have h1 := hx.out
            rw [hl, hy.out] at h1
            rw [Option.some.inj h1] at u1
            simp at u1
          clear hxy hr hr2
          go_wp2
          go_quiet (fail)
          go_wp2
          go_ret
          exact ⟨by rw [HR.out]; rfl, below_drewN (below_drewN (Below.refl _ _) _) _⟩
      · obtain rfl : k = n := by omega
        have t1 : decide ((k : Int) < (k : Int)) = false := by simp
        have HR : Hid (R = true) := by
          show _ = _
          rw [← hR.out]
          refine decide_eq_true ?_
          have h1 := HO.out
          rwa [List.take_of_length_le (by rw [hlen.out]; exact Nat.le_refl _), List.take_of_length_le (by rw [hlen2.out]; exact Nat.le_refl _)] at h1
        go_wp2
        go_ret
        exact ⟨by rw [HR.out]; rfl, below_drewN (Below.refl _ _) _⟩
  · have t0 : ((n : Int) != (m : Int)) = true := by simp; omega
    have HR : Hid (R = false) := by
      show _ = _
      rw [← hR.out]
      exact decide_eq_false (fun hl => hnm (by rw [← hlen.out, ← hlen2.out, hl]))
    clear hnm
    go_enter Tryz.func139, Tryz.ntmps139
    go_wp2
    go_ret
    exact ⟨by rw [HR.out]; rfl, Below.refl _ _⟩
end Go.Proofs.YtfnmmbfngniheaaGreatDoor
