/- Layer 9: the reference's Set, All, Of walked. -/
import Derived.Test.YtplneobjdpdlhaaDoorNsR
namespace Go.Proofs.YtplneobjdpdlhaaDoor
set_option linter.unusedVariables false
open Go.RowKit
theorem add_or {q m : Nat} (hq : q < M64) (hm : m < 64) (h : q.testBit m = false) : q + 2 ^ m = q ||| 2 ^ m := by
  have h1 : q < 2 ^ 65 := Nat.lt_of_lt_of_le hq (by decide)
  have hp := pow_lt hm
  have h2 : 2 ^ m < 2 ^ 65 := Nat.lt_of_lt_of_le hp (by decide)
  have hz : BitVec.ofNat 65 q &&& BitVec.ofNat 65 (2 ^ m) = 0#65 := by
    apply BitVec.eq_of_toNat_eq
    rw [BitVec.toNat_and, BitVec.toNat_ofNat, BitVec.toNat_ofNat, Nat.mod_eq_of_lt h1, Nat.mod_eq_of_lt h2]
    exact and_pow.2 h
  have e := congrArg BitVec.toNat (BitVec.add_eq_or_of_and_eq_zero _ _ hz)
  rw [BitVec.toNat_add, BitVec.toNat_or, BitVec.toNat_ofNat, BitVec.toNat_ofNat, Nat.mod_eq_of_lt h1, Nat.mod_eq_of_lt h2] at e
  rw [Nat.mod_eq_of_lt] at e
  · exact e
  · unfold M64 at hq hp; omega
theorem or_in {q m : Nat} (h : q.testBit m = true) : q ||| 2 ^ m = q := by
  apply Nat.eq_of_testBit_eq
  intro i
  rw [Nat.testBit_or, Nat.testBit_two_pow]
  by_cases e : m = i
  · subst e; simp [h]
  · simp [e]
theorem natI_at {l : List Nat} {k : Nat} {x : Int} (h : (natI l)[k]? = some x) : ∃ m : Nat, x = (m : Int) ∧ l[k]? = some m := by
  unfold natI at h
  rw [List.getElem?_map] at h
  cases hl : l[k]? with
  | none => rw [hl] at h; cases h
  | some m => rw [hl] at h; exact ⟨m, by simpa using h.symm, rfl⟩
theorem natI_len (l : List Nat) : (natI l).length = l.length := by simp [natI]
theorem rset_any (A : Option Addr) (n c B : Nat) (l : List Nat) (w : World) (hr : Reads w B 1 A n (ints (natI l))) (hn : n ≤ 1000000) (hl : ∀ i ∈ l, i < 64) :
    Calls Tryd.prog 28 #[.slice A n c] w fun e w' => e = .returned (.int .u64 ((setL l : Nat) : Int)) ∧ w = w' := by
  have hlen : Hid (l.length = n) := by have := hr.len; rw [← natI_len]; simpa [ints] using this
  obtain ⟨R, hR⟩ : ∃ R : Nat, Hid (setL l = R) := ⟨_, rfl⟩
  rw [hR.out]
  go_enter Tryd.func28, Tryd.ntmps28
  go_wp2
  go_loop [3, 4] (fun s i => ∃ (k q : Nat), k ≤ n ∧ i = .int .i64 k ∧ s = .int .u64 q ∧ q < M64 ∧ Hid (setL (l.take k) = q)) (fun _ i => n - (intOf i).toNat)
  case atStart => exact ⟨0, 0, Nat.zero_le _, rfl, rfl, by decide, rfl⟩
  case round =>
    obtain ⟨k, q, hk, rfl, rfl, hq, HO⟩ := hrel
    by_cases hlt : k < n
    · obtain ⟨b, o, x, rfl, hbb, hx, c0⟩ := hr.num_at hlt
      have hj0 : (0 : Int) ≤ (k : Int) := by omega
      have hj1 : (k : Int) < (n : Int) := by omega
      obtain ⟨m, rfl, hlm⟩ := natI_at hx.out
      have hm : m < 64 := hl m (List.mem_of_getElem? hlm)
      clear hr hx
      have hst : Hid (setL (l.take (k + 1)) = q ||| 2 ^ m) := by
        show _ = _
        rw [take_snocN hlm, setL_snoc, HO.out]
      have hh := Lib.hid (fun v => rhas_any q (m : Int) v hq)
      have hb0 : hasP q m = q.testBit m := by unfold hasP; simp; omega
      rw [hb0] at hh
      have hc := Lib.hid (fun v => bit_any m v hm)
      have hol := or_lt hq (pow_lt hm)
      have hadd := add_or hq hm
      have hin := or_in (q := q) (m := m)
      obtain ⟨p, hp⟩ : ∃ p : Nat, Hid (2 ^ m = p) := ⟨2 ^ m, rfl⟩
      rw [hp.out] at hc hol hst hadd hin
      have Hlm := Lib.hid hlm
      clear hb0 hlm
      cases hb : q.testBit m with
      | true =>
        rw [hb] at hh
        have hst2 : Hid (setL (l.take (k + 1)) = q) := by show _ = _; rw [hst.out]; exact hin hb
        clear hb hadd hin hst hol
        go_wp2_with (go_at_call 16; refine (hh.out _).mono ?_; rintro e w' ⟨rfl, rfl⟩)
        go_round
        case rel => exact ⟨k + 1, q, by omega, by go_num, rfl, hq, hst2⟩
        case measure => simp [intOf]; omega
      | false =>
        rw [hb] at hh
        have hst2 : Hid (setL (l.take (k + 1)) = q + p) := by show _ = _; rw [hst.out]; exact (hadd hb).symm
        have hol2 : q + p < M64 := by rw [hadd hb]; exact hol
        have k1 : IntKind.u64.wrap ((q : Int) + (p : Int)) = ((q + p : Nat) : Int) := by rw [← wrap64_lt hol2]; congr 1
        obtain ⟨v, hv⟩ : ∃ v : Nat, Hid (q + p = v) := ⟨q + p, rfl⟩
        rw [hv.out] at k1 hol2 hst2
        clear hb hadd hin hst hol
        go_wp2_with (first
          | (go_at_call 16; refine (hh.out _).mono ?_; rintro e w' ⟨rfl, rfl⟩)
          | (go_at_call 30; refine (hc.out _).mono ?_; rintro e w' ⟨rfl, rfl⟩))
        go_round
        case rel => exact ⟨k + 1, v, by omega, by go_num, rfl, hol2, hst2⟩
        case measure => simp [intOf]; omega
    · have e : l.take k = l := List.take_of_length_le (by rw [hlen.out]; omega)
      have e2 : q = R := by have := HO.out; rw [e] at this; exact this.symm.trans hR.out
      subst e2
      clear hr e
      go_wp2
      go_ret
      exact ⟨rfl, rfl⟩
theorem range_app (k : Nat) : natI (List.range (k + 1)) = natI (List.range k) ++ [(k : Int)] := by rw [List.range_succ, natI_app]; rfl
set_option maxHeartbeats 1000000 in
theorem rall_any (n : Int) (w : World) (h1 : n ≤ 9223372036854775807) : Calls Tryd.prog 18 #[.int .i64 n] w fun e w' => e = .returned (.int .u64 (allS n)) ∧ Below w.heap.size w w' := by
  obtain ⟨R, hR⟩ : ∃ R : Nat, Hid (allS n = R) := ⟨_, rfl⟩
  rw [hR.out]
  go_enter Tryd.func18, Tryd.ntmps18
  go_wp2
  go_loopw [3, 4] (fun o i wr => ∃ k : Nat, k ≤ min n.toNat 64 ∧ i = .int .i64 k ∧ Owns wr w.heap.size 3 1 o k (ints (natI (List.range k))) ∧ Below w.heap.size w wr) (fun _ i _ => 64 - (intOf i).toNat)
  case atStart => exact ⟨0, Nat.zero_le _, rfl, Owns.nil, Below.refl _ _⟩
  case round =>
    obtain ⟨k, hk, rfl, hown, hbr⟩ := hrel
    have hsz := hbr.size
    have hO := Lib.hid hown
    clear hown
    by_cases h0 : (k : Int) < n
    · have t0 : decide ((k : Int) < n) = true := by simpa using h0
      by_cases h2 : k < 64
      · have t1 : decide (k < 64) = true := by simpa using h2
        have t2 : decide ((k : Int) < 64) = true := by simp; omega
        have hk2 : k + 1 ≤ min n.toNat 64 := by omega
        have hst := Lib.hid (range_app k)
        clear hk h0
        go_wp2_with (at_builtin; refine app_i rfl rfl w.heap.size rfl (hO.out.alloc _) (news := [(k : Int)]) rfl (Reads.made wr [Value.int .i64 (k : Int)] _) (by omega) (by simp only [World.size_alloc]; omega) ?_)
        intro v4 w4 o4 k4 _
        have kb4 := k4.below (hbr.alloc hsz _) (Nat.le_refl _) (by simp only [World.size_alloc]; omega)
        have o5 : Owns w4 w.heap.size 3 1 v4 (k + 1) (ints (natI (List.range (k + 1)))) := by
          rw [hst.out]; exact o4
        have O5 := Lib.hid o5
        clear k4 o4 o5
        go_wp2
        go_roundw
        case rel => exact ⟨k + 1, by omega, by go_num, O5.out, kb4⟩
        case measure => simp [intOf]; omega
      · have t1 : decide (k < 64) = false := by simpa using h2
        have t2 : decide ((k : Int) < 64) = false := by simp; omega
        have e : k = min n.toNat 64 := by omega
        have H : Hid (setL (List.range k) = R) := by show _ = _; rw [← hR.out, allS_set, ← e]
        obtain ⟨A, cc, rfl, -, -⟩ := hO.out.slice
        have hc := Lib.hid (rset_any A _ cc _ (List.range k) wr hO.out.reads (by omega) (fun i hi => by have := List.mem_range.1 hi; omega))
        rw [H.out] at hc
        clear hk h0 e
        go_wp2_with (go_at_call 28; refine hc.out.mono ?_; rintro e w' ⟨rfl, rfl⟩)
        go_ret
        exact ⟨rfl, hbr⟩
    · have t0 : decide ((k : Int) < n) = false := by simpa using h0
      have e : k = min n.toNat 64 := by omega
      have H : Hid (setL (List.range k) = R) := by show _ = _; rw [← hR.out, allS_set, ← e]
      obtain ⟨A, cc, rfl, -, -⟩ := hO.out.slice
      have hc := Lib.hid (rset_any A _ cc _ (List.range k) wr hO.out.reads (by omega) (fun i hi => by have := List.mem_range.1 hi; omega))
      rw [H.out] at hc
      clear hk h0 e
      go_wp2_with (go_at_call 28; refine hc.out.mono ?_; rintro e w' ⟨rfl, rfl⟩)
      go_ret
      exact ⟨rfl, hbr⟩
theorem natI_toNat {l : List Int} (h : ∀ x ∈ l, 0 ≤ x ∧ x < 64) : natI (l.map Int.toNat) = l := by
  unfold natI
  rw [List.map_map]
  conv => rhs; rw [← List.map_id l]
  refine List.map_congr_left (fun x hx => ?_)
  have := h x hx
  simp; omega
theorem ofOk_nil : ofOk [] := ⟨by simp, by simp⟩
set_option maxHeartbeats 1000000 in
theorem rof_any (A : Option Addr) (n c B : Nat) (l : List Int) (w : World) (hr : Reads w B 1 A n (ints l)) (hn : n ≤ 1000000) (hB : B ≤ w.heap.size) :
    Calls Tryd.prog 10 #[.slice A n c] w fun e w' => e = .returned (.tuple #[.int .u64 (ofP l).1, .int .i64 (ofP l).2]) ∧ Below w.heap.size w w' := by
  have hlen : Hid (l.length = n) := hr.len
  obtain ⟨R, hR⟩ : ∃ R, Hid (ofP l = R) := ⟨_, rfl⟩
  rw [hR.out]
  go_enter Tryd.func10, Tryd.ntmps10
  go_wp2
  go_loopw [4, 5] (fun i _ wr => ∃ (k m : Nat), k ≤ n ∧ i = .int .i64 k ∧ wr = w.drewN m ∧ Hid (ofOk (l.take k))) (fun i _ _ => n - (intOf i).toNat)
  case atStart => exact ⟨0, 0, Nat.zero_le _, rfl, rfl, ofOk_nil⟩
  case round =>
    obtain ⟨k, m, hk, rfl, rfl, HO⟩ := hrel
    by_cases hlt : k < n
    · obtain ⟨b, o, x, rfl, hbb, hx, c0⟩ := hr.num_at hlt
      have hj0 : (0 : Int) ≤ (k : Int) := by omega
      have hj1 : (k : Int) < (n : Int) := by omega
      by_cases hx0 : x < 0
      · have t0 : decide (x < 0) = true := by simpa using hx0
        have hP : Hid (R = (0, 90)) := by show _ = _; rw [← hR.out]; exact ofP_no hx.out (.inl hx0)
        clear hx0 hr
        go_wp2
        go_ret2
        rw [hP.out]
        exact ⟨rfl, below_drewN (Below.refl _ _) _⟩
      have t0 : decide (x < 0) = false := by simpa using hx0
      by_cases hx1 : 63 < x
      · have t1 : decide (63 < x) = true := by simpa using hx1
        have hP : Hid (R = (0, 90)) := by show _ = _; rw [← hR.out]; exact ofP_no hx.out (.inr (.inl (by omega)))
        clear hx0 hx1 hr
        go_wp2
        go_ret2
        rw [hP.out]
        exact ⟨rfl, below_drewN (Below.refl _ _) _⟩
      have t1 : decide (63 < x) = false := by simpa using hx1
      have hxx := Lib.hid (And.intro hx0 hx1)
      clear hx0 hx1
      go_wp2
      go_loopw [5] (fun i wr => ∃ (j m : Nat), j ≤ k ∧ i = .int .i64 j ∧ wr = w.drewN m ∧ Hid (x ∉ l.take j)) (fun i _ => k - (intOf i).toNat)
      case atStart => exact ⟨0, _, Nat.zero_le _, rfl, rfl, by show _ ∉ _; simp⟩
      case round =>
        obtain ⟨j, m2, hj, rfl, rfl, HN⟩ := hrel
        by_cases hjk : j < k
        · obtain ⟨b', o', y, e', _, hy, d0⟩ := hr.num_at (k := j) (by omega)
          have e1 : b = b' ∧ o = o' := by simpa using e'
          rw [← e1.1, ← e1.2] at d0
          clear e' e1
          obtain ⟨b2, o2, x2, e2, _, hx2, c2⟩ := hr.num_at hlt
          have e1 : b = b2 ∧ o = o2 := by simpa using e2
          rw [← e1.1, ← e1.2] at c2
          have e3 : x = x2 := by have := hx.out.symm.trans hx2.out; simpa using this
          subst e3
          clear e2 e1 hx2 c0
          have hi0 : (0 : Int) ≤ (j : Int) := by omega
          have hi1 : (j : Int) < (n : Int) := by omega
          have hi2 : decide (j < k) = true := by simpa using hjk
          clear hr
          by_cases hxy : y = x
          · have hP : Hid (R = (0, 90)) := by
              show _ = _
              rw [← hR.out]
              refine ofP_no hx.out (.inr (.inr ?_))
              rw [← hxy]
              exact List.mem_take_iff_getElem.2 ⟨j, by have := hlen.out; omega, (List.getElem?_eq_some_iff.1 hy.out).2⟩
            have t3 : (y == x) = true := by simpa using hxy
            clear hxy
            go_wp2
            go_quiet (fail)
            go_wp2
            go_ret2
            rw [hP.out]
            exact ⟨rfl, below_drewN (below_drewN (Below.refl _ _) _) _⟩
          · have t3 : (y == x) = false := by simpa using hxy
            have HN2 : Hid (x ∉ l.take (j + 1)) := by
              show ¬ _
              rw [take_snocN hy.out, List.mem_append, List.mem_singleton]
              rintro (h | h)
              · exact HN.out h
              · exact hxy h.symm
            clear hxy
            go_wp2
            go_quiet (fail)
            go_wp2
            go_roundw
            case rel => exact ⟨j + 1, _, by omega, by go_num, by first | rfl | exact World.drewN_drewN _ _ _, HN2⟩
            case measure => simp [intOf]; omega
        · obtain rfl : j = k := by omega
          have HO2 : Hid (ofOk (l.take (j + 1))) := by
            show ofOk _
            rw [take_snocN hx.out]
            exact ofOk_snoc HO.out (by have := hxx.out; omega) (by have := hxx.out; omega) HN.out
          have hi2 : decide (j < j) = false := by simp
          clear hr
          go_wp2
          go_roundw
          case rel => exact ⟨j + 1, m2, by omega, by go_num, rfl, HO2⟩
          case measure => simp [intOf]; omega
    · have e : l.take k = l := List.take_of_length_le (by rw [hlen.out]; omega)
      have hok : ofOk l := by have := HO.out; rwa [e] at this
      have hP : Hid (R = (setL (l.map Int.toNat), 0)) := by show _ = _; rw [← hR.out]; unfold ofP; rw [if_pos hok]
      have hn2 := natI_toNat hok.1
      have hr2 := hr.drewN m
      rw [← hn2] at hr2
      have hc := Lib.hid (rset_any A n c B (l.map Int.toNat) (w.drewN m) hr2 hn (fun i hi => by
        obtain ⟨x, hx, rfl⟩ := List.mem_map.1 hi
        have := hok.1 x hx; omega))
      obtain ⟨S, hS⟩ : ∃ S, Hid (setL (l.map Int.toNat) = S) := ⟨_, rfl⟩
      rw [hS.out] at hc hP
      clear hr e hok hn2 hr2
      go_wp2_with (go_at_call 28; refine hc.out.mono ?_; rintro e w' ⟨rfl, rfl⟩)
      go_ret2
      rw [hP.out]
      exact ⟨rfl, below_drewN (Below.refl _ _) _⟩
end Go.Proofs.YtplneobjdpdlhaaDoor
