/- The document's answers of layer 17: Same (of like lists), Decay. -/
import Derived.Test.YtlhogedcokcmhaaLedR1
import Derived.Test.YtlhogedcokcmhaaSatR
import Derived.Test.YtlhogedcokcmhaaLedW10
namespace Go.Proofs.Ytlhogedcokcmhaa
set_option linter.unusedVariables false
open Go.RowKit
set_option maxHeartbeats 1000000 in
theorem rsame_like (A A2 : Option Addr) (n c c2 B B2 : Nat) (l : List U) (w : World) (hn : n ≤ maxLen) (hr : Reads w B 4 A n (recs ucells l)) (hr2 : Reads w B2 4 A2 n (recs ucells l)) :
    Calls Try.prog 10 #[.slice A n c, .slice A2 n c2] w fun e w' => e = .returned (.bool true) ∧ ∃ k, w' = w.drewN k := by
  unfold maxLen at hn
  go_enter Try.func10, Try.ntmps10
  go_wp2
  go_loopw [5] (fun i wr => ∃ k m : Nat, k ≤ n ∧ i = .int .i64 k ∧ wr = w.drewN m) (fun i _ => n - (intOf i).toNat)
  case atStart => exact ⟨0, 0, Nat.zero_le _, rfl, rfl⟩
  case round =>
    obtain ⟨k, m, hk, rfl, rfl⟩ := hrel
    by_cases hlt : k < n
    · obtain ⟨b, o, u, rfl, hbb, hx, c0, c1, c2, c3⟩ := hr.u_at hlt
      obtain ⟨b', o', u', rfl, hbb', hx', d0, d1, d2, d3⟩ := hr2.u_at hlt
      obtain rfl : u = u' := by have h := hx'.out; rw [hx.out] at h; exact Option.some.inj h
      have hj0 : (0 : Int) ≤ (k : Int) := by omega
      have hj1 : (k : Int) < (n : Int) := by omega
      clear hr hr2 hx hx'
      go_wp2
      go_quiet (fail)
      go_wp2
      go_roundw
      case rel => exact ⟨k + 1, _, by omega, by go_num, by first | rfl | exact World.drewN_drewN _ _ _⟩
      case measure => simp [intOf]; omega
    · clear hr hr2
      go_wp2
      go_ret
      exact ⟨rfl, m, rfl⟩
set_option maxHeartbeats 400000 in
theorem rdecay_any (A : Option Addr) (n c B : Nat) (l : List U) (w : World) (hn : n ≤ maxLen) (hr : Reads w B 4 A n (recs ucells l)) (hB : B ≤ w.heap.size) :
    Calls Try.prog 12 #[.slice A n c] w (RetL w (decayL l)) := by
  have hlen := hr.rec_len ucells_len (by omega)
  by_cases hg : ledgerV l = true
  · have hle : n ≤ 200 := by
      have h := hlen.out
      simp [ledgerV] at hg; omega
    have HE : Hid (decayL l = l.map halfU) := by show _ = _; unfold decayL; rw [if_pos hg]
    have hE : chkE l = 0 := by unfold chkE; rw [if_pos hg]
    clear hg
    go_enter Try.func12, Try.ntmps12
    go_wp2_with (go_at_call 14; refine (rcheck_any A n c B l _ hn hr hB).mono ?_; rintro e w1 ⟨rfl, hb1⟩; rw [hE]; have hz1 := hb1.size; clear hE)
    go_loopw [3, 4] (fun v i wr => ∃ k : Nat, k ≤ n ∧ i = .int .i64 k ∧ Owns wr w.heap.size 42 4 v k (recs ucells ((l.take k).map halfU)) ∧ Below w.heap.size w wr) (fun _ i _ => n - (intOf i).toNat)
    case atStart => exact ⟨0, Nat.zero_le _, rfl, Owns.nil, hb1⟩
    case round =>
      obtain ⟨k, hk, rfl, o4, b4⟩ := hrel
      have hz4 := b4.size
      by_cases hlt : k < n
      · obtain ⟨b, o, u, rfl, hbb, hx, c0, c1, c2, c3⟩ := (hr.below (b4.mono (by omega))).u_at hlt
        obtain ⟨A4, c4, rfl, hc4, _⟩ := o4.slice
        have HT : Hid ((l.take k).map halfU ++ [halfU u] = (l.take (k + 1)).map halfU) := by show _ = _; rw [List.take_add_one, hx.out]; simp
        have hub : b < wr.heap.size := by omega
        have hr4 := Reads.madeRec (enc := ucells) (wr.alloc (.cells #[.string u.user, .string u.acct, .int .i64 u.used, .int .i64 (halfV u.share)] 42)) (halfU u) 42 (ucells_len _)
        simp only [World.size_alloc] at hr4
        clear hr
        go_wp2_with (first
          | (go_at_call 29; refine (rhalf_any _ _).mono ?_; rintro e w' ⟨rfl, rfl⟩)
          | (at_builtin
             refine app_u rfl rfl w.heap.size rfl ((o4.alloc _).alloc _) rfl hr4 (by omega) (by simp; omega) ?_
             intro v5 w5 o5 k5 _
             have b5 := k5.below ((b4.alloc hz4 _).alloc (by simp; omega) _) (Nat.le_refl _) (by simp; omega)))
        go_roundw
        case rel => exact ⟨k + 1, by omega, by go_num, by rw [← HT.out]; exact o5, b5⟩
        case measure => simp [intOf]; omega
      · have HL : Hid ((l.take k).map halfU = decayL l) := by
          show _ = _
          rw [HE.out, List.take_of_length_le (by have := hlen.out; omega)]
        have hl2 : Hid ((decayL l).length = k) := by show _ = _; rw [HE.out]; have := hlen.out; simp; omega
        clear hr
        go_wp2
        go_ret
        refine ⟨_, rfl, ?_, b4⟩
        rw [hl2.out, ← HL.out]; exact o4
  · have HE : Hid (decayL l = []) := by show _ = _; unfold decayL; rw [if_neg hg]
    have hE : chkE l = 2 := by unfold chkE; rw [if_neg hg]
    clear hg
    go_enter Try.func12, Try.ntmps12
    go_wp2_with (go_at_call 14; refine (rcheck_any A n c B l _ hn hr hB).mono ?_; rintro e w1 ⟨rfl, hb1⟩; rw [hE])
    go_ret
    refine ⟨_, rfl, ?_, hb1⟩
    rw [HE.out]; exact Owns.nil
end Go.Proofs.Ytlhogedcokcmhaa
