/- The document's answers of layer 17: names, order, Check. -/
import Derived.Test.YtlhogedcokcmhaaLedW6
namespace Go.Proofs.Ytlhogedcokcmhaa
set_option linter.unusedVariables false
open Go.RowKit
theorem rname_any (s : ByteArray) (w : World) : Calls Try.prog 25 #[.string s] w fun e w' => e = .returned (.bool (nameV s)) ∧ w = w' := by
  by_cases h1 : 0 < s.size
  · by_cases h3 : s.size < 65
    · have HE : Hid (nameV s = true) := by show _ = _; unfold nameV; simp; omega
      go_enter Try.func25, Try.ntmps25
      go_wp2
      go_ret
      exact ⟨ret_bool (by rw [HE.out]; simp; try omega), rfl⟩
    · have HE : Hid (nameV s = false) := by show _ = _; unfold nameV; simp; omega
      go_enter Try.func25, Try.ntmps25
      go_wp2
      go_ret
      exact ⟨ret_bool (by rw [HE.out]; simp; try omega), rfl⟩
  · have h2 : decide ((0 : Int) < (s.size : Int)) = false := decide_eq_false (by omega)
    have HE : Hid (nameV s = false) := by show _ = _; unfold nameV; simp; omega
    go_enter Try.func25, Try.ntmps25
    go_wp2
    go_ret
    exact ⟨ret_bool (by rw [HE.out]), rfl⟩
theorem ahead_any (u v : U) (w : World) : Calls Try.prog 26 #[uv u, uv v] w fun e w' => e = .returned (.bool (decide (ordU u v < 0))) ∧ Below w.heap.size w w' := by
  have hb : Below w.heap.size w ((w.alloc (.cells #[.string u.user, .string u.acct, .int .i64 u.used, .int .i64 u.share] 42)).alloc (.cells #[.string v.user, .string v.acct, .int .i64 v.used, .int .i64 v.share] 42)) := ((Below.refl _ _).alloc (Nat.le_refl _) _).alloc (by simp) _
  by_cases h1 : Op.bytesLess u.user.toList v.user.toList = true
  · have HE : Hid (decide (ordU u v < 0) = true) := by show _ = _; simp [ordU_neg, h1]
    go_enter Try.func26, Try.ntmps26
    go_wp2
    go_ret
    exact ⟨ret_bool HE.out.symm, hb⟩
  · have h1' : Op.bytesLess u.user.toList v.user.toList = false := by simpa using h1
    by_cases h2 : u.user = v.user
    · have h3 : (u.user.toList == v.user.toList) = true := by simp [h2]
      have HE : Hid (decide (ordU u v < 0) = Op.bytesLess u.acct.toList v.acct.toList) := by
        show _ = _
        rw [Bool.eq_iff_iff]; simp [ordU_neg, h2]
        intro h; rw [less_irrefl] at h; cases h
      clear h1 h2
      go_enter Try.func26, Try.ntmps26
      go_wp2
      go_ret
      exact ⟨ret_bool HE.out.symm, hb⟩
    · have h3 : (u.user.toList == v.user.toList) = false := by
        rw [Bool.eq_false_iff]; intro h; exact h2 (tl_inj (by simpa using h))
      have HE : Hid (decide (ordU u v < 0) = false) := by show _ = _; simp [ordU_neg, h1', h2]
      clear h1 h2
      go_enter Try.func26, Try.ntmps26
      go_wp2
      go_ret
      exact ⟨ret_bool HE.out.symm, hb⟩
set_option maxHeartbeats 400000 in
theorem rcheck_any (A : Option Addr) (n c B : Nat) (l : List U) (w : World) (hn : n ≤ maxLen) (hr : Reads w B 4 A n (recs ucells l)) (hB : B ≤ w.heap.size) :
    Calls Try.prog 14 #[.slice A n c] w fun e w' => e = .returned (.int .i64 (chkE l)) ∧ Below w.heap.size w w' := by
  unfold maxLen at hn
  have hlen := hr.rec_len ucells_len (by omega)
  have HV : Hid (ledgerV l = (decide (n ≤ 200) && goodB l none)) := by show _ = _; unfold ledgerV; rw [hlen.out]
  go_enter Try.func14, Try.ntmps14
  go_wp2
  go_loopw [3] (fun i wr => ∃ k : Nat, k ≤ n ∧ k ≤ 200 ∧ i = .int .i64 k ∧ Hid (goodB l none = goodB (l.drop k) (prevK l k)) ∧ Below w.heap.size w wr) (fun i _ => n - (intOf i).toNat)
  case atStart => exact ⟨0, Nat.zero_le _, Nat.zero_le _, rfl, rfl, Below.refl _ _⟩
  case round =>
    obtain ⟨k, hk, hk2, rfl, hG, hb⟩ := hrel
    have hz := hb.size
    have hr2 := hr.below (hb.mono hB)
    by_cases hlt : k < n
    · obtain ⟨b, o, u, rfl, hbb, hx, c0, c1, c2, c3⟩ := hr2.u_at hlt
      have hst := Lib.hid (good_step hx.out)
      have hub : b < wr.heap.size := by omega
      have hb8 := hb.alloc hz (.cells #[.string u.user, .string u.acct, .int .i64 u.used, .int .i64 u.share] 42)
      by_cases h200 : k = 200
      · have HF : Hid (chkE l = 2) := by show _ = _; unfold chkE; rw [HV.out]; simp; omega
        have h3 : ((k : Int) == 200) = true := by simp; omega
        clear hr hr2 h200
        go_wp2
        go_ret
        exact ⟨ret_int HF.out.symm, hb8⟩
      have h3 : ((k : Int) == 200) = false := by simp; omega
      have h4 : k < 200 := by omega
      clear h200
      by_cases hg : goodU u = true
      · obtain ⟨n1, n2, n3, n4, n5⟩ := goodU_all hg
        have n3' : decide (u.used < 0) = false ∧ decide ((1000000000000 : Int) < u.used) = false := by
          have h : u.used = clamp u.used 0 1000000000000 := by simpa using n3
          have := clamp_bd u.used (E := 1000000000000) (by omega)
          constructor <;> simp <;> omega
        obtain ⟨n6, n7⟩ := n3'
        clear n3
        by_cases hk0 : k = 0
        · have hd : decide (0 < k) = false := by simp; omega
          have hG2 : Hid (goodB l none = goodB (l.drop (k + 1)) (prevK l (k + 1))) := by
            show _ = _
            rw [hG.out, hst.out, hg, hk0]; simp [prevK, aheadO]
          clear hg hk0 hr hr2
          go_wp2_with (go_at_call 25; refine (rname_any _ _).mono ?_; rintro e w' ⟨rfl, rfl⟩)
          go_quiet (fail)
          go_wp2
          go_roundw
          case rel => exact ⟨k + 1, by omega, by omega, by go_num, hG2, below_drewN hb8 _⟩
          case measure => simp [intOf]; omega
        · obtain ⟨j, rfl⟩ : ∃ j, k = j + 1 := ⟨k - 1, by omega⟩
          have hj : j < n := by omega
          obtain ⟨b', o', p, e', _, hx', q0, q1, q2, q3⟩ := hr2.u_at hj
          have e1 : b = b' ∧ o = o' := by simpa using e'
          rw [← e1.1, ← e1.2] at q0 q1 q2 q3
          clear e' e1
          have hd : decide (0 < j + 1) = true := by simp
          have hw1 : IntKind.i64.wrap (j : Int) = (j : Int) := IntWalk.i64_in _ (by omega)
          have hw2 : IntKind.i64.wrap ((j : Int) + 1 - 1) = (j : Int) := by rw [Int.add_sub_cancel]; exact hw1
          have hj0 : (0 : Int) ≤ (j : Int) := by omega
          have hj1 : (j : Int) < (n : Int) := by omega
          have hpk : Hid (prevK l (j + 1) = some p) := by show _ = _; simp [prevK, hx'.out]
          by_cases ho : ordU p u < 0
          · have hG2 : Hid (goodB l none = goodB (l.drop (j + 1 + 1)) (prevK l (j + 1 + 1))) := by
              show _ = _
              rw [hG.out, hst.out, hg, hpk.out]; simp [aheadO, ho]
            have ho2 : decide (ordU p u < 0) = true := by simpa using ho
            clear hg hk0 hr hr2
            go_wp2_with (go_at_call 25; refine (rname_any _ _).mono ?_; rintro e w' ⟨rfl, rfl⟩)
            refine wp_region_later (by kernel_rfl) (by kernel_rfl) ?_
            have hl_ := later_cell (wr.alloc (.cells #[.string u.user, .string u.acct, .int .i64 u.used, .int .i64 u.share] 42))
            repeat (first | go_big_quiet_step ((go_at_call 26; exact later_of (ahead_any p u _))) | quiet_step ((go_at_call 26; exact later_of (ahead_any p u _))))
            refine wpQuiet_nil ?_
            rintro _ ⟨⟨w9, hb9⟩, rfl⟩
            clear hl_
            go_wp2
            go_roundw
            case rel => exact ⟨j + 1 + 1, by omega, by omega, by go_num, hG2, hb8.trans (hb9.mono (by simp; omega))⟩
            case measure => simp [intOf]; omega
          · have HF : Hid (chkE l = 2) := by
              show _ = _
              unfold chkE; rw [HV.out, hG.out, hst.out, hpk.out]; simp [aheadO, ho]
            have ho2 : decide (ordU p u < 0) = false := by simpa using ho
            clear hg hk0 hr hr2
            go_wp2_with (go_at_call 25; refine (rname_any _ _).mono ?_; rintro e w' ⟨rfl, rfl⟩)
            refine wp_region_later (by kernel_rfl) (by kernel_rfl) ?_
            have hl_ := later_cell (wr.alloc (.cells #[.string u.user, .string u.acct, .int .i64 u.used, .int .i64 u.share] 42))
            repeat (first | go_big_quiet_step ((go_at_call 26; exact later_of (ahead_any p u _))) | quiet_step ((go_at_call 26; exact later_of (ahead_any p u _))))
            refine wpQuiet_nil ?_
            rintro _ ⟨⟨w9, hb9⟩, rfl⟩
            clear hl_
            go_wp2
            go_ret
            exact ⟨ret_int HF.out.symm, hb8.trans (hb9.mono (by simp; omega))⟩
      · have hg' : goodU u = false := by simpa using hg
        have HF : Hid (chkE l = 2) := by
          show _ = _
          unfold chkE; rw [HV.out, hG.out, hst.out, hg']; simp
        clear hg hr hr2
        rcases goodU_parts u hg' with n1 | ⟨n1, n2⟩ | ⟨n1, n2, n3⟩ | ⟨n1, n2, n3, n4⟩ | ⟨n1, n2, n3, n4, n5⟩
        · clear hg'
          go_wp2_with (go_at_call 25; refine (rname_any _ _).mono ?_; rintro e w' ⟨rfl, rfl⟩)
          go_ret
          exact ⟨ret_int HF.out.symm, hb8⟩
        · clear hg'
          go_wp2_with (go_at_call 25; refine (rname_any _ _).mono ?_; rintro e w' ⟨rfl, rfl⟩)
          go_ret
          exact ⟨ret_int HF.out.symm, hb8⟩
        · have h5 : decide (u.used < 0) = true ∨ decide (u.used < 0) = false ∧ decide ((1000000000000 : Int) < u.used) = true := by
            have h : ¬ u.used = clamp u.used 0 1000000000000 := by simpa using n3
            rcases clamp_cases u.used (E := 1000000000000) (by omega) with h1 | h1 | h1
            · exact .inl (by simpa using h1.1)
            · exact absurd h1.2.2.symm h
            · exact .inr ⟨by simp; omega, by simpa using h1.1⟩
          clear hg' n3
          rcases h5 with h5 | ⟨h5, h6⟩
          all_goals
            go_wp2_with (go_at_call 25; refine (rname_any _ _).mono ?_; rintro e w' ⟨rfl, rfl⟩)
            go_ret
            exact ⟨ret_int HF.out.symm, hb8⟩
        all_goals
          have n3' : decide (u.used < 0) = false ∧ decide ((1000000000000 : Int) < u.used) = false := by
            have h : u.used = clamp u.used 0 1000000000000 := by simpa using n3
            have := clamp_bd u.used (E := 1000000000000) (by omega)
            constructor <;> simp <;> omega
          obtain ⟨n6, n7⟩ := n3'
          clear hg' n3
          go_wp2_with (go_at_call 25; refine (rname_any _ _).mono ?_; rintro e w' ⟨rfl, rfl⟩)
          go_ret
          exact ⟨ret_int HF.out.symm, hb8⟩
    · have hle : n ≤ 200 := by omega
      have HF : Hid (chkE l = 0) := by
        show _ = _
        unfold chkE; rw [HV.out, hG.out, List.drop_eq_nil_of_le (by have := hlen.out; omega)]; simp [goodB, hle]
      clear hr hr2
      go_wp2
      go_ret
      exact ⟨ret_int HF.out.symm, hb⟩
end Go.Proofs.Ytlhogedcokcmhaa
