/- Contract of ledger.Check. -/
import Derived.Test.YtmkmmggimokagaaGreatDoorLedW
import Derived.Test.YtmkmmggimokagaaGreatDoorK1
namespace Go.Proofs.YtmkmmggimokagaaGreatDoor
set_option linter.unusedVariables false
open Go.RowKit

theorem quiet_left {P : Program} {f : FuncId} {args : Array Value} {w : World} {n : Nat} {v : Value}
    (h : Calls P f args (w.drewN n) fun e w' => e = .returned v ∧ w.drewN n = w') : Calls P f args (w.drewN n) fun e w'' => e = .returned v ∧ ∃ m, w'' = w.drewN m :=
  h.mono fun _ _ ⟨he, hm⟩ => ⟨he, n, hm.symm⟩
theorem Reads.u_two {w : World} {B n j : Nat} {A : Option Addr} {l : List U} (h : Reads w B 4 A n (recs ucells l)) (hk : j + 1 < n) :
    ∃ b o u p, A = some ⟨b, o, none⟩ ∧ b < B ∧ Hid (l[j + 1]? = some u) ∧ Hid (l[j]? = some p) ∧
      (w.cell? ⟨b, o + (j + 1) * 4, none⟩ = some (.string u.user) ∧ w.cell? ⟨b, o + (j + 1) * 4 + 1, none⟩ = some (.string u.acct) ∧ w.cell? ⟨b, o + (j + 1) * 4 + 2, none⟩ = some (.int .i64 u.used) ∧ w.cell? ⟨b, o + (j + 1) * 4 + 3, none⟩ = some (.int .i64 u.share)) ∧
      (w.cell? ⟨b, o + j * 4, none⟩ = some (.string p.user) ∧ w.cell? ⟨b, o + j * 4 + 1, none⟩ = some (.string p.acct) ∧ w.cell? ⟨b, o + j * 4 + 2, none⟩ = some (.int .i64 p.used) ∧ w.cell? ⟨b, o + j * 4 + 3, none⟩ = some (.int .i64 p.share)) := by
  obtain ⟨b, o, u, rfl, hb, hx, c⟩ := h.u_at hk
  obtain ⟨b', o', p, e, _, hx', c'⟩ := h.u_at (k := j) (by omega)
  have e1 : b = b' ∧ o = o' := by simpa using e
  rw [← e1.1, ← e1.2] at c'
  exact ⟨b, o, u, p, rfl, hb, hx, hx', c, c'⟩
theorem goodU_parts (u : U) (h : goodU u = false) : nameV u.user = false ∨ (nameV u.user = true ∧ nameV u.acct = false) ∨
    (nameV u.user = true ∧ nameV u.acct = true ∧ (u.used != clamp u.used 0 1000000000000) = true) ∨
    (nameV u.user = true ∧ nameV u.acct = true ∧ (u.used != clamp u.used 0 1000000000000) = false ∧ decide (u.share < 0) = true) ∨
    (nameV u.user = true ∧ nameV u.acct = true ∧ (u.used != clamp u.used 0 1000000000000) = false ∧ decide (u.share < 0) = false ∧ decide (u.used < u.share) = true) := by
  unfold goodU at h
  cases h1 : nameV u.user <;> cases h2 : nameV u.acct <;> simp [h1, h2] at h ⊢
  rcases clamp_cases u.used (E := 1000000000000) (by omega) with hc | hc | hc
  · left; rw [hc.2]; omega
  · rw [hc.2.2]; right; simp
    rcases Int.lt_or_le u.share 0 with h5 | h5
    · exact .inl h5
    · exact .inr ⟨h5, h (by omega) (by omega) h5⟩
  · left; rw [hc.2]; omega
theorem goodU_all {u : U} (h : goodU u = true) : nameV u.user = true ∧ nameV u.acct = true ∧ (u.used != clamp u.used 0 1000000000000) = false ∧ decide (u.share < 0) = false ∧ decide (u.used < u.share) = false := by
  unfold goodU at h
  simp only [Bool.and_eq_true, decide_eq_true_eq] at h
  refine ⟨h.1.1.1.1.1, h.1.1.1.1.2, ?_, by simp; omega, by simp; omega⟩
  rw [clamp_in (by omega) (by omega)]; simp

set_option maxHeartbeats 2000000 in
theorem lcheck_any (A : Option Addr) (n c B : Nat) (l : List U) (w : World) (hn : n ≤ maxLen) (hr : Reads w B 4 A n (recs ucells l)) (hB : B ≤ w.heap.size) :
    Calls Tryz.prog 44 #[.slice A n c] w fun e w' => e = .returned (.int .i64 (chkE l)) ∧ Below w.heap.size w w' := by
  unfold maxLen at hn
  have hlen := hr.rec_len ucells_len (by omega)
  by_cases h200 : 200 < n
  · have HF : Hid (chkE l = 2) := by show _ = _; unfold chkE ledgerV; rw [hlen.out]; simp; omega
    go_enter Tryz.func44, Tryz.ntmps44
    go_wp2
    go_ret
    exact ⟨ret_int HF.out.symm, Below.refl _ _⟩
  have HV : Hid (ledgerV l = goodB l none) := by show _ = _; unfold ledgerV; rw [hlen.out]; simp; omega
  go_enter Tryz.func44, Tryz.ntmps44
  go_wp2
  go_loopw [10] (fun i wr => ∃ k : Nat, k ≤ n ∧ i = .int .i64 k ∧ Hid (goodB l none = goodB (l.drop k) (prevK l k)) ∧ Below w.heap.size w wr) (fun i _ => n - (intOf i).toNat)
  case atStart => exact ⟨0, Nat.zero_le _, rfl, rfl, Below.refl _ _⟩
  case round =>
    obtain ⟨k, hk, rfl, hG, hb⟩ := hrel
    have hz := hb.size
    have hr2 := hr.below (hb.mono hB)
    by_cases hlt : k < n
    · obtain ⟨b, o, u, rfl, hbb, hx, c0, c1, c2, c3⟩ := hr2.u_at hlt
      have hst := Lib.hid (good_step hx.out)
      have hub : b < wr.heap.size := by omega
      by_cases hg : goodU u = true
      · obtain ⟨n1, n2, n3, n4, n5⟩ := goodU_all hg
        by_cases hk0 : k = 0
        · have hd : decide (0 < k) = false := by simp; omega
          have hG2 : Hid (goodB l none = goodB (l.drop (k + 1)) (prevK l (k + 1))) := by
            show _ = _
            rw [hG.out, hst.out, hg, hk0]; simp [prevK, aheadO]
          clear hg hk0 hr hr2
          go_wp2
          go_quiet (first | (go_at_call 59; exact quiet_left (lname_any _ _)) | (go_at_call 28; exact quiet_left (usage_any _ _)))
          go_wp2
          go_roundw
          case rel => exact ⟨k + 1, by omega, by go_num, hG2, below_drewN (hb.alloc hz _) _⟩
          case measure => simp [intOf]; omega
        · obtain ⟨j, rfl⟩ : ∃ j, k = j + 1 := ⟨k - 1, by omega⟩
          have hj : j < n := by omega
          obtain ⟨b', o', p, e', _, hx', q0, q1, q2, q3⟩ := hr2.u_at hj
          have e1 : b = b' ∧ o = o' := by simpa using e'
          rw [← e1.1, ← e1.2] at q0 q1 q2 q3
          clear e' e1
          have hd : decide (0 < j + 1) = true := by simp
          have hw1 : IntKind.i64.wrap (j : Int) = (j : Int) := IntWalk.i64_in _ (by omega)
          have hw2 : IntKind.i64.wrap ((j : Int) + 1 - 1) = (j : Int) := by rw [Int.add_sub_cancel]; exact hw1
          have hj0 : (0 : Int) ≤ (j : Int) := by omega
          have hj1 : (j : Int) < (n : Int) := by omega
          have hpk : Hid (prevK l (j + 1) = some p) := by show _ = _; simp [prevK, hx'.out]
          by_cases ho : ordU p u < 0
          · have hG2 : Hid (goodB l none = goodB (l.drop (j + 1 + 1)) (prevK l (j + 1 + 1))) := by
              show _ = _
              rw [hG.out, hst.out, hg, hpk.out]; simp [aheadO, ho]
            have ho2 : decide (0 ≤ ordU p u) = false := by simp; omega
            clear hg hk0 hr hr2 ho
            go_wp2
            refine wp_region_later (by kernel_rfl) (by kernel_rfl) ?_
            have hl_ := later_cell ((wr.alloc (.cells #[.string u.user, .string u.acct, .int .i64 u.used, .int .i64 u.share] 48)))
            repeat (first | go_big_quiet_step ((first | (go_at_call 59; exact later_same (lname_any _ _)) | (go_at_call 28; exact later_same (usage_any _ _)) | (go_at_call 60; exact later_of (order_any p u _)))) | quiet_step ((first | (go_at_call 59; exact later_same (lname_any _ _)) | (go_at_call 28; exact later_same (usage_any _ _)) | (go_at_call 60; exact later_of (order_any p u _)))))
            refine wpQuiet_nil ?_
            intro w9 hx_
            obtain ⟨⟨w_, hb8⟩, e_⟩ := hx_
            have e2_ : w9 = w_ := e_
            clear e_
            subst e2_
            clear hl_
            go_wp2
            have hb9 := (hb.alloc hz (.cells #[.string u.user, .string u.acct, .int .i64 u.used, .int .i64 u.share] 48)).trans (hb8.mono (by simp <;> omega))
            go_roundw
            case rel => exact ⟨j + 1 + 1, by omega, by go_num, hG2, by first | exact hb9 | exact below_drew hb9 | exact below_drewN hb9 _⟩
            case measure => simp [intOf]; omega
          · have HF : Hid (chkE l = 2) := by
              show _ = _
              unfold chkE; rw [HV.out, hG.out, hst.out, hpk.out]; simp [aheadO, ho]
            have ho2 : decide (0 ≤ ordU p u) = true := by simp; omega
            clear hg hk0 hr hr2 ho
            go_wp2
            refine wp_region_later (by kernel_rfl) (by kernel_rfl) ?_
            have hl_ := later_cell ((wr.alloc (.cells #[.string u.user, .string u.acct, .int .i64 u.used, .int .i64 u.share] 48)))
            repeat (first | go_big_quiet_step ((first | (go_at_call 59; exact later_same (lname_any _ _)) | (go_at_call 28; exact later_same (usage_any _ _)) | (go_at_call 60; exact later_of (order_any p u _)))) | quiet_step ((first | (go_at_call 59; exact later_same (lname_any _ _)) | (go_at_call 28; exact later_same (usage_any _ _)) | (go_at_call 60; exact later_of (order_any p u _)))))
            refine wpQuiet_nil ?_
            intro w9 hx_
            obtain ⟨⟨w_, hb8⟩, e_⟩ := hx_
            have e2_ : w9 = w_ := e_
            clear e_
            subst e2_
            clear hl_
            go_wp2
            have hb9 := (hb.alloc hz (.cells #[.string u.user, .string u.acct, .int .i64 u.used, .int .i64 u.share] 48)).trans (hb8.mono (by simp <;> omega))
            go_ret
            exact ⟨ret_int HF.out.symm, by first | exact hb9 | exact below_drew hb9 | exact below_drewN hb9 _⟩
      · have hg' : goodU u = false := by simpa using hg
        have HF : Hid (chkE l = 2) := by
          show _ = _
          unfold chkE; rw [HV.out, hG.out, hst.out, hg']; rfl
        clear hg hr hr2
        rcases goodU_parts u hg' with n1 | ⟨n1, n2⟩ | ⟨n1, n2, n3⟩ | ⟨n1, n2, n3, n4⟩ | ⟨n1, n2, n3, n4, n5⟩
        all_goals
          clear hg'
          go_wp2
          go_quiet (first | (go_at_call 59; exact quiet_left (lname_any _ _)) | (go_at_call 28; exact quiet_left (usage_any _ _)))
          go_wp2
          go_ret
          exact ⟨ret_int HF.out.symm, below_drewN (hb.alloc hz _) _⟩
    · have HF : Hid (chkE l = 0) := by
        show _ = _
        unfold chkE; rw [HV.out, hG.out, List.drop_eq_nil_of_le (by have := hlen.out; omega)]; rfl
      clear hr hr2
      go_wp2
      go_ret
      exact ⟨ret_int HF.out.symm, hb⟩
end Go.Proofs.YtmkmmggimokagaaGreatDoor
