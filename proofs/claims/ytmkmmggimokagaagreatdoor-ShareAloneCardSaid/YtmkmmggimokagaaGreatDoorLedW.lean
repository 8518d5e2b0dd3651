/- Contracts of layer 17 (ledger): names, order, few. -/
import Derived.Test.YtmkmmggimokagaaGreatDoorLedP
import Derived.Test.YtmkmmggimokagaaGreatDoorK1
import Derived.Deep.QuietTactic
import Derived.BigQuiet
import Derived.Deep.RegionHeld3
namespace Go.Proofs.YtmkmmggimokagaaGreatDoor
set_option linter.unusedVariables false
open Go.RowKit
/-- few and short entries -/
def fewV (l : List U) : Bool := decide (l.length ≤ 300) && l.all (fun u => decide (u.user.size ≤ 1000) && decide (u.acct.size ≤ 1000))
set_option maxHeartbeats 400000 in
theorem few_any (A : Option Addr) (n c B : Nat) (l : List U) (w : World) (hn : n ≤ maxLen) (hr : Reads w B 4 A n (recs ucells l)) :
    Calls Tryz.prog 5 #[.slice A n c] w fun e w' => e = .returned (.bool (fewV l)) ∧ w = w' := by
  unfold maxLen at hn
  have hlen := hr.rec_len ucells_len (by omega)
  by_cases h300 : 300 < n
  · have HF : Hid (fewV l = false) := by show _ = _; unfold fewV; rw [hlen.out]; simp; omega
    go_enter Tryz.func5, Tryz.ntmps5
    go_wp2
    go_ret
    exact ⟨ret_bool HF.out.symm, rfl⟩
  go_enter Tryz.func5, Tryz.ntmps5
  go_wp2
  go_loop [3] (fun i => ∃ k : Nat, k ≤ n ∧ i = .int .i64 k ∧ Hid ((l.take k).all (fun u => decide (u.user.size ≤ 1000) && decide (u.acct.size ≤ 1000)) = true)) (fun i => n - (intOf i).toNat)
  case atStart => exact ⟨0, Nat.zero_le _, rfl, rfl⟩
  case round =>
    obtain ⟨k, hk, rfl, ha⟩ := hrel
    by_cases hlt : k < n
    · obtain ⟨b, o, u, rfl, hb, hx, c0, c1, c2, c3⟩ := hr.u_at hlt
      have hmem : u ∈ l := List.mem_of_getElem? hx.out
      have HM := Lib.hid hmem
      clear hr c2 c3 hmem
      by_cases h1 : 1000 < u.user.size
      · have HF : Hid (fewV l = false) := by
          show _ = _
          unfold fewV
          rw [Bool.and_eq_false_iff]; right
          rw [List.all_eq_false]; exact ⟨u, HM.out, by simp; omega⟩
        go_wp2
        go_ret
        exact ⟨ret_bool HF.out.symm, rfl⟩
      · by_cases h2 : 1000 < u.acct.size
        · have HF : Hid (fewV l = false) := by
            show _ = _
            unfold fewV
            rw [Bool.and_eq_false_iff]; right
            rw [List.all_eq_false]; exact ⟨u, HM.out, by simp; omega⟩
          go_wp2
          go_ret
          exact ⟨ret_bool HF.out.symm, rfl⟩
        · go_wp2
          go_round
          case rel => exact ⟨k + 1, by omega, by go_num, by
            show _ = _
            rw [List.take_add_one, hx.out, List.all_append, ha.out]; simp; omega⟩
          case measure => simp [intOf]; omega
    · have HF : Hid (fewV l = true) := by
        show _ = _
        have h := ha.out
        rw [List.take_of_length_le (by have := hlen.out; omega)] at h
        unfold fewV; rw [h, hlen.out]; simp; omega
      go_wp2
      go_ret
      exact ⟨ret_bool HF.out.symm, rfl⟩
theorem isNaN_any (s : ByteArray) (w : World) : Calls Tryz.prog 102 #[.string s] w fun e w' => e = .returned (.bool false) ∧ w = w' := by
  go_enter Tryz.func102, Tryz.ntmps102
  go_wp2
  go_ret
  exact ⟨ret_bool (by simp), rfl⟩
theorem compare_any (a b : ByteArray) (w : World) : Calls Tryz.prog 85 #[.string a, .string b] w fun e w' => e = .returned (.int .i64 (cmpS a b)) ∧ w = w' := by
  by_cases h1 : Op.bytesLess a.toList b.toList = true
  · go_enter Tryz.func85, Tryz.ntmps85
    go_wp2_with (go_at_call 102; refine (isNaN_any _ _).mono ?_; rintro e w' ⟨rfl, rfl⟩)
    go_ret
    exact ⟨ret_int (by unfold cmpS; rw [if_pos h1]), rfl⟩
  · have h1' : Op.bytesLess a.toList b.toList = false := by simpa using h1
    by_cases h2 : (a.toList == b.toList) = true
    · go_enter Tryz.func85, Tryz.ntmps85
      go_wp2_with (go_at_call 102; refine (isNaN_any _ _).mono ?_; rintro e w' ⟨rfl, rfl⟩)
      go_ret
      exact ⟨ret_int (by unfold cmpS; rw [if_neg h1, if_pos h2]), rfl⟩
    · have h2' : (a.toList == b.toList) = false := by simpa using h2
      go_enter Tryz.func85, Tryz.ntmps85
      go_wp2_with (go_at_call 102; refine (isNaN_any _ _).mono ?_; rintro e w' ⟨rfl, rfl⟩)
      go_ret
      exact ⟨ret_int (by unfold cmpS; rw [if_neg h1, if_neg h2]), rfl⟩
set_option maxHeartbeats 400000 in
theorem or_cells (x y : Int) (W : World) (g : Nat) (c0 : W.cell? ⟨g, 0, none⟩ = some (.int .i64 x)) (c1 : W.cell? ⟨g, 1, none⟩ = some (.int .i64 y)) :
    Calls Tryz.prog 57 #[.slice (some ⟨g, 0, none⟩) 2 2] W fun e w' => e = .returned (.int .i64 (orV x y)) ∧ W = w' := by
  go_enter Tryz.func57, Tryz.ntmps57
  go_wp2
  go_loop [8] (fun i => (i = .int .i64 0) ∨ (i = .int .i64 1 ∧ Hid (x = 0)) ∨ (i = .int .i64 2 ∧ Hid (x = 0) ∧ Hid (y = 0))) (fun i => 2 - (intOf i).toNat)
  case atStart => exact .inl rfl
  case round =>
    rcases hrel with rfl | ⟨rfl, hx⟩ | ⟨rfl, hx, hy⟩
    · by_cases h : (x != 0) = true
      · go_wp2
        go_ret
        exact ⟨ret_int (by unfold orV; rw [if_neg (by simpa using h)]), rfl⟩
      · have h' : (x != 0) = false := by simpa using h
        go_wp2
        go_round
        case rel => exact .inr (.inl ⟨rfl, (show x = 0 by simpa using h)⟩)
        case measure => simp [intOf]
    · by_cases h : (y != 0) = true
      · go_wp2
        go_ret
        exact ⟨ret_int (by unfold orV; rw [if_pos hx.out]), rfl⟩
      · have h' : (y != 0) = false := by simpa using h
        go_wp2
        go_round
        case rel => exact .inr (.inr ⟨rfl, hx, (show y = 0 by simpa using h)⟩)
        case measure => simp [intOf]
    · go_wp2
      go_ret
      exact ⟨ret_int (by unfold orV; rw [if_pos hx.out, hy.out]), rfl⟩
abbrev uv (u : U) : Value := .agg #[.string u.user, .string u.acct, .int .i64 u.used, .int .i64 u.share]
set_option maxHeartbeats 1000000 in
theorem order_any (u v : U) (w : World) : Calls Tryz.prog 60 #[uv u, uv v] w fun e w' => e = .returned (.int .i64 (ordU u v)) ∧ Below w.heap.size w w' := by
  go_enter Tryz.func60, Tryz.ntmps60
  go_wp2
  go_region_held3 (fun w' => w'.cell? ⟨w.heap.size, 0, none⟩ = some (.string u.user) ∧ w'.cell? ⟨w.heap.size, 1, none⟩ = some (.string u.acct) ∧ w'.cell? ⟨w.heap.size + 1, 0, none⟩ = some (.string v.user) ∧ w'.cell? ⟨w.heap.size + 1, 1, none⟩ = some (.string v.acct)) (go_keep)
    (first | (go_at_call 85; refine (compare_any _ _ _).mono ?_; rintro e w' ⟨rfl, rfl⟩) | (go_at_call 57; refine (or_cells (cmpS u.user v.user) (cmpS u.acct v.acct) _ _ ?_ ?_).mono ?_; (focus simp [go_sem]); (focus simp [go_sem]); rintro e w' ⟨rfl, rfl⟩))
  go_wp2
  go_ret
  refine ⟨rfl, ?_⟩
  repeat (first | exact Below.refl _ _ | refine below_drewN ?_ _ | refine below_drew ?_ | refine Below.alloc ?_ (by simp <;> omega) _)

theorem lname_any (s : ByteArray) (w : World) : Calls Tryz.prog 59 #[.string s] w fun e w' => e = .returned (.bool (nameV s)) ∧ w = w' := by
  by_cases h1 : 1 ≤ s.size
  · go_enter Tryz.func59, Tryz.ntmps59
    go_wp2
    go_ret
    exact ⟨ret_bool (by unfold nameV; simp [h1]; omega), rfl⟩
  · have h2 : decide ((1 : Int) ≤ (s.size : Int)) = false := by simp; omega
    go_enter Tryz.func59, Tryz.ntmps59
    go_wp2
    go_ret
    exact ⟨ret_bool (by unfold nameV; simp; omega), rfl⟩
end Go.Proofs.YtmkmmggimokagaaGreatDoor
