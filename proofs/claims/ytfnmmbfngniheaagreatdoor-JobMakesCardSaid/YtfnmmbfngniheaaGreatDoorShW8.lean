/- Layer 7: the sizes of a range, from the greatest down; a clone of nothing. -/
import Derived.Test.YtfnmmbfngniheaaGreatDoorShW7
import Derived.RangeFuncNested
import Derived.RangeFuncBox
import Derived.RangeFuncBound
import Derived.RangeFuncCalls
import Derived.RangeFuncLeaves
import Derived.RangeFuncFrom
import Derived.Shelf.Abstract
import Derived.Shelf.RegionOpen
import Derived.WalkKit
import Derived.OwnWalkIn
import Derived.TacticsInMore
import Derived.LoopNIn
import Derived.LoopIn
import Derived.Maps.AppendAt
namespace Go.Proofs.YtfnmmbfngniheaaGreatDoor
set_option linter.unusedVariables false
open Go.RowKit Go.Shelf
attribute [local go_sem] Oper.semAt_some
/-- what comes, from the greatest down -/
def downN (hi : Int) (k : Nat) : List Int := (List.range k).map (fun (i : Nat) => hi - (i : Int))
theorem downN_succ (hi : Int) (k : Nat) : downN hi (k + 1) = downN hi k ++ [hi - (k : Int)] := by unfold downN; rw [List.range_succ]; simp
theorem downN_len (hi : Int) (k : Nat) : (downN hi k).length = k := by unfold downN; simp
theorem downN_pre (hi : Int) {j k : Nat} (h : j ≤ k) : downN hi j <+: downN hi k := by
  unfold downN
  refine List.IsPrefix.map _ ?_
  rw [List.prefix_iff_eq_take, List.length_range, List.take_range, Nat.min_eq_left h]
theorem sizes_any (a b : Int) (w : World) : Calls Tryz.prog 171 #[.int .i64 a, .int .i64 b] w fun e w' =>
    e = .returned (.func (.func 193) #[] #[.pointer (some ⟨w.heap.size + 1, 0, none⟩), .pointer (some ⟨w.heap.size, 0, none⟩)]) ∧ w' = (w.alloc (.cells #[.int .i64 a] 3)).alloc (.cells #[.int .i64 b] 3) := by
  have hmf : ∀ (fn : Fn) (first cap : Array Value) (w : World), (Instr.makeFunc fn first cap).run Tryz.prog w = .ok (.func fn first cap) w := fun _ _ _ _ => rfl
  go_enter Tryz.func171, Tryz.ntmps171
  go_wp2
  go_ret
  exact ⟨rfl, rfl⟩
/-- what a round keeps for the iterator: the box of the least size -/
def KeptBox (f : Nat) (lo : Int) (W W' : World) : Prop := Boxed W f 3 (.int .i64 lo) → Boxed W' f 3 (.int .i64 lo)
set_option maxRecDepth 100000 in
set_option maxHeartbeats 1000000 in
theorem sizes_in (F : Fence) (n : Nat) (h6 : F.fn 193) (hro : F.round = none) (hn : 1 ≤ n) (l Bt Bf N : Nat) (lo hi : Int) (hlo : -1000 ≤ lo) (hhi : hi ≤ 1000) (hN : (N : Int) = hi - lo + 1) (J Jx : List Int → World → Prop)
    (hY : ∀ pre x W, J pre W → pre.length < N → YieldAt F (n - 1) Tryz.prog l #[.int .i64 x] W fun e W' =>
      (e = .returned (.bool true) ∧ J (pre ++ [x]) W' ∧ KeptBox Bf lo W W') ∨ (e = .returned (.bool false) ∧ Jx (pre ++ [x]) W'))
    (W : World) (hBt : W.cell? ⟨Bt, 0, none⟩ = some (.int .i64 hi)) (hBf : Boxed W Bf 3 (.int .i64 lo)) (h0 : J [] W) :
    CallsIn F n Tryz.prog 193 #[.func (.yield l) #[] #[], .pointer (some ⟨Bt, 0, none⟩), .pointer (some ⟨Bf, 0, none⟩)] W fun e W' => (∃ v, e = .returned v) ∧
      ((∃ ys, ys = downN hi N ∧ J ys W') ∨ (∃ pre, pre <+: downN hi N ∧ Jx pre W')) := by
  refine callsIn_of_wp Tryz.func193 rfl h6 ?_ hro
  simp only [Tryz.ntmps193, List.size_toArray, List.length_cons, List.length_nil, Nat.reduceAdd, Nat.reduceSub, Array.replicate_succ, Array.replicate_zero, List.push_toArray, List.append_toArray, List.nil_append, List.cons_append]
  gi_wp2
  gi_loopw [4] (fun p wr => ∃ k : Nat, k ≤ N ∧ p = .int .i64 (hi - (k : Int)) ∧ Boxed wr Bf 3 (.int .i64 lo) ∧ J (downN hi k) wr)
    (fun p _ => (intOf p - lo + 1).toNat)
  case atStart =>
    exact ⟨0, Nat.zero_le _, by simp, hBf, h0⟩
  case round =>
    obtain ⟨k, hk, rfl, hb, hJs⟩ := hrel
    have hcb := hb.cell
    by_cases hlt : k < N
    · have t0 : decide (lo ≤ hi - (k : Int)) = true := by simp; omega
      obtain ⟨fn, tmps, assign, body, hy, hR⟩ := hY (downN hi k) (hi - (k : Int)) wr hJs (by rw [downN_len]; exact hlt)
      gi_wp2
      refine hR.mono ?_
      rintro e W3 (⟨rfl, hJ3, hk3⟩ | ⟨rfl, hJx3⟩)
      · have hb3 := hk3 hb
        gi_wp2
        go_roundw
        case rel => exact ⟨k + 1, hlt, by congr 1; omega, hb3, by rw [downN_succ]; exact hJ3⟩
        case measure => simp [intOf]; omega
      · gi_wp2
        refine bodyPost_ret (results_none rfl _ _ _) rfl ?_
        exact ⟨⟨_, rfl⟩, .inr ⟨_, by rw [← downN_succ]; exact downN_pre hi hlt, hJx3⟩⟩
    · obtain rfl : k = N := by omega
      have t0 : decide (lo ≤ hi - (k : Int)) = false := by simp; omega
      gi_wp2
      go_end0
      exact ⟨⟨_, rfl⟩, .inl ⟨_, rfl, hJs⟩⟩
theorem sizes_stops (F : Fence) (n : Nat) (h6 : F.fn 193) (hro : F.round = none) (hn : 1 ≤ n) (Bt Bf N : Nat) (lo hi : Int) (hlo : -1000 ≤ lo) (hhi : hi ≤ 1000) (hN : (N : Int) = hi - lo + 1) (w : World) (hBt : Bt < w.heap.size) (hBf : Bf < w.heap.size)
    (hct : w.cell? ⟨Bt, 0, none⟩ = some (.int .i64 hi)) (hcf : Boxed w Bf 3 (.int .i64 lo)) :
    SeqStopsK F n Tryz.prog 193 #[.pointer (some ⟨Bt, 0, none⟩), .pointer (some ⟨Bf, 0, none⟩)] (fun x : Int => #[Value.int .i64 x]) (KeptBox Bf lo) (fun ys => ys = downN hi N) (fun pre => pre <+: downN hi N) N w := fun l J Jx W hW _ _ hY h0 =>
  sizes_in F n h6 hro hn l Bt Bf N lo hi hlo hhi hN J Jx hY W ((hW.cell (p := ⟨Bt, 0, none⟩) hBt).trans hct) ((hW.block Bf hBf).trans hcf) h0
end Go.Proofs.YtfnmmbfngniheaaGreatDoor
