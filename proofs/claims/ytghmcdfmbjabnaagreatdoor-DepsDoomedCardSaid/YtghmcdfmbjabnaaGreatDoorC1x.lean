/- Layer 8: lists of dependencies, as layer 7's lists of alternatives. Layer 8: numbers within two; dependencies, walked. Layer 8: names; a command as a value. -/
import Derived.Test.YtghmcdfmbjabnaaGreatDoorC1t
import Derived.Test.YtghmcdfmbjabnaaGreatDoorS1t
import Derived.Test.YtghmcdfmbjabnaaGreatDoorK3t
namespace Go.Proofs.YtghmcdfmbjabnaaGreatDoor
set_option linter.unusedVariables false
open Go.RowKit
theorem eqD_nil (A : Option Addr) (n c : Nat) (v : World) : (binOp .eql 25 (.slice A n c) (.slice none 0 0)).run Tryz.prog v = .ok (.bool A.isNone) v := Lib.run_eql_slice_nil v 25 85 A n c 0 0 Tryz.underlying25
set_option maxHeartbeats 1000000 in
set_option maxRecDepth 100000 in
theorem cloneD_any (A : Option Addr) (n c B : Nat) (l : List Pr) (w : World) (hr : Reads w B 2 A n (recs prC l)) (hB : B ≤ w.heap.size) (hn : n ≤ 100000) :
    Calls Tryz.prog 154 #[.slice A n c] w (RetOwn w 85 2 n (recs prC l)) := by
  have hlen := hr.rec_len prC_len (by omega)
  have heq := fun v => eqD_nil A n c v
  cases hA : A with
  | none =>
    subst hA
    rw [show (none : Option Addr).isNone = true from rfl] at heq
    have h0 : n = 0 := by
      rcases Nat.eq_zero_or_pos n with h | h
      · exact h
      · obtain ⟨ad, e, _⟩ := hr.2 h; cases e
    have hl : l = [] := List.length_eq_zero_iff.1 (by rw [hlen.out, h0])
    subst h0 hl
    clear hr hlen
    go_enter Tryz.func154, Tryz.ntmps154
    go_wp2
    go_ret
    exact ⟨_, rfl, Owns.nil, Below.refl _ _⟩
  | some ad =>
    subst hA
    rw [show (some ad).isNone = false from rfl] at heq
    have hr2 := Lib.hid (hr.below ((Below.refl B w).alloc hB (.cells #[] 85)))
    have h0 := Lib.hid (Owns.madeN w [] 85 (n := 0) (size := 2) (B := w.heap.size) rfl (by simp [maxLen]) (Nat.le_refl _))
    have hb := (Below.refl w.heap.size w).alloc (Nat.le_refl _) (.cells #[] 85)
    go_enter Tryz.func154, Tryz.ntmps154
    go_wp2_with (at_builtin; refine app_d (xs := []) rfl rfl w.heap.size rfl h0.out rfl hr2.out (by omega) (by simp) ?_)
    intro v4 w4 o4 k4 _
    have kb4 := k4.below hb (Nat.le_refl _) (by simp)
    have O4 := Lib.hid o4
    clear k4 o4
    go_wp2
    go_ret
    exact ⟨_, rfl, O4.out, kb4⟩
end Go.Proofs.YtghmcdfmbjabnaaGreatDoor
