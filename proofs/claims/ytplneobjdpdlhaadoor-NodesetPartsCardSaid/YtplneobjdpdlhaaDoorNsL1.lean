/- Layer 9: some answers that the document fixes; the statements NodesetOf, NodesetEnds, NodesetTexts. -/
import Derived.Test.YtplneobjdpdlhaaDoorNsR7
namespace Go.Proofs.YtplneobjdpdlhaaDoor
set_option linter.unusedVariables false
open Go.RowKit
/-- what the walks want of the library's tables -/
def Env9 (w : World) : Prop := Nums w ∧ DeB w ∧ 0 < w.heap.size
theorem Env9.below {w w' : World} (h : Env9 w) (hb : Below w.heap.size w w') : Env9 w' := ⟨h.1.below hb, h.2.1.below h.2.2 hb, Nat.lt_of_lt_of_le h.2.2 hb.size⟩
theorem show143 : showN 143 = [48, 45, 51, 44, 55] := by
  have e : runsL (memL 143) = [(0, 3), (7, 7)] := by decide +kernel
  unfold showN
  rw [if_neg (by decide), e]
  simp only [List.map_cons, List.map_nil, segT]
  rw [dig_is (n := 0) (by decide), dig_is (n := 3) (by decide), dig_is (n := 7) (by decide)]
  decide +kernel
theorem aw_parse : parse9 ⟨#[48, 45, 51, 44, 55]⟩ = (143, 0) := by
  have h := parse9_show (s := 143) (by decide)
  rw [show143] at h
  exact h
set_option maxHeartbeats 2000000 in
set_option maxRecDepth 100000 in
theorem awake09_any (w : World) (hE : Env9 w) : Calls Tryd.prog 8 #[] w fun e w' => e = .returned (.bool true) ∧ Below w.heap.size w w' := by
  have p1 : ofP [7, 0, 1, 2, 3] = (143, 0) := by decide +kernel
  have p2 : ofP [3, 3] = (0, 90) := by decide +kernel
  have p3 : lowP 143 2 = (3, true) := by decide +kernel
  have p4 : highP 143 2 = (136, true) := by decide +kernel
  have p5 : (memL 143).length = 5 := by decide +kernel
  have p6 : hasP 143 7 = true := by decide +kernel
  have p7 : hasP 143 4 = false := by decide +kernel
  have p8 : allS 3 = 7 := by decide +kernel
  have c1 := Lib.hid (fun v => of_any (some ⟨v.heap.size, 0, none⟩) 5 5 _ [7, 0, 1, 2, 3] (v.alloc (.cells #[.int .i64 7, .int .i64 0, .int .i64 1, .int .i64 2, .int .i64 3] 3)) (Reads.made v [.int .i64 7, .int .i64 0, .int .i64 1, .int .i64 2, .int .i64 3] _) (by decide))
  have c2 := Lib.hid (fun v => of_any (some ⟨v.heap.size, 0, none⟩) 2 2 _ [3, 3] (v.alloc (.cells #[.int .i64 3, .int .i64 3] 3)) (Reads.made v [.int .i64 3, .int .i64 3] _) (by decide))
  rw [p1] at c1
  rw [p2] at c2
  have c3 := Lib.hid (fun v => lowest_any 143 2 v (by decide))
  have c4 := Lib.hid (fun v => highest_any 143 2 v (by decide))
  rw [p3] at c3
  rw [p4] at c4
  have c5 := Lib.hid (fun v => cnt09_any 143 v (by decide))
  rw [p5] at c5
  have c6 := Lib.hid (fun v => has_any 143 7 v (by decide))
  rw [p6] at c6
  have c7 := Lib.hid (fun v => has_any 143 4 v (by decide))
  rw [p7] at c7
  have c8 := Lib.hid (fun v => all_any 3 v (by decide))
  rw [p8] at c8
  have c9 := Lib.hid (fun v => list09_any 143 v (by decide))
  have c10 := Lib.hid (fun v hv => parse9_any ⟨#[48, 45, 51, 44, 55]⟩ v (by decide) (Env9.below hE hv).1 (Env9.below hE hv).2.1 (Env9.below hE hv).2.2)
  rw [aw_parse] at c10
  have c11 := Lib.hid (fun v hv => show_any 143 v (by decide) (Env9.below hE hv).2.1 (Env9.below hE hv).2.2)
  rw [show143] at c11
  clear hE p1 p2 p3 p4 p6 p7 p8
  have b1 : Below w.heap.size w (w.alloc (.cells #[.int .i64 7, .int .i64 0, .int .i64 1, .int .i64 2, .int .i64 3] 3)) := (Below.refl _ _).alloc (Nat.le_refl _) _
  go_enter Tryd.func8, Tryd.ntmps8
  go_wp2_with (fail)
  refine (c1.out _).mono ?_; rintro e w1 ⟨rfl, rfl⟩
  go_wp2_with (fail)
  refine (c3.out _).mono ?_; rintro e w1 ⟨rfl, rfl⟩
  go_wp2_with (fail)
  refine (c4.out _).mono ?_; rintro e w1 ⟨rfl, rfl⟩
  go_wp2_with (fail)
  refine (c10.out _ b1).mono ?_; rintro e w1 ⟨rfl, hb1⟩
  have b2 := bt b1 hb1
  have B2 := Lib.hid (b2.alloc b2.size (.cells #[.int .i64 3, .int .i64 3] 3))
  clear hb1 b1 b2
  go_wp2_with (fail)
  refine (c2.out _).mono ?_; rintro e w2 ⟨rfl, rfl⟩
  go_wp2_with (fail)
  refine (c11.out _ B2.out).mono ?_; rintro e w3 ⟨rfl, hb3⟩
  have B3 := Lib.hid (bt B2.out hb3)
  clear hb3
  go_wp2_with (fail)
  refine (c5.out _).mono ?_; rintro e w4 ⟨rfl, rfl⟩
  go_wp2_with (fail)
  refine (c6.out _).mono ?_; rintro e w4 ⟨rfl, rfl⟩
  go_wp2_with (fail)
  refine (c7.out _).mono ?_; rintro e w4 ⟨rfl, rfl⟩
  go_wp2_with (fail)
  refine (c8.out _).mono ?_; rintro e w4 ⟨rfl, rfl⟩
  go_wp2_with (fail)
  refine (c9.out _).mono ?_; rintro e w4 ⟨v, rfl, hown, hb4⟩
  rw [p5] at hown
  obtain ⟨A, cc, rfl, -, -⟩ := hown.slice
  go_wp2
  go_ret
  exact ⟨rfl, bt B3.out hb4⟩
end Go.Proofs.YtplneobjdpdlhaaDoor
