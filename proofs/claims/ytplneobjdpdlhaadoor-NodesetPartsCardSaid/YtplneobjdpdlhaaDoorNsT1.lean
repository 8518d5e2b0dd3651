/- Layer 9: number and Parse of the package, walked. -/
import Derived.Test.YtplneobjdpdlhaaDoorNsT0
import Derived.Lib.SmallJoins
import Derived.Lib.CutLaws
namespace Go.Proofs.YtplneobjdpdlhaaDoor
set_option linter.unusedVariables false
open Go.RowKit
/-- the two errors of Atoi have values, and the place where texts are searched is a number -/
def Nums (w : World) : Prop := (∃ t p, w.cell? ⟨2, 0, none⟩ = some (.iface t p)) ∧ (∃ t p, w.cell? ⟨3, 0, none⟩ = some (.iface t p)) ∧ (∃ m : Int, w.cell? ⟨1, 0, none⟩ = some (.int .i64 m)) ∧ 2 < w.heap.size ∧ 3 < w.heap.size ∧ 1 < w.heap.size
theorem Nums.below {w w' : World} (h : Nums w) (hb : Below w.heap.size w w') : Nums w' := by
  obtain ⟨⟨t, p, h1⟩, ⟨t2, p2, h2⟩, ⟨m, h3⟩, s1, s2, s3⟩ := h
  have hz := hb.size
  exact ⟨⟨t, p, by rw [(bcell hb).1 _ _ s1]; exact h1⟩, ⟨t2, p2, by rw [(bcell hb).1 _ _ s2]; exact h2⟩, ⟨m, by rw [(bcell hb).1 _ _ s3]; exact h3⟩, by omega, by omega, by omega⟩
theorem atoi_any (s : ByteArray) (w : World) (hs : s.size ≤ 1000000) (hN : Nums w) :
    Calls Tryd.prog 40 #[.string s] w fun e w' => ∃ x, e = .returned (.tuple #[.int .i64 (numP s.data.toList), x]) ∧ (x = .nilIface ∨ ∃ N, x = .iface 77 (.pointer (some ⟨N, 0, none⟩))) ∧ Below w.heap.size w w' := by
  obtain ⟨⟨t, p, h1⟩, ⟨t2, p2, h2⟩, _, _, _, _⟩ := hN
  unfold numP
  cases hq : Lib.atoiAll s.data.toList with
  | ok v =>
    have hc : Calls Tryd.prog 40 #[.string s] w _ := Any.strconv_Atoi_ok Tryd.laysC172 s (by omega) v hq w
    refine hc.mono ?_
    rintro e w' ⟨rfl, hw⟩
    refine ⟨_, rfl, .inl rfl, ?_⟩
    rcases hw with rfl | ⟨t, rfl⟩
    · exact Below.refl _ _
    · exact Lib.bytesWorld_below _ _ _
  | range =>
    have hc : Calls Tryd.prog 40 #[.string s] w _ := Any.strconv_Atoi_range Tryd.laysC172 s (by omega) hq _ w h2 (.inr ⟨t2, p2, rfl⟩)
    refine hc.mono ?_
    rintro e w' ⟨N, rfl, _, _, hb⟩
    exact ⟨_, rfl, .inr ⟨N, rfl⟩, hb⟩
  | _ =>
    have hc : Calls Tryd.prog 40 #[.string s] w _ := Any.strconv_Atoi_syntax Tryd.laysC172 s (by omega) hq _ w h1 (.inr ⟨t, p, rfl⟩)
    refine hc.mono ?_
    rintro e w' ⟨N, rfl, _, _, hb⟩
    exact ⟨_, rfl, .inr ⟨N, rfl⟩, hb⟩
theorem number_any (s : ByteArray) (w : World) (hs : s.size ≤ 1000000) (hN : Nums w) :
    Calls Tryd.prog 33 #[.string s] w fun e w' => ∃ b, e = .returned (.tuple #[.int .i64 (numP s.data.toList), .bool b]) ∧ Below w.heap.size w w' := by
  have hc := Lib.hid (atoi_any s w hs hN)
  obtain ⟨n, hn⟩ : ∃ n : Int, Hid (numP s.data.toList = n) := ⟨_, rfl⟩
  rw [hn.out] at hc ⊢
  go_enter Tryd.func33, Tryd.ntmps33
  go_wp2_with (fail)
  refine hc.out.mono ?_
  rintro e w1 ⟨x, rfl, hx, hb⟩
  rcases hx with rfl | ⟨N, rfl⟩
  · cases h1 : decide (0 ≤ n) <;> cases h2 : decide (n < 64)
    all_goals
      go_wp2
      go_ret2
      exact ⟨_, rfl, hb⟩
  · go_wp2
    go_ret2
    exact ⟨_, rfl, hb⟩
end Go.Proofs.YtplneobjdpdlhaaDoor
