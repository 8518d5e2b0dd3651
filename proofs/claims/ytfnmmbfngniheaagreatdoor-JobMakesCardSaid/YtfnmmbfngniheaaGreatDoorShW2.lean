/- Layer 7: Check walked. -/
import Derived.Test.YtfnmmbfngniheaaGreatDoorShW1
namespace Go.Proofs.YtfnmmbfngniheaaGreatDoor
set_option linter.unusedVariables false
open Go.RowKit
theorem notfine_any (a : Pr) (w : World) : Calls Tryz.prog 192 #[.agg #[.int .i64 a.1, .int .i64 a.2]] w fun e w' => e = .returned (.bool (!fineA a)) ∧ Below w.heap.size w w' := by
  have hc := Lib.hid (fun v => fine_any a v)
  obtain ⟨b, hb⟩ : ∃ b, fineA a = b := ⟨_, rfl⟩
  rw [hb] at hc ⊢
  obtain ⟨x, y⟩ := a
  dsimp only at hc ⊢
  clear hb
  go_enter Tryz.func192, Tryz.ntmps192
  go_wp2_with (fail)
  refine (hc.out _).mono ?_; rintro e w1 ⟨rfl, hb1⟩
  have B1 := Lib.hid (((Below.refl w.heap.size w).alloc (Nat.le_refl _) _).trans (hb1.mono (by simp)))
  clear hb1
  cases b
  all_goals
    go_wp2
    go_ret
    exact ⟨rfl, B1.out⟩
theorem pred_notfine (w : World) : PredB 192 #[] (fun x => !fineA x) w := fun W x hb =>
  (notfine_any x W).mono fun e w' ⟨he, hb'⟩ => ⟨he, hb.trans (hb'.mono hb.size)⟩
/-- the same size as one that lies in a block -/
theorem pred_apart (a : Pr) (g : Nat) (w : World) (hg : g < w.heap.size) (hc : w.cell? ⟨g, 0, none⟩ = some (.int .i64 a.1)) : PredB 201 #[.pointer (some ⟨g, 0, none⟩)] (fun x => a.1 == x.1) w := by
  intro W x hb
  obtain ⟨x, y⟩ := x
  have hc2 : W.cell? ⟨g, 0, none⟩ = some (.int .i64 a.1) := by rw [(bcell hb).1 _ _ hg]; exact hc
  have hg2 : g < W.heap.size := Nat.lt_of_lt_of_le hg hb.size
  have hB := Lib.hid hb
  clear hc hb hg
  show Calls Tryz.prog 201 #[.agg #[.int .i64 x, .int .i64 y], .pointer (some ⟨g, 0, none⟩)] W _
  go_enter Tryz.func201, Tryz.ntmps201
  go_wp2
  go_ret
  exact ⟨rfl, hB.out.alloc hB.out.size _⟩
end Go.Proofs.YtfnmmbfngniheaaGreatDoor
