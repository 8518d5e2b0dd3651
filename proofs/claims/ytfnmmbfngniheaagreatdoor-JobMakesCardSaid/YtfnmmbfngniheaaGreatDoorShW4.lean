/- Layer 7: Check walked. -/
import Derived.Test.YtfnmmbfngniheaaGreatDoorShW3
namespace Go.Proofs.YtfnmmbfngniheaaGreatDoor
set_option linter.unusedVariables false
open Go.RowKit
theorem bare_cases (s : Sh) : (s.mn = 0 ∧ s.mx = 0 ∧ s.wall = 0 ∧ bareS s = true) ∨ (bareS s = false ∧ (((s.mn == 0) = false) ∨ (s.mn = 0 ∧ (s.mx == 0) = false) ∨ (s.mn = 0 ∧ s.mx = 0 ∧ (s.wall == 0) = false))) := by
  unfold bareS
  cases h1 : s.mn == 0
  · exact .inr ⟨by simp, .inl rfl⟩
  · have e1 : s.mn = 0 := by simpa using h1
    cases h2 : s.mx == 0
    · exact .inr ⟨by simp, .inr (.inl ⟨e1, rfl⟩)⟩
    · have e2 : s.mx = 0 := by simpa using h2
      cases h3 : s.wall == 0
      · exact .inr ⟨by simp, .inr (.inr ⟨e1, e2, rfl⟩)⟩
      · exact .inl ⟨e1, e2, by simpa using h3, by simp⟩
theorem boxed_cell {w w' : World} {cs : Array Value} {t : TypeId} (hb : Below (w.alloc (.cells cs t)).heap.size (w.alloc (.cells cs t)) w') (j : Nat) : w'.cell? ⟨w.heap.size, j, none⟩ = cs[j]? := by
  rw [(bcell hb).1 _ _ (by simp)]
  exact cell_of_row (w.alloc (.cells cs t)) w.heap.size j cs t (0, 0) (heap_alloc_new w _)
set_option maxHeartbeats 2000000 in
theorem shape_one (s : Sh) (A : Option Addr) (c B : Nat) (w : World) (hr : Reads w B 2 A s.alts.length (recs prC s.alts)) (hB : B ≤ w.heap.size) (hn : s.alts.length ≤ 1000000) (hk : s.kind = 1) :
    Calls Tryz.prog 170 #[shV s A c] w fun e w' => e = .returned (.int .i64 (shE s)) ∧ Below w.heap.size w w' := by
  have hbc := bare_cases s
  have HE : Hid (shE s = if (bareS s && decide (s.alts.length = 1) && s.alts.all fineA) = true then 0 else 70) := by
    show _ = _
    unfold shE okS; rw [if_pos hk]
  obtain ⟨R, hR⟩ : ∃ R, Hid (shE s = R) := ⟨_, rfl⟩
  rw [hR.out] at HE ⊢
  unfold shV
  obtain ⟨n, hnn⟩ : ∃ n, Hid (s.alts.length = n) := ⟨_, rfl⟩
  rw [hnn.out] at HE hr hn ⊢
  rw [hk]
  obtain ⟨kind, l, mn, mx, wall⟩ := s
  dsimp only at HE hr hnn hbc ⊢
  clear hk hR
  rcases hbc with ⟨e1, e2, e3, hb⟩ | ⟨hb, h⟩
  · rw [hb] at HE
    rw [e1, e2, e3]
    clear hb e1 e2 e3
    by_cases h1 : n = 1
    · subst h1
      obtain ⟨b, o, x, rfl, hbb, hx, c0, c1⟩ := hr.pr_at (k := 0) (by omega)
      have hl : Hid (l.all fineA = fineA x) := by
        show _ = _
        match l, hnn.out, hx.out with
        | [y], _, h => simp at h; simp [h]
      rw [hl.out] at HE
      have hf := Lib.hid (fun v => fine_any x v)
      obtain ⟨q, hq⟩ : ∃ q, fineA x = q := ⟨_, rfl⟩
      rw [hq] at hf HE
      simp only [Nat.zero_mul, Nat.add_zero] at c0 c1
      have hb9 : b < w.heap.size := by omega
      clear hq hl hr hx
      cases q
      all_goals
        have HR := Lib.hid HE.out
        clear HE
        go_enter Tryz.func170, Tryz.ntmps170
        go_wp2_with (fail)
        refine (hf.out _).mono ?_; rintro e w1 ⟨rfl, hb1⟩
        have B1 := Lib.hid (((Below.refl w.heap.size w).alloc (Nat.le_refl _) _).trans (hb1.mono (by simp)))
        clear hb1
        go_wp2
        go_ret
        exact ⟨by rw [HR.out]; rfl, B1.out⟩
    · have HR : Hid (R = 70) := by
        show _ = _
        rw [HE.out]; simp [h1]
      have t1 : ((n : Int) == 1) = false := by simp; omega
      clear HE h1
      go_enter Tryz.func170, Tryz.ntmps170
      go_wp2
      go_ret
      exact ⟨by rw [HR.out]; rfl, (Below.refl _ _).alloc (Nat.le_refl _) _⟩
  · rw [hb] at HE
    have HR : Hid (R = 70) := by show _ = _; rw [HE.out]; simp
    clear HE hb
    rcases h with h | ⟨e1, h⟩ | ⟨e1, e2, h⟩
    all_goals
      (try rw [e1])
      (try rw [e2])
      go_enter Tryz.func170, Tryz.ntmps170
      go_wp2
      go_ret
      exact ⟨by rw [HR.out]; rfl, (Below.refl _ _).alloc (Nat.le_refl _) _⟩
end Go.Proofs.YtfnmmbfngniheaaGreatDoor
