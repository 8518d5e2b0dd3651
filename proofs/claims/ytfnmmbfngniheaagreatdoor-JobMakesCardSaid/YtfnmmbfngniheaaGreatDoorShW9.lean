/- Layer 7: Options walked. -/
import Derived.Test.YtfnmmbfngniheaaGreatDoorShW8
namespace Go.Proofs.YtfnmmbfngniheaaGreatDoor
set_option linter.unusedVariables false
open Go.RowKit Go.Shelf
attribute [local go_sem] Oper.semAt_some
set_option maxRecDepth 100000 in
set_option maxHeartbeats 1000000 in
theorem clone_empty (A : Option Addr) (c : Nat) (w : World) :
    Calls Tryz.prog 131 #[.slice A 0 c] w fun e w' => ∃ A2 c2, e = .returned (.slice A2 0 c2) ∧ w'.ownsRow w.heap.size 114 2 (.slice A2 0 c2) 0 [] ∧ Below w.heap.size w w' := by
  have heq := fun v => eqA_nil A 0 c v
  cases hA : A with
  | none =>
    subst hA
    rw [show (none : Option Addr).isNone = true from rfl] at heq
    go_enter Tryz.func131, Tryz.ntmps131
    go_wp2
    go_ret
    exact ⟨none, 0, rfl, World.ownsRow_nil _ _ _ _, Below.refl _ _⟩
  | some ad =>
    subst hA
    rw [show (some ad).isNone = false from rfl] at heq
    obtain ⟨i0, hi, hz0, hz1, hz2⟩ := info_parts Tryz.infoA
    have h0 := World.ownsRow_lit (base := w.heap.size) (e := 114) (size := 2) w #[] 0 (Nat.le_refl _) (by simp [maxLen]) (by simp)
    have hb := (Below.refl w.heap.size w).alloc (Nat.le_refl _) (.cells #[] 114)
    go_enter Tryz.func131, Tryz.ntmps131
    go_wp2
    go_ret
    exact ⟨_, _, rfl, h0, hb⟩
/-- a call hands back options -/
def RetOpt (w : World) (l : List Pr) (en : Ending) (w' : World) : Prop :=
  ∃ A c, en = .returned (.slice A l.length c) ∧ l.length ≤ c ∧ Reads w' w'.heap.size 2 A l.length (recs prC l) ∧ Below w.heap.size w w'
theorem opt_no {s : Sh} (h : okS s = false) : optS s = [] := by unfold optS; rw [if_neg (by rw [h]; simp)]
theorem she_no {s : Sh} (h : okS s = false) : shE s = 70 := by unfold shE; rw [if_neg (by rw [h]; simp)]
theorem she_yes {s : Sh} (h : okS s = true) : shE s = 0 := by unfold shE; rw [if_pos h]
theorem opt_list {s : Sh} (h : okS s = true) (h3 : s.kind ≠ 3) : optS s = s.alts := by unfold optS; rw [if_pos h, if_neg h3]
theorem opt_down {s : Sh} (h : okS s = true) (h3 : s.kind = 3) : s.alts = [] ∧ 1 ≤ s.mn ∧ s.mn ≤ s.mx ∧ s.mx ≤ 48 ∧ optS s = (downN s.mx (s.mx - s.mn + 1).toNat).map (fun x => (x, s.wall)) := by
  have h2 := h
  unfold okS at h2
  rw [if_neg (show ¬ s.kind = 1 by omega), if_neg (show ¬ s.kind = 2 by omega), if_pos h3] at h2
  unfold fineA at h2
  simp only [Bool.and_eq_true, decide_eq_true_eq] at h2
  obtain ⟨⟨⟨h4, h5⟩, ⟨⟨h6, _⟩, _⟩, _⟩, h7⟩ := h2
  refine ⟨List.length_eq_zero_iff.1 h4, h6, h5, h7, ?_⟩
  unfold optS downN
  rw [if_pos h, if_pos h3, List.map_map]
  rfl
set_option maxRecDepth 100000 in
set_option maxHeartbeats 2000000 in
theorem opts_plain (s : Sh) (A : Option Addr) (c B : Nat) (w : World) (hr : Reads w B 2 A s.alts.length (recs prC s.alts)) (hB : B ≤ w.heap.size) (hn : s.alts.length ≤ 100000) (hcap : s.alts.length ≤ c) (hk : okS s = false ∨ s.kind ≠ 3) :
    Calls Tryz.prog 109 #[shV s A c] w (RetOpt w (optS s)) := by
  have hc := Lib.hid (fun v (hv : Below w.heap.size w v) => shape_any s A c B v (hr.below (hv.mono hB)) (Nat.le_trans hB hv.size) (by omega) hcap)
  have hcl := Lib.hid (fun v (hv : Below w.heap.size w v) => cloneA_any A s.alts.length c B s.alts v (hr.below (hv.mono hB)) (Nat.le_trans hB hv.size) hn)
  have hbx : Below w.heap.size w (w.alloc (.cells #[.int .i64 s.kind, .slice A s.alts.length c, .int .i64 s.mn, .int .i64 s.mx, .int .i64 s.wall] 24)) := (Below.refl _ _).alloc (Nat.le_refl _) _
  cases hq : okS s
  · rw [she_no hq] at hc
    rw [opt_no hq]
    obtain ⟨n, hnn⟩ : ∃ n, s.alts.length = n := ⟨_, rfl⟩
    unfold shV at hc ⊢
    rw [hnn] at hc hbx ⊢
    obtain ⟨kind, l, mn, mx, wall⟩ := s
    dsimp only at hc hbx ⊢
    have HBX := Lib.hid hbx
    clear hk hq hr hcl hnn hn hcap hbx
    go_enter Tryz.func109, Tryz.ntmps109
    go_wp2_with (fail)
    refine (hc.out _ HBX.out).mono ?_; rintro e w1 ⟨rfl, hb1⟩
    go_wp2
    go_ret
    exact ⟨none, 0, rfl, Nat.le_refl _, Reads.none_, bt HBX.out hb1⟩
  · have h3 : s.kind ≠ 3 := by
      rcases hk with h | h
      · rw [hq] at h; cases h
      · exact h
    rw [she_yes hq] at hc
    rw [opt_list hq h3]
    have t3 : (s.kind == 3) = false := by simpa using h3
    obtain ⟨n, hnn⟩ : ∃ n, s.alts.length = n := ⟨_, rfl⟩
    unfold shV at hc ⊢
    unfold RetOpt
    rw [hnn] at hc hbx hcl ⊢
    obtain ⟨kind, l, mn, mx, wall⟩ := s
    dsimp only at hc hbx hcl t3 ⊢
    have HBX := Lib.hid hbx
    clear hk hq hr hnn hn hcap hbx h3
    go_enter Tryz.func109, Tryz.ntmps109
    go_wp2_with (fail)
    refine (hc.out _ HBX.out).mono ?_; rintro e w1 ⟨rfl, hb1⟩
    have k1 : w1.cell? ⟨w.heap.size, 1, none⟩ = some (.slice A n c) := boxed_cell hb1 1
    have B1 := Lib.hid (bt HBX.out hb1)
    have k0 : w1.cell? ⟨w.heap.size, 0, none⟩ = some (.int .i64 kind) := boxed_cell hb1 0
    have hz1 := hb1.size
    simp only [World.size_alloc] at hz1
    clear hb1
    go_wp2_with (fail)
    refine (hcl.out _ B1.out).mono ?_; rintro e w2 ⟨v, rfl, hown, hb2⟩
    obtain ⟨A2, c2, rfl, hcc, -⟩ := hown.slice
    have k2 : w2.cell? ⟨w.heap.size, 0, none⟩ = some (.int .i64 kind) := by rw [(bcell hb2).1 _ _ (by omega)]; exact k0
    have B2 := Lib.hid (bt B1.out hb2)
    have hz2 := hb2.size
    have O2 := Lib.hid hown
    clear hb2 k0 k1 hown
    have hlt2 : w.heap.size < w2.heap.size := by omega
    go_wp2
    go_ret
    refine ⟨A2, c2, rfl, hcc, ?_, ?_⟩
    · exact (O2.out.alloc _).reads
    · exact B2.out.alloc B2.out.size _
end Go.Proofs.YtfnmmbfngniheaaGreatDoor
