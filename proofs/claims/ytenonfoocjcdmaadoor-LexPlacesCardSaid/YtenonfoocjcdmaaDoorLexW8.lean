/- Layer 5: a quoted text. -/
import Derived.Test.YtenonfoocjcdmaaDoorLexW7
namespace Go.Proofs.YtenonfoocjcdmaaDoor
set_option linter.unusedVariables false
open Go.RowKit
def textW (w : World) : World := (w.alloc tok0).alloc (.cells #[.bool true] 4)
theorem cut_good {rs : List Nat} {i : Nat} {x : Nat} (he : rs[endT rs i]? = some x) (hx : x = 34) : ∀ r ∈ cutR rs i (endT rs i + 1), badR r = false := by
  intro r hr
  obtain ⟨k, h1, h2, h3⟩ := cutR_mem hr
  rcases Nat.lt_or_ge k (endT rs i) with h | h
  · exact endT_good h1 h h3
  · have : k = endT rs i := by omega
    subst this
    rw [he] at h3
    injection h3 with h3
    subst h3; subst hx; decide
theorem line_at {w : World} {R n c g : Nat} {rs : List Nat} {k bad err : Int} (h : Rd w R (some ⟨g, 0, none⟩) n c rs k bad err) {j r : Nat} (hr : rs[j]? = some r) : w.cell? ⟨g, j, none⟩ = some (.int .i32 (r : Int)) := by
  obtain ⟨g', e, _, hc⟩ := h.line (by have := (List.getElem?_eq_some_iff.1 hr).1; have := h.len; omega)
  injection e with e
  injection e with e
  subst e
  exact hc j r hr
set_option maxHeartbeats 1000000 in
theorem textR_any (R n c : Nat) (A : Option Addr) (rs : List Nat) (i x : Nat) (bad : Int) (w : World) (h0 : Rd w R A n c rs i bad 0) (hx : rs[i]? = some x) (hn : n ≤ 100000) (hcm : c ≤ maxLen) :
    Calls Tryd.prog 71 #[.pointer (some ⟨R, 0, none⟩)] w (NextIs R n c A rs bad w (textP rs i)) := by
  have hmf : ∀ (fn : Fn) (first cap : Array Value) (w : World), (Instr.makeFunc fn first cap).run Tryd.prog w = .ok (.func fn first cap) w := fun _ _ _ _ => rfl
  have hR := h0.lt
  have hlen := h0.len
  have hil : i < n := by have := (List.getElem?_eq_some_iff.1 hx).1; omega
  obtain ⟨g, rfl, hgR, hgl⟩ := h0.line (by omega)
  have hgs := cell_lt (hgl i x hx)
  have b1 : Below w.heap.size w (textW w) := ((Below.refl _ w).alloc (Nat.le_refl _) _).alloc (by simp) _
  have hr1 := h0.below b1
  have hz1 : (textW w).heap.size = w.heap.size + 2 := by simp [textW]
  have hI : (textW w).heap[w.heap.size + 1]? = some (.cells #[.bool true] 4 (0, 0)) := by
    have h := heap_alloc_new (w.alloc tok0) (.cells #[.bool true] 4)
    simpa [textW] using h
  have ht1 : Hid ((textW w).heap[w.heap.size]? = some tok0) := by
    show _ = _
    unfold textW
    rw [Below.heap_alloc _ _ _ (by simp)]
    exact heap_alloc_new w tok0
  have hwh := Lib.hid (texts_any R n c _ rs i bad 0 (w.heap.size + 1) (textW w) (by omega) (by rintro ad e; injection e with e; subst e; show g ≠ _; dsimp at hgs; omega) hr1 hI (by omega) hn hcm)
  have c0 : (w.alloc (.cells #[.int .i64 0, .string ⟨#[]⟩, .int .i64 0, .int .i64 0] 42)).cell? ⟨R, 1, none⟩ = some (.int .i64 i) := (h0.below ((Below.refl _ w).alloc (Nat.le_refl _) _)).c1
  have H0 := Lib.hid h0
  have B1 := Lib.hid b1
  have hcm2 := Lib.hid hcm
  have hle := endT_le (rs := rs) (i := i) (by omega)
  have hie : i ≤ endT rs i := by unfold endT; omega
  have hP : Hid (textP rs i = _) := rfl
  unfold textP at hP
  have hG := Lib.hid (fun y (hy : rs[endT rs i]? = some y) (h34 : y = 34) => cut_good hy h34)
  obtain ⟨m, hm⟩ : ∃ m, Hid (endT rs i = m) := ⟨_, rfl⟩
  rw [hm.out] at hwh hle hie
  rw [hlen] at hle
  clear h0 b1 hr1 hI hcm
  by_cases hmn : m = n
  · subst hmn
    have hP2 : Hid (textP rs i = .inr (i, 50)) := by show _ = _; unfold textP; rw [if_pos (by rw [hm.out]; omega)]
    go_enter Tryd.func71, Tryd.ntmps71
    go_wp2_with (fail)
    refine Calls.mono hwh.out ?_
    rintro e w2 ⟨⟨sx, rfl⟩, hr2, hk2⟩
    have e2 : Hid (w2.heap[w.heap.size]? = some tok0) := (hk2.block _ (by omega) (by omega)).trans ht1.out
    have hz2 : w.heap.size + 2 ≤ w2.heap.size := (by have := hk2.size; omega)
    have d0 := hr2.c0
    have d1 := hr2.c1
    have hRs := hr2.lt
    replace hr2 := Lib.hid hr2
    replace hk2 := Lib.hid hk2
    dsimp only
    go_upto_region 4 with (fail)
    go_quiet (fail)
    go_wp2_with (go_at_call 73; refine (fail_first _ _ _ _ _ _ _ _ _ _ (hr2.out.drewN _)).mono ?_; rintro e w5 ⟨rfl, hr5, hk5⟩; have e5 : w5.heap[w.heap.size]? = some tok0 := (hk5.block _ (by show w.heap.size < w2.heap.size; omega) (by omega)).trans e2.out; obtain ⟨e5f, e50, e51, e52, e53⟩ := row4 e5)
    (try simp only [Exit.inBlock, Exit.then])
    refine bodyPost_ret (results_cell_row rfl _ _ w.heap.size _ _ _ _ rfl (set4_blk e5) Tryd.underlying42 rfl (by kernel_rfl)) rfl ?_
    have kb : Kb (fun b => b = R ∨ w.heap.size ≤ b) w w5 := ((((Kb.of_below B1.out).trans (hk2.out.mono (fun b hb => hb.elim Or.inl (fun h => Or.inr (by omega)))))).drewN _).trans (hk5.mono (fun b hb => Or.inl hb))
    rw [hP2.out]
    exact ⟨⟨⟨_, _, _, _⟩, rfl⟩, ⟨_, H0.out.keepNew hr5 (set4 (Kb.refl _ _) (Nat.le_refl _))⟩, Kb.fresh (set4 kb (Or.inr (Nat.le_refl _)))⟩
  · have hml : m < n := by omega
    obtain ⟨y, hy⟩ : ∃ y, Hid (rs[m]? = some y) := ⟨_, List.getElem?_eq_getElem (by omega)⟩
    have tmn : ((m : Int) == (n : Int)) = false := by simp; omega
    have tml : (m : Int) < (n : Int) := by omega
    by_cases h34 : y = 34
    · have hg34 := Lib.hid (hG.out y (by rw [hm.out]; exact hy.out) h34)
      rw [hm.out] at hg34
      have hcl := strR_small (cutR rs i (m + 1))
      have hcl2 := cutR_le rs i (m + 1)
      have hok := ok_flat hg34.out
      rw [← bl_strR] at hok
      have hP3 : Hid (textP rs i = if (unqV (bl (strR (cutR rs i (m + 1))))).isSome then .inl (⟨4, ⟨(unqT (bl (strR (cutR rs i (m + 1))))).toArray⟩, 0, i⟩, m + 1) else .inr (i, 50)) := by
        show _ = _
        unfold textP
        rw [hm.out, if_neg (by omega), if_neg (by rw [getD_of hy.out]; omega)]
      have hcut : Hid (cutR rs i (m + 1) = (rs.drop i).take (m + 1 - i)) := rfl
      obtain ⟨s, hs⟩ : ∃ s, Hid (strR (cutR rs i (m + 1)) = s) := ⟨_, rfl⟩
      rw [hs.out] at hok hP3 hcl
      have ty : ((y : Int) != 34) = false := by simp; omega
      have hu : Hid (∀ v : World, Calls Tryd.prog 97 #[.string s] v fun e v' => e = .returned (.tuple #[.string ⟨(unqT (bl s)).toArray⟩, .int .i64 (unqE (bl s))]) ∧ Below v.heap.size v v') := fun v => unquote_any s v (by omega)
      obtain ⟨u, hu1⟩ : ∃ u, Hid (unqT (bl s) = u) := ⟨_, rfl⟩
      clear h34 hG
      cases hv : unqV (bl s) with
      | some q =>
        have hE := (unq_yes hok hv).2
        rw [hu1.out] at hu
        have hP4 : Hid (textP rs i = .inl (⟨4, ⟨u.toArray⟩, 0, i⟩, m + 1)) := by show _ = _; rw [hP3.out, hv, hu1.out]; rfl
        rw [hE] at hu
        clear hP3 hv hE hok hP
        go_enter Tryd.func71, Tryd.ntmps71
        go_wp2_with (fail)
        refine Calls.mono hwh.out ?_
        rintro e w2 ⟨⟨sx, rfl⟩, hr2, hk2⟩
        have e2 : Hid (w2.heap[w.heap.size]? = some tok0) := (hk2.block _ (by omega) (by omega)).trans ht1.out
        have hz2 : w.heap.size + 2 ≤ w2.heap.size := (by have := hk2.size; omega)
        have d0 := hr2.c0
        have d1 := hr2.c1
        have d2 := (line_at hr2 hy.out)
        have hRs := hr2.lt
        have fz1 := hr2.fz 1
        replace hr2 := Lib.hid hr2
        replace hk2 := Lib.hid hk2
        dsimp only
        go_upto_region 4 with (fail)
        go_quiet (fail)
        rename Nat => nqa
        go_upto_region 7 with (fail)
        go_quiet (fail)
        go_upto_region 11 with (fail)
        obtain ⟨w3, hw3⟩ : ∃ v, v = (w2.drewN (nqa + nq)).setCell ⟨R, 1, none⟩ (.int .i64 ((m : Int) + 1)) := ⟨_, rfl⟩
        rw [← hw3]
        have hr3 : Rd w3 R (some ⟨g, 0, none⟩) n c rs ((m + 1 : Nat) : Int) bad 0 := by rw [hw3]; simpa using (hr2.out.drewN (nqa + nq)).set1 ((m : Int) + 1)
        have hk3 : Hid (Kb (· = R) w2 w3) := by show Kb _ _ _; rw [hw3]; exact ((Kb.refl (· = R) w2).drewN _).set_ (p := ⟨R, 1, none⟩) rfl _
        have e3 : Hid (w3.heap[w.heap.size]? = some tok0) := (hk3.out.block _ (by omega) (by omega)).trans e2.out
        have hz3 : w.heap.size + 2 ≤ w3.heap.size := (by have := hk3.out.size; omega)
        clear d0 d1 d2 fz1 hRs hw3
        have d0 := hr3.c0
        have d1 := hr3.c1
        have hR3 := hr3.lt
        obtain ⟨A', c', s1, s2, s3⟩ := str_of_runes hr3 (i := i) (j := m + 1) (by omega) (by omega)
        have s4 : ∀ x : Later w3, (convert 87 9 (.slice A' (m + 1 - i) c')).run Tryd.prog x.val = .ok (.string s) x.val := fun x => by
          rw [s3 x.val (fun p _ hp => x.below.cell hp)]
          rw [show strR ((rs.drop i).take (m + 1 - i)) = s from hs.out]
        replace hr3 := Lib.hid hr3
        clear s3
        rw [show ((m + 1 : Nat) : Int) = (m : Int) + 1 by omega] at s1 s2 d1
        refine wp_region_later (by kernel_rfl) (by kernel_rfl) ?_
        have hl_ := later_cell (w3)
        repeat (first | go_big_quiet_step (((go_at_call 97; exact later_of (hu.out _)))) | quiet_step (((go_at_call 97; exact later_of (hu.out _)))))
        refine wpQuiet_nil ?_
        intro w9 hx_
        obtain ⟨⟨w_, hb9⟩, e_⟩ := hx_
        have e2_ : w9 = w_ := e_
        clear e_
        subst e2_
        clear hl_
        have e9 : Hid (w9.heap[w.heap.size]? = some tok0) := (hb9.block _ (by omega)).trans e3.out
        have hr9 := Lib.hid (hr3.out.below hb9)
        have hz9 : w.heap.size + 2 ≤ w9.heap.size := (by have := hb9.size; omega)
        obtain ⟨e9f, e90, e91, e92, e93⟩ := row4 e9.out
        go_wp2
        (try simp only [Exit.inBlock, Exit.then])
        refine bodyPost_ret (results_cell_row rfl _ _ w.heap.size _ _ _ _ rfl (set4_blk e9.out) Tryd.underlying42 rfl (by kernel_rfl)) rfl ?_
        have kb : Kb (fun b => b = R ∨ w.heap.size ≤ b) w w9 := (((Kb.of_below B1.out).trans (hk2.out.mono (fun b hb => hb.elim Or.inl (fun h => Or.inr (by omega))))).trans (hk3.out.mono (fun b hb => Or.inl hb))).trans (Kb.of_below hb9)
        rw [hP4.out]
        exact ⟨rfl, H0.out.keepNew hr9.out (set4 (Kb.refl _ _) (Nat.le_refl _)), Kb.fresh (set4 kb (Or.inr (Nat.le_refl _)))⟩
      | none =>
        have hE := (unq_none hok hv).2
        rw [hu1.out] at hu
        have hP4 : Hid (textP rs i = .inr (i, 50)) := by show _ = _; rw [hP3.out, hv]; rfl
        rw [hE] at hu
        clear hP3 hv hE hok hP
        go_enter Tryd.func71, Tryd.ntmps71
        go_wp2_with (fail)
        refine Calls.mono hwh.out ?_
        rintro e w2 ⟨⟨sx, rfl⟩, hr2, hk2⟩
        have e2 : Hid (w2.heap[w.heap.size]? = some tok0) := (hk2.block _ (by omega) (by omega)).trans ht1.out
        have hz2 : w.heap.size + 2 ≤ w2.heap.size := (by have := hk2.size; omega)
        have d0 := hr2.c0
        have d1 := hr2.c1
        have d2 := (line_at hr2 hy.out)
        have hRs := hr2.lt
        have fz1 := hr2.fz 1
        replace hr2 := Lib.hid hr2
        replace hk2 := Lib.hid hk2
        dsimp only
        go_upto_region 4 with (fail)
        go_quiet (fail)
        rename Nat => nqa
        go_upto_region 7 with (fail)
        go_quiet (fail)
        go_upto_region 11 with (fail)
        obtain ⟨w3, hw3⟩ : ∃ v, v = (w2.drewN (nqa + nq)).setCell ⟨R, 1, none⟩ (.int .i64 ((m : Int) + 1)) := ⟨_, rfl⟩
        rw [← hw3]
        have hr3 : Rd w3 R (some ⟨g, 0, none⟩) n c rs ((m + 1 : Nat) : Int) bad 0 := by rw [hw3]; simpa using (hr2.out.drewN (nqa + nq)).set1 ((m : Int) + 1)
        have hk3 : Hid (Kb (· = R) w2 w3) := by show Kb _ _ _; rw [hw3]; exact ((Kb.refl (· = R) w2).drewN _).set_ (p := ⟨R, 1, none⟩) rfl _
        have e3 : Hid (w3.heap[w.heap.size]? = some tok0) := (hk3.out.block _ (by omega) (by omega)).trans e2.out
        have hz3 : w.heap.size + 2 ≤ w3.heap.size := (by have := hk3.out.size; omega)
        clear d0 d1 d2 fz1 hRs hw3
        have d0 := hr3.c0
        have d1 := hr3.c1
        have hR3 := hr3.lt
        obtain ⟨A', c', s1, s2, s3⟩ := str_of_runes hr3 (i := i) (j := m + 1) (by omega) (by omega)
        have s4 : ∀ x : Later w3, (convert 87 9 (.slice A' (m + 1 - i) c')).run Tryd.prog x.val = .ok (.string s) x.val := fun x => by
          rw [s3 x.val (fun p _ hp => x.below.cell hp)]
          rw [show strR ((rs.drop i).take (m + 1 - i)) = s from hs.out]
        replace hr3 := Lib.hid hr3
        clear s3
        rw [show ((m + 1 : Nat) : Int) = (m : Int) + 1 by omega] at s1 s2 d1
        refine wp_region_later (by kernel_rfl) (by kernel_rfl) ?_
        have hl_ := later_cell (w3)
        repeat (first | go_big_quiet_step (((go_at_call 97; exact later_of (hu.out _)))) | quiet_step (((go_at_call 97; exact later_of (hu.out _)))))
        refine wpQuiet_nil ?_
        intro w9 hx_
        obtain ⟨⟨w_, hb9⟩, e_⟩ := hx_
        have e2_ : w9 = w_ := e_
        clear e_
        subst e2_
        clear hl_
        have e9 : Hid (w9.heap[w.heap.size]? = some tok0) := (hb9.block _ (by omega)).trans e3.out
        have hr9 := Lib.hid (hr3.out.below hb9)
        have hz9 : w.heap.size + 2 ≤ w9.heap.size := (by have := hb9.size; omega)
        go_wp2_with (go_at_call 73; refine (fail_first _ _ _ _ _ _ _ _ _ _ hr9.out).mono ?_; rintro e w5 ⟨rfl, hr5, hk5⟩; have e5 : w5.heap[w.heap.size]? = some tok0 := (hk5.block _ (by omega) (by omega)).trans e9.out; obtain ⟨e5f, e50, e51, e52, e53⟩ := row4 e5)
        (try simp only [Exit.inBlock, Exit.then])
        refine bodyPost_ret (results_cell_row rfl _ _ w.heap.size _ _ _ _ rfl (set4_blk e5) Tryd.underlying42 rfl (by kernel_rfl)) rfl ?_
        have kb : Kb (fun b => b = R ∨ w.heap.size ≤ b) w w5 := ((((Kb.of_below B1.out).trans (hk2.out.mono (fun b hb => hb.elim Or.inl (fun h => Or.inr (by omega))))).trans (hk3.out.mono (fun b hb => Or.inl hb))).trans (Kb.of_below hb9)).trans (hk5.mono (fun b hb => Or.inl hb))
        rw [hP4.out]
        exact ⟨⟨⟨_, _, _, _⟩, rfl⟩, ⟨_, H0.out.keepNew hr5 (set4 (Kb.refl _ _) (Nat.le_refl _))⟩, Kb.fresh (set4 kb (Or.inr (Nat.le_refl _)))⟩
    · have hP2 : Hid (textP rs i = .inr (m, 40)) := by
        show _ = _
        unfold textP
        rw [hm.out, if_neg (by omega), if_pos (by rw [getD_of hy.out]; exact h34)]
      have ty : ((y : Int) != 34) = true := by simp; omega
      go_enter Tryd.func71, Tryd.ntmps71
      go_wp2_with (fail)
      refine Calls.mono hwh.out ?_
      rintro e w2 ⟨⟨sx, rfl⟩, hr2, hk2⟩
      have e2 : Hid (w2.heap[w.heap.size]? = some tok0) := (hk2.block _ (by omega) (by omega)).trans ht1.out
      have hz2 : w.heap.size + 2 ≤ w2.heap.size := (by have := hk2.size; omega)
      have d0 := hr2.c0
      have d1 := hr2.c1
      have d2 := (line_at hr2 hy.out)
      have hRs := hr2.lt
      have fz1 := hr2.fz 1
      replace hr2 := Lib.hid hr2
      replace hk2 := Lib.hid hk2
      dsimp only
      go_upto_region 4 with (fail)
      go_quiet (fail)
      rename Nat => nqa
      go_upto_region 7 with (fail)
      go_quiet (fail)
      go_wp2_with (go_at_call 73; refine (fail_first _ _ _ _ _ _ _ _ _ _ (hr2.out.drewN _)).mono ?_; rintro e w5 ⟨rfl, hr5, hk5⟩; have e5 : w5.heap[w.heap.size]? = some tok0 := (hk5.block _ (by show w.heap.size < w2.heap.size; omega) (by omega)).trans e2.out; obtain ⟨e5f, e50, e51, e52, e53⟩ := row4 e5)
      (try simp only [Exit.inBlock, Exit.then])
      refine bodyPost_ret (results_cell_row rfl _ _ w.heap.size _ _ _ _ rfl (set4_blk e5) Tryd.underlying42 rfl (by kernel_rfl)) rfl ?_
      have kb : Kb (fun b => b = R ∨ w.heap.size ≤ b) w w5 := ((((Kb.of_below B1.out).trans (hk2.out.mono (fun b hb => hb.elim Or.inl (fun h => Or.inr (by omega)))))).drewN _).trans (hk5.mono (fun b hb => Or.inl hb))
      rw [hP2.out]
      exact ⟨⟨⟨_, _, _, _⟩, rfl⟩, ⟨_, H0.out.keepNew hr5 (set4 (Kb.refl _ _) (Nat.le_refl _))⟩, Kb.fresh (set4 kb (Or.inr (Nat.le_refl _)))⟩
end Go.Proofs.YtenonfoocjcdmaaDoor
