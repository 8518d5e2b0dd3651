/- Layer 5, the document's answer: one token. -/
import Derived.Test.YtenonfoocjcdmaaDoorLexR4
namespace Go.Proofs.YtenonfoocjcdmaaDoor
set_option linter.unusedVariables false
open Go.RowKit
/-- the world in which a token is told: the answer, and the token -/
def oneW (a : Nat) (w : World) : World := (w.alloc tok0).alloc (.cells #[.int .i64 0, .string ⟨#[]⟩, .int .i64 0, .int .i64 (a : Int)] 42)
section
variable (a : Nat) (w : World)
theorem oneW_below : Below w.heap.size w (oneW a w) := ((Below.refl _ w).alloc (Nat.le_refl _) _).alloc (by simp) _
theorem oneW_size : (oneW a w).heap.size = w.heap.size + 2 := by simp [oneW]
theorem oneW_0 : (oneW a w).heap[w.heap.size]? = some tok0 := by
  unfold oneW; rw [Below.heap_alloc _ _ _ (by simp)]; exact heap_alloc_new w tok0
theorem oneW_1 : (oneW a w).heap[w.heap.size + 1]? = some (.cells #[.int .i64 0, .string ⟨#[]⟩, .int .i64 0, .int .i64 (a : Int)] 42 (0, 0)) := by
  have h := heap_alloc_new (w.alloc tok0) (.cells #[.int .i64 0, .string ⟨#[]⟩, .int .i64 0, .int .i64 (a : Int)] 42)
  simpa [oneW] using h
end
theorem nextP_bad {rs : List Nat} {a x : Nat} (hx : rs[a]? = some x) (h : classV x = 0) : nextP rs a = .inr (a, 40) := by
  have hb : badR x = true := by unfold badR; rw [h]; rfl
  have h34 : x ≠ 34 := by intro e; subst e; revert hb; decide
  have hs : ¬ (x = 61 ∨ x = 58 ∨ x = 44 ∨ x = 45) := by rintro (e | e | e | e) <;> (subst e; revert hb; decide)
  unfold nextP
  rw [getD_of hx, h, if_neg (by decide), if_neg (by decide), if_neg h34, if_neg hs, if_pos rfl]
theorem set1_blk {v : World} {b : Nat} {x0 x1 x2 x3 a0 : Value} {t : TypeId} (h : v.heap[b]? = some (.cells #[x0, x1, x2, x3] t (0, 0))) : (v.setCell ⟨b, 0, none⟩ a0).heap[b]? = some (.cells #[a0, x1, x2, x3] t (0, 0)) := by simp [World.setCell, Array.getElem?_modify, h]
theorem set_blk1 {v : World} {b : Nat} {x0 x1 x2 x3 a0 : Value} {t : TypeId} (h : v.heap[b]? = some (.cells #[x0, x1, x2, x3] t (0, 0))) : (v.setCell ⟨b, 1, none⟩ a0).heap[b]? = some (.cells #[x0, a0, x2, x3] t (0, 0)) := by simp [World.setCell, Array.getElem?_modify, h]
theorem set_blk2 {v : World} {b : Nat} {x0 x1 x2 x3 a0 : Value} {t : TypeId} (h : v.heap[b]? = some (.cells #[x0, x1, x2, x3] t (0, 0))) : (v.setCell ⟨b, 2, none⟩ a0).heap[b]? = some (.cells #[x0, x1, a0, x3] t (0, 0)) := by simp [World.setCell, Array.getElem?_modify, h]
theorem OneIs.split {w : World} {r : (Tk × Nat) ⊕ (Nat × Int)} {e : Ending} {w' : World} (h : OneIs w r e w') :
    ∃ (t : Tk) (p1 p2 p3 : Int), e = .returned (.tuple #[tkV t, .int .i64 p1, .int .i64 p2, .int .i64 p3]) ∧ Below w.heap.size w w' ∧
      ∀ w0 w'' : World, Below w0.heap.size w0 w'' → OneIs w0 r (.returned (.tuple #[tkV t, .int .i64 p1, .int .i64 p2, .int .i64 p3])) w'' := by
  unfold OneIs at h
  rcases r with ⟨t, m⟩ | ⟨a, er⟩
  · obtain ⟨rfl, hb⟩ := h
    exact ⟨t, _, _, _, rfl, hb, fun w0 w'' hb2 => ⟨rfl, hb2⟩⟩
  · obtain ⟨⟨t, rfl⟩, hb⟩ := h
    exact ⟨t, _, _, _, rfl, hb, fun w0 w'' hb2 => ⟨⟨t, rfl⟩, hb2⟩⟩
theorem cut_one {rs : List Nat} {a x : Nat} (hx : rs[a]? = some x) : cutR rs a (a + 1) = [x] := by
  unfold cutR
  rw [show a + 1 - a = 1 by omega, List.drop_eq_getElem_cons (List.getElem?_eq_some_iff.1 hx).1]
  simp [(List.getElem?_eq_some_iff.1 hx).2]
set_option maxRecDepth 20000 in
set_option maxHeartbeats 4000000 in
theorem one05_any (A : Option Addr) (n c B : Nat) (rs : List Nat) (a x : Nat) (w : World) (h : Reads w B 1 A n (rcs rs)) (hB : B ≤ w.heap.size) (hcap : n ≤ c) (hx : rs[a]? = some x) (hn : n ≤ 100000) (hcm : c ≤ maxLen) :
    Calls Tryd.prog 53 #[.slice A n c, .int .i64 (a : Int)] w (OneIs w (nextP rs a)) := by
  have hlen := h.rune_len
  have hal : a < n := by have := (List.getElem?_eq_some_iff.1 hx).1; omega
  obtain ⟨ad, rfl, hb, hc0⟩ := h.rune_at hx
  have hX := Lib.hid hx
  have H1 := Lib.hid (h.below ((oneW_below a w).mono hB))
  have hc0 : (oneW a w).cell? (ad.add a) = some (.int .i32 (x : Int)) := by
    obtain ⟨ad', e, _, hc1⟩ := H1.out.rune_at hx
    injection e with e
    subst e
    exact hc1
  have ta : (a : Int) < (n : Int) := by omega
  obtain ⟨q, hq⟩ : ∃ q, Hid (classV x = q) := ⟨_, rfl⟩
  have hB1 := Lib.hid (oneW_below a w)
  have hZ1 : w.heap.size + 2 ≤ (oneW a w).heap.size := by rw [oneW_size]; omega
  have hT0 := oneW_0 a w
  have hT1 := oneW_1 a w
  have hW : Hid ((w.alloc (.cells #[.int .i64 0, .string ⟨#[]⟩, .int .i64 0, .int .i64 0] 42)).alloc (.cells #[.int .i64 0, .string ⟨#[]⟩, .int .i64 0, .int .i64 (a : Int)] 42) = oneW a w) := rfl
  clear h hx
  go_enter Tryd.func53, Tryd.ntmps53
  go_upto_region 2 with (fail)
  rw [hW.out]
  clear hW
  generalize oneW a w = W1 at *
  obtain ⟨f0, c00, c01, c02, c03⟩ := row4 hT0
  obtain ⟨f1, c10, c11, c12, c13⟩ := row4 hT1
  replace hT0 := Lib.hid hT0
  replace hT1 := Lib.hid hT1
  by_cases hq0 : q = 0
  · have hP := Lib.hid (nextP_bad hX.out (by rw [hq.out]; exact hq0))
    have t0 : (q == 0) = true := by simpa using hq0
    clear hq0
    go_wp2_with (go_at_call 52; refine (rclass_any _ _).mono ?_; rintro e w' ⟨rfl, rfl⟩; rw [hq.out])
    (try simp only [Exit.inBlock, Exit.then])
    refine bodyPost_ret (results_cell3 rfl _ _ w.heap.size _ _ _ _ rfl (set4_blk hT0.out) Tryd.underlying42 rfl (by kernel_rfl)) rfl ?_
    rw [hP.out]
    exact ⟨⟨⟨_, _, _, _⟩, rfl⟩, below_set4 hB1.out⟩
  have u0 : (q == 0) = false := by simpa using hq0
  by_cases hq2 : q = 2
  · have t2 : (q == 2) = true := by simpa using hq2
    have hP : Hid (nextP rs a = .inl (⟨1, lowT (cutR rs a (endW rs a)), 0, a⟩, endW rs a)) := by show _ = _; unfold nextP; rw [getD_of hX.out, hq.out, if_pos hq2]
    have hend := Lib.hid (fun v (hr : Reads v B 1 (some ad) n (rcs rs)) => end05_word (some ad) n c B rs a x v hr hX.out (by rw [hq.out]; exact hq2) hn)
    have hle : endW rs a ≤ n := by rw [← hlen]; exact spanI_le (by omega)
    have hge : a ≤ endW rs a := by unfold endW; omega
    obtain ⟨m, hm⟩ : ∃ m, Hid (endW rs a = m) := ⟨_, rfl⟩
    rw [hm.out] at hP hend hle hge
    obtain ⟨A', c', s1, s2, hc', s3⟩ := cut_runes H1.out hcap (i := a) (j := m) hge hle
    have hlow : Hid (lowT (cutR rs a m) = ⟨((bl (strR (cutR rs a m))).map lowB).toArray⟩) := rfl
    have hcl := strR_small (cutR rs a m)
    have hcl2 := cutR_le rs a m
    have s5 := (s3 (W1.setCell ⟨w.heap.size + 1, 0, none⟩ (.int .i64 1)) (fun p hp => World.cell?_setCell_other _ _ _ _ (fun e => by rw [← e] at hp; dsimp only at hp; omega))).2
    obtain ⟨s, hs⟩ : ∃ s, Hid (strR (cutR rs a m) = s) := ⟨_, rfl⟩
    rw [hs.out] at s5 hlow hcl
    clear s3 hq0 hq2
    go_wp2_with (first
      | (go_at_call 52; refine (rclass_any _ _).mono ?_; rintro e w' ⟨rfl, rfl⟩; rw [hq.out])
      | (go_at_call 74; refine (hend.out _ H1.out).mono ?_; rintro e w' ⟨rfl, rfl⟩))
    have hb2 : Hid (Below w.heap.size w (W1.setCell ⟨w.heap.size + 1, 0, none⟩ (.int .i64 1))) := hB1.out.setCell (p := ⟨w.heap.size + 1, 0, none⟩) (by show w.heap.size ≤ w.heap.size + 1; omega) _
    have g0 : Hid ((W1.setCell ⟨w.heap.size + 1, 0, none⟩ (.int .i64 1)).heap[w.heap.size]? = some tok0) := (Below.heap_setCell _ _ _ _ (by show w.heap.size ≠ w.heap.size + 1; omega)).trans hT0.out
    have g1 := Lib.hid (set1_blk (a0 := .int .i64 1) hT1.out)
    have hzz : w.heap.size + 2 ≤ (W1.setCell ⟨w.heap.size + 1, 0, none⟩ (.int .i64 1)).heap.size := by simp [World.setCell]; omega
    refine (rlower_any s _ (by omega)).mono ?_
    rintro e w3 ⟨rfl, hb3⟩
    have e0 : w3.heap[w.heap.size]? = some tok0 := (hb3.block _ (by omega)).trans g0.out
    have e1 := (hb3.block _ (by omega)).trans g1.out
    obtain ⟨k0, k00, k01, k02, k03⟩ := row4 e0
    obtain ⟨k1, k10, k11, k12, k13⟩ := row4 e1
    have hb4 := Lib.hid (hb2.out.trans (hb3.mono (by omega)))
    replace e0 := Lib.hid e0
    clear hb2 g0 g1 hb3 e1
    dsimp only
    go_wp2
    (try simp only [Exit.inBlock, Exit.then])
    refine bodyPost_ret (results_cell3 rfl _ _ w.heap.size _ _ _ _ rfl (set4_blk ((Below.heap_setCell _ _ _ _ (by show w.heap.size ≠ w.heap.size + 1; omega)).trans e0.out)) Tryd.underlying42 rfl (by kernel_rfl)) rfl ?_
    rw [hP.out]
    refine ⟨?_, below_set4 (hb4.out.setCell (p := ⟨w.heap.size + 1, 1, none⟩) (by show w.heap.size ≤ w.heap.size + 1; omega) _)⟩
    rw [hlow.out]; rfl
  have u2 : (q == 2) = false := by simpa using hq2
  by_cases hq3 : q = 3
  · have t3 : (q == 3) = true := by simpa using hq3
    have hP0 : Hid (nextP rs a = countP rs a) := by show _ = _; unfold nextP; rw [getD_of hX.out, hq.out, if_neg hq2, if_pos hq3]
    have hend := Lib.hid (fun v (hr : Reads v B 1 (some ad) n (rcs rs)) => end05_small (some ad) n c B rs a x v hr hX.out (by rw [hq.out]; exact hq3) hn)
    have hle : endD rs a ≤ n := by rw [← hlen]; exact spanI_le (by omega)
    have hge : a ≤ endD rs a := by unfold endD; omega
    have hsm := Lib.hid (cut_small (rs := rs) (i := a))
    have hne := Lib.hid (cut_ne hX.out (by rw [hq.out]; exact hq3))
    unfold countP at hP0
    obtain ⟨m, hm⟩ : ∃ m, Hid (endD rs a = m) := ⟨_, rfl⟩
    rw [hm.out] at hP0 hend hle hge hsm hne
    obtain ⟨A', c', s1, s2, hc', s3⟩ := cut_runes H1.out hcap (i := a) (j := m) hge hle
    have hcl2 := cutR_le rs a m
    obtain ⟨l, hl⟩ : ∃ l, Hid (cutR rs a m = l) := ⟨_, rfl⟩
    rw [hl.out] at hP0 hsm hne s3 hcl2
    have s3' : ∀ kk : Int, (∀ v, v = W1.setCell ⟨w.heap.size + 1, 0, none⟩ (.int .i64 kk) → Reads v B 1 A' (m - a) (rcs l) ∧ (convert 87 9 (.slice A' (m - a) c')).run Tryd.prog v = .ok (.string (strR l)) v) := fun kk v hv => by
      subst hv
      exact s3 _ (fun p hp => World.cell?_setCell_other _ _ _ _ (fun e => by rw [← e] at hp; dsimp only at hp; omega))
    have hpl := Lib.hid (plain05_any A' (m - a) c' B l W1 (s3 W1 (fun _ _ => rfl)).1 hsm.out (by omega))
    by_cases hall : l.all digR = true
    · rw [hall] at hpl
      have hdg : ∀ r ∈ l, digR r = true := List.all_eq_true.1 hall
      have r2 := (s3' 2 _ rfl).1
      have g0 : Hid ((W1.setCell ⟨w.heap.size + 1, 0, none⟩ (.int .i64 2)).heap[w.heap.size]? = some tok0) := (Below.heap_setCell _ _ _ _ (by show w.heap.size ≠ w.heap.size + 1; omega)).trans hT0.out
      have g1 := set1_blk (a0 := .int .i64 2) hT1.out
      have hb2 : Hid (Below w.heap.size w (W1.setCell ⟨w.heap.size + 1, 0, none⟩ (.int .i64 2))) := hB1.out.setCell (p := ⟨w.heap.size + 1, 0, none⟩) (by show w.heap.size ≤ w.heap.size + 1; omega) _
      by_cases hok : numOk l = true
      · have hP : Hid (nextP rs a = .inl (⟨2, ⟨#[]⟩, (valR l : Int), a⟩, m)) := by show _ = _; rw [hP0.out, if_pos hall, if_pos hok]
        have hnm := Lib.hid (number05_ok A' (m - a) c' B l _ r2 hdg hne.out hok)
        have tv : decide (((valR l : Nat) : Int) < 0) = false := by simp
        clear s3 s3' hq0 hq2 hq3 hP0 hall hok hdg r2 g1
        go_wp2_with (first
          | (go_at_call 52; refine (rclass_any _ _).mono ?_; rintro e w' ⟨rfl, rfl⟩; rw [hq.out])
          | (go_at_call 74; refine (hend.out _ H1.out).mono ?_; rintro e w' ⟨rfl, rfl⟩)
          | (go_at_call 76; refine Calls.mono hpl.out ?_; rintro e w' ⟨rfl, rfl⟩)
          | (go_at_call 77; refine Calls.mono hnm.out ?_; rintro e w' ⟨rfl, rfl⟩))
        (try simp only [Exit.inBlock, Exit.then])
        refine bodyPost_ret (results_cell3 rfl _ _ w.heap.size _ _ _ _ rfl (set4_blk ((Below.heap_setCell _ _ _ _ (by show w.heap.size ≠ w.heap.size + 1; omega)).trans g0.out)) Tryd.underlying42 rfl (by kernel_rfl)) rfl ?_
        rw [hP.out]
        exact ⟨rfl, below_set4 (hb2.out.setCell (p := ⟨w.heap.size + 1, 2, none⟩) (by show w.heap.size ≤ w.heap.size + 1; omega) _)⟩
      · have hok' : numOk l = false := by simpa using hok
        have hP : Hid (nextP rs a = .inr (a, 50)) := by show _ = _; rw [hP0.out, if_pos hall, if_neg hok]
        have hnm := Lib.hid (number05_bad A' (m - a) c' B l _ r2 hne.out (by omega) hok')
        clear s3 s3' hq0 hq2 hq3 hP0 hall hok hok' hdg r2 g1
        go_wp2_with (first
          | (go_at_call 52; refine (rclass_any _ _).mono ?_; rintro e w' ⟨rfl, rfl⟩; rw [hq.out])
          | (go_at_call 74; refine (hend.out _ H1.out).mono ?_; rintro e w' ⟨rfl, rfl⟩)
          | (go_at_call 76; refine Calls.mono hpl.out ?_; rintro e w' ⟨rfl, rfl⟩)
          | (go_at_call 77; refine Calls.mono hnm.out ?_; rintro e w' ⟨rfl, rfl⟩))
        (try simp only [Exit.inBlock, Exit.then])
        refine bodyPost_ret (results_cell3 rfl _ _ w.heap.size _ _ _ _ rfl (set4_blk ((Below.heap_setCell _ _ _ _ (by show w.heap.size ≠ w.heap.size + 1; omega)).trans g0.out)) Tryd.underlying42 rfl (by kernel_rfl)) rfl ?_
        rw [hP.out]
        exact ⟨⟨⟨_, _, _, _⟩, rfl⟩, below_set4 (hb2.out.setCell (p := ⟨w.heap.size + 1, 2, none⟩) (by show w.heap.size ≤ w.heap.size + 1; omega) _)⟩
    · have hall' : l.all digR = false := by simpa using hall
      rw [hall'] at hpl
      have hP : Hid (nextP rs a = .inl (⟨3, strR l, 0, a⟩, m)) := by show _ = _; rw [hP0.out, if_neg hall]
      have s5 := (s3' 3 _ rfl).2
      obtain ⟨s, hs⟩ : ∃ s, Hid (strR l = s) := ⟨_, rfl⟩
      rw [hs.out] at s5 hP
      have g0 : Hid ((W1.setCell ⟨w.heap.size + 1, 0, none⟩ (.int .i64 3)).heap[w.heap.size]? = some tok0) := (Below.heap_setCell _ _ _ _ (by show w.heap.size ≠ w.heap.size + 1; omega)).trans hT0.out
      have hb2 : Hid (Below w.heap.size w (W1.setCell ⟨w.heap.size + 1, 0, none⟩ (.int .i64 3))) := hB1.out.setCell (p := ⟨w.heap.size + 1, 0, none⟩) (by show w.heap.size ≤ w.heap.size + 1; omega) _
      clear s3 s3' hq0 hq2 hq3 hP0 hall hall'
      go_wp2_with (first
        | (go_at_call 52; refine (rclass_any _ _).mono ?_; rintro e w' ⟨rfl, rfl⟩; rw [hq.out])
        | (go_at_call 74; refine (hend.out _ H1.out).mono ?_; rintro e w' ⟨rfl, rfl⟩)
        | (go_at_call 76; refine Calls.mono hpl.out ?_; rintro e w' ⟨rfl, rfl⟩))
      (try simp only [Exit.inBlock, Exit.then])
      refine bodyPost_ret (results_cell3 rfl _ _ w.heap.size _ _ _ _ rfl (set4_blk ((Below.heap_setCell _ _ _ _ (by show w.heap.size ≠ w.heap.size + 1; omega)).trans g0.out)) Tryd.underlying42 rfl (by kernel_rfl)) rfl ?_
      rw [hP.out]
      exact ⟨rfl, below_set4 (hb2.out.setCell (p := ⟨w.heap.size + 1, 1, none⟩) (by show w.heap.size ≤ w.heap.size + 1; omega) _)⟩
  have u3 : (q == 3) = false := by simpa using hq3
  by_cases h34 : x = 34
  · have t34 : ((x : Int) == 34) = true := by simp; omega
    have hP : Hid (nextP rs a = textP rs a) := by show _ = _; unfold nextP; rw [getD_of hX.out, hq.out, if_neg hq2, if_neg hq3, if_pos h34]
    have htx := Lib.hid (text05_any (some ad) n c B rs a W1 H1.out (by omega) hcap (by rw [← h34]; exact hX.out) hn hcm)
    clear hq0 hq2 hq3 h34
    go_wp2_with (first
      | (go_at_call 52; refine (rclass_any _ _).mono ?_; rintro e w' ⟨rfl, rfl⟩; rw [hq.out])
      | (go_at_call 78; refine Calls.mono htx.out ?_; rintro e w3 h3; obtain ⟨t, p1, p2, p3, rfl, hb3, hup⟩ := h3.split; clear h3; have e0 : w3.heap[w.heap.size]? = some tok0 := (hb3.block _ (by omega)).trans hT0.out; obtain ⟨k0, k00, k01, k02, k03⟩ := row4 e0; replace hup := Lib.hid hup; replace hb3 := Lib.hid hb3; unfold tkV))
    (try simp only [Exit.inBlock, Exit.then])
    refine bodyPost_ret (results_cell3 rfl _ _ w.heap.size _ _ _ _ rfl (set4_blk e0) Tryd.underlying42 rfl (by kernel_rfl)) rfl ?_
    rw [hP.out]
    exact hup.out w _ (below_set4 (hB1.out.trans (hb3.out.mono (by omega))))
  have u34 : ((x : Int) == 34) = false := by simp; omega
  by_cases hsg : x = 61 ∨ x = 58 ∨ x = 44 ∨ x = 45
  · have hP : Hid (nextP rs a = .inl (⟨5, strR [x], 0, a⟩, a + 1)) := by show _ = _; unfold nextP; rw [getD_of hX.out, hq.out, if_neg hq2, if_neg hq3, if_neg h34, if_pos hsg]
    obtain ⟨A', c', s1, s2, hc', s3⟩ := cut_runes H1.out hcap (i := a) (j := a + 1) (by omega) (by omega)
    have s5 := (s3 (W1.setCell ⟨w.heap.size + 1, 0, none⟩ (.int .i64 5)) (fun p hp => World.cell?_setCell_other _ _ _ _ (fun e => by rw [← e] at hp; dsimp only at hp; omega))).2
    rw [cut_one hX.out] at s5
    obtain ⟨s, hs⟩ : ∃ s, Hid (strR [x] = s) := ⟨_, rfl⟩
    rw [hs.out] at s5 hP
    rw [show ((a + 1 : Nat) : Int) = (a : Int) + 1 by omega, show a + 1 - a = 1 by omega] at s1 s2
    rw [show a + 1 - a = 1 by omega] at s5
    have g0 : Hid ((W1.setCell ⟨w.heap.size + 1, 0, none⟩ (.int .i64 5)).heap[w.heap.size]? = some tok0) := (Below.heap_setCell _ _ _ _ (by show w.heap.size ≠ w.heap.size + 1; omega)).trans hT0.out
    have hb2 : Hid (Below w.heap.size w (W1.setCell ⟨w.heap.size + 1, 0, none⟩ (.int .i64 5))) := hB1.out.setCell (p := ⟨w.heap.size + 1, 0, none⟩) (by show w.heap.size ≤ w.heap.size + 1; omega) _
    have hcase : ((x : Int) == 61) = true ∨ (((x : Int) == 61) = false ∧ ((x : Int) == 58) = true) ∨ (((x : Int) == 61) = false ∧ ((x : Int) == 58) = false ∧ ((x : Int) == 44) = true) ∨ (((x : Int) == 61) = false ∧ ((x : Int) == 58) = false ∧ ((x : Int) == 44) = false ∧ ((x : Int) == 45) = true) := by simp; omega
    clear hq0 hq2 hq3 h34 hsg s3
    rcases hcase with t1 | ⟨t1, t2⟩ | ⟨t1, t2, t3⟩ | ⟨t1, t2, t3, t4⟩
    all_goals
      go_wp2_with (go_at_call 52; refine (rclass_any _ _).mono ?_; rintro e w' ⟨rfl, rfl⟩; rw [hq.out])
      (try simp only [Exit.inBlock, Exit.then])
      refine bodyPost_ret (results_cell3 rfl _ _ w.heap.size _ _ _ _ rfl (set4_blk ((Below.heap_setCell _ _ _ _ (by show w.heap.size ≠ w.heap.size + 1; omega)).trans g0.out)) Tryd.underlying42 rfl (by kernel_rfl)) rfl ?_
      rw [hP.out]
      exact ⟨rfl, below_set4 (hb2.out.setCell (p := ⟨w.heap.size + 1, 1, none⟩) (by show w.heap.size ≤ w.heap.size + 1; omega) _)⟩
  have hP : Hid (nextP rs a = .inr (a, 50)) := by show _ = _; unfold nextP; rw [getD_of hX.out, hq.out, if_neg hq2, if_neg hq3, if_neg h34, if_neg hsg, if_neg hq0]
  have t1 : ((x : Int) == 61) = false := by simp; omega
  have t2 : ((x : Int) == 58) = false := by simp; omega
  have t3 : ((x : Int) == 44) = false := by simp; omega
  have t4 : ((x : Int) == 45) = false := by simp; omega
  clear hq0 hq2 hq3 h34 hsg
  go_wp2_with (go_at_call 52; refine (rclass_any _ _).mono ?_; rintro e w' ⟨rfl, rfl⟩; rw [hq.out])
  (try simp only [Exit.inBlock, Exit.then])
  refine bodyPost_ret (results_cell3 rfl _ _ w.heap.size _ _ _ _ rfl (set4_blk hT0.out) Tryd.underlying42 rfl (by kernel_rfl)) rfl ?_
  rw [hP.out]
  exact ⟨⟨⟨_, _, _, _⟩, rfl⟩, below_set4 hB1.out⟩
end Go.Proofs.YtenonfoocjcdmaaDoor
