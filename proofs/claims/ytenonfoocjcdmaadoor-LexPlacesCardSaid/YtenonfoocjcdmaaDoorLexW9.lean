/- Layer 5: the next token. -/
import Derived.Test.YtenonfoocjcdmaaDoorLexW8
import Derived.Test.YtenonfoocjcdmaaDoorShelf
namespace Go.Proofs.YtenonfoocjcdmaaDoor
set_option linter.unusedVariables false
open Go.RowKit
theorem NextIs.up {k0 : Int} {R n c : Nat} {A : Option Addr} {rs : List Nat} {bad : Int} {w : World} {q : Nat} {r : (Tk × Nat) ⊕ (Nat × Int)} {e : Ending} {w' : World}
    (H0 : Rd w R A n c rs k0 bad 0) (h : NextIs R n c A rs bad ((alTok w).drewN q) r e w') :
    ∃ t : Tk, e = .returned (tkV t) ∧ w'.heap[w.heap.size]? = some tok0 ∧ ∀ w'', Kb (fun b => w.heap.size ≤ b) w' w'' → NextIs R n c A rs bad w r (.returned (tkV t)) w'' := by
  have hR := H0.lt
  have b1 : Below w.heap.size w ((alTok w).drewN q) := by
    have := (Below.refl _ w).alloc (Nat.le_refl _) tok0
    exact ⟨this.os, this.tape, this.output, this.size, this.block⟩
  have ht : ((alTok w).drewN q).heap[w.heap.size]? = some tok0 := heap_alloc_new w tok0
  have hz : w.heap.size < ((alTok w).drewN q).heap.size := by show w.heap.size < (alTok w).heap.size; simp [alTok]
  unfold NextIs at h
  rcases r with ⟨t, m⟩ | ⟨a, er⟩
  · obtain ⟨rfl, hr, hk⟩ := h
    refine ⟨_, rfl, (hk.block _ hz (by omega)).trans ht, fun w'' h2 => ⟨rfl, H0.keepNew hr h2, ?_⟩⟩
    exact Kb.fresh (((Kb.of_below b1).trans (hk.mono (fun b hb => Or.inl hb))).trans (h2.mono (fun b hb => Or.inr hb)))
  · obtain ⟨⟨t, rfl⟩, ⟨k, hr⟩, hk⟩ := h
    refine ⟨_, rfl, (hk.block _ hz (by omega)).trans ht, fun w'' h2 => ⟨⟨t, rfl⟩, ⟨k, H0.keepNew hr h2⟩, ?_⟩⟩
    exact Kb.fresh (((Kb.of_below b1).trans (hk.mono (fun b hb => Or.inl hb))).trans (h2.mono (fun b hb => Or.inr hb)))
theorem strR_one (x : Nat) : strR [x] = Utf8.encode (x : Int) := by
  have h := encode_enc x
  have e : strR [x] = ⟨(enc x).toArray⟩ := by unfold strR; simp only [List.flatMap_cons, List.flatMap_nil, List.append_nil]
  have e2 : ∀ (y : ByteArray) (l : List UInt8), y.data.toList = l → (⟨l.toArray⟩ : ByteArray) = y := by rintro ⟨⟨d⟩⟩ l rfl; rfl
  exact e.trans (e2 _ _ h)
theorem idx_pos {x : Nat} (h : x = 61 ∨ x = 58 ∨ x = 44 ∨ x = 45) : 0 ≤ Lib.indexByte [61, 58, 44, 45] (x : Int).toNat.toUInt8 := by
  rcases h with rfl | rfl | rfl | rfl <;> decide
theorem idx_neg {x : Nat} (h : ¬ (x = 61 ∨ x = 58 ∨ x = 44 ∨ x = 45)) (hx : x < 128) : Lib.indexByte [61, 58, 44, 45] (x : Int).toNat.toUInt8 < 0 := by
  have e : ∀ b : Nat, b < 128 → x ≠ b → (UInt8.ofNat b == (x : Int).toNat.toUInt8) = false := by
    intro b hb hne
    rw [beq_eq_false_iff_ne]
    intro e
    have := congrArg UInt8.toNat e
    simp at this
    omega
  have e1 : ((61 : UInt8) == (x : Int).toNat.toUInt8) = false := e 61 (by omega) (by omega)
  have e2 : ((58 : UInt8) == (x : Int).toNat.toUInt8) = false := e 58 (by omega) (by omega)
  have e3 : ((44 : UInt8) == (x : Int).toNat.toUInt8) = false := e 44 (by omega) (by omega)
  have e4 : ((45 : UInt8) == (x : Int).toNat.toUInt8) = false := e 45 (by omega) (by omega)
  simp only [Lib.indexByte, e1, e2, e3, e4, Bool.false_eq_true, if_false, beq_self_eq_true, if_true]
  omega
set_option maxRecDepth 100000 in
set_option maxHeartbeats 1000000 in
theorem next_any (R n c : Nat) (A : Option Addr) (rs : List Nat) (i x : Nat) (bad : Int) (w : World) (h0 : Rd w R A n c rs i bad 0) (hx : rs[i]? = some x) (hn : n ≤ 100000) (hcm : c ≤ maxLen) :
    Calls Tryd.prog 50 #[.pointer (some ⟨R, 0, none⟩)] w (NextIs R n c A rs bad w (nextP rs i)) := by
  have hR := h0.lt
  have hlen := h0.len
  have hil : i < n := by have := (List.getElem?_eq_some_iff.1 hx).1; omega
  obtain ⟨g, rfl, hgR, hgl⟩ := h0.line (by omega)
  have hgs := cell_lt (hgl i x hx)
  have b1 : Below w.heap.size w (alTok w) := (Below.refl _ w).alloc (Nat.le_refl _) _
  have hr1 := h0.below b1
  have hz1 : (alTok w).heap.size = w.heap.size + 1 := by simp [alTok]
  have c0 : (w.alloc (.cells #[.int .i64 0, .string ⟨#[]⟩, .int .i64 0, .int .i64 0] 42)).cell? ⟨R, 0, none⟩ = some (.slice (some ⟨g, 0, none⟩) n c) := hr1.c0
  have c1 : (w.alloc (.cells #[.int .i64 0, .string ⟨#[]⟩, .int .i64 0, .int .i64 0] 42)).cell? ⟨R, 1, none⟩ = some (.int .i64 i) := hr1.c1
  have c2 : (w.alloc (.cells #[.int .i64 0, .string ⟨#[]⟩, .int .i64 0, .int .i64 0] 42)).cell? ⟨g, i, none⟩ = some (.int .i32 x) := line_at hr1 hx
  have til : (i : Int) < (n : Int) := by omega
  have H0 := Lib.hid h0
  have R1 := Lib.hid hr1
  have hX := Lib.hid hx
  have hcm2 := Lib.hid hcm
  have hP : Hid (nextP rs i = if classV x = 2 then .inl (⟨1, lowT (cutR rs i (endW rs i)), 0, i⟩, endW rs i) else if classV x = 3 then countP rs i else if x = 34 then textP rs i
      else if x = 61 ∨ x = 58 ∨ x = 44 ∨ x = 45 then .inl (⟨5, strR [x], 0, i⟩, i + 1) else if classV x = 0 then .inr (i, 40) else .inr (i, 50)) := by
    show _ = _; unfold nextP; rw [getD_of hx]
  obtain ⟨q, hq⟩ : ∃ q, Hid (classV x = q) := ⟨_, rfl⟩
  rw [hq.out] at hP
  clear h0 b1 hr1 hcm hx hgl
  by_cases hq2 : q = 2
  · have hP2 := hP.out
    rw [if_pos hq2] at hP2
    have hP3 := Lib.hid hP2
    have t1 : (q == 2) = true := by simpa using hq2
    clear hP hP2 hq2
    go_enter Tryd.func50, Tryd.ntmps50
    go_upto_region 1 with (fail)
    go_quiet (fail)
    go_wp2_with (first
      | (go_at_call 68; refine (class_any _ _).mono ?_; rintro e w' ⟨rfl, rfl⟩; rw [hq.out])
      | (go_at_call 69; refine (word_any R n c _ rs i bad _ (R1.out.drewN _) (by omega) hn hcm2.out).mono ?_; rintro e w2 h2; obtain ⟨t, rfl, e2, hup⟩ := NextIs.up (r := .inl (⟨1, lowT (cutR rs i (endW rs i)), 0, i⟩, endW rs i)) H0.out h2; replace hup := Lib.hid hup; obtain ⟨e2f, e20, e21, e22, e23⟩ := row4 e2; unfold tkV))
    (try simp only [Exit.inBlock, Exit.then])
    refine bodyPost_ret (results_cell_row rfl _ _ w.heap.size _ _ _ _ rfl (set4_blk e2) Tryd.underlying42 rfl (by kernel_rfl)) rfl ?_
    rw [hP3.out]
    exact hup.out _ (set4 (Kb.refl _ _) (Nat.le_refl _))
  · have u1 : (q == 2) = false := by simpa using hq2
    by_cases hq3 : q = 3
    · have hP2 := hP.out
      rw [if_neg hq2, if_pos hq3] at hP2
      have hP3 := Lib.hid hP2
      have t1 : (q == 3) = true := by simpa using hq3
      have hd : Hid (classV x = 3) := by show _ = _; rw [hq.out]; exact hq3
      clear hP hP2 hq2 hq3
      go_enter Tryd.func50, Tryd.ntmps50
      go_upto_region 1 with (fail)
      go_quiet (fail)
      go_wp2_with (first
        | (go_at_call 68; refine (class_any _ _).mono ?_; rintro e w' ⟨rfl, rfl⟩; rw [hq.out])
        | (go_at_call 70; refine (countR_any R n c _ rs i x bad _ (R1.out.drewN _) hX.out hd.out hn hcm2.out).mono ?_; rintro e w2 h2; obtain ⟨t, rfl, e2, hup⟩ := NextIs.up H0.out h2; replace hup := Lib.hid hup; obtain ⟨e2f, e20, e21, e22, e23⟩ := row4 e2; unfold tkV))
      (try simp only [Exit.inBlock, Exit.then])
      refine bodyPost_ret (results_cell_row rfl _ _ w.heap.size _ _ _ _ rfl (set4_blk e2) Tryd.underlying42 rfl (by kernel_rfl)) rfl ?_
      rw [hP3.out]
      exact hup.out _ (set4 (Kb.refl _ _) (Nat.le_refl _))
    have u2 : (q == 3) = false := by simpa using hq3
    by_cases h34 : x = 34
    · have hP2 := hP.out
      rw [if_neg hq2, if_neg hq3, if_pos h34] at hP2
      have hP3 := Lib.hid hP2
      have t1 : ((x : Int) == 34) = true := by simp; omega
      clear hP hP2 hq2 hq3 h34
      go_enter Tryd.func50, Tryd.ntmps50
      go_upto_region 1 with (fail)
      go_quiet (fail)
      go_wp2_with (first
        | (go_at_call 68; refine (class_any _ _).mono ?_; rintro e w' ⟨rfl, rfl⟩; rw [hq.out])
        | (go_at_call 71; refine (textR_any R n c _ rs i x bad _ (R1.out.drewN _) hX.out hn hcm2.out).mono ?_; rintro e w2 h2; obtain ⟨t, rfl, e2, hup⟩ := NextIs.up H0.out h2; replace hup := Lib.hid hup; obtain ⟨e2f, e20, e21, e22, e23⟩ := row4 e2; unfold tkV))
      (try simp only [Exit.inBlock, Exit.then])
      refine bodyPost_ret (results_cell_row rfl _ _ w.heap.size _ _ _ _ rfl (set4_blk e2) Tryd.underlying42 rfl (by kernel_rfl)) rfl ?_
      rw [hP3.out]
      exact hup.out _ (set4 (Kb.refl _ _) (Nat.le_refl _))
    have u3 : ((x : Int) == 34) = false := by simp; omega
    have ht1 := Lib.hid (heap_alloc_new w tok0)
    have B1 := Lib.hid ((Below.refl _ w).alloc (Nat.le_refl _) tok0)
    have fz1 : (w.alloc (.cells #[.int .i64 0, .string ⟨#[]⟩, .int .i64 0, .int .i64 0] 42)).frozen? ⟨R, 1, none⟩ = false := R1.out.fz 1
    by_cases hsg : x = 61 ∨ x = 58 ∨ x = 44 ∨ x = 45
    · have hP2 := hP.out
      rw [if_neg hq2, if_neg hq3, if_neg h34, if_pos hsg] at hP2
      have hP3 := Lib.hid hP2
      obtain ⟨ix, hix2⟩ : ∃ ix, Hid (Lib.indexByte [61, 58, 44, 45] (x : Int).toNat.toUInt8 = ix) := ⟨_, rfl⟩
      have tix : decide (0 ≤ ix) = true := by have h := idx_pos hsg; rw [hix2.out] at h; simpa using h
      have hI : Hid (∀ v : World, Calls Tryd.prog 72 #[.string ⟨#[61, 58, 44, 45]⟩, .int .u8 (x : Int)] v fun e v' => e = .returned (.int .i64 ix) ∧ v' = v) := fun v => by have := Tryd.strings_IndexByte ⟨#[61, 58, 44, 45]⟩ (x : Int) v; rw [← hix2.out]; exact this
      have h128 : x < 128 := by omega
      clear hP hP2 hq2 hq3 h34 hsg
      go_enter Tryd.func50, Tryd.ntmps50
      go_upto_region 1 with (fail)
      go_quiet (fail)
      go_wp2_with (first
        | (go_at_call 68; refine (class_any _ _).mono ?_; rintro e w' ⟨rfl, rfl⟩; rw [hq.out])
        | (go_at_call 72; refine (hI.out _).mono ?_; rintro e w' ⟨rfl, rfl⟩))
      (try simp only [Exit.inBlock, Exit.then])
      have hr3 : ∀ z, Rd (((w.alloc tok0).drewN z).setCell ⟨R, 1, none⟩ (.int .i64 ((i : Int) + 1))) R (some ⟨g, 0, none⟩) n c rs ((i + 1 : Nat) : Int) bad 0 := fun z => by rw [show ((i + 1 : Nat) : Int) = (i : Int) + 1 by omega]; exact (R1.out.drewN z).set1 _
      have hk3 : ∀ z, Kb (fun b => b = R ∨ w.heap.size ≤ b) w (((w.alloc tok0).drewN z).setCell ⟨R, 1, none⟩ (.int .i64 ((i : Int) + 1))) := fun z => ((Kb.of_below B1.out).drewN z).set_ (p := ⟨R, 1, none⟩) (Or.inl rfl) _
      have ht3 : ∀ z, (((w.alloc tok0).drewN z).setCell ⟨R, 1, none⟩ (.int .i64 ((i : Int) + 1))).heap[w.heap.size]? = some tok0 := fun z => (Below.heap_setCell _ _ _ _ (by show w.heap.size ≠ R; omega)).trans ht1.out
      refine bodyPost_ret (results_cell_row rfl _ _ w.heap.size _ _ _ _ rfl (set4_blk (ht3 _)) Tryd.underlying42 rfl (by kernel_rfl)) rfl ?_
      rw [hP3.out]
      refine ⟨?_, H0.out.keepNew (hr3 _) (set4 (Kb.refl _ _) (Nat.le_refl _)), Kb.fresh (set4 (hk3 _) (Or.inr (Nat.le_refl _)))⟩
      show Ending.returned (.agg #[_, .string (Utf8.encode (x : Int)), _, _]) = _
      rw [← strR_one]
      rfl
    by_cases hq0 : q = 0
    · have hP2 := hP.out
      rw [if_neg hq2, if_neg hq3, if_neg h34, if_neg hsg, if_pos hq0] at hP2
      have hP3 := Lib.hid hP2
      have t0 : (q == 0) = true := by simpa using hq0
      clear hP hP2 hq2 hq3 h34 hq0
      rcases Nat.lt_or_ge x 128 with h128 | h128
      · have hix := Lib.hid (idx_neg hsg h128)
        clear hsg
        obtain ⟨ix, hix2⟩ : ∃ ix, Hid (Lib.indexByte [61, 58, 44, 45] (x : Int).toNat.toUInt8 = ix) := ⟨_, rfl⟩
        rw [hix2.out] at hix
        have tix : decide (0 ≤ ix) = false := by have := hix.out; simp; omega
        have hI : Hid (∀ v : World, Calls Tryd.prog 72 #[.string ⟨#[61, 58, 44, 45]⟩, .int .u8 (x : Int)] v fun e v' => e = .returned (.int .i64 ix) ∧ v' = v) := fun v => by have := Tryd.strings_IndexByte ⟨#[61, 58, 44, 45]⟩ (x : Int) v; rw [← hix2.out]; exact this
        go_enter Tryd.func50, Tryd.ntmps50
        go_upto_region 1 with (fail)
        go_quiet (fail)
        go_wp2_with (first
          | (go_at_call 68; refine (class_any _ _).mono ?_; rintro e w' ⟨rfl, rfl⟩; rw [hq.out])
          | (go_at_call 72; refine (hI.out _).mono ?_; rintro e w' ⟨rfl, rfl⟩)
          | (go_at_call 73; refine (fail_first _ _ _ _ _ _ _ _ _ _ (R1.out.drewN _)).mono ?_; rintro e w2 h2; obtain ⟨rfl, hr2, hk2⟩ := h2; have e2 : w2.heap[w.heap.size]? = some tok0 := (hk2.block _ (by show w.heap.size < (alTok w).heap.size; omega) (by omega)).trans ht1.out; obtain ⟨e2f, e20, e21, e22, e23⟩ := row4 e2))
        (try simp only [Exit.inBlock, Exit.then])
        refine bodyPost_ret (results_cell_row rfl _ _ w.heap.size _ _ _ _ rfl (set4_blk e2) Tryd.underlying42 rfl (by kernel_rfl)) rfl ?_
        rw [hP3.out]
        exact ⟨⟨⟨_, _, _, _⟩, rfl⟩, ⟨_, H0.out.keepNew hr2 (set4 (Kb.refl _ _) (Nat.le_refl _))⟩, Kb.fresh (set4 (((Kb.of_below B1.out).drewN _).trans (hk2.mono (fun b hb => Or.inl hb))) (Or.inr (Nat.le_refl _)))⟩
      · have t128 : decide ((x : Int) < 128) = false := by simp; omega
        clear hsg
        have hI : Hid (∀ (cc : Int) (v : World), Calls Tryd.prog 72 #[.string ⟨#[61, 58, 44, 45]⟩, .int .u8 cc] v fun e v' => ∃ ix, e = .returned (.int .i64 ix) ∧ v' = v) := fun cc v => (Tryd.strings_IndexByte ⟨#[61, 58, 44, 45]⟩ cc v).mono (fun e v' h => ⟨_, h⟩)
        go_enter Tryd.func50, Tryd.ntmps50
        go_upto_region 1 with (fail)
        go_quiet (fail)
        go_wp2_with (first
          | (go_at_call 68; refine (class_any _ _).mono ?_; rintro e w' ⟨rfl, rfl⟩; rw [hq.out])
          | (go_at_call 72; refine (hI.out _ _).mono ?_; rintro e w' ⟨ix, rfl, rfl⟩; rcases (by omega : 0 ≤ ix ∨ ix < 0) with hix | hix)
          | (go_at_call 73; refine (fail_first _ _ _ _ _ _ _ _ _ _ (R1.out.drewN _)).mono ?_; rintro e w2 h2; obtain ⟨rfl, hr2, hk2⟩ := h2; have e2 : w2.heap[w.heap.size]? = some tok0 := (hk2.block _ (by show w.heap.size < (alTok w).heap.size; omega) (by omega)).trans ht1.out; obtain ⟨e2f, e20, e21, e22, e23⟩ := row4 e2))
        all_goals
          (try simp only [Exit.inBlock, Exit.then])
          refine bodyPost_ret (results_cell_row rfl _ _ w.heap.size _ _ _ _ rfl (set4_blk e2) Tryd.underlying42 rfl (by kernel_rfl)) rfl ?_
          rw [hP3.out]
          exact ⟨⟨⟨_, _, _, _⟩, rfl⟩, ⟨_, H0.out.keepNew hr2 (set4 (Kb.refl _ _) (Nat.le_refl _))⟩, Kb.fresh (set4 (((Kb.of_below B1.out).drewN _).trans (hk2.mono (fun b hb => Or.inl hb))) (Or.inr (Nat.le_refl _)))⟩
    · have hP2 := hP.out
      rw [if_neg hq2, if_neg hq3, if_neg h34, if_neg hsg, if_neg hq0] at hP2
      have hP3 := Lib.hid hP2
      have t0 : (q == 0) = false := by simpa using hq0
      clear hP hP2 hq2 hq3 h34 hq0
      rcases Nat.lt_or_ge x 128 with h128 | h128
      · have hix := Lib.hid (idx_neg hsg h128)
        clear hsg
        obtain ⟨ix, hix2⟩ : ∃ ix, Hid (Lib.indexByte [61, 58, 44, 45] (x : Int).toNat.toUInt8 = ix) := ⟨_, rfl⟩
        rw [hix2.out] at hix
        have tix : decide (0 ≤ ix) = false := by have := hix.out; simp; omega
        have hI : Hid (∀ v : World, Calls Tryd.prog 72 #[.string ⟨#[61, 58, 44, 45]⟩, .int .u8 (x : Int)] v fun e v' => e = .returned (.int .i64 ix) ∧ v' = v) := fun v => by have := Tryd.strings_IndexByte ⟨#[61, 58, 44, 45]⟩ (x : Int) v; rw [← hix2.out]; exact this
        go_enter Tryd.func50, Tryd.ntmps50
        go_upto_region 1 with (fail)
        go_quiet (fail)
        go_wp2_with (first
          | (go_at_call 68; refine (class_any _ _).mono ?_; rintro e w' ⟨rfl, rfl⟩; rw [hq.out])
          | (go_at_call 72; refine (hI.out _).mono ?_; rintro e w' ⟨rfl, rfl⟩)
          | (go_at_call 73; refine (fail_first _ _ _ _ _ _ _ _ _ _ (R1.out.drewN _)).mono ?_; rintro e w2 h2; obtain ⟨rfl, hr2, hk2⟩ := h2; have e2 : w2.heap[w.heap.size]? = some tok0 := (hk2.block _ (by show w.heap.size < (alTok w).heap.size; omega) (by omega)).trans ht1.out; obtain ⟨e2f, e20, e21, e22, e23⟩ := row4 e2))
        (try simp only [Exit.inBlock, Exit.then])
        refine bodyPost_ret (results_cell_row rfl _ _ w.heap.size _ _ _ _ rfl (set4_blk e2) Tryd.underlying42 rfl (by kernel_rfl)) rfl ?_
        rw [hP3.out]
        exact ⟨⟨⟨_, _, _, _⟩, rfl⟩, ⟨_, H0.out.keepNew hr2 (set4 (Kb.refl _ _) (Nat.le_refl _))⟩, Kb.fresh (set4 (((Kb.of_below B1.out).drewN _).trans (hk2.mono (fun b hb => Or.inl hb))) (Or.inr (Nat.le_refl _)))⟩
      · have t128 : decide ((x : Int) < 128) = false := by simp; omega
        clear hsg
        have hI : Hid (∀ (cc : Int) (v : World), Calls Tryd.prog 72 #[.string ⟨#[61, 58, 44, 45]⟩, .int .u8 cc] v fun e v' => ∃ ix, e = .returned (.int .i64 ix) ∧ v' = v) := fun cc v => (Tryd.strings_IndexByte ⟨#[61, 58, 44, 45]⟩ cc v).mono (fun e v' h => ⟨_, h⟩)
        go_enter Tryd.func50, Tryd.ntmps50
        go_upto_region 1 with (fail)
        go_quiet (fail)
        go_wp2_with (first
          | (go_at_call 68; refine (class_any _ _).mono ?_; rintro e w' ⟨rfl, rfl⟩; rw [hq.out])
          | (go_at_call 72; refine (hI.out _ _).mono ?_; rintro e w' ⟨ix, rfl, rfl⟩; rcases (by omega : 0 ≤ ix ∨ ix < 0) with hix | hix)
          | (go_at_call 73; refine (fail_first _ _ _ _ _ _ _ _ _ _ (R1.out.drewN _)).mono ?_; rintro e w2 h2; obtain ⟨rfl, hr2, hk2⟩ := h2; have e2 : w2.heap[w.heap.size]? = some tok0 := (hk2.block _ (by show w.heap.size < (alTok w).heap.size; omega) (by omega)).trans ht1.out; obtain ⟨e2f, e20, e21, e22, e23⟩ := row4 e2))
        all_goals
          (try simp only [Exit.inBlock, Exit.then])
          refine bodyPost_ret (results_cell_row rfl _ _ w.heap.size _ _ _ _ rfl (set4_blk e2) Tryd.underlying42 rfl (by kernel_rfl)) rfl ?_
          rw [hP3.out]
          exact ⟨⟨⟨_, _, _, _⟩, rfl⟩, ⟨_, H0.out.keepNew hr2 (set4 (Kb.refl _ _) (Nat.le_refl _))⟩, Kb.fresh (set4 (((Kb.of_below B1.out).drewN _).trans (hk2.mono (fun b hb => Or.inl hb))) (Or.inr (Nat.le_refl _)))⟩
end Go.Proofs.YtenonfoocjcdmaaDoor
