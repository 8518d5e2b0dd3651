/- The statement LedgerTotal of layer 17, walked. -/
import Derived.Test.YtlhogedcokcmhaaLedP3
import Derived.Deep.RegionHeld3
import Derived.Deep.RegionWith
import Derived.Deep.DeepCutAuto
namespace Go.Proofs.Ytlhogedcokcmhaa
set_option linter.unusedVariables false
open Go.RowKit
def nv (a b : ByteArray) (n : Int) : Value := .agg #[.string a, .string b, .int .i64 n]
def nobj (a b : ByteArray) (n : Int) : Obj := .cells #[.string a, .string b, .int .i64 n] 24
theorem sk_mk {w3 w' : World} (h : Below w3.heap.size w3 w') : (∀ b o, b < w3.heap.size → w'.cell? ⟨b, o, none⟩ = w3.cell? ⟨b, o, none⟩) ∧ Below w3.heap.size w3 w' := ⟨(bcell h).1, h⟩
theorem sk_call {w3 w' w'' : World} (h : (∀ b o, b < w3.heap.size → w'.cell? ⟨b, o, none⟩ = w3.cell? ⟨b, o, none⟩) ∧ Below w3.heap.size w3 w') (hb : Below w'.heap.size w' w'') : (∀ b o, b < w3.heap.size → w''.cell? ⟨b, o, none⟩ = w3.cell? ⟨b, o, none⟩) ∧ Below w3.heap.size w3 w'' := sk_mk (bt h.2 hb)
theorem sk_reads {w3 w' : World} {A : Option Addr} {n m : Nat} {xs : List Value} (h : (∀ b o, b < w3.heap.size → w'.cell? ⟨b, o, none⟩ = w3.cell? ⟨b, o, none⟩) ∧ Below w3.heap.size w3 w') (r : Reads w3 w3.heap.size m A n xs) : Reads w' w3.heap.size m A n xs := r.below h.2
theorem sk_size {w3 w' : World} (h : (∀ b o, b < w3.heap.size → w'.cell? ⟨b, o, none⟩ = w3.cell? ⟨b, o, none⟩) ∧ Below w3.heap.size w3 w') : w3.heap.size ≤ w'.heap.size := h.2.size
set_option linter.unusedSimpArgs false in
set_option maxRecDepth 100000 in
set_option maxHeartbeats 4000000 in
theorem ledgerTotal_good (A : Option Addr) (n c : Nat) (l : List U) (xu xa yu ya : ByteArray) (xn yn : Int) (w : World) (hn : n ≤ maxLen) (hc : n ≤ c) (hr : Reads w w.heap.size 4 A n (recs ucells l))
    (hf : fewV l = true) (hsz : wrap64 (wrap64 (wrap64 ((xu.size : Int) + xa.size) + yu.size) + ya.size) ≤ 1000) (hE : chargeE l xu xa xn = 0) :
    Calls Try.prog 4 #[.slice A n c, nv xu xa xn, nv yu ya yn] w fun e w' => e = .returned (.bool true) ∧ Below w.heap.size w w' := by
  obtain ⟨⟨C⟩, hl, n1, n2, hxn, hML⟩ := charge_chg hE
  have hM := C.ledger hl hML n1 n2 hxn
  have HT := Lib.hid (fun h => C.total hl hM hxn h)
  have HS := Lib.hid (C.self hl hM)
  have HO := Lib.hid (fun (f : U → Int) hf => C.other hl hM (f := f) hf)
  have hr1 := (hr.alloc (Nat.le_refl _) (.cells #[.string xu, .string xa, .int .i64 xn] 24)).alloc (by simp) (.cells #[.string yu, .string ya, .int .i64 yn] 24)
  have b1 := ((Below.refl w.heap.size w).alloc (Nat.le_refl _) (.cells #[.string xu, .string xa, .int .i64 xn] 24)).alloc (by simp) (.cells #[.string yu, .string ya, .int .i64 yn] 24)
  obtain ⟨M, HM⟩ : ∃ M, Hid (chargeL l xu xa xn = M) := ⟨_, rfl⟩
  have hMl : Hid (M.length ≤ 200) := by show _ ≤ _; rw [← HM.out]; exact hML
  rw [HM.out] at hM
  have HC := Lib.hid hM
  clear hr hl n1 n2 hML hM C
  have hd1 : decide ((1000 : Int) < wrap64 (wrap64 (wrap64 ((xu.size : Int) + xa.size) + yu.size) + ya.size)) = false := decide_eq_false (by omega)
  go_enter Try.func4, Try.ntmps4
  go_upto_region 6 with (first
    | (go_at_call 6; refine (few_any A n c _ l _ hn hr1).mono ?_; rintro e w' ⟨rfl, rfl⟩)
    | (go_at_call 8; refine (charge_any A n c _ l xu xa xn _ hn hc hr1 (by simp; omega)).mono ?_; rintro e w3 ⟨v3, rfl, o3, hb3⟩; rw [hE]; rw [HM.out] at o3; simp only [World.size_alloc] at o3 hb3; obtain ⟨A3, c3, rfl, hc3, _⟩ := o3.slice
       have hz3 := hb3.size
       simp only [World.size_alloc] at hz3
       have b3 := b1.trans (hb3.mono (by omega))
       have rm := o3.reads
       have rl := (hr1.below (hb3.mono (by omega))).more (B' := w3.heap.size) (by omega)
       have x0 : w3.cell? ⟨w.heap.size, 0, none⟩ = some (.string xu) := (by rw [hb3.cell (by simp; omega)]; simp [go_sem])
       have x1 : w3.cell? ⟨w.heap.size, 1, none⟩ = some (.string xa) := (by rw [hb3.cell (by simp; omega)]; simp [go_sem])
       have x2 : w3.cell? ⟨w.heap.size, 2, none⟩ = some (.int .i64 xn) := (by rw [hb3.cell (by simp; omega)]; simp [go_sem])
       have y0 : w3.cell? ⟨w.heap.size + 1, 0, none⟩ = some (.string yu) := (by rw [hb3.cell (by simp)]; simp [go_sem])
       have y1 : w3.cell? ⟨w.heap.size + 1, 1, none⟩ = some (.string ya) := (by rw [hb3.cell (by simp)]; simp [go_sem])
       have hw0 : w.heap.size < w3.heap.size := (by omega)
       have hw1 : w.heap.size + 1 < w3.heap.size := (by omega)
       clear hr1 hb3 o3 b1))
  have hmm : M.length ≤ maxLen := by have := hMl.out; unfold maxLen; omega
  have hlM : chkE M = 0 := by unfold chkE; rw [if_pos HC.out]
  go_cut [73] (fun s wx => s = .bool false ∧ Below w3.heap.size w3 wx)
  case first =>
    obtain ⟨tm, htm⟩ : ∃ t, Hid (togV M (fun u => u.used) = t) := ⟨_, rfl⟩
    obtain ⟨tl, htl⟩ : ∃ t, Hid (togV l (fun u => u.used) = t) := ⟨_, rfl⟩
    have hcase : ((tm != addV 1000000000000 [tl, xn]) = false) ∨ ((tm != addV 1000000000000 [tl, xn]) = true ∧ decide (tl < 1000000000000) = false) ∨ ((tm != addV 1000000000000 [tl, xn]) = true ∧ decide (tl < 1000000000000) = true ∧ decide (tm < 1000000000000) = false) := by
      by_cases h1 : tm = addV 1000000000000 [tl, xn]
      · left; simp [h1]
      · right
        by_cases h2 : tl < 1000000000000
        · right
          refine ⟨by simp [h1], by simp [h2], decide_eq_false (fun h3 => h1 ?_)⟩
          have h4 := HT.out
          rw [HM.out, htm.out, htl.out] at h4
          exact h4 h3
        · left; exact ⟨by simp [h1], decide_eq_false h2⟩
    obtain ⟨pl, hpl⟩ : ∃ t, Hid (addV 1000000000000 [tl, xn] = t) := ⟨_, rfl⟩
    rw [hpl.out] at hcase
    rcases hcase with h1 | ⟨h1, h2⟩ | ⟨h1, h2, h3⟩
    · skip
      refine wp_region_held_drew (S := (fun w' => (∀ b o, b < w3.heap.size → w'.cell? ⟨b, o, none⟩ = w3.cell? ⟨b, o, none⟩) ∧ Below w3.heap.size w3 w')) (by kernel_rfl) ?_ (fun hHeld => ?_)
      · (try dsimp only); (first | assumption | exact sk_call (by assumption) hbo | exact sk_mk (below_drew (Below.refl _ _)) | (refine sk_mk (Below.alloc (And.right (by assumption)) (sk_size (by assumption)) _)))
      refine wpAnyH_take (i := 0) (oi := ⟨_, _, _, _, _, _⟩) (v := ?v_1) rfl (by kernel_rfl) (by kernel_rfl) (by kernel_rfl) (fun _ _ _ h => h) (Or.inl ⟨by rfl, ?hy_1⟩) (by assumption) ?r_1
      case hy_1 => (intro w_ hS_; (try dsimp only at hS_); go_simp; try with_reducible rfl)
      try simp only [Act.put, List.setIfInBounds_toArray, List.set_cons_zero, List.set_cons_succ]
      refine wpAnyH_ready (rs := [1]) (by kernel_rfl) (by simp) ?_
      refine AllReadyH.cons (o := ⟨_, _, _, _, _, _⟩) rfl (fun K hK => ?_) AllReadyH.nil
      go_simp
      (first | (go_at_call 13; refine (check_any A3 M.length c3 _ M _ hmm (sk_reads (by assumption) rm) (sk_size (by assumption))).mono ?_; rintro e w' ⟨rfl, hbo⟩; rw [hlM]) | (go_at_call_of 15 (Value.slice A3 M.length c3); refine (total_any A3 M.length c3 _ M _ hmm (sk_reads (by assumption) rm) (sk_size (by assumption))).mono ?_; rintro e w' ⟨rfl, hbo⟩; rw [htm.out]) | (go_at_call_of 15 (Value.slice A n c); refine (total_any A n c _ l _ hn (sk_reads (by assumption) rl) (sk_size (by assumption))).mono ?_; rintro e w' ⟨rfl, hbo⟩; rw [htl.out]) | (go_at_call 16; refine (plus2 tl xn _ _ ?_ ?_).mono ?_; (focus simp [go_sem]); (focus simp [go_sem]); rintro e w' ⟨rfl, rfl⟩; rw [hpl.out]))
      try go_wp2_with (fail)
      refine hK.out _ _ ?_ (fun hHeld => ?_)
      · (try dsimp only); (first | assumption | exact sk_call (by assumption) hbo | exact sk_mk (below_drew (Below.refl _ _)) | (refine sk_mk (Below.alloc (And.right (by assumption)) (sk_size (by assumption)) _)))
      clear hK K
      try simp only [Act.put, List.setIfInBounds_toArray, List.set_cons_zero, List.set_cons_succ]
      refine wpAnyH_take (i := 2) (oi := ⟨_, _, _, _, _, _⟩) (v := ?v_2) rfl (by kernel_rfl) (by kernel_rfl) (by kernel_rfl) (fun _ _ _ h => h) (Or.inl ⟨by rfl, ?hy_2⟩) (by assumption) ?r_2
      case hy_2 => (intro w_ hS_; (try dsimp only at hS_); go_simp; try with_reducible rfl)
      try simp only [Act.put, List.setIfInBounds_toArray, List.set_cons_zero, List.set_cons_succ]
      refine wpAnyH_take (i := 3) (oi := ⟨_, _, _, _, _, _⟩) (v := ?v_3) rfl (by kernel_rfl) (by kernel_rfl) (by kernel_rfl) (fun _ _ _ h => h) (Or.inl ⟨by rfl, ?hy_3⟩) (by assumption) ?r_3
      case hy_3 => (intro w_ hS_; (try dsimp only at hS_); go_simp; try with_reducible rfl)
      try simp only [Act.put, List.setIfInBounds_toArray, List.set_cons_zero, List.set_cons_succ]
      refine wpAnyH_take (i := 4) (oi := ⟨_, _, _, _, _, _⟩) (v := ?v_4) rfl (by kernel_rfl) (by kernel_rfl) (by kernel_rfl) (fun _ _ _ h => h) (Or.inl ⟨by rfl, ?hy_4⟩) (by assumption) ?r_4
      case hy_4 => (intro w_ hS_; (try dsimp only at hS_); go_simp; try with_reducible rfl)
      try simp only [Act.put, List.setIfInBounds_toArray, List.set_cons_zero, List.set_cons_succ]
      refine wpAnyH_take (i := 6) (oi := ⟨_, _, _, _, _, _⟩) (v := ?v_5) rfl (by kernel_rfl) (by kernel_rfl) (by kernel_rfl) (fun _ _ _ h => h) (Or.inl ⟨by rfl, ?hy_5⟩) (by assumption) ?r_5
      case hy_5 => (intro w_ hS_; (try dsimp only at hS_); go_simp; try with_reducible rfl)
      try simp only [Act.put, List.setIfInBounds_toArray, List.set_cons_zero, List.set_cons_succ]
      refine wpAnyH_take (i := 8) (oi := ⟨_, _, _, _, _, _⟩) (v := ?v_6) rfl (by kernel_rfl) (by kernel_rfl) (by kernel_rfl) (fun _ _ _ h => h) (Or.inl ⟨by rfl, ?hy_6⟩) (by assumption) ?r_6
      case hy_6 => (intro w_ hS_; (try dsimp only at hS_); go_simp; try with_reducible rfl)
      try simp only [Act.put, List.setIfInBounds_toArray, List.set_cons_zero, List.set_cons_succ]
      refine wpAnyH_take (i := 9) (oi := ⟨_, _, _, _, _, _⟩) (v := ?v_7) rfl (by kernel_rfl) (by kernel_rfl) (by kernel_rfl) (fun _ _ _ h => h) (Or.inl ⟨by rfl, ?hy_7⟩) (by assumption) ?r_7
      case hy_7 => (intro w_ hS_; (try dsimp only at hS_); go_simp; try with_reducible rfl)
      try simp only [Act.put, List.setIfInBounds_toArray, List.set_cons_zero, List.set_cons_succ]
      refine wpAnyH_ready (rs := [5]) (by kernel_rfl) (by simp) ?_
      refine AllReadyH.cons (o := ⟨_, _, _, _, _, _⟩) rfl (fun K hK => ?_) AllReadyH.nil
      go_simp
      (first | (go_at_call 13; refine (check_any A3 M.length c3 _ M _ hmm (sk_reads (by assumption) rm) (sk_size (by assumption))).mono ?_; rintro e w' ⟨rfl, hbo⟩; rw [hlM]) | (go_at_call_of 15 (Value.slice A3 M.length c3); refine (total_any A3 M.length c3 _ M _ hmm (sk_reads (by assumption) rm) (sk_size (by assumption))).mono ?_; rintro e w' ⟨rfl, hbo⟩; rw [htm.out]) | (go_at_call_of 15 (Value.slice A n c); refine (total_any A n c _ l _ hn (sk_reads (by assumption) rl) (sk_size (by assumption))).mono ?_; rintro e w' ⟨rfl, hbo⟩; rw [htl.out]) | (go_at_call 16; refine (plus2 tl xn _ _ ?_ ?_).mono ?_; (focus simp [go_sem]); (focus simp [go_sem]); rintro e w' ⟨rfl, rfl⟩; rw [hpl.out]))
      try go_wp2_with (fail)
      refine hK.out _ _ ?_ (fun hHeld => ?_)
      · (try dsimp only); (first | assumption | exact sk_call (by assumption) hbo | exact sk_mk (below_drew (Below.refl _ _)) | (refine sk_mk (Below.alloc (And.right (by assumption)) (sk_size (by assumption)) _)))
      clear hK K
      try simp only [Act.put, List.setIfInBounds_toArray, List.set_cons_zero, List.set_cons_succ]
      refine wpAnyH_ready (rs := [7]) (by kernel_rfl) (by simp) ?_
      refine AllReadyH.cons (o := ⟨_, _, _, _, _, _⟩) rfl (fun K hK => ?_) AllReadyH.nil
      go_simp
      (first | (go_at_call 13; refine (check_any A3 M.length c3 _ M _ hmm (sk_reads (by assumption) rm) (sk_size (by assumption))).mono ?_; rintro e w' ⟨rfl, hbo⟩; rw [hlM]) | (go_at_call_of 15 (Value.slice A3 M.length c3); refine (total_any A3 M.length c3 _ M _ hmm (sk_reads (by assumption) rm) (sk_size (by assumption))).mono ?_; rintro e w' ⟨rfl, hbo⟩; rw [htm.out]) | (go_at_call_of 15 (Value.slice A n c); refine (total_any A n c _ l _ hn (sk_reads (by assumption) rl) (sk_size (by assumption))).mono ?_; rintro e w' ⟨rfl, hbo⟩; rw [htl.out]) | (go_at_call 16; refine (plus2 tl xn _ _ ?_ ?_).mono ?_; (focus simp [go_sem]); (focus simp [go_sem]); rintro e w' ⟨rfl, rfl⟩; rw [hpl.out]))
      try go_wp2_with (fail)
      refine hK.out _ _ ?_ (fun hHeld => ?_)
      · (try dsimp only); (first | assumption | exact sk_call (by assumption) hbo | exact sk_mk (below_drew (Below.refl _ _)) | (refine sk_mk (Below.alloc (And.right (by assumption)) (sk_size (by assumption)) _)))
      clear hK K
      try simp only [Act.put, List.setIfInBounds_toArray, List.set_cons_zero, List.set_cons_succ]
      refine wpAnyH_ready (rs := [10]) (by kernel_rfl) (by simp) ?_
      refine AllReadyH.cons (o := ⟨_, _, _, _, _, _⟩) rfl (fun K hK => ?_) AllReadyH.nil
      go_simp
      refine hK.out _ _ ?_ (fun hHeld => ?_)
      · (try dsimp only); (first | assumption | exact sk_call (by assumption) hbo | exact sk_mk (below_drew (Below.refl _ _)) | (refine sk_mk (Below.alloc (And.right (by assumption)) (sk_size (by assumption)) _)))
      clear hK K
      try simp only [Act.put, List.setIfInBounds_toArray, List.set_cons_zero, List.set_cons_succ]
      refine wpAnyH_ready (rs := [11]) (by kernel_rfl) (by simp) ?_
      refine AllReadyH.cons (o := ⟨_, _, _, _, _, _⟩) rfl (fun K hK => ?_) AllReadyH.nil
      go_simp
      (first | (go_at_call 13; refine (check_any A3 M.length c3 _ M _ hmm (sk_reads (by assumption) rm) (sk_size (by assumption))).mono ?_; rintro e w' ⟨rfl, hbo⟩; rw [hlM]) | (go_at_call_of 15 (Value.slice A3 M.length c3); refine (total_any A3 M.length c3 _ M _ hmm (sk_reads (by assumption) rm) (sk_size (by assumption))).mono ?_; rintro e w' ⟨rfl, hbo⟩; rw [htm.out]) | (go_at_call_of 15 (Value.slice A n c); refine (total_any A n c _ l _ hn (sk_reads (by assumption) rl) (sk_size (by assumption))).mono ?_; rintro e w' ⟨rfl, hbo⟩; rw [htl.out]) | (go_at_call 16; refine (plus2 tl xn _ _ ?_ ?_).mono ?_; (focus simp [go_sem]); (focus simp [go_sem]); rintro e w' ⟨rfl, rfl⟩; rw [hpl.out]))
      try go_wp2_with (fail)
      refine hK.out _ _ ?_ (fun hHeld => ?_)
      · (try dsimp only); (first | assumption | exact sk_call (by assumption) hbo | exact sk_mk (below_drew (Below.refl _ _)) | (refine sk_mk (Below.alloc (And.right (by assumption)) (sk_size (by assumption)) _)))
      clear hK K
      try simp only [Act.put, List.setIfInBounds_toArray, List.set_cons_zero, List.set_cons_succ]
      refine wpAnyH_take (i := 12) (oi := ⟨_, _, _, _, _, _⟩) (v := ?v_8) rfl (by kernel_rfl) (by kernel_rfl) (by kernel_rfl) (fun _ _ _ h => h) (Or.inl ⟨by rfl, ?hy_8⟩) (by assumption) ?r_8
      case hy_8 => (intro w_ hS_; (try dsimp only at hS_); go_simp; try with_reducible rfl)
      try simp only [Act.put, List.setIfInBounds_toArray, List.set_cons_zero, List.set_cons_succ]
      refine wpAnyH_take (i := 13) (oi := ⟨_, _, _, _, _, _⟩) (v := ?v_9) rfl (by kernel_rfl) (by kernel_rfl) (by kernel_rfl) (fun _ _ _ h => h) (Or.inl ⟨by rfl, ?hy_9⟩) (by assumption) ?r_9
      case hy_9 => (intro w_ hS_; (try dsimp only at hS_); go_simp; try with_reducible rfl)
      try simp only [Act.put, List.setIfInBounds_toArray, List.set_cons_zero, List.set_cons_succ]
      refine wpAnyH_take (i := 14) (oi := ⟨_, _, _, _, _, _⟩) (v := undef) rfl (by kernel_rfl) (by kernel_rfl) (by kernel_rfl) (fun _ _ _ h => h) (Or.inr ⟨by rfl, rfl⟩) (by assumption) ?_
      try simp only [Act.put, List.setIfInBounds_toArray, List.set_cons_zero, List.set_cons_succ]
      refine wpAnyH_take (i := 15) (oi := ⟨_, _, _, _, _, _⟩) (v := undef) rfl (by kernel_rfl) (by kernel_rfl) (by kernel_rfl) (fun _ _ _ h => h) (Or.inr ⟨by rfl, rfl⟩) (by assumption) ?_
      try simp only [Act.put, List.setIfInBounds_toArray, List.set_cons_zero, List.set_cons_succ]
      refine wpAnyH_take (i := 16) (oi := ⟨_, _, _, _, _, _⟩) (v := undef) rfl (by kernel_rfl) (by kernel_rfl) (by kernel_rfl) (fun _ _ _ h => h) (Or.inr ⟨by rfl, rfl⟩) (by assumption) ?_
      try simp only [Act.put, List.setIfInBounds_toArray, List.set_cons_zero, List.set_cons_succ]
      refine wpAnyH_take (i := 17) (oi := ⟨_, _, _, _, _, _⟩) (v := ?v_13) rfl (by kernel_rfl) (by kernel_rfl) (by kernel_rfl) (fun _ _ _ h => h) (Or.inl ⟨by rfl, ?hy_13⟩) (by assumption) ?r_13
      case hy_13 => (intro w_ hS_; (try dsimp only at hS_); go_simp; try with_reducible rfl)
      try simp only [Act.put, List.setIfInBounds_toArray, List.set_cons_zero, List.set_cons_succ]
      refine wpAnyH_take (i := 18) (oi := ⟨_, _, _, _, _, _⟩) (v := ?v_14) rfl (by kernel_rfl) (by kernel_rfl) (by kernel_rfl) (fun _ _ _ h => h) (Or.inl ⟨by rfl, ?hy_14⟩) (by assumption) ?r_14
      case hy_14 => (intro w_ hS_; (try dsimp only at hS_); go_simp; try with_reducible rfl)
      try simp only [Act.put, List.setIfInBounds_toArray, List.set_cons_zero, List.set_cons_succ]
      refine wpAnyH_take (i := 19) (oi := ⟨_, _, _, _, _, _⟩) (v := undef) rfl (by kernel_rfl) (by kernel_rfl) (by kernel_rfl) (fun _ _ _ h => h) (Or.inr ⟨by rfl, rfl⟩) (by assumption) ?_
      try simp only [Act.put, List.setIfInBounds_toArray, List.set_cons_zero, List.set_cons_succ]
      refine wpAnyH_take (i := 20) (oi := ⟨_, _, _, _, _, _⟩) (v := undef) rfl (by kernel_rfl) (by kernel_rfl) (by kernel_rfl) (fun _ _ _ h => h) (Or.inr ⟨by rfl, rfl⟩) (by assumption) ?_
      try simp only [Act.put, List.setIfInBounds_toArray, List.set_cons_zero, List.set_cons_succ]
      refine wpAnyH_take (i := 21) (oi := ⟨_, _, _, _, _, _⟩) (v := undef) rfl (by kernel_rfl) (by kernel_rfl) (by kernel_rfl) (fun _ _ _ h => h) (Or.inr ⟨by rfl, rfl⟩) (by assumption) ?_
      try simp only [Act.put, List.setIfInBounds_toArray, List.set_cons_zero, List.set_cons_succ]
      refine wpAnyH_take (i := 22) (oi := ⟨_, _, _, _, _, _⟩) (v := ?v_18) rfl (by kernel_rfl) (by kernel_rfl) (by kernel_rfl) (fun _ _ _ h => h) (Or.inl ⟨by rfl, ?hy_18⟩) (by assumption) ?r_18
      case hy_18 => (intro w_ hS_; (try dsimp only at hS_); go_simp; try with_reducible rfl)
      try simp only [Act.put, List.setIfInBounds_toArray, List.set_cons_zero, List.set_cons_succ]
      refine wpAnyH_take (i := 23) (oi := ⟨_, _, _, _, _, _⟩) (v := ?v_19) rfl (by kernel_rfl) (by kernel_rfl) (by kernel_rfl) (fun _ _ _ h => h) (Or.inl ⟨by rfl, ?hy_19⟩) (by assumption) ?r_19
      case hy_19 => (intro w_ hS_; (try dsimp only at hS_); go_simp; try with_reducible rfl)
      try simp only [Act.put, List.setIfInBounds_toArray, List.set_cons_zero, List.set_cons_succ]
      refine wpAnyH_done (by kernel_rfl) ?_ _
      go_wp2_with (fail)
      go_meet
      exact ⟨rfl, And.right (by assumption)⟩
    · skip
      refine wp_region_held_drew (S := (fun w' => (∀ b o, b < w3.heap.size → w'.cell? ⟨b, o, none⟩ = w3.cell? ⟨b, o, none⟩) ∧ Below w3.heap.size w3 w')) (by kernel_rfl) ?_ (fun hHeld => ?_)
      · (try dsimp only); (first | assumption | exact sk_call (by assumption) hbo | exact sk_mk (below_drew (Below.refl _ _)) | (refine sk_mk (Below.alloc (And.right (by assumption)) (sk_size (by assumption)) _)))
      refine wpAnyH_take (i := 0) (oi := ⟨_, _, _, _, _, _⟩) (v := ?v_20) rfl (by kernel_rfl) (by kernel_rfl) (by kernel_rfl) (fun _ _ _ h => h) (Or.inl ⟨by rfl, ?hy_20⟩) (by assumption) ?r_20
      case hy_20 => (intro w_ hS_; (try dsimp only at hS_); go_simp; try with_reducible rfl)
      try simp only [Act.put, List.setIfInBounds_toArray, List.set_cons_zero, List.set_cons_succ]
      refine wpAnyH_ready (rs := [1]) (by kernel_rfl) (by simp) ?_
      refine AllReadyH.cons (o := ⟨_, _, _, _, _, _⟩) rfl (fun K hK => ?_) AllReadyH.nil
      go_simp
      (first | (go_at_call 13; refine (check_any A3 M.length c3 _ M _ hmm (sk_reads (by assumption) rm) (sk_size (by assumption))).mono ?_; rintro e w' ⟨rfl, hbo⟩; rw [hlM]) | (go_at_call_of 15 (Value.slice A3 M.length c3); refine (total_any A3 M.length c3 _ M _ hmm (sk_reads (by assumption) rm) (sk_size (by assumption))).mono ?_; rintro e w' ⟨rfl, hbo⟩; rw [htm.out]) | (go_at_call_of 15 (Value.slice A n c); refine (total_any A n c _ l _ hn (sk_reads (by assumption) rl) (sk_size (by assumption))).mono ?_; rintro e w' ⟨rfl, hbo⟩; rw [htl.out]) | (go_at_call 16; refine (plus2 tl xn _ _ ?_ ?_).mono ?_; (focus simp [go_sem]); (focus simp [go_sem]); rintro e w' ⟨rfl, rfl⟩; rw [hpl.out]))
      try go_wp2_with (fail)
      refine hK.out _ _ ?_ (fun hHeld => ?_)
      · (try dsimp only); (first | assumption | exact sk_call (by assumption) hbo | exact sk_mk (below_drew (Below.refl _ _)) | (refine sk_mk (Below.alloc (And.right (by assumption)) (sk_size (by assumption)) _)))
      clear hK K
      try simp only [Act.put, List.setIfInBounds_toArray, List.set_cons_zero, List.set_cons_succ]
      refine wpAnyH_take (i := 2) (oi := ⟨_, _, _, _, _, _⟩) (v := ?v_21) rfl (by kernel_rfl) (by kernel_rfl) (by kernel_rfl) (fun _ _ _ h => h) (Or.inl ⟨by rfl, ?hy_21⟩) (by assumption) ?r_21
      case hy_21 => (intro w_ hS_; (try dsimp only at hS_); go_simp; try with_reducible rfl)
      try simp only [Act.put, List.setIfInBounds_toArray, List.set_cons_zero, List.set_cons_succ]
      refine wpAnyH_take (i := 3) (oi := ⟨_, _, _, _, _, _⟩) (v := ?v_22) rfl (by kernel_rfl) (by kernel_rfl) (by kernel_rfl) (fun _ _ _ h => h) (Or.inl ⟨by rfl, ?hy_22⟩) (by assumption) ?r_22
      case hy_22 => (intro w_ hS_; (try dsimp only at hS_); go_simp; try with_reducible rfl)
      try simp only [Act.put, List.setIfInBounds_toArray, List.set_cons_zero, List.set_cons_succ]
      refine wpAnyH_take (i := 4) (oi := ⟨_, _, _, _, _, _⟩) (v := ?v_23) rfl (by kernel_rfl) (by kernel_rfl) (by kernel_rfl) (fun _ _ _ h => h) (Or.inl ⟨by rfl, ?hy_23⟩) (by assumption) ?r_23
      case hy_23 => (intro w_ hS_; (try dsimp only at hS_); go_simp; try with_reducible rfl)
      try simp only [Act.put, List.setIfInBounds_toArray, List.set_cons_zero, List.set_cons_succ]
      refine wpAnyH_take (i := 6) (oi := ⟨_, _, _, _, _, _⟩) (v := ?v_24) rfl (by kernel_rfl) (by kernel_rfl) (by kernel_rfl) (fun _ _ _ h => h) (Or.inl ⟨by rfl, ?hy_24⟩) (by assumption) ?r_24
      case hy_24 => (intro w_ hS_; (try dsimp only at hS_); go_simp; try with_reducible rfl)
      try simp only [Act.put, List.setIfInBounds_toArray, List.set_cons_zero, List.set_cons_succ]
      refine wpAnyH_take (i := 8) (oi := ⟨_, _, _, _, _, _⟩) (v := ?v_25) rfl (by kernel_rfl) (by kernel_rfl) (by kernel_rfl) (fun _ _ _ h => h) (Or.inl ⟨by rfl, ?hy_25⟩) (by assumption) ?r_25
      case hy_25 => (intro w_ hS_; (try dsimp only at hS_); go_simp; try with_reducible rfl)
      try simp only [Act.put, List.setIfInBounds_toArray, List.set_cons_zero, List.set_cons_succ]
      refine wpAnyH_take (i := 9) (oi := ⟨_, _, _, _, _, _⟩) (v := ?v_26) rfl (by kernel_rfl) (by kernel_rfl) (by kernel_rfl) (fun _ _ _ h => h) (Or.inl ⟨by rfl, ?hy_26⟩) (by assumption) ?r_26
      case hy_26 => (intro w_ hS_; (try dsimp only at hS_); go_simp; try with_reducible rfl)
      try simp only [Act.put, List.setIfInBounds_toArray, List.set_cons_zero, List.set_cons_succ]
      refine wpAnyH_ready (rs := [5]) (by kernel_rfl) (by simp) ?_
      refine AllReadyH.cons (o := ⟨_, _, _, _, _, _⟩) rfl (fun K hK => ?_) AllReadyH.nil
      go_simp
      (first | (go_at_call 13; refine (check_any A3 M.length c3 _ M _ hmm (sk_reads (by assumption) rm) (sk_size (by assumption))).mono ?_; rintro e w' ⟨rfl, hbo⟩; rw [hlM]) | (go_at_call_of 15 (Value.slice A3 M.length c3); refine (total_any A3 M.length c3 _ M _ hmm (sk_reads (by assumption) rm) (sk_size (by assumption))).mono ?_; rintro e w' ⟨rfl, hbo⟩; rw [htm.out]) | (go_at_call_of 15 (Value.slice A n c); refine (total_any A n c _ l _ hn (sk_reads (by assumption) rl) (sk_size (by assumption))).mono ?_; rintro e w' ⟨rfl, hbo⟩; rw [htl.out]) | (go_at_call 16; refine (plus2 tl xn _ _ ?_ ?_).mono ?_; (focus simp [go_sem]); (focus simp [go_sem]); rintro e w' ⟨rfl, rfl⟩; rw [hpl.out]))
      try go_wp2_with (fail)
      refine hK.out _ _ ?_ (fun hHeld => ?_)
      · (try dsimp only); (first | assumption | exact sk_call (by assumption) hbo | exact sk_mk (below_drew (Below.refl _ _)) | (refine sk_mk (Below.alloc (And.right (by assumption)) (sk_size (by assumption)) _)))
      clear hK K
      try simp only [Act.put, List.setIfInBounds_toArray, List.set_cons_zero, List.set_cons_succ]
      refine wpAnyH_ready (rs := [7]) (by kernel_rfl) (by simp) ?_
      refine AllReadyH.cons (o := ⟨_, _, _, _, _, _⟩) rfl (fun K hK => ?_) AllReadyH.nil
      go_simp
      (first | (go_at_call 13; refine (check_any A3 M.length c3 _ M _ hmm (sk_reads (by assumption) rm) (sk_size (by assumption))).mono ?_; rintro e w' ⟨rfl, hbo⟩; rw [hlM]) | (go_at_call_of 15 (Value.slice A3 M.length c3); refine (total_any A3 M.length c3 _ M _ hmm (sk_reads (by assumption) rm) (sk_size (by assumption))).mono ?_; rintro e w' ⟨rfl, hbo⟩; rw [htm.out]) | (go_at_call_of 15 (Value.slice A n c); refine (total_any A n c _ l _ hn (sk_reads (by assumption) rl) (sk_size (by assumption))).mono ?_; rintro e w' ⟨rfl, hbo⟩; rw [htl.out]) | (go_at_call 16; refine (plus2 tl xn _ _ ?_ ?_).mono ?_; (focus simp [go_sem]); (focus simp [go_sem]); rintro e w' ⟨rfl, rfl⟩; rw [hpl.out]))
      try go_wp2_with (fail)
      refine hK.out _ _ ?_ (fun hHeld => ?_)
      · (try dsimp only); (first | assumption | exact sk_call (by assumption) hbo | exact sk_mk (below_drew (Below.refl _ _)) | (refine sk_mk (Below.alloc (And.right (by assumption)) (sk_size (by assumption)) _)))
      clear hK K
      try simp only [Act.put, List.setIfInBounds_toArray, List.set_cons_zero, List.set_cons_succ]
      refine wpAnyH_ready (rs := [10]) (by kernel_rfl) (by simp) ?_
      refine AllReadyH.cons (o := ⟨_, _, _, _, _, _⟩) rfl (fun K hK => ?_) AllReadyH.nil
      go_simp
      refine hK.out _ _ ?_ (fun hHeld => ?_)
      · (try dsimp only); (first | assumption | exact sk_call (by assumption) hbo | exact sk_mk (below_drew (Below.refl _ _)) | (refine sk_mk (Below.alloc (And.right (by assumption)) (sk_size (by assumption)) _)))
      clear hK K
      try simp only [Act.put, List.setIfInBounds_toArray, List.set_cons_zero, List.set_cons_succ]
      refine wpAnyH_ready (rs := [11]) (by kernel_rfl) (by simp) ?_
      refine AllReadyH.cons (o := ⟨_, _, _, _, _, _⟩) rfl (fun K hK => ?_) AllReadyH.nil
      go_simp
      (first | (go_at_call 13; refine (check_any A3 M.length c3 _ M _ hmm (sk_reads (by assumption) rm) (sk_size (by assumption))).mono ?_; rintro e w' ⟨rfl, hbo⟩; rw [hlM]) | (go_at_call_of 15 (Value.slice A3 M.length c3); refine (total_any A3 M.length c3 _ M _ hmm (sk_reads (by assumption) rm) (sk_size (by assumption))).mono ?_; rintro e w' ⟨rfl, hbo⟩; rw [htm.out]) | (go_at_call_of 15 (Value.slice A n c); refine (total_any A n c _ l _ hn (sk_reads (by assumption) rl) (sk_size (by assumption))).mono ?_; rintro e w' ⟨rfl, hbo⟩; rw [htl.out]) | (go_at_call 16; refine (plus2 tl xn _ _ ?_ ?_).mono ?_; (focus simp [go_sem]); (focus simp [go_sem]); rintro e w' ⟨rfl, rfl⟩; rw [hpl.out]))
      try go_wp2_with (fail)
      refine hK.out _ _ ?_ (fun hHeld => ?_)
      · (try dsimp only); (first | assumption | exact sk_call (by assumption) hbo | exact sk_mk (below_drew (Below.refl _ _)) | (refine sk_mk (Below.alloc (And.right (by assumption)) (sk_size (by assumption)) _)))
      clear hK K
      try simp only [Act.put, List.setIfInBounds_toArray, List.set_cons_zero, List.set_cons_succ]
      refine wpAnyH_take (i := 12) (oi := ⟨_, _, _, _, _, _⟩) (v := ?v_27) rfl (by kernel_rfl) (by kernel_rfl) (by kernel_rfl) (fun _ _ _ h => h) (Or.inl ⟨by rfl, ?hy_27⟩) (by assumption) ?r_27
      case hy_27 => (intro w_ hS_; (try dsimp only at hS_); go_simp; try with_reducible rfl)
      try simp only [Act.put, List.setIfInBounds_toArray, List.set_cons_zero, List.set_cons_succ]
      refine wpAnyH_take (i := 13) (oi := ⟨_, _, _, _, _, _⟩) (v := ?v_28) rfl (by kernel_rfl) (by kernel_rfl) (by kernel_rfl) (fun _ _ _ h => h) (Or.inl ⟨by rfl, ?hy_28⟩) (by assumption) ?r_28
      case hy_28 => (intro w_ hS_; (try dsimp only at hS_); go_simp; try with_reducible rfl)
      try simp only [Act.put, List.setIfInBounds_toArray, List.set_cons_zero, List.set_cons_succ]
      refine wpAnyH_take (i := 14) (oi := ⟨_, _, _, _, _, _⟩) (v := ?v_29) rfl (by kernel_rfl) (by kernel_rfl) (by kernel_rfl) (fun _ _ _ h => h) (Or.inl ⟨by rfl, ?hy_29⟩) (by assumption) ?r_29
      case hy_29 => (intro w_ hS_; (try dsimp only at hS_); go_simp; try with_reducible rfl)
      try simp only [Act.put, List.setIfInBounds_toArray, List.set_cons_zero, List.set_cons_succ]
      refine wpAnyH_ready (rs := [15]) (by kernel_rfl) (by simp) ?_
      refine AllReadyH.cons (o := ⟨_, _, _, _, _, _⟩) rfl (fun K hK => ?_) AllReadyH.nil
      go_simp
      (first | (go_at_call 13; refine (check_any A3 M.length c3 _ M _ hmm (sk_reads (by assumption) rm) (sk_size (by assumption))).mono ?_; rintro e w' ⟨rfl, hbo⟩; rw [hlM]) | (go_at_call_of 15 (Value.slice A3 M.length c3); refine (total_any A3 M.length c3 _ M _ hmm (sk_reads (by assumption) rm) (sk_size (by assumption))).mono ?_; rintro e w' ⟨rfl, hbo⟩; rw [htm.out]) | (go_at_call_of 15 (Value.slice A n c); refine (total_any A n c _ l _ hn (sk_reads (by assumption) rl) (sk_size (by assumption))).mono ?_; rintro e w' ⟨rfl, hbo⟩; rw [htl.out]) | (go_at_call 16; refine (plus2 tl xn _ _ ?_ ?_).mono ?_; (focus simp [go_sem]); (focus simp [go_sem]); rintro e w' ⟨rfl, rfl⟩; rw [hpl.out]))
      try go_wp2_with (fail)
      refine hK.out _ _ ?_ (fun hHeld => ?_)
      · (try dsimp only); (first | assumption | exact sk_call (by assumption) hbo | exact sk_mk (below_drew (Below.refl _ _)) | (refine sk_mk (Below.alloc (And.right (by assumption)) (sk_size (by assumption)) _)))
      clear hK K
      try simp only [Act.put, List.setIfInBounds_toArray, List.set_cons_zero, List.set_cons_succ]
      refine wpAnyH_take (i := 16) (oi := ⟨_, _, _, _, _, _⟩) (v := ?v_30) rfl (by kernel_rfl) (by kernel_rfl) (by kernel_rfl) (fun _ _ _ h => h) (Or.inl ⟨by rfl, ?hy_30⟩) (by assumption) ?r_30
      case hy_30 => (intro w_ hS_; (try dsimp only at hS_); go_simp; try with_reducible rfl)
      try simp only [Act.put, List.setIfInBounds_toArray, List.set_cons_zero, List.set_cons_succ]
      refine wpAnyH_take (i := 17) (oi := ⟨_, _, _, _, _, _⟩) (v := ?v_31) rfl (by kernel_rfl) (by kernel_rfl) (by kernel_rfl) (fun _ _ _ h => h) (Or.inl ⟨by rfl, ?hy_31⟩) (by assumption) ?r_31
      case hy_31 => (intro w_ hS_; (try dsimp only at hS_); go_simp; try with_reducible rfl)
      try simp only [Act.put, List.setIfInBounds_toArray, List.set_cons_zero, List.set_cons_succ]
      refine wpAnyH_take (i := 18) (oi := ⟨_, _, _, _, _, _⟩) (v := ?v_32) rfl (by kernel_rfl) (by kernel_rfl) (by kernel_rfl) (fun _ _ _ h => h) (Or.inl ⟨by rfl, ?hy_32⟩) (by assumption) ?r_32
      case hy_32 => (intro w_ hS_; (try dsimp only at hS_); go_simp; try with_reducible rfl)
      try simp only [Act.put, List.setIfInBounds_toArray, List.set_cons_zero, List.set_cons_succ]
      refine wpAnyH_take (i := 19) (oi := ⟨_, _, _, _, _, _⟩) (v := undef) rfl (by kernel_rfl) (by kernel_rfl) (by kernel_rfl) (fun _ _ _ h => h) (Or.inr ⟨by rfl, rfl⟩) (by assumption) ?_
      try simp only [Act.put, List.setIfInBounds_toArray, List.set_cons_zero, List.set_cons_succ]
      refine wpAnyH_take (i := 20) (oi := ⟨_, _, _, _, _, _⟩) (v := undef) rfl (by kernel_rfl) (by kernel_rfl) (by kernel_rfl) (fun _ _ _ h => h) (Or.inr ⟨by rfl, rfl⟩) (by assumption) ?_
      try simp only [Act.put, List.setIfInBounds_toArray, List.set_cons_zero, List.set_cons_succ]
      refine wpAnyH_take (i := 21) (oi := ⟨_, _, _, _, _, _⟩) (v := undef) rfl (by kernel_rfl) (by kernel_rfl) (by kernel_rfl) (fun _ _ _ h => h) (Or.inr ⟨by rfl, rfl⟩) (by assumption) ?_
      try simp only [Act.put, List.setIfInBounds_toArray, List.set_cons_zero, List.set_cons_succ]
      refine wpAnyH_take (i := 22) (oi := ⟨_, _, _, _, _, _⟩) (v := ?v_36) rfl (by kernel_rfl) (by kernel_rfl) (by kernel_rfl) (fun _ _ _ h => h) (Or.inl ⟨by rfl, ?hy_36⟩) (by assumption) ?r_36
      case hy_36 => (intro w_ hS_; (try dsimp only at hS_); go_simp; try with_reducible rfl)
      try simp only [Act.put, List.setIfInBounds_toArray, List.set_cons_zero, List.set_cons_succ]
      refine wpAnyH_take (i := 23) (oi := ⟨_, _, _, _, _, _⟩) (v := ?v_37) rfl (by kernel_rfl) (by kernel_rfl) (by kernel_rfl) (fun _ _ _ h => h) (Or.inl ⟨by rfl, ?hy_37⟩) (by assumption) ?r_37
      case hy_37 => (intro w_ hS_; (try dsimp only at hS_); go_simp; try with_reducible rfl)
      try simp only [Act.put, List.setIfInBounds_toArray, List.set_cons_zero, List.set_cons_succ]
      refine wpAnyH_done (by kernel_rfl) ?_ _
      go_wp2_with (fail)
      go_meet
      exact ⟨rfl, And.right (by assumption)⟩
    · skip
      refine wp_region_held_drew (S := (fun w' => (∀ b o, b < w3.heap.size → w'.cell? ⟨b, o, none⟩ = w3.cell? ⟨b, o, none⟩) ∧ Below w3.heap.size w3 w')) (by kernel_rfl) ?_ (fun hHeld => ?_)
      · (try dsimp only); (first | assumption | exact sk_call (by assumption) hbo | exact sk_mk (below_drew (Below.refl _ _)) | (refine sk_mk (Below.alloc (And.right (by assumption)) (sk_size (by assumption)) _)))
      refine wpAnyH_take (i := 0) (oi := ⟨_, _, _, _, _, _⟩) (v := ?v_38) rfl (by kernel_rfl) (by kernel_rfl) (by kernel_rfl) (fun _ _ _ h => h) (Or.inl ⟨by rfl, ?hy_38⟩) (by assumption) ?r_38
      case hy_38 => (intro w_ hS_; (try dsimp only at hS_); go_simp; try with_reducible rfl)
      try simp only [Act.put, List.setIfInBounds_toArray, List.set_cons_zero, List.set_cons_succ]
      refine wpAnyH_ready (rs := [1]) (by kernel_rfl) (by simp) ?_
      refine AllReadyH.cons (o := ⟨_, _, _, _, _, _⟩) rfl (fun K hK => ?_) AllReadyH.nil
      go_simp
      (first | (go_at_call 13; refine (check_any A3 M.length c3 _ M _ hmm (sk_reads (by assumption) rm) (sk_size (by assumption))).mono ?_; rintro e w' ⟨rfl, hbo⟩; rw [hlM]) | (go_at_call_of 15 (Value.slice A3 M.length c3); refine (total_any A3 M.length c3 _ M _ hmm (sk_reads (by assumption) rm) (sk_size (by assumption))).mono ?_; rintro e w' ⟨rfl, hbo⟩; rw [htm.out]) | (go_at_call_of 15 (Value.slice A n c); refine (total_any A n c _ l _ hn (sk_reads (by assumption) rl) (sk_size (by assumption))).mono ?_; rintro e w' ⟨rfl, hbo⟩; rw [htl.out]) | (go_at_call 16; refine (plus2 tl xn _ _ ?_ ?_).mono ?_; (focus simp [go_sem]); (focus simp [go_sem]); rintro e w' ⟨rfl, rfl⟩; rw [hpl.out]))
      try go_wp2_with (fail)
      refine hK.out _ _ ?_ (fun hHeld => ?_)
      · (try dsimp only); (first | assumption | exact sk_call (by assumption) hbo | exact sk_mk (below_drew (Below.refl _ _)) | (refine sk_mk (Below.alloc (And.right (by assumption)) (sk_size (by assumption)) _)))
      clear hK K
      try simp only [Act.put, List.setIfInBounds_toArray, List.set_cons_zero, List.set_cons_succ]
      refine wpAnyH_take (i := 2) (oi := ⟨_, _, _, _, _, _⟩) (v := ?v_39) rfl (by kernel_rfl) (by kernel_rfl) (by kernel_rfl) (fun _ _ _ h => h) (Or.inl ⟨by rfl, ?hy_39⟩) (by assumption) ?r_39
      case hy_39 => (intro w_ hS_; (try dsimp only at hS_); go_simp; try with_reducible rfl)
      try simp only [Act.put, List.setIfInBounds_toArray, List.set_cons_zero, List.set_cons_succ]
      refine wpAnyH_take (i := 3) (oi := ⟨_, _, _, _, _, _⟩) (v := ?v_40) rfl (by kernel_rfl) (by kernel_rfl) (by kernel_rfl) (fun _ _ _ h => h) (Or.inl ⟨by rfl, ?hy_40⟩) (by assumption) ?r_40
      case hy_40 => (intro w_ hS_; (try dsimp only at hS_); go_simp; try with_reducible rfl)
      try simp only [Act.put, List.setIfInBounds_toArray, List.set_cons_zero, List.set_cons_succ]
      refine wpAnyH_take (i := 4) (oi := ⟨_, _, _, _, _, _⟩) (v := ?v_41) rfl (by kernel_rfl) (by kernel_rfl) (by kernel_rfl) (fun _ _ _ h => h) (Or.inl ⟨by rfl, ?hy_41⟩) (by assumption) ?r_41
      case hy_41 => (intro w_ hS_; (try dsimp only at hS_); go_simp; try with_reducible rfl)
      try simp only [Act.put, List.setIfInBounds_toArray, List.set_cons_zero, List.set_cons_succ]
      refine wpAnyH_take (i := 6) (oi := ⟨_, _, _, _, _, _⟩) (v := ?v_42) rfl (by kernel_rfl) (by kernel_rfl) (by kernel_rfl) (fun _ _ _ h => h) (Or.inl ⟨by rfl, ?hy_42⟩) (by assumption) ?r_42
      case hy_42 => (intro w_ hS_; (try dsimp only at hS_); go_simp; try with_reducible rfl)
      try simp only [Act.put, List.setIfInBounds_toArray, List.set_cons_zero, List.set_cons_succ]
      refine wpAnyH_take (i := 8) (oi := ⟨_, _, _, _, _, _⟩) (v := ?v_43) rfl (by kernel_rfl) (by kernel_rfl) (by kernel_rfl) (fun _ _ _ h => h) (Or.inl ⟨by rfl, ?hy_43⟩) (by assumption) ?r_43
      case hy_43 => (intro w_ hS_; (try dsimp only at hS_); go_simp; try with_reducible rfl)
      try simp only [Act.put, List.setIfInBounds_toArray, List.set_cons_zero, List.set_cons_succ]
      refine wpAnyH_take (i := 9) (oi := ⟨_, _, _, _, _, _⟩) (v := ?v_44) rfl (by kernel_rfl) (by kernel_rfl) (by kernel_rfl) (fun _ _ _ h => h) (Or.inl ⟨by rfl, ?hy_44⟩) (by assumption) ?r_44
      case hy_44 => (intro w_ hS_; (try dsimp only at hS_); go_simp; try with_reducible rfl)
      try simp only [Act.put, List.setIfInBounds_toArray, List.set_cons_zero, List.set_cons_succ]
      refine wpAnyH_ready (rs := [5]) (by kernel_rfl) (by simp) ?_
      refine AllReadyH.cons (o := ⟨_, _, _, _, _, _⟩) rfl (fun K hK => ?_) AllReadyH.nil
      go_simp
      (first | (go_at_call 13; refine (check_any A3 M.length c3 _ M _ hmm (sk_reads (by assumption) rm) (sk_size (by assumption))).mono ?_; rintro e w' ⟨rfl, hbo⟩; rw [hlM]) | (go_at_call_of 15 (Value.slice A3 M.length c3); refine (total_any A3 M.length c3 _ M _ hmm (sk_reads (by assumption) rm) (sk_size (by assumption))).mono ?_; rintro e w' ⟨rfl, hbo⟩; rw [htm.out]) | (go_at_call_of 15 (Value.slice A n c); refine (total_any A n c _ l _ hn (sk_reads (by assumption) rl) (sk_size (by assumption))).mono ?_; rintro e w' ⟨rfl, hbo⟩; rw [htl.out]) | (go_at_call 16; refine (plus2 tl xn _ _ ?_ ?_).mono ?_; (focus simp [go_sem]); (focus simp [go_sem]); rintro e w' ⟨rfl, rfl⟩; rw [hpl.out]))
      try go_wp2_with (fail)
      refine hK.out _ _ ?_ (fun hHeld => ?_)
      · (try dsimp only); (first | assumption | exact sk_call (by assumption) hbo | exact sk_mk (below_drew (Below.refl _ _)) | (refine sk_mk (Below.alloc (And.right (by assumption)) (sk_size (by assumption)) _)))
      clear hK K
      try simp only [Act.put, List.setIfInBounds_toArray, List.set_cons_zero, List.set_cons_succ]
      refine wpAnyH_ready (rs := [7]) (by kernel_rfl) (by simp) ?_
      refine AllReadyH.cons (o := ⟨_, _, _, _, _, _⟩) rfl (fun K hK => ?_) AllReadyH.nil
      go_simp
      (first | (go_at_call 13; refine (check_any A3 M.length c3 _ M _ hmm (sk_reads (by assumption) rm) (sk_size (by assumption))).mono ?_; rintro e w' ⟨rfl, hbo⟩; rw [hlM]) | (go_at_call_of 15 (Value.slice A3 M.length c3); refine (total_any A3 M.length c3 _ M _ hmm (sk_reads (by assumption) rm) (sk_size (by assumption))).mono ?_; rintro e w' ⟨rfl, hbo⟩; rw [htm.out]) | (go_at_call_of 15 (Value.slice A n c); refine (total_any A n c _ l _ hn (sk_reads (by assumption) rl) (sk_size (by assumption))).mono ?_; rintro e w' ⟨rfl, hbo⟩; rw [htl.out]) | (go_at_call 16; refine (plus2 tl xn _ _ ?_ ?_).mono ?_; (focus simp [go_sem]); (focus simp [go_sem]); rintro e w' ⟨rfl, rfl⟩; rw [hpl.out]))
      try go_wp2_with (fail)
      refine hK.out _ _ ?_ (fun hHeld => ?_)
      · (try dsimp only); (first | assumption | exact sk_call (by assumption) hbo | exact sk_mk (below_drew (Below.refl _ _)) | (refine sk_mk (Below.alloc (And.right (by assumption)) (sk_size (by assumption)) _)))
      clear hK K
      try simp only [Act.put, List.setIfInBounds_toArray, List.set_cons_zero, List.set_cons_succ]
      refine wpAnyH_ready (rs := [10]) (by kernel_rfl) (by simp) ?_
      refine AllReadyH.cons (o := ⟨_, _, _, _, _, _⟩) rfl (fun K hK => ?_) AllReadyH.nil
      go_simp
      refine hK.out _ _ ?_ (fun hHeld => ?_)
      · (try dsimp only); (first | assumption | exact sk_call (by assumption) hbo | exact sk_mk (below_drew (Below.refl _ _)) | (refine sk_mk (Below.alloc (And.right (by assumption)) (sk_size (by assumption)) _)))
      clear hK K
      try simp only [Act.put, List.setIfInBounds_toArray, List.set_cons_zero, List.set_cons_succ]
      refine wpAnyH_ready (rs := [11]) (by kernel_rfl) (by simp) ?_
      refine AllReadyH.cons (o := ⟨_, _, _, _, _, _⟩) rfl (fun K hK => ?_) AllReadyH.nil
      go_simp
      (first | (go_at_call 13; refine (check_any A3 M.length c3 _ M _ hmm (sk_reads (by assumption) rm) (sk_size (by assumption))).mono ?_; rintro e w' ⟨rfl, hbo⟩; rw [hlM]) | (go_at_call_of 15 (Value.slice A3 M.length c3); refine (total_any A3 M.length c3 _ M _ hmm (sk_reads (by assumption) rm) (sk_size (by assumption))).mono ?_; rintro e w' ⟨rfl, hbo⟩; rw [htm.out]) | (go_at_call_of 15 (Value.slice A n c); refine (total_any A n c _ l _ hn (sk_reads (by assumption) rl) (sk_size (by assumption))).mono ?_; rintro e w' ⟨rfl, hbo⟩; rw [htl.out]) | (go_at_call 16; refine (plus2 tl xn _ _ ?_ ?_).mono ?_; (focus simp [go_sem]); (focus simp [go_sem]); rintro e w' ⟨rfl, rfl⟩; rw [hpl.out]))
      try go_wp2_with (fail)
      refine hK.out _ _ ?_ (fun hHeld => ?_)
      · (try dsimp only); (first | assumption | exact sk_call (by assumption) hbo | exact sk_mk (below_drew (Below.refl _ _)) | (refine sk_mk (Below.alloc (And.right (by assumption)) (sk_size (by assumption)) _)))
      clear hK K
      try simp only [Act.put, List.setIfInBounds_toArray, List.set_cons_zero, List.set_cons_succ]
      refine wpAnyH_take (i := 12) (oi := ⟨_, _, _, _, _, _⟩) (v := ?v_45) rfl (by kernel_rfl) (by kernel_rfl) (by kernel_rfl) (fun _ _ _ h => h) (Or.inl ⟨by rfl, ?hy_45⟩) (by assumption) ?r_45
      case hy_45 => (intro w_ hS_; (try dsimp only at hS_); go_simp; try with_reducible rfl)
      try simp only [Act.put, List.setIfInBounds_toArray, List.set_cons_zero, List.set_cons_succ]
      refine wpAnyH_take (i := 13) (oi := ⟨_, _, _, _, _, _⟩) (v := ?v_46) rfl (by kernel_rfl) (by kernel_rfl) (by kernel_rfl) (fun _ _ _ h => h) (Or.inl ⟨by rfl, ?hy_46⟩) (by assumption) ?r_46
      case hy_46 => (intro w_ hS_; (try dsimp only at hS_); go_simp; try with_reducible rfl)
      try simp only [Act.put, List.setIfInBounds_toArray, List.set_cons_zero, List.set_cons_succ]
      refine wpAnyH_take (i := 14) (oi := ⟨_, _, _, _, _, _⟩) (v := ?v_47) rfl (by kernel_rfl) (by kernel_rfl) (by kernel_rfl) (fun _ _ _ h => h) (Or.inl ⟨by rfl, ?hy_47⟩) (by assumption) ?r_47
      case hy_47 => (intro w_ hS_; (try dsimp only at hS_); go_simp; try with_reducible rfl)
      try simp only [Act.put, List.setIfInBounds_toArray, List.set_cons_zero, List.set_cons_succ]
      refine wpAnyH_ready (rs := [15]) (by kernel_rfl) (by simp) ?_
      refine AllReadyH.cons (o := ⟨_, _, _, _, _, _⟩) rfl (fun K hK => ?_) AllReadyH.nil
      go_simp
      (first | (go_at_call 13; refine (check_any A3 M.length c3 _ M _ hmm (sk_reads (by assumption) rm) (sk_size (by assumption))).mono ?_; rintro e w' ⟨rfl, hbo⟩; rw [hlM]) | (go_at_call_of 15 (Value.slice A3 M.length c3); refine (total_any A3 M.length c3 _ M _ hmm (sk_reads (by assumption) rm) (sk_size (by assumption))).mono ?_; rintro e w' ⟨rfl, hbo⟩; rw [htm.out]) | (go_at_call_of 15 (Value.slice A n c); refine (total_any A n c _ l _ hn (sk_reads (by assumption) rl) (sk_size (by assumption))).mono ?_; rintro e w' ⟨rfl, hbo⟩; rw [htl.out]) | (go_at_call 16; refine (plus2 tl xn _ _ ?_ ?_).mono ?_; (focus simp [go_sem]); (focus simp [go_sem]); rintro e w' ⟨rfl, rfl⟩; rw [hpl.out]))
      try go_wp2_with (fail)
      refine hK.out _ _ ?_ (fun hHeld => ?_)
      · (try dsimp only); (first | assumption | exact sk_call (by assumption) hbo | exact sk_mk (below_drew (Below.refl _ _)) | (refine sk_mk (Below.alloc (And.right (by assumption)) (sk_size (by assumption)) _)))
      clear hK K
      try simp only [Act.put, List.setIfInBounds_toArray, List.set_cons_zero, List.set_cons_succ]
      refine wpAnyH_take (i := 16) (oi := ⟨_, _, _, _, _, _⟩) (v := ?v_48) rfl (by kernel_rfl) (by kernel_rfl) (by kernel_rfl) (fun _ _ _ h => h) (Or.inl ⟨by rfl, ?hy_48⟩) (by assumption) ?r_48
      case hy_48 => (intro w_ hS_; (try dsimp only at hS_); go_simp; try with_reducible rfl)
      try simp only [Act.put, List.setIfInBounds_toArray, List.set_cons_zero, List.set_cons_succ]
      refine wpAnyH_take (i := 17) (oi := ⟨_, _, _, _, _, _⟩) (v := ?v_49) rfl (by kernel_rfl) (by kernel_rfl) (by kernel_rfl) (fun _ _ _ h => h) (Or.inl ⟨by rfl, ?hy_49⟩) (by assumption) ?r_49
      case hy_49 => (intro w_ hS_; (try dsimp only at hS_); go_simp; try with_reducible rfl)
      try simp only [Act.put, List.setIfInBounds_toArray, List.set_cons_zero, List.set_cons_succ]
      refine wpAnyH_take (i := 18) (oi := ⟨_, _, _, _, _, _⟩) (v := ?v_50) rfl (by kernel_rfl) (by kernel_rfl) (by kernel_rfl) (fun _ _ _ h => h) (Or.inl ⟨by rfl, ?hy_50⟩) (by assumption) ?r_50
      case hy_50 => (intro w_ hS_; (try dsimp only at hS_); go_simp; try with_reducible rfl)
      try simp only [Act.put, List.setIfInBounds_toArray, List.set_cons_zero, List.set_cons_succ]
      refine wpAnyH_take (i := 19) (oi := ⟨_, _, _, _, _, _⟩) (v := ?v_51) rfl (by kernel_rfl) (by kernel_rfl) (by kernel_rfl) (fun _ _ _ h => h) (Or.inl ⟨by rfl, ?hy_51⟩) (by assumption) ?r_51
      case hy_51 => (intro w_ hS_; (try dsimp only at hS_); go_simp; try with_reducible rfl)
      try simp only [Act.put, List.setIfInBounds_toArray, List.set_cons_zero, List.set_cons_succ]
      refine wpAnyH_ready (rs := [20]) (by kernel_rfl) (by simp) ?_
      refine AllReadyH.cons (o := ⟨_, _, _, _, _, _⟩) rfl (fun K hK => ?_) AllReadyH.nil
      go_simp
      (first | (go_at_call 13; refine (check_any A3 M.length c3 _ M _ hmm (sk_reads (by assumption) rm) (sk_size (by assumption))).mono ?_; rintro e w' ⟨rfl, hbo⟩; rw [hlM]) | (go_at_call_of 15 (Value.slice A3 M.length c3); refine (total_any A3 M.length c3 _ M _ hmm (sk_reads (by assumption) rm) (sk_size (by assumption))).mono ?_; rintro e w' ⟨rfl, hbo⟩; rw [htm.out]) | (go_at_call_of 15 (Value.slice A n c); refine (total_any A n c _ l _ hn (sk_reads (by assumption) rl) (sk_size (by assumption))).mono ?_; rintro e w' ⟨rfl, hbo⟩; rw [htl.out]) | (go_at_call 16; refine (plus2 tl xn _ _ ?_ ?_).mono ?_; (focus simp [go_sem]); (focus simp [go_sem]); rintro e w' ⟨rfl, rfl⟩; rw [hpl.out]))
      try go_wp2_with (fail)
      refine hK.out _ _ ?_ (fun hHeld => ?_)
      · (try dsimp only); (first | assumption | exact sk_call (by assumption) hbo | exact sk_mk (below_drew (Below.refl _ _)) | (refine sk_mk (Below.alloc (And.right (by assumption)) (sk_size (by assumption)) _)))
      clear hK K
      try simp only [Act.put, List.setIfInBounds_toArray, List.set_cons_zero, List.set_cons_succ]
      refine wpAnyH_take (i := 21) (oi := ⟨_, _, _, _, _, _⟩) (v := ?v_52) rfl (by kernel_rfl) (by kernel_rfl) (by kernel_rfl) (fun _ _ _ h => h) (Or.inl ⟨by rfl, ?hy_52⟩) (by assumption) ?r_52
      case hy_52 => (intro w_ hS_; (try dsimp only at hS_); go_simp; try with_reducible rfl)
      try simp only [Act.put, List.setIfInBounds_toArray, List.set_cons_zero, List.set_cons_succ]
      refine wpAnyH_take (i := 22) (oi := ⟨_, _, _, _, _, _⟩) (v := ?v_53) rfl (by kernel_rfl) (by kernel_rfl) (by kernel_rfl) (fun _ _ _ h => h) (Or.inl ⟨by rfl, ?hy_53⟩) (by assumption) ?r_53
      case hy_53 => (intro w_ hS_; (try dsimp only at hS_); go_simp; try with_reducible rfl)
      try simp only [Act.put, List.setIfInBounds_toArray, List.set_cons_zero, List.set_cons_succ]
      refine wpAnyH_take (i := 23) (oi := ⟨_, _, _, _, _, _⟩) (v := ?v_54) rfl (by kernel_rfl) (by kernel_rfl) (by kernel_rfl) (fun _ _ _ h => h) (Or.inl ⟨by rfl, ?hy_54⟩) (by assumption) ?r_54
      case hy_54 => (intro w_ hS_; (try dsimp only at hS_); go_simp; try with_reducible rfl)
      try simp only [Act.put, List.setIfInBounds_toArray, List.set_cons_zero, List.set_cons_succ]
      refine wpAnyH_done (by kernel_rfl) ?_ _
      go_wp2_with (fail)
      go_meet
      exact ⟨rfl, And.right (by assumption)⟩
  case rest =>
    obtain ⟨rfl, b7⟩ := hcut
    obtain ⟨w7, hw7⟩ : ∃ w7 : World, w7 = wc := ⟨_, rfl⟩
    subst hw7
    have hz7 := b7.size
    have sx0 : w7.cell? ⟨w.heap.size, 0, none⟩ = some (.string xu) := (b7.cell (by simpa using hw0)).trans x0
    have sx1 : w7.cell? ⟨w.heap.size, 1, none⟩ = some (.string xa) := (b7.cell (by simpa using hw0)).trans x1
    have sx2 : w7.cell? ⟨w.heap.size, 2, none⟩ = some (.int .i64 xn) := (b7.cell (by simpa using hw0)).trans x2
    have sy0 : w7.cell? ⟨w.heap.size + 1, 0, none⟩ = some (.string yu) := (b7.cell (by simpa using hw1)).trans y0
    have sy1 : w7.cell? ⟨w.heap.size + 1, 1, none⟩ = some (.string ya) := (b7.cell (by simpa using hw1)).trans y1
    have rm7 := (rm.below b7).more (B' := w7.heap.size) hz7
    have rl7 := (rl.below b7).more (B' := w7.heap.size) hz7
    have bw7 := b3.trans (b7.mono (by omega))
    have hv0 : w.heap.size < w7.heap.size := by omega
    have hv1 : w.heap.size + 1 < w7.heap.size := by omega
    clear x0 x1 x2 y0 y1 rm rl b3 b7
    go_upto_region 8 with (fail)
    go_cut [100] (fun s wx => s = .bool false ∧ Below w7.heap.size w7 wx)
    case first =>
      by_cases e1 : yu = xu
      · have h1 : (yu.toList == xu.toList) = true := by rw [beq_str]; simpa using e1
        by_cases e2 : ya = xa
        · have h2 : (ya.toList == xa.toList) = true := by rw [beq_str]; simpa using e2
          clear e1 e2
          refine wp_region_later (by kernel_rfl) (by kernel_rfl) ?_
          have hl_ := later_cell (w7)
          repeat (first | go_big_quiet_step ((first | (go_at_call_of 17 (Value.slice A3 M.length c3); exact later_of (used_any A3 M.length c3 _ M yu ya _ hmm (rm7.below (Later.below _)) (Later.below _).size)) | (go_at_call_of 17 (Value.slice A n c); exact later_of (used_any A n c _ l yu ya _ hn (rl7.below (Later.below _)) (Later.below _).size)))) | quiet_step ((first | (go_at_call_of 17 (Value.slice A3 M.length c3); exact later_of (used_any A3 M.length c3 _ M yu ya _ hmm (rm7.below (Later.below _)) (Later.below _).size)) | (go_at_call_of 17 (Value.slice A n c); exact later_of (used_any A n c _ l yu ya _ hn (rl7.below (Later.below _)) (Later.below _).size)))))
          refine wpQuiet_nil ?_
          intro w9 hx_
          obtain ⟨⟨w_, hb9⟩, e_⟩ := hx_
          have e2_ : w9 = w_ := e_
          clear e_
          subst e2_
          clear hl_
          go_wp2_with (fail)
          go_meet
          exact ⟨rfl, hb9⟩
        · have h2 : (ya.toList == xa.toList) = false := by rw [beq_str]; simpa using e2
          have h3 : (togV M (usedF yu ya) != togV l (usedF yu ya)) = false := by
            have := HO.out (usedF yu ya) (fun v hv1 hv2 => by unfold usedF; rw [if_neg (fun h => e2 (h.2.symm.trans hv2))])
            rw [HM.out] at this; rw [this]; simp
          clear e1 e2
          refine wp_region_later (by kernel_rfl) (by kernel_rfl) ?_
          have hl_ := later_cell (w7)
          repeat (first | go_big_quiet_step ((first | (go_at_call_of 17 (Value.slice A3 M.length c3); exact later_of (used_any A3 M.length c3 _ M yu ya _ hmm (rm7.below (Later.below _)) (Later.below _).size)) | (go_at_call_of 17 (Value.slice A n c); exact later_of (used_any A n c _ l yu ya _ hn (rl7.below (Later.below _)) (Later.below _).size)))) | quiet_step ((first | (go_at_call_of 17 (Value.slice A3 M.length c3); exact later_of (used_any A3 M.length c3 _ M yu ya _ hmm (rm7.below (Later.below _)) (Later.below _).size)) | (go_at_call_of 17 (Value.slice A n c); exact later_of (used_any A n c _ l yu ya _ hn (rl7.below (Later.below _)) (Later.below _).size)))))
          refine wpQuiet_nil ?_
          intro w9 hx_
          obtain ⟨⟨w_, hb9⟩, e_⟩ := hx_
          have e2_ : w9 = w_ := e_
          clear e_
          subst e2_
          clear hl_
          go_wp2_with (fail)
          go_meet
          exact ⟨rfl, hb9⟩
      · have h1 : (yu.toList == xu.toList) = false := by rw [beq_str]; simpa using e1
        have h3 : (togV M (usedF yu ya) != togV l (usedF yu ya)) = false := by
          have := HO.out (usedF yu ya) (fun v hv1 hv2 => by unfold usedF; rw [if_neg (fun h => e1 (h.1.symm.trans hv1))])
          rw [HM.out] at this; rw [this]; simp
        clear e1
        refine wp_region_later (by kernel_rfl) (by kernel_rfl) ?_
        have hl_ := later_cell (w7)
        repeat (first | go_big_quiet_step ((first | (go_at_call_of 17 (Value.slice A3 M.length c3); exact later_of (used_any A3 M.length c3 _ M yu ya _ hmm (rm7.below (Later.below _)) (Later.below _).size)) | (go_at_call_of 17 (Value.slice A n c); exact later_of (used_any A n c _ l yu ya _ hn (rl7.below (Later.below _)) (Later.below _).size)))) | quiet_step ((first | (go_at_call_of 17 (Value.slice A3 M.length c3); exact later_of (used_any A3 M.length c3 _ M yu ya _ hmm (rm7.below (Later.below _)) (Later.below _).size)) | (go_at_call_of 17 (Value.slice A n c); exact later_of (used_any A n c _ l yu ya _ hn (rl7.below (Later.below _)) (Later.below _).size)))))
        refine wpQuiet_nil ?_
        intro w9 hx_
        obtain ⟨⟨w_, hb9⟩, e_⟩ := hx_
        have e2_ : w9 = w_ := e_
        clear e_
        subst e2_
        clear hl_
        go_wp2_with (fail)
        go_meet
        exact ⟨rfl, hb9⟩
    case rest =>
      obtain ⟨rfl, b8⟩ := hcut
      obtain ⟨w8, hw8⟩ : ∃ w8 : World, w8 = wc := ⟨_, rfl⟩
      subst hw8
      have hz8 := b8.size
      have tx0 : w8.cell? ⟨w.heap.size, 0, none⟩ = some (.string xu) := (b8.cell (by simpa using hv0)).trans sx0
      have tx1 : w8.cell? ⟨w.heap.size, 1, none⟩ = some (.string xa) := (b8.cell (by simpa using hv0)).trans sx1
      have tx2 : w8.cell? ⟨w.heap.size, 2, none⟩ = some (.int .i64 xn) := (b8.cell (by simpa using hv0)).trans sx2
      have ty0 : w8.cell? ⟨w.heap.size + 1, 0, none⟩ = some (.string yu) := (b8.cell (by simpa using hv1)).trans sy0
      have ty1 : w8.cell? ⟨w.heap.size + 1, 1, none⟩ = some (.string ya) := (b8.cell (by simpa using hv1)).trans sy1
      have rm8 := (rm7.below b8).more (B' := w8.heap.size) hz8
      have rl8 := (rl7.below b8).more (B' := w8.heap.size) hz8
      have bw8 := bw7.trans (b8.mono (by omega))
      have hu0 : w.heap.size < w8.heap.size := by omega
      have hu1 : w.heap.size + 1 < w8.heap.size := by omega
      clear sx0 sx1 sx2 sy0 sy1 rm7 rl7 bw7 b8
      obtain ⟨um, hum⟩ : ∃ t, Hid (togV M (usedF xu xa) = t) := ⟨_, rfl⟩
      obtain ⟨ul, hul⟩ : ∃ t, Hid (togV l (usedF xu xa) = t) := ⟨_, rfl⟩
      obtain ⟨sm, hsm⟩ : ∃ t, Hid (togV M (shareF yu) = t) := ⟨_, rfl⟩
      obtain ⟨sl, hsl⟩ : ∃ t, Hid (togV l (shareF yu) = t) := ⟨_, rfl⟩
      obtain ⟨up, hup⟩ : ∃ t, Hid (addV 1000000000000 [ul, xn] = t) := ⟨_, rfl⟩
      have k1 : (um == up) = true := by
        have h := HS.out
        rw [HM.out] at h
        rw [← hup.out, ← hum.out, ← hul.out]; simpa [newU] using h
      by_cases e1 : yu = xu
      · have k2 : (yu.toList == xu.toList) = true := by rw [beq_str]; simpa using e1
        clear e1
        go_wp2_with (fail)
        refine wp_region_held_drew (S := (fun w' => (∀ b o, b < w8.heap.size → w'.cell? ⟨b, o, none⟩ = w8.cell? ⟨b, o, none⟩) ∧ Below w8.heap.size w8 w')) (by kernel_rfl) ?_ (fun hHeld => ?_)
        · (try dsimp only); (first | assumption | exact sk_call (by assumption) hbo | exact sk_mk (below_drew (Below.refl _ _)) | (refine sk_mk (Below.alloc (And.right (by assumption)) (sk_size (by assumption)) _)))
        refine wpAnyH_take (i := 0) (oi := ⟨_, _, _, _, _, _⟩) (v := ?v_55) rfl (by kernel_rfl) (by kernel_rfl) (by kernel_rfl) (fun _ _ _ h => h) (Or.inl ⟨by rfl, ?hy_55⟩) (by assumption) ?r_55
        case hy_55 => (intro w_ hS_; (try dsimp only at hS_); go_simp; try with_reducible rfl)
        try simp only [Act.put, List.setIfInBounds_toArray, List.set_cons_zero, List.set_cons_succ]
        refine wpAnyH_take (i := 1) (oi := ⟨_, _, _, _, _, _⟩) (v := ?v_56) rfl (by kernel_rfl) (by kernel_rfl) (by kernel_rfl) (fun _ _ _ h => h) (Or.inl ⟨by rfl, ?hy_56⟩) (by assumption) ?r_56
        case hy_56 => (intro w_ hS_; (try dsimp only at hS_); go_simp; try with_reducible rfl)
        try simp only [Act.put, List.setIfInBounds_toArray, List.set_cons_zero, List.set_cons_succ]
        refine wpAnyH_take (i := 2) (oi := ⟨_, _, _, _, _, _⟩) (v := ?v_57) rfl (by kernel_rfl) (by kernel_rfl) (by kernel_rfl) (fun _ _ _ h => h) (Or.inl ⟨by rfl, ?hy_57⟩) (by assumption) ?r_57
        case hy_57 => (intro w_ hS_; (try dsimp only at hS_); go_simp; try with_reducible rfl)
        try simp only [Act.put, List.setIfInBounds_toArray, List.set_cons_zero, List.set_cons_succ]
        refine wpAnyH_take (i := 3) (oi := ⟨_, _, _, _, _, _⟩) (v := ?v_58) rfl (by kernel_rfl) (by kernel_rfl) (by kernel_rfl) (fun _ _ _ h => h) (Or.inl ⟨by rfl, ?hy_58⟩) (by assumption) ?r_58
        case hy_58 => (intro w_ hS_; (try dsimp only at hS_); go_simp; try with_reducible rfl)
        try simp only [Act.put, List.setIfInBounds_toArray, List.set_cons_zero, List.set_cons_succ]
        refine wpAnyH_take (i := 4) (oi := ⟨_, _, _, _, _, _⟩) (v := ?v_59) rfl (by kernel_rfl) (by kernel_rfl) (by kernel_rfl) (fun _ _ _ h => h) (Or.inl ⟨by rfl, ?hy_59⟩) (by assumption) ?r_59
        case hy_59 => (intro w_ hS_; (try dsimp only at hS_); go_simp; try with_reducible rfl)
        try simp only [Act.put, List.setIfInBounds_toArray, List.set_cons_zero, List.set_cons_succ]
        refine wpAnyH_take (i := 6) (oi := ⟨_, _, _, _, _, _⟩) (v := ?v_60) rfl (by kernel_rfl) (by kernel_rfl) (by kernel_rfl) (fun _ _ _ h => h) (Or.inl ⟨by rfl, ?hy_60⟩) (by assumption) ?r_60
        case hy_60 => (intro w_ hS_; (try dsimp only at hS_); go_simp; try with_reducible rfl)
        try simp only [Act.put, List.setIfInBounds_toArray, List.set_cons_zero, List.set_cons_succ]
        refine wpAnyH_take (i := 7) (oi := ⟨_, _, _, _, _, _⟩) (v := ?v_61) rfl (by kernel_rfl) (by kernel_rfl) (by kernel_rfl) (fun _ _ _ h => h) (Or.inl ⟨by rfl, ?hy_61⟩) (by assumption) ?r_61
        case hy_61 => (intro w_ hS_; (try dsimp only at hS_); go_simp; try with_reducible rfl)
        try simp only [Act.put, List.setIfInBounds_toArray, List.set_cons_zero, List.set_cons_succ]
        refine wpAnyH_take (i := 8) (oi := ⟨_, _, _, _, _, _⟩) (v := ?v_62) rfl (by kernel_rfl) (by kernel_rfl) (by kernel_rfl) (fun _ _ _ h => h) (Or.inl ⟨by rfl, ?hy_62⟩) (by assumption) ?r_62
        case hy_62 => (intro w_ hS_; (try dsimp only at hS_); go_simp; try with_reducible rfl)
        try simp only [Act.put, List.setIfInBounds_toArray, List.set_cons_zero, List.set_cons_succ]
        refine wpAnyH_take (i := 9) (oi := ⟨_, _, _, _, _, _⟩) (v := ?v_63) rfl (by kernel_rfl) (by kernel_rfl) (by kernel_rfl) (fun _ _ _ h => h) (Or.inl ⟨by rfl, ?hy_63⟩) (by assumption) ?r_63
        case hy_63 => (intro w_ hS_; (try dsimp only at hS_); go_simp; try with_reducible rfl)
        try simp only [Act.put, List.setIfInBounds_toArray, List.set_cons_zero, List.set_cons_succ]
        refine wpAnyH_take (i := 10) (oi := ⟨_, _, _, _, _, _⟩) (v := ?v_64) rfl (by kernel_rfl) (by kernel_rfl) (by kernel_rfl) (fun _ _ _ h => h) (Or.inl ⟨by rfl, ?hy_64⟩) (by assumption) ?r_64
        case hy_64 => (intro w_ hS_; (try dsimp only at hS_); go_simp; try with_reducible rfl)
        try simp only [Act.put, List.setIfInBounds_toArray, List.set_cons_zero, List.set_cons_succ]
        refine wpAnyH_take (i := 12) (oi := ⟨_, _, _, _, _, _⟩) (v := ?v_65) rfl (by kernel_rfl) (by kernel_rfl) (by kernel_rfl) (fun _ _ _ h => h) (Or.inl ⟨by rfl, ?hy_65⟩) (by assumption) ?r_65
        case hy_65 => (intro w_ hS_; (try dsimp only at hS_); go_simp; try with_reducible rfl)
        try simp only [Act.put, List.setIfInBounds_toArray, List.set_cons_zero, List.set_cons_succ]
        refine wpAnyH_take (i := 13) (oi := ⟨_, _, _, _, _, _⟩) (v := ?v_66) rfl (by kernel_rfl) (by kernel_rfl) (by kernel_rfl) (fun _ _ _ h => h) (Or.inl ⟨by rfl, ?hy_66⟩) (by assumption) ?r_66
        case hy_66 => (intro w_ hS_; (try dsimp only at hS_); go_simp; try with_reducible rfl)
        try simp only [Act.put, List.setIfInBounds_toArray, List.set_cons_zero, List.set_cons_succ]
        refine wpAnyH_ready (rs := [5]) (by kernel_rfl) (by simp) ?_
        refine AllReadyH.cons (o := ⟨_, _, _, _, _, _⟩) rfl (fun K hK => ?_) AllReadyH.nil
        go_simp
        (first | (go_at_call_of 17 (Value.slice A3 M.length c3); refine (used_any A3 M.length c3 _ M xu xa _ hmm (sk_reads (by assumption) rm8) (sk_size (by assumption))).mono ?_; rintro e w' ⟨rfl, hbo⟩; rw [hum.out]) | (go_at_call_of 17 (Value.slice A n c); refine (used_any A n c _ l xu xa _ hn (sk_reads (by assumption) rl8) (sk_size (by assumption))).mono ?_; rintro e w' ⟨rfl, hbo⟩; rw [hul.out]) | (go_at_call_of 18 (Value.slice A3 M.length c3); refine (share_any A3 M.length c3 _ M yu _ hmm (sk_reads (by assumption) rm8) (sk_size (by assumption))).mono ?_; rintro e w' ⟨rfl, hbo⟩; rw [hsm.out]) | (go_at_call_of 18 (Value.slice A n c); refine (share_any A n c _ l yu _ hn (sk_reads (by assumption) rl8) (sk_size (by assumption))).mono ?_; rintro e w' ⟨rfl, hbo⟩; rw [hsl.out]) | (go_at_call 16; refine (plus2 ul xn _ _ ?_ ?_).mono ?_; (focus simp [go_sem]); (focus simp [go_sem]); rintro e w' ⟨rfl, rfl⟩; rw [hup.out]) | (go_at_call 7; refine (awake_any _).mono ?_; rintro e w' ⟨rfl, hbo⟩))
        try go_wp2_with (fail)
        refine hK.out _ _ ?_ (fun hHeld => ?_)
        · (try dsimp only); (first | assumption | exact sk_call (by assumption) hbo | exact sk_mk (below_drew (Below.refl _ _)) | (refine sk_mk (Below.alloc (And.right (by assumption)) (sk_size (by assumption)) _)))
        clear hK K
        try simp only [Act.put, List.setIfInBounds_toArray, List.set_cons_zero, List.set_cons_succ]
        refine wpAnyH_ready (rs := [11]) (by kernel_rfl) (by simp) ?_
        refine AllReadyH.cons (o := ⟨_, _, _, _, _, _⟩) rfl (fun K hK => ?_) AllReadyH.nil
        go_simp
        (first | (go_at_call_of 17 (Value.slice A3 M.length c3); refine (used_any A3 M.length c3 _ M xu xa _ hmm (sk_reads (by assumption) rm8) (sk_size (by assumption))).mono ?_; rintro e w' ⟨rfl, hbo⟩; rw [hum.out]) | (go_at_call_of 17 (Value.slice A n c); refine (used_any A n c _ l xu xa _ hn (sk_reads (by assumption) rl8) (sk_size (by assumption))).mono ?_; rintro e w' ⟨rfl, hbo⟩; rw [hul.out]) | (go_at_call_of 18 (Value.slice A3 M.length c3); refine (share_any A3 M.length c3 _ M yu _ hmm (sk_reads (by assumption) rm8) (sk_size (by assumption))).mono ?_; rintro e w' ⟨rfl, hbo⟩; rw [hsm.out]) | (go_at_call_of 18 (Value.slice A n c); refine (share_any A n c _ l yu _ hn (sk_reads (by assumption) rl8) (sk_size (by assumption))).mono ?_; rintro e w' ⟨rfl, hbo⟩; rw [hsl.out]) | (go_at_call 16; refine (plus2 ul xn _ _ ?_ ?_).mono ?_; (focus simp [go_sem]); (focus simp [go_sem]); rintro e w' ⟨rfl, rfl⟩; rw [hup.out]) | (go_at_call 7; refine (awake_any _).mono ?_; rintro e w' ⟨rfl, hbo⟩))
        try go_wp2_with (fail)
        refine hK.out _ _ ?_ (fun hHeld => ?_)
        · (try dsimp only); (first | assumption | exact sk_call (by assumption) hbo | exact sk_mk (below_drew (Below.refl _ _)) | (refine sk_mk (Below.alloc (And.right (by assumption)) (sk_size (by assumption)) _)))
        clear hK K
        try simp only [Act.put, List.setIfInBounds_toArray, List.set_cons_zero, List.set_cons_succ]
        refine wpAnyH_ready (rs := [14]) (by kernel_rfl) (by simp) ?_
        refine AllReadyH.cons (o := ⟨_, _, _, _, _, _⟩) rfl (fun K hK => ?_) AllReadyH.nil
        go_simp
        refine hK.out _ _ ?_ (fun hHeld => ?_)
        · (try dsimp only); (first | assumption | exact sk_call (by assumption) hbo | exact sk_mk (below_drew (Below.refl _ _)) | (refine sk_mk (Below.alloc (And.right (by assumption)) (sk_size (by assumption)) _)))
        clear hK K
        try simp only [Act.put, List.setIfInBounds_toArray, List.set_cons_zero, List.set_cons_succ]
        refine wpAnyH_ready (rs := [15]) (by kernel_rfl) (by simp) ?_
        refine AllReadyH.cons (o := ⟨_, _, _, _, _, _⟩) rfl (fun K hK => ?_) AllReadyH.nil
        go_simp
        (first | (go_at_call_of 17 (Value.slice A3 M.length c3); refine (used_any A3 M.length c3 _ M xu xa _ hmm (sk_reads (by assumption) rm8) (sk_size (by assumption))).mono ?_; rintro e w' ⟨rfl, hbo⟩; rw [hum.out]) | (go_at_call_of 17 (Value.slice A n c); refine (used_any A n c _ l xu xa _ hn (sk_reads (by assumption) rl8) (sk_size (by assumption))).mono ?_; rintro e w' ⟨rfl, hbo⟩; rw [hul.out]) | (go_at_call_of 18 (Value.slice A3 M.length c3); refine (share_any A3 M.length c3 _ M yu _ hmm (sk_reads (by assumption) rm8) (sk_size (by assumption))).mono ?_; rintro e w' ⟨rfl, hbo⟩; rw [hsm.out]) | (go_at_call_of 18 (Value.slice A n c); refine (share_any A n c _ l yu _ hn (sk_reads (by assumption) rl8) (sk_size (by assumption))).mono ?_; rintro e w' ⟨rfl, hbo⟩; rw [hsl.out]) | (go_at_call 16; refine (plus2 ul xn _ _ ?_ ?_).mono ?_; (focus simp [go_sem]); (focus simp [go_sem]); rintro e w' ⟨rfl, rfl⟩; rw [hup.out]) | (go_at_call 7; refine (awake_any _).mono ?_; rintro e w' ⟨rfl, hbo⟩))
        try go_wp2_with (fail)
        refine hK.out _ _ ?_ (fun hHeld => ?_)
        · (try dsimp only); (first | assumption | exact sk_call (by assumption) hbo | exact sk_mk (below_drew (Below.refl _ _)) | (refine sk_mk (Below.alloc (And.right (by assumption)) (sk_size (by assumption)) _)))
        clear hK K
        try simp only [Act.put, List.setIfInBounds_toArray, List.set_cons_zero, List.set_cons_succ]
        refine wpAnyH_take (i := 16) (oi := ⟨_, _, _, _, _, _⟩) (v := ?v_67) rfl (by kernel_rfl) (by kernel_rfl) (by kernel_rfl) (fun _ _ _ h => h) (Or.inl ⟨by rfl, ?hy_67⟩) (by assumption) ?r_67
        case hy_67 => (intro w_ hS_; (try dsimp only at hS_); go_simp; try with_reducible rfl)
        try simp only [Act.put, List.setIfInBounds_toArray, List.set_cons_zero, List.set_cons_succ]
        refine wpAnyH_take (i := 17) (oi := ⟨_, _, _, _, _, _⟩) (v := ?v_68) rfl (by kernel_rfl) (by kernel_rfl) (by kernel_rfl) (fun _ _ _ h => h) (Or.inl ⟨by rfl, ?hy_68⟩) (by assumption) ?r_68
        case hy_68 => (intro w_ hS_; (try dsimp only at hS_); go_simp; try with_reducible rfl)
        try simp only [Act.put, List.setIfInBounds_toArray, List.set_cons_zero, List.set_cons_succ]
        refine wpAnyH_take (i := 18) (oi := ⟨_, _, _, _, _, _⟩) (v := ?v_69) rfl (by kernel_rfl) (by kernel_rfl) (by kernel_rfl) (fun _ _ _ h => h) (Or.inl ⟨by rfl, ?hy_69⟩) (by assumption) ?r_69
        case hy_69 => (intro w_ hS_; (try dsimp only at hS_); go_simp; try with_reducible rfl)
        try simp only [Act.put, List.setIfInBounds_toArray, List.set_cons_zero, List.set_cons_succ]
        refine wpAnyH_take (i := 19) (oi := ⟨_, _, _, _, _, _⟩) (v := ?v_70) rfl (by kernel_rfl) (by kernel_rfl) (by kernel_rfl) (fun _ _ _ h => h) (Or.inl ⟨by rfl, ?hy_70⟩) (by assumption) ?r_70
        case hy_70 => (intro w_ hS_; (try dsimp only at hS_); go_simp; try with_reducible rfl)
        try simp only [Act.put, List.setIfInBounds_toArray, List.set_cons_zero, List.set_cons_succ]
        refine wpAnyH_take (i := 20) (oi := ⟨_, _, _, _, _, _⟩) (v := ?v_71) rfl (by kernel_rfl) (by kernel_rfl) (by kernel_rfl) (fun _ _ _ h => h) (Or.inl ⟨by rfl, ?hy_71⟩) (by assumption) ?r_71
        case hy_71 => (intro w_ hS_; (try dsimp only at hS_); go_simp; try with_reducible rfl)
        try simp only [Act.put, List.setIfInBounds_toArray, List.set_cons_zero, List.set_cons_succ]
        refine wpAnyH_take (i := 21) (oi := ⟨_, _, _, _, _, _⟩) (v := ?v_72) rfl (by kernel_rfl) (by kernel_rfl) (by kernel_rfl) (fun _ _ _ h => h) (Or.inl ⟨by rfl, ?hy_72⟩) (by assumption) ?r_72
        case hy_72 => (intro w_ hS_; (try dsimp only at hS_); go_simp; try with_reducible rfl)
        try simp only [Act.put, List.setIfInBounds_toArray, List.set_cons_zero, List.set_cons_succ]
        refine wpAnyH_take (i := 22) (oi := ⟨_, _, _, _, _, _⟩) (v := ?v_73) rfl (by kernel_rfl) (by kernel_rfl) (by kernel_rfl) (fun _ _ _ h => h) (Or.inl ⟨by rfl, ?hy_73⟩) (by assumption) ?r_73
        case hy_73 => (intro w_ hS_; (try dsimp only at hS_); go_simp; try with_reducible rfl)
        try simp only [Act.put, List.setIfInBounds_toArray, List.set_cons_zero, List.set_cons_succ]
        refine wpAnyH_take (i := 23) (oi := ⟨_, _, _, _, _, _⟩) (v := ?v_74) rfl (by kernel_rfl) (by kernel_rfl) (by kernel_rfl) (fun _ _ _ h => h) (Or.inl ⟨by rfl, ?hy_74⟩) (by assumption) ?r_74
        case hy_74 => (intro w_ hS_; (try dsimp only at hS_); go_simp; try with_reducible rfl)
        try simp only [Act.put, List.setIfInBounds_toArray, List.set_cons_zero, List.set_cons_succ]
        refine wpAnyH_take (i := 24) (oi := ⟨_, _, _, _, _, _⟩) (v := undef) rfl (by kernel_rfl) (by kernel_rfl) (by kernel_rfl) (fun _ _ _ h => h) (Or.inr ⟨by rfl, rfl⟩) (by assumption) ?_
        try simp only [Act.put, List.setIfInBounds_toArray, List.set_cons_zero, List.set_cons_succ]
        refine wpAnyH_take (i := 25) (oi := ⟨_, _, _, _, _, _⟩) (v := undef) rfl (by kernel_rfl) (by kernel_rfl) (by kernel_rfl) (fun _ _ _ h => h) (Or.inr ⟨by rfl, rfl⟩) (by assumption) ?_
        try simp only [Act.put, List.setIfInBounds_toArray, List.set_cons_zero, List.set_cons_succ]
        refine wpAnyH_take (i := 26) (oi := ⟨_, _, _, _, _, _⟩) (v := undef) rfl (by kernel_rfl) (by kernel_rfl) (by kernel_rfl) (fun _ _ _ h => h) (Or.inr ⟨by rfl, rfl⟩) (by assumption) ?_
        try simp only [Act.put, List.setIfInBounds_toArray, List.set_cons_zero, List.set_cons_succ]
        refine wpAnyH_take (i := 27) (oi := ⟨_, _, _, _, _, _⟩) (v := undef) rfl (by kernel_rfl) (by kernel_rfl) (by kernel_rfl) (fun _ _ _ h => h) (Or.inr ⟨by rfl, rfl⟩) (by assumption) ?_
        try simp only [Act.put, List.setIfInBounds_toArray, List.set_cons_zero, List.set_cons_succ]
        refine wpAnyH_take (i := 28) (oi := ⟨_, _, _, _, _, _⟩) (v := undef) rfl (by kernel_rfl) (by kernel_rfl) (by kernel_rfl) (fun _ _ _ h => h) (Or.inr ⟨by rfl, rfl⟩) (by assumption) ?_
        try simp only [Act.put, List.setIfInBounds_toArray, List.set_cons_zero, List.set_cons_succ]
        refine wpAnyH_take (i := 29) (oi := ⟨_, _, _, _, _, _⟩) (v := undef) rfl (by kernel_rfl) (by kernel_rfl) (by kernel_rfl) (fun _ _ _ h => h) (Or.inr ⟨by rfl, rfl⟩) (by assumption) ?_
        try simp only [Act.put, List.setIfInBounds_toArray, List.set_cons_zero, List.set_cons_succ]
        refine wpAnyH_take (i := 30) (oi := ⟨_, _, _, _, _, _⟩) (v := undef) rfl (by kernel_rfl) (by kernel_rfl) (by kernel_rfl) (fun _ _ _ h => h) (Or.inr ⟨by rfl, rfl⟩) (by assumption) ?_
        try simp only [Act.put, List.setIfInBounds_toArray, List.set_cons_zero, List.set_cons_succ]
        refine wpAnyH_take (i := 31) (oi := ⟨_, _, _, _, _, _⟩) (v := undef) rfl (by kernel_rfl) (by kernel_rfl) (by kernel_rfl) (fun _ _ _ h => h) (Or.inr ⟨by rfl, rfl⟩) (by assumption) ?_
        try simp only [Act.put, List.setIfInBounds_toArray, List.set_cons_zero, List.set_cons_succ]
        refine wpAnyH_take (i := 32) (oi := ⟨_, _, _, _, _, _⟩) (v := undef) rfl (by kernel_rfl) (by kernel_rfl) (by kernel_rfl) (fun _ _ _ h => h) (Or.inr ⟨by rfl, rfl⟩) (by assumption) ?_
        try simp only [Act.put, List.setIfInBounds_toArray, List.set_cons_zero, List.set_cons_succ]
        refine wpAnyH_take (i := 33) (oi := ⟨_, _, _, _, _, _⟩) (v := ?v_84) rfl (by kernel_rfl) (by kernel_rfl) (by kernel_rfl) (fun _ _ _ h => h) (Or.inl ⟨by rfl, ?hy_84⟩) (by assumption) ?r_84
        case hy_84 => (intro w_ hS_; (try dsimp only at hS_); go_simp; try with_reducible rfl)
        try simp only [Act.put, List.setIfInBounds_toArray, List.set_cons_zero, List.set_cons_succ]
        refine wpAnyH_take (i := 34) (oi := ⟨_, _, _, _, _, _⟩) (v := ?v_85) rfl (by kernel_rfl) (by kernel_rfl) (by kernel_rfl) (fun _ _ _ h => h) (Or.inl ⟨by rfl, ?hy_85⟩) (by assumption) ?r_85
        case hy_85 => (intro w_ hS_; (try dsimp only at hS_); go_simp; try with_reducible rfl)
        try simp only [Act.put, List.setIfInBounds_toArray, List.set_cons_zero, List.set_cons_succ]
        refine wpAnyH_take (i := 35) (oi := ⟨_, _, _, _, _, _⟩) (v := ?v_86) rfl (by kernel_rfl) (by kernel_rfl) (by kernel_rfl) (fun _ _ _ h => h) (Or.inl ⟨by rfl, ?hy_86⟩) (by assumption) ?r_86
        case hy_86 => (intro w_ hS_; (try dsimp only at hS_); go_simp; try with_reducible rfl)
        try simp only [Act.put, List.setIfInBounds_toArray, List.set_cons_zero, List.set_cons_succ]
        refine wpAnyH_ready (rs := [36]) (by kernel_rfl) (by simp) ?_
        refine AllReadyH.cons (o := ⟨_, _, _, _, _, _⟩) rfl (fun K hK => ?_) AllReadyH.nil
        go_simp
        (first | (go_at_call_of 17 (Value.slice A3 M.length c3); refine (used_any A3 M.length c3 _ M xu xa _ hmm (sk_reads (by assumption) rm8) (sk_size (by assumption))).mono ?_; rintro e w' ⟨rfl, hbo⟩; rw [hum.out]) | (go_at_call_of 17 (Value.slice A n c); refine (used_any A n c _ l xu xa _ hn (sk_reads (by assumption) rl8) (sk_size (by assumption))).mono ?_; rintro e w' ⟨rfl, hbo⟩; rw [hul.out]) | (go_at_call_of 18 (Value.slice A3 M.length c3); refine (share_any A3 M.length c3 _ M yu _ hmm (sk_reads (by assumption) rm8) (sk_size (by assumption))).mono ?_; rintro e w' ⟨rfl, hbo⟩; rw [hsm.out]) | (go_at_call_of 18 (Value.slice A n c); refine (share_any A n c _ l yu _ hn (sk_reads (by assumption) rl8) (sk_size (by assumption))).mono ?_; rintro e w' ⟨rfl, hbo⟩; rw [hsl.out]) | (go_at_call 16; refine (plus2 ul xn _ _ ?_ ?_).mono ?_; (focus simp [go_sem]); (focus simp [go_sem]); rintro e w' ⟨rfl, rfl⟩; rw [hup.out]) | (go_at_call 7; refine (awake_any _).mono ?_; rintro e w' ⟨rfl, hbo⟩))
        try go_wp2_with (fail)
        refine hK.out _ _ ?_ (fun hHeld => ?_)
        · (try dsimp only); (first | assumption | exact sk_call (by assumption) hbo | exact sk_mk (below_drew (Below.refl _ _)) | (refine sk_mk (Below.alloc (And.right (by assumption)) (sk_size (by assumption)) _)))
        clear hK K
        try simp only [Act.put, List.setIfInBounds_toArray, List.set_cons_zero, List.set_cons_succ]
        refine wpAnyH_take (i := 37) (oi := ⟨_, _, _, _, _, _⟩) (v := ?v_87) rfl (by kernel_rfl) (by kernel_rfl) (by kernel_rfl) (fun _ _ _ h => h) (Or.inl ⟨by rfl, ?hy_87⟩) (by assumption) ?r_87
        case hy_87 => (intro w_ hS_; (try dsimp only at hS_); go_simp; try with_reducible rfl)
        try simp only [Act.put, List.setIfInBounds_toArray, List.set_cons_zero, List.set_cons_succ]
        refine wpAnyH_take (i := 38) (oi := ⟨_, _, _, _, _, _⟩) (v := ?v_88) rfl (by kernel_rfl) (by kernel_rfl) (by kernel_rfl) (fun _ _ _ h => h) (Or.inl ⟨by rfl, ?hy_88⟩) (by assumption) ?r_88
        case hy_88 => (intro w_ hS_; (try dsimp only at hS_); go_simp; try with_reducible rfl)
        try simp only [Act.put, List.setIfInBounds_toArray, List.set_cons_zero, List.set_cons_succ]
        refine wpAnyH_done (by kernel_rfl) ?_ _
        have bf := And.right (by assumption : (∀ b o, b < w8.heap.size → World.cell? _ ⟨b, o, none⟩ = w8.cell? ⟨b, o, none⟩) ∧ Below w8.heap.size w8 _)
        go_wp2
        go_ret
        exact ⟨rfl, bw8.trans (bf.mono (by omega))⟩
      · have k2 : (yu.toList == xu.toList) = false := by rw [beq_str]; simpa using e1
        have k3 : (sm == sl) = true := by
          have := HO.out (shareF yu) (fun v hv1 hv2 => by unfold shareF; rw [if_neg (fun h => e1 (h.symm.trans hv1))])
          rw [HM.out] at this
          rw [← hsm.out, ← hsl.out, this]; simp
        clear e1
        go_wp2_with (fail)
        refine wp_region_held_drew (S := (fun w' => (∀ b o, b < w8.heap.size → w'.cell? ⟨b, o, none⟩ = w8.cell? ⟨b, o, none⟩) ∧ Below w8.heap.size w8 w')) (by kernel_rfl) ?_ (fun hHeld => ?_)
        · (try dsimp only); (first | assumption | exact sk_call (by assumption) hbo | exact sk_mk (below_drew (Below.refl _ _)) | (refine sk_mk (Below.alloc (And.right (by assumption)) (sk_size (by assumption)) _)))
        refine wpAnyH_take (i := 0) (oi := ⟨_, _, _, _, _, _⟩) (v := ?v_89) rfl (by kernel_rfl) (by kernel_rfl) (by kernel_rfl) (fun _ _ _ h => h) (Or.inl ⟨by rfl, ?hy_89⟩) (by assumption) ?r_89
        case hy_89 => (intro w_ hS_; (try dsimp only at hS_); go_simp; try with_reducible rfl)
        try simp only [Act.put, List.setIfInBounds_toArray, List.set_cons_zero, List.set_cons_succ]
        refine wpAnyH_take (i := 1) (oi := ⟨_, _, _, _, _, _⟩) (v := ?v_90) rfl (by kernel_rfl) (by kernel_rfl) (by kernel_rfl) (fun _ _ _ h => h) (Or.inl ⟨by rfl, ?hy_90⟩) (by assumption) ?r_90
        case hy_90 => (intro w_ hS_; (try dsimp only at hS_); go_simp; try with_reducible rfl)
        try simp only [Act.put, List.setIfInBounds_toArray, List.set_cons_zero, List.set_cons_succ]
        refine wpAnyH_take (i := 2) (oi := ⟨_, _, _, _, _, _⟩) (v := ?v_91) rfl (by kernel_rfl) (by kernel_rfl) (by kernel_rfl) (fun _ _ _ h => h) (Or.inl ⟨by rfl, ?hy_91⟩) (by assumption) ?r_91
        case hy_91 => (intro w_ hS_; (try dsimp only at hS_); go_simp; try with_reducible rfl)
        try simp only [Act.put, List.setIfInBounds_toArray, List.set_cons_zero, List.set_cons_succ]
        refine wpAnyH_take (i := 3) (oi := ⟨_, _, _, _, _, _⟩) (v := ?v_92) rfl (by kernel_rfl) (by kernel_rfl) (by kernel_rfl) (fun _ _ _ h => h) (Or.inl ⟨by rfl, ?hy_92⟩) (by assumption) ?r_92
        case hy_92 => (intro w_ hS_; (try dsimp only at hS_); go_simp; try with_reducible rfl)
        try simp only [Act.put, List.setIfInBounds_toArray, List.set_cons_zero, List.set_cons_succ]
        refine wpAnyH_take (i := 4) (oi := ⟨_, _, _, _, _, _⟩) (v := ?v_93) rfl (by kernel_rfl) (by kernel_rfl) (by kernel_rfl) (fun _ _ _ h => h) (Or.inl ⟨by rfl, ?hy_93⟩) (by assumption) ?r_93
        case hy_93 => (intro w_ hS_; (try dsimp only at hS_); go_simp; try with_reducible rfl)
        try simp only [Act.put, List.setIfInBounds_toArray, List.set_cons_zero, List.set_cons_succ]
        refine wpAnyH_take (i := 6) (oi := ⟨_, _, _, _, _, _⟩) (v := ?v_94) rfl (by kernel_rfl) (by kernel_rfl) (by kernel_rfl) (fun _ _ _ h => h) (Or.inl ⟨by rfl, ?hy_94⟩) (by assumption) ?r_94
        case hy_94 => (intro w_ hS_; (try dsimp only at hS_); go_simp; try with_reducible rfl)
        try simp only [Act.put, List.setIfInBounds_toArray, List.set_cons_zero, List.set_cons_succ]
        refine wpAnyH_take (i := 7) (oi := ⟨_, _, _, _, _, _⟩) (v := ?v_95) rfl (by kernel_rfl) (by kernel_rfl) (by kernel_rfl) (fun _ _ _ h => h) (Or.inl ⟨by rfl, ?hy_95⟩) (by assumption) ?r_95
        case hy_95 => (intro w_ hS_; (try dsimp only at hS_); go_simp; try with_reducible rfl)
        try simp only [Act.put, List.setIfInBounds_toArray, List.set_cons_zero, List.set_cons_succ]
        refine wpAnyH_take (i := 8) (oi := ⟨_, _, _, _, _, _⟩) (v := ?v_96) rfl (by kernel_rfl) (by kernel_rfl) (by kernel_rfl) (fun _ _ _ h => h) (Or.inl ⟨by rfl, ?hy_96⟩) (by assumption) ?r_96
        case hy_96 => (intro w_ hS_; (try dsimp only at hS_); go_simp; try with_reducible rfl)
        try simp only [Act.put, List.setIfInBounds_toArray, List.set_cons_zero, List.set_cons_succ]
        refine wpAnyH_take (i := 9) (oi := ⟨_, _, _, _, _, _⟩) (v := ?v_97) rfl (by kernel_rfl) (by kernel_rfl) (by kernel_rfl) (fun _ _ _ h => h) (Or.inl ⟨by rfl, ?hy_97⟩) (by assumption) ?r_97
        case hy_97 => (intro w_ hS_; (try dsimp only at hS_); go_simp; try with_reducible rfl)
        try simp only [Act.put, List.setIfInBounds_toArray, List.set_cons_zero, List.set_cons_succ]
        refine wpAnyH_take (i := 10) (oi := ⟨_, _, _, _, _, _⟩) (v := ?v_98) rfl (by kernel_rfl) (by kernel_rfl) (by kernel_rfl) (fun _ _ _ h => h) (Or.inl ⟨by rfl, ?hy_98⟩) (by assumption) ?r_98
        case hy_98 => (intro w_ hS_; (try dsimp only at hS_); go_simp; try with_reducible rfl)
        try simp only [Act.put, List.setIfInBounds_toArray, List.set_cons_zero, List.set_cons_succ]
        refine wpAnyH_take (i := 12) (oi := ⟨_, _, _, _, _, _⟩) (v := ?v_99) rfl (by kernel_rfl) (by kernel_rfl) (by kernel_rfl) (fun _ _ _ h => h) (Or.inl ⟨by rfl, ?hy_99⟩) (by assumption) ?r_99
        case hy_99 => (intro w_ hS_; (try dsimp only at hS_); go_simp; try with_reducible rfl)
        try simp only [Act.put, List.setIfInBounds_toArray, List.set_cons_zero, List.set_cons_succ]
        refine wpAnyH_take (i := 13) (oi := ⟨_, _, _, _, _, _⟩) (v := ?v_100) rfl (by kernel_rfl) (by kernel_rfl) (by kernel_rfl) (fun _ _ _ h => h) (Or.inl ⟨by rfl, ?hy_100⟩) (by assumption) ?r_100
        case hy_100 => (intro w_ hS_; (try dsimp only at hS_); go_simp; try with_reducible rfl)
        try simp only [Act.put, List.setIfInBounds_toArray, List.set_cons_zero, List.set_cons_succ]
        refine wpAnyH_ready (rs := [5]) (by kernel_rfl) (by simp) ?_
        refine AllReadyH.cons (o := ⟨_, _, _, _, _, _⟩) rfl (fun K hK => ?_) AllReadyH.nil
        go_simp
        (first | (go_at_call_of 17 (Value.slice A3 M.length c3); refine (used_any A3 M.length c3 _ M xu xa _ hmm (sk_reads (by assumption) rm8) (sk_size (by assumption))).mono ?_; rintro e w' ⟨rfl, hbo⟩; rw [hum.out]) | (go_at_call_of 17 (Value.slice A n c); refine (used_any A n c _ l xu xa _ hn (sk_reads (by assumption) rl8) (sk_size (by assumption))).mono ?_; rintro e w' ⟨rfl, hbo⟩; rw [hul.out]) | (go_at_call_of 18 (Value.slice A3 M.length c3); refine (share_any A3 M.length c3 _ M yu _ hmm (sk_reads (by assumption) rm8) (sk_size (by assumption))).mono ?_; rintro e w' ⟨rfl, hbo⟩; rw [hsm.out]) | (go_at_call_of 18 (Value.slice A n c); refine (share_any A n c _ l yu _ hn (sk_reads (by assumption) rl8) (sk_size (by assumption))).mono ?_; rintro e w' ⟨rfl, hbo⟩; rw [hsl.out]) | (go_at_call 16; refine (plus2 ul xn _ _ ?_ ?_).mono ?_; (focus simp [go_sem]); (focus simp [go_sem]); rintro e w' ⟨rfl, rfl⟩; rw [hup.out]) | (go_at_call 7; refine (awake_any _).mono ?_; rintro e w' ⟨rfl, hbo⟩))
        try go_wp2_with (fail)
        refine hK.out _ _ ?_ (fun hHeld => ?_)
        · (try dsimp only); (first | assumption | exact sk_call (by assumption) hbo | exact sk_mk (below_drew (Below.refl _ _)) | (refine sk_mk (Below.alloc (And.right (by assumption)) (sk_size (by assumption)) _)))
        clear hK K
        try simp only [Act.put, List.setIfInBounds_toArray, List.set_cons_zero, List.set_cons_succ]
        refine wpAnyH_ready (rs := [11]) (by kernel_rfl) (by simp) ?_
        refine AllReadyH.cons (o := ⟨_, _, _, _, _, _⟩) rfl (fun K hK => ?_) AllReadyH.nil
        go_simp
        (first | (go_at_call_of 17 (Value.slice A3 M.length c3); refine (used_any A3 M.length c3 _ M xu xa _ hmm (sk_reads (by assumption) rm8) (sk_size (by assumption))).mono ?_; rintro e w' ⟨rfl, hbo⟩; rw [hum.out]) | (go_at_call_of 17 (Value.slice A n c); refine (used_any A n c _ l xu xa _ hn (sk_reads (by assumption) rl8) (sk_size (by assumption))).mono ?_; rintro e w' ⟨rfl, hbo⟩; rw [hul.out]) | (go_at_call_of 18 (Value.slice A3 M.length c3); refine (share_any A3 M.length c3 _ M yu _ hmm (sk_reads (by assumption) rm8) (sk_size (by assumption))).mono ?_; rintro e w' ⟨rfl, hbo⟩; rw [hsm.out]) | (go_at_call_of 18 (Value.slice A n c); refine (share_any A n c _ l yu _ hn (sk_reads (by assumption) rl8) (sk_size (by assumption))).mono ?_; rintro e w' ⟨rfl, hbo⟩; rw [hsl.out]) | (go_at_call 16; refine (plus2 ul xn _ _ ?_ ?_).mono ?_; (focus simp [go_sem]); (focus simp [go_sem]); rintro e w' ⟨rfl, rfl⟩; rw [hup.out]) | (go_at_call 7; refine (awake_any _).mono ?_; rintro e w' ⟨rfl, hbo⟩))
        try go_wp2_with (fail)
        refine hK.out _ _ ?_ (fun hHeld => ?_)
        · (try dsimp only); (first | assumption | exact sk_call (by assumption) hbo | exact sk_mk (below_drew (Below.refl _ _)) | (refine sk_mk (Below.alloc (And.right (by assumption)) (sk_size (by assumption)) _)))
        clear hK K
        try simp only [Act.put, List.setIfInBounds_toArray, List.set_cons_zero, List.set_cons_succ]
        refine wpAnyH_ready (rs := [14]) (by kernel_rfl) (by simp) ?_
        refine AllReadyH.cons (o := ⟨_, _, _, _, _, _⟩) rfl (fun K hK => ?_) AllReadyH.nil
        go_simp
        refine hK.out _ _ ?_ (fun hHeld => ?_)
        · (try dsimp only); (first | assumption | exact sk_call (by assumption) hbo | exact sk_mk (below_drew (Below.refl _ _)) | (refine sk_mk (Below.alloc (And.right (by assumption)) (sk_size (by assumption)) _)))
        clear hK K
        try simp only [Act.put, List.setIfInBounds_toArray, List.set_cons_zero, List.set_cons_succ]
        refine wpAnyH_ready (rs := [15]) (by kernel_rfl) (by simp) ?_
        refine AllReadyH.cons (o := ⟨_, _, _, _, _, _⟩) rfl (fun K hK => ?_) AllReadyH.nil
        go_simp
        (first | (go_at_call_of 17 (Value.slice A3 M.length c3); refine (used_any A3 M.length c3 _ M xu xa _ hmm (sk_reads (by assumption) rm8) (sk_size (by assumption))).mono ?_; rintro e w' ⟨rfl, hbo⟩; rw [hum.out]) | (go_at_call_of 17 (Value.slice A n c); refine (used_any A n c _ l xu xa _ hn (sk_reads (by assumption) rl8) (sk_size (by assumption))).mono ?_; rintro e w' ⟨rfl, hbo⟩; rw [hul.out]) | (go_at_call_of 18 (Value.slice A3 M.length c3); refine (share_any A3 M.length c3 _ M yu _ hmm (sk_reads (by assumption) rm8) (sk_size (by assumption))).mono ?_; rintro e w' ⟨rfl, hbo⟩; rw [hsm.out]) | (go_at_call_of 18 (Value.slice A n c); refine (share_any A n c _ l yu _ hn (sk_reads (by assumption) rl8) (sk_size (by assumption))).mono ?_; rintro e w' ⟨rfl, hbo⟩; rw [hsl.out]) | (go_at_call 16; refine (plus2 ul xn _ _ ?_ ?_).mono ?_; (focus simp [go_sem]); (focus simp [go_sem]); rintro e w' ⟨rfl, rfl⟩; rw [hup.out]) | (go_at_call 7; refine (awake_any _).mono ?_; rintro e w' ⟨rfl, hbo⟩))
        try go_wp2_with (fail)
        refine hK.out _ _ ?_ (fun hHeld => ?_)
        · (try dsimp only); (first | assumption | exact sk_call (by assumption) hbo | exact sk_mk (below_drew (Below.refl _ _)) | (refine sk_mk (Below.alloc (And.right (by assumption)) (sk_size (by assumption)) _)))
        clear hK K
        try simp only [Act.put, List.setIfInBounds_toArray, List.set_cons_zero, List.set_cons_succ]
        refine wpAnyH_take (i := 16) (oi := ⟨_, _, _, _, _, _⟩) (v := ?v_101) rfl (by kernel_rfl) (by kernel_rfl) (by kernel_rfl) (fun _ _ _ h => h) (Or.inl ⟨by rfl, ?hy_101⟩) (by assumption) ?r_101
        case hy_101 => (intro w_ hS_; (try dsimp only at hS_); go_simp; try with_reducible rfl)
        try simp only [Act.put, List.setIfInBounds_toArray, List.set_cons_zero, List.set_cons_succ]
        refine wpAnyH_take (i := 17) (oi := ⟨_, _, _, _, _, _⟩) (v := ?v_102) rfl (by kernel_rfl) (by kernel_rfl) (by kernel_rfl) (fun _ _ _ h => h) (Or.inl ⟨by rfl, ?hy_102⟩) (by assumption) ?r_102
        case hy_102 => (intro w_ hS_; (try dsimp only at hS_); go_simp; try with_reducible rfl)
        try simp only [Act.put, List.setIfInBounds_toArray, List.set_cons_zero, List.set_cons_succ]
        refine wpAnyH_take (i := 18) (oi := ⟨_, _, _, _, _, _⟩) (v := ?v_103) rfl (by kernel_rfl) (by kernel_rfl) (by kernel_rfl) (fun _ _ _ h => h) (Or.inl ⟨by rfl, ?hy_103⟩) (by assumption) ?r_103
        case hy_103 => (intro w_ hS_; (try dsimp only at hS_); go_simp; try with_reducible rfl)
        try simp only [Act.put, List.setIfInBounds_toArray, List.set_cons_zero, List.set_cons_succ]
        refine wpAnyH_take (i := 19) (oi := ⟨_, _, _, _, _, _⟩) (v := ?v_104) rfl (by kernel_rfl) (by kernel_rfl) (by kernel_rfl) (fun _ _ _ h => h) (Or.inl ⟨by rfl, ?hy_104⟩) (by assumption) ?r_104
        case hy_104 => (intro w_ hS_; (try dsimp only at hS_); go_simp; try with_reducible rfl)
        try simp only [Act.put, List.setIfInBounds_toArray, List.set_cons_zero, List.set_cons_succ]
        refine wpAnyH_take (i := 20) (oi := ⟨_, _, _, _, _, _⟩) (v := ?v_105) rfl (by kernel_rfl) (by kernel_rfl) (by kernel_rfl) (fun _ _ _ h => h) (Or.inl ⟨by rfl, ?hy_105⟩) (by assumption) ?r_105
        case hy_105 => (intro w_ hS_; (try dsimp only at hS_); go_simp; try with_reducible rfl)
        try simp only [Act.put, List.setIfInBounds_toArray, List.set_cons_zero, List.set_cons_succ]
        refine wpAnyH_take (i := 21) (oi := ⟨_, _, _, _, _, _⟩) (v := ?v_106) rfl (by kernel_rfl) (by kernel_rfl) (by kernel_rfl) (fun _ _ _ h => h) (Or.inl ⟨by rfl, ?hy_106⟩) (by assumption) ?r_106
        case hy_106 => (intro w_ hS_; (try dsimp only at hS_); go_simp; try with_reducible rfl)
        try simp only [Act.put, List.setIfInBounds_toArray, List.set_cons_zero, List.set_cons_succ]
        refine wpAnyH_take (i := 22) (oi := ⟨_, _, _, _, _, _⟩) (v := ?v_107) rfl (by kernel_rfl) (by kernel_rfl) (by kernel_rfl) (fun _ _ _ h => h) (Or.inl ⟨by rfl, ?hy_107⟩) (by assumption) ?r_107
        case hy_107 => (intro w_ hS_; (try dsimp only at hS_); go_simp; try with_reducible rfl)
        try simp only [Act.put, List.setIfInBounds_toArray, List.set_cons_zero, List.set_cons_succ]
        refine wpAnyH_take (i := 23) (oi := ⟨_, _, _, _, _, _⟩) (v := ?v_108) rfl (by kernel_rfl) (by kernel_rfl) (by kernel_rfl) (fun _ _ _ h => h) (Or.inl ⟨by rfl, ?hy_108⟩) (by assumption) ?r_108
        case hy_108 => (intro w_ hS_; (try dsimp only at hS_); go_simp; try with_reducible rfl)
        try simp only [Act.put, List.setIfInBounds_toArray, List.set_cons_zero, List.set_cons_succ]
        refine wpAnyH_take (i := 24) (oi := ⟨_, _, _, _, _, _⟩) (v := ?v_109) rfl (by kernel_rfl) (by kernel_rfl) (by kernel_rfl) (fun _ _ _ h => h) (Or.inl ⟨by rfl, ?hy_109⟩) (by assumption) ?r_109
        case hy_109 => (intro w_ hS_; (try dsimp only at hS_); go_simp; try with_reducible rfl)
        try simp only [Act.put, List.setIfInBounds_toArray, List.set_cons_zero, List.set_cons_succ]
        refine wpAnyH_take (i := 25) (oi := ⟨_, _, _, _, _, _⟩) (v := ?v_110) rfl (by kernel_rfl) (by kernel_rfl) (by kernel_rfl) (fun _ _ _ h => h) (Or.inl ⟨by rfl, ?hy_110⟩) (by assumption) ?r_110
        case hy_110 => (intro w_ hS_; (try dsimp only at hS_); go_simp; try with_reducible rfl)
        try simp only [Act.put, List.setIfInBounds_toArray, List.set_cons_zero, List.set_cons_succ]
        refine wpAnyH_take (i := 26) (oi := ⟨_, _, _, _, _, _⟩) (v := ?v_111) rfl (by kernel_rfl) (by kernel_rfl) (by kernel_rfl) (fun _ _ _ h => h) (Or.inl ⟨by rfl, ?hy_111⟩) (by assumption) ?r_111
        case hy_111 => (intro w_ hS_; (try dsimp only at hS_); go_simp; try with_reducible rfl)
        try simp only [Act.put, List.setIfInBounds_toArray, List.set_cons_zero, List.set_cons_succ]
        refine wpAnyH_take (i := 28) (oi := ⟨_, _, _, _, _, _⟩) (v := ?v_112) rfl (by kernel_rfl) (by kernel_rfl) (by kernel_rfl) (fun _ _ _ h => h) (Or.inl ⟨by rfl, ?hy_112⟩) (by assumption) ?r_112
        case hy_112 => (intro w_ hS_; (try dsimp only at hS_); go_simp; try with_reducible rfl)
        try simp only [Act.put, List.setIfInBounds_toArray, List.set_cons_zero, List.set_cons_succ]
        refine wpAnyH_take (i := 29) (oi := ⟨_, _, _, _, _, _⟩) (v := ?v_113) rfl (by kernel_rfl) (by kernel_rfl) (by kernel_rfl) (fun _ _ _ h => h) (Or.inl ⟨by rfl, ?hy_113⟩) (by assumption) ?r_113
        case hy_113 => (intro w_ hS_; (try dsimp only at hS_); go_simp; try with_reducible rfl)
        try simp only [Act.put, List.setIfInBounds_toArray, List.set_cons_zero, List.set_cons_succ]
        refine wpAnyH_take (i := 30) (oi := ⟨_, _, _, _, _, _⟩) (v := ?v_114) rfl (by kernel_rfl) (by kernel_rfl) (by kernel_rfl) (fun _ _ _ h => h) (Or.inl ⟨by rfl, ?hy_114⟩) (by assumption) ?r_114
        case hy_114 => (intro w_ hS_; (try dsimp only at hS_); go_simp; try with_reducible rfl)
        try simp only [Act.put, List.setIfInBounds_toArray, List.set_cons_zero, List.set_cons_succ]
        refine wpAnyH_ready (rs := [27]) (by kernel_rfl) (by simp) ?_
        refine AllReadyH.cons (o := ⟨_, _, _, _, _, _⟩) rfl (fun K hK => ?_) AllReadyH.nil
        go_simp
        (first | (go_at_call_of 17 (Value.slice A3 M.length c3); refine (used_any A3 M.length c3 _ M xu xa _ hmm (sk_reads (by assumption) rm8) (sk_size (by assumption))).mono ?_; rintro e w' ⟨rfl, hbo⟩; rw [hum.out]) | (go_at_call_of 17 (Value.slice A n c); refine (used_any A n c _ l xu xa _ hn (sk_reads (by assumption) rl8) (sk_size (by assumption))).mono ?_; rintro e w' ⟨rfl, hbo⟩; rw [hul.out]) | (go_at_call_of 18 (Value.slice A3 M.length c3); refine (share_any A3 M.length c3 _ M yu _ hmm (sk_reads (by assumption) rm8) (sk_size (by assumption))).mono ?_; rintro e w' ⟨rfl, hbo⟩; rw [hsm.out]) | (go_at_call_of 18 (Value.slice A n c); refine (share_any A n c _ l yu _ hn (sk_reads (by assumption) rl8) (sk_size (by assumption))).mono ?_; rintro e w' ⟨rfl, hbo⟩; rw [hsl.out]) | (go_at_call 16; refine (plus2 ul xn _ _ ?_ ?_).mono ?_; (focus simp [go_sem]); (focus simp [go_sem]); rintro e w' ⟨rfl, rfl⟩; rw [hup.out]) | (go_at_call 7; refine (awake_any _).mono ?_; rintro e w' ⟨rfl, hbo⟩))
        try go_wp2_with (fail)
        refine hK.out _ _ ?_ (fun hHeld => ?_)
        · (try dsimp only); (first | assumption | exact sk_call (by assumption) hbo | exact sk_mk (below_drew (Below.refl _ _)) | (refine sk_mk (Below.alloc (And.right (by assumption)) (sk_size (by assumption)) _)))
        clear hK K
        try simp only [Act.put, List.setIfInBounds_toArray, List.set_cons_zero, List.set_cons_succ]
        refine wpAnyH_ready (rs := [31]) (by kernel_rfl) (by simp) ?_
        refine AllReadyH.cons (o := ⟨_, _, _, _, _, _⟩) rfl (fun K hK => ?_) AllReadyH.nil
        go_simp
        (first | (go_at_call_of 17 (Value.slice A3 M.length c3); refine (used_any A3 M.length c3 _ M xu xa _ hmm (sk_reads (by assumption) rm8) (sk_size (by assumption))).mono ?_; rintro e w' ⟨rfl, hbo⟩; rw [hum.out]) | (go_at_call_of 17 (Value.slice A n c); refine (used_any A n c _ l xu xa _ hn (sk_reads (by assumption) rl8) (sk_size (by assumption))).mono ?_; rintro e w' ⟨rfl, hbo⟩; rw [hul.out]) | (go_at_call_of 18 (Value.slice A3 M.length c3); refine (share_any A3 M.length c3 _ M yu _ hmm (sk_reads (by assumption) rm8) (sk_size (by assumption))).mono ?_; rintro e w' ⟨rfl, hbo⟩; rw [hsm.out]) | (go_at_call_of 18 (Value.slice A n c); refine (share_any A n c _ l yu _ hn (sk_reads (by assumption) rl8) (sk_size (by assumption))).mono ?_; rintro e w' ⟨rfl, hbo⟩; rw [hsl.out]) | (go_at_call 16; refine (plus2 ul xn _ _ ?_ ?_).mono ?_; (focus simp [go_sem]); (focus simp [go_sem]); rintro e w' ⟨rfl, rfl⟩; rw [hup.out]) | (go_at_call 7; refine (awake_any _).mono ?_; rintro e w' ⟨rfl, hbo⟩))
        try go_wp2_with (fail)
        refine hK.out _ _ ?_ (fun hHeld => ?_)
        · (try dsimp only); (first | assumption | exact sk_call (by assumption) hbo | exact sk_mk (below_drew (Below.refl _ _)) | (refine sk_mk (Below.alloc (And.right (by assumption)) (sk_size (by assumption)) _)))
        clear hK K
        try simp only [Act.put, List.setIfInBounds_toArray, List.set_cons_zero, List.set_cons_succ]
        refine wpAnyH_take (i := 32) (oi := ⟨_, _, _, _, _, _⟩) (v := ?v_115) rfl (by kernel_rfl) (by kernel_rfl) (by kernel_rfl) (fun _ _ _ h => h) (Or.inl ⟨by rfl, ?hy_115⟩) (by assumption) ?r_115
        case hy_115 => (intro w_ hS_; (try dsimp only at hS_); go_simp; try with_reducible rfl)
        try simp only [Act.put, List.setIfInBounds_toArray, List.set_cons_zero, List.set_cons_succ]
        refine wpAnyH_take (i := 33) (oi := ⟨_, _, _, _, _, _⟩) (v := ?v_116) rfl (by kernel_rfl) (by kernel_rfl) (by kernel_rfl) (fun _ _ _ h => h) (Or.inl ⟨by rfl, ?hy_116⟩) (by assumption) ?r_116
        case hy_116 => (intro w_ hS_; (try dsimp only at hS_); go_simp; try with_reducible rfl)
        try simp only [Act.put, List.setIfInBounds_toArray, List.set_cons_zero, List.set_cons_succ]
        refine wpAnyH_take (i := 34) (oi := ⟨_, _, _, _, _, _⟩) (v := ?v_117) rfl (by kernel_rfl) (by kernel_rfl) (by kernel_rfl) (fun _ _ _ h => h) (Or.inl ⟨by rfl, ?hy_117⟩) (by assumption) ?r_117
        case hy_117 => (intro w_ hS_; (try dsimp only at hS_); go_simp; try with_reducible rfl)
        try simp only [Act.put, List.setIfInBounds_toArray, List.set_cons_zero, List.set_cons_succ]
        refine wpAnyH_take (i := 35) (oi := ⟨_, _, _, _, _, _⟩) (v := ?v_118) rfl (by kernel_rfl) (by kernel_rfl) (by kernel_rfl) (fun _ _ _ h => h) (Or.inl ⟨by rfl, ?hy_118⟩) (by assumption) ?r_118
        case hy_118 => (intro w_ hS_; (try dsimp only at hS_); go_simp; try with_reducible rfl)
        try simp only [Act.put, List.setIfInBounds_toArray, List.set_cons_zero, List.set_cons_succ]
        refine wpAnyH_ready (rs := [36]) (by kernel_rfl) (by simp) ?_
        refine AllReadyH.cons (o := ⟨_, _, _, _, _, _⟩) rfl (fun K hK => ?_) AllReadyH.nil
        go_simp
        (first | (go_at_call_of 17 (Value.slice A3 M.length c3); refine (used_any A3 M.length c3 _ M xu xa _ hmm (sk_reads (by assumption) rm8) (sk_size (by assumption))).mono ?_; rintro e w' ⟨rfl, hbo⟩; rw [hum.out]) | (go_at_call_of 17 (Value.slice A n c); refine (used_any A n c _ l xu xa _ hn (sk_reads (by assumption) rl8) (sk_size (by assumption))).mono ?_; rintro e w' ⟨rfl, hbo⟩; rw [hul.out]) | (go_at_call_of 18 (Value.slice A3 M.length c3); refine (share_any A3 M.length c3 _ M yu _ hmm (sk_reads (by assumption) rm8) (sk_size (by assumption))).mono ?_; rintro e w' ⟨rfl, hbo⟩; rw [hsm.out]) | (go_at_call_of 18 (Value.slice A n c); refine (share_any A n c _ l yu _ hn (sk_reads (by assumption) rl8) (sk_size (by assumption))).mono ?_; rintro e w' ⟨rfl, hbo⟩; rw [hsl.out]) | (go_at_call 16; refine (plus2 ul xn _ _ ?_ ?_).mono ?_; (focus simp [go_sem]); (focus simp [go_sem]); rintro e w' ⟨rfl, rfl⟩; rw [hup.out]) | (go_at_call 7; refine (awake_any _).mono ?_; rintro e w' ⟨rfl, hbo⟩))
        try go_wp2_with (fail)
        refine hK.out _ _ ?_ (fun hHeld => ?_)
        · (try dsimp only); (first | assumption | exact sk_call (by assumption) hbo | exact sk_mk (below_drew (Below.refl _ _)) | (refine sk_mk (Below.alloc (And.right (by assumption)) (sk_size (by assumption)) _)))
        clear hK K
        try simp only [Act.put, List.setIfInBounds_toArray, List.set_cons_zero, List.set_cons_succ]
        refine wpAnyH_take (i := 37) (oi := ⟨_, _, _, _, _, _⟩) (v := ?v_119) rfl (by kernel_rfl) (by kernel_rfl) (by kernel_rfl) (fun _ _ _ h => h) (Or.inl ⟨by rfl, ?hy_119⟩) (by assumption) ?r_119
        case hy_119 => (intro w_ hS_; (try dsimp only at hS_); go_simp; try with_reducible rfl)
        try simp only [Act.put, List.setIfInBounds_toArray, List.set_cons_zero, List.set_cons_succ]
        refine wpAnyH_take (i := 38) (oi := ⟨_, _, _, _, _, _⟩) (v := ?v_120) rfl (by kernel_rfl) (by kernel_rfl) (by kernel_rfl) (fun _ _ _ h => h) (Or.inl ⟨by rfl, ?hy_120⟩) (by assumption) ?r_120
        case hy_120 => (intro w_ hS_; (try dsimp only at hS_); go_simp; try with_reducible rfl)
        try simp only [Act.put, List.setIfInBounds_toArray, List.set_cons_zero, List.set_cons_succ]
        refine wpAnyH_done (by kernel_rfl) ?_ _
        have bf := And.right (by assumption : (∀ b o, b < w8.heap.size → World.cell? _ ⟨b, o, none⟩ = w8.cell? ⟨b, o, none⟩) ∧ Below w8.heap.size w8 _)
        go_wp2
        go_ret
        exact ⟨rfl, bw8.trans (bf.mono (by omega))⟩
end Go.Proofs.Ytlhogedcokcmhaa
