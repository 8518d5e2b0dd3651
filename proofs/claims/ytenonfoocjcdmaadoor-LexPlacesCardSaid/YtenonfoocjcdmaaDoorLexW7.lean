/- Layer 5: a number or a time. -/
import Derived.Test.YtenonfoocjcdmaaDoorLexW6
namespace Go.Proofs.YtenonfoocjcdmaaDoor
set_option linter.unusedVariables false
open Go.RowKit
/-- what is told of a token: it, its place aside, and the reader behind it; or the reader's error -/
def NextIs (R n c : Nat) (A : Option Addr) (rs : List Nat) (bad : Int) (w : World) (r : (Tk × Nat) ⊕ (Nat × Int)) (e : Ending) (w' : World) : Prop :=
  match r with
  | .inl (t, m) => e = .returned (tkV ⟨t.kind, t.text, t.num, 0⟩) ∧ Rd w' R A n c rs m bad 0 ∧ Kb (· = R) w w'
  | .inr (a, er) => (∃ t, e = .returned (tkV t)) ∧ (∃ k : Nat, Rd w' R A n c rs k a er) ∧ Kb (· = R) w w'
theorem cut_small {rs : List Nat} {i : Nat} : ∀ r ∈ cutR rs i (endD rs i), smallR r = true := by
  intro r hr
  obtain ⟨k, h1, h2, h3⟩ := cutR_mem hr
  exact spanI_in (p := smallR) h1 h2 h3
theorem cut_ne {rs : List Nat} {i x : Nat} (hx : rs[i]? = some x) (hd : classV x = 3) : cutR rs i (endD rs i) ≠ [] := by
  have h1 : i < endD rs i := spanI_pos hx (digit_small hd)
  have h2 : endD rs i ≤ rs.length := spanI_le (by have := (List.getElem?_eq_some_iff.1 hx).1; omega)
  intro e
  have h3 := cutR_len (rs := rs) (i := i) h2
  rw [e] at h3
  simp at h3; omega
theorem small_lt {r : Nat} (h : smallR r = true) : r < 128 := by unfold smallR at h; simp at h; omega
def alTok (w : World) : World := w.alloc tok0
set_option maxHeartbeats 1000000 in
theorem countR_any (R n c : Nat) (A : Option Addr) (rs : List Nat) (i x : Nat) (bad : Int) (w : World) (h0 : Rd w R A n c rs i bad 0) (hx : rs[i]? = some x) (hd : classV x = 3) (hn : n ≤ 100000) (hcm : c ≤ maxLen) :
    Calls Tryd.prog 70 #[.pointer (some ⟨R, 0, none⟩)] w (NextIs R n c A rs bad w (countP rs i)) := by
  have hR := h0.lt
  have hlen := h0.len
  have hin : i ≤ n := by have := (List.getElem?_eq_some_iff.1 hx).1; omega
  have hne := Lib.hid (cut_ne hx hd)
  have hsm := Lib.hid (cut_small (rs := rs) (i := i))
  have hcl := cutR_le rs i (endD rs i)
  have b1 : Below w.heap.size w (alTok w) := (Below.refl _ w).alloc (Nat.le_refl _) _
  have hr1 := h0.below b1
  have hz1 : (alTok w).heap.size = w.heap.size + 1 := by simp [alTok]
  have c1 : (alTok w).cell? ⟨R, 1, none⟩ = some (.int .i64 i) := hr1.c1
  have hwh := Lib.hid (smalls_any R n c A rs i bad 0 (alTok w) hr1 hin hn hcm)
  have ht1 := Lib.hid (heap_alloc_new w tok0)
  obtain ⟨l, hl⟩ : ∃ l, Hid (cutR rs i (endD rs i) = l) := ⟨_, rfl⟩
  have hP : Hid (countP rs i = if l.all digR then (if numOk l then .inl (⟨2, ⟨#[]⟩, (valR l : Int), i⟩, endD rs i) else .inr (i, 50)) else .inl (⟨3, strR l, 0, i⟩, endD rs i)) := by
    show _ = _; unfold countP; rw [hl.out]
  obtain ⟨m, hm⟩ : ∃ m, Hid (endD rs i = m) := ⟨_, rfl⟩
  rw [hl.out] at hne hsm hcl hwh
  rw [hm.out] at hP hwh
  have hsz : (strR l).size = l.length := strR_size (fun r hr => small_lt (hsm.out r hr))
  have hrl : Hid (runes (bl (strR l)) = l) := runes_small hsm.out
  have hl0 : l.length ≠ 0 := fun e => hne.out (List.eq_nil_of_length_eq_zero e)
  obtain ⟨s, hs⟩ : ∃ s, Hid (strR l = s) := ⟨_, rfl⟩
  rw [hs.out] at hwh hsz hP hrl
  have H0 := Lib.hid h0
  have B1 := Lib.hid b1
  have c0 : (w.alloc (.cells #[.int .i64 0, .string ⟨#[]⟩, .int .i64 0, .int .i64 0] 42)).cell? ⟨R, 1, none⟩ = some (.int .i64 i) := c1
  clear h0 b1 hr1 c1
  by_cases hall : l.all digR = true
  · have hdg := Lib.hid (List.all_eq_true.1 hall)
    have hdy : Hid (∀ v : World, Calls Tryd.prog 94 #[.string s] v fun e v' => e = .returned (.bool true) ∧ Below v.heap.size v v') := fun v => digits_yes s v (by unfold maxLen; omega) (by rw [hrl.out]; exact hall) (by omega)
    by_cases hok : numOk l = true
    · have hP2 : Hid (countP rs i = .inl (⟨2, ⟨#[]⟩, (valR l : Int), i⟩, m)) := by show _ = _; rw [hP.out, if_pos hall, if_pos hok]
      have hnm : Hid (∀ v : World, Calls Tryd.prog 95 #[.string s] v fun e v' => e = .returned (.tuple #[.int .i64 (valR l), .bool true]) ∧ Below v.heap.size v v') := fun v => by have := number_ok l v hdg.out hne.out hok; rw [hs.out] at this; exact this
      clear hall hok hP
      go_enter Tryd.func70, Tryd.ntmps70
      go_wp2_with (first
        | (go_at_call 49; refine Calls.mono hwh.out ?_; rintro e w2 ⟨rfl, hr2, hk2⟩; have e2 : w2.heap[w.heap.size]? = some tok0 := (hk2.block _ (by omega) (by omega)).trans ht1.out; have hz2 : w.heap.size + 1 ≤ w2.heap.size := (by have := hk2.size; omega); replace hr2 := Lib.hid hr2; replace hk2 := Lib.hid hk2; replace e2 := Lib.hid e2)
        | (go_at_call 94; refine (hdy.out _).mono ?_; rintro e w3 ⟨rfl, hb3⟩; have hz3 := hb3.size)
        | (go_at_call 95; refine (hnm.out _).mono ?_; rintro e w4 ⟨rfl, hb4⟩; have e4 : w4.heap[w.heap.size]? = some tok0 := (hb4.block _ (by omega)).trans ((hb3.block _ (by omega)).trans e2.out); obtain ⟨e4f, e40, e41, e42, e43⟩ := row4 e4))
      (try simp only [Exit.inBlock, Exit.then])
      refine bodyPost_ret (results_cell_row rfl _ _ w.heap.size _ _ _ _ rfl (set4_blk e4) Tryd.underlying42 rfl (by kernel_rfl)) rfl ?_
      have k24 : Kb (fun b => w.heap.size ≤ b) w2 w4 := (Kb.of_below hb3).trans (Kb.of_below hb4)
      have kb : Kb (fun b => b = R ∨ w.heap.size ≤ b) w w4 := ((Kb.of_below B1.out).trans (hk2.out.mono (fun b hb => Or.inl hb))).trans (k24.mono (fun b hb => Or.inr hb))
      rw [hP2.out]
      exact ⟨rfl, H0.out.keepNew hr2.out (set4 k24 (Nat.le_refl _)), Kb.fresh (set4 kb (Or.inr (Nat.le_refl _)))⟩
    · have hok' : numOk l = false := by simpa using hok
      have hP2 : Hid (countP rs i = .inr (i, 50)) := by show _ = _; rw [hP.out, if_pos hall, if_neg hok]
      have hnm : Hid (∀ v : World, Calls Tryd.prog 95 #[.string s] v fun e v' => e = .returned (.tuple #[.int .i64 0, .bool false]) ∧ Below v.heap.size v v') := fun v => by have := number_bad l v hdg.out hne.out (by omega) hok'; rw [hs.out] at this; exact this
      clear hall hok hP hok'
      go_enter Tryd.func70, Tryd.ntmps70
      go_wp2_with (first
        | (go_at_call 49; refine Calls.mono hwh.out ?_; rintro e w2 ⟨rfl, hr2, hk2⟩; have e2 : w2.heap[w.heap.size]? = some tok0 := (hk2.block _ (by omega) (by omega)).trans ht1.out; have hz2 : w.heap.size + 1 ≤ w2.heap.size := (by have := hk2.size; omega); replace hr2 := Lib.hid hr2; replace hk2 := Lib.hid hk2; replace e2 := Lib.hid e2)
        | (go_at_call 94; refine (hdy.out _).mono ?_; rintro e w3 ⟨rfl, hb3⟩; have hz3 := hb3.size)
        | (go_at_call 95; refine (hnm.out _).mono ?_; rintro e w4 ⟨rfl, hb4⟩; have hz4 := hb4.size; have e4 : Hid (w4.heap[w.heap.size]? = some tok0) := (hb4.block _ (by omega)).trans ((hb3.block _ (by omega)).trans e2.out); have hr4 := Lib.hid ((hr2.out.below hb3).below hb4))
        | (go_at_call 73; refine (fail_first _ _ _ _ _ _ _ _ _ _ hr4.out).mono ?_; rintro e w5 ⟨rfl, hr5, hk5⟩; have e5 : w5.heap[w.heap.size]? = some tok0 := (hk5.block _ (by omega) (by omega)).trans e4.out; obtain ⟨e5f, e50, e51, e52, e53⟩ := row4 e5))
      (try simp only [Exit.inBlock, Exit.then])
      refine bodyPost_ret (results_cell_row rfl _ _ w.heap.size _ _ _ _ rfl (set4_blk e5) Tryd.underlying42 rfl (by kernel_rfl)) rfl ?_
      have kb : Kb (fun b => b = R ∨ w.heap.size ≤ b) w w5 := ((((Kb.of_below B1.out).trans (hk2.out.mono (fun b hb => Or.inl hb))).trans (Kb.of_below hb3)).trans (Kb.of_below hb4)).trans (hk5.mono (fun b hb => Or.inl hb))
      rw [hP2.out]
      exact ⟨⟨⟨_, _, _, _⟩, rfl⟩, ⟨m, H0.out.keepNew hr5 (set4 (Kb.refl _ _) (Nat.le_refl _))⟩, Kb.fresh (set4 kb (Or.inr (Nat.le_refl _)))⟩
  · have hall' : l.all digR = false := by simpa using hall
    have hP2 : Hid (countP rs i = .inl (⟨3, s, 0, i⟩, m)) := by show _ = _; rw [hP.out, if_neg hall]
    have hdy : Hid (∀ v : World, Calls Tryd.prog 94 #[.string s] v fun e v' => e = .returned (.bool false) ∧ Below v.heap.size v v') := fun v => digits_no s v (by unfold maxLen; omega) (by rw [hrl.out]; exact hall')
    clear hall hall' hP
    go_enter Tryd.func70, Tryd.ntmps70
    go_wp2_with (first
        | (go_at_call 49; refine Calls.mono hwh.out ?_; rintro e w2 ⟨rfl, hr2, hk2⟩; have e2 : w2.heap[w.heap.size]? = some tok0 := (hk2.block _ (by omega) (by omega)).trans ht1.out; have hz2 : w.heap.size + 1 ≤ w2.heap.size := (by have := hk2.size; omega); replace hr2 := Lib.hid hr2; replace hk2 := Lib.hid hk2; replace e2 := Lib.hid e2)
        | (go_at_call 94; refine (hdy.out _).mono ?_; rintro e w3 ⟨rfl, hb3⟩; have e4 : w3.heap[w.heap.size]? = some tok0 := (hb3.block _ (by omega)).trans e2.out; obtain ⟨e4f, e40, e41, e42, e43⟩ := row4 e4))
    (try simp only [Exit.inBlock, Exit.then])
    refine bodyPost_ret (results_cell_row rfl _ _ w.heap.size _ _ _ _ rfl (set4_blk e4) Tryd.underlying42 rfl (by kernel_rfl)) rfl ?_
    have k24 : Kb (fun b => w.heap.size ≤ b) w2 w3 := Kb.of_below hb3
    have kb : Kb (fun b => b = R ∨ w.heap.size ≤ b) w w3 := ((Kb.of_below B1.out).trans (hk2.out.mono (fun b hb => Or.inl hb))).trans (k24.mono (fun b hb => Or.inr hb))
    rw [hP2.out]
    exact ⟨rfl, H0.out.keepNew hr2.out (set4 k24 (Nat.le_refl _)), Kb.fresh (set4 kb (Or.inr (Nat.le_refl _)))⟩
end Go.Proofs.YtenonfoocjcdmaaDoor
