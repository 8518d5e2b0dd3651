/- Layer 5: a word; a number or a time. Layer 5: a number or a time. Layer 5: a quoted text. Layer 5: the next token. Layer 5: the tokens of a line. -/
import Derived.Test.YtmkmmggimokagaaGreatDoorK6
import Derived.Laws.EntriesVeiled
import Derived.Test.YtmkmmggimokagaaGreatDoorShelf
namespace Go.Proofs.YtmkmmggimokagaaGreatDoor
set_option linter.unusedVariables false
open Go.RowKit
def tok0 : Obj := .cells #[.int .i64 0, .string ⟨#[]⟩, .int .i64 0, .int .i64 0] 128
/-- the world in which a word is read: the token, the classes, the closure -/
def wordW (w : World) : World :=
  (((w.alloc tok0).alloc (.cells #[.int .i64 2, .int .i64 3] 3)).alloc (.cells #[.slice (some ⟨w.heap.size + 1, 0, none⟩) 2 2] 38)).alloc (.cells #[.func (.func 115) #[] #[.pointer (some ⟨w.heap.size + 2, 0, none⟩)]] 155)
theorem strR_small (l : List Nat) : (strR l).size ≤ 4 * l.length := by
  rw [← bl_len, bl_strR]
  induction l with
  | nil => simp
  | cons r t ih => rw [List.flatMap_cons, List.length_append, List.length_cons]; have := enc_len r; omega
theorem cutR_le (rs : List Nat) (i m : Nat) : (cutR rs i m).length ≤ rs.length := by unfold cutR; simp; omega
theorem row4 {v : World} {b : Nat} {a0 a1 a2 a3 : Value} {t : TypeId} (h : v.heap[b]? = some (.cells #[a0, a1, a2, a3] t (0, 0))) :
    (∀ j, v.frozen? ⟨b, j, none⟩ = false) ∧ v.cell? ⟨b, 0, none⟩ = some a0 ∧ v.cell? ⟨b, 1, none⟩ = some a1 ∧ v.cell? ⟨b, 2, none⟩ = some a2 ∧ v.cell? ⟨b, 3, none⟩ = some a3 := by
  refine ⟨fun j => by simp [World.frozen?, h], ?_, ?_, ?_, ?_⟩ <;> simp [World.cell?, h]
theorem Kb.fresh {S : Nat → Prop} {w w' : World} (h : Kb (fun b => S b ∨ w.heap.size ≤ b) w w') : Kb S w w' :=
  ⟨h.os, h.tape, h.output, h.size, fun b hb hn => h.block b hb (fun x => x.elim hn (fun y => absurd hb (by omega)))⟩
theorem Rd.keepNew {w0 w w' : World} {R n c : Nat} {A : Option Addr} {rs : List Nat} {k0 bad0 err0 k bad err : Int} (h0 : Rd w0 R A n c rs k0 bad0 err0) (h : Rd w R A n c rs k bad err) (hk : Kb (fun b => w0.heap.size ≤ b) w w') : Rd w' R A n c rs k bad err :=
  ⟨(hk.block R h.lt (by have := h0.lt; omega)).trans h.blk, h.len, h.cap, fun hn => by
    obtain ⟨g, e, hg, hc⟩ := h.line hn
    obtain ⟨g', e', hg', hc'⟩ := h0.line hn
    have eg : g = g' := by rw [e] at e'; injection e' with e'; injection e'
    subst eg
    refine ⟨g, e, hg, fun j r hr => ?_⟩
    have h1 := hc j r hr
    have h2 := cell_lt (hc' j r hr)
    exact (hk.cell (cell_lt h1) (fun x => absurd h2 (by simpa using x))).trans h1⟩
theorem set4 {S : Nat → Prop} {w w' : World} {b : Nat} {a0 a1 a2 a3 : Value} (h : Kb S w w') (hb : S b) : Kb S w ((((w'.setCell ⟨b, 0, none⟩ a0).setCell ⟨b, 1, none⟩ a1).setCell ⟨b, 2, none⟩ a2).setCell ⟨b, 3, none⟩ a3) :=
  (((h.set_ (p := ⟨b, 0, none⟩) hb _).set_ (p := ⟨b, 1, none⟩) hb _).set_ (p := ⟨b, 2, none⟩) hb _).set_ (p := ⟨b, 3, none⟩) hb _
theorem set4_blk {v : World} {b : Nat} {x0 x1 x2 x3 a0 a1 a2 a3 : Value} {t : TypeId} (h : v.heap[b]? = some (.cells #[x0, x1, x2, x3] t (0, 0))) :
    ((((v.setCell ⟨b, 0, none⟩ a0).setCell ⟨b, 1, none⟩ a1).setCell ⟨b, 2, none⟩ a2).setCell ⟨b, 3, none⟩ a3).heap[b]? = some (.cells #[a0, a1, a2, a3] t (0, 0)) := by
  simp [World.setCell, Array.getElem?_modify, h]
set_option maxHeartbeats 1000000 in
theorem word_any (R n c : Nat) (A : Option Addr) (rs : List Nat) (i : Nat) (bad : Int) (w : World) (h0 : Rd w R A n c rs i bad 0) (hin : i ≤ n) (hn : n ≤ 100000) (hcm : c ≤ maxLen) :
    Calls Tryz.prog 116 #[.pointer (some ⟨R, 0, none⟩)] w fun e w' =>
      e = .returned (tkV ⟨1, lowT (cutR rs i (endW rs i)), 0, 0⟩) ∧ Rd w' R A n c rs (endW rs i) bad 0 ∧ Kb (· = R) w w' := by
  have hmf : ∀ (fn : Fn) (first cap : Array Value) (w : World), (Instr.makeFunc fn first cap).run Tryz.prog w = .ok (.func fn first cap) w := fun _ _ _ _ => rfl
  have hR := h0.lt
  have hlen := h0.len
  have hcl := cutR_le rs i (endW rs i)
  have hss := strR_small (cutR rs i (endW rs i))
  have hlow : Hid (lowT (cutR rs i (endW rs i)) = ⟨((bl (strR (cutR rs i (endW rs i)))).map lowB).toArray⟩) := rfl
  obtain ⟨s, hs⟩ : ∃ s, Hid (strR (cutR rs i (endW rs i)) = s) := ⟨_, rfl⟩
  rw [hs.out] at hss hlow
  have b4 : Below w.heap.size w (wordW w) := by
    unfold wordW
    exact ((((Below.refl _ w).alloc (Nat.le_refl _) _).alloc (by simp) _).alloc (by simp; omega) _).alloc (by simp; omega) _
  have hr4 := h0.below b4
  have hz4 : (wordW w).heap.size = w.heap.size + 4 := by simp [wordW]
  have hj4 : WordAt (w.heap.size + 3) (w.heap.size + 2) (w.heap.size + 1) (wordW w) := by
    refine ⟨?_, ?_, ?_⟩
    · have h := heap_alloc_new (((w.alloc tok0).alloc (.cells #[.int .i64 2, .int .i64 3] 3)).alloc (.cells #[.slice (some ⟨w.heap.size + 1, 0, none⟩) 2 2] 38)) (.cells #[.func (.func 115) #[] #[.pointer (some ⟨w.heap.size + 2, 0, none⟩)]] 155)
      simpa [wordW] using h
    · have h := heap_alloc_new ((w.alloc tok0).alloc (.cells #[.int .i64 2, .int .i64 3] 3)) (.cells #[.slice (some ⟨w.heap.size + 1, 0, none⟩) 2 2] 38)
      unfold wordW
      rw [Below.heap_alloc _ _ _ (by simp)]
      simpa using h
    · have h := heap_alloc_new (w.alloc tok0) (.cells #[.int .i64 2, .int .i64 3] 3)
      unfold wordW
      rw [Below.heap_alloc _ _ _ (by simp), Below.heap_alloc _ _ _ (by simp)]
      simpa using h
  have hwh := words_any R n c A rs i bad 0 (w.heap.size + 3) (w.heap.size + 2) (w.heap.size + 1) (wordW w) (by omega) (by omega) (by omega) hr4 hj4 hin hn hcm
  rw [hs.out] at hwh
  have hwh2 := Lib.hid hwh
  have hW : Hid (wordW w = (((w.alloc tok0).alloc (.cells #[.int .i64 2, .int .i64 3] 3)).alloc (.cells #[.slice (some ⟨w.heap.size + 1, 0, none⟩) 2 2] 38)).alloc (.cells #[.func (.func 115) #[] #[.pointer (some ⟨w.heap.size + 2, 0, none⟩)]] 155)) := rfl
  have ht0 : (wordW w).heap[w.heap.size]? = some tok0 := by
    unfold wordW
    rw [Below.heap_alloc _ _ _ (by simp <;> omega), Below.heap_alloc _ _ _ (by simp <;> omega), Below.heap_alloc _ _ _ (by simp)]
    exact heap_alloc_new w tok0
  clear hwh
  unfold tok0 at hW
  go_enter Tryz.func116, Tryz.ntmps116
  go_wp2_with (go_at_call 110; refine (of_any _ _ _ _).mono ?_; rintro e w1 ⟨rfl, rfl⟩)
  refine Calls.mono hwh2.out ?_
  rintro e w2 ⟨rfl, hr2, hk2⟩
  have e2 : Hid (w2.heap[w.heap.size]? = some tok0) := (hk2.block _ (by omega) (by omega)).trans ht0
  have hz2 : w.heap.size + 4 ≤ w2.heap.size := by have := hk2.size; omega
  have hR2 := Lib.hid hr2
  have hK2 := Lib.hid hk2
  have hB4 := Lib.hid b4
  have H0 := Lib.hid h0
  clear hr2 hk2 hj4 hr4 ht0 hwh2 h0 hW hz4 b4
  dsimp only
  go_wp2_with (go_at_call 126; refine (lower_any s _ (by unfold maxLen; omega)).mono ?_; rintro e w3 ⟨rfl, hb3⟩; have e3 : w3.heap[w.heap.size]? = some tok0 := (hb3.block _ (by omega)).trans e2.out; obtain ⟨e3f, e30, e31, e32, e33⟩ := row4 e3)
  (try simp only [Exit.inBlock, Exit.then])
  refine bodyPost_ret (results_cell_row rfl _ _ w.heap.size _ _ _ _ rfl (set4_blk e3) Tryz.underlying128 rfl (by kernel_rfl)) rfl ?_
  have kb : Kb (fun b => b = R ∨ w.heap.size ≤ b) w w3 := ((Kb.of_below hB4.out).trans (hK2.out.mono (fun b hb => Or.inl hb))).trans (Kb.of_below hb3)
  refine ⟨?_, H0.out.keepNew hR2.out (set4 (Kb.of_below hb3) (Nat.le_refl _)), Kb.fresh (set4 kb (Or.inr (Nat.le_refl _)))⟩
  rw [hlow.out]
  rfl
/-- what is told of a token: it, its place aside, and the reader behind it; or the reader's error -/
def NextIs (R n c : Nat) (A : Option Addr) (rs : List Nat) (bad : Int) (w : World) (r : (Tk × Nat) ⊕ (Nat × Int)) (e : Ending) (w' : World) : Prop :=
  match r with
  | .inl (t, m) => e = .returned (tkV ⟨t.kind, t.text, t.num, 0⟩) ∧ Rd w' R A n c rs m bad 0 ∧ Kb (· = R) w w'
  | .inr (a, er) => (∃ t, e = .returned (tkV t)) ∧ (∃ k : Nat, Rd w' R A n c rs k a er) ∧ Kb (· = R) w w'
theorem cut_small {rs : List Nat} {i : Nat} : ∀ r ∈ cutR rs i (endD rs i), smallR r = true := by
  intro r hr
  obtain ⟨k, h1, h2, h3⟩ := cutR_mem hr
  exact spanI_in (p := smallR) h1 h2 h3
theorem cut_ne {rs : List Nat} {i x : Nat} (hx : rs[i]? = some x) (hd : classV x = 3) : cutR rs i (endD rs i) ≠ [] := by
  have h1 : i < endD rs i := spanI_pos hx (digit_small hd)
  have h2 : endD rs i ≤ rs.length := spanI_le (by have := (List.getElem?_eq_some_iff.1 hx).1; omega)
  intro e
  have h3 := cutR_len (rs := rs) (i := i) h2
  rw [e] at h3
  simp at h3; omega
theorem small_lt {r : Nat} (h : smallR r = true) : r < 128 := by unfold smallR at h; simp at h; omega
def alTok (w : World) : World := w.alloc tok0
set_option maxHeartbeats 1000000 in
theorem countR_any (R n c : Nat) (A : Option Addr) (rs : List Nat) (i x : Nat) (bad : Int) (w : World) (h0 : Rd w R A n c rs i bad 0) (hx : rs[i]? = some x) (hd : classV x = 3) (hn : n ≤ 100000) (hcm : c ≤ maxLen) :
    Calls Tryz.prog 117 #[.pointer (some ⟨R, 0, none⟩)] w (NextIs R n c A rs bad w (countP rs i)) := by
  have hR := h0.lt
  have hlen := h0.len
  have hin : i ≤ n := by have := (List.getElem?_eq_some_iff.1 hx).1; omega
  have hne := Lib.hid (cut_ne hx hd)
  have hsm := Lib.hid (cut_small (rs := rs) (i := i))
  have hcl := cutR_le rs i (endD rs i)
  have b1 : Below w.heap.size w (alTok w) := (Below.refl _ w).alloc (Nat.le_refl _) _
  have hr1 := h0.below b1
  have hz1 : (alTok w).heap.size = w.heap.size + 1 := by simp [alTok]
  have c1 : (alTok w).cell? ⟨R, 1, none⟩ = some (.int .i64 i) := hr1.c1
  have hwh := Lib.hid (smalls_any R n c A rs i bad 0 (alTok w) hr1 hin hn hcm)
  have ht1 := Lib.hid (heap_alloc_new w tok0)
  obtain ⟨l, hl⟩ : ∃ l, Hid (cutR rs i (endD rs i) = l) := ⟨_, rfl⟩
  have hP : Hid (countP rs i = if l.all digR then (if numOk l then .inl (⟨2, ⟨#[]⟩, (valR l : Int), i⟩, endD rs i) else .inr (i, 50)) else .inl (⟨3, strR l, 0, i⟩, endD rs i)) := by
    show _ = _; unfold countP; rw [hl.out]
  obtain ⟨m, hm⟩ : ∃ m, Hid (endD rs i = m) := ⟨_, rfl⟩
  rw [hl.out] at hne hsm hcl hwh
  rw [hm.out] at hP hwh
  have hsz : (strR l).size = l.length := strR_size (fun r hr => small_lt (hsm.out r hr))
  have hrl : Hid (runes (bl (strR l)) = l) := runes_small hsm.out
  have hl0 : l.length ≠ 0 := fun e => hne.out (List.eq_nil_of_length_eq_zero e)
  obtain ⟨s, hs⟩ : ∃ s, Hid (strR l = s) := ⟨_, rfl⟩
  rw [hs.out] at hwh hsz hP hrl
  have H0 := Lib.hid h0
  have B1 := Lib.hid b1
  have c0 : (w.alloc (.cells #[.int .i64 0, .string ⟨#[]⟩, .int .i64 0, .int .i64 0] 128)).cell? ⟨R, 1, none⟩ = some (.int .i64 i) := c1
  clear h0 b1 hr1 c1
  by_cases hall : l.all digR = true
  · have hdg := Lib.hid (List.all_eq_true.1 hall)
    have hdy : Hid (∀ v : World, Calls Tryz.prog 128 #[.string s] v fun e v' => e = .returned (.bool true) ∧ Below v.heap.size v v') := fun v => digits_yes s v (by unfold maxLen; omega) (by rw [hrl.out]; exact hall) (by omega)
    by_cases hok : numOk l = true
    · have hP2 : Hid (countP rs i = .inl (⟨2, ⟨#[]⟩, (valR l : Int), i⟩, m)) := by show _ = _; rw [hP.out, if_pos hall, if_pos hok]
      have hnm : Hid (∀ v : World, Calls Tryz.prog 129 #[.string s] v fun e v' => e = .returned (.tuple #[.int .i64 (valR l), .bool true]) ∧ Below v.heap.size v v') := fun v => by have := number_ok l v hdg.out hne.out hok; rw [hs.out] at this; exact this
      clear hall hok hP
      go_enter Tryz.func117, Tryz.ntmps117
      go_wp2_with (first
        | (go_at_call 111; refine Calls.mono hwh.out ?_; rintro e w2 ⟨rfl, hr2, hk2⟩; have e2 : w2.heap[w.heap.size]? = some tok0 := (hk2.block _ (by omega) (by omega)).trans ht1.out; have hz2 : w.heap.size + 1 ≤ w2.heap.size := (by have := hk2.size; omega); replace hr2 := Lib.hid hr2; replace hk2 := Lib.hid hk2; replace e2 := Lib.hid e2)
        | (go_at_call 128; refine (hdy.out _).mono ?_; rintro e w3 ⟨rfl, hb3⟩; have hz3 := hb3.size)
        | (go_at_call 129; refine (hnm.out _).mono ?_; rintro e w4 ⟨rfl, hb4⟩; have e4 : w4.heap[w.heap.size]? = some tok0 := (hb4.block _ (by omega)).trans ((hb3.block _ (by omega)).trans e2.out); obtain ⟨e4f, e40, e41, e42, e43⟩ := row4 e4))
      (try simp only [Exit.inBlock, Exit.then])
      refine bodyPost_ret (results_cell_row rfl _ _ w.heap.size _ _ _ _ rfl (set4_blk e4) Tryz.underlying128 rfl (by kernel_rfl)) rfl ?_
      have k24 : Kb (fun b => w.heap.size ≤ b) w2 w4 := (Kb.of_below hb3).trans (Kb.of_below hb4)
      have kb : Kb (fun b => b = R ∨ w.heap.size ≤ b) w w4 := ((Kb.of_below B1.out).trans (hk2.out.mono (fun b hb => Or.inl hb))).trans (k24.mono (fun b hb => Or.inr hb))
      rw [hP2.out]
      exact ⟨rfl, H0.out.keepNew hr2.out (set4 k24 (Nat.le_refl _)), Kb.fresh (set4 kb (Or.inr (Nat.le_refl _)))⟩
    · have hok' : numOk l = false := by simpa using hok
      have hP2 : Hid (countP rs i = .inr (i, 50)) := by show _ = _; rw [hP.out, if_pos hall, if_neg hok]
      have hnm : Hid (∀ v : World, Calls Tryz.prog 129 #[.string s] v fun e v' => e = .returned (.tuple #[.int .i64 0, .bool false]) ∧ Below v.heap.size v v') := fun v => by have := number_bad l v hdg.out hne.out (by omega) hok'; rw [hs.out] at this; exact this
      clear hall hok hP hok'
      go_enter Tryz.func117, Tryz.ntmps117
      go_wp2_with (first
        | (go_at_call 111; refine Calls.mono hwh.out ?_; rintro e w2 ⟨rfl, hr2, hk2⟩; have e2 : w2.heap[w.heap.size]? = some tok0 := (hk2.block _ (by omega) (by omega)).trans ht1.out; have hz2 : w.heap.size + 1 ≤ w2.heap.size := (by have := hk2.size; omega); replace hr2 := Lib.hid hr2; replace hk2 := Lib.hid hk2; replace e2 := Lib.hid e2)
        | (go_at_call 128; refine (hdy.out _).mono ?_; rintro e w3 ⟨rfl, hb3⟩; have hz3 := hb3.size)
        | (go_at_call 129; refine (hnm.out _).mono ?_; rintro e w4 ⟨rfl, hb4⟩; have hz4 := hb4.size; have e4 : Hid (w4.heap[w.heap.size]? = some tok0) := (hb4.block _ (by omega)).trans ((hb3.block _ (by omega)).trans e2.out); have hr4 := Lib.hid ((hr2.out.below hb3).below hb4))
        | (go_at_call 120; refine (fail_first _ _ _ _ _ _ _ _ _ _ hr4.out).mono ?_; rintro e w5 ⟨rfl, hr5, hk5⟩; have e5 : w5.heap[w.heap.size]? = some tok0 := (hk5.block _ (by omega) (by omega)).trans e4.out; obtain ⟨e5f, e50, e51, e52, e53⟩ := row4 e5))
      (try simp only [Exit.inBlock, Exit.then])
      refine bodyPost_ret (results_cell_row rfl _ _ w.heap.size _ _ _ _ rfl (set4_blk e5) Tryz.underlying128 rfl (by kernel_rfl)) rfl ?_
      have kb : Kb (fun b => b = R ∨ w.heap.size ≤ b) w w5 := ((((Kb.of_below B1.out).trans (hk2.out.mono (fun b hb => Or.inl hb))).trans (Kb.of_below hb3)).trans (Kb.of_below hb4)).trans (hk5.mono (fun b hb => Or.inl hb))
      rw [hP2.out]
      exact ⟨⟨⟨_, _, _, _⟩, rfl⟩, ⟨m, H0.out.keepNew hr5 (set4 (Kb.refl _ _) (Nat.le_refl _))⟩, Kb.fresh (set4 kb (Or.inr (Nat.le_refl _)))⟩
  · have hall' : l.all digR = false := by simpa using hall
    have hP2 : Hid (countP rs i = .inl (⟨3, s, 0, i⟩, m)) := by show _ = _; rw [hP.out, if_neg hall]
    have hdy : Hid (∀ v : World, Calls Tryz.prog 128 #[.string s] v fun e v' => e = .returned (.bool false) ∧ Below v.heap.size v v') := fun v => digits_no s v (by unfold maxLen; omega) (by rw [hrl.out]; exact hall')
    clear hall hall' hP
    go_enter Tryz.func117, Tryz.ntmps117
    go_wp2_with (first
        | (go_at_call 111; refine Calls.mono hwh.out ?_; rintro e w2 ⟨rfl, hr2, hk2⟩; have e2 : w2.heap[w.heap.size]? = some tok0 := (hk2.block _ (by omega) (by omega)).trans ht1.out; have hz2 : w.heap.size + 1 ≤ w2.heap.size := (by have := hk2.size; omega); replace hr2 := Lib.hid hr2; replace hk2 := Lib.hid hk2; replace e2 := Lib.hid e2)
        | (go_at_call 128; refine (hdy.out _).mono ?_; rintro e w3 ⟨rfl, hb3⟩; have e4 : w3.heap[w.heap.size]? = some tok0 := (hb3.block _ (by omega)).trans e2.out; obtain ⟨e4f, e40, e41, e42, e43⟩ := row4 e4))
    (try simp only [Exit.inBlock, Exit.then])
    refine bodyPost_ret (results_cell_row rfl _ _ w.heap.size _ _ _ _ rfl (set4_blk e4) Tryz.underlying128 rfl (by kernel_rfl)) rfl ?_
    have k24 : Kb (fun b => w.heap.size ≤ b) w2 w3 := Kb.of_below hb3
    have kb : Kb (fun b => b = R ∨ w.heap.size ≤ b) w w3 := ((Kb.of_below B1.out).trans (hk2.out.mono (fun b hb => Or.inl hb))).trans (k24.mono (fun b hb => Or.inr hb))
    rw [hP2.out]
    exact ⟨rfl, H0.out.keepNew hr2.out (set4 k24 (Nat.le_refl _)), Kb.fresh (set4 kb (Or.inr (Nat.le_refl _)))⟩
def textW (w : World) : World := (w.alloc tok0).alloc (.cells #[.bool true] 4)
theorem cut_good {rs : List Nat} {i : Nat} {x : Nat} (he : rs[endT rs i]? = some x) (hx : x = 34) : ∀ r ∈ cutR rs i (endT rs i + 1), badR r = false := by
  intro r hr
  obtain ⟨k, h1, h2, h3⟩ := cutR_mem hr
  rcases Nat.lt_or_ge k (endT rs i) with h | h
  · exact endT_good h1 h h3
  · have : k = endT rs i := by omega
    subst this
    rw [he] at h3
    injection h3 with h3
    subst h3; subst hx; decide
theorem line_at {w : World} {R n c g : Nat} {rs : List Nat} {k bad err : Int} (h : Rd w R (some ⟨g, 0, none⟩) n c rs k bad err) {j r : Nat} (hr : rs[j]? = some r) : w.cell? ⟨g, j, none⟩ = some (.int .i32 (r : Int)) := by
  obtain ⟨g', e, _, hc⟩ := h.line (by have := (List.getElem?_eq_some_iff.1 hr).1; have := h.len; omega)
  injection e with e
  injection e with e
  subst e
  exact hc j r hr
set_option maxHeartbeats 1000000 in
theorem textR_any (R n c : Nat) (A : Option Addr) (rs : List Nat) (i x : Nat) (bad : Int) (w : World) (h0 : Rd w R A n c rs i bad 0) (hx : rs[i]? = some x) (hn : n ≤ 100000) (hcm : c ≤ maxLen) :
    Calls Tryz.prog 118 #[.pointer (some ⟨R, 0, none⟩)] w (NextIs R n c A rs bad w (textP rs i)) := by
  have hmf : ∀ (fn : Fn) (first cap : Array Value) (w : World), (Instr.makeFunc fn first cap).run Tryz.prog w = .ok (.func fn first cap) w := fun _ _ _ _ => rfl
  have hR := h0.lt
  have hlen := h0.len
  have hil : i < n := by have := (List.getElem?_eq_some_iff.1 hx).1; omega
  obtain ⟨g, rfl, hgR, hgl⟩ := h0.line (by omega)
  have hgs := cell_lt (hgl i x hx)
  have b1 : Below w.heap.size w (textW w) := ((Below.refl _ w).alloc (Nat.le_refl _) _).alloc (by simp) _
  have hr1 := h0.below b1
  have hz1 : (textW w).heap.size = w.heap.size + 2 := by simp [textW]
  have hI : (textW w).heap[w.heap.size + 1]? = some (.cells #[.bool true] 4 (0, 0)) := by
    have h := heap_alloc_new (w.alloc tok0) (.cells #[.bool true] 4)
    simpa [textW] using h
  have ht1 : Hid ((textW w).heap[w.heap.size]? = some tok0) := by
    show _ = _
    unfold textW
    rw [Below.heap_alloc _ _ _ (by simp)]
    exact heap_alloc_new w tok0
  have hwh := Lib.hid (texts_any R n c _ rs i bad 0 (w.heap.size + 1) (textW w) (by omega) (by rintro ad e; injection e with e; subst e; show g ≠ _; dsimp at hgs; omega) hr1 hI (by omega) hn hcm)
  have c0 : (w.alloc (.cells #[.int .i64 0, .string ⟨#[]⟩, .int .i64 0, .int .i64 0] 128)).cell? ⟨R, 1, none⟩ = some (.int .i64 i) := (h0.below ((Below.refl _ w).alloc (Nat.le_refl _) _)).c1
  have H0 := Lib.hid h0
  have B1 := Lib.hid b1
  have hcm2 := Lib.hid hcm
  have hle := endT_le (rs := rs) (i := i) (by omega)
  have hie : i ≤ endT rs i := by unfold endT; omega
  have hP : Hid (textP rs i = _) := rfl
  unfold textP at hP
  have hG := Lib.hid (fun y (hy : rs[endT rs i]? = some y) (h34 : y = 34) => cut_good hy h34)
  obtain ⟨m, hm⟩ : ∃ m, Hid (endT rs i = m) := ⟨_, rfl⟩
  rw [hm.out] at hwh hle hie
  rw [hlen] at hle
  clear h0 b1 hr1 hI hcm
  by_cases hmn : m = n
  · subst hmn
    have hP2 : Hid (textP rs i = .inr (i, 50)) := by show _ = _; unfold textP; rw [if_pos (by rw [hm.out]; omega)]
    go_enter Tryz.func118, Tryz.ntmps118
    go_wp2_with (fail)
    refine Calls.mono hwh.out ?_
    rintro e w2 ⟨⟨sx, rfl⟩, hr2, hk2⟩
    have e2 : Hid (w2.heap[w.heap.size]? = some tok0) := (hk2.block _ (by omega) (by omega)).trans ht1.out
    have hz2 : w.heap.size + 2 ≤ w2.heap.size := (by have := hk2.size; omega)
    have d0 := hr2.c0
    have d1 := hr2.c1
    have hRs := hr2.lt
    replace hr2 := Lib.hid hr2
    replace hk2 := Lib.hid hk2
    dsimp only
    go_upto_region 4 with (fail)
    go_quiet (fail)
    go_wp2_with (go_at_call 120; refine (fail_first _ _ _ _ _ _ _ _ _ _ (hr2.out.drewN _)).mono ?_; rintro e w5 ⟨rfl, hr5, hk5⟩; have e5 : w5.heap[w.heap.size]? = some tok0 := (hk5.block _ (by show w.heap.size < w2.heap.size; omega) (by omega)).trans e2.out; obtain ⟨e5f, e50, e51, e52, e53⟩ := row4 e5)
    (try simp only [Exit.inBlock, Exit.then])
    refine bodyPost_ret (results_cell_row rfl _ _ w.heap.size _ _ _ _ rfl (set4_blk e5) Tryz.underlying128 rfl (by kernel_rfl)) rfl ?_
    have kb : Kb (fun b => b = R ∨ w.heap.size ≤ b) w w5 := ((((Kb.of_below B1.out).trans (hk2.out.mono (fun b hb => hb.elim Or.inl (fun h => Or.inr (by omega)))))).drewN _).trans (hk5.mono (fun b hb => Or.inl hb))
    rw [hP2.out]
    exact ⟨⟨⟨_, _, _, _⟩, rfl⟩, ⟨_, H0.out.keepNew hr5 (set4 (Kb.refl _ _) (Nat.le_refl _))⟩, Kb.fresh (set4 kb (Or.inr (Nat.le_refl _)))⟩
  · have hml : m < n := by omega
    obtain ⟨y, hy⟩ : ∃ y, Hid (rs[m]? = some y) := ⟨_, List.getElem?_eq_getElem (by omega)⟩
    have tmn : ((m : Int) == (n : Int)) = false := by simp; omega
    have tml : (m : Int) < (n : Int) := by omega
    by_cases h34 : y = 34
    · have hg34 := Lib.hid (hG.out y (by rw [hm.out]; exact hy.out) h34)
      rw [hm.out] at hg34
      have hcl := strR_small (cutR rs i (m + 1))
      have hcl2 := cutR_le rs i (m + 1)
      have hok := ok_flat hg34.out
      rw [← bl_strR] at hok
      have hP3 : Hid (textP rs i = if (unqV (bl (strR (cutR rs i (m + 1))))).isSome then .inl (⟨4, ⟨(unqT (bl (strR (cutR rs i (m + 1))))).toArray⟩, 0, i⟩, m + 1) else .inr (i, 50)) := by
        show _ = _
        unfold textP
        rw [hm.out, if_neg (by omega), if_neg (by rw [getD_of hy.out]; omega)]
      have hcut : Hid (cutR rs i (m + 1) = (rs.drop i).take (m + 1 - i)) := rfl
      obtain ⟨s, hs⟩ : ∃ s, Hid (strR (cutR rs i (m + 1)) = s) := ⟨_, rfl⟩
      rw [hs.out] at hok hP3 hcl
      have ty : ((y : Int) != 34) = false := by simp; omega
      have hu : Hid (∀ v : World, Calls Tryz.prog 131 #[.string s] v fun e v' => e = .returned (.tuple #[.string ⟨(unqT (bl s)).toArray⟩, .int .i64 (unqE (bl s))]) ∧ Below v.heap.size v v') := fun v => unquote_any s v (by omega)
      obtain ⟨u, hu1⟩ : ∃ u, Hid (unqT (bl s) = u) := ⟨_, rfl⟩
      clear h34 hG
      cases hv : unqV (bl s) with
      | some q =>
        have hE := (unq_yes hok hv).2
        rw [hu1.out] at hu
        have hP4 : Hid (textP rs i = .inl (⟨4, ⟨u.toArray⟩, 0, i⟩, m + 1)) := by show _ = _; rw [hP3.out, hv, hu1.out]; rfl
        rw [hE] at hu
        clear hP3 hv hE hok hP
        go_enter Tryz.func118, Tryz.ntmps118
        go_wp2_with (fail)
        refine Calls.mono hwh.out ?_
        rintro e w2 ⟨⟨sx, rfl⟩, hr2, hk2⟩
        have e2 : Hid (w2.heap[w.heap.size]? = some tok0) := (hk2.block _ (by omega) (by omega)).trans ht1.out
        have hz2 : w.heap.size + 2 ≤ w2.heap.size := (by have := hk2.size; omega)
        have d0 := hr2.c0
        have d1 := hr2.c1
        have d2 := (line_at hr2 hy.out)
        have hRs := hr2.lt
        have fz1 := hr2.fz 1
        replace hr2 := Lib.hid hr2
        replace hk2 := Lib.hid hk2
        dsimp only
        go_upto_region 4 with (fail)
        go_quiet (fail)
        rename Nat => nqa
        go_upto_region 7 with (fail)
        go_quiet (fail)
        go_upto_region 11 with (fail)
        obtain ⟨w3, hw3⟩ : ∃ v, v = (w2.drewN (nqa + nq)).setCell ⟨R, 1, none⟩ (.int .i64 ((m : Int) + 1)) := ⟨_, rfl⟩
        rw [← hw3]
        have hr3 : Rd w3 R (some ⟨g, 0, none⟩) n c rs ((m + 1 : Nat) : Int) bad 0 := by rw [hw3]; simpa using (hr2.out.drewN (nqa + nq)).set1 ((m : Int) + 1)
        have hk3 : Hid (Kb (· = R) w2 w3) := by show Kb _ _ _; rw [hw3]; exact ((Kb.refl (· = R) w2).drewN _).set_ (p := ⟨R, 1, none⟩) rfl _
        have e3 : Hid (w3.heap[w.heap.size]? = some tok0) := (hk3.out.block _ (by omega) (by omega)).trans e2.out
        have hz3 : w.heap.size + 2 ≤ w3.heap.size := (by have := hk3.out.size; omega)
        clear d0 d1 d2 fz1 hRs hw3
        have d0 := hr3.c0
        have d1 := hr3.c1
        have hR3 := hr3.lt
        obtain ⟨A', c', s1, s2, s3⟩ := str_of_runes hr3 (i := i) (j := m + 1) (by omega) (by omega)
        have s4 : ∀ x : Later w3, (convert 152 9 (.slice A' (m + 1 - i) c')).run Tryz.prog x.val = .ok (.string s) x.val := fun x => by
          rw [s3 x.val (fun p _ hp => x.below.cell hp)]
          rw [show strR ((rs.drop i).take (m + 1 - i)) = s from hs.out]
        replace hr3 := Lib.hid hr3
        clear s3
        rw [show ((m + 1 : Nat) : Int) = (m : Int) + 1 by omega] at s1 s2 d1
        refine wp_region_later (by kernel_rfl) (by kernel_rfl) ?_
        have hl_ := later_cell (w3)
        repeat (first | go_big_quiet_step (((go_at_call 131; exact later_of (hu.out _)))) | quiet_step (((go_at_call 131; exact later_of (hu.out _)))))
        refine wpQuiet_nil ?_
        intro w9 hx_
        obtain ⟨⟨w_, hb9⟩, e_⟩ := hx_
        have e2_ : w9 = w_ := e_
        clear e_
        subst e2_
        clear hl_
        have e9 : Hid (w9.heap[w.heap.size]? = some tok0) := (hb9.block _ (by omega)).trans e3.out
        have hr9 := Lib.hid (hr3.out.below hb9)
        have hz9 : w.heap.size + 2 ≤ w9.heap.size := (by have := hb9.size; omega)
        obtain ⟨e9f, e90, e91, e92, e93⟩ := row4 e9.out
        go_wp2
        (try simp only [Exit.inBlock, Exit.then])
        refine bodyPost_ret (results_cell_row rfl _ _ w.heap.size _ _ _ _ rfl (set4_blk e9.out) Tryz.underlying128 rfl (by kernel_rfl)) rfl ?_
        have kb : Kb (fun b => b = R ∨ w.heap.size ≤ b) w w9 := (((Kb.of_below B1.out).trans (hk2.out.mono (fun b hb => hb.elim Or.inl (fun h => Or.inr (by omega))))).trans (hk3.out.mono (fun b hb => Or.inl hb))).trans (Kb.of_below hb9)
        rw [hP4.out]
        exact ⟨rfl, H0.out.keepNew hr9.out (set4 (Kb.refl _ _) (Nat.le_refl _)), Kb.fresh (set4 kb (Or.inr (Nat.le_refl _)))⟩
      | none =>
        have hE := (unq_none hok hv).2
        rw [hu1.out] at hu
        have hP4 : Hid (textP rs i = .inr (i, 50)) := by show _ = _; rw [hP3.out, hv]; rfl
        rw [hE] at hu
        clear hP3 hv hE hok hP
        go_enter Tryz.func118, Tryz.ntmps118
        go_wp2_with (fail)
        refine Calls.mono hwh.out ?_
        rintro e w2 ⟨⟨sx, rfl⟩, hr2, hk2⟩
        have e2 : Hid (w2.heap[w.heap.size]? = some tok0) := (hk2.block _ (by omega) (by omega)).trans ht1.out
        have hz2 : w.heap.size + 2 ≤ w2.heap.size := (by have := hk2.size; omega)
        have d0 := hr2.c0
        have d1 := hr2.c1
        have d2 := (line_at hr2 hy.out)
        have hRs := hr2.lt
        have fz1 := hr2.fz 1
        replace hr2 := Lib.hid hr2
        replace hk2 := Lib.hid hk2
        dsimp only
        go_upto_region 4 with (fail)
        go_quiet (fail)
        rename Nat => nqa
        go_upto_region 7 with (fail)
        go_quiet (fail)
        go_upto_region 11 with (fail)
        obtain ⟨w3, hw3⟩ : ∃ v, v = (w2.drewN (nqa + nq)).setCell ⟨R, 1, none⟩ (.int .i64 ((m : Int) + 1)) := ⟨_, rfl⟩
        rw [← hw3]
        have hr3 : Rd w3 R (some ⟨g, 0, none⟩) n c rs ((m + 1 : Nat) : Int) bad 0 := by rw [hw3]; simpa using (hr2.out.drewN (nqa + nq)).set1 ((m : Int) + 1)
        have hk3 : Hid (Kb (· = R) w2 w3) := by show Kb _ _ _; rw [hw3]; exact ((Kb.refl (· = R) w2).drewN _).set_ (p := ⟨R, 1, none⟩) rfl _
        have e3 : Hid (w3.heap[w.heap.size]? = some tok0) := (hk3.out.block _ (by omega) (by omega)).trans e2.out
        have hz3 : w.heap.size + 2 ≤ w3.heap.size := (by have := hk3.out.size; omega)
        clear d0 d1 d2 fz1 hRs hw3
        have d0 := hr3.c0
        have d1 := hr3.c1
        have hR3 := hr3.lt
        obtain ⟨A', c', s1, s2, s3⟩ := str_of_runes hr3 (i := i) (j := m + 1) (by omega) (by omega)
        have s4 : ∀ x : Later w3, (convert 152 9 (.slice A' (m + 1 - i) c')).run Tryz.prog x.val = .ok (.string s) x.val := fun x => by
          rw [s3 x.val (fun p _ hp => x.below.cell hp)]
          rw [show strR ((rs.drop i).take (m + 1 - i)) = s from hs.out]
        replace hr3 := Lib.hid hr3
        clear s3
        rw [show ((m + 1 : Nat) : Int) = (m : Int) + 1 by omega] at s1 s2 d1
        refine wp_region_later (by kernel_rfl) (by kernel_rfl) ?_
        have hl_ := later_cell (w3)
        repeat (first | go_big_quiet_step (((go_at_call 131; exact later_of (hu.out _)))) | quiet_step (((go_at_call 131; exact later_of (hu.out _)))))
        refine wpQuiet_nil ?_
        intro w9 hx_
        obtain ⟨⟨w_, hb9⟩, e_⟩ := hx_
        have e2_ : w9 = w_ := e_
        clear e_
        subst e2_
        clear hl_
        have e9 : Hid (w9.heap[w.heap.size]? = some tok0) := (hb9.block _ (by omega)).trans e3.out
        have hr9 := Lib.hid (hr3.out.below hb9)
        have hz9 : w.heap.size + 2 ≤ w9.heap.size := (by have := hb9.size; omega)
        go_wp2_with (go_at_call 120; refine (fail_first _ _ _ _ _ _ _ _ _ _ hr9.out).mono ?_; rintro e w5 ⟨rfl, hr5, hk5⟩; have e5 : w5.heap[w.heap.size]? = some tok0 := (hk5.block _ (by omega) (by omega)).trans e9.out; obtain ⟨e5f, e50, e51, e52, e53⟩ := row4 e5)
        (try simp only [Exit.inBlock, Exit.then])
        refine bodyPost_ret (results_cell_row rfl _ _ w.heap.size _ _ _ _ rfl (set4_blk e5) Tryz.underlying128 rfl (by kernel_rfl)) rfl ?_
        have kb : Kb (fun b => b = R ∨ w.heap.size ≤ b) w w5 := ((((Kb.of_below B1.out).trans (hk2.out.mono (fun b hb => hb.elim Or.inl (fun h => Or.inr (by omega))))).trans (hk3.out.mono (fun b hb => Or.inl hb))).trans (Kb.of_below hb9)).trans (hk5.mono (fun b hb => Or.inl hb))
        rw [hP4.out]
        exact ⟨⟨⟨_, _, _, _⟩, rfl⟩, ⟨_, H0.out.keepNew hr5 (set4 (Kb.refl _ _) (Nat.le_refl _))⟩, Kb.fresh (set4 kb (Or.inr (Nat.le_refl _)))⟩
    · have hP2 : Hid (textP rs i = .inr (m, 40)) := by
        show _ = _
        unfold textP
        rw [hm.out, if_neg (by omega), if_pos (by rw [getD_of hy.out]; exact h34)]
      have ty : ((y : Int) != 34) = true := by simp; omega
      go_enter Tryz.func118, Tryz.ntmps118
      go_wp2_with (fail)
      refine Calls.mono hwh.out ?_
      rintro e w2 ⟨⟨sx, rfl⟩, hr2, hk2⟩
      have e2 : Hid (w2.heap[w.heap.size]? = some tok0) := (hk2.block _ (by omega) (by omega)).trans ht1.out
      have hz2 : w.heap.size + 2 ≤ w2.heap.size := (by have := hk2.size; omega)
      have d0 := hr2.c0
      have d1 := hr2.c1
      have d2 := (line_at hr2 hy.out)
      have hRs := hr2.lt
      have fz1 := hr2.fz 1
      replace hr2 := Lib.hid hr2
      replace hk2 := Lib.hid hk2
      dsimp only
      go_upto_region 4 with (fail)
      go_quiet (fail)
      rename Nat => nqa
      go_upto_region 7 with (fail)
      go_quiet (fail)
      go_wp2_with (go_at_call 120; refine (fail_first _ _ _ _ _ _ _ _ _ _ (hr2.out.drewN _)).mono ?_; rintro e w5 ⟨rfl, hr5, hk5⟩; have e5 : w5.heap[w.heap.size]? = some tok0 := (hk5.block _ (by show w.heap.size < w2.heap.size; omega) (by omega)).trans e2.out; obtain ⟨e5f, e50, e51, e52, e53⟩ := row4 e5)
      (try simp only [Exit.inBlock, Exit.then])
      refine bodyPost_ret (results_cell_row rfl _ _ w.heap.size _ _ _ _ rfl (set4_blk e5) Tryz.underlying128 rfl (by kernel_rfl)) rfl ?_
      have kb : Kb (fun b => b = R ∨ w.heap.size ≤ b) w w5 := ((((Kb.of_below B1.out).trans (hk2.out.mono (fun b hb => hb.elim Or.inl (fun h => Or.inr (by omega)))))).drewN _).trans (hk5.mono (fun b hb => Or.inl hb))
      rw [hP2.out]
      exact ⟨⟨⟨_, _, _, _⟩, rfl⟩, ⟨_, H0.out.keepNew hr5 (set4 (Kb.refl _ _) (Nat.le_refl _))⟩, Kb.fresh (set4 kb (Or.inr (Nat.le_refl _)))⟩
theorem NextIs.up {k0 : Int} {R n c : Nat} {A : Option Addr} {rs : List Nat} {bad : Int} {w : World} {q : Nat} {r : (Tk × Nat) ⊕ (Nat × Int)} {e : Ending} {w' : World}
    (H0 : Rd w R A n c rs k0 bad 0) (h : NextIs R n c A rs bad ((alTok w).drewN q) r e w') :
    ∃ t : Tk, e = .returned (tkV t) ∧ w'.heap[w.heap.size]? = some tok0 ∧ ∀ w'', Kb (fun b => w.heap.size ≤ b) w' w'' → NextIs R n c A rs bad w r (.returned (tkV t)) w'' := by
  have hR := H0.lt
  have b1 : Below w.heap.size w ((alTok w).drewN q) := by
    have := (Below.refl _ w).alloc (Nat.le_refl _) tok0
    exact ⟨this.os, this.tape, this.output, this.size, this.block⟩
  have ht : ((alTok w).drewN q).heap[w.heap.size]? = some tok0 := heap_alloc_new w tok0
  have hz : w.heap.size < ((alTok w).drewN q).heap.size := by show w.heap.size < (alTok w).heap.size; simp [alTok]
  unfold NextIs at h
  rcases r with ⟨t, m⟩ | ⟨a, er⟩
  · obtain ⟨rfl, hr, hk⟩ := h
    refine ⟨_, rfl, (hk.block _ hz (by omega)).trans ht, fun w'' h2 => ⟨rfl, H0.keepNew hr h2, ?_⟩⟩
    exact Kb.fresh (((Kb.of_below b1).trans (hk.mono (fun b hb => Or.inl hb))).trans (h2.mono (fun b hb => Or.inr hb)))
  · obtain ⟨⟨t, rfl⟩, ⟨k, hr⟩, hk⟩ := h
    refine ⟨_, rfl, (hk.block _ hz (by omega)).trans ht, fun w'' h2 => ⟨⟨t, rfl⟩, ⟨k, H0.keepNew hr h2⟩, ?_⟩⟩
    exact Kb.fresh (((Kb.of_below b1).trans (hk.mono (fun b hb => Or.inl hb))).trans (h2.mono (fun b hb => Or.inr hb)))
theorem strR_one (x : Nat) : strR [x] = Utf8.encode (x : Int) := by
  have h := encode_enc x
  have e : strR [x] = ⟨(enc x).toArray⟩ := by unfold strR; simp only [List.flatMap_cons, List.flatMap_nil, List.append_nil]
  have e2 : ∀ (y : ByteArray) (l : List UInt8), y.data.toList = l → (⟨l.toArray⟩ : ByteArray) = y := by rintro ⟨⟨d⟩⟩ l rfl; rfl
  exact e.trans (e2 _ _ h)
theorem idx_pos {x : Nat} (h : x = 61 ∨ x = 58 ∨ x = 44 ∨ x = 45) : 0 ≤ Lib.indexByte [61, 58, 44, 45] (x : Int).toNat.toUInt8 := by
  rcases h with rfl | rfl | rfl | rfl <;> decide
theorem idx_neg {x : Nat} (h : ¬ (x = 61 ∨ x = 58 ∨ x = 44 ∨ x = 45)) (hx : x < 128) : Lib.indexByte [61, 58, 44, 45] (x : Int).toNat.toUInt8 < 0 := by
  have e : ∀ b : Nat, b < 128 → x ≠ b → (UInt8.ofNat b == (x : Int).toNat.toUInt8) = false := by
    intro b hb hne
    rw [beq_eq_false_iff_ne]
    intro e
    have := congrArg UInt8.toNat e
    simp at this
    omega
  have e1 : ((61 : UInt8) == (x : Int).toNat.toUInt8) = false := e 61 (by omega) (by omega)
  have e2 : ((58 : UInt8) == (x : Int).toNat.toUInt8) = false := e 58 (by omega) (by omega)
  have e3 : ((44 : UInt8) == (x : Int).toNat.toUInt8) = false := e 44 (by omega) (by omega)
  have e4 : ((45 : UInt8) == (x : Int).toNat.toUInt8) = false := e 45 (by omega) (by omega)
  simp only [Lib.indexByte, e1, e2, e3, e4, Bool.false_eq_true, if_false, beq_self_eq_true, if_true]
  omega
set_option maxRecDepth 100000 in
set_option maxHeartbeats 1000000 in
theorem next_any (R n c : Nat) (A : Option Addr) (rs : List Nat) (i x : Nat) (bad : Int) (w : World) (h0 : Rd w R A n c rs i bad 0) (hx : rs[i]? = some x) (hn : n ≤ 100000) (hcm : c ≤ maxLen) :
    Calls Tryz.prog 112 #[.pointer (some ⟨R, 0, none⟩)] w (NextIs R n c A rs bad w (nextP rs i)) := by
  have hR := h0.lt
  have hlen := h0.len
  have hil : i < n := by have := (List.getElem?_eq_some_iff.1 hx).1; omega
  obtain ⟨g, rfl, hgR, hgl⟩ := h0.line (by omega)
  have hgs := cell_lt (hgl i x hx)
  have b1 : Below w.heap.size w (alTok w) := (Below.refl _ w).alloc (Nat.le_refl _) _
  have hr1 := h0.below b1
  have hz1 : (alTok w).heap.size = w.heap.size + 1 := by simp [alTok]
  have c0 : (w.alloc (.cells #[.int .i64 0, .string ⟨#[]⟩, .int .i64 0, .int .i64 0] 128)).cell? ⟨R, 0, none⟩ = some (.slice (some ⟨g, 0, none⟩) n c) := hr1.c0
  have c1 : (w.alloc (.cells #[.int .i64 0, .string ⟨#[]⟩, .int .i64 0, .int .i64 0] 128)).cell? ⟨R, 1, none⟩ = some (.int .i64 i) := hr1.c1
  have c2 : (w.alloc (.cells #[.int .i64 0, .string ⟨#[]⟩, .int .i64 0, .int .i64 0] 128)).cell? ⟨g, i, none⟩ = some (.int .i32 x) := line_at hr1 hx
  have til : (i : Int) < (n : Int) := by omega
  have H0 := Lib.hid h0
  have R1 := Lib.hid hr1
  have hX := Lib.hid hx
  have hcm2 := Lib.hid hcm
  have hP : Hid (nextP rs i = if classV x = 2 then .inl (⟨1, lowT (cutR rs i (endW rs i)), 0, i⟩, endW rs i) else if classV x = 3 then countP rs i else if x = 34 then textP rs i
      else if x = 61 ∨ x = 58 ∨ x = 44 ∨ x = 45 then .inl (⟨5, strR [x], 0, i⟩, i + 1) else if classV x = 0 then .inr (i, 40) else .inr (i, 50)) := by
    show _ = _; unfold nextP; rw [getD_of hx]
  obtain ⟨q, hq⟩ : ∃ q, Hid (classV x = q) := ⟨_, rfl⟩
  rw [hq.out] at hP
  clear h0 b1 hr1 hcm hx hgl
  by_cases hq2 : q = 2
  · have hP2 := hP.out
    rw [if_pos hq2] at hP2
    have hP3 := Lib.hid hP2
    have t1 : (q == 2) = true := by simpa using hq2
    clear hP hP2 hq2
    go_enter Tryz.func112, Tryz.ntmps112
    go_upto_region 1 with (fail)
    go_quiet (fail)
    go_wp2_with (first
      | (go_at_call 103; refine (class_any _ _).mono ?_; rintro e w' ⟨rfl, rfl⟩; rw [hq.out])
      | (go_at_call 116; refine (word_any R n c _ rs i bad _ (R1.out.drewN _) (by omega) hn hcm2.out).mono ?_; rintro e w2 h2; obtain ⟨t, rfl, e2, hup⟩ := NextIs.up (r := .inl (⟨1, lowT (cutR rs i (endW rs i)), 0, i⟩, endW rs i)) H0.out h2; replace hup := Lib.hid hup; obtain ⟨e2f, e20, e21, e22, e23⟩ := row4 e2; unfold tkV))
    (try simp only [Exit.inBlock, Exit.then])
    refine bodyPost_ret (results_cell_row rfl _ _ w.heap.size _ _ _ _ rfl (set4_blk e2) Tryz.underlying128 rfl (by kernel_rfl)) rfl ?_
    rw [hP3.out]
    exact hup.out _ (set4 (Kb.refl _ _) (Nat.le_refl _))
  · have u1 : (q == 2) = false := by simpa using hq2
    by_cases hq3 : q = 3
    · have hP2 := hP.out
      rw [if_neg hq2, if_pos hq3] at hP2
      have hP3 := Lib.hid hP2
      have t1 : (q == 3) = true := by simpa using hq3
      have hd : Hid (classV x = 3) := by show _ = _; rw [hq.out]; exact hq3
      clear hP hP2 hq2 hq3
      go_enter Tryz.func112, Tryz.ntmps112
      go_upto_region 1 with (fail)
      go_quiet (fail)
      go_wp2_with (first
        | (go_at_call 103; refine (class_any _ _).mono ?_; rintro e w' ⟨rfl, rfl⟩; rw [hq.out])
        | (go_at_call 117; refine (countR_any R n c _ rs i x bad _ (R1.out.drewN _) hX.out hd.out hn hcm2.out).mono ?_; rintro e w2 h2; obtain ⟨t, rfl, e2, hup⟩ := NextIs.up H0.out h2; replace hup := Lib.hid hup; obtain ⟨e2f, e20, e21, e22, e23⟩ := row4 e2; unfold tkV))
      (try simp only [Exit.inBlock, Exit.then])
      refine bodyPost_ret (results_cell_row rfl _ _ w.heap.size _ _ _ _ rfl (set4_blk e2) Tryz.underlying128 rfl (by kernel_rfl)) rfl ?_
      rw [hP3.out]
      exact hup.out _ (set4 (Kb.refl _ _) (Nat.le_refl _))
    have u2 : (q == 3) = false := by simpa using hq3
    by_cases h34 : x = 34
    · have hP2 := hP.out
      rw [if_neg hq2, if_neg hq3, if_pos h34] at hP2
      have hP3 := Lib.hid hP2
      have t1 : ((x : Int) == 34) = true := by simp; omega
      clear hP hP2 hq2 hq3 h34
      go_enter Tryz.func112, Tryz.ntmps112
      go_upto_region 1 with (fail)
      go_quiet (fail)
      go_wp2_with (first
        | (go_at_call 103; refine (class_any _ _).mono ?_; rintro e w' ⟨rfl, rfl⟩; rw [hq.out])
        | (go_at_call 118; refine (textR_any R n c _ rs i x bad _ (R1.out.drewN _) hX.out hn hcm2.out).mono ?_; rintro e w2 h2; obtain ⟨t, rfl, e2, hup⟩ := NextIs.up H0.out h2; replace hup := Lib.hid hup; obtain ⟨e2f, e20, e21, e22, e23⟩ := row4 e2; unfold tkV))
      (try simp only [Exit.inBlock, Exit.then])
      refine bodyPost_ret (results_cell_row rfl _ _ w.heap.size _ _ _ _ rfl (set4_blk e2) Tryz.underlying128 rfl (by kernel_rfl)) rfl ?_
      rw [hP3.out]
      exact hup.out _ (set4 (Kb.refl _ _) (Nat.le_refl _))
    have u3 : ((x : Int) == 34) = false := by simp; omega
    have ht1 := Lib.hid (heap_alloc_new w tok0)
    have B1 := Lib.hid ((Below.refl _ w).alloc (Nat.le_refl _) tok0)
    have fz1 : (w.alloc (.cells #[.int .i64 0, .string ⟨#[]⟩, .int .i64 0, .int .i64 0] 128)).frozen? ⟨R, 1, none⟩ = false := R1.out.fz 1
    by_cases hsg : x = 61 ∨ x = 58 ∨ x = 44 ∨ x = 45
    · have hP2 := hP.out
      rw [if_neg hq2, if_neg hq3, if_neg h34, if_pos hsg] at hP2
      have hP3 := Lib.hid hP2
      obtain ⟨ix, hix2⟩ : ∃ ix, Hid (Lib.indexByte [61, 58, 44, 45] (x : Int).toNat.toUInt8 = ix) := ⟨_, rfl⟩
      have tix : decide (0 ≤ ix) = true := by have h := idx_pos hsg; rw [hix2.out] at h; simpa using h
      have hI : Hid (∀ v : World, Calls Tryz.prog 119 #[.string ⟨#[61, 58, 44, 45]⟩, .int .u8 (x : Int)] v fun e v' => e = .returned (.int .i64 ix) ∧ v' = v) := fun v => by have := Tryz.strings_IndexByte ⟨#[61, 58, 44, 45]⟩ (x : Int) v; rw [← hix2.out]; exact this
      have h128 : x < 128 := by omega
      clear hP hP2 hq2 hq3 h34 hsg
      go_enter Tryz.func112, Tryz.ntmps112
      go_upto_region 1 with (fail)
      go_quiet (fail)
      go_wp2_with (first
        | (go_at_call 103; refine (class_any _ _).mono ?_; rintro e w' ⟨rfl, rfl⟩; rw [hq.out])
        | (go_at_call 119; refine (hI.out _).mono ?_; rintro e w' ⟨rfl, rfl⟩))
      (try simp only [Exit.inBlock, Exit.then])
      have hr3 : ∀ z, Rd (((w.alloc tok0).drewN z).setCell ⟨R, 1, none⟩ (.int .i64 ((i : Int) + 1))) R (some ⟨g, 0, none⟩) n c rs ((i + 1 : Nat) : Int) bad 0 := fun z => by rw [show ((i + 1 : Nat) : Int) = (i : Int) + 1 by omega]; exact (R1.out.drewN z).set1 _
      have hk3 : ∀ z, Kb (fun b => b = R ∨ w.heap.size ≤ b) w (((w.alloc tok0).drewN z).setCell ⟨R, 1, none⟩ (.int .i64 ((i : Int) + 1))) := fun z => ((Kb.of_below B1.out).drewN z).set_ (p := ⟨R, 1, none⟩) (Or.inl rfl) _
      have ht3 : ∀ z, (((w.alloc tok0).drewN z).setCell ⟨R, 1, none⟩ (.int .i64 ((i : Int) + 1))).heap[w.heap.size]? = some tok0 := fun z => (Below.heap_setCell _ _ _ _ (by show w.heap.size ≠ R; omega)).trans ht1.out
      refine bodyPost_ret (results_cell_row rfl _ _ w.heap.size _ _ _ _ rfl (set4_blk (ht3 _)) Tryz.underlying128 rfl (by kernel_rfl)) rfl ?_
      rw [hP3.out]
      refine ⟨?_, H0.out.keepNew (hr3 _) (set4 (Kb.refl _ _) (Nat.le_refl _)), Kb.fresh (set4 (hk3 _) (Or.inr (Nat.le_refl _)))⟩
      show Ending.returned (.agg #[_, .string (Utf8.encode (x : Int)), _, _]) = _
      rw [← strR_one]
      rfl
    by_cases hq0 : q = 0
    · have hP2 := hP.out
      rw [if_neg hq2, if_neg hq3, if_neg h34, if_neg hsg, if_pos hq0] at hP2
      have hP3 := Lib.hid hP2
      have t0 : (q == 0) = true := by simpa using hq0
      clear hP hP2 hq2 hq3 h34 hq0
      rcases Nat.lt_or_ge x 128 with h128 | h128
      · have hix := Lib.hid (idx_neg hsg h128)
        clear hsg
        obtain ⟨ix, hix2⟩ : ∃ ix, Hid (Lib.indexByte [61, 58, 44, 45] (x : Int).toNat.toUInt8 = ix) := ⟨_, rfl⟩
        rw [hix2.out] at hix
        have tix : decide (0 ≤ ix) = false := by have := hix.out; simp; omega
        have hI : Hid (∀ v : World, Calls Tryz.prog 119 #[.string ⟨#[61, 58, 44, 45]⟩, .int .u8 (x : Int)] v fun e v' => e = .returned (.int .i64 ix) ∧ v' = v) := fun v => by have := Tryz.strings_IndexByte ⟨#[61, 58, 44, 45]⟩ (x : Int) v; rw [← hix2.out]; exact this
        go_enter Tryz.func112, Tryz.ntmps112
        go_upto_region 1 with (fail)
        go_quiet (fail)
        go_wp2_with (first
          | (go_at_call 103; refine (class_any _ _).mono ?_; rintro e w' ⟨rfl, rfl⟩; rw [hq.out])
          | (go_at_call 119; refine (hI.out _).mono ?_; rintro e w' ⟨rfl, rfl⟩)
          | (go_at_call 120; refine (fail_first _ _ _ _ _ _ _ _ _ _ (R1.out.drewN _)).mono ?_; rintro e w2 h2; obtain ⟨rfl, hr2, hk2⟩ := h2; have e2 : w2.heap[w.heap.size]? = some tok0 := (hk2.block _ (by show w.heap.size < (alTok w).heap.size; omega) (by omega)).trans ht1.out; obtain ⟨e2f, e20, e21, e22, e23⟩ := row4 e2))
        (try simp only [Exit.inBlock, Exit.then])
        refine bodyPost_ret (results_cell_row rfl _ _ w.heap.size _ _ _ _ rfl (set4_blk e2) Tryz.underlying128 rfl (by kernel_rfl)) rfl ?_
        rw [hP3.out]
        exact ⟨⟨⟨_, _, _, _⟩, rfl⟩, ⟨_, H0.out.keepNew hr2 (set4 (Kb.refl _ _) (Nat.le_refl _))⟩, Kb.fresh (set4 (((Kb.of_below B1.out).drewN _).trans (hk2.mono (fun b hb => Or.inl hb))) (Or.inr (Nat.le_refl _)))⟩
      · have t128 : decide ((x : Int) < 128) = false := by simp; omega
        clear hsg
        have hI : Hid (∀ (cc : Int) (v : World), Calls Tryz.prog 119 #[.string ⟨#[61, 58, 44, 45]⟩, .int .u8 cc] v fun e v' => ∃ ix, e = .returned (.int .i64 ix) ∧ v' = v) := fun cc v => (Tryz.strings_IndexByte ⟨#[61, 58, 44, 45]⟩ cc v).mono (fun e v' h => ⟨_, h⟩)
        go_enter Tryz.func112, Tryz.ntmps112
        go_upto_region 1 with (fail)
        go_quiet (fail)
        go_wp2_with (first
          | (go_at_call 103; refine (class_any _ _).mono ?_; rintro e w' ⟨rfl, rfl⟩; rw [hq.out])
          | (go_at_call 119; refine (hI.out _ _).mono ?_; rintro e w' ⟨ix, rfl, rfl⟩; rcases (by omega : 0 ≤ ix ∨ ix < 0) with hix | hix)
          | (go_at_call 120; refine (fail_first _ _ _ _ _ _ _ _ _ _ (R1.out.drewN _)).mono ?_; rintro e w2 h2; obtain ⟨rfl, hr2, hk2⟩ := h2; have e2 : w2.heap[w.heap.size]? = some tok0 := (hk2.block _ (by show w.heap.size < (alTok w).heap.size; omega) (by omega)).trans ht1.out; obtain ⟨e2f, e20, e21, e22, e23⟩ := row4 e2))
        all_goals
          (try simp only [Exit.inBlock, Exit.then])
          refine bodyPost_ret (results_cell_row rfl _ _ w.heap.size _ _ _ _ rfl (set4_blk e2) Tryz.underlying128 rfl (by kernel_rfl)) rfl ?_
          rw [hP3.out]
          exact ⟨⟨⟨_, _, _, _⟩, rfl⟩, ⟨_, H0.out.keepNew hr2 (set4 (Kb.refl _ _) (Nat.le_refl _))⟩, Kb.fresh (set4 (((Kb.of_below B1.out).drewN _).trans (hk2.mono (fun b hb => Or.inl hb))) (Or.inr (Nat.le_refl _)))⟩
    · have hP2 := hP.out
      rw [if_neg hq2, if_neg hq3, if_neg h34, if_neg hsg, if_neg hq0] at hP2
      have hP3 := Lib.hid hP2
      have t0 : (q == 0) = false := by simpa using hq0
      clear hP hP2 hq2 hq3 h34 hq0
      rcases Nat.lt_or_ge x 128 with h128 | h128
      · have hix := Lib.hid (idx_neg hsg h128)
        clear hsg
        obtain ⟨ix, hix2⟩ : ∃ ix, Hid (Lib.indexByte [61, 58, 44, 45] (x : Int).toNat.toUInt8 = ix) := ⟨_, rfl⟩
        rw [hix2.out] at hix
        have tix : decide (0 ≤ ix) = false := by have := hix.out; simp; omega
        have hI : Hid (∀ v : World, Calls Tryz.prog 119 #[.string ⟨#[61, 58, 44, 45]⟩, .int .u8 (x : Int)] v fun e v' => e = .returned (.int .i64 ix) ∧ v' = v) := fun v => by have := Tryz.strings_IndexByte ⟨#[61, 58, 44, 45]⟩ (x : Int) v; rw [← hix2.out]; exact this
        go_enter Tryz.func112, Tryz.ntmps112
        go_upto_region 1 with (fail)
        go_quiet (fail)
        go_wp2_with (first
          | (go_at_call 103; refine (class_any _ _).mono ?_; rintro e w' ⟨rfl, rfl⟩; rw [hq.out])
          | (go_at_call 119; refine (hI.out _).mono ?_; rintro e w' ⟨rfl, rfl⟩)
          | (go_at_call 120; refine (fail_first _ _ _ _ _ _ _ _ _ _ (R1.out.drewN _)).mono ?_; rintro e w2 h2; obtain ⟨rfl, hr2, hk2⟩ := h2; have e2 : w2.heap[w.heap.size]? = some tok0 := (hk2.block _ (by show w.heap.size < (alTok w).heap.size; omega) (by omega)).trans ht1.out; obtain ⟨e2f, e20, e21, e22, e23⟩ := row4 e2))
        (try simp only [Exit.inBlock, Exit.then])
        refine bodyPost_ret (results_cell_row rfl _ _ w.heap.size _ _ _ _ rfl (set4_blk e2) Tryz.underlying128 rfl (by kernel_rfl)) rfl ?_
        rw [hP3.out]
        exact ⟨⟨⟨_, _, _, _⟩, rfl⟩, ⟨_, H0.out.keepNew hr2 (set4 (Kb.refl _ _) (Nat.le_refl _))⟩, Kb.fresh (set4 (((Kb.of_below B1.out).drewN _).trans (hk2.mono (fun b hb => Or.inl hb))) (Or.inr (Nat.le_refl _)))⟩
      · have t128 : decide ((x : Int) < 128) = false := by simp; omega
        clear hsg
        have hI : Hid (∀ (cc : Int) (v : World), Calls Tryz.prog 119 #[.string ⟨#[61, 58, 44, 45]⟩, .int .u8 cc] v fun e v' => ∃ ix, e = .returned (.int .i64 ix) ∧ v' = v) := fun cc v => (Tryz.strings_IndexByte ⟨#[61, 58, 44, 45]⟩ cc v).mono (fun e v' h => ⟨_, h⟩)
        go_enter Tryz.func112, Tryz.ntmps112
        go_upto_region 1 with (fail)
        go_quiet (fail)
        go_wp2_with (first
          | (go_at_call 103; refine (class_any _ _).mono ?_; rintro e w' ⟨rfl, rfl⟩; rw [hq.out])
          | (go_at_call 119; refine (hI.out _ _).mono ?_; rintro e w' ⟨ix, rfl, rfl⟩; rcases (by omega : 0 ≤ ix ∨ ix < 0) with hix | hix)
          | (go_at_call 120; refine (fail_first _ _ _ _ _ _ _ _ _ _ (R1.out.drewN _)).mono ?_; rintro e w2 h2; obtain ⟨rfl, hr2, hk2⟩ := h2; have e2 : w2.heap[w.heap.size]? = some tok0 := (hk2.block _ (by show w.heap.size < (alTok w).heap.size; omega) (by omega)).trans ht1.out; obtain ⟨e2f, e20, e21, e22, e23⟩ := row4 e2))
        all_goals
          (try simp only [Exit.inBlock, Exit.then])
          refine bodyPost_ret (results_cell_row rfl _ _ w.heap.size _ _ _ _ rfl (set4_blk e2) Tryz.underlying128 rfl (by kernel_rfl)) rfl ?_
          rw [hP3.out]
          exact ⟨⟨⟨_, _, _, _⟩, rfl⟩, ⟨_, H0.out.keepNew hr2 (set4 (Kb.refl _ _) (Nat.le_refl _))⟩, Kb.fresh (set4 (((Kb.of_below B1.out).drewN _).trans (hk2.mono (fun b hb => Or.inl hb))) (Or.inr (Nat.le_refl _)))⟩
theorem Tryz.infoR : (Tryz.prog.info? 21).map (fun i => (i.zero, i.size, i.bytes)) = some (some (.int .i32 0), 1, 4) := by kernel_rfl
theorem Tryz.infoT : (Tryz.prog.info? 128).map (fun i => (i.zero, i.size, i.bytes)) = some (some (.agg #[.int .i64 0, .string ⟨#[]⟩, .int .i64 0, .int .i64 0]), 4, 40) := by kernel_rfl
def rcs (l : List Nat) : List Value := l.map (fun r : Nat => Value.int .i32 (r : Int))
theorem rcs_one (l : List Nat) : ∀ u ∈ rcs l, u.oneCell' = true := by
  intro u hu
  simp only [rcs, List.mem_map] at hu
  obtain ⟨x, _, rfl⟩ := hu
  rfl
theorem rcs_app (a b : List Nat) : rcs (a ++ b) = rcs a ++ rcs b := by simp [rcs]
theorem tkC_one (t : Tk) : ∀ v ∈ tkC t, v.oneCell' = true := by
  intro v hv
  simp only [tkC, List.mem_cons, List.not_mem_nil, or_false] at hv
  rcases hv with rfl | rfl | rfl | rfl <;> rfl
theorem AppKeeps.kb {base : Nat} {v : Value} {w w' : World} (h : AppKeeps base v w w') : Kb (fun b => base ≤ b) w w' := by
  obtain ⟨row, hg, hr⟩ := h
  exact ⟨hg.os, hg.tape, hg.output, hg.size, fun b hb hn => hg.block b hb (fun e => hn (hr _ e.symm).2)⟩
theorem app_r {w : World} {ops : Array Oper} {rest : List Oper} {o : Oper} {a : Act} {Q : Exit → Act → World → Prop} {s x : Operand}
    (hgd : o.guard = none) (ho : o.op = .call { callee := .builtin .append, args := #[s, x], argTypes := #[152, 152] })
    (base : Nat) {v : Value} {n : Nat} {xs : List Nat} (hs : a.eval s = v) (hown : Owns w base 21 1 v n (rcs xs))
    {B : Nat} {A : Option Addr} {m c : Nat} {news : List Nat} (hx : a.eval x = .slice A m c) (hr : Reads w B 1 A m (rcs news))
    (hlen : n + m ≤ 1000000) (hbase : base ≤ w.heap.size)
    (h : ∀ v' w', Owns w' base 21 1 v' (n + m) (rcs (xs ++ news)) → AppKeeps base v w w' → (v'.ownBlock = v.ownBlock ∨ v'.ownBlock = some w.heap.size) → wpList Tryz.prog ops Q rest (a.put o.dst v') w') : wpList Tryz.prog ops Q (o :: rest) a w :=
  wp_app hgd ho Tryz.underlying152 Tryz.infoR rfl (by omega) base hs hown hx hr (rcs_one _) (by simp only [maxLen]; omega) (by omega) hbase (fun v' w' h1 => h v' w' (by rw [rcs_app]; exact h1))
theorem app_t {w : World} {ops : Array Oper} {rest : List Oper} {o : Oper} {a : Act} {Q : Exit → Act → World → Prop} {s x : Operand}
    (hgd : o.guard = none) (ho : o.op = .call { callee := .builtin .append, args := #[s, x], argTypes := #[143, 143] })
    (base : Nat) {v : Value} {n : Nat} {xs : List Tk} (hs : a.eval s = v) (hown : Owns w base 128 4 v n (recs tkC xs))
    {B : Nat} {A : Option Addr} {m c : Nat} {news : List Tk} (hx : a.eval x = .slice A m c) (hr : Reads w B 4 A m (recs tkC news))
    (hlen : n + m ≤ 1000000) (hbase : base ≤ w.heap.size)
    (h : ∀ v' w', Owns w' base 128 4 v' (n + m) (recs tkC (xs ++ news)) → AppKeeps base v w w' → (v'.ownBlock = v.ownBlock ∨ v'.ownBlock = some w.heap.size) → wpList Tryz.prog ops Q rest (a.put o.dst v') w') : wpList Tryz.prog ops Q (o :: rest) a w :=
  wp_app hgd ho Tryz.underlying143 Tryz.infoT rfl (by omega) base hs hown hx hr (recs_one tkC_one _) (by simp only [maxLen]; omega) (by omega) hbase (fun v' w' h1 => h v' w' (by rw [recs_append]; exact h1))
/-- a call hands back tokens, and two numbers -/
def RetTok (w : World) (r : List Tk × Int × Int) (en : Ending) (w' : World) : Prop :=
  ∃ v, en = .returned (.tuple #[v, .int .i64 r.2.1, .int .i64 r.2.2]) ∧ Owns w' w.heap.size 128 4 v r.1.length (recs tkC r.1) ∧ Below w.heap.size w w'
def tokP (s : ByteArray) : List Tk × Int × Int :=
  if 400 < s.size then ([], 0, 3) else match lexP (runes (bl s)) with
  | .inl ts => (ts, ((runes (bl s)).length : Int), 0)
  | .inr (a, er) => ([], (a : Int), er)
def rdr0 (v : Value) : Obj := .cells #[v, .int .i64 0, .int .i64 0, .int .i64 0] 154 (0, 0)
theorem take_snoc {l : List Nat} {k r : Nat} (h : l[k]? = some r) : l.take (k + 1) = l.take k ++ [r] := by rw [List.take_add_one, h]; rfl
/-- how far the lexer has come: a fault counts as the end -/
def lexMeas (n R : Nat) (w : World) : Nat := match w.cell? ⟨R, 3, none⟩ with | some (.int _ 0) => n + 1 - placeOf w R | _ => 0
theorem rd_of {w : World} {R n c B : Nat} {A : Option Addr} {rs : List Nat} (hb : w.heap[R]? = some (rdr0 (.slice A n c))) (ho : Owns w B 21 1 (.slice A n c) n (rcs rs)) (hB : R < B) : Rd w R A n c rs 0 0 0 := by
  have hl : rs.length = n := by have := ho.len; simp [rcs] at this; omega
  obtain ⟨A', c', e, h1, h2⟩ := ho.slice
  injection e with e1 e2 e3
  subst e1; subst e3
  refine ⟨hb, hl, h1, fun hn => ?_⟩
  obtain ⟨g, c2, e, hg, hlt, _, _, hc, _⟩ := ho.at_ hn
  injection e with e1 e2 e3
  refine ⟨g, e1, by omega, fun j r hr => hc j _ ?_⟩
  simp [rcs, hr]
theorem nextP_at {rs : List Nat} {i m : Nat} {t : Tk} (h : nextP rs i = .inl (t, m)) : t.at_ = (i : Int) := by
  unfold nextP countP textP at h
  repeat' split at h
  all_goals first | (injection h with h; injection h with h _; subst h; rfl) | cases h
theorem nextP_err {rs : List Nat} {i a : Nat} {er : Int} (h : nextP rs i = .inr (a, er)) : er ≠ 0 := by
  unfold nextP countP textP at h
  repeat' split at h
  all_goals first | (injection h with h; injection h with _ h; subst h; decide) | cases h
theorem NextIs.split {R n c : Nat} {A : Option Addr} {rs : List Nat} {bad : Int} {w : World} {r : (Tk × Nat) ⊕ (Nat × Int)} {e : Ending} {w' : World} (h : NextIs R n c A rs bad w r e w') :
    ∃ t : Tk, e = .returned (tkV t) ∧ Kb (· = R) w w' ∧ ((∃ (m : Nat) (tt : Tk), r = .inl (tt, m) ∧ t = ⟨tt.kind, tt.text, tt.num, 0⟩ ∧ Rd w' R A n c rs m bad 0) ∨ (∃ (a : Nat) (er : Int) (k : Nat), r = .inr (a, er) ∧ Rd w' R A n c rs k a er)) := by
  unfold NextIs at h
  rcases r with ⟨t, m⟩ | ⟨a, er⟩
  · obtain ⟨rfl, h1, h2⟩ := h
    exact ⟨_, rfl, h2, .inl ⟨m, t, rfl, rfl, h1⟩⟩
  · obtain ⟨⟨t, rfl⟩, ⟨k, h1⟩, h2⟩ := h
    exact ⟨t, rfl, h2, .inr ⟨a, er, k, rfl, h1⟩⟩
/-- what holds ahead of each token -/
def LexInv (R n c : Nat) (A : Option Addr) (rs : List Nat) (C g B2 : Nat) (w : World) (o : Value) (wr : World) : Prop :=
  OfAt [1] C g wr ∧ Below w.heap.size w wr ∧ B2 ≤ wr.heap.size ∧
  ((∃ (k f : Nat) (acc : List Tk), k ≤ n ∧ n - k < f ∧ acc.length ≤ k ∧ Owns wr B2 128 4 o acc.length (recs tkC acc) ∧ Rd wr R A n c rs k 0 0 ∧ lexF f rs k acc = lexP rs)
   ∨ (∃ (k a : Nat) (er : Int), er ≠ 0 ∧ Rd wr R A n c rs k a er ∧ lexP rs = .inr (a, er)))
theorem lexMeas_ok {n R k : Nat} {w : World} (h3 : w.cell? ⟨R, 3, none⟩ = some (.int .i64 0)) (h1 : w.cell? ⟨R, 1, none⟩ = some (.int .i64 (k : Int))) : lexMeas n R w = n + 1 - k := by
  unfold lexMeas; rw [h3]; simp [placeOf_eq h1]
theorem lexMeas_bad {n R : Nat} {w : World} {er : Int} (he : er ≠ 0) (h3 : w.cell? ⟨R, 3, none⟩ = some (.int .i64 er)) : lexMeas n R w = 0 := by
  unfold lexMeas; rw [h3]
  split
  · rename_i h; injection h with h; injection h with _ h; exact absurd h he
  · rfl
theorem tok_made (w3 : World) (o : Obj) (t : Tk) : Reads ((w3.alloc o).alloc (.cells #[.int .i64 t.kind, .string t.text, .int .i64 t.num, .int .i64 t.at_] 128)) (w3.heap.size + 2) 4 (some ⟨w3.heap.size + 1, 0, none⟩) 1 (recs tkC [t]) := by
  have h := Reads.madeRec (enc := tkC) (size := 4) (w3.alloc o) t 128 rfl
  simpa [tkC] using h
set_option maxHeartbeats 1000000 in
theorem tokens_big (s : ByteArray) (w : World) (h : 400 < s.size) : Calls Tryz.prog 104 #[.string s] w (RetTok w (tokP s)) := by
  have t1 : decide ((400 : Int) < (s.size : Int)) = true := by simp; omega
  have hP : Hid (tokP s = ([], 0, 3)) := by show _ = _; unfold tokP; rw [if_pos h]
  clear h
  go_enter Tryz.func104, Tryz.ntmps104
  go_wp2
  go_ret3
  rw [hP.out]
  exact ⟨_, rfl, Owns.nil, Below.refl _ _⟩
set_option maxHeartbeats 2000000 in
theorem tokens_any (s : ByteArray) (w : World) : Calls Tryz.prog 104 #[.string s] w (RetTok w (tokP s)) := by
  rcases Nat.lt_or_ge 400 s.size with h | h
  · exact tokens_big s w h
  have t1 : decide ((400 : Int) < (s.size : Int)) = false := by simp; omega
  have hP : Hid (tokP s = match lexP (runes (bl s)) with | .inl ts => (ts, ((runes (bl s)).length : Int), 0) | .inr (a, er) => ([], (a : Int), er)) := by show _ = _; unfold tokP; rw [if_neg (by omega)]
  have hrl := runes_size s
  have hrn : (runes (bl s)).length ≤ 400 := by omega
  obtain ⟨rs, hrs⟩ : ∃ rs, Hid (runes (bl s) = rs) := ⟨_, rfl⟩
  rw [hrs.out] at hP hrn
  have hB0 : Hid (Below w.heap.size w ((w.alloc (rdr0 (.slice none 0 0))).iter s 0)) := by
    have h1 := (Below.refl _ w).alloc (Nat.le_refl _) (rdr0 (.slice none 0 0))
    exact h1.alloc (by simp) _
  have hblk0 : Hid (((w.alloc (rdr0 (.slice none 0 0))).iter s 0).heap[w.heap.size]? = some (rdr0 (.slice none 0 0))) := by
    show _ = _
    rw [show ((w.alloc (rdr0 (.slice none 0 0))).iter s 0) = (w.alloc (rdr0 (.slice none 0 0))).alloc (.stringIter s 0) from rfl, Below.heap_alloc _ _ _ (by simp)]
    exact heap_alloc_new w _
  clear hrl
  go_enter Tryz.func104, Tryz.ntmps104
  go_wp2_with fail
  go_loopw [] (fun wr => ∃ (k : Nat) (v : Value), k ≤ rs.length ∧ wr.heap[w.heap.size + 1]? = some (.stringIter s (posN k (bl s))) ∧ wr.heap[w.heap.size]? = some (rdr0 v) ∧ Owns wr (w.heap.size + 2) 21 1 v k (rcs (rs.take k)) ∧ Below w.heap.size w wr) (fun wr => (bl s).length - wr.iterPos (w.heap.size + 1))
  case atStart =>
    have hi := iter_start (w.alloc (rdr0 (.slice none 0 0))) s
    simp only [World.size_alloc] at hi
    exact ⟨0, _, Nat.zero_le _, hi, hblk0.out, by simpa [rcs] using Owns.nil, hB0.out⟩
  case round =>
    obtain ⟨k, v, hk, hit, hblk, hown, hb⟩ := hrel
    obtain ⟨A, c, rfl, hkc, hcm⟩ := hown.slice
    have hsz : w.heap.size + 2 ≤ wr.heap.size := by have := (Array.getElem?_eq_some_iff.1 hit).1; omega
    by_cases hlt : k < rs.length
    · obtain ⟨r, hr, hrm, hnx⟩ := next_rune wr _ s k (by rw [hrs.out]; exact hlt) hit
      rw [hrs.out] at hr
      have hit2 := Lib.hid (Lib.iterAt_heap wr _ s _ (posN (k + 1) (bl s)) hit)
      have hb2 := Lib.hid (Lib.below_iterAt hb (k := w.heap.size + 1) (by omega) s (posN (k + 1) (bl s)))
      have hpm := pos_mono k (l := bl s) (by rw [hrs.out]; exact hlt)
      have hpl := pos_le (k + 1) (l := bl s) (by rw [hrs.out]; omega)
      have hblk2 : Hid ((wr.iterAt (w.heap.size + 1) s (posN (k + 1) (bl s))).heap[w.heap.size]? = some (rdr0 (.slice A k c))) := (Lib.iterAt_other _ _ _ _ _ (by omega)).trans hblk
      have hown2 : Hid (Owns (wr.iterAt (w.heap.size + 1) s (posN (k + 1) (bl s))) (w.heap.size + 2) 21 1 (.slice A k c) k (rcs (rs.take k))) := hown.keep (fun g _ hg _ => Lib.iterAt_other _ _ _ _ _ (by omega))
      have hsz2 : (wr.iterAt (w.heap.size + 1) s (posN (k + 1) (bl s))).heap.size = wr.heap.size := by simp [World.iterAt]
      have hitp := Lib.hid hit
      clear hit hown hb
      obtain ⟨w1, hw1⟩ : ∃ w1, wr.iterAt (w.heap.size + 1) s (posN (k + 1) (bl s)) = w1 := ⟨_, rfl⟩
      rw [hw1] at hnx hit2 hb2 hblk2 hown2 hsz2
      have hsz3 : w.heap.size + 2 ≤ w1.heap.size := by omega
      clear hsz2
      have d0 : w1.cell? ⟨w.heap.size, 0, none⟩ = some (.slice A k c) := by have := hblk2.out; simp [World.cell?, this, rdr0]
      have hR1 : w.heap.size < w1.heap.size := by omega
      have hr1 : Hid (Reads (w1.alloc (.cells #[.int .i32 (r : Int)] 21)) (w1.heap.size + 1) 1 (some ⟨w1.heap.size, 0, none⟩) 1 (rcs [r])) := Reads.made w1 (rcs [r]) _
      have hs1 : w.heap.size + 2 ≤ (w1.alloc (.cells #[.int .i32 (r : Int)] 21)).heap.size := by simp; omega
      have ho1 := Lib.hid (hown2.out.alloc (.cells #[.int .i32 (r : Int)] 21))
      go_wp2_with (at_builtin; refine app_r rfl rfl (w.heap.size + 2) rfl ho1.out rfl hr1.out (by omega) hs1 ?_)
      intro v' w3 o3 k3 _
      have kb3 := k3.kb
      have hblk3 : w3.heap[w.heap.size]? = some (rdr0 (.slice A k c)) := (kb3.block _ (by simp; omega) (by omega)).trans ((Below.heap_alloc _ _ _ hR1).trans hblk2.out)
      have hit3 : Hid (w3.heap[w.heap.size + 1]? = some (.stringIter s (posN (k + 1) (bl s)))) := (kb3.block _ (by simp; omega) (by omega)).trans ((Below.heap_alloc _ _ _ (by omega)).trans hit2.out)
      have hb3 := Lib.hid (k3.below (hb2.out.alloc (by omega) _) (by omega) (by simp; omega))
      have e0 : w3.cell? ⟨w.heap.size, 0, none⟩ = some (.slice A k c) := by simp [World.cell?, hblk3, rdr0]
      have f0 : w3.frozen? ⟨w.heap.size, 0, none⟩ = false := by simp [World.frozen?, hblk3, rdr0]
      obtain ⟨A3, c3, rfl, hkc3, hcm3⟩ := o3.slice
      replace hblk3 := Lib.hid hblk3
      replace o3 := Lib.hid o3
      clear d0 kb3 k3 hblk2 hown2 hit2 hb2 hblk
      go_wp2
      go_roundw
      case rel =>
        refine ⟨k + 1, .slice A3 (k + 1) c3, by omega, ?_, ?_, ?_, ?_⟩
        · rw [Below.heap_setCell _ _ _ _ (by show w.heap.size + 1 ≠ w.heap.size; omega)]; exact hit3.out
        · simp [World.setCell, Array.getElem?_modify, hblk3.out, rdr0]
        · rw [take_snoc hr.out]
          exact o3.out.setBelow (p := ⟨w.heap.size, 0, none⟩) (by show w.heap.size < _; omega) _
        · exact hb3.out.setCell (p := ⟨w.heap.size, 0, none⟩) (Nat.le_refl _) _
      case measure =>
        have h2 : (w3.setCell ⟨w.heap.size, 0, none⟩ (.slice A3 (k + 1) c3)).heap[w.heap.size + 1]? = some (.stringIter s (posN (k + 1) (bl s))) := by
          rw [Below.heap_setCell _ _ _ _ (by show w.heap.size + 1 ≠ w.heap.size; omega)]; exact hit3.out
        simp only [World.iterPos, h2, hitp.out]; omega
    · obtain rfl : k = rs.length := by omega
      obtain ⟨wq, hwq⟩ : ∃ wq, wq = wr := ⟨_, rfl⟩
      subst hwq
      have hnx := next_end wq _ s _ (by rw [hrs.out]) hit
      rw [List.take_length] at hown
      have hrd := rd_of hblk hown (by omega)
      have hb1 : Below wq.heap.size wq ((wq.alloc (.cells #[.int .i64 1] 3)).alloc (.cells #[.slice (some ⟨wq.heap.size, 0, none⟩) 1 1] 38)) := ((Below.refl _ wq).alloc (Nat.le_refl _) _).alloc (by simp) _
      have hof : OfAt [1] (wq.heap.size + 1) wq.heap.size ((wq.alloc (.cells #[.int .i64 1] 3)).alloc (.cells #[.slice (some ⟨wq.heap.size, 0, none⟩) 1 1] 38)) := by
        refine ⟨?_, ?_⟩
        · have h := heap_alloc_new (wq.alloc (.cells #[.int .i64 1] 3)) (.cells #[.slice (some ⟨wq.heap.size, 0, none⟩) 1 1] 38)
          simpa using h
        · rw [Below.heap_alloc _ _ _ (by simp)]
          exact heap_alloc_new wq _
      have hz0 : ((wq.alloc (.cells #[.int .i64 1] 3)).alloc (.cells #[.slice (some ⟨wq.heap.size, 0, none⟩) 1 1] 38)).heap.size = wq.heap.size + 2 := by simp
      have hrd0 := hrd.below hb1
      have hbw : Below w.heap.size w ((wq.alloc (.cells #[.int .i64 1] 3)).alloc (.cells #[.slice (some ⟨wq.heap.size, 0, none⟩) 1 1] 38)) := hb.trans (hb1.mono (by omega))
      clear hrd hit hblk hown hb hb1 hkc
      obtain ⟨W0, hW0⟩ : ∃ W0, Hid ((wq.alloc (.cells #[.int .i64 1] 3)).alloc (.cells #[.slice (some ⟨wq.heap.size, 0, none⟩) 1 1] 38) = W0) := ⟨_, rfl⟩
      rw [hW0.out] at hof hrd0 hz0 hbw
      replace hz0 := Lib.hid hz0
      replace hof := Lib.hid hof
      replace hrd0 := Lib.hid hrd0
      replace hbw := Lib.hid hbw
      go_wp2_with (go_at_call 110; refine (of_any _ _ _ _).mono ?_; rintro e w1 ⟨rfl, rfl⟩)
      go_loopw [9] (LexInv w.heap.size rs.length c A rs (wq.heap.size + 1) wq.heap.size W0.heap.size w) (fun _ wr => lexMeas rs.length w.heap.size wr)
      case atStart =>
        rw [hW0.out]
        exact ⟨hof.out, hbw.out, Nat.le_refl _, .inl ⟨0, rs.length + 1, [], Nat.zero_le _, by omega, Nat.le_refl _, Owns.nil, hrd0.out, rfl⟩⟩
      case round =>
        obtain ⟨hofr, hbr, hB2, hcase⟩ := hrel
        have hRB : w.heap.size < W0.heap.size := by have := hrd0.out.lt; omega
        have hz := hz0.out
        rcases hcase with ⟨k, f, acc, hkn, hf, hacc, hown, hrd, hlx⟩ | ⟨k, a, er, hne, hrd, hlx⟩
        case inr =>
          have hP2 : Hid (tokP s = ([], (a : Int), er)) := by show _ = _; rw [hP.out, hlx]
          have d2 := hrd.c2
          have d3 := hrd.c3
          have te : (er == 0) = false := by simpa using hne
          have hR := hrd.lt
          clear hrd hofr hlx hnx hz
          go_wp2_with fail
          go_upto_region 18 with (fail)
          go_quiet (fail)
          go_wp2
          go_ret3
          rw [hP2.out]
          exact ⟨_, rfl, Owns.nil, below_drewN hbr _⟩
        case inl =>
          have d3 := hrd.c3
          have hbl := Lib.hid (blanks_any w.heap.size rs.length c A rs k 0 0 (wq.heap.size + 1) wq.heap.size wr (by omega) (by omega) hrd hofr hkn (by omega) hcm)
          have hRD := Lib.hid hrd
          have hsk := skip_le (rs := rs) (i := k) hkn
          obtain ⟨m, hm⟩ : ∃ m, Hid (skipR rs k = m) := ⟨_, rfl⟩
          rw [hm.out] at hbl hsk
          obtain ⟨hkm, hmn⟩ := hsk
          by_cases hend : m = rs.length
          · subst hend
            have hP2 : Hid (tokP s = (acc, (rs.length : Int), 0)) := by show _ = _; rw [hP.out, ← hlx, lexF_end hm.out]
            clear hnx hz hlx hofr hrd
            go_wp2_with (go_at_call 111; refine Calls.mono hbl.out ?_; rintro e w2 ⟨⟨sx, rfl⟩, hr2, ho2, hk2⟩; have c20 := hr2.c0; have c21 := hr2.c1; have c2r := hr2.lt; replace hr2 := Lib.hid hr2; replace ho2 := Lib.hid ho2; replace hk2 := Lib.hid hk2)
            go_upto_region 12 with (fail)
            go_quiet (fail)
            go_upto_region 13 with (fail)
            go_quiet (fail)
            go_wp2
            go_ret3
            rw [hP2.out]
            exact ⟨_, rfl, ((hown.keep (fun g _ hg hlt => hk2.out.block g hlt (by omega))).mono (by omega)).drewN _ |>.drewN _, below_drewN (below_drewN (Kb.below_ hbr hk2.out (fun b hb => by omega) (by omega)) _) _⟩
          · obtain ⟨x, hx⟩ : ∃ x, Hid (rs[m]? = some x) := ⟨_, List.getElem?_eq_getElem (by omega)⟩
            have tmn : ((m : Int) == (rs.length : Int)) = false := by simp; omega
            clear hnx hz hofr hrd
            go_wp2_with (go_at_call 111; refine Calls.mono hbl.out ?_; rintro e w2 ⟨⟨sx, rfl⟩, hr2, ho2, hk2⟩; have c20 := hr2.c0; have c21 := hr2.c1; have c2r := hr2.lt; replace hr2 := Lib.hid hr2; replace ho2 := Lib.hid ho2; replace hk2 := Lib.hid hk2)
            go_upto_region 12 with (fail)
            go_quiet (fail)
            go_wp2_with (first
              | (go_at_call 112; refine (next_any _ _ _ _ _ m x 0 _ (hr2.out.drewN _) hx.out (by omega) hcm).mono ?_; rintro e w3 h3; obtain ⟨t, rfl, hk3, hc3⟩ := h3.split; clear h3; have hz3 : W0.heap.size ≤ w3.heap.size := (by have h1 := hk3.size; have h2 := hk2.out.size; dsimp only [World.drewN] at h1; omega); have ho3 := Lib.hid (((hown.keep (fun g _ hg hlt => hk2.out.block g hlt (by omega))).drewN _).keep (w' := w3) (fun g _ hg hlt => hk3.block g hlt (by omega))); replace hk3 := Lib.hid hk3; replace hc3 := Lib.hid hc3; unfold tkV)
              | (at_builtin; refine app_t rfl rfl W0.heap.size rfl ((ho3.out.alloc _).alloc _) rfl (tok_made w3 _ ⟨t.kind, t.text, t.num, (m : Int)⟩) (by omega) (by simp only [World.size_alloc]; omega) ?_))
            intro v4 w4 o4 k4 _
            have kb4 : Hid (Kb (fun b => W0.heap.size ≤ b) w3 w4) := (((Kb.refl _ w3).alloc _).alloc _).trans k4.kb
            replace o4 := Lib.hid o4
            clear k4
            go_wp2
            have hofe : OfAt [1] (wq.heap.size + 1) wq.heap.size w4 := ((ho2.out.kb ((Kb.refl (fun _ => False) w2).drewN _) id id).kb hk3.out (by omega) (by omega)).kb kb4.out (by have := hz0.out; omega) (by have := hz0.out; omega)
            have hbe : Below w.heap.size w w4 := Kb.below_ (Kb.below_ (below_drewN (Kb.below_ hbr hk2.out (fun b hb => by omega) (by omega)) _) hk3.out (fun b hb => by omega) (by have := hk2.out.size; dsimp only [World.drewN]; omega)) kb4.out (fun b hb => by omega) (by omega)
            have hse : W0.heap.size ≤ w4.heap.size := by have := kb4.out.size; omega
            have hmr : skipR rs k ≠ rs.length := by rw [hm.out]; exact hend
            obtain ⟨f', rfl⟩ : ∃ f', f = f' + 1 := ⟨f - 1, by omega⟩
            rcases hc3.out with ⟨m', tt, hnp, ht, hrd3⟩ | ⟨a, er, k', hnp, hrd3⟩
            · have hrd4 := hrd0.out.keepNew hrd3 kb4.out
              have haft := nextP_after (rs := rs) (i := m) (by omega) hnp
              have hat := nextP_at hnp
              have htt : (⟨t.kind, t.text, t.num, (m : Int)⟩ : Tk) = tt := by rw [ht, ← hat]
              have o5 := o4.out
              rw [htt] at o5
              have hstep := lexF_step (f := f') (acc := acc) hmr (by rw [hm.out]; exact hnp)
              go_roundw
              case rel => exact ⟨hofe, hbe, hse, .inl ⟨m', f', acc ++ [tt], haft.2, by omega, by simp; omega, by simpa using o5, hrd4, by rw [← hlx, hstep]⟩⟩
              case measure => rw [lexMeas_ok hrd4.c3 hrd4.c1, lexMeas_ok hRD.out.c3 hRD.out.c1]; omega
            · have hrd4 := hrd0.out.keepNew hrd3 kb4.out
              have hstep := lexF_bad (f := f') (acc := acc) hmr (by rw [hm.out]; exact hnp)
              go_roundw
              case rel => exact ⟨hofe, hbe, hse, .inr ⟨k', a, er, nextP_err hnp, hrd4, by rw [← hlx, hstep]⟩⟩
              case measure => rw [lexMeas_bad (nextP_err hnp) hrd4.c3, lexMeas_ok hRD.out.c3 hRD.out.c1]; omega
end Go.Proofs.YtmkmmggimokagaaGreatDoor
