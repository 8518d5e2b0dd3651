/- Layer 8, plain: the tokens of a command's line are read as this command. Layer 8, plain: the line of a command that may be is read as this command. Layer 8, plain: the fields of a command that may be stand as they may. Layer 8, plain: a command that may be, written, is read as itself. Layer 8, plain: a command that may be, written, is read as itself: kind by kind. Layer 8, plain: a submission, written, is read as itself. Layer 8, plain: what is written of a command that may be is read as it. -/
import Derived.Test.YtjmhaoplablmnaaGreatDoorP1
import Derived.Test.YtjmhaoplablmnaaGreatDoorP2
import Derived.Test.YtjmhaoplablmnaaGreatDoorP7
namespace Go.Proofs.YtjmhaoplablmnaaGreatDoor
set_option linter.unusedVariables false
open Go.RowKit
def AtT (us : List Tk) (i : Nat) (ts : List Tk) : Prop := (us.drop i).map nop = ts
section
variable {us : List Tk} {en : Int} {i : Nat} {t : Tk} {rest : List Tk}
theorem AtT.get (h : AtT us i (t :: rest)) : ∃ u, us[i]? = some u ∧ nop u = t ∧ AtT us (i + 1) rest := by
  unfold AtT at h
  cases hd : us.drop i with
  | nil => rw [hd] at h; simp at h
  | cons u l =>
    rw [hd, List.map_cons] at h
    injection h with h1 h2
    have h3 : us[i]? = some u := by have := List.getElem?_drop (xs := us) (i := i) (j := 0); rw [hd] at this; simpa using this.symm
    refine ⟨u, h3, h1, ?_⟩
    unfold AtT
    rw [← h2]
    have : us.drop (i + 1) = l := by
      rw [← List.drop_drop, hd]; rfl
    rw [this]
theorem take_hit {k : Int} {p : Tk → Bool} (h : AtT us i (t :: rest)) (hk : t.kind = k) (hp : ∀ u, nop u = t → p u = true) :
    ∃ u, us[i]? = some u ∧ nop u = t ∧ mayP us k p ⟨i, -1⟩ = some u ∧ takeP us en k p ⟨i, -1⟩ = (u, true, ⟨i + 1, -1⟩) ∧ AtT us (i + 1) rest := by
  obtain ⟨u, h1, h2, h3⟩ := h.get
  have hku : u.kind = k := by rw [← hk, ← h2]; rfl
  have hm : mayP us k p ⟨i, -1⟩ = some u := by unfold mayP; rw [if_pos (by show (-1 : Int) < 0; decide)]; simp only [h1]; rw [if_pos ⟨hku, hp u h2⟩]
  exact ⟨u, h1, h2, hm, by unfold takeP; rw [hm], h3⟩
theorem nop_text {u t : Tk} (h : nop u = t) : u.text = t.text := by rw [← h]; rfl
theorem nop_num {u t : Tk} (h : nop u = t) : u.num = t.num := by rw [← h]; rfl
theorem nop_kind {u t : Tk} (h : nop u = t) : u.kind = t.kind := by rw [← h]; rfl
theorem sign_ok {c : UInt8} (h : AtT us i (sgT c :: rest)) : signP us en [c] ⟨i, -1⟩ = ⟨i + 1, -1⟩ ∧ AtT us (i + 1) rest := by
  obtain ⟨u, _, _, _, h2, h3⟩ := take_hit (en := en) (k := 5) (p := fun t => t.text.toList == [c]) h rfl (fun u hu => by rw [nop_text hu]; unfold sgT; simp)
  exact ⟨by unfold signP; rw [h2], h3⟩
theorem num_ok {n : Int} {p : Int → Bool} (h : AtT us i (nuT n :: rest)) (hp : p n = true) : numR us en p ⟨i, -1⟩ = (n, ⟨i + 1, -1⟩) ∧ AtT us (i + 1) rest := by
  obtain ⟨u, _, h1, _, h2, h3⟩ := take_hit (en := en) (k := 2) (p := fun t => p t.num) h rfl (fun u hu => by rw [nop_num hu]; exact hp)
  refine ⟨?_, h3⟩
  unfold numR; rw [h2, nop_num h1]; rfl
theorem length_ok {m : Nat} (h1 : 1 ≤ m) (h2 : m ≤ 100000) (h : AtT us i (tmT (showL m) :: rest)) : lengthP us en ⟨i, -1⟩ = ((m : Int), ⟨i + 1, -1⟩) ∧ AtT us (i + 1) rest := by
  have hN : hrsN (showL m) = m ∧ hrsE (showL m) = 0 := by unfold hrsN hrsE; rw [parse_show (show m ≤ 1000000 by omega)]; simp (config := { failIfUnchanged := false }); try omega
  have hd : ∀ u, nop u = tmT (showL m) → u.text.data.toList = showL m := fun u hu => by rw [nop_text hu]; rfl
  obtain ⟨u, _, hu, ha, _, _⟩ := take_hit (en := en) (k := 3) (p := fun _ => true) h rfl (fun u hu => rfl)
  obtain ⟨u2, _, hu2, _, hb, hc⟩ := take_hit (en := en) (k := 3) (p := timeP) h rfl (fun u hu => by
    unfold timeP lenB inB; rw [hd u hu, hN.1, hN.2]; simp; omega)
  refine ⟨?_, hc⟩
  unfold lengthP; rw [ha]; dsimp only; rw [hb, hd u hu, hN.1]
theorem named_ok {s : ByteArray} (hs : nameB s = true) (h : AtT us i (⟨1, s, 0, 0⟩ :: rest)) : namedP us en ⟨i, -1⟩ = (s, ⟨i + 1, -1⟩) ∧ AtT us (i + 1) rest := by
  obtain ⟨u, _, h1, _, h2, h3⟩ := take_hit (en := en) (k := 1) (p := fun t => nameB t.text) h rfl (fun u hu => by rw [nop_text hu]; exact hs)
  refine ⟨?_, h3⟩
  unfold namedP; rw [h2, nop_text h1]
end
/-- a field's name and value go together -/
inductive FitF : Fl → Prop where
  | user (s : ByteArray) (h : nameB s = true) : FitF (bU, .word s)
  | account (s : ByteArray) (h : nameB s = true) : FitF (bA, .word s)
  | prio (n : Int) (h : inB n 0 100 = true) : FitF (bPrio, .num n)
  | dep (d n : Int) (h : inB n 1 99999 = true) : FitF (depW d, .num n)
  | frm (n : Int) (h : inB n 0 1000000 = true) : FitF (bFrom, .num n)
  | nodes (n : Int) (h : inB n 1 48 = true) : FitF (bNodes, .num n)
  | alt (a b : Int) (h : inB a 1 48 = true) (h2 : inB b 1 100000 = true) : FitF (bAlt, .alt a b)
  | rng (a b : Int) (h : inB a 1 48 = true) (h2 : inB b 1 48 = true) : FitF (bRange, .rng a b)
  | time (n : Int) (h : inB n 1 100000 = true) : FitF (bTime, .time n)
theorem in_iff {n a b : Int} : inB n a b = true ↔ a ≤ n ∧ n ≤ b := by unfold inB; simp
theorem dep_or (d : Int) : depW d = bAny ∨ depW d = bGood ∨ depW d = bBad := by
  unfold depW
  split
  · exact .inl rfl
  · split
    · exact .inr (.inl rfl)
    · exact .inr (.inr rfl)
theorem FitF.ok {f : Fl} (h : FitF f) (hw : ∀ s, f.2 = .word s → wordB s = true) : lowN f.1 ∧ okVt f.2 := by
  have low : ∀ l ∈ [bU, bA, bPrio, bAny, bGood, bBad, bFrom, bNodes, bAlt, bRange, bTime], lowN l := by
    intro l hl
    simp only [List.mem_cons, List.not_mem_nil, or_false] at hl
    rcases hl with rfl | rfl | rfl | rfl | rfl | rfl | rfl | rfl | rfl | rfl | rfl <;> exact ⟨by decide, by decide⟩
  cases h with
  | user s h => exact ⟨low _ (by simp), h, hw s rfl⟩
  | account s h => exact ⟨low _ (by simp), h, hw s rfl⟩
  | prio n h => rw [in_iff] at h; exact ⟨low _ (by simp), by unfold okVt; dsimp only; omega⟩
  | dep d n h => rw [in_iff] at h; exact ⟨by rcases dep_or d with e | e | e <;> (dsimp only; rw [e]; exact low _ (by simp)), by unfold okVt; dsimp only; omega⟩
  | frm n h => rw [in_iff] at h; exact ⟨low _ (by simp), by unfold okVt; dsimp only; omega⟩
  | nodes n h => rw [in_iff] at h; exact ⟨low _ (by simp), by unfold okVt; dsimp only; omega⟩
  | alt a b h h2 => rw [in_iff] at h h2; exact ⟨low _ (by simp), by unfold okVt; dsimp only; omega⟩
  | rng a b h h2 => rw [in_iff] at h h2; exact ⟨low _ (by simp), by unfold okVt; dsimp only; omega⟩
  | time n h => rw [in_iff] at h; exact ⟨low _ (by simp), by unfold okVt; dsimp only; omega⟩
theorem len_at {us : List Tk} {en : Int} {i : Nat} {rest : List Tk} {n : Int} (h : inB n 1 100000 = true) (hA : AtT us i (tmT (showL n.toNat) :: rest)) : lengthP us en ⟨i, -1⟩ = (n, ⟨i + 1, -1⟩) ∧ AtT us (i + 1) rest := by
  rw [in_iff] at h
  have := length_ok (en := en) (m := n.toNat) (by omega) (by omega) hA
  rwa [Int.toNat_of_nonneg (by omega)] at this
theorem value_ok {us : List Tk} {en : Int} {i : Nat} {rest : List Tk} {f : Fl} (h : FitF f) (hA : AtT us i (vToks f.2 ++ rest)) :
    valueP us en f.1 ⟨i, -1⟩ = (vlOf f.2, ⟨i + (vToks f.2).length, -1⟩) ∧ AtT us (i + (vToks f.2).length) rest := by
  cases h with
  | user s h =>
    obtain ⟨e, h2⟩ := named_ok (en := en) h hA
    exact ⟨by unfold valueP; dsimp only; rw [if_pos (by decide), e]; rfl, h2⟩
  | account s h =>
    obtain ⟨e, h2⟩ := named_ok (en := en) h hA
    exact ⟨by unfold valueP; dsimp only; rw [if_pos (by decide), e]; rfl, h2⟩
  | prio n h =>
    obtain ⟨e, h2⟩ := num_ok (en := en) (p := fun n => inB n 0 100) hA h
    exact ⟨by unfold valueP; dsimp only; rw [if_neg (by decide), if_pos (by decide), e]; rfl, h2⟩
  | dep d n h =>
    obtain ⟨e, h2⟩ := num_ok (en := en) (p := fun n => inB n 1 99999) hA h
    refine ⟨?_, h2⟩
    rcases dep_or d with ed | ed | ed <;> (dsimp only; rw [ed]; unfold valueP; rw [if_neg (by decide), if_neg (by decide), if_pos (by decide), e]; rfl)
  | frm n h =>
    obtain ⟨e, h2⟩ := num_ok (en := en) (p := fun n => inB n 0 1000000) hA h
    exact ⟨by unfold valueP; dsimp only; rw [if_neg (by decide), if_neg (by decide), if_neg (by decide), if_pos (by decide), e]; rfl, h2⟩
  | nodes n h =>
    obtain ⟨e, h2⟩ := num_ok (en := en) (p := fun n => inB n 1 48) hA h
    exact ⟨by unfold valueP; dsimp only; rw [if_neg (by decide), if_neg (by decide), if_neg (by decide), if_neg (by decide), if_pos (by decide), e]; rfl, h2⟩
  | alt a b h hb =>
    obtain ⟨e, h2⟩ := num_ok (en := en) (p := fun n => inB n 1 48) (rest := sgT 58 :: tmT (showL b.toNat) :: rest) hA h
    obtain ⟨e2, h3⟩ := sign_ok (en := en) h2
    obtain ⟨e3, h4⟩ := len_at (en := en) hb h3
    exact ⟨by unfold valueP; dsimp only; rw [if_neg (by decide), if_neg (by decide), if_neg (by decide), if_neg (by decide), if_neg (by decide), if_pos (by decide), e]; dsimp only; rw [e2, e3]; rfl, h4⟩
  | rng a b h hb =>
    obtain ⟨e, h2⟩ := num_ok (en := en) (p := fun n => inB n 1 48) (rest := sgT 45 :: nuT b :: rest) hA h
    obtain ⟨e2, h3⟩ := sign_ok (en := en) h2
    obtain ⟨e3, h4⟩ := num_ok (en := en) (p := fun n => inB n 1 48) h3 hb
    exact ⟨by unfold valueP; dsimp only; rw [if_neg (by decide), if_neg (by decide), if_neg (by decide), if_neg (by decide), if_neg (by decide), if_neg (by decide), if_pos (by decide), e]; dsimp only; rw [e2, e3]; rfl, h4⟩
  | time n h =>
    obtain ⟨e, h2⟩ := len_at (en := en) h hA
    exact ⟨by unfold valueP; dsimp only; rw [if_neg (by decide), if_neg (by decide), if_neg (by decide), if_neg (by decide), if_neg (by decide), if_neg (by decide), if_neg (by decide), e]; rfl, h2⟩
def fdOf (f : Fl) : Fd := (⟨f.1.toArray⟩, vlOf f.2)
theorem field_ok {us : List Tk} {en : Int} {i : Nat} {rest : List Tk} {f : Fl} {k : Int} {had : List Fd} (h : FitF f) (hA : AtT us i (fToks f ++ rest)) (h1 : openP k had (fdOf f).1 = true) (h2 : had.any (twiceP (fdOf f)) = false) :
    fieldP us en k had ⟨i, -1⟩ = (fdOf f, ⟨i + (fToks f).length, -1⟩) ∧ AtT us (i + (fToks f).length) rest := by
  obtain ⟨u, _, hu, hm, _, hA2⟩ := take_hit (en := en) (k := 1) (p := fun t => openP k had t.text) (rest := sgT 61 :: (vToks f.2 ++ rest)) hA rfl (fun u hu => by rw [nop_text hu]; exact h1)
  obtain ⟨e2, hA3⟩ := sign_ok (en := en) hA2
  obtain ⟨e3, hA4⟩ := value_ok (en := en) h hA3
  have ht : u.text = (fdOf f).1 := nop_text hu
  have htl : u.text.toList = f.1 := by rw [ht]; exact mkT _
  refine ⟨?_, by rw [show i + (fToks f).length = i + 1 + 1 + (vToks f.2).length by unfold fToks; simp; omega]; exact hA4⟩
  unfold fieldP
  rw [hm]
  dsimp only
  rw [e2, htl, e3, ht]
  have hx : ¬ ((-1 : Int) < 0 ∧ had.any (twiceP ((fdOf f).1, vlOf f.2)) = true) := fun x => by
    have := x.2
    rw [show ((fdOf f).1, vlOf f.2) = fdOf f from rfl, h2] at this; cases this
  dsimp only
  rw [if_neg hx, show i + 1 + 1 + (vToks f.2).length = i + (fToks f).length by unfold fToks; simp; omega]
  rfl
def Chain (k : Int) : List Fd → List Fl → Prop
  | _, [] => True
  | had, f :: fs => FitF f ∧ openP k had (fdOf f).1 = true ∧ had.any (twiceP (fdOf f)) = false ∧ Chain k (had ++ [fdOf f]) fs
theorem putC_kind (c : Cm) (f : Fd) : (putC c f).kind = c.kind := by
  unfold putC
  repeat' split
  all_goals rfl
theorem loop_ok {us : List Tk} {en : Int} : ∀ (fs : List Fl) (n i : Nat) (c : Cm) (had : List Fd) (fr : Bool), AtT us i (fs.flatMap fToks) → Chain c.kind had fs → fs.length < n →
    ∃ j, loopP us en n c had fr ⟨i, -1⟩ = ((fs.map fdOf).foldl putC c, fr || (fs.map fdOf).any (fun f => f.1.toList == bFrom), ⟨j, -1⟩) := by
  intro fs
  induction fs with
  | nil =>
    intro n i c had fr hA _ hn
    obtain ⟨m, rfl⟩ : ∃ m, n = m + 1 := ⟨n - 1, by simp at hn; omega⟩
    have hle : us.length ≤ i := by
      unfold AtT at hA
      have := congrArg List.length hA
      simp at this; omega
    exact ⟨i, by unfold loopP; rw [if_neg (by simp; omega)]; simp⟩
  | cons f fs ih =>
    intro n i c had fr hA hC hn
    obtain ⟨m, rfl⟩ : ∃ m, n = m + 1 := ⟨n - 1, by simp at hn; omega⟩
    obtain ⟨h1, h2, h3, h4⟩ := hC
    rw [List.flatMap_cons] at hA
    obtain ⟨e, hA2⟩ := field_ok (en := en) h1 hA h2 h3
    have hlt : i < us.length := by
      obtain ⟨u, hu, _⟩ := AtT.get (rest := sgT 61 :: (vToks f.2 ++ fs.flatMap fToks)) (t := wdT f.1) hA
      exact (List.getElem?_eq_some_iff.1 hu).1
    obtain ⟨j, hj⟩ := ih m (i + (fToks f).length) (putC c (fdOf f)) (had ++ [fdOf f]) (fr || ((fdOf f).1.toList == bFrom)) hA2 (by rw [putC_kind]; exact h4) (by simp at hn; omega)
    refine ⟨j, ?_⟩
    unfold loopP
    rw [if_pos ⟨by show (-1 : Int) < 0; decide, hlt⟩, e]
    dsimp only
    rw [if_pos (by decide), hj, List.map_cons, List.foldl_cons, List.any_cons, Bool.or_assoc]
def headC (c : Cm) : Cm :=
  if c.kind = 1 then { cm0 with kind := c.kind, name := c.name } else if c.kind = 7 ∨ c.kind = 8 ∨ c.kind = 9 then { cm0 with kind := c.kind, node := c.node } else if c.kind = 10 then { cm0 with kind := c.kind } else { cm0 with kind := c.kind, job := c.job }
theorem word_no {k : Int} (h1 : 1 ≤ k) (h2 : k ≤ 12) : idxS wordsL8 (wordsL8.getD k.toNat ⟨#[]⟩) = k := by
  rcases kinds12 h1 h2 with rfl | rfl | rfl | rfl | rfl | rfl | rfl | rfl | rfl | rfl | rfl | rfl <;> kernel_rfl
theorem wdT_bWd (k : Int) : wdT (bWd k) = ⟨1, wordsL8.getD k.toNat ⟨#[]⟩, 0, 0⟩ := by unfold wdT bWd; simp [bl]
theorem head_ok {us : List Tk} {en : Int} {c : Cm} (h : OkC c) (hj : c.kind = 2 ∨ c.kind = 3 ∨ c.kind = 4 ∨ c.kind = 5 ∨ c.kind = 6 ∨ c.kind = 11 → 1 ≤ c.job) (h0 : c.kind = 12 ∧ c.job = 0 → fieldsF c = []) (h10 : c.kind = 10 → c.job = 0) (hA : AtT us 0 (toksP c)) :
    ∃ i, headP us en ⟨0, -1⟩ = (headC c, ⟨i, -1⟩) ∧ AtT us i ((fieldsF c).flatMap fToks) := by
  obtain ⟨hk1, hk2⟩ := h.kind
  unfold toksP at hA
  rw [wdT_bWd] at hA
  obtain ⟨u, _, hu, hm, _, hA2⟩ := take_hit (en := en) (k := 1) (p := fun t => decide (0 < idxS wordsL8 t.text)) hA rfl (fun u hu => by rw [nop_text hu]; dsimp only; rw [word_no hk1 hk2]; simp; omega)
  have hix : idxS wordsL8 u.text = c.kind := by rw [nop_text hu]; exact word_no hk1 hk2
  have hH : headP us en ⟨0, -1⟩ = subjP us en c.kind ⟨0 + 1, -1⟩ := by unfold headP; rw [hm]; dsimp only; rw [hix]
  rw [hH]
  unfold subjK at hA2
  unfold subjP headC
  by_cases hk : c.kind = 1
  · rw [if_pos hk] at hA2
    rw [if_pos hk, if_pos hk]
    cases hw : wordB c.name with
    | true =>
      rw [hw, if_pos rfl] at hA2
      obtain ⟨v, hv0, hv, _, e, hA3⟩ := take_hit (en := en) (k := 1) (p := fun t => nameB t.text) (rest := (fieldsF c).flatMap fToks) hA2 rfl (fun u hu => by rw [nop_text hu]; exact h.name hk)
      have hs : seesP us 4 ⟨0 + 1, -1⟩ = false := by
        unfold seesP mayP
        rw [if_pos (by show (-1 : Int) < 0; decide)]
        simp only [hv0]
        rw [if_neg (by rw [nop_kind hv]; intro x; exact absurd x.1 (by show ¬ (1 : Int) = 4; decide))]; rfl
      refine ⟨0 + 1 + 1, ?_, hA3⟩
      rw [hs, if_neg (by decide), e]; dsimp only; rw [nop_text hv]
    | false =>
      rw [hw, if_neg (by decide)] at hA2
      obtain ⟨v, hv0, hv, _, e, hA3⟩ := take_hit (en := en) (k := 4) (p := fun t => nameB t.text) (rest := (fieldsF c).flatMap fToks) hA2 rfl (fun u hu => by rw [nop_text hu]; exact h.name hk)
      obtain ⟨v2, _, _, hm2, _, _⟩ := take_hit (en := en) (k := 4) (p := fun _ => true) (rest := (fieldsF c).flatMap fToks) hA2 rfl (fun u hu => rfl)
      have hs : seesP us 4 ⟨0 + 1, -1⟩ = true := by unfold seesP; rw [hm2]; rfl
      refine ⟨0 + 1 + 1, ?_, hA3⟩
      rw [hs, if_pos rfl, e]; dsimp only; rw [nop_text hv]
  rw [if_neg hk] at hA2
  rw [if_neg hk, if_neg hk]
  by_cases hn : c.kind = 7 ∨ c.kind = 8 ∨ c.kind = 9
  · rw [if_pos hn] at hA2
    rw [if_pos hn, if_pos hn]
    obtain ⟨e, hA3⟩ := num_ok (en := en) (p := fun n => inB n 0 47) (rest := (fieldsF c).flatMap fToks) hA2 (in_iff.2 (h.node hn))
    exact ⟨0 + 1 + 1, by rw [e], hA3⟩
  rw [if_neg hn] at hA2
  rw [if_neg hn, if_neg hn]
  by_cases ht : c.kind = 10
  · rw [if_neg (by rw [h10 ht]; decide), List.nil_append] at hA2
    rw [if_pos ht, if_pos ht]
    exact ⟨0 + 1, rfl, hA2⟩
  rw [if_neg ht, if_neg ht]
  by_cases hz : 0 < c.job
  · rw [if_pos hz] at hA2
    obtain ⟨v, hv0, _, _, _, _⟩ := take_hit (en := en) (k := 2) (p := fun _ => true) (rest := (fieldsF c).flatMap fToks) hA2 rfl (fun u hu => rfl)
    obtain ⟨e, hA3⟩ := num_ok (en := en) (p := fun n => inB n 1 99999) (rest := (fieldsF c).flatMap fToks) hA2 (in_iff.2 ⟨by omega, h.job.2⟩)
    have hlt := (List.getElem?_eq_some_iff.1 hv0).1
    exact ⟨0 + 1 + 1, by rw [if_neg (fun x => by have := x.2; dsimp only at this; omega), e], hA3⟩
  · have hj0 : c.job = 0 := by have := h.job.1; omega
    have hk12 : c.kind = 12 := by
      rcases Decidable.em (c.kind = 12) with e | e
      · exact e
      · have := hj (by omega); omega
    rw [if_neg hz, List.nil_append] at hA2
    have hf := h0 ⟨hk12, hj0⟩
    have hle : us.length ≤ 0 + 1 := by
      rw [hf] at hA2
      unfold AtT at hA2
      have := congrArg List.length hA2
      simp at this; omega
    exact ⟨0 + 1, by rw [if_pos ⟨hk12, hle⟩, hj0]; rfl, hA2⟩
theorem ba_eq {a b : ByteArray} (h : (a.toList == b.toList) = true) : a = b := by
  rw [beq_iff_eq, ByteArray.toList_eq, ByteArray.toList_eq] at h
  exact Go.WideShapes.bytes_inj h
theorem sameS_eq {a b : Sh} (h : sameS a b = true) : a = b := by
  unfold sameS at h
  simp only [Bool.and_eq_true, beq_iff_eq, decide_eq_true_eq] at h
  cases a; cases b
  simp_all
theorem sameC_eq {x y : Cm} (h : sameC x y = true) : x = y := by
  unfold sameC at h
  simp only [Bool.and_eq_true, decide_eq_true_eq] at h
  obtain ⟨h1, h2, h3, h4, h5, h6, h7, h8, h9, h10, h11, h12, h13, h14⟩ := h
  have := sameS_eq h1
  have := ba_eq h5
  have := ba_eq h6
  have := ba_eq h7
  rw [beq_iff_eq] at h3 h4 h8 h9 h10 h11 h12 h13 h14
  cases x; cases y
  simp_all
theorem cmd_ok {c : Cm} (h : cmdE c = 0) : c.shape.alts.length ≤ 6 ∧ c.after.length ≤ 4 ∧ fitB c = true ∧ c = bareC c := by
  unfold cmdE at h
  split at h
  · rename_i hc
    unfold chkB at hc
    simp only [Bool.and_eq_true, decide_eq_true_eq] at hc
    exact ⟨hc.1, hc.2.1, hc.2.2.1, sameC_eq hc.2.2.2⟩
  · cases h
theorem cmd_kind {c : Cm} (h : fitB c = true) : 1 ≤ c.kind ∧ c.kind ≤ 12 := by
  unfold fitB at h
  rw [Bool.and_eq_true] at h
  have h2 := h.2
  split at h2
  · omega
  · unfold kindB at h2
    repeat' split at h2
    all_goals first | omega | skip
    simp only [Bool.and_eq_true, beq_iff_eq] at h2
    omega
theorem had_app (had l : List Fd) (p : Fd → Bool) : (had ++ l).countP p = had.countP p + l.countP p := List.countP_append
/-- a row of fields, one behind the other -/
theorem chain_app {k : Int} : ∀ {had : List Fd} {a b : List Fl}, Chain k had a → Chain k (had ++ a.map fdOf) b → Chain k had (a ++ b)
  | had, [], b, _, h => by simpa using h
  | had, f :: a, b, h1, h2 => by
    obtain ⟨x1, x2, x3, x4⟩ := h1
    refine ⟨x1, x2, x3, chain_app x4 ?_⟩
    simpa using h2
theorem chain_one {k : Int} {had : List Fd} {f : Fl} (h1 : FitF f) (h2 : openP k had (fdOf f).1 = true) (h3 : had.any (twiceP (fdOf f)) = false) : Chain k had [f] := ⟨h1, h2, h3, trivial⟩
/-- a field that is no dependency is no second one -/
theorem twice_no {f : Fd} {had : List Fd} (h : waitsP f.1.toList = false) : had.any (twiceP f) = false := by
  rw [List.any_eq_false]
  intro x _ hx
  unfold twiceP at hx
  split at hx
  · rw [h] at hx; simp at hx
  · cases hx
theorem like_one {f : List UInt8} {x : Fd} (h : waitsP f = false) : likeP f x = (x.1.toList == f) := by unfold likeP; rw [h]; simp
theorem one_open {k : Int} {had : List Fd} {l : List UInt8} (hk : (fieldsP k).any (fun x => l == x.toList) = true) (hm : 1 ≤ manyP l) (hw : waitsP l = false) (hn : ∀ x ∈ had, (x.1.toList == l) = false) : openP k had ⟨l.toArray⟩ = true := by
  unfold openP
  rw [mkT, hk, Bool.true_and, decide_eq_true_eq]
  have : had.countP (likeP l) = 0 := by
    rw [List.countP_eq_zero]
    intro x hx
    rw [like_one hw, hn x hx]; decide
  rw [this]; show (0 : Int) < _; omega
end Go.Proofs.YtjmhaoplablmnaaGreatDoor
namespace Go.Proofs.YtjmhaoplablmnaaGreatDoor
set_option linter.unusedVariables false
set_option linter.unusedSimpArgs false
open Go.RowKit
theorem fd_name (f : Fl) : (fdOf f).1.toList = f.1 := mkT _
theorem dep_waits (d : Int) : waitsP (depW d) = true := by rcases dep_or d with e | e | e <;> (rw [e]; decide)
theorem dep_many (d : Int) : manyP (depW d) = 4 := by rcases dep_or d with e | e | e <;> (rw [e]; decide)
theorem dep_in (d : Int) : (fieldsP 1).any (fun x => depW d == x.toList) = true := by rcases dep_or d with e | e | e <;> (rw [e]; kernel_rfl)
def dfl (d : Pr) : Fl := (depW d.1, .num d.2)
def afl (a : Pr) : Fl := (bAlt, .alt a.1 a.2)
theorem count_zero {p : Fd → Bool} {l : List Fd} (h : ∀ x ∈ l, p x = false) : l.countP p = 0 := by
  rw [List.countP_eq_zero]
  intro x hx
  rw [h x hx]; decide
theorem count_all {p : Fd → Bool} {l : List Fd} (h : ∀ x ∈ l, p x = true) : l.countP p = l.length := by
  rw [List.countP_eq_length]
  exact h
theorem deps_chain {base : List Fd} (hb : ∀ x ∈ base, waitsP x.1.toList = false) : ∀ (l done : List Pr), (done ++ l).length ≤ 4 → ((done ++ l).map Prod.snd).Nodup → (∀ d ∈ l, inB d.2 1 99999 = true) → Chain 1 (base ++ done.map (fun d => fdOf (dfl d))) (l.map dfl)
  | [], done, _, _, _ => trivial
  | d :: l, done, h1, h2, h3 => by
    have hlike : ∀ x ∈ base, likeP (depW d.1) x = false := by
      intro x hx
      unfold likeP
      rw [hb x hx, Bool.and_false, Bool.or_false]
      cases e : x.1.toList == depW d.1
      · rfl
      · have := hb x hx
        rw [beq_iff_eq] at e
        rw [e, dep_waits] at this; cases this
    have hlike2 : ∀ x ∈ done.map (fun d => fdOf (dfl d)), likeP (depW d.1) x = true := by
      intro x hx
      obtain ⟨q, _, rfl⟩ := List.mem_map.1 hx
      unfold likeP
      rw [dep_waits, fd_name]
      show (_ || (true && waitsP (depW q.1))) = true
      rw [dep_waits]; simp
    refine ⟨.dep d.1 d.2 (h3 d (by simp)), ?_, ?_, ?_⟩
    · unfold openP
      rw [fd_name]
      show ((fieldsP 1).any (fun x => depW d.1 == x.toList) && decide (((List.countP (likeP (depW d.1)) _ : Nat) : Int) < manyP (depW d.1))) = true
      rw [dep_in, dep_many, List.countP_append, count_zero hlike, count_all hlike2, Bool.true_and, decide_eq_true_eq, List.length_map]
      simp at h1; omega
    · rw [List.any_eq_false]
      intro x hx ht
      rw [List.mem_append] at hx
      rcases hx with hx | hx
      · unfold twiceP at ht
        split at ht
        · rw [hb x hx] at ht; simp at ht
        · cases ht
      · obtain ⟨q, hq, rfl⟩ := List.mem_map.1 hx
        have hqe : q.2 = d.2 := by
          unfold twiceP fdOf dfl vlOf at ht
          simp only [Bool.and_eq_true, beq_iff_eq] at ht
          exact ht.2.2
        rw [List.map_append, List.map_cons, List.nodup_append] at h2
        exact h2.2.2 q.2 (List.mem_map_of_mem hq) d.2 (by simp) hqe
    · have := deps_chain hb l (done ++ [d]) (by simpa using h1) (by simpa using h2) (fun q hq => h3 q (by simp [hq]))
      simpa using this
theorem alts_chain {base : List Fd} (hb : ∀ x ∈ base, (x.1.toList == bAlt) = false) : ∀ (l done : List Pr), (done ++ l).length ≤ 6 → (∀ d ∈ l, fineA d = true) → Chain 1 (base ++ done.map (fun d => fdOf (afl d))) (l.map afl)
  | [], done, _, _ => trivial
  | d :: l, done, h1, h3 => by
    have hw : waitsP bAlt = false := by decide
    have hfine := h3 d (by simp)
    unfold fineA at hfine
    simp only [Bool.and_eq_true, decide_eq_true_eq] at hfine
    refine ⟨.alt d.1 d.2 (in_iff.2 ⟨by omega, by omega⟩) (in_iff.2 ⟨by omega, by omega⟩), ?_, ?_, ?_⟩
    · unfold openP
      rw [fd_name]
      show ((fieldsP 1).any (fun x => bAlt == x.toList) && decide (((List.countP (likeP bAlt) _ : Nat) : Int) < manyP bAlt)) = true
      have e1 : (fieldsP 1).any (fun x => bAlt == x.toList) = true := by kernel_rfl
      have e2 : manyP bAlt = 6 := by decide
      have hle := List.countP_le_length (p := likeP bAlt) (l := done.map (fun d => fdOf (afl d)))
      rw [e1, e2, List.countP_append, count_zero (fun x hx => by rw [like_one hw]; exact hb x hx), Bool.true_and, decide_eq_true_eq]
      rw [List.length_map] at hle
      have h1' : done.length + (l.length + 1) ≤ 6 := by simpa using h1
      omega
    · exact twice_no (by rw [fd_name]; exact hw)
    · have := alts_chain hb l (done ++ [d]) (by simpa using h1) (fun q hq => h3 q (by simp [hq]))
      simpa using this
theorem fold_deps : ∀ (l : List Pr) (c : Cm), (∀ d ∈ l, inB d.1 1 3 = true) → ((l.map dfl).map fdOf).foldl putC c = { c with after := c.after ++ l }
  | [], c, _ => by simp
  | d :: l, c, h => by
    have hd := in_iff.1 (h d (by simp))
    have hix : idxS depsL ⟨(depW d.1).toArray⟩ = d.1 := by
      rcases (by omega : d.1 = 1 ∨ d.1 = 2 ∨ d.1 = 3) with e | e | e <;> (rw [e]; kernel_rfl)
    have hp : putC c (fdOf (dfl d)) = { c with after := c.after ++ [d] } := by
      unfold putC fdOf dfl vlOf
      dsimp only
      rw [mkT, hix]
      have e0 : (depW d.1 == bPrio) = false := by rcases dep_or d.1 with e | e | e <;> (rw [e]; decide)
      have e1 : (depW d.1 == bFrom) = false := by rcases dep_or d.1 with e | e | e <;> (rw [e]; decide)
      have e2 : (depW d.1 == bNodes) = false := by rcases dep_or d.1 with e | e | e <;> (rw [e]; decide)
      have e3 : (depW d.1 == bTime) = false := by rcases dep_or d.1 with e | e | e <;> (rw [e]; decide)
      rw [e0, e1, e2, e3]; rfl
    rw [List.map_cons, List.map_cons, List.foldl_cons, hp, fold_deps l _ (fun q hq => h q (by simp [hq]))]
    simp
theorem fold_alts : ∀ (l : List Pr) (c : Cm), ((l.map afl).map fdOf).foldl putC c = { c with shape := { c.shape with alts := c.shape.alts ++ l } }
  | [], c => by simp
  | d :: l, c => by
    have hp : putC c (fdOf (afl d)) = { c with shape := { c.shape with alts := c.shape.alts ++ [d] } } := rfl
    rw [List.map_cons, List.map_cons, List.foldl_cons, hp, fold_alts l _]
    simp
/-- the fields of a submission, parted -/
theorem fieldsF_sub {c : Cm} (h1 : c.kind = 1) (h2 : c.nodes = 0) (h3 : c.hasTime = false) :
    fieldsF c = ([(bU, .word c.user), (bA, .word c.account)] ++ (if c.hasPrio = true then [(bPrio, .num c.prio)] else [])) ++ (c.after.map dfl ++ formF c.shape) := by
  unfold fieldsF
  rw [if_pos h1, if_neg (show ¬ c.kind = 10 by omega), if_neg (show ¬ 0 < c.nodes by omega), h3]
  simp [dfl]
theorem ran {α : Type} {p : α → Prop} {l : List α} (h : ∀ x ∈ l, p x) : ∀ x ∈ l, p x := h
theorem chain_sub {c : Cm} (h1 : c.kind = 1) (hn : c.nodes = 0) (ht : c.hasTime = false) (hp : preB c = true) (hs : subB c = true) : Chain 1 [] (fieldsF c) := by
  unfold subB at hs
  simp only [Bool.and_eq_true, beq_iff_eq] at hs
  obtain ⟨⟨⟨⟨⟨⟨s1, s2⟩, s3⟩, s4⟩, s5⟩, s6⟩, s7⟩ := hs
  unfold depsB at s6
  simp only [Bool.and_eq_true, decide_eq_true_eq, List.all_eq_true] at s6
  obtain ⟨⟨d1, d2⟩, d3⟩ := s6
  have hok : okS c.shape = true := by unfold shE at s7; split at s7; assumption; cases s7
  rw [fieldsF_sub h1 hn ht]
  have hA : Chain 1 [] ([(bU, .word c.user), (bA, .word c.account)] ++ (if c.hasPrio = true then [(bPrio, .num c.prio)] else [])) := by
    refine chain_app ⟨.user _ s2, by kernel_rfl, twice_no (by rw [fd_name]; dsimp only; decide), .account _ s3, ?_, twice_no (by rw [fd_name]; dsimp only; decide), trivial⟩ ?_
    · exact one_open (by kernel_rfl) (by dsimp only; decide) (by dsimp only; decide) (fun x hx => by simp at hx; subst hx; rw [fd_name]; dsimp only; decide)
    · split
      · rename_i hh
        have hp2 : inB c.prio 0 100 = true := by
          unfold preB at hp
          rw [if_pos hh, Bool.and_eq_true] at hp
          exact hp.1
        refine chain_one (.prio _ hp2) (one_open (by kernel_rfl) (by dsimp only; decide) (by dsimp only; decide) (fun x hx => ?_)) (twice_no (by rw [fd_name]; dsimp only; decide))
        simp at hx
        rcases hx with rfl | rfl <;> (rw [fd_name]; dsimp only; decide)
      · trivial
  refine chain_app hA ?_
  obtain ⟨base, hbase⟩ : ∃ b, ([] ++ ([(bU, Vt.word c.user), (bA, Vt.word c.account)] ++ (if c.hasPrio = true then [(bPrio, Vt.num c.prio)] else [])).map fdOf) = b := ⟨_, rfl⟩
  have hbn : ∀ x ∈ base, x.1.toList = bU ∨ x.1.toList = bA ∨ x.1.toList = bPrio := by
    intro x hx
    rw [← hbase, List.nil_append] at hx
    obtain ⟨f, hf, rfl⟩ := List.mem_map.1 hx
    rw [fd_name]
    rw [List.mem_append] at hf
    rcases hf with hf | hf
    · simp at hf; rcases hf with rfl | rfl <;> simp
    · split at hf
      · simp at hf; subst hf; simp
      · simp at hf
  rw [hbase]
  have hD : Chain 1 base (c.after.map dfl) := by
    have := deps_chain (base := base) (fun x hx => by rcases hbn x hx with e | e | e <;> (rw [e]; decide)) c.after [] (by simpa using d3) (by unfold apartD at d2; simpa using d2) (fun d hd => by
      have := d1 d hd
      unfold okDep at this
      rw [Bool.and_eq_true] at this
      exact this.2)
    simpa using this
  refine chain_app hD ?_
  obtain ⟨base2, hbase2⟩ : ∃ b, base ++ (c.after.map dfl).map fdOf = b := ⟨_, rfl⟩
  have hbn2 : ∀ x ∈ base2, x.1.toList = bU ∨ x.1.toList = bA ∨ x.1.toList = bPrio ∨ x.1.toList = bAny ∨ x.1.toList = bGood ∨ x.1.toList = bBad := by
    intro x hx
    rw [← hbase2, List.mem_append] at hx
    rcases hx with hx | hx
    · rcases hbn x hx with e | e | e <;> simp [e]
    · obtain ⟨f, hf, rfl⟩ := List.mem_map.1 hx
      obtain ⟨d, _, rfl⟩ := List.mem_map.1 hf
      rw [fd_name]
      show depW d.1 = _ ∨ _
      rcases dep_or d.1 with e | e | e <;> simp [dfl, e]
  rw [hbase2]
  unfold okS at hok
  unfold formF
  by_cases k1 : c.shape.kind = 1
  · rw [if_pos k1] at hok ⊢
    simp only [Bool.and_eq_true, decide_eq_true_eq, List.all_eq_true] at hok
    obtain ⟨⟨q1, q2⟩, q3⟩ := hok
    obtain ⟨a, ha⟩ : ∃ a, c.shape.alts = [a] := by
      cases hl : c.shape.alts with
      | nil => rw [hl] at q2; cases q2
      | cons a t => cases t with
        | nil => exact ⟨a, rfl⟩
        | cons b t => rw [hl] at q2; simp at q2
    have hf := q3 a (by rw [ha]; simp)
    unfold fineA at hf
    simp only [Bool.and_eq_true, decide_eq_true_eq] at hf
    rw [ha]
    show Chain 1 base2 [(bNodes, .num a.1), (bTime, .time a.2)]
    refine ⟨.nodes _ (in_iff.2 ⟨by omega, by omega⟩), one_open (by kernel_rfl) (by dsimp only; decide) (by dsimp only; decide) (fun x hx => ?_), twice_no (by rw [fd_name]; dsimp only; decide), .time _ (in_iff.2 ⟨by omega, by omega⟩), one_open (by kernel_rfl) (by dsimp only; decide) (by dsimp only; decide) (fun x hx => ?_), twice_no (by rw [fd_name]; dsimp only; decide), trivial⟩
    · rcases hbn2 x hx with e | e | e | e | e | e <;> (rw [e]; first | decide | (dsimp only; decide))
    · rw [List.mem_append] at hx
      rcases hx with hx | hx
      · rcases hbn2 x hx with e | e | e | e | e | e <;> (rw [e]; first | decide | (dsimp only; decide))
      · simp at hx; subst hx; rw [fd_name]; dsimp only; decide
  rw [if_neg k1] at hok ⊢
  by_cases k2 : c.shape.kind = 2
  · rw [if_pos k2] at hok ⊢
    simp only [Bool.and_eq_true, decide_eq_true_eq, List.all_eq_true] at hok
    obtain ⟨⟨⟨⟨q1, q2⟩, q3⟩, q4⟩, q5⟩ := hok
    have := alts_chain (base := base2) (fun x hx => by rcases hbn2 x hx with e | e | e | e | e | e <;> (rw [e]; first | decide | (dsimp only; decide))) c.shape.alts [] (by simpa using q3) q5
    rw [List.map_nil, List.append_nil] at this
    exact this
  rw [if_neg k2] at hok ⊢
  by_cases k3 : c.shape.kind = 3
  · rw [if_pos k3] at hok ⊢
    unfold fineA at hok
    simp only [Bool.and_eq_true, decide_eq_true_eq] at hok
    refine ⟨.rng _ _ (in_iff.2 ⟨by omega, by omega⟩) (in_iff.2 ⟨by omega, by omega⟩), one_open (by kernel_rfl) (by dsimp only; decide) (by dsimp only; decide) (fun x hx => ?_), twice_no (by rw [fd_name]; dsimp only; decide), .time _ (in_iff.2 ⟨by omega, by omega⟩), one_open (by kernel_rfl) (by dsimp only; decide) (by dsimp only; decide) (fun x hx => ?_), twice_no (by rw [fd_name]; dsimp only; decide), trivial⟩
    · rcases hbn2 x hx with e | e | e | e | e | e <;> (rw [e]; first | decide | (dsimp only; decide))
    · rw [List.mem_append] at hx
      rcases hx with hx | hx
      · rcases hbn2 x hx with e | e | e | e | e | e <;> (rw [e]; first | decide | (dsimp only; decide))
      · simp at hx; subst hx; rw [fd_name]; dsimp only; decide
  · rw [if_neg k3] at hok; cases hok
end Go.Proofs.YtjmhaoplablmnaaGreatDoor
namespace Go.Proofs.YtjmhaoplablmnaaGreatDoor
set_option linter.unusedVariables false
set_option linter.unusedSimpArgs false
open Go.RowKit
theorem chain_fit {k : Int} : ∀ {had : List Fd} {fs : List Fl}, Chain k had fs → ∀ f ∈ fs, FitF f
  | _, [], _, f, hf => by cases hf
  | had, g :: fs, h, f, hf => by
    obtain ⟨h1, _, _, h4⟩ := h
    rcases List.mem_cons.1 hf with rfl | hf
    · exact h1
    · exact chain_fit h4 f hf
theorem headC_kind (c : Cm) : (headC c).kind = c.kind := by
  unfold headC
  repeat' split
  all_goals rfl
theorem fold_kind : ∀ (l : List Fd) (c : Cm), (l.foldl putC c).kind = c.kind
  | [], c => rfl
  | f :: l, c => by rw [List.foldl_cons, fold_kind l, putC_kind]
theorem flat_len (fs : List Fl) : fs.length ≤ (fs.flatMap fToks).length := by
  induction fs with
  | nil => simp
  | cons f fs ih => 
    have h2 : 1 ≤ (fToks f).length := by unfold fToks; simp
    rw [List.flatMap_cons, List.length_append, List.length_cons]; omega
/-- the line of a command whose fields stand as they may is read again -/
theorem read_back {c : Cm} (h : OkC c) (hj : c.kind = 2 ∨ c.kind = 3 ∨ c.kind = 4 ∨ c.kind = 5 ∨ c.kind = 6 ∨ c.kind = 11 → 1 ≤ c.job) (h0 : c.kind = 12 ∧ c.job = 0 → fieldsF c = []) (h10 : c.kind = 10 → c.job = 0)
    (hl : (lineP c).length ≤ 400) (hch : Chain c.kind [] (fieldsF c)) (hfold : closeP (((fieldsF c).map fdOf).foldl putC (headC c)) = c)
    (hmiss : missP (((fieldsF c).map fdOf).foldl putC (headC c)) (((fieldsF c).map fdOf).any (fun f => f.1.toList == bFrom)) = false) (hE : cmdE c = 0) (hS : c.kind = 1 → shE c.shape = 0) :
    cparseP ⟨(lineP c).toArray⟩ = (c, ((runes (lineP c)).length : Int), 0) := by
  obtain ⟨us, ht, hu⟩ := tok_line h hl
  unfold cparseP
  rw [ht]
  dsimp only
  rw [if_pos rfl]
  have hA : AtT us 0 (toksP c) := by unfold AtT; rw [List.drop_zero]; exact hu
  obtain ⟨i, hH, hA2⟩ := head_ok (en := ((runes (lineP c)).length : Int)) h hj h0 h10 hA
  have hlen : (fieldsF c).length < us.length + 1 := by
    have h1 := congrArg List.length hA2
    rw [List.length_map, List.length_drop] at h1
    have := flat_len (fieldsF c)
    omega
  obtain ⟨j, hL⟩ := loop_ok (en := ((runes (lineP c)).length : Int)) (fieldsF c) (us.length + 1) i (headC c) [] false hA2 (by rw [headC_kind]; exact hch) hlen
  unfold readP
  dsimp only
  rw [hH]
  dsimp only
  rw [hL]
  dsimp only
  rw [Bool.false_or, if_neg (by rw [hmiss]; simp), hfold, fold_kind, headC_kind]
  rw [if_neg (by rw [hE]; rintro (x | x); exact x rfl; exact x.1 (hS x.2))]
theorem fields_word {c : Cm} {f : Fl} {s : ByteArray} (hf : f ∈ fieldsF c) (h : f.2 = .word s) : c.kind = 1 ∧ (s = c.user ∨ s = c.account) := by
  unfold fieldsF formF at hf
  simp only [List.mem_append] at hf
  rcases hf with hf | hf | hf | hf | hf | hf | hf
  · split at hf
    · rename_i hk
      simp only [List.mem_cons, List.not_mem_nil, or_false] at hf
      rcases hf with rfl | rfl <;> (injection h with h; subst h; simp [hk])
    · cases hf
  · split at hf
    · rw [List.mem_singleton] at hf; subst hf; cases h
    · cases hf
  · obtain ⟨d, _, rfl⟩ := List.mem_map.1 hf; cases h
  · split at hf
    · rw [List.mem_singleton] at hf; subst hf; cases h
    · cases hf
  · split at hf
    · rw [List.mem_singleton] at hf; subst hf; cases h
    · cases hf
  · split at hf
    · simp only [List.mem_cons, List.not_mem_nil, or_false] at hf
      rcases hf with rfl | rfl <;> cases h
    · split at hf
      · obtain ⟨d, _, rfl⟩ := List.mem_map.1 hf; cases h
      · split at hf
        · simp only [List.mem_cons, List.not_mem_nil, or_false] at hf
          rcases hf with rfl | rfl <;> cases h
        · cases hf
  · split at hf
    · rw [List.mem_singleton] at hf; subst hf; cases h
    · cases hf
theorem ok_flds {c : Cm} (hch : Chain c.kind [] (fieldsF c)) (hw : c.kind = 1 → wordB c.user = true ∧ wordB c.account = true) : ∀ f ∈ fieldsF c, lowN f.1 ∧ okVt f.2 := by
  intro f hf
  refine (chain_fit hch f hf).ok (fun s hs => ?_)
  obtain ⟨h1, h2⟩ := fields_word hf hs
  rcases h2 with rfl | rfl
  · exact (hw h1).1
  · exact (hw h1).2
/-- a command without fields -/
theorem fields_none (k j nd : Int) (h : k = 2 ∨ k = 3 ∨ k = 4 ∨ k = 7 ∨ k = 8 ∨ k = 9 ∨ k = 11 ∨ k = 12) : fieldsF ⟨k, j, ⟨#[]⟩, ⟨#[]⟩, ⟨#[]⟩, sh0, 0, false, 0, false, [], nd, 0, 0⟩ = [] := by
  unfold fieldsF
  rw [if_neg (show ¬ k = 1 by omega), if_neg (show ¬ k = 10 by omega)]
  rfl
theorem miss_none (c : Cm) (fr : Bool) (h : c.kind = 2 ∨ c.kind = 3 ∨ c.kind = 4 ∨ c.kind = 7 ∨ c.kind = 8 ∨ c.kind = 9 ∨ c.kind = 11 ∨ c.kind = 12) : missP c fr = false := by
  unfold missP
  rw [if_neg (by omega), if_neg (by omega), if_neg (by omega), if_neg (by omega)]
theorem back_none {c : Cm} (hE : cmdE c = 0) (hl : (lineP c).length ≤ 400) (hok : OkC c) (hj : c.kind = 2 ∨ c.kind = 3 ∨ c.kind = 4 ∨ c.kind = 11 → 1 ≤ c.job) (hk : c.kind = 2 ∨ c.kind = 3 ∨ c.kind = 4 ∨ c.kind = 7 ∨ c.kind = 8 ∨ c.kind = 9 ∨ c.kind = 11 ∨ c.kind = 12) (hf : fieldsF c = []) (hh : headC c = c) :
    cparseP ⟨(lineP c).toArray⟩ = (c, ((runes (lineP c)).length : Int), 0) := by
  refine read_back hok (fun x => hj (by omega)) (fun _ => hf) (fun x => by omega) hl (by rw [hf]; trivial) ?_ ?_ hE (fun x => by omega)
  · rw [hf, hh]
    show closeP c = c
    unfold closeP
    rw [if_neg (by omega)]
  · rw [hf, hh]
    exact miss_none _ _ hk
end Go.Proofs.YtjmhaoplablmnaaGreatDoor
namespace Go.Proofs.YtjmhaoplablmnaaGreatDoor
set_option linter.unusedVariables false
set_option linter.unusedSimpArgs false
open Go.RowKit
theorem one_fit {k : Int} {had : List Fd} {l : List UInt8} {v : Vt} (hf : FitF (l, v)) (hk : (fieldsP k).any (fun x => l == x.toList) = true) (hm : 1 ≤ manyP l) (hw : waitsP l = false) (hn : ∀ x ∈ had, (x.1.toList == l) = false) : Chain k had [(l, v)] :=
  chain_one hf (one_open hk hm hw hn) (twice_no (by rw [fd_name]; exact hw))
/-- kind 5: an alteration -/
theorem back_5 (j p t : Int) (hp ht : Bool) {c : Cm} (hc : c = ⟨5, j, ⟨#[]⟩, ⟨#[]⟩, ⟨#[]⟩, sh0, p, hp, t, ht, [], 0, 0, 0⟩) (hE : cmdE c = 0) (hl : (lineP c).length ≤ 400) (hj : 1 ≤ j ∧ j ≤ 99999) (h1 : (hp || ht) = true)
    (h2 : hp = true → inB p 0 100 = true) (h3 : hp = false → p = 0) (h4 : ht = true → inB t 1 100000 = true) (h5 : ht = false → t = 0) :
    cparseP ⟨(lineP c).toArray⟩ = (c, ((runes (lineP c)).length : Int), 0) := by
  subst hc
  have hF : fieldsF ⟨5, j, ⟨#[]⟩, ⟨#[]⟩, ⟨#[]⟩, sh0, p, hp, t, ht, [], 0, 0, 0⟩ = (if hp = true then [(bPrio, .num p)] else []) ++ (if ht = true then [(bTime, .time t)] else []) := by
    unfold fieldsF; rfl
  have hch : Chain 5 [] (fieldsF ⟨5, j, ⟨#[]⟩, ⟨#[]⟩, ⟨#[]⟩, sh0, p, hp, t, ht, [], 0, 0, 0⟩) := by
    rw [hF]
    refine chain_app ?_ ?_
    · split
      · rename_i hh
        exact one_fit (.prio _ (h2 hh)) (by kernel_rfl) (by decide) (by decide) (fun x hx => by cases hx)
      · trivial
    · by_cases hh : ht = true
      · rw [if_pos hh]
        refine one_fit (.time _ (h4 hh)) (by kernel_rfl) (by decide) (by decide) (fun x hx => ?_)
        rw [List.nil_append] at hx
        obtain ⟨f, hf, rfl⟩ := List.mem_map.1 hx
        split at hf
        · rw [List.mem_singleton] at hf; subst hf; rw [fd_name]; dsimp only; decide
        · cases hf
      · rw [if_neg hh]; trivial
  refine read_back ⟨⟨by show (1 : Int) ≤ 5; decide, by show (5 : Int) ≤ 12; decide⟩, fun x => by exact absurd x (by show ¬ (5 : Int) = 1; decide), fun x => by exact absurd x (by show ¬ ((5 : Int) = 7 ∨ (5 : Int) = 8 ∨ (5 : Int) = 9); decide), ⟨by show 0 ≤ j; omega, hj.2⟩, ok_flds hch (fun x => by exact absurd x (by show ¬ (5 : Int) = 1; decide))⟩ (fun _ => hj.1) (fun x => by exact absurd x.1 (by show ¬ (5 : Int) = 12; decide)) (fun x => by exact absurd x (by show ¬ (5 : Int) = 10; decide)) hl hch ?_ ?_ hE (fun x => by exact absurd x (by show ¬ (5 : Int) = 1; decide))
  · rw [hF]
    cases hp <;> cases ht
    · cases h1
    · rw [h3 rfl]; kernel_rfl
    · rw [h5 rfl]; kernel_rfl
    · kernel_rfl
  · rw [hF]
    cases hp <;> cases ht
    · cases h1
    · kernel_rfl
    · kernel_rfl
    · kernel_rfl
/-- kind 6: a resizing -/
theorem back_6 (j n : Int) {c : Cm} (hc : c = ⟨6, j, ⟨#[]⟩, ⟨#[]⟩, ⟨#[]⟩, sh0, 0, false, 0, false, [], 0, n, 0⟩) (hE : cmdE c = 0) (hl : (lineP c).length ≤ 400) (hj : 1 ≤ j ∧ j ≤ 99999) (hn : inB n 1 48 = true) :
    cparseP ⟨(lineP c).toArray⟩ = (c, ((runes (lineP c)).length : Int), 0) := by
  subst hc
  have hn2 := in_iff.1 hn
  have hF : fieldsF ⟨6, j, ⟨#[]⟩, ⟨#[]⟩, ⟨#[]⟩, sh0, 0, false, 0, false, [], 0, n, 0⟩ = [(bNodes, .num n)] := by
    unfold fieldsF
    rw [if_pos (show 0 < n by omega)]; rfl
  have hch : Chain 6 [] (fieldsF ⟨6, j, ⟨#[]⟩, ⟨#[]⟩, ⟨#[]⟩, sh0, 0, false, 0, false, [], 0, n, 0⟩) := by
    rw [hF]
    exact one_fit (.nodes _ hn) (by kernel_rfl) (by decide) (by decide) (fun x hx => by cases hx)
  refine read_back ⟨⟨by show (1 : Int) ≤ 6; decide, by show (6 : Int) ≤ 12; decide⟩, fun x => absurd x (by simp), fun x => absurd x (by simp), ⟨by show 0 ≤ j; omega, hj.2⟩, ok_flds hch (fun x => absurd x (by simp))⟩ (fun _ => hj.1) (fun x => absurd x.1 (by simp)) (fun x => absurd x (by simp)) hl hch ?_ ?_ hE (fun x => absurd x (by simp))
  · rw [hF]; kernel_rfl
  · rw [hF]
    have e : missP (((([(bNodes, Vt.num n)] : List Fl)).map fdOf).foldl putC (headC ⟨6, j, ⟨#[]⟩, ⟨#[]⟩, ⟨#[]⟩, sh0, 0, false, 0, false, [], 0, n, 0⟩)) (((([(bNodes, Vt.num n)] : List Fl)).map fdOf).any (fun f => f.1.toList == bFrom)) = (n == 0) := by kernel_rfl
    rw [e, beq_eq_false_iff_ne]; omega
/-- kind 10: a reservation -/
theorem back_10 (f n t : Int) {c : Cm} (hc : c = ⟨10, 0, ⟨#[]⟩, ⟨#[]⟩, ⟨#[]⟩, sh0, 0, false, t, true, [], 0, n, f⟩) (hE : cmdE c = 0) (hl : (lineP c).length ≤ 400) (hf : inB f 0 1000000 = true) (hn : inB n 1 48 = true) (ht : inB t 1 100000 = true) :
    cparseP ⟨(lineP c).toArray⟩ = (c, ((runes (lineP c)).length : Int), 0) := by
  subst hc
  have hn2 := in_iff.1 hn
  have hF : fieldsF ⟨10, 0, ⟨#[]⟩, ⟨#[]⟩, ⟨#[]⟩, sh0, 0, false, t, true, [], 0, n, f⟩ = [(bFrom, .num f), (bNodes, .num n), (bTime, .time t)] := by
    unfold fieldsF
    rw [if_pos (show 0 < n by omega)]; rfl
  have hch : Chain 10 [] (fieldsF ⟨10, 0, ⟨#[]⟩, ⟨#[]⟩, ⟨#[]⟩, sh0, 0, false, t, true, [], 0, n, f⟩) := by
    rw [hF]
    refine chain_app (a := [(bFrom, .num f)]) (one_fit (.frm _ hf) (by kernel_rfl) (by decide) (by decide) (fun x hx => by cases hx)) ?_
    refine chain_app (a := [(bNodes, .num n)]) (one_fit (.nodes _ hn) (by kernel_rfl) (by decide) (by decide) (fun x hx => ?_)) (one_fit (.time _ ht) (by kernel_rfl) (by decide) (by decide) (fun x hx => ?_))
    · simp only [List.nil_append, List.map_cons, List.map_nil, List.mem_cons, List.not_mem_nil, or_false] at hx
      subst hx; rw [fd_name]; dsimp only; decide
    · simp only [List.nil_append, List.map_cons, List.map_nil, List.cons_append, List.mem_cons, List.not_mem_nil, or_false] at hx
      rcases hx with rfl | rfl <;> (rw [fd_name]; dsimp only; decide)
  refine read_back ⟨⟨by show (1 : Int) ≤ 10; decide, by show (10 : Int) ≤ 12; decide⟩, fun x => absurd x (by simp), fun x => absurd x (by simp), ⟨by show (0 : Int) ≤ 0; decide, by show (0 : Int) ≤ 99999; decide⟩, ok_flds hch (fun x => absurd x (by simp))⟩ (fun x => absurd x (by simp)) (fun x => absurd x.1 (by simp)) (fun _ => rfl) hl hch ?_ ?_ hE (fun x => absurd x (by simp))
  · rw [hF]; kernel_rfl
  · rw [hF]
    have e : missP (((([(bFrom, Vt.num f), (bNodes, .num n), (bTime, .time t)] : List Fl)).map fdOf).foldl putC (headC ⟨10, 0, ⟨#[]⟩, ⟨#[]⟩, ⟨#[]⟩, sh0, 0, false, t, true, [], 0, n, f⟩)) (((([(bFrom, Vt.num f), (bNodes, .num n), (bTime, .time t)] : List Fl)).map fdOf).any (fun f => f.1.toList == bFrom)) = ((n == 0) || false) := by kernel_rfl
    rw [e, Bool.or_false, beq_eq_false_iff_ne]; omega
end Go.Proofs.YtjmhaoplablmnaaGreatDoor
namespace Go.Proofs.YtjmhaoplablmnaaGreatDoor
set_option linter.unusedVariables false
set_option linter.unusedSimpArgs false
open Go.RowKit
theorem tl_ne {s : ByteArray} (h : nameB s = true) : (s.toList == []) = false := by
  have := (name_ok8 h).2
  rw [beq_eq_false_iff_ne, ByteArray.toList_eq]
  intro e
  exact this e
/-- a submission whose head and first fields are read -/
def half (nm us ac : ByteArray) (p : Int) (hp : Bool) (af : List Pr) : Cm := { cm0 with kind := 1, name := nm, user := us, account := ac, prio := p, hasPrio := hp, after := af }
theorem half_is (nm us ac : ByteArray) (p : Int) (hp : Bool) (af : List Pr) (h3 : hp = false → p = 0) (ha : ∀ d ∈ af, inB d.1 1 3 = true) :
    ((([(bU, Vt.word us), (bA, Vt.word ac)] ++ (if hp = true then [(bPrio, Vt.num p)] else [])) ++ af.map dfl).map fdOf).foldl putC ({ cm0 with kind := 1, name := nm } : Cm) = half nm us ac p hp af := by
  rw [List.map_append, List.foldl_append]
  have e : (([(bU, Vt.word us), (bA, Vt.word ac)] ++ (if hp = true then [(bPrio, Vt.num p)] else [])).map fdOf).foldl putC ({ cm0 with kind := 1, name := nm } : Cm) = half nm us ac p hp [] := by
    cases hp
    · rw [h3 rfl]; kernel_rfl
    · kernel_rfl
  rw [e, fold_deps _ _ ha]
  unfold half
  rw [List.nil_append]
theorem shape_of {s : Sh} (h : okS s = true) : (∃ a, s = ⟨1, [a], 0, 0, 0⟩ ∧ fineA a = true) ∨ (∃ l, s = ⟨2, l, 0, 0, 0⟩ ∧ 1 ≤ l.length) ∨ (∃ a b w, s = ⟨3, [], a, b, w⟩ ∧ 1 ≤ a) := by
  obtain ⟨k, al, mn, mx, wl⟩ := s
  unfold okS bareS at h
  dsimp only at h
  by_cases k1 : k = 1
  · rw [if_pos k1] at h
    simp only [Bool.and_eq_true, decide_eq_true_eq, List.all_eq_true, beq_iff_eq] at h
    obtain ⟨⟨⟨⟨q1, q2⟩, q3⟩, q4⟩, q5⟩ := h
    obtain ⟨a, rfl⟩ := List.length_eq_one_iff.1 q4
    exact .inl ⟨a, by rw [k1, q1, q2, q3], q5 a (by simp)⟩
  rw [if_neg k1] at h
  by_cases k2 : k = 2
  · rw [if_pos k2] at h
    simp only [Bool.and_eq_true, decide_eq_true_eq, List.all_eq_true, beq_iff_eq] at h
    obtain ⟨⟨⟨⟨⟨⟨q1, q2⟩, q3⟩, q4⟩, q5⟩, q6⟩, q7⟩ := h
    exact .inr (.inl ⟨al, by rw [k2, q1, q2, q3], q4⟩)
  rw [if_neg k2] at h
  by_cases k3 : k = 3
  · rw [if_pos k3] at h
    unfold fineA at h
    simp only [Bool.and_eq_true, decide_eq_true_eq] at h
    have : al = [] := by apply List.length_eq_zero_iff.1; exact h.1.1.1
    exact .inr (.inr ⟨mn, mx, wl, by rw [k3, this], h.1.2.1.1.1⟩)
  · rw [if_neg k3] at h; cases h
theorem sub_fold (nm us ac : ByteArray) (p : Int) (hp : Bool) (af : List Pr) (s : Sh) (hu : nameB us = true) (ha : nameB ac = true) (hs : okS s = true) :
    closeP (((formF s).map fdOf).foldl putC (half nm us ac p hp af)) = ⟨1, 0, nm, us, ac, s, p, hp, 0, false, af, 0, 0, 0⟩ ∧
    ∀ fr, missP (((formF s).map fdOf).foldl putC (half nm us ac p hp af)) fr = false := by
  have eu := tl_ne hu
  have ea := tl_ne ha
  rcases shape_of hs with ⟨a, rfl, hf⟩ | ⟨l, rfl, hl⟩ | ⟨a, b, w, rfl, ha1⟩
  · have e : ((formF ⟨1, [a], 0, 0, 0⟩).map fdOf).foldl putC (half nm us ac p hp af) = { half nm us ac p hp af with nodes := a.1, time := a.2, hasTime := true } := by kernel_rfl
    rw [e]
    refine ⟨rfl, fun fr => ?_⟩
    unfold fineA at hf
    simp only [Bool.and_eq_true, decide_eq_true_eq] at hf
    show ((us.toList == []) || ((ac.toList == []) || (true && (((a.1 == 0) && true) || false)))) = false
    have : (a.1 == 0) = false := by rw [beq_eq_false_iff_ne]; omega
    rw [eu, ea, this]; rfl
  · have e : ((formF ⟨2, l, 0, 0, 0⟩).map fdOf).foldl putC (half nm us ac p hp af) = { half nm us ac p hp af with shape := { sh0 with alts := l } } := by
      show ((l.map afl).map fdOf).foldl putC _ = _
      rw [fold_alts]
      unfold half; dsimp only [cm0, sh0]; rw [List.nil_append]
    rw [e]
    constructor
    · have hx : shapedP ⟨0, l, 0, 0, 0⟩ 0 0 = ⟨2, l, 0, 0, 0⟩ := by
        unfold shapedP
        rw [if_pos (show 0 < l.length by omega), if_neg (show ¬ (0 : Int) < 0 by decide)]
      show ({ half nm us ac p hp af with shape := shapedP ⟨0, l, 0, 0, 0⟩ 0 0, nodes := 0, time := 0, hasTime := false } : Cm) = _
      rw [hx]; rfl
    · intro fr
      show ((us.toList == []) || ((ac.toList == []) || (decide (l.length = 0) && _))) = false
      rw [eu, ea, decide_eq_false (by omega)]; rfl
  · have e : ((formF ⟨3, [], a, b, w⟩).map fdOf).foldl putC (half nm us ac p hp af) = { half nm us ac p hp af with shape := { sh0 with mn := a, mx := b }, time := w, hasTime := true } := by kernel_rfl
    rw [e]
    constructor
    · have hx : shapedP ⟨0, [], a, b, 0⟩ 0 w = ⟨3, [], a, b, w⟩ := by
        unfold shapedP
        rw [if_neg (show ¬ 0 < ([] : List Pr).length by simp), if_pos (show 0 < a by omega), if_neg (show ¬ (0 : Int) < 0 by decide)]
      show ({ half nm us ac p hp af with shape := shapedP ⟨0, [], a, b, 0⟩ 0 w, nodes := 0, time := 0, hasTime := false } : Cm) = _
      rw [hx]; rfl
    · intro fr
      show ((us.toList == []) || ((ac.toList == []) || (true && ((true && (a == 0)) || false)))) = false
      have : (a == 0) = false := by rw [beq_eq_false_iff_ne]; omega
      rw [eu, ea, this]; rfl
theorem back_1 (nm us ac : ByteArray) (p : Int) (hp : Bool) (af : List Pr) (s : Sh) {c : Cm} (hc : c = ⟨1, 0, nm, us, ac, s, p, hp, 0, false, af, 0, 0, 0⟩) (hE : cmdE c = 0) (hl : (lineP c).length ≤ 400) (hpre : preB c = true) (hsub : subB c = true) :
    cparseP ⟨(lineP c).toArray⟩ = (c, ((runes (lineP c)).length : Int), 0) := by
  have hk : c.kind = 1 := by rw [hc]
  have hch : Chain c.kind [] (fieldsF c) := by rw [hk]; exact chain_sub hk (by rw [hc]) (by rw [hc]) hpre hsub
  have hsub2 := hsub
  unfold subB at hsub2
  simp only [Bool.and_eq_true, beq_iff_eq] at hsub2
  obtain ⟨⟨⟨⟨⟨⟨s1, s2⟩, s3⟩, s4⟩, s5⟩, s6⟩, s7⟩ := hsub2
  have hok : okS c.shape = true := by unfold shE at s7; split at s7; assumption; cases s7
  unfold depsB at s6
  simp only [Bool.and_eq_true, decide_eq_true_eq, List.all_eq_true] at s6
  have hd : ∀ d ∈ c.after, inB d.1 1 3 = true := fun d hd => by
    have := s6.1.1 d hd
    unfold okDep at this
    rw [Bool.and_eq_true] at this
    exact this.1
  have h3 : hp = false → p = 0 := by
    intro e
    unfold preB at hpre
    rw [hc, Bool.and_eq_true] at hpre
    have := hpre.1
    dsimp only at this
    rw [if_neg (by rw [e]; decide), beq_iff_eq] at this
    exact this
  have hH : headC c = { cm0 with kind := 1, name := nm } := by rw [hc]; rfl
  have hfld : fieldsF c = (([(bU, Vt.word us), (bA, Vt.word ac)] ++ (if hp = true then [(bPrio, Vt.num p)] else [])) ++ af.map dfl) ++ formF s := by
    rw [fieldsF_sub hk (by rw [hc]) (by rw [hc]), hc, List.append_assoc _ (af.map dfl)]
  have hfold : (((fieldsF c).map fdOf).foldl putC (headC c)) = ((formF s).map fdOf).foldl putC (half nm us ac p hp af) := by
    rw [hfld, hH, List.map_append, List.foldl_append, half_is nm us ac p hp af h3 (by rw [hc] at hd; exact hd)]
  have hs := sub_fold nm us ac p hp af s (by rw [hc] at s2; exact s2) (by rw [hc] at s3; exact s3) (by rw [hc] at hok; exact hok)
  refine read_back ⟨by rw [hk]; decide, fun _ => s1, fun x => by omega, by rw [hc]; exact ⟨by show (0 : Int) ≤ 0; decide, by show (0 : Int) ≤ 99999; decide⟩, ok_flds hch (fun _ => ⟨s4, s5⟩)⟩ (fun x => by omega) (fun x => by have := x.1; omega) (fun x => by omega) hl hch ?_ ?_ hE (fun _ => s7)
  · rw [hfold, hs.1, hc]
  · rw [hfold]; exact hs.2 _
end Go.Proofs.YtjmhaoplablmnaaGreatDoor
namespace Go.Proofs.YtjmhaoplablmnaaGreatDoor
set_option linter.unusedVariables false
set_option linter.unusedSimpArgs false
open Go.RowKit
theorem parse_back {c : Cm} (hE : cmdE c = 0) (hl : (lineP c).length ≤ 400) : cparseP ⟨(lineP c).toArray⟩ = (c, ((runes (lineP c)).length : Int), 0) := by
  obtain ⟨_, _, hfit, hbare⟩ := cmd_ok hE
  obtain ⟨hk1, hk2⟩ := cmd_kind hfit
  unfold fitB at hfit
  rw [Bool.and_eq_true] at hfit
  obtain ⟨hpre, hfit⟩ := hfit
  unfold bareC at hbare
  by_cases k1 : c.kind = 1
  · rw [if_pos k1] at hbare hfit
    exact back_1 _ _ _ _ _ _ _ hbare hE hl hpre hfit
  rw [if_neg k1] at hbare hfit
  have hflds : ∀ {c : Cm}, fieldsF c = [] → ∀ f ∈ fieldsF c, lowN f.1 ∧ okVt f.2 := fun h f hf => by rw [h] at hf; cases hf
  unfold kindB at hfit
  by_cases k2 : c.kind = 2 ∨ c.kind = 3 ∨ c.kind = 4 ∨ c.kind = 11 ∨ c.kind = 12
  · rw [if_pos k2] at hbare
    have hj : 0 ≤ c.job ∧ c.job ≤ 99999 ∧ (c.kind = 2 ∨ c.kind = 3 ∨ c.kind = 4 ∨ c.kind = 11 → 1 ≤ c.job) := by
      by_cases k3 : c.kind = 2 ∨ c.kind = 3 ∨ c.kind = 4 ∨ c.kind = 11
      · rw [if_pos k3] at hfit
        have := in_iff.1 hfit
        exact ⟨by omega, this.2, fun _ => this.1⟩
      · rw [if_neg k3, if_neg (by omega), if_neg (by omega), if_neg (by omega), if_neg (by omega), Bool.and_eq_true] at hfit
        have := in_iff.1 hfit.2
        exact ⟨this.1, this.2, fun x => absurd x k3⟩
    have hf : fieldsF c = [] := by rw [hbare]; exact fields_none _ _ _ (by omega)
    have hh : headC c = c := by
      unfold headC
      rw [if_neg k1, if_neg (by omega), if_neg (by omega)]
      conv => rhs; rw [hbare]
      rfl
    exact back_none hE hl ⟨⟨hk1, hk2⟩, fun x => absurd x k1, fun x => by omega, ⟨hj.1, hj.2.1⟩, hflds hf⟩ hj.2.2 (by omega) hf hh
  rw [if_neg k2] at hbare
  rw [if_neg (by omega)] at hfit
  by_cases k5 : c.kind = 5
  · rw [if_pos k5] at hbare hfit
    simp only [Bool.and_eq_true] at hfit
    unfold preB at hpre
    rw [Bool.and_eq_true] at hpre
    refine back_5 _ _ _ _ _ hbare hE hl (in_iff.1 hfit.1) hfit.2 (fun e => ?_) (fun e => ?_) (fun e => ?_) (fun e => ?_)
    · have := hpre.1; rw [if_pos e] at this; exact this
    · have := hpre.1; rw [if_neg (by rw [e]; decide), beq_iff_eq] at this; exact this
    · have := hpre.2; rw [if_pos e] at this; exact this
    · have := hpre.2; rw [if_neg (by rw [e]; decide), beq_iff_eq] at this; exact this
  rw [if_neg k5] at hbare hfit
  by_cases k6 : c.kind = 6
  · rw [if_pos k6] at hbare hfit
    simp only [Bool.and_eq_true] at hfit
    exact back_6 _ _ hbare hE hl (in_iff.1 hfit.1) hfit.2
  rw [if_neg k6] at hbare hfit
  by_cases k7 : c.kind = 7 ∨ c.kind = 8 ∨ c.kind = 9
  · rw [if_pos k7] at hbare hfit
    have hj0 : c.job = 0 := by rw [hbare]
    have hf : fieldsF c = [] := by rw [hbare]; exact fields_none _ _ _ (by omega)
    have hh : headC c = c := by
      unfold headC
      rw [if_neg k1, if_pos k7]
      conv => rhs; rw [hbare]
      rfl
    exact back_none hE hl ⟨⟨hk1, hk2⟩, fun x => absurd x k1, fun _ => in_iff.1 hfit, by omega, hflds hf⟩ (fun x => by omega) (by omega) hf hh
  rw [if_neg k7] at hbare hfit
  have k10 : c.kind = 10 := by omega
  rw [if_pos k10] at hbare hfit
  simp only [Bool.and_eq_true] at hfit
  have ht := hfit.1.2
  have hpt : inB c.time 1 100000 = true := by
    unfold preB at hpre
    rw [Bool.and_eq_true] at hpre
    have := hpre.2; rw [if_pos ht] at this; exact this
  rw [ht] at hbare
  exact back_10 _ _ _ hbare hE hl hfit.1.1 hfit.2 hpt
/-- how a reading ends -/
theorem read_form (ts : List Tk) (en : Int) : ∃ (x : Cm) (r : Rr), readP ts en = (if 0 ≤ r.bad then (cm0, r.bad, 80) else if cmdE (closeP x) ≠ 0 ∨ (shE (closeP x).shape ≠ 0 ∧ x.kind = 1) then (cm0, 0, 80) else (closeP x, en, 0)) ∧
    ∃ y, (r = failP ts en y ∨ r = y) ∧ y = (loopP ts en (ts.length + 1) (headP ts en ⟨0, -1⟩).1 [] false (headP ts en ⟨0, -1⟩).2).2.2 := by
  refine ⟨_, _, rfl, _, ?_, rfl⟩
  split
  · exact .inl rfl
  · exact .inr rfl
/-- what is read may be -/
theorem parse_fit {s : ByteArray} (h : (cparseP s).2.2 = 0) : cmdE (cparseP s).1 = 0 := by
  unfold cparseP at h ⊢
  by_cases ht : (tokP s).2.2 = 0
  · rw [if_pos ht] at h ⊢
    obtain ⟨x, r, e, _⟩ := read_form (tokP s).1 (tokP s).2.1
    rw [e] at h ⊢
    by_cases h1 : 0 ≤ r.bad
    · rw [if_pos h1] at h; cases h
    · rw [if_neg h1] at h ⊢
      by_cases h2 : cmdE (closeP x) ≠ 0 ∨ (shE (closeP x).shape ≠ 0 ∧ x.kind = 1)
      · rw [if_pos h2] at h; cases h
      · rw [if_neg h2]
        exact Decidable.byContradiction fun z => h2 (Or.inl z)
  · rw [if_neg ht] at h; exact absurd h ht
section
variable {ts : List Tk} {en : Int}
theorem place_le (hts : ∀ t ∈ ts, t.at_ ≤ en) (i : Nat) : placeP ts en i ≤ en := by
  unfold placeP
  split
  · rename_i t ht; exact hts t (List.mem_of_getElem? ht)
  · exact Int.le_refl _
theorem failP_b (hts : ∀ t ∈ ts, t.at_ ≤ en) {r : Rr} (h : r.bad ≤ en) : (failP ts en r).bad ≤ en := by
  unfold failP
  split
  · exact h
  · exact place_le hts _
theorem takeP_b (hts : ∀ t ∈ ts, t.at_ ≤ en) {k : Int} {p : Tk → Bool} {r : Rr} (h : r.bad ≤ en) : (takeP ts en k p r).2.2.bad ≤ en := by
  unfold takeP
  split
  · exact h
  · exact failP_b hts h
theorem lengthP_b (hts : ∀ t ∈ ts, t.at_ ≤ en) {r : Rr} (h : r.bad ≤ en) : (lengthP ts en r).2.bad ≤ en := by
  unfold lengthP
  split
  · exact takeP_b hts h
  · exact takeP_b hts h
theorem valueP_b (hts : ∀ t ∈ ts, t.at_ ≤ en) (f : List UInt8) {r : Rr} (h : r.bad ≤ en) : (valueP ts en f r).2.bad ≤ en := by
  unfold valueP
  repeat' split
  all_goals dsimp only
  · exact takeP_b hts h
  · exact takeP_b hts h
  · exact takeP_b hts h
  · exact takeP_b hts h
  · exact takeP_b hts h
  · exact lengthP_b hts (takeP_b hts (takeP_b hts h))
  · exact takeP_b hts (takeP_b hts (takeP_b hts h))
  · exact lengthP_b hts h
theorem fieldP_b (hts : ∀ t ∈ ts, t.at_ ≤ en) (k : Int) (had : List Fd) {r : Rr} (h : r.bad ≤ en) : (fieldP ts en k had r).2.bad ≤ en := by
  unfold fieldP
  split
  · exact failP_b hts h
  · rename_i t _
    have hv := valueP_b hts t.text.toList (r := signP ts en [61] ⟨r.at_ + 1, r.bad⟩) (takeP_b hts h)
    dsimp only
    split
    · exact failP_b hts hv
    · exact hv
theorem headP_b (hts : ∀ t ∈ ts, t.at_ ≤ en) {r : Rr} (h : r.bad ≤ en) : (headP ts en r).2.bad ≤ en := by
  unfold headP
  split
  · exact failP_b hts h
  · unfold subjP
    repeat' split
    all_goals dsimp only
    all_goals first
      | exact takeP_b hts h
      | exact h
theorem loopP_b (hts : ∀ t ∈ ts, t.at_ ≤ en) : ∀ (n : Nat) (c : Cm) (had : List Fd) (fr : Bool) (r : Rr), r.bad ≤ en → (loopP ts en n c had fr r).2.2.bad ≤ en
  | 0, c, had, fr, r, h => h
  | n + 1, c, had, fr, r, h => by
    unfold loopP
    split
    · exact loopP_b hts n _ _ _ _ (fieldP_b hts _ _ h)
    · exact h
end
theorem lexF_err : ∀ (f : Nat) (rs : List Nat) (i : Nat) (acc : List Tk) (a : Nat) (er : Int), i ≤ rs.length → lexF f rs i acc = .inr (a, er) → a ≤ rs.length := by
  intro f
  induction f with
  | zero => intro rs i acc a er hi h; rw [lexF] at h; cases h
  | succ f ih =>
    intro rs i acc a er hi h
    by_cases hend : skipR rs i = rs.length
    · rw [lexF_end hend] at h; cases h
    have hsk := skip_le (rs := rs) hi
    cases hn : nextP rs (skipR rs i) with
    | inr e =>
      rw [lexF_bad hend hn] at h
      injection h with h
      subst h
      have hT := endT_le (rs := rs) (i := skipR rs i) (by omega)
      unfold nextP countP textP at hn
      repeat' split at hn
      all_goals first
        | (injection hn with hn; injection hn with hn _; omega)
        | cases hn
    | inl e =>
      obtain ⟨t0, m⟩ := e
      rw [lexF_step hend hn] at h
      exact ih rs m _ a er (nextP_after (by omega) hn).2 h
theorem tokP_place {s : ByteArray} : 0 ≤ (tokP s).2.1 ∧ (tokP s).2.1 ≤ ((runes (bl s)).length : Int) := by
  unfold tokP
  split
  · exact ⟨Int.le_refl _, by show (0 : Int) ≤ _; omega⟩
  · split
    · exact ⟨by dsimp only; omega, Int.le_refl _⟩
    · rename_i a er h
      have := lexF_err _ _ _ _ a er (Nat.zero_le _) h
      dsimp only; omega
/-- what is not read: nothing, and a place within the line -/
theorem parse_fail {s : ByteArray} (h : (cparseP s).2.2 ≠ 0) : (cparseP s).1 = cm0 ∧ 0 ≤ (cparseP s).2.1 ∧ (cparseP s).2.1 ≤ ((runes (bl s)).length : Int) := by
  unfold cparseP at h ⊢
  by_cases ht : (tokP s).2.2 = 0
  · rw [if_pos ht] at h ⊢
    rcases line_facts s with ⟨er, h1, h2, _⟩ | ⟨_, _, h3, _, h5, h6, h7⟩
    · rw [h1] at ht; exact absurd ht h2
    obtain ⟨x, r, e, y, hy, ey⟩ := read_form (tokP s).1 (tokP s).2.1
    have hb : r.bad ≤ (tokP s).2.1 := by
      have h0 : y.bad ≤ (tokP s).2.1 := by
        rw [ey]
        exact loopP_b h6 _ _ _ _ _ (headP_b h6 (show (-1 : Int) ≤ _ by omega))
      rcases hy with rfl | rfl
      · exact failP_b h6 h0
      · exact h0
    rw [e] at h ⊢
    by_cases h1 : 0 ≤ r.bad
    · rw [if_pos h1]; exact ⟨rfl, h1, by rw [← h7]; exact hb⟩
    · rw [if_neg h1] at h ⊢
      by_cases h2 : cmdE (closeP x) ≠ 0 ∨ (shE (closeP x).shape ≠ 0 ∧ x.kind = 1)
      · rw [if_pos h2]; exact ⟨rfl, Int.le_refl _, by show (0 : Int) ≤ _; omega⟩
      · rw [if_neg h2] at h; exact absurd rfl h
  · rw [if_neg ht]; exact ⟨rfl, tokP_place⟩
end Go.Proofs.YtjmhaoplablmnaaGreatDoor
