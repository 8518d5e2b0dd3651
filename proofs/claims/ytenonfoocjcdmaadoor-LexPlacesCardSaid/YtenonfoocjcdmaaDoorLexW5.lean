/- Layer 5: a word, a number or a time, a text. -/
import Derived.Test.YtenonfoocjcdmaaDoorLexW4
namespace Go.Proofs.YtenonfoocjcdmaaDoor
set_option linter.unusedVariables false
open Go.RowKit
theorem app1 (a b : Value) : #[a] ++ #[b] = #[a, b] := rfl
theorem app0 (a : Value) : #[a] ++ (#[] : Array Value) = #[a] := rfl
theorem enters_of1 : Enters Tryd.prog 67 := enters_of Tryd.func67 (by kernel_rfl) rfl
theorem enters_word1 : Enters Tryd.prog 91 := enters_of Tryd.func91 (by kernel_rfl) rfl
theorem enters_count1 : Enters Tryd.prog 93 := enters_of Tryd.func93 (by kernel_rfl) rfl
theorem enters_text1 : Enters Tryd.prog 96 := enters_of Tryd.func96 (by kernel_rfl) rfl
/-- what the closure of blanks holds: its classes -/
def OfAt (cs : List Int) (C g : Nat) (v : World) : Prop :=
  v.heap[C]? = some (.cells #[.slice (some ⟨g, 0, none⟩) cs.length cs.length] 64 (0, 0)) ∧ v.heap[g]? = some (.cells (cs.map (Value.int .i64)).toArray 3 (0, 0))
theorem OfAt.keep {cs : List Int} {C g R : Nat} {v v' : World} (h : OfAt cs C g v) (hC : C ≠ R) (hg : g ≠ R) (hb : ∀ b, b ≠ R → v'.heap[b]? = v.heap[b]?) : OfAt cs C g v' :=
  ⟨(hb C hC).trans h.1, (hb g hg).trans h.2⟩
theorem OfAt.below {cs : List Int} {C g : Nat} {v v' : World} (h : OfAt cs C g v) (hb : Below v.heap.size v v') : OfAt cs C g v' :=
  ⟨(hb.block C (lt_of_block h.1)).trans h.1, (hb.block g (lt_of_block h.2)).trans h.2⟩
theorem OfAt.kb {cs : List Int} {C g : Nat} {S : Nat → Prop} {v v' : World} (h : OfAt cs C g v) (hb : Kb S v v') (hC : ¬ S C) (hg : ¬ S g) : OfAt cs C g v' :=
  ⟨(hb.block C (lt_of_block h.1) hC).trans h.1, (hb.block g (lt_of_block h.2) hg).trans h.2⟩
theorem OfAt.calls {cs : List Int} {C g : Nat} {v : World} (h : OfAt cs C g v) (hn : cs.length ≤ 100) (r : Nat) :
    Calls Tryd.prog 67 (#[.int .i32 (r : Int)] ++ #[.pointer (some ⟨C, 0, none⟩)]) v fun e v' => e = .returned (.bool (hasC cs r)) ∧ v = v' :=
  of1_any r C g cs.length cs.length cs v (cell_of_one h.1) rfl hn (fun j x hx => by simp [World.cell?, h.2, hx])
/-- 'while' over blanks -/
theorem blanks_any (R n c : Nat) (A : Option Addr) (rs : List Nat) (i : Nat) (bad err : Int) (C g : Nat) (w : World) (hC : C ≠ R) (hg : g ≠ R)
    (h0 : Rd w R A n c rs i bad err) (hj : OfAt [1] C g w) (hin : i ≤ n) (hn : n ≤ 100000) (hcm : c ≤ maxLen) :
    Calls Tryd.prog 49 #[.pointer (some ⟨R, 0, none⟩), .func (.func 67) #[] #[.pointer (some ⟨C, 0, none⟩)]] w fun e w' =>
      (∃ s, e = .returned (.string s)) ∧ Rd w' R A n c rs (skipR rs i) bad err ∧ OfAt [1] C g w' ∧ Kb (· = R) w w' := by
  have hlen := h0.len
  refine (while_any R n c A rs i (skipR rs i) bad err _ _ enters_of1 (fun _ => False) (fun _ v => OfAt [1] C g v) (fun k => blankR (rs.getD k 0)) w id (fun _ _ => id)
    (fun k v v' h hb => h.keep hC hg hb) (fun k r v hr _ _ hv => (hv.calls (by simp) r).mono ?_) h0 hj (skip_le (by omega)).1 (by have := (skip_le (rs := rs) (i := i) (by omega)).2; omega) ?_ ?_ hn hcm).mono ?_
  · rintro e v' ⟨rfl, rfl⟩
    rw [getD_of hr]
    exact ⟨rfl, Kb.refl _ _, hv⟩
  · intro k h1 h2
    have hk : k < rs.length := by have := (skip_le (rs := rs) (i := i) (by omega)).2; omega
    rw [getD_of (List.getElem?_eq_getElem hk)]
    exact spanI_in (p := blankR) h1 h2 (List.getElem?_eq_getElem hk)
  · intro h
    have hk : skipR rs i < rs.length := by omega
    rw [getD_of (List.getElem?_eq_getElem hk)]
    exact spanI_stop (p := blankR) (List.getElem?_eq_getElem hk)
  · rintro e w' ⟨rfl, h1, h2, h3⟩
    exact ⟨⟨_, rfl⟩, h1, h2, h3.mono (fun b hb => hb.elim id False.elim)⟩
/-- what the closure of a word holds -/
def WordAt (I C g : Nat) (v : World) : Prop := v.heap[I]? = some (.cells #[.func (.func 67) #[] #[.pointer (some ⟨C, 0, none⟩)]] 90 (0, 0)) ∧ OfAt [2, 3] C g v
theorem words_any (R n c : Nat) (A : Option Addr) (rs : List Nat) (i : Nat) (bad err : Int) (I C g : Nat) (w : World) (hI : I ≠ R) (hC : C ≠ R) (hg : g ≠ R)
    (h0 : Rd w R A n c rs i bad err) (hj : WordAt I C g w) (hin : i ≤ n) (hn : n ≤ 100000) (hcm : c ≤ maxLen) :
    Calls Tryd.prog 49 #[.pointer (some ⟨R, 0, none⟩), .func (.func 91) #[] #[.pointer (some ⟨I, 0, none⟩)]] w fun e w' =>
      e = .returned (.string (strR (cutR rs i (endW rs i)))) ∧ Rd w' R A n c rs (endW rs i) bad err ∧ Kb (· = R) w w' := by
  have hlen := h0.len
  have hle : endW rs i ≤ rs.length := spanI_le (by omega)
  refine (while_any R n c A rs i (endW rs i) bad err _ _ enters_word1 (fun _ => False) (fun _ v => WordAt I C g v) (fun k => wordR (rs.getD k 0)) w id (fun _ _ => id)
    (fun k v v' h hb => ⟨(hb I hI).trans h.1, h.2.keep hC hg hb⟩) (fun k r v hr _ _ hv => ?_) h0 hj (by unfold endW; omega) (by omega) ?_ ?_ hn hcm).mono ?_
  · rw [app1]
    refine (word1_any r I C g 2 v (cell_of_one hv.1) (cell_of_one hv.2.1) (by have := hv.2.2; simp [World.cell?, this]) (by have := hv.2.2; simp [World.cell?, this])).mono ?_
    rintro e v' ⟨rfl, rfl⟩
    rw [getD_of hr]
    exact ⟨rfl, Kb.refl _ _, hv⟩
  · intro k h1 h2
    have hk : k < rs.length := by omega
    rw [getD_of (List.getElem?_eq_getElem hk)]
    exact spanI_in (p := wordR) h1 h2 (List.getElem?_eq_getElem hk)
  · intro h
    have hk : endW rs i < rs.length := by omega
    rw [getD_of (List.getElem?_eq_getElem hk)]
    exact spanI_stop (p := wordR) (List.getElem?_eq_getElem hk)
  · rintro e w' ⟨rfl, h1, h2, h3⟩
    exact ⟨rfl, h1, h3.mono (fun b hb => hb.elim id False.elim)⟩
theorem smalls_any (R n c : Nat) (A : Option Addr) (rs : List Nat) (i : Nat) (bad err : Int) (w : World)
    (h0 : Rd w R A n c rs i bad err) (hin : i ≤ n) (hn : n ≤ 100000) (hcm : c ≤ maxLen) :
    Calls Tryd.prog 49 #[.pointer (some ⟨R, 0, none⟩), .func (.func 93) #[] #[]] w fun e w' =>
      e = .returned (.string (strR (cutR rs i (endD rs i)))) ∧ Rd w' R A n c rs (endD rs i) bad err ∧ Kb (· = R) w w' := by
  have hlen := h0.len
  have hle : endD rs i ≤ rs.length := spanI_le (by omega)
  refine (while_any R n c A rs i (endD rs i) bad err _ _ enters_count1 (fun _ => False) (fun _ v => True) (fun k => smallR (rs.getD k 0)) w id (fun _ _ => id)
    (fun k v v' h hb => trivial) (fun k r v hr _ _ hv => ?_) h0 trivial (by unfold endD; omega) (by omega) ?_ ?_ hn hcm).mono ?_
  · rw [app0]
    refine (count1_any r v).mono ?_
    rintro e v' ⟨rfl, rfl⟩
    rw [getD_of hr]
    exact ⟨rfl, Kb.refl _ _, trivial⟩
  · intro k h1 h2
    have hk : k < rs.length := by omega
    rw [getD_of (List.getElem?_eq_getElem hk)]
    exact spanI_in (p := smallR) h1 h2 (List.getElem?_eq_getElem hk)
  · intro h
    have hk : endD rs i < rs.length := by omega
    rw [getD_of (List.getElem?_eq_getElem hk)]
    exact spanI_stop (p := smallR) (List.getElem?_eq_getElem hk)
  · rintro e w' ⟨rfl, h1, h2, h3⟩
    exact ⟨rfl, h1, h3.mono (fun b hb => hb.elim id False.elim)⟩
theorem texts_any (R n c : Nat) (A : Option Addr) (rs : List Nat) (i : Nat) (bad err : Int) (I : Nat) (w : World) (hI : I ≠ R) (hA : ∀ ad, A = some ad → ad.block ≠ I)
    (h0 : Rd w R A n c rs i bad err) (hj : w.heap[I]? = some (.cells #[.bool true] 4 (0, 0))) (hin : i ≤ n) (hn : n ≤ 100000) (hcm : c ≤ maxLen) :
    Calls Tryd.prog 49 #[.pointer (some ⟨R, 0, none⟩), .func (.func 96) #[] #[.pointer (some ⟨I, 0, none⟩)]] w fun e w' =>
      (∃ s, e = .returned (.string s)) ∧ Rd w' R A n c rs (endT rs i) bad err ∧ Kb (fun b => b = R ∨ b = I) w w' := by
  have hlen := h0.len
  have hle : endT rs i ≤ rs.length := endT_le (by omega)
  have hii : i ≤ endT rs i := by unfold endT; omega
  refine (while_any R n c A rs i (endT rs i) bad err _ _ enters_text1 (· = I) (fun k v => v.heap[I]? = some (.cells #[.bool (heldN true (rs.drop i) (k - i))] 4 (0, 0))) (fun k => textR (heldN true (rs.drop i) (k - i)) (rs.getD k 0)) w (fun e => hI e.symm) (fun ad e => hA ad e)
    (fun k v v' h hb => (hb I hI).trans h) (fun k r v hr hik hkm hv => ?_) h0 (by simpa [heldN] using hj) hii (by omega) ?_ ?_ hn hcm).mono ?_
  · rw [getD_of hr, app1]
    cases hx : textR (heldN true (rs.drop i) (k - i)) r with
    | true =>
      refine (text1_yes r _ I v hv hx).mono ?_
      rintro e v' ⟨rfl, rfl⟩
      refine ⟨rfl, (Kb.refl (· = I) _).set_ (p := ⟨I, 0, none⟩) rfl _, ?_⟩
      rw [one_setCell hv]
      simp only [if_true]
      rw [show k + 1 - i = (k - i) + 1 by omega, heldN_succ (drop_get hik hr)]
    | false =>
      refine (text1_no r _ I v hv hx).mono ?_
      rintro e v' ⟨rfl, rfl⟩
      exact ⟨rfl, Kb.refl _ _, by simpa using hv⟩
  · intro k h1 h2
    have hk : k < rs.length := by omega
    rw [getD_of (List.getElem?_eq_getElem hk)]
    exact scan_mid (h := true) (l := rs.drop i) (k := k - i) (by unfold endT at h2; omega) (drop_get h1 (List.getElem?_eq_getElem hk))
  · intro h
    have hk : endT rs i < rs.length := by omega
    rw [getD_of (List.getElem?_eq_getElem hk)]
    have h2 := scan_stop (h := true) (l := rs.drop i) (x := rs[endT rs i]) (by rw [List.getElem?_drop]; exact List.getElem?_eq_getElem hk)
    rw [show endT rs i - i = scan true (rs.drop i) by unfold endT; omega]
    exact h2
  · rintro e w' ⟨rfl, h1, h2, h3⟩
    exact ⟨⟨_, rfl⟩, h1, h3⟩
end Go.Proofs.YtenonfoocjcdmaaDoor
