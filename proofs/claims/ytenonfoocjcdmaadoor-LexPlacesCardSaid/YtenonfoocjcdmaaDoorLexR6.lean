/- Layer 5, the document's answer: the tokens of a line. -/
import Derived.Test.YtenonfoocjcdmaaDoorLexR5
namespace Go.Proofs.YtenonfoocjcdmaaDoor
set_option linter.unusedVariables false
open Go.RowKit
theorem skip_blank {rs : List Nat} {k x : Nat} (hx : rs[k]? = some x) (hb : blankR x = true) : skipR rs k = skipR rs (k + 1) := by
  unfold skipR
  rw [List.drop_eq_getElem_cons (List.getElem?_eq_some_iff.1 hx).1, span_cons, (List.getElem?_eq_some_iff.1 hx).2, hb]
  simp; omega
theorem skip_here {rs : List Nat} {k x : Nat} (hx : rs[k]? = some x) (hb : blankR x = false) : skipR rs k = k := by
  unfold skipR
  rw [List.drop_eq_getElem_cons (List.getElem?_eq_some_iff.1 hx).1, span_cons, (List.getElem?_eq_some_iff.1 hx).2, hb]
  simp
theorem skip_end {rs : List Nat} : skipR rs rs.length = rs.length := by unfold skipR; simp [spanN]
theorem lexF_skip {f k k' : Nat} {rs : List Nat} {acc : List Tk} (h : skipR rs k = skipR rs k') : lexF f rs k acc = lexF f rs k' acc := by
  cases f with
  | zero => rfl
  | succ f => rw [lexF, lexF, h]
theorem blank_q {x : Nat} {q : Int} (h : classV x = q) : blankR x = (q == 1) := by
  unfold blankR hasC
  rw [h]
  cases h2 : (q == 1) <;> simp [List.contains, List.elem, h2]
theorem tokP_inl {s : ByteArray} {ts : List Tk} (h : s.size ≤ 400) (hl : lexP (runes (bl s)) = .inl ts) : tokP s = (ts, ((runes (bl s)).length : Int), 0) := by
  unfold tokP; rw [if_neg (by omega), hl]
theorem tokP_inr {s : ByteArray} {a : Nat} {er : Int} (h : s.size ≤ 400) (hl : lexP (runes (bl s)) = .inr (a, er)) : tokP s = ([], (a : Int), er) := by
  unfold tokP; rw [if_neg (by omega), hl]
set_option maxHeartbeats 1000000 in
theorem tokens05_big (s : ByteArray) (w : World) (h : 400 < s.size) : Calls Tryd.prog 19 #[.string s] w (RetTok w (tokP s)) := by
  have t1 : decide ((400 : Int) < (s.size : Int)) = true := by simp; omega
  have hP : Hid (tokP s = ([], 0, 3)) := by show _ = _; unfold tokP; rw [if_pos h]
  clear h
  go_enter Tryd.func19, Tryd.ntmps19
  go_wp2
  go_ret3
  rw [hP.out]
  exact ⟨_, rfl, Owns.nil, Below.refl _ _⟩
/-- what holds ahead of each rune that is looked at -/
def TokInv (n c : Nat) (A : Option Addr) (rs : List Nat) (B2 : Nat) (w : World) (o i : Value) (wr : World) : Prop :=
  ∃ (k f : Nat) (acc : List Tk), i = .int .i64 (k : Int) ∧ k ≤ n ∧ n - k < f ∧ acc.length ≤ k ∧ Owns wr B2 42 4 o acc.length (recs tkC acc) ∧ Reads wr B2 1 A n (rcs rs) ∧ lexF f rs k acc = lexP rs ∧ Below w.heap.size w wr ∧ B2 ≤ wr.heap.size
set_option maxHeartbeats 2000000 in
theorem tokens05_any (s : ByteArray) (w : World) : Calls Tryd.prog 19 #[.string s] w (RetTok w (tokP s)) := by
  rcases Nat.lt_or_ge 400 s.size with h | h
  · exact tokens05_big s w h
  have t1 : decide ((400 : Int) < (s.size : Int)) = false := by simp; omega
  have hP := Lib.hid (fun ts => tokP_inl (s := s) (ts := ts) h)
  have hQ := Lib.hid (fun a er => tokP_inr (s := s) (a := a) (er := er) h)
  have hrl := runes_size s
  have hrn : (runes (bl s)).length ≤ 400 := by omega
  have hru := Lib.hid (runes05_any s w (by omega))
  obtain ⟨rs, hrs⟩ : ∃ rs, Hid (runes (bl s) = rs) := ⟨_, rfl⟩
  rw [hrs.out] at hP hQ hrn hru
  clear hrl
  go_enter Tryd.func19, Tryd.ntmps19
  go_wp2_with (go_at_call 51; refine Calls.mono hru.out ?_; rintro e w1 ⟨v, rfl, ho1, hb1⟩; obtain ⟨A, c, rfl, hcap, hcm⟩ := ho1.slice; have hr1 := Lib.hid ho1.reads; replace hb1 := Lib.hid hb1; clear ho1)
  go_loopw [6, 7] (TokInv rs.length c A rs w1.heap.size w) (fun _ v _ => rs.length - (intOf v).toNat)
  case atStart => exact ⟨0, rs.length + 1, [], rfl, Nat.zero_le _, by omega, Nat.le_refl _, Owns.nil, hr1.out, rfl, hb1.out, Nat.le_refl _⟩
  case round =>
    obtain ⟨k, f, acc, rfl, hkn, hf, hacc, hown, hrd, hlx, hbr, hB2⟩ := hrel
    have hw1 : w.heap.size ≤ w1.heap.size := hb1.out.size
    by_cases hlt : k < rs.length
    · obtain ⟨x, hx⟩ : ∃ x, Hid (rs[k]? = some x) := ⟨_, List.getElem?_eq_getElem (by omega)⟩
      obtain ⟨ad, rfl, hadB, hc1⟩ := hrd.rune_at hx.out
      have hR := Lib.hid hrd
      obtain ⟨q, hq⟩ : ∃ q, Hid (classV x = q) := ⟨_, rfl⟩
      have hbk := Lib.hid (blank_q hq.out)
      have tk : (k : Int) < (rs.length : Int) := by omega
      clear hrd
      by_cases hbl : blankR x = true
      · have hl2 : Hid (lexF f rs (k + 1) acc = lexP rs) := by show _ = _; rw [← hlx]; exact (lexF_skip (skip_blank hx.out hbl)).symm
        rw [hbk.out] at hbl
        clear hlx
        go_wp2_with (go_at_call 52; refine (rclass_any _ _).mono ?_; rintro e w' ⟨rfl, rfl⟩; rw [hq.out])
        go_roundw
        case rel => exact ⟨k + 1, f, acc, by go_num, by omega, by omega, by omega, hown, hR.out, hl2.out, hbr, hB2⟩
        case measure => simp [intOf]; omega
      · have hbl' : blankR x = false := by simpa using hbl
        have hsk := Lib.hid (skip_here hx.out hbl')
        have tb := hbl'
        rw [hbk.out] at tb
        have hone := Lib.hid (one05_any (some ad) rs.length c w1.heap.size rs k x wr hR.out hB2 hcap hx.out (by omega) hcm)
        have hlx2 := Lib.hid hlx
        clear hbl hbl' hlx
        obtain ⟨f', rfl⟩ : ∃ f', f = f' + 1 := ⟨f - 1, by omega⟩
        cases hnp : nextP rs k with
        | inr e =>
          obtain ⟨a, er⟩ := e
          rw [hnp] at hone
          have hne := nextP_err hnp
          have te : (er != 0) = true := by simpa using hne
          have hP2 : Hid (tokP s = ([], (a : Int), er)) := by show _ = _; exact hQ.out _ _ (by rw [← hlx2.out, lexF_bad (by rw [hsk.out]; omega) (by rw [hsk.out]; exact hnp)])
          clear hne hnp
          go_wp2_with (first
            | (go_at_call 52; refine (rclass_any _ _).mono ?_; rintro e w' ⟨rfl, rfl⟩; rw [hq.out])
            | (go_at_call 53; refine Calls.mono hone.out ?_; rintro e w3 ⟨⟨t, rfl⟩, hb3⟩; unfold tkV))
          go_ret3
          rw [hP2.out]
          exact ⟨_, rfl, Owns.nil, (hbr.trans (hb3.mono (by omega))).alloc (by have := hb3.size; omega) _⟩
        | inl e =>
          obtain ⟨t, m⟩ := e
          rw [hnp] at hone
          have haft := nextP_after (rs := rs) (i := k) hlt hnp
          have hstep := Lib.hid (lexF_step (f := f') (acc := acc) (by rw [hsk.out]; omega : skipR rs k ≠ rs.length) (by rw [hsk.out]; exact hnp))
          clear hnp
          go_wp2_with (first
            | (go_at_call 52; refine (rclass_any _ _).mono ?_; rintro e w' ⟨rfl, rfl⟩; rw [hq.out])
            | (go_at_call 53; refine Calls.mono hone.out ?_; rintro e w3 ⟨rfl, hb3⟩; have hz3 : w1.heap.size ≤ w3.heap.size := (by have := hb3.size; omega); have ho3 := Lib.hid (hown.below hb3); unfold tkV)
            | (at_builtin; refine app_t rfl rfl w1.heap.size rfl ((ho3.out.alloc _).alloc _) rfl (tok_made w3 _ t) (by omega) (by simp only [World.size_alloc]; omega) ?_))
          intro v4 w4 o4 k4 _
          have kb4 : Hid (Kb (fun b => w1.heap.size ≤ b) w3 w4) := (((Kb.refl _ w3).alloc _).alloc _).trans k4.kb
          replace o4 := Lib.hid o4
          clear k4
          go_wp2
          go_roundw
          case rel =>
            have hb4 : Below w.heap.size w w4 := Kb.below_ (hbr.trans (hb3.mono (by omega))) kb4.out (fun b hb => by omega) (by omega)
            have hrd4 : Reads w4 w1.heap.size 1 (some ad) rs.length (rcs rs) := (hR.out.below (hb3.mono hB2)).keep (fun p hp => kb4.out.cell (by omega) (by omega))
            exact ⟨m, f', acc ++ [t], rfl, haft.2, by omega, by simp; omega, by simpa using o4.out, hrd4, by rw [← hlx2.out, hstep.out], hb4, by have := kb4.out.size; omega⟩
          case measure => simp [intOf]; omega
    · obtain rfl : k = rs.length := by omega
      have hP2 : Hid (tokP s = (acc, (rs.length : Int), 0)) := by show _ = _; exact hP.out _ (by rw [← hlx, lexF_end skip_end])
      clear hlx hrd
      go_wp2
      go_ret3
      rw [hP2.out]
      exact ⟨_, rfl, hown.mono (by omega), hbr⟩
end Go.Proofs.YtenonfoocjcdmaaDoor
