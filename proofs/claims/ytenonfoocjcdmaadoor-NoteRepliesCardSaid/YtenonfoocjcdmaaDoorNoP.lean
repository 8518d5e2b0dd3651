/- Layer 23, plain: notes, their words, what answers them, how they are written and read. -/
import Derived.Test.YtenonfoocjcdmaaDoorLexL4
namespace Go.Proofs.YtenonfoocjcdmaaDoor
set_option linter.unusedVariables false
open Go.RowKit
structure Nt where
  kind : Int
  node : Int
  job : Int
  epoch : Int
def ntC (n : Nt) : List Value := [.int .i64 n.kind, .int .i64 n.node, .int .i64 n.job, .int .i64 n.epoch]
def ntV (n : Nt) : Value := .agg #[.int .i64 n.kind, .int .i64 n.node, .int .i64 n.job, .int .i64 n.epoch]
def nt0 : Nt := ⟨0, 0, 0, 0⟩
def noteP (n : Nt) : Prop := 1 ≤ n.kind ∧ n.kind ≤ 14 ∧ ((n.kind = 6 ∨ n.kind = 13) → n.job = 0) ∧ (¬ (n.kind = 6 ∨ n.kind = 13) → 1 ≤ n.job ∧ n.job ≤ 99999) ∧ 0 ≤ n.node ∧ n.node < 48 ∧ 0 ≤ n.epoch ∧ n.epoch ≤ 999999999
instance (n : Nt) : Decidable (noteP n) := by unfold noteP; infer_instance
def repliesL (k : Int) : List Int := if k = 1 ∨ k = 3 then [7, 14] else if k = 2 then [8, 9] else if k = 4 then [8, 9, 14] else if k = 5 then [10] else if k = 6 then [13] else []
def wordsL : List ByteArray := [⟨#[]⟩, ⟨#[108, 97, 117, 110, 99, 104]⟩, ⟨#[112, 114, 101, 112, 97, 114, 101]⟩, ⟨#[99, 111, 109, 109, 105, 116]⟩, ⟨#[115, 104, 114, 105, 110, 107]⟩, ⟨#[114, 101, 108, 101, 97, 115, 101]⟩, ⟨#[102, 101, 110, 99, 101]⟩, ⟨#[115, 116, 97, 114, 116, 101, 100]⟩, ⟨#[97, 99, 99, 101, 112, 116]⟩, ⟨#[100, 101, 99, 108, 105, 110, 101]⟩, ⟨#[114, 101, 108, 101, 97, 115, 101, 100]⟩, ⟨#[100, 111, 110, 101]⟩, ⟨#[98, 114, 111, 107, 101, 110]⟩, ⟨#[102, 101, 110, 99, 101, 100]⟩, ⟨#[103, 111, 110, 101]⟩]
def wordP (k : Int) : ByteArray := if 1 ≤ k ∧ k ≤ 14 then wordsL.getD k.toNat ⟨#[]⟩ else ⟨#[]⟩
/-- the place of a text in a row; below 0: it is not there -/
def idxS (xs : List ByteArray) (s : ByteArray) : Int := match xs.findIdx? (fun x => s.toList == x.toList) with | some k => (k : Int) | none => -1
theorem kinds_of {k : Int} (h1 : 1 ≤ k) (h2 : k ≤ 14) : k = 1 ∨ k = 2 ∨ k = 3 ∨ k = 4 ∨ k = 5 ∨ k = 6 ∨ k = 7 ∨ k = 8 ∨ k = 9 ∨ k = 10 ∨ k = 11 ∨ k = 12 ∨ k = 13 ∨ k = 14 := by omega
theorem word_idx {k : Int} (h1 : 1 ≤ k) (h2 : k ≤ 14) : idxS wordsL (wordP k) = k := by
  rcases kinds_of h1 h2 with rfl | rfl | rfl | rfl | rfl | rfl | rfl | rfl | rfl | rfl | rfl | rfl | rfl | rfl <;> kernel_rfl
theorem word_check {k : Int} (h1 : 1 ≤ k) (h2 : k ≤ 14) : checkP ⟨1, wordP k, 0, 0⟩ = 0 := by
  rcases kinds_of h1 h2 with rfl | rfl | rfl | rfl | rfl | rfl | rfl | rfl | rfl | rfl | rfl | rfl | rfl | rfl <;> kernel_rfl
def numT (n : Int) : Tk := ⟨2, ⟨#[]⟩, n, 0⟩
theorem flat_map_toNat {l : List UInt8} (h : ∀ b ∈ l, isD b = true) : (l.map UInt8.toNat).flatMap enc = l := by
  rw [flat_small (fun r hr => by
    obtain ⟨b, hb, rfl⟩ := List.mem_map.1 hr
    have := h b hb
    unfold isD at this
    simp only [Bool.and_eq_true, decide_eq_true_eq] at this
    omega), List.map_map]
  conv => rhs; rw [← List.map_id l]
  exact List.map_congr_left (fun b _ => by simp)
theorem num_check {n : Nat} (h : n ≤ 999999999) : checkP (numT n) = 0 := by
  have hd := dd_isD n
  obtain ⟨q, hq⟩ : ∃ q, (Lib.decDigits n).map UInt8.toNat = q := ⟨_, rfl⟩
  have hdig : ∀ r ∈ q, digR r = true := by
    intro r hr
    rw [← hq] at hr
    obtain ⟨b, hb, rfl⟩ := List.mem_map.1 hr
    have := hd b hb
    unfold isD at this
    simp only [Bool.and_eq_true, decide_eq_true_eq] at this
    rw [digR_iff]; omega
  have hfl : q.flatMap enc = Lib.decDigits n := by rw [← hq]; exact flat_map_toNat hd
  have hw : writtenP (numT n) = ⟨(Lib.decDigits n).toArray⟩ := by unfold writtenP numT; simp [itoa_nat]
  have hbl : bl (writtenP (numT n)) = q.flatMap enc := by rw [hw, hfl]
  have hrn : runes (bl (writtenP (numT n))) = q := by rw [hbl]; exact runes_flat (fun r hr => small_good (dig_small (hdig r hr)))
  have hlen : (Lib.decDigits n).length ≤ 9 := dd_len 9 n (by omega) (by omega)
  have hql : q.length = (Lib.decDigits n).length := by rw [← hq]; simp
  have hne : q ≠ [] := by
    intro e
    have := dd_ne n
    rw [e] at hfl
    exact this hfl.symm
  have hl0 : 0 < q.length := List.length_pos_iff.2 hne
  have hnum : numOk q = true := by
    unfold numOk
    rw [decide_eq_true (by omega), Bool.true_and]
    rcases Nat.eq_zero_or_pos n with h0 | h0
    · subst h0
      have : (Lib.decDigits 0) = [48] := by rw [dd_lt (by omega)]; rfl
      rw [this] at hq
      rw [← hq]; rfl
    · have h1 := dd_head h0
      have h2 : (q.headD 0 == 48) = false := by
        cases hdl : Lib.decDigits n with
        | nil => exact absurd hdl (dd_ne n)
        | cons b t =>
          rw [hdl] at hq h1
          rw [← hq]
          simp only [List.map_cons, List.headD_cons]
          rw [beq_eq_false_iff_ne]
          intro e
          apply h1
          rw [List.head?_cons]
          congr 1
          exact UInt8.toNat_inj.1 e
      rw [h2]; simp
  have hval : valR q = n := by
    have h1 := valD_map hdig
    have h2 : q.map UInt8.ofNat = Lib.decDigits n := by rw [← flat_small (fun r hr => dig_lt (hdig r hr)), hfl]
    rw [h2, dd_val] at h1
    exact h1.symm
  have hend : endD q 0 = q.length := by
    unfold endD; simp only [List.drop_zero, Nat.zero_add]
    exact span_is (Nat.le_refl _) (fun j x _ hx => dig_small (hdig x (List.mem_of_getElem? hx))) (fun x hx => by simp at hx)
  have hcut : cutR q 0 q.length = q := by unfold cutR; simp
  have hh : ∃ x t, q = x :: t := by
    cases q with
    | nil => exact absurd rfl hne
    | cons x t => exact ⟨x, t, rfl⟩
  have hn : nextP q 0 = .inl (numT n, q.length) := by
    have hc : classV (q.getD 0 0) = 3 := by
      obtain ⟨x, t, e⟩ := hh
      rw [e]
      have := hdig x (by rw [e]; simp)
      rw [digR_iff] at this
      exact digit_iff.2 (by simpa using this)
    unfold nextP
    rw [if_neg (by rw [hc]; decide), if_pos hc]
    unfold countP
    rw [hend, hcut, if_pos (List.all_eq_true.2 hdig), if_pos hnum, hval]
    rfl
  have h1 := check_own (rs := q) (i := 0) (m := q.length) (t := numT n) hl0 hn (by rw [hw, size_mk]; omega)
  exact h1
def noteTs (n : Nt) : List Tk := [⟨1, wordP n.kind, 0, 0⟩, numT n.node, numT n.job, numT n.epoch]
theorem note_num {n : Nt} (h : noteP n) : 0 ≤ n.node ∧ n.node ≤ 999999999 ∧ 0 ≤ n.job ∧ n.job ≤ 999999999 ∧ 0 ≤ n.epoch ∧ n.epoch ≤ 999999999 := by
  obtain ⟨h1, h2, h3, h4, h5, h6, h7, h8⟩ := h
  by_cases hf : n.kind = 6 ∨ n.kind = 13
  · have := h3 hf; omega
  · have := h4 hf; omega
theorem num_check_int {x : Int} (h0 : 0 ≤ x) (h1 : x ≤ 999999999) : checkP (numT x) = 0 := by
  obtain ⟨m, rfl⟩ := Int.eq_ofNat_of_zero_le h0
  exact num_check (by omega)
theorem note_checks {n : Nt} (h : noteP n) : ∀ t ∈ noteTs n, checkP t = 0 := by
  obtain ⟨a1, a2, a3, a4, a5, a6⟩ := note_num h
  intro t ht
  simp only [noteTs, List.mem_cons, List.not_mem_nil, or_false] at ht
  rcases ht with rfl | rfl | rfl | rfl
  · exact word_check h.1 h.2.1
  · exact num_check_int a1 a2
  · exact num_check_int a3 a4
  · exact num_check_int a5 a6
/-- how a note is read -/
def parseN (s : ByteArray) : Nt × Int :=
  if (tokP s).2.2 ≠ 0 then (nt0, (tokP s).2.2) else match (tokP s).1 with
  | [a, b, c, d] => if a.kind = 1 ∧ b.kind = 2 ∧ c.kind = 2 ∧ d.kind = 2 ∧ noteP ⟨max (idxS wordsL a.text) 0, b.num, c.num, d.num⟩ then (⟨max (idxS wordsL a.text) 0, b.num, c.num, d.num⟩, 0) else (nt0, 230)
  | _ => (nt0, 230)
theorem noteTs_le {n : Nt} (h : noteP n) : (joinB (noteTs n)).length ≤ 400 := by
  obtain ⟨a1, a2, a3, a4, a5, a6⟩ := note_num h
  have hw : (wordP n.kind).size ≤ 8 := by
    rcases kinds_of h.1 h.2.1 with e | e | e | e | e | e | e | e | e | e | e | e | e | e <;> rw [e] <;> decide
  have hnum : ∀ x : Int, 0 ≤ x → x ≤ 999999999 → (bl (writtenP (numT x))).length ≤ 9 := by
    intro x h0 h1
    obtain ⟨m, rfl⟩ := Int.eq_ofNat_of_zero_le h0
    have e : writtenP (numT m) = ⟨(Lib.decDigits m).toArray⟩ := by unfold writtenP numT; simp [itoa_nat]
    rw [e, bl_mk]; exact dd_len 9 m (by omega) (by omega)
  have e0 : (bl (writtenP ⟨1, wordP n.kind, 0, 0⟩)).length = (wordP n.kind).size := by unfold writtenP; simp
  unfold noteTs
  rw [joinB_cons, joinB_cons, joinB_cons, joinB_one]
  have b1 := hnum _ a1 a2
  have b2 := hnum _ a3 a4
  have b3 := hnum _ a5 a6
  simp only [List.length_append, List.length_cons, e0]
  omega
theorem parse_note {n : Nt} (h : noteP n) {S : ByteArray} (hS : bl S = joinB (noteTs n)) : parseN S = (n, 0) := by
  have hl := noteTs_le h
  obtain ⟨us, h1, h2⟩ := tok_joined (l := noteTs n) (by rw [← size_bl, hS]; exact hl) (note_checks h) hS
  unfold parseN
  rw [h1]
  dsimp only
  rw [if_neg (by simp)]
  have h4 : us.length = 4 := by have := congrArg List.length h2; simpa [noteTs] using this
  match us, h4, h2 with
  | [a, b, c, d], _, h2 =>
    simp only [noteTs, List.map_cons, List.map_nil, List.cons.injEq, and_true] at h2
    obtain ⟨e1, e2, e3, e4⟩ := h2
    simp only [bare, numT, Tk.mk.injEq] at e1 e2 e3 e4
    have hk : max (idxS wordsL a.text) 0 = n.kind := by rw [e1.2.1, word_idx h.1 h.2.1]; have := h.1; omega
    have hn : (⟨max (idxS wordsL a.text) 0, b.num, c.num, d.num⟩ : Nt) = n := by rw [hk, e2.2.2.1, e3.2.2.1, e4.2.2.1]
    simp only [hn]
    rw [if_pos ⟨e1.1, e2.1, e3.1, e4.1, h⟩]
theorem parseN_cases (s : ByteArray) : (noteP (parseN s).1 ∧ (parseN s).2 = 0) ∨ ((parseN s).1 = nt0 ∧ (parseN s).2 ≠ 0) := by
  unfold parseN
  split
  · rename_i h; exact .inr ⟨rfl, h⟩
  · split
    · split
      · rename_i h; exact .inl ⟨h.2.2.2.2, rfl⟩
      · exact .inr ⟨rfl, by decide⟩
    · exact .inr ⟨rfl, by decide⟩
/-- how a note is written -/
def showN (n : Nt) : ByteArray × Int := if noteP n then (⟨(joinB (noteTs n)).toArray⟩, 0) else (⟨#[]⟩, 230)
def replyN (n : Nt) (k : Int) : Nt × Int := if noteP n ∧ k ∈ repliesL n.kind then (⟨k, n.node, n.job, n.epoch⟩, 0) else (nt0, 230)
theorem reply_facts {n : Nt} {k : Int} (h : noteP n) (hk : k ∈ repliesL n.kind) : noteP ⟨k, n.node, n.job, n.epoch⟩ ∧ 1 ≤ n.kind ∧ n.kind ≤ 6 ∧ 7 ≤ k ∧ repliesL k = [] := by
  obtain ⟨h1, h2, h3, h4, h5, h6, h7, h8⟩ := h
  have key : 1 ≤ n.kind ∧ n.kind ≤ 6 ∧ 7 ≤ k ∧ k ≤ 14 ∧ (k = 13 ↔ n.kind = 6) := by
    unfold repliesL at hk
    repeat' split at hk
    all_goals simp at hk
    all_goals omega
  obtain ⟨k1, k2, k3, k4, k5⟩ := key
  refine ⟨⟨by simp; omega, by simpa using k4, ?_, ?_, h5, h6, h7, h8⟩, k1, k2, k3, ?_⟩
  · simp only
    intro hh
    exact h3 (by omega)
  · simp only
    intro hh
    exact h4 (by omega)
  · unfold repliesL
    rw [if_neg (by omega), if_neg (by omega), if_neg (by omega), if_neg (by omega), if_neg (by omega)]
end Go.Proofs.YtenonfoocjcdmaaDoor
