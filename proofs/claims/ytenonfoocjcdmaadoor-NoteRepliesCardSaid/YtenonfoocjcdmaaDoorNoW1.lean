/- Layer 23: known, Down, words, Word, Check, Replies, Contains, Index, Reply walked. -/
import Derived.Test.YtenonfoocjcdmaaDoorNoP
namespace Go.Proofs.YtenonfoocjcdmaaDoor
set_option linter.unusedVariables false
open Go.RowKit
def knownB (k : Int) : Bool := decide (1 ≤ k) && decide (k ≤ 14)
def downB (k : Int) : Bool := decide (1 ≤ k) && decide (k ≤ 6)
theorem known_any (k : Int) (w : World) : Calls Tryd.prog 61 #[.int .i64 k] w fun e w' => e = .returned (.bool (knownB k)) ∧ w = w' := by
  have H : Hid (knownB k = (decide (1 ≤ k) && decide (k ≤ 14))) := rfl
  by_cases h1 : 1 ≤ k
  · have t1 : decide (1 ≤ k) = true := by simpa using h1
    by_cases h2 : k ≤ 14
    all_goals
      go_enter Tryd.func61, Tryd.ntmps61
      go_wp2
      go_ret
      exact ⟨ret_bool (by rw [H.out]; simp <;> omega), rfl⟩
  · have t1 : decide (1 ≤ k) = false := by simpa using h1
    go_enter Tryd.func61, Tryd.ntmps61
    go_wp2
    go_ret
    exact ⟨ret_bool (by rw [H.out]; simp <;> omega), rfl⟩
theorem down_any (k : Int) (w : World) : Calls Tryd.prog 36 #[.int .i64 k] w fun e w' => e = .returned (.bool (downB k)) ∧ w = w' := by
  have H : Hid (downB k = (decide (1 ≤ k) && decide (k ≤ 6))) := rfl
  by_cases h1 : 1 ≤ k
  · have t1 : decide (1 ≤ k) = true := by simpa using h1
    by_cases h2 : k ≤ 6
    all_goals
      go_enter Tryd.func36, Tryd.ntmps36
      go_wp2
      go_ret
      exact ⟨ret_bool (by rw [H.out]; simp <;> omega), rfl⟩
  · have t1 : decide (1 ≤ k) = false := by simpa using h1
    go_enter Tryd.func36, Tryd.ntmps36
    go_wp2
    go_ret
    exact ⟨ret_bool (by rw [H.out]; simp <;> omega), rfl⟩
def wordsV : Value := .agg #[.string ⟨#[]⟩, .string ⟨#[108, 97, 117, 110, 99, 104]⟩, .string ⟨#[112, 114, 101, 112, 97, 114, 101]⟩, .string ⟨#[99, 111, 109, 109, 105, 116]⟩, .string ⟨#[115, 104, 114, 105, 110, 107]⟩, .string ⟨#[114, 101, 108, 101, 97, 115, 101]⟩, .string ⟨#[102, 101, 110, 99, 101]⟩, .string ⟨#[115, 116, 97, 114, 116, 101, 100]⟩, .string ⟨#[97, 99, 99, 101, 112, 116]⟩, .string ⟨#[100, 101, 99, 108, 105, 110, 101]⟩, .string ⟨#[114, 101, 108, 101, 97, 115, 101, 100]⟩, .string ⟨#[100, 111, 110, 101]⟩, .string ⟨#[98, 114, 111, 107, 101, 110]⟩, .string ⟨#[102, 101, 110, 99, 101, 100]⟩, .string ⟨#[103, 111, 110, 101]⟩]
theorem wordsV_is : wordsV = .agg (strs wordsL).toArray := rfl
theorem words23_any (w : World) : Calls Tryd.prog 58 #[] w fun e w' => e = .returned wordsV ∧ Below w.heap.size w w' := by
  go_enter Tryd.func58, Tryd.ntmps58
  go_wp2
  exact bodyPost_ret (v := wordsV) (by simp [results, Tryd.results58, go_sem, wordsV]) rfl ⟨rfl, (Below.refl _ _).alloc (Nat.le_refl _) _⟩
theorem word23_any (k : Int) (w : World) : Calls Tryd.prog 57 #[.int .i64 k] w fun e w' => e = .returned (.string (wordP k)) ∧ Below w.heap.size w w' := by
  have hkn := Lib.hid (fun v => known_any k v)
  have hws := Lib.hid (fun v => words23_any v)
  by_cases h : knownB k = true
  · have hk : 1 ≤ k ∧ k ≤ 14 := by unfold knownB at h; simpa using h
    rw [h] at hkn
    have hix : ∀ v : World, (Instr.index 101 wordsV (.int .i64 k)).run Tryd.prog v = .ok (.string (wordP k)) v := by
      intro v
      rcases kinds_of hk.1 hk.2 with rfl | rfl | rfl | rfl | rfl | rfl | rfl | rfl | rfl | rfl | rfl | rfl | rfl | rfl <;> kernel_rfl
    obtain ⟨s, hs⟩ : ∃ s, Hid (wordP k = s) := ⟨_, rfl⟩
    rw [hs.out] at hix ⊢
    clear h hk
    go_enter Tryd.func57, Tryd.ntmps57
    go_wp2_with (first | (go_at_call 61; refine (hkn.out _).mono ?_; rintro e w1 ⟨rfl, rfl⟩) | (go_at_call 58; refine (hws.out _).mono ?_; rintro e w1 ⟨rfl, hb1⟩))
    go_ret
    exact ⟨rfl, hb1⟩
  · have h' : knownB k = false := by simpa using h
    rw [h'] at hkn
    have hw : Hid (wordP k = ⟨#[]⟩) := by show _ = _; unfold wordP; rw [if_neg]; intro hh; apply h; unfold knownB; simpa using hh
    clear h h'
    go_enter Tryd.func57, Tryd.ntmps57
    go_wp2_with (go_at_call 61; refine (hkn.out _).mono ?_; rintro e w1 ⟨rfl, rfl⟩)
    go_ret
    exact ⟨by rw [hw.out]; rfl, Below.refl _ _⟩
def boxN (n : Nt) (w : World) : World := w.alloc (.cells #[.int .i64 n.kind, .int .i64 n.node, .int .i64 n.job, .int .i64 n.epoch] 57)
theorem boxN_below (n : Nt) (w : World) : Below w.heap.size w (boxN n w) := (Below.refl _ w).alloc (Nat.le_refl _) _
def noteE (n : Nt) : Int := if noteP n then 0 else 230
set_option maxRecDepth 100000 in
set_option maxHeartbeats 2000000 in
theorem check23_any (n : Nt) (w : World) : Calls Tryd.prog 34 #[ntV n] w fun e w' => e = .returned (.int .i64 (noteE n)) ∧ Below w.heap.size w w' := by
  have H : Hid (noteE n = if noteP n then 0 else 230) := rfl
  have hkn := Lib.hid (fun v => known_any n.kind v)
  obtain ⟨k, hk⟩ : ∃ k, knownB n.kind = k := ⟨_, rfl⟩
  have hK := Lib.hid hk
  rw [hk] at hkn
  clear hk
  unfold ntV
  obtain ⟨N, J, E, hN, hJ, hE⟩ : ∃ N J E : Int, Hid (n.node = N) ∧ Hid (n.job = J) ∧ Hid (n.epoch = E) := ⟨_, _, _, rfl, rfl, rfl⟩
  obtain ⟨Q, hQ⟩ : ∃ Q : Int, Hid (n.kind = Q) := ⟨_, rfl⟩
  rw [hN.out, hJ.out, hE.out, hQ.out]
  rw [hQ.out] at hK hkn
  have hlast : ∀ x : Int, ((noteP n) → x = 0) → (¬ noteP n → x = 230) → Ending.returned (.int .i64 x) = Ending.returned (.int .i64 (noteE n)) := by
    intro x a b
    rw [H.out]
    split
    · rename_i h; rw [a h]
    · rename_i h; rw [b h]
  have hnp : noteP n ↔ (1 ≤ Q ∧ Q ≤ 14 ∧ ((Q = 6 ∨ Q = 13) → J = 0) ∧ (¬ (Q = 6 ∨ Q = 13) → 1 ≤ J ∧ J ≤ 99999) ∧ 0 ≤ N ∧ N < 48 ∧ 0 ≤ E ∧ E ≤ 999999999) := by
    unfold noteP; rw [hN.out, hJ.out, hE.out, hQ.out]
  rw [hnp] at hlast
  have HL := Lib.hid hlast
  have hkq : Hid (k = (decide (1 ≤ Q) && decide (Q ≤ 14))) := by show _ = _; rw [← hK.out]; rfl
  clear hlast hnp
  have hcases : (Q = 6 ∧ (Q == 6) = true) ∨ (Q = 13 ∧ (Q == 6) = false ∧ (Q == 13) = true) ∨ (¬ (Q = 6 ∨ Q = 13) ∧ (Q == 6) = false ∧ (Q == 13) = false) := by
    by_cases a : Q = 6
    · exact .inl ⟨a, by simpa using a⟩
    · by_cases b : Q = 13
      · exact .inr (.inl ⟨b, by simpa using a, by simpa using b⟩)
      · exact .inr (.inr ⟨by omega, by simpa using a, by simpa using b⟩)
  cases k
  · have hkf : ¬ (1 ≤ Q ∧ Q ≤ 14) := by have := hkq.out; intro hh; simp [hh.1, hh.2] at this
    have HF := Lib.hid hkf
    clear hkf
    rcases hcases with ⟨a, b⟩ | ⟨a, b, c⟩ | ⟨a, b, c⟩
    all_goals
      have HA := Lib.hid a
      clear a
      go_enter Tryd.func34, Tryd.ntmps34
      go_wp2_with (go_at_call 61; refine (hkn.out _).mono ?_; rintro e w1 ⟨rfl, rfl⟩)
      all_goals
        go_ret
        exact ⟨HL.out _ (fun h => absurd ⟨h.1, h.2.1⟩ HF.out) (fun _ => rfl), (Below.refl _ _).alloc (Nat.le_refl _) _⟩
  · have hkf : (1 ≤ Q ∧ Q ≤ 14) := by have := hkq.out; simpa using this.symm
    have HF := Lib.hid hkf
    clear hkf
    rcases hcases with ⟨a, b⟩ | ⟨a, b, c⟩ | ⟨a, b, c⟩
    all_goals
      have HA := Lib.hid a
      clear a
      go_enter Tryd.func34, Tryd.ntmps34
      go_wp2_with (go_at_call 61; refine (hkn.out _).mono ?_; rintro e w1 ⟨rfl, rfl⟩)
      all_goals
        go_ret
        have h1 := HF.out
        have h2 := HA.out
        refine ⟨HL.out _ (fun h => ?_) (fun h => ?_), (Below.refl _ _).alloc (Nat.le_refl _) _⟩
        all_goals first | rfl | (exfalso; simp_all <;> omega)
end Go.Proofs.YtenonfoocjcdmaaDoor
