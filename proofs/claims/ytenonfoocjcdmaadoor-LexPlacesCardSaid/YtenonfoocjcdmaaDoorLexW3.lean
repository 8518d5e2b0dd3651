/- Layer 5: the closures that readers hand to 'while'. -/
import Derived.Test.YtenonfoocjcdmaaDoorLexW2
namespace Go.Proofs.YtenonfoocjcdmaaDoor
set_option linter.unusedVariables false
open Go.RowKit
def hasC (cs : List Int) (r : Nat) : Bool := cs.contains (classV r)
theorem of_any (A : Option Addr) (n c : Nat) (w : World) :
    Calls Tryd.prog 48 #[.slice A n c] w fun e w' => e = .returned (.func (.func 67) #[] #[.pointer (some ⟨w.heap.size, 0, none⟩)]) ∧ w' = w.alloc (.cells #[.slice A n c] 64) := by
  have hmf : ∀ (fn : Fn) (first cap : Array Value) (w : World), (Instr.makeFunc fn first cap).run Tryd.prog w = .ok (.func fn first cap) w := fun _ _ _ _ => rfl
  go_enter Tryd.func48, Tryd.ntmps48
  go_wp2
  go_ret
  exact ⟨rfl, rfl⟩
theorem hasC_at {cs : List Int} {r : Nat} {k : Nat} {x : Int} (hx : cs[k]? = some x) (h : classV r = x) : hasC cs r = true := by
  unfold hasC; rw [List.contains_iff_mem, h]; exact List.mem_of_getElem? hx
set_option maxHeartbeats 1000000 in
theorem of1_any (r : Nat) (C g n c : Nat) (cs : List Int) (w : World) (hC : w.cell? ⟨C, 0, none⟩ = some (.slice (some ⟨g, 0, none⟩) n c)) (hn : cs.length = n) (hm : n ≤ 100)
    (hcs : ∀ (j : Nat) (x : Int), cs[j]? = some x → w.cell? ⟨g, j, none⟩ = some (.int .i64 x)) :
    Calls Tryd.prog 67 #[.int .i32 (r : Int), .pointer (some ⟨C, 0, none⟩)] w fun e w' => e = .returned (.bool (hasC cs r)) ∧ w = w' := by
  obtain ⟨q, hq⟩ : ∃ q, Hid (classV r = q) := ⟨_, rfl⟩
  have hcs2 := Lib.hid hcs
  clear hcs
  go_enter Tryd.func67, Tryd.ntmps67
  go_wp2_with fail
  go_loopw [8] (fun i wr => ∃ k : Nat, k ≤ n ∧ i = .int .i64 k ∧ wr = w ∧ Hid (∀ j x, j < k → cs[j]? = some x → classV r ≠ x)) (fun i _ => n - (intOf i).toNat)
  case atStart => exact ⟨0, Nat.zero_le _, rfl, rfl, fun j x hj => absurd hj (by omega)⟩
  case round =>
    obtain ⟨k, hk, rfl, rfl, HN⟩ := hrel
    by_cases hkn : k < n
    · obtain ⟨x, hx⟩ : ∃ x, Hid (cs[k]? = some x) := ⟨_, List.getElem?_eq_getElem (by rw [hn]; exact hkn)⟩
      have hc1 := hcs2.out k x hx.out
      have hlt : (k : Int) < (n : Int) := by omega
      by_cases he : classV r = x
      · have hT := Lib.hid (hasC_at hx.out he)
        have he2 : (q == x) = true := by rw [← hq.out]; simpa using he
        clear he
        go_wp2_with (go_at_call 68; refine (class_any _ _).mono ?_; rintro e w' ⟨rfl, rfl⟩; rw [hq.out])
        go_ret
        exact ⟨ret_bool hT.out.symm, rfl⟩
      · have he2 : (q == x) = false := by rw [← hq.out]; simpa using he
        have HN2 : Hid (∀ j y, j < k + 1 → cs[j]? = some y → classV r ≠ y) := fun j y hj hy => by
          rcases Nat.lt_or_ge j k with h | h
          · exact HN.out j y h hy
          · have : j = k := by omega
            subst this
            rw [hx.out] at hy
            injection hy with hy
            rw [← hy]; exact he
        clear HN he
        go_wp2_with (go_at_call 68; refine (class_any _ _).mono ?_; rintro e w' ⟨rfl, rfl⟩; rw [hq.out])
        go_roundw
        case rel => exact ⟨k + 1, by omega, by go_num, by trivial, HN2⟩
        case measure => simp [intOf]; omega
    · have hF : Hid (hasC cs r = false) := by
        show hasC cs r = false
        unfold hasC
        rw [Bool.eq_false_iff]
        intro h
        rw [List.contains_iff_mem] at h
        obtain ⟨j, hj⟩ := List.mem_iff_getElem?.1 h
        have hjl := (List.getElem?_eq_some_iff.1 hj).1
        exact HN.out j _ (by omega) hj rfl
      go_wp2
      go_ret
      exact ⟨ret_bool hF.out.symm, rfl⟩
def smallR (r : Nat) : Bool := (decide (48 ≤ r) && decide (r ≤ 57)) || (decide (97 ≤ r) && decide (r ≤ 122))
theorem count1_any (r : Nat) (w : World) :
    Calls Tryd.prog 93 #[.int .i32 (r : Int)] w fun e w' => e = .returned (.bool (smallR r)) ∧ w = w' := by
  rcases (by omega : r < 48 ∨ (48 ≤ r ∧ r ≤ 57) ∨ (57 < r ∧ r < 97) ∨ (97 ≤ r ∧ r ≤ 122) ∨ 122 < r) with h | h | h | h | h
  all_goals
    have hs : Hid (smallR r = if 48 ≤ r ∧ r ≤ 57 ∨ 97 ≤ r ∧ r ≤ 122 then true else false) := by
      show smallR r = _
      unfold smallR
      split <;> simp <;> omega
    first
    | (have h1 : (48 : Int) ≤ r := by omega)
    | skip
    first
    | (have h2 : (r : Int) ≤ 57 := by omega)
    | (have h2 : (57 : Int) < r := by omega)
    first
    | (have h3 : (97 : Int) ≤ r := by omega)
    | (have h3 : (r : Int) < 97 := by omega)
    first
    | (have h4 : (r : Int) ≤ 122 := by omega)
    | (have h4 : (122 : Int) < r := by omega)
    go_enter Tryd.func93, Tryd.ntmps93
    go_wp2
    go_ret
    refine ⟨ret_bool ?_, rfl⟩
    rw [hs.out]
    first | (rw [if_pos (by omega)]) | (rw [if_neg (by omega)])
    try (simp <;> omega)
def wordR (r : Nat) : Bool := hasC [2, 3] r || (r == 45) || (r == 95)
theorem word1_any (r : Nat) (I C g c : Nat) (w : World) (hI : w.cell? ⟨I, 0, none⟩ = some (.func (.func 67) #[] #[.pointer (some ⟨C, 0, none⟩)])) (hC : w.cell? ⟨C, 0, none⟩ = some (.slice (some ⟨g, 0, none⟩) 2 c))
    (h0 : w.cell? ⟨g, 0, none⟩ = some (.int .i64 2)) (h1 : w.cell? ⟨g, 1, none⟩ = some (.int .i64 3)) :
    Calls Tryd.prog 91 #[.int .i32 (r : Int), .pointer (some ⟨I, 0, none⟩)] w fun e w' => e = .returned (.bool (wordR r)) ∧ w = w' := by
  obtain ⟨b, hb⟩ : ∃ b, Hid (hasC [2, 3] r = b) := ⟨_, rfl⟩
  have hcs : Hid (∀ (j : Nat) (x : Int), [2, 3][j]? = some x → w.cell? ⟨g, j, none⟩ = some (.int .i64 x)) := by
    intro j x hx
    rcases j with _ | _ | j
    · simp at hx; subst hx; exact h0
    · simp at hx; subst hx; exact h1
    · simp at hx
  have hc := of1_any r C g 2 c [2, 3] w hC rfl (by omega) hcs.out
  rw [hb.out] at hc
  have hc2 := Lib.hid hc
  have hw : Hid (wordR r = (b || (r == 45) || (r == 95))) := by show wordR r = _; unfold wordR; rw [hb.out]
  clear hcs hC h0 h1 hc
  cases b with
  | true =>
    go_enter Tryd.func91, Tryd.ntmps91
    go_wp2_with (go_at_call 67; refine hc2.out.mono ?_; rintro e w' ⟨rfl, rfl⟩)
    go_ret
    exact ⟨ret_bool (by rw [hw.out]; simp), rfl⟩
  | false =>
    have key : (r = 45) ∨ (r ≠ 45 ∧ r = 95) ∨ (r ≠ 45 ∧ r ≠ 95) := by omega
    rcases key with h | ⟨h, h'⟩ | ⟨h, h'⟩
    · have t1 : ((r : Int) == 45) = true := by simp; omega
      have hw2 : Hid (wordR r = true) := by show _ = _; rw [hw.out, h]; rfl
      clear h
      go_enter Tryd.func91, Tryd.ntmps91
      go_wp2_with (go_at_call 67; refine hc2.out.mono ?_; rintro e w' ⟨rfl, rfl⟩)
      go_ret
      exact ⟨ret_bool (by rw [hw2.out]), rfl⟩
    · have t1 : ((r : Int) == 45) = false := by simp; omega
      have t2 : ((r : Int) == 95) = true := by simp; omega
      have hw2 : Hid (wordR r = true) := by show _ = _; rw [hw.out, h']; rfl
      clear h h'
      go_enter Tryd.func91, Tryd.ntmps91
      go_wp2_with (go_at_call 67; refine hc2.out.mono ?_; rintro e w' ⟨rfl, rfl⟩)
      go_ret
      exact ⟨ret_bool (by rw [hw2.out]), rfl⟩
    · have t1 : ((r : Int) == 45) = false := by simp; omega
      have t2 : ((r : Int) == 95) = false := by simp; omega
      have hw2 : Hid (wordR r = false) := by show _ = _; rw [hw.out]; simp [h, h']
      clear h h'
      go_enter Tryd.func91, Tryd.ntmps91
      go_wp2_with (go_at_call 67; refine hc2.out.mono ?_; rintro e w' ⟨rfl, rfl⟩)
      go_ret
      exact ⟨ret_bool (by rw [hw2.out]), rfl⟩
/-- may a rune stand here in a quoted text? -/
def textR (held : Bool) (r : Nat) : Bool := !(badR r || ((r == 34) && !held))
def heldR (held : Bool) (r : Nat) : Bool := (r == 92) && !held
theorem text1_no (r : Nat) (held : Bool) (I : Nat) (w : World) (hI : w.heap[I]? = some (.cells #[.bool held] 4 (0, 0))) (hx : textR held r = false) :
    Calls Tryd.prog 96 #[.int .i32 (r : Int), .pointer (some ⟨I, 0, none⟩)] w fun e w' => e = .returned (.bool false) ∧ w = w' := by
  have c0 := cell_of_one hI
  obtain ⟨q, hq⟩ : ∃ q, Hid (classV r = q) := ⟨_, rfl⟩
  clear hI
  by_cases hb : q = 0
  · have hb2 : (q == 0) = true := by simpa using hb
    clear hb
    go_enter Tryd.func96, Tryd.ntmps96
    go_wp2_with (go_at_call 68; refine (class_any _ _).mono ?_; rintro e w' ⟨rfl, rfl⟩; rw [hq.out])
    go_ret
    exact ⟨rfl, rfl⟩
  · have hb2 : (q == 0) = false := by simpa using hb
    have hb3 : badR r = false := by unfold badR; rw [hq.out]; exact hb2
    unfold textR at hx
    rw [hb3] at hx
    simp at hx
    obtain ⟨h1, rfl⟩ := hx
    have t1 : ((r : Int) == 34) = true := by simp; omega
    clear h1 hb hb3
    go_enter Tryd.func96, Tryd.ntmps96
    go_wp2_with (go_at_call 68; refine (class_any _ _).mono ?_; rintro e w' ⟨rfl, rfl⟩; rw [hq.out])
    go_ret
    exact ⟨rfl, rfl⟩
theorem text1_yes (r : Nat) (held : Bool) (I : Nat) (w : World) (hI : w.heap[I]? = some (.cells #[.bool held] 4 (0, 0))) (hx : textR held r = true) :
    Calls Tryd.prog 96 #[.int .i32 (r : Int), .pointer (some ⟨I, 0, none⟩)] w fun e w' => e = .returned (.bool true) ∧ w' = w.setCell ⟨I, 0, none⟩ (.bool (heldR held r)) := by
  have c0 := cell_of_one hI
  have f0 := free_of_one hI
  obtain ⟨q, hq⟩ : ∃ q, Hid (classV r = q) := ⟨_, rfl⟩
  clear hI
  unfold textR at hx
  simp at hx
  obtain ⟨hb, hx⟩ := hx
  have hb2 : (q == 0) = false := by rw [← hq.out]; exact hb
  clear hb
  have HH : Hid (heldR held r = ((r == 92) && !held)) := rfl
  by_cases h34 : r = 34
  · have t1 : ((r : Int) == 34) = true := by simp; omega
    have t2 : ((r : Int) == 92) = false := by simp; omega
    have hh : held = true := hx.resolve_left (fun h => h h34)
    subst hh
    have HH2 : Hid (heldR true r = false) := by show _ = _; rw [HH.out]; simp
    clear hx h34
    go_enter Tryd.func96, Tryd.ntmps96
    go_wp2_with (go_at_call 68; refine (class_any _ _).mono ?_; rintro e w' ⟨rfl, rfl⟩; rw [hq.out])
    go_ret
    exact ⟨rfl, by rw [HH2.out]⟩
  · have t1 : ((r : Int) == 34) = false := by simp; omega
    by_cases h92 : r = 92
    · have t2 : ((r : Int) == 92) = true := by simp; omega
      have HH2 : Hid (heldR held r = !held) := by show _ = _; rw [HH.out, h92]; rfl
      clear hx h34 h92
      cases held
      all_goals
        go_enter Tryd.func96, Tryd.ntmps96
        go_wp2_with (go_at_call 68; refine (class_any _ _).mono ?_; rintro e w' ⟨rfl, rfl⟩; rw [hq.out])
        go_ret
        exact ⟨rfl, by rw [HH2.out]; rfl⟩
    · have t2 : ((r : Int) == 92) = false := by simp; omega
      have HH2 : Hid (heldR held r = false) := by show _ = _; rw [HH.out]; simp [h92]
      clear hx h34 h92
      go_enter Tryd.func96, Tryd.ntmps96
      go_wp2_with (go_at_call 68; refine (class_any _ _).mono ?_; rintro e w' ⟨rfl, rfl⟩; rw [hq.out])
      go_ret
      exact ⟨rfl, by rw [HH2.out]⟩
end Go.Proofs.YtenonfoocjcdmaaDoor
