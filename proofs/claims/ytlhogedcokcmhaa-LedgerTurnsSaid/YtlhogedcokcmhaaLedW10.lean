/- Contracts of layer 17: Used, Share, Same. -/
import Derived.Test.YtlhogedcokcmhaaLedW9
namespace Go.Proofs.Ytlhogedcokcmhaa
set_option linter.unusedVariables false
open Go.RowKit
theorem beq_str {a b : ByteArray} : (a.toList == b.toList) = decide (a = b) := by
  rw [Bool.eq_iff_iff]; simp; exact ⟨tl_inj, fun h => by rw [h]⟩
theorem share1_any (u : U) (user : ByteArray) (g : Nat) (w : World) (hc : w.cell? ⟨g, 0, none⟩ = some (.string user)) :
    Calls Try.prog 35 #[uv u, .pointer (some ⟨g, 0, none⟩)] w fun e w' => e = .returned (.int .i64 (shareF user u)) ∧ Below w.heap.size w w' := by
  have hg := cell_lt hc
  by_cases h : u.user = user
  · have h1 : (u.user.toList == user.toList) = true := by rw [beq_str]; simpa using h
    have HE : Hid (shareF user u = u.share) := by show _ = _; unfold shareF; rw [if_pos h]
    clear h
    go_enter Try.func35, Try.ntmps35
    go_wp2
    go_ret
    exact ⟨ret_int HE.out.symm, (Below.refl _ _).alloc (Nat.le_refl _) _⟩
  · have h1 : (u.user.toList == user.toList) = false := by rw [beq_str]; simpa using h
    have HE : Hid (shareF user u = 0) := by show _ = _; unfold shareF; rw [if_neg h]
    clear h
    go_enter Try.func35, Try.ntmps35
    go_wp2
    go_ret
    exact ⟨ret_int HE.out.symm, (Below.refl _ _).alloc (Nat.le_refl _) _⟩
theorem used1_any (u : U) (user acct : ByteArray) (g k : Nat) (w : World) (hc : w.cell? ⟨g, 0, none⟩ = some (.string user)) (hk : w.cell? ⟨k, 0, none⟩ = some (.string acct)) :
    Calls Try.prog 34 #[uv u, .pointer (some ⟨g, 0, none⟩), .pointer (some ⟨k, 0, none⟩)] w fun e w' => e = .returned (.int .i64 (usedF user acct u)) ∧ Below w.heap.size w w' := by
  have hg := cell_lt hc
  have hg2 := cell_lt hk
  by_cases h : u.user = user
  · subst h
    by_cases h2 : u.acct = acct
    · subst h2
      have HE : Hid (usedF u.user u.acct u = u.used) := by show _ = _; unfold usedF; simp
      go_enter Try.func34, Try.ntmps34
      go_wp2
      go_ret
      exact ⟨ret_int HE.out.symm, (Below.refl _ _).alloc (Nat.le_refl _) _⟩
    · have h1 : (u.acct.toList == acct.toList) = false := by rw [beq_str]; simpa using h2
      have HE : Hid (usedF u.user acct u = 0) := by show _ = _; unfold usedF; simp [h2]
      clear h2
      go_enter Try.func34, Try.ntmps34
      go_wp2
      go_ret
      exact ⟨ret_int HE.out.symm, (Below.refl _ _).alloc (Nat.le_refl _) _⟩
  · have h1 : (u.user.toList == user.toList) = false := by rw [beq_str]; simpa using h
    have HE : Hid (usedF user acct u = 0) := by show _ = _; unfold usedF; simp [h]
    clear h
    go_enter Try.func34, Try.ntmps34
    go_wp2
    go_ret
    exact ⟨ret_int HE.out.symm, (Below.refl _ _).alloc (Nat.le_refl _) _⟩
theorem share_any (A : Option Addr) (n c B : Nat) (l : List U) (user : ByteArray) (w : World) (hn : n ≤ maxLen) (hr : Reads w B 4 A n (recs ucells l)) (hB : B ≤ w.heap.size) :
    Calls Try.prog 18 #[.slice A n c, .string user] w fun e w' => e = .returned (.int .i64 (togV l (shareF user))) ∧ Below w.heap.size w w' := by
  have hr1 := hr.alloc hB (.cells #[.string user] 9)
  go_enter Try.func18, Try.ntmps18
  go_wp2_with (go_at_call 31; refine (together_any A n c B l _ 35 #[.pointer (some ⟨w.heap.size, 0, none⟩)] (shareF user) (fun _ _ => by kernel_rfl) (fun W u hb => share1_any u user w.heap.size W (by rw [hb.cell (by simp)]; simp [go_sem])) hn hr1 (by simp; omega)).mono ?_; rintro e w' ⟨rfl, hb⟩)
  go_ret
  exact ⟨rfl, ((Below.refl w.heap.size w).alloc (Nat.le_refl _) _).trans (hb.mono (by simp))⟩
theorem used_any (A : Option Addr) (n c B : Nat) (l : List U) (user acct : ByteArray) (w : World) (hn : n ≤ maxLen) (hr : Reads w B 4 A n (recs ucells l)) (hB : B ≤ w.heap.size) :
    Calls Try.prog 17 #[.slice A n c, .string user, .string acct] w fun e w' => e = .returned (.int .i64 (togV l (usedF user acct))) ∧ Below w.heap.size w w' := by
  have hr1 := (hr.alloc hB (.cells #[.string user] 9)).alloc (by simp; omega) (.cells #[.string acct] 9)
  go_enter Try.func17, Try.ntmps17
  go_wp2_with (go_at_call 31; refine (together_any A n c B l _ 34 #[.pointer (some ⟨w.heap.size, 0, none⟩), .pointer (some ⟨w.heap.size + 1, 0, none⟩)] (usedF user acct) (fun _ _ => by kernel_rfl) (fun W u hb => used1_any u user acct w.heap.size (w.heap.size + 1) W (by rw [hb.cell (by simp; omega)]; simp [go_sem]) (by rw [hb.cell (by simp)]; simp [go_sem])) hn hr1 (by simp; omega)).mono ?_; rintro e w' ⟨rfl, hb⟩)
  go_ret
  exact ⟨rfl, (((Below.refl w.heap.size w).alloc (Nat.le_refl _) _).alloc (by simp) _).trans (hb.mono (by simp; omega))⟩
end Go.Proofs.Ytlhogedcokcmhaa
