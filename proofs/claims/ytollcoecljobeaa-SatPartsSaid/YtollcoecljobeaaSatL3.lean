/- The statement SatParts of layer 1, walked. -/
import Derived.Test.YtollcoecljobeaaSatL
import Derived.Test.YtollcoecljobeaaApp
namespace Go.Proofs.Ytollcoecljobeaa
set_option linter.unusedVariables false
open Go.RowKit

theorem tot_perm (E : Int) (a b : List Int) (n : Int) : tot E (b ++ a ++ [n]) = tot E (a ++ [n] ++ b) := by
  simp only [tot_append]; omega
theorem addV_perm (E : Int) (a b : List Int) (n : Int) : addV E (b ++ a ++ [n]) = addV E (a ++ [n] ++ b) := by
  unfold addV; rw [tot_perm]
theorem fitsV_perm (E : Int) (a b : List Int) (n : Int) : fitsV E (b ++ a ++ [n]) = fitsV E (a ++ [n] ++ b) := by
  unfold fitsV; rw [tot_perm]
theorem clamp_addV {E : Int} (hE : 0 ≤ E) (l : List Int) : clamp (addV E l) 0 E = addV E l := by
  have := addV_bd E hE l
  exact clamp_in (by omega) (by omega)
theorem addV_parts {E : Int} (hE : 0 ≤ E) (a b : List Int) (n : Int) : addV E [addV E a, n, addV E b] = addV E (a ++ [n] ++ b) := by
  have ha := tot_nonneg E hE a
  have hb := tot_nonneg E hE b
  have hn := clamp_bd n hE
  have e1 : tot E [addV E a, n, addV E b] = addV E a + clamp n 0 E + addV E b := by simp only [tot, clamp_addV hE]; omega
  have e2 : tot E (a ++ [n] ++ b) = tot E a + clamp n 0 E + tot E b := by simp only [tot_append, tot]; omega
  have e3 : ∀ l, addV E l = if tot E l ≤ E then tot E l else E := fun l => rfl
  rw [e3, e3 (a ++ [n] ++ b), e1, e2, e3 a, e3 b]
  split <;> split <;> (try split) <;> (try split) <;> omega
theorem addV_parts2 {E : Int} (hE : 0 ≤ E) (a b : List Int) (n : Int) : addV E [addV E a, addV E [n, addV E b]] = addV E (a ++ [n] ++ b) := by
  have ha := tot_nonneg E hE a
  have hb := tot_nonneg E hE b
  have hn := clamp_bd n hE
  have e1 : tot E [addV E a, addV E [n, addV E b]] = addV E a + addV E [n, addV E b] := by simp only [tot, clamp_addV hE]; omega
  have e4 : tot E [n, addV E b] = clamp n 0 E + addV E b := by simp only [tot, clamp_addV hE]; omega
  have e2 : tot E (a ++ [n] ++ b) = tot E a + clamp n 0 E + tot E b := by simp only [tot_append, tot]; omega
  have e3 : ∀ l, addV E l = if tot E l ≤ E then tot E l else E := fun l => rfl
  rw [e3, e3 (a ++ [n] ++ b), e1, e2, e3 [n, addV E b], e4, e3 a, e3 b]
  split <;> split <;> (try split) <;> (try split) <;> (try split) <;> (try split) <;> omega

set_option maxHeartbeats 1000000 in
theorem satParts_walk (A B : Option Addr) (n m c d : Nat) (xs ys : List Int) (z : Int) (w : World) (ha : Reads w w.heap.size 1 A n (ints xs)) (hb : Reads w w.heap.size 1 B m (ints ys)) (hn : n ≤ maxLen) (hm : m ≤ maxLen) :
    Calls Try.prog 5 #[.slice A n c, .slice B m d, .int .i64 z] w fun e w' => e = .returned (.bool true) ∧ Below w.heap.size w w' := by
  by_cases hl : 10000 < n
  · go_enter Try.func5, Try.ntmps5
    go_wp2_with (go_at_call 7; refine (awake_any _).mono ?_; rintro e w' ⟨rfl, hb⟩)
    go_ret
    exact ⟨rfl, hb⟩
  by_cases hl2 : 10000 < m
  · go_enter Try.func5, Try.ntmps5
    go_wp2_with (go_at_call 7; refine (awake_any _).mono ?_; rintro e w' ⟨rfl, hb⟩)
    go_ret
    exact ⟨rfl, hb⟩
  obtain ⟨L, HL⟩ : ∃ L, Hid (xs ++ [z] ++ ys = L) := ⟨_, rfl⟩
  obtain ⟨M, HM⟩ : ∃ M, Hid (ys ++ xs ++ [z] = M) := ⟨_, rfl⟩
  have e1 : (addV 1000000 L != addV 1000000 M) = false := by rw [← HL.out, ← HM.out, addV_perm]; simp
  have e2 : (addV 1000000000000 L != addV 1000000000000 M) = false := by rw [← HL.out, ← HM.out, addV_perm]; simp
  have e3 : fitsV 1000000 M = fitsV 1000000 L := by rw [← HL.out, ← HM.out, fitsV_perm]
  have e4 : (addV 1000000 L == addV 1000000 [addV 1000000 xs, z, addV 1000000 ys]) = true := by rw [addV_parts (by omega), HL.out]; simp
  have e5 : (addV 1000000000000 L == addV 1000000000000 [addV 1000000000000 xs, addV 1000000000000 [z, addV 1000000000000 ys]]) = true := by rw [addV_parts2 (by omega), HL.out]; simp
  go_enter Try.func5, Try.ntmps5
  go_wp2_with (first
    | (at_builtin
       refine wp_app_ints (.tmp 18) (.tmp 19) rfl rfl w.heap.size (.slice none 0 0) 0 [] rfl own_nil _ A n c xs rfl ha (by omega) (Nat.le_refl _) ?_
       intro v1 w1 hown1 hg1 hat1
       have hb1 := below_app (Below.refl w.heap.size w) (Nat.le_refl _) (Nat.le_refl _) (own_nil (e := 0) (size := 1)) hg1
       have hz1 := hb1.size)
    | (at_builtin
       refine wp_app_ints (.tmp 20) (.tmp 22) rfl rfl w.heap.size v1 (0 + n) ([] ++ xs) rfl (hown1.alloc _) _ (some ⟨w1.heap.size, 0, none⟩) 1 1 [z] rfl (Reads.made w1 (ints [z]) 3) (by omega) (by simp; omega) ?_
       intro v2 w2 hown2 hg2 hat2
       have hb2 := below_app (hb1.alloc hz1 _) (Nat.le_refl _) (by simp; omega) (hown1.alloc _) hg2
       have hz2 := hb2.size)
    | (at_builtin
       refine wp_app_ints (.tmp 23) (.tmp 24) rfl rfl w.heap.size v2 (0 + n + 1) ([] ++ xs ++ [z]) rfl hown2 _ B m d ys rfl (hb.below hb2) (by omega) hz2 ?_
       intro v3 w3 hown3 hg3 hat3
       have hb3 := below_app hb2 (Nat.le_refl _) hz2 hown2 hg3
       have hz3 := hb3.size)
    | (at_builtin
       refine wp_app_ints (.tmp 26) (.tmp 27) rfl rfl w3.heap.size (.slice none 0 0) 0 [] rfl own_nil _ B m d ys rfl (hb.below hb3) (by omega) (Nat.le_refl _) ?_
       intro v4 w4 hown4 hg4 hat4
       have hb4 := below_app (Below.refl w3.heap.size w3) (Nat.le_refl _) (Nat.le_refl _) (own_nil (e := 0) (size := 1)) hg4
       have hz4 := hb4.size)
    | (at_builtin
       refine wp_app_ints (.tmp 28) (.tmp 29) rfl rfl w3.heap.size v4 (0 + m) ([] ++ ys) rfl hown4 _ A n c xs rfl ((ha.below hb3).below (hb4.mono hz3)) (by omega) hz4 ?_
       intro v5 w5 hown5 hg5 hat5
       have hb5 := below_app hb4 (Nat.le_refl _) hz4 hown4 hg5
       have hz5 := hb5.size)
    | (at_builtin
       refine wp_app_ints (.tmp 30) (.tmp 32) rfl rfl w3.heap.size v5 (0 + m + n) ([] ++ ys ++ xs) rfl (hown5.alloc _) _ (some ⟨w5.heap.size, 0, none⟩) 1 1 [z] rfl (Reads.made w5 (ints [z]) 3) (by omega) (by simp; omega) ?_
       intro v6 w6 hown6 hg6 hat6
       have hb6 := below_app (hb5.alloc hz5 _) (Nat.le_refl _) (by simp; omega) (hown5.alloc _) hg6
       have hz6 := hb6.size
       obtain ⟨A3, c3, x3, _⟩ := own_slice hown3
       obtain ⟨A6, c6, x6, _⟩ := own_slice hown6
       rw [x3, x6]
       rw [x3] at hown3
       rw [x6] at hown6
       have hr3 := (Reads.of_own hown3).below hb6
       have hr6 := Reads.of_own hown6
       simp only [Nat.zero_add, List.nil_append, HL.out, HM.out] at hr3 hr6
       clear x3 x6 hown1 hown2 hown3 hown4 hown5 hown6 hg1 hg2 hg3 hg4 hg5 hg6 hat1 hat2 hat3 hat4 hat5 hat6))
  have ha6 := (ha.below hb3).below (hb6.mono hz3)
  have hb6' := (hb.below hb3).below (hb6.mono hz3)
  have hbw := hb3.trans (hb6.mono hz3)
  have m1 : n + 1 + m ≤ maxLen := by unfold maxLen; omega
  have m2 : m + n + 1 ≤ maxLen := by unfold maxLen; omega
  clear ha hb HL HM hb1 hb2 hb4 hb5
  refine (add_any _ _ _ _ L _ m1 hr3).mono ?_; rintro e w' ⟨rfl, rfl⟩
  go_wp2_with fail
  refine (add_any _ _ _ _ M _ m2 hr6).mono ?_; rintro e w' ⟨rfl, rfl⟩
  go_wp2_with fail
  refine (plus_any _ _ _ _ L _ m1 hr3).mono ?_; rintro e w' ⟨rfl, rfl⟩
  go_wp2_with fail
  refine (plus_any _ _ _ _ M _ m2 hr6).mono ?_; rintro e w' ⟨rfl, rfl⟩
  go_wp2_with fail
  refine (over_any _ _ _ _ L _ m1 hr3).mono ?_; rintro e w' ⟨rfl, rfl⟩
  go_wp2_with fail
  refine (over_any _ _ _ _ M _ m2 hr6).mono ?_; rintro e w' ⟨rfl, rfl⟩
  go_wp2_with fail
  refine (add_any _ _ _ _ L _ m1 hr3).mono ?_; rintro e w' ⟨rfl, rfl⟩
  go_wp2_with fail
  refine (add_any _ _ _ _ xs _ hn ha6).mono ?_; rintro e w' ⟨rfl, rfl⟩
  go_wp2_with fail
  refine (add_any _ _ _ _ ys _ hm hb6').mono ?_; rintro e w' ⟨rfl, rfl⟩
  go_wp2_with fail
  refine (add_three _ _ _ _ _ (by simp)).mono ?_; rintro e w' ⟨rfl, rfl⟩
  go_wp2_with fail
  refine (plus_any _ _ _ _ L _ m1 (hr3.alloc (by omega) _)).mono ?_; rintro e w' ⟨rfl, rfl⟩
  go_wp2_with fail
  refine (plus_any _ _ _ _ xs _ hn (ha6.alloc (by omega) _)).mono ?_; rintro e w' ⟨rfl, rfl⟩
  go_wp2_with fail
  refine (plus_any _ _ _ _ ys _ hm (hb6'.alloc (by omega) _)).mono ?_; rintro e w' ⟨rfl, rfl⟩
  go_wp2_with fail
  refine (plus_two _ _ _ _ (by simp)).mono ?_; rintro e w' ⟨rfl, rfl⟩
  go_wp2_with fail
  refine (plus_two _ _ _ _ (by simp)).mono ?_; rintro e w' ⟨rfl, rfl⟩
  go_wp2_with fail
  refine (awake_any _).mono ?_; rintro e w' ⟨rfl, hlast⟩
  go_wp2_with fail
  go_ret
  exact ⟨rfl, (((hbw.alloc (by omega) _).alloc (by simp; omega) _).alloc (by simp; omega) _).trans (hlast.mono (by simp; omega))⟩
end Go.Proofs.Ytollcoecljobeaa
