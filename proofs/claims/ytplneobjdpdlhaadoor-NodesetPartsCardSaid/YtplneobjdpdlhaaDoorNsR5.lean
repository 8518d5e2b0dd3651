/- Layer 9: the reference's Show walked. -/
import Derived.Test.YtplneobjdpdlhaaDoorNsR4
namespace Go.Proofs.YtplneobjdpdlhaaDoor
set_option linter.unusedVariables false
open Go.RowKit
theorem dash_len : ({ data := #[45] } : ByteArray).size = 1 := rfl
theorem comma_len : ({ data := #[44] } : ByteArray).size = 1 := rfl
theorem done_E {l : List Nat} {i k a : Nat} {D S1 S2 : ByteArray} (h : Done l i D) (hr : RunTo l i k a) (hx : l[k + 1]? ≠ some (a + (k - i) + 1)) (hik : i ≤ k)
    (h1 : S1.data.toList = Lib.decDigits a) (h2 : S2.data.toList = Lib.decDigits (a + (k - i))) :
    Done l (k + 1) (if i < k then (((if 0 < i then D ++ ({ data := #[44] } : ByteArray) else D) ++ S1) ++ ({ data := #[45] } : ByteArray)) ++ S2 else (if 0 < i then D ++ ({ data := #[44] } : ByteArray) else D) ++ S1) := by
  refine done_next h hr hx hik ?_
  unfold segT
  by_cases ha : i < k
  · rw [if_pos ha, if_pos (show (a, a + (k - i)).1 < (a, a + (k - i)).2 by show a < a + (k - i); omega)]
    by_cases hi : 0 < i
    · rw [if_pos hi, if_pos hi]; simp [h1, h2]
    · rw [if_neg hi, if_neg hi]; simp [h1, h2]
  · rw [if_neg ha, if_neg (show ¬ (a, a + (k - i)).1 < (a, a + (k - i)).2 by show ¬ a < a + (k - i); omega)]
    by_cases hi : 0 < i
    · rw [if_pos hi, if_pos hi]; simp [h1]
    · rw [if_neg hi, if_neg hi]; simp [h1]
theorem cat_le {A B : ByteArray} {m n : Nat} (h1 : A.size ≤ m) (h2 : B.size ≤ n) : (A ++ B).size ≤ m + n := by rw [ByteArray.size_append]; omega
set_option maxHeartbeats 4000000 in
set_option maxRecDepth 100000 in
theorem rshow_any (s : Nat) (w : World) (hs : s < M64) :
    Calls Tryd.prog 26 #[.int .u64 s] w fun e w' => e = .returned (.string ⟨(showN s).toArray⟩) ∧ Below w.heap.size w w' := by
  have hc := Lib.hid (fun v => rlist_any s v hs)
  have hl64 := memL_len s
  have hl0 := memL_nil hs
  have hlt : ∀ i ∈ memL s, i < 64 := fun i hi => (mem_memL.1 hi).1
  have HSh : Hid (showN s = if s = 0 then [45] else Lib.join ((runsL (memL s)).map segT) [44]) := rfl
  obtain ⟨R, hR⟩ : ∃ R, Hid (showN s = R) := ⟨_, rfl⟩
  rw [hR.out] at HSh ⊢
  obtain ⟨l, hl⟩ : ∃ l, Hid (memL s = l) := ⟨_, rfl⟩
  rw [hl.out] at hc hl64 hl0 hlt HSh
  obtain ⟨n, hn⟩ : ∃ n, Hid (l.length = n) := ⟨_, rfl⟩
  rw [hn.out] at hl64
  have HLT := Lib.hid hlt
  clear hlt
  by_cases h0 : n = 0
  · have hR2 : Hid (R = [45]) := by
      have e : l = [] := List.length_eq_zero_iff.1 (by rw [hn.out]; exact h0)
      show _ = _
      rw [HSh.out, if_pos (hl0.1 e)]
    have t0 : ((n : Int) == 0) = true := by simp [h0]
    have t0' : (n == 0) = true := by simp [h0]
    clear h0 hl0
    go_enter Tryd.func26, Tryd.ntmps26
    go_wp2_with (go_at_call 11; refine (hc.out _).mono ?_; rintro e w1 ⟨v, rfl, hown, hb1⟩; rw [hn.out] at hown; obtain ⟨A, cc, rfl, hcap, -⟩ := hown.slice)
    go_ret
    exact ⟨by rw [hR2.out]; rfl, hb1⟩
  have hR2 : Hid (R = Lib.join ((runsL l).map segT) [44]) := by
    show _ = _
    rw [HSh.out, if_neg (fun e => h0 ?_)]
    rw [← hn.out, hl0.2 e]; rfl
  have t0 : ((n : Int) == 0) = false := by simp [h0]
  have t0' : (n == 0) = false := by simp [h0]
  clear hl0 HSh
  have H0 := Lib.hid h0
  clear h0
  go_enter Tryd.func26, Tryd.ntmps26
  go_wp2_with (go_at_call 11; refine (hc.out _).mono ?_; rintro e w1 ⟨v, rfl, hown, hb1⟩; rw [hn.out] at hown; obtain ⟨A, cc, rfl, hcap, -⟩ := hown.slice)
  have hrd := hown.reads
  obtain ⟨b, o, rfl, hbb, _⟩ := hrd.plain (by have := H0.out; omega) (by omega)
  have HM := Lib.hid (fun k hk => mem_at (k := k) hrd hk)
  clear hown hrd t0 t0'
  have hz1 := hb1.size
  go_loopw [4, 5, 6] (fun x i _ wr => ∃ (j : Nat) (D : ByteArray), x = .string D ∧ i = .int .i64 j ∧ j ≤ n ∧ Hid (Done l j D) ∧ D.size ≤ 6 * j ∧ Below w1.heap.size w1 wr) (fun _ i _ _ => n - (intOf i).toNat)
  case atStart => exact ⟨0, ⟨#[]⟩, rfl, rfl, Nat.zero_le _, ⟨[], by simp, rfl, by simp, by simp⟩, Nat.le_refl _, Below.refl _ _⟩
  case round =>
    obtain ⟨i, D, rfl, rfl, hi, HD, hDs, hbr⟩ := hrel
    have hzr := hbr.size
    by_cases hin : i < n
    · have t1 : decide ((i : Int) < (n : Int)) = true := by simp; omega
      obtain ⟨a, ha, _, _⟩ := HM.out i hin
      have ha64 := HLT.out a (List.mem_of_getElem? ha)
      have HA := Lib.hid ha
      clear ha
      go_wp2
      go_loopw [6] (fun x w2 => ∃ (k m : Nat), x = .int .i64 k ∧ i ≤ k ∧ k < n ∧ w2 = wr.drewN m ∧ Hid (RunTo l i k a)) (fun x _ => n - (intOf x).toNat)
      case atStart => exact ⟨i, 0, rfl, Nat.le_refl _, hin, rfl, runTo_start HA.out⟩
      case round =>
        obtain ⟨k, m, rfl, hik, hkn, rfl, HK⟩ := hrel
        obtain ⟨xk, hxk, _, ck⟩ := HM.out k hkn
        have hke : xk = a + (k - i) := by
          have e := runTo_at hik HK.out
          rw [hxk] at e; exact Option.some.inj e
        have hxk64 := HLT.out xk (List.mem_of_getElem? hxk)
        have c0 : wr.cell? ⟨b, o + k, none⟩ = some (.int .i64 (xk : Int)) := by rw [(bcell hbr).1 _ _ hbb]; exact ck
        obtain ⟨ya, hya, _, cy⟩ := HM.out i hin
        obtain rfl : ya = a := by rw [HA.out] at hya; exact (Option.some.inj hya).symm
        have c2 : wr.cell? ⟨b, o + i, none⟩ = some (.int .i64 (ya : Int)) := by rw [(bcell hbr).1 _ _ hbb]; exact cy
        have hj0 : (0 : Int) ≤ (k : Int) := by omega
        have hj1 : (k : Int) < (n : Int) := by omega
        have hj2 : (0 : Int) ≤ (i : Int) := by omega
        have hj3 : (i : Int) < (n : Int) := by omega
        clear hya cy ck
        by_cases hgo : l[k + 1]? = some (xk + 1)
        · have hk1 : k + 1 < n := by
            obtain ⟨h1, _⟩ := List.getElem?_eq_some_iff.1 hgo
            rw [hn.out] at h1; exact h1
          obtain ⟨x1, hx1, _, cx⟩ := HM.out (k + 1) hk1
          obtain rfl : x1 = xk + 1 := by rw [hgo] at hx1; exact (Option.some.inj hx1).symm
          have c1 : wr.cell? ⟨b, o + (k + 1), none⟩ = some (.int .i64 ((xk : Int) + 1)) := by rw [(bcell hbr).1 _ _ hbb, cx]; simp
          have t2 : decide ((k : Int) + 1 < (n : Int)) = true := by simp; omega
          have hj4 : (0 : Int) ≤ (k : Int) + 1 := by omega
          have hj5 : (k : Int) + 1 < (n : Int) := by omega
          have t3 : ((xk : Int) + 1 == (xk : Int) + 1) = true := by simp
          have HK2 : Hid (RunTo l i (k + 1) ya) := runTo_step hik HK.out (by rw [hgo, hke])
          clear hgo cx hx1 hke hxk c2
          go_wp2
          go_quiet (fail)
          go_wp2
          go_roundw
          case rel => exact ⟨k + 1, _, by simp, by omega, hk1, by first | rfl | exact World.drewN_drewN _ _ _, HK2⟩
          case measure => simp [intOf]; omega
        · have HG : Hid (¬ (l[k + 1]? = some (xk + 1))) := hgo
          have hb9 : b < wr.heap.size := by omega
          obtain ⟨S1, hS1⟩ : ∃ S : ByteArray, Hid ((⟨(Lib.decDigits ya).toArray⟩ : ByteArray) = S) := ⟨_, rfl⟩
          obtain ⟨S2, hS2⟩ : ∃ S : ByteArray, Hid ((⟨(Lib.decDigits xk).toArray⟩ : ByteArray) = S) := ⟨_, rfl⟩
          have z1 : S1.size ≤ 2 := by rw [← hS1.out]; have := decDigits_len (n := ya) (by omega); simpa [ByteArray.size] using this
          have z2 : S2.size ≤ 2 := by rw [← hS2.out]; have := decDigits_len (n := xk) (by omega); simpa [ByteArray.size] using this
          have q1 := Lib.hid (fun v => digits9_any ya v (by omega))
          have q2 := Lib.hid (fun v => digits9_any xk v (by omega))
          rw [hS1.out] at q1
          rw [hS2.out] at q2
          have he := done_E (S1 := S1) (S2 := S2) HD.out HK.out (by rw [← hke]; exact hgo) hik (by rw [← hS1.out]) (by rw [← hS2.out, ← hke])
          have zD : D.size ≤ 6 * i := hDs
          clear hke hgo hxk
          by_cases h1 : 0 < i <;> by_cases h2 : i < k
          · have t5 : decide ((0 : Int) < (i : Int)) = true := by simp; omega
            have t5' : decide (0 < i) = true := by simp; omega
            have t6 : decide ((i : Int) < (k : Int)) = true := by simp; omega
            have t6' : decide (i < k) = true := by simp; omega
            rw [if_pos h1, if_pos h2] at he
            have zA := cat_le zD (show ({ data := #[44] } : ByteArray).size ≤ 1 from Nat.le_refl _)
            have zB := cat_le zA z1
            have zC := cat_le zB (show ({ data := #[45] } : ByteArray).size ≤ 1 from Nat.le_refl _)
            have zE := cat_le zC z2
            have HE := Lib.hid he
            clear he h1 h2
            by_cases hk1 : k + 1 < n
            case' pos =>
              obtain ⟨x1, hx1, _, cx⟩ := HM.out (k + 1) hk1
              have c1 : wr.cell? ⟨b, o + (k + 1), none⟩ = some (.int .i64 (x1 : Int)) := by rw [(bcell hbr).1 _ _ hbb]; exact cx
              have t2 : decide ((k : Int) + 1 < (n : Int)) = true := by simp; omega
              have hj4 : (0 : Int) ≤ (k : Int) + 1 := by omega
              have hj5 : (k : Int) + 1 < (n : Int) := by omega
              have t3 : ((x1 : Int) == (xk : Int) + 1) = false := by
                refine beq_eq_false_iff_ne.2 (fun e => HG.out ?_)
                rw [hx1]; congr 1; omega
              clear cx hx1
            case' neg =>
              have t2 : decide ((k : Int) + 1 < (n : Int)) = false := by simp; omega
            all_goals
              go_wp2_with (fail)
              try (go_quiet (fail); go_wp2_with (fail))
              refine (q1.out _).mono ?_; rintro e w5 ⟨rfl, hw5⟩
              have hB5 : Below wr.heap.size wr w5 := bt (below_drewN (Below.refl _ _) _) hw5
              have c5 : w5.cell? ⟨b, o + k, none⟩ = some (.int .i64 (xk : Int)) := by rw [(bcell hB5).1 _ _ hb9]; exact c0
              clear hw5
              go_wp2_with (fail)
              refine (q2.out _).mono ?_; rintro e w6 ⟨rfl, hw6⟩
              go_wp2
              go_roundw
              case rel => exact ⟨k + 1, _, rfl, by simp, by omega, HE, by omega, bt hbr (bt hB5 hw6)⟩
              case measure => simp [intOf]; omega
          · have t5 : decide ((0 : Int) < (i : Int)) = true := by simp; omega
            have t5' : decide (0 < i) = true := by simp; omega
            have t6 : decide ((i : Int) < (k : Int)) = false := by simp; omega
            have t6' : decide (i < k) = false := by simp; omega
            rw [if_pos h1, if_neg h2] at he
            have zA := cat_le zD (show ({ data := #[44] } : ByteArray).size ≤ 1 from Nat.le_refl _)
            have zB := cat_le zA z1
            have HE := Lib.hid he
            clear he h1 h2
            by_cases hk1 : k + 1 < n
            case' pos =>
              obtain ⟨x1, hx1, _, cx⟩ := HM.out (k + 1) hk1
              have c1 : wr.cell? ⟨b, o + (k + 1), none⟩ = some (.int .i64 (x1 : Int)) := by rw [(bcell hbr).1 _ _ hbb]; exact cx
              have t2 : decide ((k : Int) + 1 < (n : Int)) = true := by simp; omega
              have hj4 : (0 : Int) ≤ (k : Int) + 1 := by omega
              have hj5 : (k : Int) + 1 < (n : Int) := by omega
              have t3 : ((x1 : Int) == (xk : Int) + 1) = false := by
                refine beq_eq_false_iff_ne.2 (fun e => HG.out ?_)
                rw [hx1]; congr 1; omega
              clear cx hx1
            case' neg =>
              have t2 : decide ((k : Int) + 1 < (n : Int)) = false := by simp; omega
            all_goals
              go_wp2_with (fail)
              try (go_quiet (fail); go_wp2_with (fail))
              refine (q1.out _).mono ?_; rintro e w5 ⟨rfl, hw5⟩
              have hB5 : Below wr.heap.size wr w5 := bt (below_drewN (Below.refl _ _) _) hw5
              have c5 : w5.cell? ⟨b, o + k, none⟩ = some (.int .i64 (xk : Int)) := by rw [(bcell hB5).1 _ _ hb9]; exact c0
              clear hw5
              go_wp2
              go_roundw
              case rel => exact ⟨k + 1, _, rfl, by simp, by omega, HE, by omega, bt hbr hB5⟩
              case measure => simp [intOf]; omega
          · have t5 : decide ((0 : Int) < (i : Int)) = false := by simp; omega
            have t5' : decide (0 < i) = false := by simp; omega
            have t6 : decide ((i : Int) < (k : Int)) = true := by simp; omega
            have t6' : decide (i < k) = true := by simp; omega
            rw [if_neg h1, if_pos h2] at he
            have zB := cat_le zD z1
            have zC := cat_le zB (show ({ data := #[45] } : ByteArray).size ≤ 1 from Nat.le_refl _)
            have zE := cat_le zC z2
            have HE := Lib.hid he
            clear he h1 h2
            by_cases hk1 : k + 1 < n
            case' pos =>
              obtain ⟨x1, hx1, _, cx⟩ := HM.out (k + 1) hk1
              have c1 : wr.cell? ⟨b, o + (k + 1), none⟩ = some (.int .i64 (x1 : Int)) := by rw [(bcell hbr).1 _ _ hbb]; exact cx
              have t2 : decide ((k : Int) + 1 < (n : Int)) = true := by simp; omega
              have hj4 : (0 : Int) ≤ (k : Int) + 1 := by omega
              have hj5 : (k : Int) + 1 < (n : Int) := by omega
              have t3 : ((x1 : Int) == (xk : Int) + 1) = false := by
                refine beq_eq_false_iff_ne.2 (fun e => HG.out ?_)
                rw [hx1]; congr 1; omega
              clear cx hx1
            case' neg =>
              have t2 : decide ((k : Int) + 1 < (n : Int)) = false := by simp; omega
            all_goals
              go_wp2_with (fail)
              try (go_quiet (fail); go_wp2_with (fail))
              refine (q1.out _).mono ?_; rintro e w5 ⟨rfl, hw5⟩
              have hB5 : Below wr.heap.size wr w5 := bt (below_drewN (Below.refl _ _) _) hw5
              have c5 : w5.cell? ⟨b, o + k, none⟩ = some (.int .i64 (xk : Int)) := by rw [(bcell hB5).1 _ _ hb9]; exact c0
              clear hw5
              go_wp2_with (fail)
              refine (q2.out _).mono ?_; rintro e w6 ⟨rfl, hw6⟩
              go_wp2
              go_roundw
              case rel => exact ⟨k + 1, _, rfl, by simp, by omega, HE, by omega, bt hbr (bt hB5 hw6)⟩
              case measure => simp [intOf]; omega
          · have t5 : decide ((0 : Int) < (i : Int)) = false := by simp; omega
            have t5' : decide (0 < i) = false := by simp; omega
            have t6 : decide ((i : Int) < (k : Int)) = false := by simp; omega
            have t6' : decide (i < k) = false := by simp; omega
            rw [if_neg h1, if_neg h2] at he
            have zB := cat_le zD z1
            have HE := Lib.hid he
            clear he h1 h2
            by_cases hk1 : k + 1 < n
            case' pos =>
              obtain ⟨x1, hx1, _, cx⟩ := HM.out (k + 1) hk1
              have c1 : wr.cell? ⟨b, o + (k + 1), none⟩ = some (.int .i64 (x1 : Int)) := by rw [(bcell hbr).1 _ _ hbb]; exact cx
              have t2 : decide ((k : Int) + 1 < (n : Int)) = true := by simp; omega
              have hj4 : (0 : Int) ≤ (k : Int) + 1 := by omega
              have hj5 : (k : Int) + 1 < (n : Int) := by omega
              have t3 : ((x1 : Int) == (xk : Int) + 1) = false := by
                refine beq_eq_false_iff_ne.2 (fun e => HG.out ?_)
                rw [hx1]; congr 1; omega
              clear cx hx1
            case' neg =>
              have t2 : decide ((k : Int) + 1 < (n : Int)) = false := by simp; omega
            all_goals
              go_wp2_with (fail)
              try (go_quiet (fail); go_wp2_with (fail))
              refine (q1.out _).mono ?_; rintro e w5 ⟨rfl, hw5⟩
              have hB5 : Below wr.heap.size wr w5 := bt (below_drewN (Below.refl _ _) _) hw5
              have c5 : w5.cell? ⟨b, o + k, none⟩ = some (.int .i64 (xk : Int)) := by rw [(bcell hB5).1 _ _ hb9]; exact c0
              clear hw5
              go_wp2
              go_roundw
              case rel => exact ⟨k + 1, _, rfl, by simp, by omega, HE, by omega, bt hbr hB5⟩
              case measure => simp [intOf]; omega
    · have t1 : decide ((i : Int) < (n : Int)) = false := by simp; omega
      obtain rfl : i = n := by omega
      have HF : Hid (R = D.data.toList) := by show _ = _; rw [hR2.out, done_all HD.out hn.out]
      clear hin
      go_wp2
      go_ret
      exact ⟨by rw [HF.out]; simp, bt hb1 hbr⟩
end Go.Proofs.YtplneobjdpdlhaaDoor
