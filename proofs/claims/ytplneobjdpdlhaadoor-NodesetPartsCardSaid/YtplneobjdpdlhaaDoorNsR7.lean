/- Layer 9: the reference's Parse walked. -/
import Derived.Test.YtplneobjdpdlhaaDoorNsR6
import Derived.Test.YtplneobjdpdlhaaDoorNsT2
namespace Go.Proofs.YtplneobjdpdlhaaDoor
set_option linter.unusedVariables false
open Go.RowKit
/-- so far numbers have been added, from f on -/
def AddTo (dash : Bool) (f n j : Nat) : Prop := j = 0 ∨ (f + j ≤ n + 1 ∧ f + j ≤ 64 ∧ dash = false)
theorem addTo_end {dash : Bool} {f n j : Nat} (h : AddTo dash f n j) (he : n < f + j ∨ 64 ≤ f + j ∨ dash = true) : List.range' f j = addR dash f n := by
  unfold addR
  rcases h with rfl | ⟨h1, h2, h3⟩
  · cases dash with
    | true => rfl
    | false =>
      rw [if_neg (by simp)]
      have : min (n + 1) 64 - f = 0 := by
        rcases he with e | e | e
        · omega
        · omega
        · cases e
      rw [this]
  · subst h3
    rw [if_neg (by simp)]
    congr 1
    rcases he with e | e | e
    · omega
    · omega
    · cases e
theorem natI_snoc (l : List Nat) (k : Nat) : natI (l ++ [k]) = natI l ++ [(k : Int)] := by rw [natI_app]; rfl
theorem range_snoc (l : List Nat) (f j : Nat) : natI (l ++ List.range' f (j + 1)) = natI (l ++ List.range' f j) ++ [((f + j : Nat) : Int)] := by
  rw [List.range'_concat, ← List.append_assoc, natI_snoc]; simp
set_option maxHeartbeats 4000000 in
set_option maxRecDepth 100000 in
theorem rparse_any (t : ByteArray) (w : World) (ht : t.size ≤ 10000) :
    Calls Tryd.prog 24 #[.string t] w fun e w' => e = .returned (.tuple #[.int .u64 (parse9 t).1, .int .i64 (parse9 t).2]) ∧ Below w.heap.size w w' := by
  obtain ⟨N, hN⟩ : ∃ N, Hid (t.size = N) := ⟨_, rfl⟩
  have HOK := Lib.hid (stR_ok t)
  go_enter Tryd.func24, Tryd.ntmps24
  go_wp2
  go_loopw [4, 5, 6, 7, 8] (fun o a f i _ wr => ∃ (k : Nat) (x : Nat × Int × List Nat), a = .int .i64 x.1 ∧ f = .int .i64 x.2.1 ∧ i = .int .i64 k ∧ k ≤ t.size + 1 ∧ Hid (stR t k = x) ∧ Owns wr w.heap.size 3 1 o x.2.2.length (ints (natI x.2.2)) ∧ Below w.heap.size w wr) (fun _ _ _ i _ _ => t.size + 1 - (intOf i).toNat)
  case atStart => exact ⟨0, (0, -1, []), rfl, rfl, rfl, Nat.zero_le _, rfl, Owns.nil, Below.refl _ _⟩
  case round =>
    obtain ⟨k, ⟨n, f, l⟩, rfl, rfl, rfl, hk, hst, hown, hbr⟩ := hrel
    obtain ⟨b1, b2, b3, b4, b5⟩ := HOK.out k hk
    rw [hst.out] at b1 b2 b3 b4 b5
    dsimp only at b1 b2 b3 b4 hown ⊢
    have hsz := hbr.size
    have hO := Lib.hid hown
    clear hown
    by_cases hkn : k ≤ t.size
    · have t0 : decide ((k : Int) ≤ (t.size : Int)) = true := by simp; omega
      have t0' : decide (k ≤ t.size) = true := by simp; omega
      have i0 : (0 : Int) ≤ (k : Int) := by omega
      by_cases hlt : k < t.size
      · have t1 : decide ((k : Int) < (t.size : Int)) = true := by simp; omega
        have t1' : decide (k < t.size) = true := by simp; omega
        have i1 : (k : Int) < (t.size : Int) := by omega
        have hnx := stR_succ (inR_at hlt)
        rw [hst.out] at hnx
        obtain ⟨y, hy⟩ : ∃ y, t[k] = y := ⟨_, rfl⟩
        rw [hy] at hnx
        by_cases hA : 48 ≤ y.toNat ∧ y.toNat ≤ 57 ∧ n < 100
        · rw [step_dig hA] at hnx
          have HN := Lib.hid hnx
          obtain ⟨c, hc⟩ : ∃ c, y.toNat = c := ⟨_, rfl⟩
          rw [hc] at hA HN
          have a1 : decide (48 ≤ c) = true := by simp; omega
          have a2 : decide (c ≤ 57) = true := by simp; omega
          have a3 : decide (n < 100) = true := by simp; omega
          have a1' : decide ((48 : Int) ≤ (c : Int)) = true := by simp; omega
          have a2' : decide ((c : Int) ≤ 57) = true := by simp; omega
          have a3' : decide ((n : Int) < 100) = true := by simp; omega
          obtain ⟨hA1, hA2, hA3⟩ := hA
          clear hnx b5
          go_wp2
          go_roundw
          case rel => exact ⟨k + 1, (10 * n + (c - 48), f, l), by go_num, rfl, by simp, by omega, HN, hO.out, hbr⟩
          case measure => simp [intOf]; omega
        · by_cases hD : y.toNat = 45
          · rw [step_dash hA hD] at hnx
            have HN := Lib.hid hnx
            have a1 : decide (48 ≤ 45) = false := by decide
            clear hnx b5 hA
            go_wp2
            go_roundw
            case rel => exact ⟨k + 1, (0, (n : Int), l), rfl, rfl, by simp, by omega, HN, hO.out, hbr⟩
            case measure => simp [intOf]; omega
          · rw [step_end hA hD] at hnx
            have HN := Lib.hid hnx
            obtain ⟨c, hc⟩ : ∃ c, y.toNat = c := ⟨_, rfl⟩
            rw [hc] at hA hD
            have d1 : (c == 45) = false := beq_eq_false_iff_ne.2 hD
            have d2 : ((c : Int) == 45) = false := beq_eq_false_iff_ne.2 (by omega)
            clear hnx hD b5
            obtain ⟨d, hd⟩ : ∃ d, dashR t = d := ⟨_, rfl⟩
            have td : (t.toList == ([45] : List UInt8)) = d := by rw [← hd]; unfold dashR; rw [ByteArray.toList_eq]
            rw [hd] at HN
            rcases (show (¬ 48 ≤ c) ∨ (48 ≤ c ∧ ¬ c ≤ 57) ∨ (48 ≤ c ∧ c ≤ 57 ∧ ¬ n < 100) by omega) with h | ⟨h, h'⟩ | ⟨h, h', h''⟩
            · have a1 : decide (48 ≤ c) = false := by simp; omega
              have a1' : decide ((48 : Int) ≤ (c : Int)) = false := by simp; omega
              clear h hA
              by_cases hf : f < 0
              case' pos =>
                obtain ⟨fr, hfr⟩ : ∃ fr : Nat, Hid (n = fr) := ⟨n, rfl⟩
                have HFR : fromR f n = fr := by unfold fromR; rw [if_pos hf]; exact hfr.out
                have f0 : decide (f < 0) = true := by simpa using hf
                rw [HFR] at HN
                clear hf b2 b3 HFR
                go_wp2
                go_loopw [4, 8] (fun o q wi => ∃ (j K : Nat), q = .int .i64 K ∧ Hid (K = fr + j ∧ AddTo d fr n j) ∧ Owns wi w.heap.size 3 1 o (l.length + j) (ints (natI (l ++ List.range' fr j))) ∧ j ≤ 64 ∧ Below w.heap.size w wi) (fun _ q _ => 64 - (intOf q).toNat)
                case' atStart => exact ⟨0, n, rfl, ⟨by have := hfr.out; omega, .inl rfl⟩, by rw [List.range'_zero, List.append_nil]; exact hO.out, by omega, hbr⟩
              case' neg =>
                obtain ⟨fr, rfl⟩ : ∃ fr : Nat, f = (fr : Int) := ⟨f.toNat, by omega⟩
                have f0 : decide ((fr : Int) < 0) = false := by simp
                have HFR : fromR (fr : Int) n = fr := by unfold fromR; rw [if_neg hf]; simp
                rw [HFR] at HN
                clear hf b2 HFR
                go_wp2
                go_loopw [4, 8] (fun o q wi => ∃ (j K : Nat), q = .int .i64 K ∧ Hid (K = fr + j ∧ AddTo d fr n j) ∧ Owns wi w.heap.size 3 1 o (l.length + j) (ints (natI (l ++ List.range' fr j))) ∧ j ≤ 64 ∧ Below w.heap.size w wi) (fun _ q _ => 64 - (intOf q).toNat)
                case' atStart => exact ⟨0, fr, rfl, ⟨by omega, .inl rfl⟩, by rw [List.range'_zero, List.append_nil]; exact hO.out, by omega, hbr⟩
              all_goals
                obtain ⟨j, K, rfl, HK, hown2, hj64, hbi⟩ := hrel
                have hszi := hbi.size
                have hO2 := Lib.hid hown2
                clear hown2 hO
                by_cases g1 : K ≤ n
                · have e1 : decide (K ≤ n) = true := by simpa using g1
                  have e1' : decide ((K : Int) ≤ (n : Int)) = true := by simp; omega
                  by_cases g2 : K < 64
                  · have e2 : decide (K < 64) = true := by simpa using g2
                    have e2' : decide ((K : Int) < 64) = true := by simp; omega
                    cases d
                    · have HK2 : Hid (K + 1 = fr + (j + 1) ∧ AddTo false fr n (j + 1)) := by
                        have := HK.out.1
                        exact ⟨by omega, .inr ⟨by omega, by omega, rfl⟩⟩
                      have hj3 : j + 1 ≤ 64 := by have := HK.out.1; omega
                      have HS := Lib.hid (range_snoc l fr j)
                      rw [← HK.out.1] at HS
                      clear g1
                      go_wp2_with (at_builtin; refine app_i rfl rfl w.heap.size rfl (hO2.out.alloc _) (news := [(K : Int)]) rfl (Reads.made wr [Value.int .i64 (K : Int)] _) (by omega) (by simp only [World.size_alloc]; omega) ?_)
                      intro v4 w4 o4 k4 _
                      have kb4 := k4.below (hbi.alloc hszi _) (Nat.le_refl _) (by simp only [World.size_alloc]; omega)
                      have o5 : Owns w4 w.heap.size 3 1 v4 (l.length + (j + 1)) (ints (natI (l ++ List.range' fr (j + 1)))) := by
                        rw [HS.out]; exact o4
                      have O5 := Lib.hid o5
                      clear k4 o4 o5
                      go_wp2
                      go_roundw
                      case rel => exact ⟨j + 1, K + 1, by simp, HK2, O5.out, hj3, kb4⟩
                      case measure => simp [intOf]; omega
                    · have HE : Hid (List.range' fr j = addR true fr n) := addTo_end HK.out.2 (.inr (.inr rfl))
                      clear g1 g2 HK
                      go_wp2
                      go_roundw
                      case rel => exact ⟨k + 1, (0, -1, l ++ addR true fr n), rfl, rfl, by simp, by omega, HN, by rw [← HE.out, List.length_append, List.length_range']; exact hO2.out, hbi⟩
                      case measure => simp [intOf]; omega
                  · have e2 : decide (K < 64) = false := by simpa using g2
                    have e2' : decide ((K : Int) < 64) = false := by simp; omega
                    have HE : Hid (List.range' fr j = addR d fr n) := addTo_end HK.out.2 (.inr (.inl (by have := HK.out.1; omega)))
                    clear g1 g2 HK
                    go_wp2
                    go_roundw
                    case rel => exact ⟨k + 1, (0, -1, l ++ addR d fr n), rfl, rfl, by simp, by omega, HN, by rw [← HE.out, List.length_append, List.length_range']; exact hO2.out, hbi⟩
                    case measure => simp [intOf]; omega
                · have e1 : decide (K ≤ n) = false := by simpa using g1
                  have e1' : decide ((K : Int) ≤ (n : Int)) = false := by simp; omega
                  have HE : Hid (List.range' fr j = addR d fr n) := addTo_end HK.out.2 (.inl (by have := HK.out.1; omega))
                  clear g1 HK
                  go_wp2
                  go_roundw
                  case rel => exact ⟨k + 1, (0, -1, l ++ addR d fr n), rfl, rfl, by simp, by omega, HN, by rw [← HE.out, List.length_append, List.length_range']; exact hO2.out, hbi⟩
                  case measure => simp [intOf]; omega
            · have a1 : decide (48 ≤ c) = true := by simp; omega
              have a1' : decide ((48 : Int) ≤ (c : Int)) = true := by simp; omega
              have a2 : decide (c ≤ 57) = false := by simp; omega
              have a2' : decide ((c : Int) ≤ 57) = false := by simp; omega
              clear h h' hA
              by_cases hf : f < 0
              case' pos =>
                obtain ⟨fr, hfr⟩ : ∃ fr : Nat, Hid (n = fr) := ⟨n, rfl⟩
                have HFR : fromR f n = fr := by unfold fromR; rw [if_pos hf]; exact hfr.out
                have f0 : decide (f < 0) = true := by simpa using hf
                rw [HFR] at HN
                clear hf b2 b3 HFR
                go_wp2
                go_loopw [4, 8] (fun o q wi => ∃ (j K : Nat), q = .int .i64 K ∧ Hid (K = fr + j ∧ AddTo d fr n j) ∧ Owns wi w.heap.size 3 1 o (l.length + j) (ints (natI (l ++ List.range' fr j))) ∧ j ≤ 64 ∧ Below w.heap.size w wi) (fun _ q _ => 64 - (intOf q).toNat)
                case' atStart => exact ⟨0, n, rfl, ⟨by have := hfr.out; omega, .inl rfl⟩, by rw [List.range'_zero, List.append_nil]; exact hO.out, by omega, hbr⟩
              case' neg =>
                obtain ⟨fr, rfl⟩ : ∃ fr : Nat, f = (fr : Int) := ⟨f.toNat, by omega⟩
                have f0 : decide ((fr : Int) < 0) = false := by simp
                have HFR : fromR (fr : Int) n = fr := by unfold fromR; rw [if_neg hf]; simp
                rw [HFR] at HN
                clear hf b2 HFR
                go_wp2
                go_loopw [4, 8] (fun o q wi => ∃ (j K : Nat), q = .int .i64 K ∧ Hid (K = fr + j ∧ AddTo d fr n j) ∧ Owns wi w.heap.size 3 1 o (l.length + j) (ints (natI (l ++ List.range' fr j))) ∧ j ≤ 64 ∧ Below w.heap.size w wi) (fun _ q _ => 64 - (intOf q).toNat)
                case' atStart => exact ⟨0, fr, rfl, ⟨by omega, .inl rfl⟩, by rw [List.range'_zero, List.append_nil]; exact hO.out, by omega, hbr⟩
              all_goals
                obtain ⟨j, K, rfl, HK, hown2, hj64, hbi⟩ := hrel
                have hszi := hbi.size
                have hO2 := Lib.hid hown2
                clear hown2 hO
                by_cases g1 : K ≤ n
                · have e1 : decide (K ≤ n) = true := by simpa using g1
                  have e1' : decide ((K : Int) ≤ (n : Int)) = true := by simp; omega
                  by_cases g2 : K < 64
                  · have e2 : decide (K < 64) = true := by simpa using g2
                    have e2' : decide ((K : Int) < 64) = true := by simp; omega
                    cases d
                    · have HK2 : Hid (K + 1 = fr + (j + 1) ∧ AddTo false fr n (j + 1)) := by
                        have := HK.out.1
                        exact ⟨by omega, .inr ⟨by omega, by omega, rfl⟩⟩
                      have hj3 : j + 1 ≤ 64 := by have := HK.out.1; omega
                      have HS := Lib.hid (range_snoc l fr j)
                      rw [← HK.out.1] at HS
                      clear g1
                      go_wp2_with (at_builtin; refine app_i rfl rfl w.heap.size rfl (hO2.out.alloc _) (news := [(K : Int)]) rfl (Reads.made wr [Value.int .i64 (K : Int)] _) (by omega) (by simp only [World.size_alloc]; omega) ?_)
                      intro v4 w4 o4 k4 _
                      have kb4 := k4.below (hbi.alloc hszi _) (Nat.le_refl _) (by simp only [World.size_alloc]; omega)
                      have o5 : Owns w4 w.heap.size 3 1 v4 (l.length + (j + 1)) (ints (natI (l ++ List.range' fr (j + 1)))) := by
                        rw [HS.out]; exact o4
                      have O5 := Lib.hid o5
                      clear k4 o4 o5
                      go_wp2
                      go_roundw
                      case rel => exact ⟨j + 1, K + 1, by simp, HK2, O5.out, hj3, kb4⟩
                      case measure => simp [intOf]; omega
                    · have HE : Hid (List.range' fr j = addR true fr n) := addTo_end HK.out.2 (.inr (.inr rfl))
                      clear g1 g2 HK
                      go_wp2
                      go_roundw
                      case rel => exact ⟨k + 1, (0, -1, l ++ addR true fr n), rfl, rfl, by simp, by omega, HN, by rw [← HE.out, List.length_append, List.length_range']; exact hO2.out, hbi⟩
                      case measure => simp [intOf]; omega
                  · have e2 : decide (K < 64) = false := by simpa using g2
                    have e2' : decide ((K : Int) < 64) = false := by simp; omega
                    have HE : Hid (List.range' fr j = addR d fr n) := addTo_end HK.out.2 (.inr (.inl (by have := HK.out.1; omega)))
                    clear g1 g2 HK
                    go_wp2
                    go_roundw
                    case rel => exact ⟨k + 1, (0, -1, l ++ addR d fr n), rfl, rfl, by simp, by omega, HN, by rw [← HE.out, List.length_append, List.length_range']; exact hO2.out, hbi⟩
                    case measure => simp [intOf]; omega
                · have e1 : decide (K ≤ n) = false := by simpa using g1
                  have e1' : decide ((K : Int) ≤ (n : Int)) = false := by simp; omega
                  have HE : Hid (List.range' fr j = addR d fr n) := addTo_end HK.out.2 (.inl (by have := HK.out.1; omega))
                  clear g1 HK
                  go_wp2
                  go_roundw
                  case rel => exact ⟨k + 1, (0, -1, l ++ addR d fr n), rfl, rfl, by simp, by omega, HN, by rw [← HE.out, List.length_append, List.length_range']; exact hO2.out, hbi⟩
                  case measure => simp [intOf]; omega
            · have a1 : decide (48 ≤ c) = true := by simp; omega
              have a1' : decide ((48 : Int) ≤ (c : Int)) = true := by simp; omega
              have a2 : decide (c ≤ 57) = true := by simp; omega
              have a2' : decide ((c : Int) ≤ 57) = true := by simp; omega
              have a3 : decide (n < 100) = false := by simp; omega
              have a3' : decide ((n : Int) < 100) = false := by simp; omega
              clear h h' h'' hA
              by_cases hf : f < 0
              case' pos =>
                obtain ⟨fr, hfr⟩ : ∃ fr : Nat, Hid (n = fr) := ⟨n, rfl⟩
                have HFR : fromR f n = fr := by unfold fromR; rw [if_pos hf]; exact hfr.out
                have f0 : decide (f < 0) = true := by simpa using hf
                rw [HFR] at HN
                clear hf b2 b3 HFR
                go_wp2
                go_loopw [4, 8] (fun o q wi => ∃ (j K : Nat), q = .int .i64 K ∧ Hid (K = fr + j ∧ AddTo d fr n j) ∧ Owns wi w.heap.size 3 1 o (l.length + j) (ints (natI (l ++ List.range' fr j))) ∧ j ≤ 64 ∧ Below w.heap.size w wi) (fun _ q _ => 64 - (intOf q).toNat)
                case' atStart => exact ⟨0, n, rfl, ⟨by have := hfr.out; omega, .inl rfl⟩, by rw [List.range'_zero, List.append_nil]; exact hO.out, by omega, hbr⟩
              case' neg =>
                obtain ⟨fr, rfl⟩ : ∃ fr : Nat, f = (fr : Int) := ⟨f.toNat, by omega⟩
                have f0 : decide ((fr : Int) < 0) = false := by simp
                have HFR : fromR (fr : Int) n = fr := by unfold fromR; rw [if_neg hf]; simp
                rw [HFR] at HN
                clear hf b2 HFR
                go_wp2
                go_loopw [4, 8] (fun o q wi => ∃ (j K : Nat), q = .int .i64 K ∧ Hid (K = fr + j ∧ AddTo d fr n j) ∧ Owns wi w.heap.size 3 1 o (l.length + j) (ints (natI (l ++ List.range' fr j))) ∧ j ≤ 64 ∧ Below w.heap.size w wi) (fun _ q _ => 64 - (intOf q).toNat)
                case' atStart => exact ⟨0, fr, rfl, ⟨by omega, .inl rfl⟩, by rw [List.range'_zero, List.append_nil]; exact hO.out, by omega, hbr⟩
              all_goals
                obtain ⟨j, K, rfl, HK, hown2, hj64, hbi⟩ := hrel
                have hszi := hbi.size
                have hO2 := Lib.hid hown2
                clear hown2 hO
                by_cases g1 : K ≤ n
                · have e1 : decide (K ≤ n) = true := by simpa using g1
                  have e1' : decide ((K : Int) ≤ (n : Int)) = true := by simp; omega
                  by_cases g2 : K < 64
                  · have e2 : decide (K < 64) = true := by simpa using g2
                    have e2' : decide ((K : Int) < 64) = true := by simp; omega
                    cases d
                    · have HK2 : Hid (K + 1 = fr + (j + 1) ∧ AddTo false fr n (j + 1)) := by
                        have := HK.out.1
                        exact ⟨by omega, .inr ⟨by omega, by omega, rfl⟩⟩
                      have hj3 : j + 1 ≤ 64 := by have := HK.out.1; omega
                      have HS := Lib.hid (range_snoc l fr j)
                      rw [← HK.out.1] at HS
                      clear g1
                      go_wp2_with (at_builtin; refine app_i rfl rfl w.heap.size rfl (hO2.out.alloc _) (news := [(K : Int)]) rfl (Reads.made wr [Value.int .i64 (K : Int)] _) (by omega) (by simp only [World.size_alloc]; omega) ?_)
                      intro v4 w4 o4 k4 _
                      have kb4 := k4.below (hbi.alloc hszi _) (Nat.le_refl _) (by simp only [World.size_alloc]; omega)
                      have o5 : Owns w4 w.heap.size 3 1 v4 (l.length + (j + 1)) (ints (natI (l ++ List.range' fr (j + 1)))) := by
                        rw [HS.out]; exact o4
                      have O5 := Lib.hid o5
                      clear k4 o4 o5
                      go_wp2
                      go_roundw
                      case rel => exact ⟨j + 1, K + 1, by simp, HK2, O5.out, hj3, kb4⟩
                      case measure => simp [intOf]; omega
                    · have HE : Hid (List.range' fr j = addR true fr n) := addTo_end HK.out.2 (.inr (.inr rfl))
                      clear g1 g2 HK
                      go_wp2
                      go_roundw
                      case rel => exact ⟨k + 1, (0, -1, l ++ addR true fr n), rfl, rfl, by simp, by omega, HN, by rw [← HE.out, List.length_append, List.length_range']; exact hO2.out, hbi⟩
                      case measure => simp [intOf]; omega
                  · have e2 : decide (K < 64) = false := by simpa using g2
                    have e2' : decide ((K : Int) < 64) = false := by simp; omega
                    have HE : Hid (List.range' fr j = addR d fr n) := addTo_end HK.out.2 (.inr (.inl (by have := HK.out.1; omega)))
                    clear g1 g2 HK
                    go_wp2
                    go_roundw
                    case rel => exact ⟨k + 1, (0, -1, l ++ addR d fr n), rfl, rfl, by simp, by omega, HN, by rw [← HE.out, List.length_append, List.length_range']; exact hO2.out, hbi⟩
                    case measure => simp [intOf]; omega
                · have e1 : decide (K ≤ n) = false := by simpa using g1
                  have e1' : decide ((K : Int) ≤ (n : Int)) = false := by simp; omega
                  have HE : Hid (List.range' fr j = addR d fr n) := addTo_end HK.out.2 (.inl (by have := HK.out.1; omega))
                  clear g1 HK
                  go_wp2
                  go_roundw
                  case rel => exact ⟨k + 1, (0, -1, l ++ addR d fr n), rfl, rfl, by simp, by omega, HN, by rw [← HE.out, List.length_append, List.length_range']; exact hO2.out, hbi⟩
                  case measure => simp [intOf]; omega
      · obtain rfl : k = t.size := by omega
        have t1 : decide ((t.size : Int) < (t.size : Int)) = false := by simp
        have t1' : decide (t.size < t.size) = false := by simp
        have hnx := stR_succ (inR_end (t := t))
        rw [hst.out, step_none] at hnx
        have HN := Lib.hid hnx
        clear hnx b5 hlt
        obtain ⟨d, hd⟩ : ∃ d, dashR t = d := ⟨_, rfl⟩
        have td : (t.toList == ([45] : List UInt8)) = d := by rw [← hd]; unfold dashR; rw [ByteArray.toList_eq]
        rw [hd] at HN
        by_cases hf : f < 0
        case' pos =>
          obtain ⟨fr, hfr⟩ : ∃ fr : Nat, Hid (n = fr) := ⟨n, rfl⟩
          have HFR : fromR f n = fr := by unfold fromR; rw [if_pos hf]; exact hfr.out
          have f0 : decide (f < 0) = true := by simpa using hf
          rw [HFR] at HN
          clear hf b2 b3 HFR
          go_wp2
          go_loopw [4, 8] (fun o q wi => ∃ (j K : Nat), q = .int .i64 K ∧ Hid (K = fr + j ∧ AddTo d fr n j) ∧ Owns wi w.heap.size 3 1 o (l.length + j) (ints (natI (l ++ List.range' fr j))) ∧ j ≤ 64 ∧ Below w.heap.size w wi) (fun _ q _ => 64 - (intOf q).toNat)
          case' atStart => exact ⟨0, n, rfl, ⟨by have := hfr.out; omega, .inl rfl⟩, by rw [List.range'_zero, List.append_nil]; exact hO.out, by omega, hbr⟩
        case' neg =>
          obtain ⟨fr, rfl⟩ : ∃ fr : Nat, f = (fr : Int) := ⟨f.toNat, by omega⟩
          have f0 : decide ((fr : Int) < 0) = false := by simp
          have HFR : fromR (fr : Int) n = fr := by unfold fromR; rw [if_neg hf]; simp
          rw [HFR] at HN
          clear hf b2 HFR
          go_wp2
          go_loopw [4, 8] (fun o q wi => ∃ (j K : Nat), q = .int .i64 K ∧ Hid (K = fr + j ∧ AddTo d fr n j) ∧ Owns wi w.heap.size 3 1 o (l.length + j) (ints (natI (l ++ List.range' fr j))) ∧ j ≤ 64 ∧ Below w.heap.size w wi) (fun _ q _ => 64 - (intOf q).toNat)
          case' atStart => exact ⟨0, fr, rfl, ⟨by omega, .inl rfl⟩, by rw [List.range'_zero, List.append_nil]; exact hO.out, by omega, hbr⟩
        all_goals
          obtain ⟨j, K, rfl, HK, hown2, hj64, hbi⟩ := hrel
          have hszi := hbi.size
          have hO2 := Lib.hid hown2
          clear hown2 hO
          by_cases g1 : K ≤ n
          · have e1 : decide (K ≤ n) = true := by simpa using g1
            have e1' : decide ((K : Int) ≤ (n : Int)) = true := by simp; omega
            by_cases g2 : K < 64
            · have e2 : decide (K < 64) = true := by simpa using g2
              have e2' : decide ((K : Int) < 64) = true := by simp; omega
              cases d
              · have HK2 : Hid (K + 1 = fr + (j + 1) ∧ AddTo false fr n (j + 1)) := by
                  have := HK.out.1
                  exact ⟨by omega, .inr ⟨by omega, by omega, rfl⟩⟩
                have hj3 : j + 1 ≤ 64 := by have := HK.out.1; omega
                have HS := Lib.hid (range_snoc l fr j)
                rw [← HK.out.1] at HS
                clear g1
                go_wp2_with (at_builtin; refine app_i rfl rfl w.heap.size rfl (hO2.out.alloc _) (news := [(K : Int)]) rfl (Reads.made wr [Value.int .i64 (K : Int)] _) (by omega) (by simp only [World.size_alloc]; omega) ?_)
                intro v4 w4 o4 k4 _
                have kb4 := k4.below (hbi.alloc hszi _) (Nat.le_refl _) (by simp only [World.size_alloc]; omega)
                have o5 : Owns w4 w.heap.size 3 1 v4 (l.length + (j + 1)) (ints (natI (l ++ List.range' fr (j + 1)))) := by
                  rw [HS.out]; exact o4
                have O5 := Lib.hid o5
                clear k4 o4 o5
                go_wp2
                go_roundw
                case rel => exact ⟨j + 1, K + 1, by simp, HK2, O5.out, hj3, kb4⟩
                case measure => simp [intOf]; omega
              · have HE : Hid (List.range' fr j = addR true fr n) := addTo_end HK.out.2 (.inr (.inr rfl))
                clear g1 g2 HK
                go_wp2
                go_roundw
                case rel => exact ⟨t.size + 1, (0, -1, l ++ addR true fr n), rfl, rfl, by simp, by omega, HN, by rw [← HE.out, List.length_append, List.length_range']; exact hO2.out, hbi⟩
                case measure => simp [intOf]
            · have e2 : decide (K < 64) = false := by simpa using g2
              have e2' : decide ((K : Int) < 64) = false := by simp; omega
              have HE : Hid (List.range' fr j = addR d fr n) := addTo_end HK.out.2 (.inr (.inl (by have := HK.out.1; omega)))
              clear g1 g2 HK
              go_wp2
              go_roundw
              case rel => exact ⟨t.size + 1, (0, -1, l ++ addR d fr n), rfl, rfl, by simp, by omega, HN, by rw [← HE.out, List.length_append, List.length_range']; exact hO2.out, hbi⟩
              case measure => simp [intOf]
          · have e1 : decide (K ≤ n) = false := by simpa using g1
            have e1' : decide ((K : Int) ≤ (n : Int)) = false := by simp; omega
            have HE : Hid (List.range' fr j = addR d fr n) := addTo_end HK.out.2 (.inl (by have := HK.out.1; omega))
            clear g1 HK
            go_wp2
            go_roundw
            case rel => exact ⟨t.size + 1, (0, -1, l ++ addR d fr n), rfl, rfl, by simp, by omega, HN, by rw [← HE.out, List.length_append, List.length_range']; exact hO2.out, hbi⟩
            case measure => simp [intOf]
    · have t0 : decide ((k : Int) ≤ (t.size : Int)) = false := by simp; omega
      have t0' : decide (k ≤ t.size) = false := by simp; omega
      obtain rfl : k = t.size + 1 := by omega
      obtain ⟨A, cc, rfl, -, -⟩ := hO.out.slice
      have hc := Lib.hid (rset_any A _ cc _ l wr hO.out.reads (by omega) (fun i hi => b5 i hi))
      have e0 : Hid (setR t = setL l) := by show setL (stR t (t.size + 1)).2.2 = _; rw [hst.out]
      rw [← e0.out] at hc
      have hlt := setR_lt t
      have hPR := Lib.hid (parseR_is t)
      obtain ⟨q, hq⟩ : ∃ q, Hid (setR t = q) := ⟨_, rfl⟩
      rw [hq.out] at hc hlt hPR
      have hsh := Lib.hid (rshow_any q wr hlt)
      obtain ⟨S, hS1, hS2, hS3⟩ := ba9 (showN q)
      rw [hS2.out] at hsh
      clear b5 hkn
      by_cases hst : S = t
      · have t1 : (S.toList == t.toList) = true := eqT hst
        have HF : Hid (parse9 t = (q, 0)) := by
          show _ = _
          rw [← hPR.out]
          unfold parseS
          rw [if_pos]; rw [← hst]; exact hS1.out.symm
        clear hst
        go_wp2_with (first
          | (go_at_call 28; refine hc.out.mono ?_; rintro e w6 ⟨rfl, rfl⟩)
          | (go_at_call 26; refine hsh.out.mono ?_; rintro e w7 ⟨rfl, hw7⟩))
        go_ret2
        rw [HF.out]
        exact ⟨rfl, bt hbr hw7⟩
      · have t1 : (S.toList == t.toList) = false := neT hst
        have HF : Hid (parse9 t = (0, 90)) := by
          show _ = _
          rw [← hPR.out]
          unfold parseS
          rw [if_neg]
          intro e
          exact hst (ba_ext (hS1.out.trans e))
        clear hst
        go_wp2_with (first
          | (go_at_call 28; refine hc.out.mono ?_; rintro e w6 ⟨rfl, rfl⟩)
          | (go_at_call 26; refine hsh.out.mono ?_; rintro e w7 ⟨rfl, hw7⟩))
        go_ret2
        rw [HF.out]
        exact ⟨rfl, bt hbr hw7⟩
end Go.Proofs.YtplneobjdpdlhaaDoor
