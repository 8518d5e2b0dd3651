/- Contracts of layer 6: Parse. -/
import Derived.Test.YtenonfoocjcdmaaDoorHrW
import Derived.Test.YtenonfoocjcdmaaDoorHrP2
import Derived.Test.YtenonfoocjcdmaaDoorOwn
import Derived.Deep.DeepCutAuto
import Derived.Deep.CutBlock
import Derived.Deep.Cut
import Derived.Deep.LoopGhost
import Derived.WalkMore
import Derived.Lib.AtoiErrMem
namespace Go.Proofs.YtenonfoocjcdmaaDoor
set_option linter.unusedVariables false
open Go.RowKit
theorem sum_le {l : List Nat} {B : Nat} (h : ∀ p ∈ l, p ≤ B) : l.sum ≤ B * l.length := by
  induction l with
  | nil => simp
  | cons a t ih =>
    have h1 := h a (by simp)
    have h2 := ih (fun p hp => h p (by simp [hp]))
    simp only [List.sum_cons, List.length_cons, Nat.mul_succ]; omega
theorem sum_take_le (l : List Nat) (k : Nat) : (l.take k).sum ≤ l.sum := by
  conv => rhs; rw [← List.take_append_drop k l, List.sum_append]
  omega
theorem head_at {t : ByteArray} (h : 0 < t.size) : t.data.toList.head? = some t[0] := by
  rw [List.head?_eq_getElem?, List.getElem?_eq_getElem (by simpa using h)]; rfl
theorem atoi_pref {t : ByteArray} {d : Nat} (hd : dgs t.data.toList = d) (q0 : d ≠ 0) : Lib.atoi (t.extract 0 d).data.toList = some ((valD (t.data.toList.take d) : Nat) : Int) := by
  have e : (t.extract 0 d).data.toList = t.data.toList.take d := by simp [ByteArray.data_extract]
  rw [e]
  have h1 : t.data.toList.take d = t.data.toList.takeWhile isD := by rw [← hd]; exact dgs_take _
  refine atoi_all ?_ ?_
  · intro b hb; rw [h1] at hb; exact (List.all_eq_true.1 (List.all_takeWhile)) b hb
  · intro hn
    have := congrArg List.length hn
    rw [h1] at this
    have h2 : (t.data.toList.takeWhile isD).length = d := hd
    rw [h2] at this
    exact q0 (by simpa using this)
theorem findU_skip {k : Nat} {b : UInt8} (hk : k < 4) (h : ¬ sg k = b) : findU 4 k b = findU 4 (k + 1) b := by
  have h' : (sg k == b) = false := by simpa using h
  rcases k with _ | _ | _ | _ | k
  · simp [findU, h']
  · simp [findU, h']
  · simp [findU, h']
  · simp [findU, h']
  · omega
theorem get_at {t : ByteArray} {d : Nat} (h : d < t.size) : t.data.toList.getD d 0 = t[d] := by
  rw [List.getD_eq_getElem?_getD, List.getElem?_eq_getElem (by simpa using h)]; rfl
theorem Reads.made_one {w : World} {x : Value} {t : TypeId} {b : Nat} (h : b = w.heap.size) : Reads (w.alloc (.cells #[x] t)) (b + 1) 1 (some ⟨b, 0, none⟩) 1 [x] := by
  subst h; exact Reads.made w [x] t
theorem parse_step {nx u d V : Nat} {s : List UInt8} {t : ByteArray} {parts : List Nat} (hn : nx ≤ 4) (hne : t.data.toList ≠ []) (hb : badP t.data.toList = false) (hd : dgs t.data.toList = d) (hV : valD (t.data.toList.take d) = V)
    (hf : findU 4 nx (t.data.toList.getD d 0) = some u) (hsp : parseQ 0 s = (parseQ nx t.data.toList).map (parts.sum + ·)) :
    parseQ 0 s = (parseQ (u + 1) (t.extract (d + 1) t.size).data.toList).map ((parts ++ [V * tk u]).sum + ·) := by
  have e : (t.extract (d + 1) t.size).data.toList = t.data.toList.drop (d + 1) := by
    rw [ByteArray.data_extract, Array.toList_extract, List.extract_eq_take_drop, List.take_of_length_le (by simp)]
  rw [hsp, e, parseQ_yes hn hne hb (by rw [hd]; exact hf), hd, hV, Option.map_map]
  congr 1
  funext x
  simp [List.sum_append]; omega
theorem ints_snoc {parts : List Nat} {V k : Nat} : ints ((parts ++ [V * k]).map (fun (x : Nat) => (x : Int))) = ints (parts.map (fun (x : Nat) => (x : Int))) ++ ints [(V : Int) * (k : Int)] := by
  simp [ints]
def strLen : Value → Nat | .string s => s.size | _ => 0
set_option maxRecDepth 100000 in
set_option maxHeartbeats 4000000 in
theorem parse_any (s : ByteArray) (w : World) (hs : s.size ≤ maxLen) :
    Calls Tryd.prog 16 #[.string s] w fun e w' => e = .returned (.tuple #[.int .i64 (hrsN s.data.toList), .int .i64 (hrsE s.data.toList)]) ∧ Below w.heap.size w w' := by
  unfold maxLen at hs
  by_cases h0 : s.toList = []
  · have h1 : s.toList.isEmpty = true := by simpa using h0
    have e1 : hrsN s.data.toList = 0 := by unfold hrsN hrsV; rw [if_pos (by rw [← Lib.toList_data]; exact h0)]
    have e2 : hrsE s.data.toList = 60 := by unfold hrsE hrsV; rw [if_pos (by rw [← Lib.toList_data]; exact h0)]
    rw [e1, e2]
    clear h0 e1 e2
    go_enter Tryd.func16, Tryd.ntmps16
    go_wp2
    go_step3
    go_wp2_with (fail)
    rw [Exit.noGoto_ret]
    go_ret2
    exact ⟨rfl, Below.refl _ _⟩
  · have h1 : s.toList.isEmpty = false := by simpa using h0
    go_enter Tryd.func16, Tryd.ntmps16
    go_wp2
    go_step3
    go_wp2_with (go_at_call 38; refine (units_any _).mono ?_; rintro e w1 ⟨rfl, hb1⟩; unfold unitsV)
    go_step3
    go_wp2
    obtain ⟨W1, HW1⟩ : ∃ W1 : World, Hid (W1 = w1.alloc (.cells #[.int .u8 100, .int .i64 86400, .int .u8 104, .int .i64 3600, .int .u8 109, .int .i64 60, .int .u8 115, .int .i64 1] 73)) := ⟨_, rfl⟩
    rw [← HW1.out]
    have hz1 : W1.heap.size = w1.heap.size + 1 := by rw [HW1.out]; simp
    have bW : Below w.heap.size w W1 := by rw [HW1.out]; exact hb1.alloc hb1.size _
    have hww := hb1.size
    go_loopg [0, 5, 6] s.size (fun g a b c wr => ∃ (t : ByteArray) (nx : Nat) (parts : List Nat), a = .string t ∧ b = .int .i64 nx ∧ nx ≤ 4 ∧ t.size ≤ g ∧ t.size ≤ s.size ∧ Owns wr (w1.heap.size + 1) 3 1 c parts.length (ints (parts.map (fun (x : Nat) => (x : Int)))) ∧ parts.length ≤ nx ∧ Hid (∀ p ∈ parts, p ≤ 863999913600) ∧ Hid (parseQ 0 s.data.toList = (parseQ nx t.data.toList).map (parts.sum + ·)) ∧ Below (w1.heap.size + 1) W1 wr)
    case atStart => exact ⟨s, 0, [], rfl, rfl, by omega, Nat.le_refl _, Nat.le_refl _, Owns.nil, Nat.zero_le _, (fun p hp => by cases hp), by show parseQ 0 _ = _; cases parseQ 0 s.data.toList <;> simp, Below.refl _ _⟩
    case round =>
      obtain ⟨t, nx, parts, rfl, rfl, hnx, htg, hts, ho, hpn, hpb, hsp, hb⟩ := hrel
      have hz := hb.size
      obtain ⟨A6, c6, rfl, hc6, _⟩ := ho.slice
      have hTL : Hid (t.toList = t.data.toList) := Lib.toList_data t
      by_cases ht : t.toList = []
      · have h2 : t.toList.isEmpty = true := by simpa using ht
        have hte : Hid (t.data.toList = []) := by show _ = _; rw [← hTL.out]; exact ht
        have hres : Hid (hrsV s.data.toList = some parts.sum) := by
          show hrsV _ = _
          unfold hrsV
          rw [if_neg (by rw [← Lib.toList_data]; exact h0)]
          have := hsp.out
          rw [hte.out] at this
          exact this.trans (by unfold parseQ; rw [parse_nil]; simp)
        have hsum : parts.sum ≤ 863999913600 * parts.length := sum_le hpb.out
        have hrd := ho.reads
        clear ht
        go_wp2
        go_loop [12, 93] (fun a b => ∃ k : Nat, k ≤ parts.length ∧ b = .int .i64 k ∧ a = .int .i64 ((parts.take k).sum : Nat)) (fun _ b => parts.length - (intOf b).toNat)
        case atStart => exact ⟨0, Nat.zero_le _, rfl, rfl⟩
        case round =>
          obtain ⟨k, hk, rfl, rfl⟩ := hrel
          by_cases hlt : k < parts.length
          · obtain ⟨ad, x, rfl, had, hx, hcell⟩ := hrd.int_at hlt
            have hxk : ∃ q : Nat, Hid (parts[k]? = some q) ∧ x = (q : Int) := by
              have h := hx.out
              simp only [List.getElem?_map, Option.map_eq_some_iff] at h
              obtain ⟨q, h1, h2⟩ := h
              exact ⟨q, h1, h2.symm⟩
            obtain ⟨q, hq, rfl⟩ := hxk
            have hts : Hid ((parts.take (k + 1)).sum = (parts.take k).sum + q) := by
              show _ = _
              rw [List.take_add_one, hq.out]; simp
            have hle : (parts.take k).sum + q ≤ 863999913600 * 4 := by
              rw [← hts.out]; exact Nat.le_trans (sum_take_le parts _) (Nat.le_trans hsum (by omega))
            obtain ⟨T, hT⟩ : ∃ T, Hid ((parts.take k).sum = T) := ⟨_, rfl⟩
            rw [hT.out] at hle hts ⊢
            clear hrd
            go_wp2
            go_round
            case rel => exact ⟨k + 1, by omega, by go_num, by rw [hts.out]; go_num⟩
            case measure => simp [intOf]; omega
          · have hkl : Hid ((parts.take k).sum = parts.sum) := by show _ = _; rw [List.take_of_length_le (by omega)]
            rw [hkl.out]
            clear hrd
            by_cases hbig : parts.sum ≤ 1000000
            · have k1 : ((parts.sum : Int) != clamp (parts.sum : Int) 0 1000000) = false := by rw [clamp_in (by omega) (by omega)]; simp
              go_wp2_with (go_at_call 15; refine (time_any _ _).mono ?_; rintro e w' ⟨rfl, rfl⟩)
              rw [Exit.noGoto_ret]
              go_ret2
              have e1 : hrsN s.data.toList = (parts.sum : Int) := by unfold hrsN; rw [hres.out]; simp [hbig]
              have e2 : hrsE s.data.toList = 0 := by unfold hrsE; rw [hres.out]; simp [hbig]
              exact ⟨ret_v (by rw [e1, e2]; rfl), bW.trans (hb.mono (by omega))⟩
            · have k1 : ((parts.sum : Int) != clamp (parts.sum : Int) 0 1000000) = true := by rw [clamp_hi (by omega) (by omega)]; simp; omega
              go_wp2_with (go_at_call 15; refine (time_any _ _).mono ?_; rintro e w' ⟨rfl, rfl⟩)
              rw [Exit.noGoto_ret]
              go_ret2
              have e1 : hrsN s.data.toList = 0 := by unfold hrsN; rw [hres.out]; simp [hbig]
              have e2 : hrsE s.data.toList = 153 := by unfold hrsE; rw [hres.out]; simp [hbig]
              exact ⟨ret_v (by rw [e1, e2]; rfl), bW.trans (hb.mono (by omega))⟩
      · have h2 : t.toList.isEmpty = false := by simpa using ht
        have hne : Hid (t.data.toList ≠ []) := by show _ ≠ _; rw [← hTL.out]; exact ht
        clear ht
        obtain ⟨d, hd⟩ : ∃ d, Hid (dgs t.data.toList = d) := ⟨_, rfl⟩
        have hdl : d ≤ t.size := by rw [← hd.out]; exact dgs_le _
        go_upto_block 2 with (fail)
        go_cut [7] (fun a wx => a = .int .i64 d ∧ wx = wr)
        case first =>
          go_wp2_with (fail)
          go_loop [7] (fun a => ∃ k : Nat, k ≤ d ∧ a = .int .i64 k) (fun a => d - (intOf a).toNat)
          case atStart => exact ⟨0, Nat.zero_le _, rfl⟩
          case round =>
            obtain ⟨k, hk, rfl⟩ := hrel
            by_cases hkd : k < d
            · have hks : k < t.size := by omega
              have hb8 : isD t[k] = true := dgs_at (l := t.data.toList) (k := k) (by rw [hd.out]; exact hkd) (List.getElem?_eq_getElem (by simpa using hks))
              unfold isD at hb8
              simp only [Bool.and_eq_true, decide_eq_true_eq] at hb8
              obtain ⟨g1, g2⟩ := hb8
              go_wp2
              go_round
              case rel => exact ⟨k + 1, by omega, by go_num⟩
              case measure => simp [intOf]; omega
            · obtain rfl : k = d := by omega
              by_cases hks : k < t.size
              · have hb8 : isD t[k] = false := dgs_stop (l := t.data.toList) (by rw [hd.out]; exact List.getElem?_eq_getElem (by simpa using hks))
                unfold isD at hb8
                by_cases g1 : 48 ≤ t[k].toNat
                · have g2 : ¬ t[k].toNat ≤ 57 := by simpa [g1] using hb8
                  go_wp2_with (fail)
                  go_meet
                  exact ⟨rfl, rfl⟩
                · go_wp2_with (fail)
                  go_meet
                  exact ⟨rfl, rfl⟩
              · go_wp2_with (fail)
                go_meet
                exact ⟨rfl, rfl⟩
        case rest =>
          obtain ⟨rfl, hwc⟩ := hcut
          subst hwc
          by_cases hbad : badP t.data.toList = true
          · have hres : Hid (hrsV s.data.toList = none) := by
              show hrsV _ = _
              unfold hrsV
              rw [if_neg (by rw [← Lib.toList_data]; exact h0)]
              exact hsp.out.trans (by rw [parseQ_bad hnx hne.out hbad]; rfl)
            have e1 : hrsN s.data.toList = 0 := by unfold hrsN; rw [hres.out]
            have e2 : hrsE s.data.toList = 60 := by unfold hrsE; rw [hres.out]
            have hcs : d = 0 ∨ (d ≠ 0 ∧ 7 < d) ∨ (d ≠ 0 ∧ ¬ 7 < d ∧ 1 < d ∧ ∃ h : 0 < t.size, t[0].toNat = 48) ∨ (d ≠ 0 ∧ ¬ 7 < d ∧ 1 < d ∧ (∃ h : 0 < t.size, ¬ t[0].toNat = 48) ∧ d = t.size) ∨ (d ≠ 0 ∧ ¬ 7 < d ∧ ¬ 1 < d ∧ d = t.size) := by
              have hb2 := hbad
              unfold badP at hb2
              rw [hd.out] at hb2
              simp only [Bool.or_eq_true, Bool.and_eq_true, decide_eq_true_eq, beq_iff_eq] at hb2
              by_cases q0 : d = 0
              · exact .inl q0
              · have hsz : 0 < t.size := by omega
                have hh := head_at hsz
                have hln : t.data.toList.length = t.size := by simp
                rw [hh, hln, Option.some.injEq] at hb2
                by_cases q1 : 7 < d
                · exact .inr (.inl ⟨q0, q1⟩)
                · by_cases q2 : 1 < d
                  · by_cases q3 : t[0].toNat = 48
                    · exact .inr (.inr (.inl ⟨q0, q1, q2, hsz, q3⟩))
                    · refine .inr (.inr (.inr (.inl ⟨q0, q1, q2, ⟨hsz, q3⟩, ?_⟩)))
                      rcases hb2 with ((h | h) | h) | h
                      · exact absurd h q0
                      · exact absurd h q1
                      · exact absurd (by rw [h.2]; rfl) q3
                      · exact h
                  · refine .inr (.inr (.inr (.inr ⟨q0, q1, q2, ?_⟩)))
                    rcases hb2 with ((h | h) | h) | h
                    · exact absurd h q0
                    · exact absurd h q1
                    · exact absurd h.1 q2
                    · exact h
            have bE := bW.trans (hb.mono (by omega))
            clear hbad hsp hpb ho hd
            rcases hcs with q0 | ⟨q0, q1⟩ | ⟨q0, q1, q2, hsz, q3⟩ | ⟨q0, q1, q2, ⟨hsz, q3⟩, q4⟩ | ⟨q0, q1, q2, q4⟩
            all_goals go_wp2_with (fail)
            all_goals (try rw [Exit.noGoto_ret])
            all_goals go_ret2
            all_goals exact ⟨ret_v (by rw [e1, e2]; rfl), bE⟩
          · have hsz : 0 < t.size := by
              rcases Nat.eq_zero_or_pos t.size with h | h
              · exact absurd (List.eq_nil_of_length_eq_zero (by simpa using h)) hne.out
              · exact h
            have hgd : d ≠ 0 ∧ ¬ 7 < d ∧ (1 < d → ¬ t[0].toNat = 48) ∧ d ≠ t.size := by
              have hb2 := hbad
              unfold badP at hb2
              have hh := head_at hsz
              have hln : t.data.toList.length = t.size := by simp
              rw [hd.out, hh, hln] at hb2
              simp only [Bool.or_eq_true, Bool.and_eq_true, decide_eq_true_eq, beq_iff_eq, not_or, not_and, Option.some.injEq] at hb2
              refine ⟨hb2.1.1.1, hb2.1.1.2, fun q h => hb2.1.2 q ?_, hb2.2⟩
              exact UInt8.toNat_inj.1 h
            obtain ⟨q0, q1, q2, q4⟩ := hgd
            go_upto_region 10 with (fail)
            go_cut [58] (fun a wx => a = .bool false ∧ wx = wc)
            case first =>
              by_cases q3 : 1 < d
              · have q5 := q2 q3
                go_wp2_with (fail)
                go_meet
                exact ⟨by first | rfl | (simp; omega), rfl⟩
              · go_wp2_with (fail)
                go_meet
                exact ⟨by first | rfl | (simp; omega), rfl⟩
            case rest =>
              obtain ⟨rfl, hwc⟩ := hcut
              subst hwc
              have q5 : d < t.size := by omega
              have hA := atoi_pref hd.out q0
              obtain ⟨V, hV⟩ : ∃ V, Hid (valD (t.data.toList.take d) = V) := ⟨_, rfl⟩
              rw [hV.out] at hA
              have hl18 : (t.extract 0 d).size ≤ 18 := by simp [ByteArray.size_extract]; omega
              clear q2
              go_upto_block 4 with (go_at_call 47; refine (Tryd.strconv_Atoi _ _ hl18 hA _).mono ?_; rintro e w2 ⟨rfl, hw2⟩)
              have b2 : Below wc.heap.size wc w2 := by
                obtain ⟨x, rfl⟩ := hw2
                exact Lib.bytesWorld_below _ _ _
              have hz2 := b2.size
              have ho2 := ho.below b2
              have hb2 : Below (w1.heap.size + 1) W1 w2 := hb.trans (b2.mono (by omega))
              obtain ⟨b, hbv⟩ : ∃ b : UInt8, Hid (t[d] = b) := ⟨t[d], Lib.hid rfl⟩
              rw [hbv.out]
              go_wp2
              obtain ⟨gO, hgO⟩ : ∃ gO : Nat, Hid (gO = gk) := ⟨_, rfl⟩
              go_loopg [5, 6] 4 (fun g a c wr => ∃ m : Nat, a = .int .i64 m ∧ c = .slice A6 parts.length c6 ∧ nx ≤ m ∧ m ≤ 4 ∧ 4 - m ≤ g ∧ Hid (findU 4 nx b = findU 4 m b) ∧ Below w2.heap.size w2 wr)
              case atStart => exact ⟨nx, rfl, rfl, Nat.le_refl _, hnx, by omega, rfl, Below.refl _ _⟩
              case round =>
                obtain ⟨m, rfl, rfl, hm1, hm2, hmg, hfu, hbr⟩ := hrel
                have hzr := hbr.size
                by_cases hm4 : m < 4
                · have hU : wr.heap[w1.heap.size]? = some (.cells #[.int .u8 100, .int .i64 86400, .int .u8 104, .int .i64 3600, .int .u8 109, .int .i64 60, .int .u8 115, .int .i64 1] 73) := by
                    rw [hbr.block _ (by omega), hb2.block _ (by omega), HW1.out]
                    exact heap_alloc_new _ _
                  have c0 : wr.cell? ⟨w1.heap.size, m * 2, none⟩ = some (.int .u8 (sg m).toNat) := by
                    rw [Lib.cell_of_heap hU]
                    rcases m with _ | _ | _ | _ | m
                    · rfl
                    · rfl
                    · rfl
                    · rfl
                    · omega
                  have c1 : wr.cell? ⟨w1.heap.size, m * 2 + 1, none⟩ = some (.int .i64 (tk m)) := by
                    rw [Lib.cell_of_heap hU]
                    rcases m with _ | _ | _ | _ | m
                    · rfl
                    · rfl
                    · rfl
                    · rfl
                    · omega
                  clear hU
                  by_cases hsg : sg m = b
                  · have he8 : (sg m).toNat = b.toNat := by rw [hsg]
                    have hfs : Hid (findU 4 nx b = some m) := by
                      show _ = _
                      rw [hfu.out]
                      unfold findU
                      rw [if_pos hm4, if_pos (by simpa using hsg)]
                    have ho3 := ho2.below hbr
                    have hVb : V < 10000000 := by
                      have h1 := valD_lt (l := t.data.toList.takeWhile isD) (fun b hb => (List.all_eq_true.1 (List.all_takeWhile)) b hb) 0
                      have h2 : (t.data.toList.takeWhile isD).length = d := hd.out
                      have h3 : t.data.toList.take d = t.data.toList.takeWhile isD := by rw [← hd.out]; exact dgs_take _
                      rw [← h3] at h1
                      have h4 : valD (t.data.toList.take d) < (0 + 1) * 10 ^ (t.data.toList.take d).length := h1
                      rw [hV.out, h3, h2] at h4
                      have h5 : 10 ^ d ≤ 10 ^ 7 := Nat.pow_le_pow_right (by omega) (by omega)
                      omega
                    have htk : tk m ≤ 86400 := by
                      rcases m with _ | _ | _ | _ | m
                      · decide
                      · decide
                      · decide
                      · decide
                      · omega
                    have hprod : V * tk m ≤ 863999913600 := by
                      have := Nat.mul_le_mul (show V ≤ 9999999 by omega) htk
                      omega
                    go_upto_region 19 with (fail)
                    have b3 : Below (w1.heap.size + 1) W1 wr := hb2.trans (hbr.mono (by omega))
                    go_wp2_with (at_builtin; refine wp_app (news := ints [((V : Int) * (tk m : Int))]) (n := parts.length) (m := 1) rfl rfl Tryd.underlying64 Tryd.info_int rfl (by omega) (w1.heap.size + 1) rfl ((ho3.alloc _).alloc _) rfl (Reads.made_one (by simp)) (ints_one _) ?_ ?_ ?_ ?_; rotate_left 3; intro v4 w4 o4 k4 _)
                    · go_roundg (gO - 1)
                      case measure => have hq_ := hgO.out; omega
                      case rel =>
                        have hbf : badP t.data.toList = false := by simpa using hbad
                        have hst := parse_step hnx hne.out hbf hd.out hV.out (by rw [get_at q5, hbv.out]; exact hfs.out) hsp.out
                        refine ⟨t.extract (d + 1) t.size, m + 1, parts ++ [V * tk m], rfl, by go_num, by omega, ?_, ?_, ?_, ?_, ?_, Lib.hid hst, ?_⟩
                        · rw [hgO.out]; simp [ByteArray.size_extract]; omega
                        · simp [ByteArray.size_extract]; omega
                        · rw [ints_snoc, List.length_append]; exact o4
                        · simp; omega
                        · show ∀ p ∈ parts ++ [V * tk m], p ≤ 863999913600
                          intro p hp
                          rcases List.mem_append.1 hp with h | h
                          · exact hpb.out p h
                          · rw [List.mem_singleton] at h; rw [h]; exact hprod
                        · exact k4.below ((b3.alloc (by omega) _).alloc (by simp; omega) _) (Nat.le_refl _) (by simp; omega)
                    · unfold maxLen; omega
                    · omega
                    · simp; omega
                  · have hne8 : ¬ (sg m).toNat = b.toNat := fun h => hsg (UInt8.toNat_inj.1 h)
                    go_wp2_with (fail)
                    go_roundg (gk - 1)
                    case measure => omega
                    case rel => exact ⟨m + 1, by go_num, rfl, by omega, by omega, by omega, hfu.out.trans (findU_skip hm4 hsg), hbr.alloc (Nat.le_trans hzr (Nat.le_refl _)) _⟩
                · obtain rfl : m = 4 := by omega
                  have hres : Hid (hrsV s.data.toList = none) := by
                    show hrsV _ = _
                    unfold hrsV
                    rw [if_neg (by rw [← Lib.toList_data]; exact h0)]
                    have hno : findU 4 nx (t.data.toList.getD (dgs t.data.toList) 0) = none := by rw [hd.out, get_at q5, hbv.out, hfu.out]; rfl
                    exact hsp.out.trans (by rw [parseQ_no hnx hne.out hno]; rfl)
                  have e1 : hrsN s.data.toList = 0 := by unfold hrsN; rw [hres.out]
                  have e2 : hrsE s.data.toList = 60 := by unfold hrsE; rw [hres.out]
                  have bE : Below w.heap.size w wr := bW.trans ((hb2.mono (by omega)).trans (hbr.mono (by omega)))
                  clear hsp hpb ho ho2 hd hres
                  go_wp2_with (fail)
                  try rw [Exit.noGoto_ret]
                  go_ret2
                  exact ⟨ret_v (by rw [e1, e2]; rfl), bE⟩
end Go.Proofs.YtenonfoocjcdmaaDoor
