/- Layer 18: ShareAlone walked. -/
import Derived.Test.YtmkmmggimokagaaGreatDoorR3
import Derived.Test.YtmkmmggimokagaaGreatDoorSrP2
import Derived.Test.YtmkmmggimokagaaGreatDoorT1
import Derived.Test.YtmkmmggimokagaaGreatDoorT2
import Derived.Test.YtmkmmggimokagaaGreatDoorQ3
import Derived.Test.YtmkmmggimokagaaGreatDoorQ9
namespace Go.Proofs.YtmkmmggimokagaaGreatDoor
set_option linter.unusedVariables false
set_option linter.unusedSimpArgs false
open Go.RowKit
theorem tabS_in {w : World} {A : Option Addr} {n : Nat} {l : List JR} (hr : Reads w w.heap.size 20 A n (recs jrC l)) (hl : ∀ r ∈ l, JbIn w r.x r.A r.c r.A2 r.c2) (hf : fewT15 (jobs l) = true) : TbAt w w.heap.size A n l := by
  unfold fewT15 at hf
  simp only [Bool.and_eq_true, decide_eq_true_eq, List.all_eq_true] at hf
  refine ⟨hr, fun r h => (hl r h).at_ (hf.2 _ (by unfold jobs; exact List.mem_map_of_mem h)), ?_⟩
  have h1 := hf.1
  rw [jobs_len, (hr.rec_len jrC_len (by omega)).out] at h1
  omega
set_option maxHeartbeats 2000000 in
set_option maxRecDepth 100000 in
theorem few18_any (us : List U) (U : Option Addr) (nu cu : Nat) (l : List JR) (A : Option Addr) (n c : Nat) (w : World) (hr : Reads w w.heap.size 20 A n (recs jrC l)) (hnu : nu ≤ maxLen) (hu : Reads w w.heap.size 4 U nu (recs ucells us)) :
    Calls Tryz.prog 9 #[.slice A n c, .slice U nu cu] w fun e w' => e = .returned (.bool (fewT15 (jobs l) && fewV us)) ∧ Below w.heap.size w w' := by
  have f1 := Lib.hid (few15_any l A n c w.heap.size w hr (Nat.le_refl _))
  have f2 := Lib.hid (fun v (hv : Below w.heap.size w v) => few_any U nu cu w.heap.size us v hnu (hu.below hv))
  clear hr hu
  cases z : fewT15 (jobs l) with
  | false =>
    rw [z] at f1
    clear f2
    go_enter Tryz.func9, Tryz.ntmps9
    go_wp2_with (fail)
    refine f1.out.mono ?_; rintro e w1 ⟨rfl, hw1⟩
    go_wp2
    go_ret
    exact ⟨rfl, hw1⟩
  | true =>
    rw [z] at f1
    obtain ⟨z, hz⟩ : ∃ z, fewV us = z := ⟨_, rfl⟩
    rw [hz] at f2 ⊢
    clear hz
    go_enter Tryz.func9, Tryz.ntmps9
    go_wp2_with (fail)
    refine f1.out.mono ?_; rintro e w1 ⟨rfl, hw1⟩
    have B1 := Lib.hid hw1
    go_wp2_with (fail)
    refine (f2.out _ hw1).mono ?_; rintro e w2 ⟨rfl, rfl⟩
    go_wp2
    go_ret
    exact ⟨by rw [Bool.true_and]; rfl, B1.out⟩
theorem ints_tail (l : List Int) : ints l.tail = (ints l).tail := by unfold ints; rw [List.map_tail]
/-- what stands behind the first cell -/
theorem Reads.tail1 {w : World} {B g o n : Nat} {l : List Int} (h : Reads w B 1 (some ⟨g, o, none⟩) n (ints l)) (hn : 0 < n) : Reads w B 1 (some ⟨g, o + 1, none⟩) (n - 1) (ints l.tail) := by
  obtain ⟨b, p, e, hb, hc⟩ := h.plain hn (by omega)
  simp only [Option.some.injEq, Addr.mk.injEq, and_true] at e
  obtain ⟨rfl, rfl⟩ := e
  have hl := h.1
  refine ⟨by rw [ints_tail, List.length_tail, hl]; omega, fun _ => ⟨_, rfl, hb, fun j u hu => ?_⟩⟩
  rw [ints_tail, List.getElem?_tail] at hu
  have := hc (j + 1) u hu
  have e : (Addr.add ⟨g, o + 1, none⟩ j) = ⟨g, o + (j + 1), none⟩ := by
    have : o + (j + 1) = o + 1 + j := by omega
    rw [this]
    unfold Addr.add
    split <;> simp_all
  rw [e]; exact this
theorem sameS_yes {w : World} {A A2 : Option Addr} {n c c2 : Nat} {l : List Int} (hr : Reads w w.heap.size 1 A n (ints l)) (hr2 : Reads w w.heap.size 1 A2 n (ints l)) (hn : n ≤ 1000000) :
    Calls Tryz.prog 12 #[.slice A n c, .slice A2 n c2] w fun e w' => e = .returned (.bool true) ∧ Below w.heap.size w w' :=
  (rsame_any A A2 n n c c2 w.heap.size l l w hr hr2 hn hn (Nat.le_refl _)).mono (fun e w' h => ⟨by rw [h.1]; simp, h.2⟩)
set_option maxHeartbeats 4000000 in
set_option maxRecDepth 100000 in
theorem shareAlone_walk (l : List JR) (A : Option Addr) (n c : Nat) (us : List U) (U : Option Addr) (nu cu : Nat) (ids : List Int) (I : Option Addr) (ni ci : Nat) (w : World) (hr : Reads w w.heap.size 20 A n (recs jrC l)) (hl : ∀ r ∈ l, JbIn w r.x r.A r.c r.A2 r.c2) (hnc : n ≤ c) (hcm : c ≤ maxLen)
    (hnu : nu ≤ maxLen) (hu : Reads w w.heap.size 4 U nu (recs ucells us)) (hi : Reads w w.heap.size 1 I ni (ints ids)) (hni : ni ≤ maxLen) :
    Calls Tryz.prog 4 #[.slice A n c, .slice U nu cu, .slice I ni ci] w fun e w' => e = .returned (.bool true) ∧ Below w.heap.size w w' := by
  have f1 := Lib.hid (few18_any us U nu cu l A n c w hr hnu hu)
  cases z1 : fewT15 (jobs l) && fewV us
  case false =>
    rw [z1] at f1
    clear hr hl hu hi
    go_enter Tryz.func4, Tryz.ntmps4
    go_wp2_with (fail)
    refine f1.out.mono ?_; rintro e w1 ⟨rfl, hw1⟩
    go_wp2_with (fail)
    refine (awake18_any _).mono ?_; rintro e wz ⟨rfl, hwz⟩
    go_wp2
    go_ret
    exact ⟨rfl, bt hw1 hwz⟩
  rw [z1] at f1
  have z1' : fewT15 (jobs l) = true := by simp at z1; exact z1.1
  have HT := Lib.hid (tabS_in hr hl z1')
  by_cases h100 : 100 < ni
  · have t1 : decide ((100 : Int) < (ni : Int)) = true := by simp; omega
    clear hr hl hu hi z1 z1'
    go_enter Tryz.func4, Tryz.ntmps4
    go_wp2_with (fail)
    refine f1.out.mono ?_; rintro e w1 ⟨rfl, hw1⟩
    go_wp2_with (fail)
    refine (awake18_any _).mono ?_; rintro e wz ⟨rfl, hwz⟩
    go_wp2
    go_ret
    exact ⟨rfl, bt hw1 hwz⟩
  have hn100 : ni ≤ 100 := by omega
  have t1 : decide ((100 : Int) < (ni : Int)) = false := by simp; omega
  have t1' : ¬ ((100 : Int) < (ni : Int)) := by omega
  have qc := Lib.hid (fun v (hv : Below w.heap.size w v) => tcheck_any l A n c w.heap.size v (HT.out.below hv) hv.size)
  clear h100 z1 z1'
  cases hz : tabB (jobs l)
  case false =>
    rw [tabE_f hz] at qc
    clear hr hl hu hi
    go_enter Tryz.func4, Tryz.ntmps4
    go_wp2_with (fail)
    refine f1.out.mono ?_; rintro e w1 ⟨rfl, hw1⟩
    have B1 := Lib.hid hw1
    go_wp2_with (fail)
    refine (qc.out _ B1.out).mono ?_; rintro e w2 ⟨rfl, hw2⟩
    go_wp2_with (fail)
    refine (awake18_any _).mono ?_; rintro e wz ⟨rfl, hwz⟩
    go_wp2
    go_ret
    exact ⟨rfl, bt (bt hw1 hw2) hwz⟩
  rw [tabE_t hz] at qc
  have qo := Lib.hid (fun (xs : List Int) X nx cx v (hv : Below w.heap.size w v) (hx : Reads v v.heap.size 1 X nx (ints xs)) (hnx : nx ≤ 1000000) => order_yes us U nu cu l A n c v.heap.size xs X nx cx v (HT.out.up hv) (Nat.le_refl _) hz ((hu.below hv).more hv.size) hnu hx hnx)
  have qf := Lib.hid (fun (id : Int) v (hv : Below w.heap.size w v) => find_any l A n c w.heap.size id v (HT.out.below hv) hv.size hnc hcm)
  have qh := Lib.hid (fun (x y : JR) v (hv : Below w.heap.size w v) => ahead_any U nu cu w.heap.size us x y v hnu (hu.below hv) hv.size)
  obtain ⟨sh, hsh⟩ : ∃ s, shU us = s := ⟨_, rfl⟩
  rw [hsh] at qo qh
  clear hsh
  have p1 : orderP sh (jobs l) ids.reverse = orderP sh (jobs l) ids := order_turned _ _ _
  have p2 : orderP sh (jobs l) (orderP sh (jobs l) ids).tail = (orderP sh (jobs l) ids).tail := order_tail (tab_nodup hz)
  have p3 := Lib.hid (fun (i : Nat) (x : Int) (h : (orderP sh (jobs l) ids)[i]? = some x) => order_found hz h)
  have p4 := Lib.hid (fun (i : Nat) (x y : Int) (hy : (orderP sh (jobs l) ids)[i]? = some y) (hx : (orderP sh (jobs l) ids)[i + 1]? = some x) => order_next hz hy hx)
  have hm : (orderP sh (jobs l) ids).length ≤ 1000 := by
    have h1 := order_bound sh (jobs l) ids
    rw [jobs_len, HT.out.len] at h1
    have := HT.out.2.2
    omega
  have q1 := Lib.hid (fun v (hv : Below w.heap.size w v) => qo.out ids I ni ci v hv ((hi.below hv).more hv.size) (by omega))
  have q2 := Lib.hid (fun X cx v (hv : Below w.heap.size w v) (hx : Reads v v.heap.size 1 X ni (ints ids.reverse)) => qo.out ids.reverse X ni cx v hv hx (by omega))
  have q3 := Lib.hid (fun X nx cx v (hv : Below w.heap.size w v) (hx : Reads v v.heap.size 1 X nx (ints (orderP sh (jobs l) ids).tail)) (hnx : nx ≤ 1000000) => qo.out (orderP sh (jobs l) ids).tail X nx cx v hv hx hnx)
  rw [p1] at q2
  rw [p2] at q3
  clear qo p1 p2
  obtain ⟨O, hO⟩ : ∃ O, orderP sh (jobs l) ids = O := ⟨_, rfl⟩
  rw [hO] at p3 p4 hm q1 q2 q3
  clear hO hr hl hu
  have HI := Lib.hid hi
  have hlen : Hid (ids.length = ni) := by have := hi.1; rw [Nat.mul_one] at this; show _ = _; simpa [ints] using this
  obtain ⟨m, hmO⟩ : ∃ m, Hid (O.length = m) := ⟨_, Lib.hid rfl⟩
  have hm2 : m ≤ 1000 := by have := hmO.out; omega
  clear hi hm hz
  go_enter Tryz.func4, Tryz.ntmps4
  go_wp2_with (fail)
  refine f1.out.mono ?_; rintro e w1 ⟨rfl, hw1⟩
  have B1 := Lib.hid hw1
  clear hw1 f1
  go_wp2_with (fail)
  refine (qc.out _ B1.out).mono ?_; rintro e w2 ⟨rfl, hw2⟩
  have B2 := Lib.hid (bt B1.out hw2)
  clear hw2 B1 qc
  go_wp2_with (fail)
  refine (q1.out _ B2.out).mono ?_; rintro e w3 ⟨v7, rfl, ho7, hw3⟩
  have B3 := Lib.hid (bt B2.out hw3)
  obtain ⟨A7, c7, rfl, hc7, hcm7⟩ := ho7.slice
  rw [hmO.out] at ho7 hc7 ⊢
  have R7 := Lib.hid ho7.reads
  clear ho7 hw3 B2 q1
  go_wp2
  go_loopw [8, 9] (fun t i wr => ∃ j : Nat, j ≤ ni ∧ i = .int .i64 ((j : Int) - 1) ∧ Hid (Below w3.heap.size w3 wr) ∧ w3.heap.size ≤ wr.heap.size ∧ Hid (Owns wr w3.heap.size 3 1 t (ni - j) (ints (ids.reverse.take (ni - j))))) (fun _ i _ => (intOf i + 1).toNat)
  case atStart => exact ⟨ni, Nat.le_refl _, rfl, Below.refl _ _, Nat.le_refl _, (by rw [Nat.sub_self]; exact Owns.nil)⟩
  case round =>
    obtain ⟨j, hj, rfl, hbw, hsz, HO⟩ := hrel
    cases j with
    | zero =>
      have e1 : (((0 : Nat) : Int) - 1) = -1 := rfl
      rw [e1]
      rw [Nat.sub_zero, List.take_of_length_le (by rw [List.length_reverse, hlen.out]; omega)] at HO
      obtain ⟨A8, c8, rfl, hc8, hcm8⟩ := HO.out.slice
      have R8 := Lib.hid HO.out.reads
      have B4 := Lib.hid (bt B3.out hbw.out)
      clear HO
      go_wp2_with (fail)
      refine (q2.out _ _ _ B4.out R8.out).mono ?_; rintro e w5 ⟨v9, rfl, ho9, hw5⟩
      obtain ⟨A9, c9, rfl, hc9, hcm9⟩ := ho9.slice
      rw [hmO.out] at ho9 hc9 ⊢
      have C5 := Lib.hid (bt hbw.out hw5)
      have q6 := Lib.hid (sameS_yes (c := c7) (c2 := c9) ((R7.out.below C5.out).more C5.out.size) ho9.reads (by omega))
      clear ho9 hw5 R8 hbw q2 B4
      go_wp2_with (fail)
      refine q6.out.mono ?_; rintro e w6 ⟨rfl, hw6⟩
      have C6 := Lib.hid (bt C5.out hw6)
      have B6 := Lib.hid (bt B3.out C6.out)
      clear q6 hw6 C5
      go_wp2
      go_loopw [10] (fun i wr => ∃ k : Nat, k ≤ m ∧ i = .int .i64 k ∧ Hid (Below w6.heap.size w6 wr)) (fun i _ => m - (intOf i).toNat)
      case atStart => exact ⟨0, Nat.zero_le _, rfl, Below.refl _ _⟩
      case round =>
        obtain ⟨k, hk, rfl, hb2⟩ := hrel
        have BW := Lib.hid (bt B6.out hb2.out)
        have CW := Lib.hid (bt C6.out hb2.out)
        by_cases hlt : k < m
        · obtain ⟨g7, o7, rfl, hg7, hc⟩ := (R7.out.below CW.out).plain (by omega) (by omega)
          have hg8 : g7 < wr.heap.size := Nat.lt_of_lt_of_le hg7 CW.out.size
          obtain ⟨x, hx⟩ : ∃ x, O[k]? = some x := ⟨_, List.getElem?_eq_getElem (by have := hmO.out; omega)⟩
          have cx := hc k (.int .i64 x) (by unfold ints; rw [List.getElem?_map, hx]; rfl)
          obtain ⟨jx, hjx⟩ := p3.out k x hx
          have qx := Lib.hid (qf.out x wr BW.out)
          have hi0 : (0 : Int) ≤ (k : Int) := by omega
          have hi1 : (k : Int) < (m : Int) := by omega
          have t0 : decide ((k : Int) < (m : Int)) = true := by simp; omega
          have HX := Lib.hid hx
          have HJX := Lib.hid hjx
          have HC := Lib.hid hc
          rw [hjx] at qx
          clear hx hjx hc
          go_wp2_with (fail)
          refine qx.out.mono ?_; rintro e w7 ⟨r, hrx, rfl, _, _, hw7⟩
          obtain ⟨W7, hs7, j7, b7, z7⟩ := boxed w7 (jrC r).toArray
          have HRX := Lib.hid hrx
          have I7 := Lib.hid (jrA_info r)
          have L7 := Lib.hid (jrA_20 r)
          have A7' := Lib.hid (jrA_all r)
          have qh1 := Lib.hid (fun (y : JR) v hv => qh.out y r v hv)
          have ST7 := Lib.hid hs7
          have J7 := Lib.hid j7
          have D7 := Lib.hid (bt hw7 b7)
          have E7 := Lib.hid (bt BW.out D7.out)
          obtain ⟨xs, hxs⟩ : ∃ q, (jrC r).toArray = q := ⟨_, rfl⟩
          rw [hxs] at I7 L7 A7' qh1 ST7 J7 ⊢
          clear hxs hs7 j7 b7 hw7 qx hrx
          cases k with
          | zero =>
            go_wp2_with (first | (refine wpList_store_row rfl 29 _ _ rfl (w7.heap.size) xs rfl rfl 29 _ (heap_alloc_new w7 _) I7.out (by show 20 = _; exact L7.out) A7'.out ?_; rw [ST7.out]))
            go_roundw
            case rel => exact ⟨0 + 1, by omega, by simp, by show Below _ _ _; exact bt hb2.out D7.out⟩
            case measure => simp [intOf]; omega
          | succ k' =>
            obtain ⟨y, hy⟩ : ∃ y, O[k']? = some y := ⟨_, List.getElem?_eq_getElem (by have := hmO.out; omega)⟩
            have cy0 := HC.out k' (.int .i64 y) (by unfold ints; rw [List.getElem?_map, hy]; rfl)
            have cy : W7.cell? ⟨g7, o7 + k', none⟩ = some (.int .i64 y) := (D7.out.cell (p := ⟨g7, o7 + k', none⟩) hg8).trans cy0
            obtain ⟨jy, hjy⟩ := p3.out k' y hy
            have qy := Lib.hid (qf.out y W7 E7.out)
            have HAH := Lib.hid (p4.out k' x y hy HX.out)
            rw [hjy] at qy
            rw [hjy, HJX.out] at HAH
            have h0 : (0 : Int) < (k' : Int) + 1 := by omega
            have t2 : decide ((0 : Int) < (k' : Int) + 1) = true := decide_eq_true h0
            have h1 : (k' : Int) < (m : Int) := by omega
            have h2 : (0 : Int) ≤ (k' : Int) := by omega
            clear cy0 hjy hy
            go_wp2_with (first | (refine wpList_store_row rfl 29 _ _ rfl (w7.heap.size) xs rfl rfl 29 _ (heap_alloc_new w7 _) I7.out (by show 20 = _; exact L7.out) A7'.out ?_; rw [ST7.out]))
            refine qy.out.mono ?_; rintro e w8 ⟨s, hsx, rfl, _, _, hw8⟩
            obtain ⟨W8, hs8, j8, b8, z8⟩ := boxed w8 (jrC s).toArray
            have I8 := Lib.hid (jrA_info s)
            have L8 := Lib.hid (jrA_20 s)
            have A8' := Lib.hid (jrA_all s)
            have ST8 := Lib.hid hs8
            have J8 := Lib.hid j8
            have D8 := Lib.hid (bt hw8 b8)
            have K7 := Lib.hid ((D8.out.block _ z7).trans J7.out)
            have E8 := Lib.hid (bt E7.out D8.out)
            have qa := qh1.out s W8 E8.out
            rw [hsx, HRX.out, HAH.out] at qa
            have QA := Lib.hid qa
            obtain ⟨ys, hys⟩ : ∃ q, (jrC s).toArray = q := ⟨_, rfl⟩
            rw [hys] at I8 L8 A8' ST8 J8 QA ⊢
            clear hys hs8 j8 b8 hw8 qy hsx qa cy cx
            go_wp2_with (first | (refine wpList_store_row rfl 29 _ _ rfl (w8.heap.size) ys rfl rfl 29 _ (heap_alloc_new w8 _) I8.out (by show 20 = _; exact L8.out) A8'.out ?_; rw [ST8.out]) | (refine wpList_load_row rfl 29 _ rfl (w7.heap.size) rfl 29 _ (0, 0) _ K7.out Tryz.underlying29 rfl I7.out ?_) | (refine wpList_load_row rfl 29 _ rfl (w8.heap.size) rfl 29 _ (0, 0) _ J8.out Tryz.underlying29 rfl I8.out ?_))
            refine QA.out.mono ?_; rintro e w9 ⟨rfl, hw9⟩
            have F9 := Lib.hid (bt hb2.out (bt D7.out (bt D8.out hw9)))
            clear hw9 QA
            go_wp2
            go_roundw
            case rel => exact ⟨k' + 1 + 1, by omega, by simp, F9.out⟩
            case measure => simp [intOf]; omega
        · obtain rfl : k = m := by omega
          have t0 : decide ((k : Int) < (k : Int)) = false := by simp
          by_cases hm0 : k = 0
          · subst hm0
            go_wp2_with (fail)
            refine (awake18_any _).mono ?_; rintro e wz ⟨rfl, hwz⟩
            go_wp2
            go_ret
            exact ⟨rfl, bt BW.out hwz⟩
          · obtain ⟨g7, o7, rfl, hg7, hc⟩ := (R7.out.below CW.out).plain (by omega) (by omega)
            have RT := Lib.hid (Reads.tail1 (R7.out.below CW.out) (show 0 < k by omega))
            have HTL : Hid (O.tail.length = k - 1) := by show _ = _; rw [List.length_tail, hmO.out]
            have t2 : ((k : Int) == 0) = false := by simpa using hm0
            have t3 : (1 : Int) ≤ (k : Int) := by omega
            have t4 : 1 ≤ k := by omega
            by_cases hc1 : c7 = 1
            · have RT : Hid (Reads wr w3.heap.size 1 (some ⟨g7, o7, none⟩) (k - 1) (ints O.tail)) := by
                show Reads _ _ _ _ _ _
                have h1 := RT.out
                have e2 : k - 1 = 0 := by omega
                rw [e2] at h1 ⊢
                exact ⟨h1.1, fun h => absurd h (by omega)⟩
              have q4 := Lib.hid (fun v (hv : Below wr.heap.size wr v) => q3.out (some ⟨g7, o7, none⟩) (k - 1) 0 v (bt BW.out hv) ((RT.out.below (hv.mono CW.out.size)).more (Nat.le_trans CW.out.size hv.size)) (by omega))
              have q5 := Lib.hid (fun Aa ca v (ha : Reads v v.heap.size 1 Aa (k - 1) (ints O.tail)) (hv : Below wr.heap.size wr v) => sameS_yes (c := ca) (c2 := 0) ha ((RT.out.below (hv.mono CW.out.size)).more (Nat.le_trans CW.out.size hv.size)) (by omega))
              clear hc
              go_upto_region 23 with (fail)
              refine wp_region_held_drew (S := (fun w' => (∀ b o, b < wr.heap.size → w'.cell? ⟨b, o, none⟩ = wr.cell? ⟨b, o, none⟩) ∧ Below wr.heap.size wr w')) (by kernel_rfl) ?_ (fun hHeld => ?_)
              · (try dsimp only); (first | assumption | exact hk_drew | exact hk_call (by assumption) (by assumption) | exact hk_mk (by assumption) | (refine hk_alloc (by assumption) _) | (refine hk_row (by assumption) (by first | exact Nat.le_refl _ | exact hk_size (by assumption) | omega | (simp; done) | (simp; omega)) _) | (refine hk_set (by assumption) (by first | exact Nat.le_refl _ | exact hk_size (by assumption) | omega | (simp; done) | (simp; omega)) _))
              refine wpAnyH_take (i := 0) (oi := ⟨_, _, _, _, _, _⟩) (v := ?v_1) rfl (by kernel_rfl) (by kernel_rfl) (by kernel_rfl) (fun _ _ _ h => h) (Or.inl ⟨by rfl, ?hy_1⟩) (by assumption) ?r_1
              case hy_1 => (intro w_ hS_; (try dsimp only at hS_); go_simp; try with_reducible rfl)
              try simp only [Act.put, List.setIfInBounds_toArray, List.set_cons_zero, List.set_cons_succ]
              refine wpAnyH_take (i := 1) (oi := ⟨_, _, _, _, _, _⟩) (v := ?v_2) rfl (by kernel_rfl) (by kernel_rfl) (by kernel_rfl) (fun _ _ _ h => h) (Or.inl ⟨by rfl, ?hy_2⟩) (by assumption) ?r_2
              case hy_2 => (intro w_ hS_; (try dsimp only at hS_); go_simp; try with_reducible rfl)
              try simp only [Act.put, List.setIfInBounds_toArray, List.set_cons_zero, List.set_cons_succ]
              refine wpAnyH_take (i := 2) (oi := ⟨_, _, _, _, _, _⟩) (v := ?v_3) rfl (by kernel_rfl) (by kernel_rfl) (by kernel_rfl) (fun _ _ _ h => h) (Or.inl ⟨by rfl, ?hy_3⟩) (by assumption) ?r_3
              case hy_3 => (intro w_ hS_; (try dsimp only at hS_); go_simp; try with_reducible rfl)
              try simp only [Act.put, List.setIfInBounds_toArray, List.set_cons_zero, List.set_cons_succ]
              refine wpAnyH_take (i := 3) (oi := ⟨_, _, _, _, _, _⟩) (v := ?v_4) rfl (by kernel_rfl) (by kernel_rfl) (by kernel_rfl) (fun _ _ _ h => h) (Or.inl ⟨by rfl, ?hy_4⟩) (by assumption) ?r_4
              case hy_4 => (intro w_ hS_; (try dsimp only at hS_); go_simp; try with_reducible rfl)
              try simp only [Act.put, List.setIfInBounds_toArray, List.set_cons_zero, List.set_cons_succ]
              refine wpAnyH_take (i := 5) (oi := ⟨_, _, _, _, _, _⟩) (v := ?v_5) rfl (by kernel_rfl) (by kernel_rfl) (by kernel_rfl) (fun _ _ _ h => h) (Or.inl ⟨by rfl, ?hy_5⟩) (by assumption) ?r_5
              case hy_5 => (intro w_ hS_; (try dsimp only at hS_); go_simp; try with_reducible rfl)
              try simp only [Act.put, List.setIfInBounds_toArray, List.set_cons_zero, List.set_cons_succ]
              refine wpAnyH_take (i := 6) (oi := ⟨_, _, _, _, _, _⟩) (v := ?v_6) rfl (by kernel_rfl) (by kernel_rfl) (by kernel_rfl) (fun _ _ _ h => h) (Or.inl ⟨by rfl, ?hy_6⟩) (by assumption) ?r_6
              case hy_6 => (intro w_ hS_; (try dsimp only at hS_); go_simp; try with_reducible rfl)
              try simp only [Act.put, List.setIfInBounds_toArray, List.set_cons_zero, List.set_cons_succ]
              refine wpAnyH_ready (rs := [4]) (by kernel_rfl) (by simp) ?_
              refine AllReadyH.cons (o := ⟨_, _, _, _, _, _⟩) rfl (fun K hK => ?_) AllReadyH.nil
              go_simp
              (first | (go_at_call 11; refine (q4.out _ (And.right (by assumption))).mono ?_; rintro e wa ⟨va, rfl, hoa, ha⟩; rw [HTL.out] at hoa; obtain ⟨Aa, ca, rfl, hca, _⟩ := hoa.slice) | (go_at_call 12; refine (q5.out Aa ca wa hoa.reads (And.right (by assumption : (∀ b o, b < wr.heap.size → World.cell? wa ⟨b, o, none⟩ = wr.cell? ⟨b, o, none⟩) ∧ Below wr.heap.size wr wa))).mono ?_; rintro e wb ⟨rfl, hb⟩) | (go_at_call 7; refine (awake18_any _).mono ?_; rintro e wz ⟨rfl, hz⟩))
              try go_wp2_with (fail)
              refine hK.out _ _ ?_ (fun hHeld => ?_)
              · (try dsimp only); (first | exact hk_call (by assumption) (by assumption) | assumption | exact hk_mk (by assumption))
              clear hK K
              try simp only [Act.put, List.setIfInBounds_toArray, List.set_cons_zero, List.set_cons_succ]
              refine wpAnyH_ready (rs := [7]) (by kernel_rfl) (by simp) ?_
              refine AllReadyH.cons (o := ⟨_, _, _, _, _, _⟩) rfl (fun K hK => ?_) AllReadyH.nil
              go_simp
              (first | (go_at_call 11; refine (q4.out _ (And.right (by assumption))).mono ?_; rintro e wa ⟨va, rfl, hoa, ha⟩; rw [HTL.out] at hoa; obtain ⟨Aa, ca, rfl, hca, _⟩ := hoa.slice) | (go_at_call 12; refine (q5.out Aa ca wa hoa.reads (And.right (by assumption : (∀ b o, b < wr.heap.size → World.cell? wa ⟨b, o, none⟩ = wr.cell? ⟨b, o, none⟩) ∧ Below wr.heap.size wr wa))).mono ?_; rintro e wb ⟨rfl, hb⟩) | (go_at_call 7; refine (awake18_any _).mono ?_; rintro e wz ⟨rfl, hz⟩))
              try go_wp2_with (fail)
              refine hK.out _ _ ?_ (fun hHeld => ?_)
              · (try dsimp only); (first | exact hk_call (by assumption) (by assumption) | assumption | exact hk_mk (by assumption))
              clear hK K
              try simp only [Act.put, List.setIfInBounds_toArray, List.set_cons_zero, List.set_cons_succ]
              refine wpAnyH_take (i := 8) (oi := ⟨_, _, _, _, _, _⟩) (v := ?v_7) rfl (by kernel_rfl) (by kernel_rfl) (by kernel_rfl) (fun _ _ _ h => h) (Or.inl ⟨by rfl, ?hy_7⟩) (by assumption) ?r_7
              case hy_7 => (intro w_ hS_; (try dsimp only at hS_); go_simp; try with_reducible rfl)
              try simp only [Act.put, List.setIfInBounds_toArray, List.set_cons_zero, List.set_cons_succ]
              refine wpAnyH_ready (rs := [9]) (by kernel_rfl) (by simp) ?_
              refine AllReadyH.cons (o := ⟨_, _, _, _, _, _⟩) rfl (fun K hK => ?_) AllReadyH.nil
              go_simp
              (first | (go_at_call 11; refine (q4.out _ (And.right (by assumption))).mono ?_; rintro e wa ⟨va, rfl, hoa, ha⟩; rw [HTL.out] at hoa; obtain ⟨Aa, ca, rfl, hca, _⟩ := hoa.slice) | (go_at_call 12; refine (q5.out Aa ca wa hoa.reads (And.right (by assumption : (∀ b o, b < wr.heap.size → World.cell? wa ⟨b, o, none⟩ = wr.cell? ⟨b, o, none⟩) ∧ Below wr.heap.size wr wa))).mono ?_; rintro e wb ⟨rfl, hb⟩) | (go_at_call 7; refine (awake18_any _).mono ?_; rintro e wz ⟨rfl, hz⟩))
              try go_wp2_with (fail)
              refine hK.out _ _ ?_ (fun hHeld => ?_)
              · (try dsimp only); (first | exact hk_call (by assumption) (by assumption) | assumption | exact hk_mk (by assumption))
              clear hK K
              try simp only [Act.put, List.setIfInBounds_toArray, List.set_cons_zero, List.set_cons_succ]
              refine wpAnyH_take (i := 10) (oi := ⟨_, _, _, _, _, _⟩) (v := ?v_8) rfl (by kernel_rfl) (by kernel_rfl) (by kernel_rfl) (fun _ _ _ h => h) (Or.inl ⟨by rfl, ?hy_8⟩) (by assumption) ?r_8
              case hy_8 => (intro w_ hS_; (try dsimp only at hS_); go_simp; try with_reducible rfl)
              try simp only [Act.put, List.setIfInBounds_toArray, List.set_cons_zero, List.set_cons_succ]
              refine wpAnyH_take (i := 11) (oi := ⟨_, _, _, _, _, _⟩) (v := ?v_9) rfl (by kernel_rfl) (by kernel_rfl) (by kernel_rfl) (fun _ _ _ h => h) (Or.inl ⟨by rfl, ?hy_9⟩) (by assumption) ?r_9
              case hy_9 => (intro w_ hS_; (try dsimp only at hS_); go_simp; try with_reducible rfl)
              try simp only [Act.put, List.setIfInBounds_toArray, List.set_cons_zero, List.set_cons_succ]
              refine wpAnyH_done (by kernel_rfl) ?_ _
              (have bf := And.right (by assumption : (∀ b o, b < wr.heap.size → World.cell? _ ⟨b, o, none⟩ = wr.cell? ⟨b, o, none⟩) ∧ Below wr.heap.size wr _); go_wp2; go_ret; exact ⟨rfl, bt BW.out bf⟩)
            · have q4 := Lib.hid (fun v (hv : Below wr.heap.size wr v) => q3.out (some ⟨g7, o7 + 1, none⟩) (k - 1) (c7 - 1) v (bt BW.out hv) ((RT.out.below (hv.mono CW.out.size)).more (Nat.le_trans CW.out.size hv.size)) (by omega))
              have q5 := Lib.hid (fun Aa ca v (ha : Reads v v.heap.size 1 Aa (k - 1) (ints O.tail)) (hv : Below wr.heap.size wr v) => sameS_yes (c := ca) (c2 := (c7 - 1)) ha ((RT.out.below (hv.mono CW.out.size)).more (Nat.le_trans CW.out.size hv.size)) (by omega))
              clear hc
              go_upto_region 23 with (fail)
              refine wp_region_held_drew (S := (fun w' => (∀ b o, b < wr.heap.size → w'.cell? ⟨b, o, none⟩ = wr.cell? ⟨b, o, none⟩) ∧ Below wr.heap.size wr w')) (by kernel_rfl) ?_ (fun hHeld => ?_)
              · (try dsimp only); (first | assumption | exact hk_drew | exact hk_call (by assumption) (by assumption) | exact hk_mk (by assumption) | (refine hk_alloc (by assumption) _) | (refine hk_row (by assumption) (by first | exact Nat.le_refl _ | exact hk_size (by assumption) | omega | (simp; done) | (simp; omega)) _) | (refine hk_set (by assumption) (by first | exact Nat.le_refl _ | exact hk_size (by assumption) | omega | (simp; done) | (simp; omega)) _))
              refine wpAnyH_take (i := 0) (oi := ⟨_, _, _, _, _, _⟩) (v := ?v_10) rfl (by kernel_rfl) (by kernel_rfl) (by kernel_rfl) (fun _ _ _ h => h) (Or.inl ⟨by rfl, ?hy_10⟩) (by assumption) ?r_10
              case hy_10 => (intro w_ hS_; (try dsimp only at hS_); go_simp; try with_reducible rfl)
              try simp only [Act.put, List.setIfInBounds_toArray, List.set_cons_zero, List.set_cons_succ]
              refine wpAnyH_take (i := 1) (oi := ⟨_, _, _, _, _, _⟩) (v := ?v_11) rfl (by kernel_rfl) (by kernel_rfl) (by kernel_rfl) (fun _ _ _ h => h) (Or.inl ⟨by rfl, ?hy_11⟩) (by assumption) ?r_11
              case hy_11 => (intro w_ hS_; (try dsimp only at hS_); go_simp; try with_reducible rfl)
              try simp only [Act.put, List.setIfInBounds_toArray, List.set_cons_zero, List.set_cons_succ]
              refine wpAnyH_take (i := 2) (oi := ⟨_, _, _, _, _, _⟩) (v := ?v_12) rfl (by kernel_rfl) (by kernel_rfl) (by kernel_rfl) (fun _ _ _ h => h) (Or.inl ⟨by rfl, ?hy_12⟩) (by assumption) ?r_12
              case hy_12 => (intro w_ hS_; (try dsimp only at hS_); go_simp; try with_reducible rfl)
              try simp only [Act.put, List.setIfInBounds_toArray, List.set_cons_zero, List.set_cons_succ]
              refine wpAnyH_take (i := 3) (oi := ⟨_, _, _, _, _, _⟩) (v := ?v_13) rfl (by kernel_rfl) (by kernel_rfl) (by kernel_rfl) (fun _ _ _ h => h) (Or.inl ⟨by rfl, ?hy_13⟩) (by assumption) ?r_13
              case hy_13 => (intro w_ hS_; (try dsimp only at hS_); go_simp; try with_reducible rfl)
              try simp only [Act.put, List.setIfInBounds_toArray, List.set_cons_zero, List.set_cons_succ]
              refine wpAnyH_take (i := 5) (oi := ⟨_, _, _, _, _, _⟩) (v := ?v_14) rfl (by kernel_rfl) (by kernel_rfl) (by kernel_rfl) (fun _ _ _ h => h) (Or.inl ⟨by rfl, ?hy_14⟩) (by assumption) ?r_14
              case hy_14 => (intro w_ hS_; (try dsimp only at hS_); go_simp; try with_reducible rfl)
              try simp only [Act.put, List.setIfInBounds_toArray, List.set_cons_zero, List.set_cons_succ]
              refine wpAnyH_take (i := 6) (oi := ⟨_, _, _, _, _, _⟩) (v := ?v_15) rfl (by kernel_rfl) (by kernel_rfl) (by kernel_rfl) (fun _ _ _ h => h) (Or.inl ⟨by rfl, ?hy_15⟩) (by assumption) ?r_15
              case hy_15 => (intro w_ hS_; (try dsimp only at hS_); go_simp; try with_reducible rfl)
              try simp only [Act.put, List.setIfInBounds_toArray, List.set_cons_zero, List.set_cons_succ]
              refine wpAnyH_ready (rs := [4]) (by kernel_rfl) (by simp) ?_
              refine AllReadyH.cons (o := ⟨_, _, _, _, _, _⟩) rfl (fun K hK => ?_) AllReadyH.nil
              go_simp
              (first | (go_at_call 11; refine (q4.out _ (And.right (by assumption))).mono ?_; rintro e wa ⟨va, rfl, hoa, ha⟩; rw [HTL.out] at hoa; obtain ⟨Aa, ca, rfl, hca, _⟩ := hoa.slice) | (go_at_call 12; refine (q5.out Aa ca wa hoa.reads (And.right (by assumption : (∀ b o, b < wr.heap.size → World.cell? wa ⟨b, o, none⟩ = wr.cell? ⟨b, o, none⟩) ∧ Below wr.heap.size wr wa))).mono ?_; rintro e wb ⟨rfl, hb⟩) | (go_at_call 7; refine (awake18_any _).mono ?_; rintro e wz ⟨rfl, hz⟩))
              try go_wp2_with (fail)
              refine hK.out _ _ ?_ (fun hHeld => ?_)
              · (try dsimp only); (first | exact hk_call (by assumption) (by assumption) | assumption | exact hk_mk (by assumption))
              clear hK K
              try simp only [Act.put, List.setIfInBounds_toArray, List.set_cons_zero, List.set_cons_succ]
              refine wpAnyH_ready (rs := [7]) (by kernel_rfl) (by simp) ?_
              refine AllReadyH.cons (o := ⟨_, _, _, _, _, _⟩) rfl (fun K hK => ?_) AllReadyH.nil
              go_simp
              (first | (go_at_call 11; refine (q4.out _ (And.right (by assumption))).mono ?_; rintro e wa ⟨va, rfl, hoa, ha⟩; rw [HTL.out] at hoa; obtain ⟨Aa, ca, rfl, hca, _⟩ := hoa.slice) | (go_at_call 12; refine (q5.out Aa ca wa hoa.reads (And.right (by assumption : (∀ b o, b < wr.heap.size → World.cell? wa ⟨b, o, none⟩ = wr.cell? ⟨b, o, none⟩) ∧ Below wr.heap.size wr wa))).mono ?_; rintro e wb ⟨rfl, hb⟩) | (go_at_call 7; refine (awake18_any _).mono ?_; rintro e wz ⟨rfl, hz⟩))
              try go_wp2_with (fail)
              refine hK.out _ _ ?_ (fun hHeld => ?_)
              · (try dsimp only); (first | exact hk_call (by assumption) (by assumption) | assumption | exact hk_mk (by assumption))
              clear hK K
              try simp only [Act.put, List.setIfInBounds_toArray, List.set_cons_zero, List.set_cons_succ]
              refine wpAnyH_take (i := 8) (oi := ⟨_, _, _, _, _, _⟩) (v := ?v_16) rfl (by kernel_rfl) (by kernel_rfl) (by kernel_rfl) (fun _ _ _ h => h) (Or.inl ⟨by rfl, ?hy_16⟩) (by assumption) ?r_16
              case hy_16 => (intro w_ hS_; (try dsimp only at hS_); go_simp; try with_reducible rfl)
              try simp only [Act.put, List.setIfInBounds_toArray, List.set_cons_zero, List.set_cons_succ]
              refine wpAnyH_ready (rs := [9]) (by kernel_rfl) (by simp) ?_
              refine AllReadyH.cons (o := ⟨_, _, _, _, _, _⟩) rfl (fun K hK => ?_) AllReadyH.nil
              go_simp
              (first | (go_at_call 11; refine (q4.out _ (And.right (by assumption))).mono ?_; rintro e wa ⟨va, rfl, hoa, ha⟩; rw [HTL.out] at hoa; obtain ⟨Aa, ca, rfl, hca, _⟩ := hoa.slice) | (go_at_call 12; refine (q5.out Aa ca wa hoa.reads (And.right (by assumption : (∀ b o, b < wr.heap.size → World.cell? wa ⟨b, o, none⟩ = wr.cell? ⟨b, o, none⟩) ∧ Below wr.heap.size wr wa))).mono ?_; rintro e wb ⟨rfl, hb⟩) | (go_at_call 7; refine (awake18_any _).mono ?_; rintro e wz ⟨rfl, hz⟩))
              try go_wp2_with (fail)
              refine hK.out _ _ ?_ (fun hHeld => ?_)
              · (try dsimp only); (first | exact hk_call (by assumption) (by assumption) | assumption | exact hk_mk (by assumption))
              clear hK K
              try simp only [Act.put, List.setIfInBounds_toArray, List.set_cons_zero, List.set_cons_succ]
              refine wpAnyH_take (i := 10) (oi := ⟨_, _, _, _, _, _⟩) (v := ?v_17) rfl (by kernel_rfl) (by kernel_rfl) (by kernel_rfl) (fun _ _ _ h => h) (Or.inl ⟨by rfl, ?hy_17⟩) (by assumption) ?r_17
              case hy_17 => (intro w_ hS_; (try dsimp only at hS_); go_simp; try with_reducible rfl)
              try simp only [Act.put, List.setIfInBounds_toArray, List.set_cons_zero, List.set_cons_succ]
              refine wpAnyH_take (i := 11) (oi := ⟨_, _, _, _, _, _⟩) (v := ?v_18) rfl (by kernel_rfl) (by kernel_rfl) (by kernel_rfl) (fun _ _ _ h => h) (Or.inl ⟨by rfl, ?hy_18⟩) (by assumption) ?r_18
              case hy_18 => (intro w_ hS_; (try dsimp only at hS_); go_simp; try with_reducible rfl)
              try simp only [Act.put, List.setIfInBounds_toArray, List.set_cons_zero, List.set_cons_succ]
              refine wpAnyH_done (by kernel_rfl) ?_ _
              (have bf := And.right (by assumption : (∀ b o, b < wr.heap.size → World.cell? _ ⟨b, o, none⟩ = wr.cell? ⟨b, o, none⟩) ∧ Below wr.heap.size wr _); go_wp2; go_ret; exact ⟨rfl, bt BW.out bf⟩)
    | succ q =>
      have e1 : (((q + 1 : Nat) : Int) - 1) = (q : Int) := by omega
      rw [e1]
      obtain ⟨b, o, rfl, hbb, hc⟩ := (HI.out.below (B3.out.trans (hbw.out.mono B3.out.size))).plain (by omega) (by omega)
      obtain ⟨z, hz⟩ : ∃ z, ids[q]? = some z := ⟨_, List.getElem?_eq_getElem (by have := hlen.out; omega)⟩
      have c0 := hc q (.int .i64 z) (by unfold ints; rw [List.getElem?_map, hz]; rfl)
      obtain ⟨N, hN⟩ : ∃ N, Hid (ni - (q + 1) = N) := ⟨_, Lib.hid rfl⟩
      have HN : Hid (ids.reverse.take (ni - q) = ids.reverse.take N ++ [z]) := by
        show _ = _
        have e2 : ni - q = N + 1 := by have := hN.out; omega
        have hl1 := hlen.out
        have h5 : ids.reverse[N]? = some z := by
          rw [List.getElem?_reverse (by have := hN.out; omega), ← hz]
          congr 1
          have := hN.out; omega
        rw [e2, List.take_add_one, h5]; rfl
      have HN2 : Hid (ni - q = N + 1) := by show _ = _; have := hN.out; omega
      have hNl : N ≤ 100 := by have := hN.out; omega
      rw [hN.out] at HO
      obtain ⟨L, hL⟩ : ∃ L, ids.reverse.take N = L := ⟨_, rfl⟩
      rw [hL] at HO HN
      clear hL hN hc hz
      have hi0 : (0 : Int) ≤ (q : Int) := by omega
      have hi1 : (q : Int) < (ni : Int) := by omega
      have t0 : decide ((0 : Int) ≤ (q : Int)) = true := by simp
      go_wp2_with (at_builtin; refine app_i rfl rfl w3.heap.size rfl (HO.out.alloc _) (news := [z]) rfl (Reads.made wr [Value.int .i64 z] _) (by omega) (by simp only [World.size_alloc]; omega) ?_)
      intro v4 w4 o4 k4 _
      have kb4 := k4.below (hbw.out.alloc hsz _) (Nat.le_refl _) (by simp only [World.size_alloc]; omega)
      have KB := Lib.hid kb4
      have HZ := kb4.size
      have O5 := Lib.hid o4
      clear k4 o4 kb4
      go_wp2
      go_roundw
      case rel => exact ⟨q, by omega, rfl, KB.out, HZ, by rw [HN2.out, ← HN2.out, HN.out, HN2.out]; exact O5.out⟩
      case measure => simp [intOf]
end Go.Proofs.YtmkmmggimokagaaGreatDoor
