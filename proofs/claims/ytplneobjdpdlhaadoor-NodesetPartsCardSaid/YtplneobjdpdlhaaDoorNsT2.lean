/- Layer 9: Parse of the package walked. -/
import Derived.Test.YtplneobjdpdlhaaDoorNsT1
namespace Go.Proofs.YtplneobjdpdlhaaDoor
set_option linter.unusedVariables false
open Go.RowKit
theorem split_size : ∀ (k : Nat) (s : ByteArray), ∀ x ∈ Lib.splitB ⟨#[44]⟩ 0 k s, x.size ≤ s.size
  | 0, s, x, hx => by
    rw [Lib.splitB_zero] at hx
    rw [List.mem_singleton.1 hx]; exact Nat.le_refl _
  | k + 1, s, x, hx => by
    rcases Lib.indexB_cases s ⟨#[44]⟩ with h | ⟨i, h, hi⟩
    · rw [Lib.splitB_miss _ _ _ _ h] at hx
      rw [List.mem_singleton.1 hx]; exact Nat.le_refl _
    · rw [Lib.splitB_hit _ _ _ _ i h] at hx
      rcases List.mem_cons.1 hx with e | e
      · subst e; rw [ByteArray.size_extract]; omega
      · have := split_size k _ x e
        rw [ByteArray.size_extract] at this; omega
theorem split_len (t : ByteArray) : (partsB t).length = Lib.countB t ⟨#[44]⟩ + 1 := Lib.splitB_all ⟨#[44]⟩ (by decide) 0 _ t rfl
theorem split_count (t : ByteArray) : Lib.countB t ⟨#[44]⟩ ≤ t.size := Lib.countB_le ⟨#[44]⟩ (by decide) t.size t (Nat.le_refl _)
theorem split_any (t : ByteArray) (w : World) (hs : t.size ≤ 1000000) (hN : Nums w) :
    Calls Tryd.prog 31 #[.string t, .string ⟨#[44]⟩] w fun e w' => ∃ b, e = .returned (.slice (some ⟨b, 0, none⟩) (partsB t).length (partsB t).length) ∧ b < w'.heap.size ∧ Below w.heap.size w w' ∧ ∀ (k : Nat) x, (partsB t)[k]? = some x → w'.cell? ⟨b, k, none⟩ = some (.string x) := by
  obtain ⟨_, _, ⟨m, hm⟩, _, _, _⟩ := hN
  have hc : Calls Tryd.prog 31 #[.string t, .string ⟨#[44]⟩] w _ := Any.strings_Split { Tryd.laysM146 with } Tryd.laysM146.i9 t ⟨#[44]⟩ m w (by omega) hm (by decide)
  refine hc.mono ?_
  rintro e w' ⟨rfl, rfl⟩
  refine ⟨w.heap.size, by rw [split_len], by simp, (Below.refl _ _).alloc (Nat.le_refl _) _, fun k x hx => ?_⟩
  have h1 := heap_alloc_new w (.cells ((partsB t).map Value.string).toArray (Tryd.laysM146_ren.t 9))
  show World.cell? _ _ = _
  unfold World.cell?
  unfold partsB at h1 hx
  rw [h1]
  simp [hx]
theorem cut_size (x : ByteArray) : (Lib.cut x.data.toList [45]).1.length ≤ x.size ∧ (Lib.cut x.data.toList [45]).2.1.length ≤ x.size := by
  have e : x.size = x.data.toList.length := Lib.size_eq x
  rw [e]
  unfold Lib.cut
  split <;> simp <;> omega
theorem cut_any (x : ByteArray) (w : World) (hs : x.size ≤ 1000000) (hN : Nums w) :
    Calls Tryd.prog 32 #[.string x, .string ⟨#[45]⟩] w fun e w' => e = .returned (.tuple #[.string ⟨(Lib.cut x.data.toList [45]).1.toArray⟩, .string ⟨(Lib.cut x.data.toList [45]).2.1.toArray⟩, .bool (Lib.cut x.data.toList [45]).2.2]) ∧ Below w.heap.size w w' := by
  obtain ⟨_, _, ⟨m, hm⟩, _, _, _⟩ := hN
  have hc : Calls Tryd.prog 32 #[.string x, .string ⟨#[45]⟩] w _ := Any.strings_Cut { Tryd.laysM145 with } x ⟨#[45]⟩ m w (by omega) hm
  refine hc.mono ?_
  rintro e w' ⟨rfl, n, rfl⟩
  exact ⟨rfl, below_drewN (Below.refl _ _) _⟩
theorem ba9 (l : List UInt8) : ∃ b : ByteArray, Hid (b.data.toList = l) ∧ Hid (⟨l.toArray⟩ = b) ∧ b.size = l.length := ⟨⟨l.toArray⟩, (by show _ = _; simp), rfl, by simp [ByteArray.size]⟩
theorem dash_list : (⟨#[45]⟩ : ByteArray).toList = [45] := by rw [ByteArray.toList_eq]
theorem eqT {a b : ByteArray} (h : a = b) : (a.toList == b.toList) = true := by rw [h]; exact beq_self_eq_true _
theorem neT {a b : ByteArray} (h : a ≠ b) : (a.toList == b.toList) = false := by
  refine beq_eq_false_iff_ne.2 (fun e => h ?_)
  rw [ByteArray.toList_eq, ByteArray.toList_eq] at e
  exact ba_ext e
def partV (a b : Int) : Nat := diff (allS (wrap64 (b + 1))) (allS a)
theorem part_no {x : List UInt8} {a b : List UInt8} (hd : x ≠ [45]) (h : Lib.cut x [45] = (a, b, false)) : partS x = partV (numP a) (numP a) := by
  unfold partS toP partV wrap64; rw [if_neg hd, h, IntKind.wrap_i64]; simp
theorem part_yes {x : List UInt8} {a b : List UInt8} (hd : x ≠ [45]) (h : Lib.cut x [45] = (a, b, true)) : partS x = partV (numP a) (numP b) := by
  unfold partS toP partV wrap64; rw [if_neg hd, h, IntKind.wrap_i64]; simp
theorem setS_take {t : ByteArray} {k : Nat} {x : ByteArray} (h : (partsB t)[k]? = some x) : setS (((partsB t).take (k + 1)).map (·.data.toList)) = setS (((partsB t).take k).map (·.data.toList)) ||| partS x.data.toList := by
  rw [List.take_add_one, h]
  simp only [Option.toList_some, List.map_append, List.map_cons, List.map_nil]
  exact setS_snoc _ _
set_option maxHeartbeats 1000000 in
set_option maxRecDepth 100000 in
theorem parse9_any (t : ByteArray) (w : World) (ht : t.size ≤ 10000) (hN : Nums w) (hT : DeB w) (hz : 0 < w.heap.size) :
    Calls Tryd.prog 23 #[.string t] w fun e w' => e = .returned (.tuple #[.int .u64 (parse9 t).1, .int .i64 (parse9 t).2]) ∧ Below w.heap.size w w' := by
  have hS := Lib.hid (split_any t w (by omega) hN)
  have hlen : (partsB t).length ≤ 100000 := by rw [split_len]; have := split_count t; omega
  have hsz : ∀ x ∈ partsB t, x.size ≤ 10000 := fun x hx => Nat.le_trans (split_size _ t x hx) ht
  have HSZ := Lib.hid hsz
  clear hsz
  go_enter Tryd.func23, Tryd.ntmps23
  go_wp2_with (go_at_call 31; refine hS.out.mono ?_; rintro e w1 ⟨b, rfl, hb, hw1, hc⟩)
  obtain ⟨n, hn⟩ : ∃ n, Hid ((partsB t).length = n) := ⟨_, rfl⟩
  rw [hn.out] at hlen ⊢
  have HC := Lib.hid hc
  have hz1 := hw1.size
  clear hc hS
  go_loopw [4, 6, 7, 8, 9, 10, 11, 12, 16] (fun s _ _ _ _ _ _ _ i wr => ∃ (k q : Nat), k ≤ n ∧ i = .int .i64 k ∧ s = .int .u64 q ∧ q < M64 ∧ Hid (setS (((partsB t).take k).map (·.data.toList)) = q) ∧ Below w1.heap.size w1 wr) (fun _ _ _ _ _ _ _ _ i _ => n - (intOf i).toNat)
  case atStart => exact ⟨0, 0, Nat.zero_le _, rfl, rfl, by decide, rfl, Below.refl _ _⟩
  case round =>
    obtain ⟨k, q, hk, rfl, rfl, hq, HQ, hbr⟩ := hrel
    have hzr := hbr.size
    have hNr : Nums wr := hN.below (bt hw1 hbr)
    by_cases hkn : k < n
    · have t0 : decide ((k : Int) < (n : Int)) = true := by simp; omega
      obtain ⟨x, hx⟩ : ∃ x, Hid ((partsB t)[k]? = some x) := ⟨_, List.getElem?_eq_getElem (by rw [hn.out]; exact hkn)⟩
      have hxs := HSZ.out x (List.mem_of_getElem? hx.out)
      have hcx : wr.cell? ⟨b, k, none⟩ = some (.string x) := by rw [(bcell hbr).1 _ _ hb]; exact HC.out k x hx.out
      have HQ2 := Lib.hid (setS_take hx.out)
      obtain ⟨⟨A, B, R⟩, hcut⟩ : ∃ c, Hid (Lib.cut x.data.toList [45] = c) := ⟨_, rfl⟩
      have hCut := cut_any x wr (by omega) hNr
      have hcs := cut_size x
      rw [hcut.out] at hCut hcs
      dsimp only at hCut hcs
      obtain ⟨SA, hA1, hA2, hA3⟩ := ba9 A
      obtain ⟨SB, hB1, hB2, hB3⟩ := ba9 B
      rw [hA2.out, hB2.out] at hCut
      have HCut := Lib.hid hCut
      have nA := Lib.hid (fun v hv => number_any SA v (by omega) hv)
      have nB := Lib.hid (fun v hv => number_any SB v (by omega) hv)
      obtain ⟨a, ha⟩ : ∃ a, Hid (numP A = a) := ⟨_, rfl⟩
      obtain ⟨c, hc⟩ : ∃ a, Hid (numP B = a) := ⟨_, rfl⟩
      have ba := numP_bounds A
      have bb := numP_bounds B
      rw [ha.out] at ba
      rw [hc.out] at bb
      rw [hA1.out, ha.out] at nA
      rw [hB1.out, hc.out] at nB
      have cA := Lib.hid (fun v => all_any a v (by omega))
      have d2 : x ≠ ⟨#[45]⟩ → x.data.toList ≠ [45] := fun e h => e (ba_ext h)
      by_cases hd : x = ⟨#[45]⟩
      · have t1 : (x.toList == ([45] : List UInt8)) = true := by rw [← dash_list]; exact eqT hd
        have P2 : Hid (setS (((partsB t).take (k + 1)).map (·.data.toList)) = q) := by
          show _ = _
          rw [HQ2.out, HQ.out, hd]
          exact Nat.or_zero _
        clear hd d2 HQ2 hCut ba bb ha hc
        cases R
        · go_wp2_with (fail)
          refine HCut.out.mono ?_; rintro e w2 ⟨rfl, hw2⟩
          have hN2 := hNr.below hw2
          go_wp2_with (fail)
          refine (nA.out _ hN2).mono ?_; rintro e w3 ⟨b1, rfl, hw3⟩
          go_wp2_with (fail)
          go_roundw
          case rel => exact ⟨k + 1, q, by omega, by simp, rfl, hq, P2, bt (bt hbr hw2) hw3⟩
          case measure => simp [intOf]; omega
        · go_wp2_with (fail)
          refine HCut.out.mono ?_; rintro e w2 ⟨rfl, hw2⟩
          have hN2 := hNr.below hw2
          go_wp2_with (fail)
          refine (nA.out _ hN2).mono ?_; rintro e w3 ⟨b1, rfl, hw3⟩
          have hN3 := hN2.below hw3
          go_wp2_with (fail)
          refine (nB.out _ hN3).mono ?_; rintro e w4 ⟨b2, rfl, hw4⟩
          go_wp2_with (fail)
          go_roundw
          case rel => exact ⟨k + 1, q, by omega, by simp, rfl, hq, P2, bt (bt (bt hbr hw2) hw3) hw4⟩
          case measure => simp [intOf]; omega
      · have t1 : (x.toList == ([45] : List UInt8)) = false := by rw [← dash_list]; exact neT hd
        obtain ⟨y, hy⟩ : ∃ y, y = (if R = true then c else a) := ⟨_, rfl⟩
        have by1 : -9223372036854775808 ≤ y ∧ y ≤ 9223372036854775807 := by rw [hy]; split <;> omega
        have P1 : partS x.data.toList = partV a y := by
          rw [hy, ← ha.out, ← hc.out]
          cases R
          · exact part_no (d2 hd) hcut.out
          · exact part_yes (d2 hd) hcut.out
        have cB := Lib.hid (fun v => all_any (wrap64 (y + 1)) v (by unfold wrap64; omega))
        have k1 := andNot64 (allS_lt (wrap64 (y + 1))) (allS_lt a)
        have k2 := or64 hq (show partV a y < M64 from diff_lt (allS_lt _))
        have hlt := or_lt hq (show partV a y < M64 from diff_lt (allS_lt _))
        have e1 : diff (allS (wrap64 (y + 1))) (allS a) = partV a y := rfl
        rw [e1] at k1
        obtain ⟨u, hu⟩ : ∃ u, Hid (allS (wrap64 (y + 1)) = u) := ⟨_, rfl⟩
        obtain ⟨u2, hu2⟩ : ∃ u, Hid (allS a = u) := ⟨_, rfl⟩
        obtain ⟨v, hv⟩ : ∃ v, Hid (partV a y = v) := ⟨_, rfl⟩
        rw [hv.out] at k1 k2 P1 hlt
        rw [hu.out, hu2.out] at k1
        rw [hu2.out] at cA
        rw [hu.out] at cB
        have P2 : Hid (setS (((partsB t).take (k + 1)).map (·.data.toList)) = q ||| v) := by
          show _ = _
          rw [HQ2.out, HQ.out, P1]
        clear hd d2 e1 hCut ba bb P1 HQ2 hu hu2 hv by1
        cases R
        · obtain rfl : y = a := hy
          go_wp2_with (fail)
          refine HCut.out.mono ?_; rintro e w2 ⟨rfl, hw2⟩
          have hN2 := hNr.below hw2
          go_wp2_with (fail)
          refine (nA.out _ hN2).mono ?_; rintro e w3 ⟨b1, rfl, hw3⟩
          go_wp2_with (fail)
          refine (cB.out _).mono ?_; rintro e w4 ⟨rfl, rfl⟩
          go_wp2_with (fail)
          refine (cA.out _).mono ?_; rintro e w4 ⟨rfl, rfl⟩
          go_wp2_with (fail)
          go_roundw
          case rel => exact ⟨k + 1, q ||| v, by omega, by simp, rfl, hlt, P2, bt (bt hbr hw2) hw3⟩
          case measure => simp [intOf]; omega
        · obtain rfl : y = c := hy
          go_wp2_with (fail)
          refine HCut.out.mono ?_; rintro e w2 ⟨rfl, hw2⟩
          have hN2 := hNr.below hw2
          go_wp2_with (fail)
          refine (nA.out _ hN2).mono ?_; rintro e w3 ⟨b1, rfl, hw3⟩
          have hN3 := hN2.below hw3
          go_wp2_with (fail)
          refine (nB.out _ hN3).mono ?_; rintro e w4 ⟨b2, rfl, hw4⟩
          go_wp2_with (fail)
          refine (cB.out _).mono ?_; rintro e w5 ⟨rfl, rfl⟩
          go_wp2_with (fail)
          refine (cA.out _).mono ?_; rintro e w5 ⟨rfl, rfl⟩
          go_wp2_with (fail)
          go_roundw
          case rel => exact ⟨k + 1, q ||| v, by omega, by simp, rfl, hlt, P2, bt (bt (bt hbr hw2) hw3) hw4⟩
          case measure => simp [intOf]; omega
    · obtain rfl : k = n := by omega
      have t0 : decide ((k : Int) < (k : Int)) = false := by simp
      have HP : Hid (setP t = q) := by
        show _ = _
        have e := HQ.out
        rw [List.take_of_length_le (by rw [hn.out]; exact Nat.le_refl _)] at e
        exact e
      have hDr : DeB wr := hT.below hz (bt hw1 hbr)
      have hsh := Lib.hid (show_any q wr hq hDr (by omega))
      obtain ⟨S, hS1, hS2, hS3⟩ := ba9 (showN q)
      rw [hS2.out] at hsh
      by_cases hst : S = t
      · have t1 : (S.toList == t.toList) = true := eqT hst
        have HF : Hid (parse9 t = (q, 0)) := by
          show _ = _
          unfold parse9 parseS
          rw [HP.out, if_pos]; rw [← hst]; exact hS1.out.symm
        clear hst
        go_wp2_with (go_at_call 25; refine hsh.out.mono ?_; rintro e w7 ⟨rfl, hw7⟩)
        go_ret2
        rw [HF.out]
        exact ⟨rfl, bt (bt hw1 hbr) hw7⟩
      · have t1 : (S.toList == t.toList) = false := neT hst
        have HF : Hid (parse9 t = (0, 90)) := by
          show _ = _
          unfold parse9 parseS
          rw [HP.out, if_neg]
          intro e
          exact hst (ba_ext (hS1.out.trans e))
        clear hst
        go_wp2_with (go_at_call 25; refine hsh.out.mono ?_; rintro e w7 ⟨rfl, hw7⟩)
        go_ret2
        rw [HF.out]
        exact ⟨rfl, bt (bt hw1 hbr) hw7⟩
end Go.Proofs.YtplneobjdpdlhaaDoor
