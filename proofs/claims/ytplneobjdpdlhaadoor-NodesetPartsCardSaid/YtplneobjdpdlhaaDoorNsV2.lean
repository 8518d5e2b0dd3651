/- Layer 9: Show walked. -/
import Derived.Test.YtplneobjdpdlhaaDoorNsV1
namespace Go.Proofs.YtplneobjdpdlhaaDoor
set_option linter.unusedVariables false
open Go.RowKit
def segsB (s : Nat) : List ByteArray := (runsL (memL s)).map segB
theorem segsB_zero : segsB 0 = [] := by unfold segsB; rw [(memL_nil (by decide)).2 rfl]; rfl
theorem segsB_len (s : Nat) : (segsB s).length ≤ 64 := by
  unfold segsB; rw [List.length_map]; exact Nat.le_trans (runs_len _) (memL_len s)
theorem segsB_step {s : Nat} (h0 : s ≠ 0) (hs : s < M64) : segsB s = segB (fromS s, fromS s + longS s - 1) :: segsB (restS s) := by
  unfold segsB; rw [runs_split h0 hs]; rfl
theorem seg_two {f g : Nat} (h : f < g) : segB (f, g) = (⟨(Lib.decDigits f).toArray⟩ : ByteArray) ++ (({ data := #[45] } : ByteArray) ++ ⟨(Lib.decDigits g).toArray⟩) := by
  apply ByteArray.ext
  unfold segB segT
  rw [if_pos h]
  simp [ByteArray.data_append]
theorem seg_one {f g : Nat} (h : ¬ f < g) : segB (f, g) = (⟨(Lib.decDigits f).toArray⟩ : ByteArray) := by
  unfold segB segT
  rw [if_neg h, List.append_nil]
theorem xor_all {y : Nat} (hy : y < M64) : bits .xor .u64 IntKind.u64.max (y : Int) = ((M64 - 1 - y : Nat) : Int) := by
  have e : IntKind.u64.max = ((M64 - 1 : Nat) : Int) := by decide
  rw [e, u64_xor_nat _ _ (by decide) (by rw [M64_is] at hy; exact hy)]
  congr 1
  apply Nat.eq_of_testBit_eq
  intro i
  have h1 : (M64 - 1).testBit i = decide (i < 64) := by unfold M64; exact Nat.testBit_two_pow_sub_one 64 i
  rw [Nat.testBit_xor, M_bit hy, h1]
  by_cases hi : i < 64
  · simp [hi]
  · have : y.testBit i = false := by
      cases hq : y.testBit i with
      | false => rfl
      | true => exact absurd (bit_lt hy hq) hi
    simp [hi, this]
set_option maxRecDepth 100000 in
theorem DeB.below {w w' : World} (h : DeB w) (hz : 0 < w.heap.size) (hb : Below w.heap.size w w') : DeB w' := by
  intro j hj
  rw [(bcell hb).1 _ _ hz]
  exact h j hj
theorem segs_map (s : Nat) : (segsB s).map (·.data.toList) = (runsL (memL s)).map segT := by
  unfold segsB
  rw [List.map_map]
  exact List.map_congr_left fun p _ => by simp [segB]
theorem joinTail_len (n : Nat) (sep : List UInt8) : ∀ l : List (List UInt8), (∀ x ∈ l, x.length ≤ n) → (Lib.joinTail sep l).length ≤ l.length * (n + sep.length)
  | [], _ => by simp [Lib.joinTail]
  | x :: l, h => by
    have := joinTail_len n sep l (fun y hy => h y (List.mem_cons_of_mem _ hy))
    have hx := h x (by simp)
    have e : Lib.joinTail sep (x :: l) = (sep ++ x) ++ Lib.joinTail sep l := by simp [Lib.joinTail]
    rw [e]
    simp only [List.length_append, List.length_cons, Nat.succ_mul]
    omega
theorem segs_bound {s : Nat} {L : List ByteArray} (hs : s < M64) (h : segsB s = L) : (Lib.join (L.map (·.data.toList)) (⟨#[44]⟩ : ByteArray).data.toList).length ≤ 140737488355328 := by
  subst h
  have hl := segsB_len s
  have hb : ∀ x ∈ (segsB s).map (·.data.toList), x.length ≤ 5 := by
    rw [segs_map]
    intro x hx
    obtain ⟨p, hp, rfl⟩ := List.mem_map.1 hx
    have := runs_lt (l := memL s) (fun i hi => (mem_memL.1 hi).1) p hp
    exact segT_len (by omega) (by omega)
  rw [← List.length_map (f := fun x : ByteArray => x.data.toList)] at hl
  generalize (segsB s).map (·.data.toList) = M at hb hl ⊢
  cases M with
  | nil => simp [Lib.join]
  | cons x r =>
    rw [Lib.join_cons, List.length_append]
    have h1 := hb x (by simp)
    have h2 := joinTail_len 5 (⟨#[44]⟩ : ByteArray).data.toList r (fun y hy => hb y (List.mem_cons_of_mem _ hy))
    have h3 : (⟨#[44]⟩ : ByteArray).data.toList.length = 1 := rfl
    rw [h3] at h2
    simp only [List.length_cons] at hl
    omega
theorem segs_join {s : Nat} {L : List ByteArray} (h0 : s ≠ 0) (h : segsB s = L) : Lib.join (L.map (·.data.toList)) (⟨#[44]⟩ : ByteArray).data.toList = showN s := by
  subst h
  rw [segs_map]
  unfold showN
  rw [if_neg h0]
set_option maxHeartbeats 1000000 in
set_option maxRecDepth 100000 in
theorem show_any (s : Nat) (w : World) (hs : s < M64) (hT : DeB w) (hz : 0 < w.heap.size) :
    Calls Tryd.prog 25 #[.int .u64 s] w fun e w' => e = .returned (.string ⟨(showN s).toArray⟩) ∧ Below w.heap.size w w' := by
  by_cases h0 : s = 0
  · subst h0
    have e : showN 0 = [45] := rfl
    rw [e]
    go_enter Tryd.func25, Tryd.ntmps25
    go_wp2
    go_ret
    exact ⟨rfl, Below.refl _ _⟩
  have t0 : ((s : Int) == 0) = false := by simp; omega
  have hL := segsB_len s
  obtain ⟨L, hLL⟩ : ∃ L, Hid (segsB s = L) := ⟨_, rfl⟩
  rw [hLL.out] at hL
  go_enter Tryd.func25, Tryd.ntmps25
  go_wp2
  go_loopw [0, 3, 4, 5, 6] (fun x o _ _ _ wr => ∃ (q : Nat) (D : List ByteArray), x = .int .u64 q ∧ q < M64 ∧ Hid (L = D ++ segsB q) ∧ Owns wr w.heap.size 9 1 o D.length (strs D) ∧ Below w.heap.size w wr) (fun x _ _ _ _ _ => (segsB (intOf x).toNat).length)
  case atStart => exact ⟨s, [], rfl, hs, Lib.hid (by rw [List.nil_append]; exact hLL.out.symm), by first | exact Owns.nil | exact (Owns.nil : Owns w w.heap.size 9 1 (.slice none 0 0) 0 []), Below.refl _ _⟩
  case round =>
    obtain ⟨q, D, rfl, hq, hD, hown, hbr⟩ := hrel
    have hsz := hbr.size
    have hDl : D.length ≤ 64 := by
      have := congrArg List.length hD.out
      rw [List.length_append] at this; omega
    by_cases hq0 : q = 0
    · subst hq0
      have hDL : D = L := by rw [hD.out, segsB_zero, List.append_nil]
      subst hDL
      obtain ⟨A2, c2, rfl, hc2, hm2⟩ := hown.slice
      have hrd := Lib.hid hown.reads
      obtain ⟨n, hn⟩ : ∃ n, Hid (D.length = n) := ⟨_, rfl⟩
      rw [hn.out] at hrd hc2 hDl
      have hjn := fun v (hv : Reads v wr.heap.size 1 A2 n (D.map Value.string)) (hb : wr.heap.size ≤ v.heap.size) => join_any A2 n c2 wr.heap.size D ⟨#[44]⟩ v hv hb hc2 (by omega) (segs_bound hs hLL.out)
      rw [segs_join h0 hLL.out] at hjn
      have HJ := Lib.hid hjn
      rw [hn.out]
      clear hjn hown hm2 hD
      go_wp2_with (go_at_call 36; refine (HJ.out _ hrd.out (Nat.le_refl _)).mono ?_; rintro e w7 ⟨rfl, hw7⟩)
      go_ret
      exact ⟨rfl, hbr.trans (hw7.mono hsz)⟩
    · have t1 : ((q : Int) != 0) = true := by simp; omega
      have hT2 : DeB wr := hT.below hz hbr
      obtain ⟨f1, f2, f3, f4, f5, f6⟩ := run_facts hq0 hq
      have hy : q / 2 ^ fromS q < M64 := Nat.lt_of_le_of_lt (Nat.div_le_self _ _) hq
      have hst := Lib.hid (segsB_step hq0 hq)
      have hrl := restS_lt hq
      have hzl : M64 - 1 - q / 2 ^ fromS q < M64 := Nat.lt_of_le_of_lt (Nat.sub_le _ _) (by decide)
      have c1 := Lib.hid (tz_any q wr hq hT2)
      have c2 := Lib.hid (tz_any (M64 - 1 - q / 2 ^ fromS q) wr hzl hT2)
      have kx := xor_all hy
      have k4 := andNot64 hq (allS_lt ((fromS q : Int) + (longS q : Int)))
      have eR : diff q (allS ((fromS q : Int) + (longS q : Int))) = restS q := rfl
      have e1 : Lib.ctz 64 q = fromS q := rfl
      have e2 : Lib.ctz 64 (M64 - 1 - q / 2 ^ fromS q) = longS q := rfl
      rw [eR] at k4
      rw [e1] at c1
      rw [e2] at c2
      have cA := Lib.hid (fun v => all_any ((fromS q : Int) + (longS q : Int)) v (by omega))
      obtain ⟨z, hz2⟩ : ∃ z : Nat, Hid (M64 - 1 - q / 2 ^ fromS q = z) := ⟨_, rfl⟩
      rw [hz2.out] at c2 kx
      obtain ⟨y, hy2⟩ : ∃ y : Nat, Hid (q / 2 ^ fromS q = y) := ⟨_, rfl⟩
      have ky : (q : Int) / 2 ^ fromS q = (y : Int) := by rw [← hy2.out]; simp
      rw [hy2.out] at kx
      obtain ⟨f, hf⟩ : ∃ f : Nat, Hid (fromS q = f) := ⟨_, rfl⟩
      obtain ⟨g, hg⟩ : ∃ g : Nat, Hid (longS q = g) := ⟨_, rfl⟩
      obtain ⟨r, hr⟩ : ∃ r : Nat, Hid (restS q = r) := ⟨_, rfl⟩
      rw [hf.out] at c1 cA f1 f3 ky k4
      rw [hg.out] at c2 cA f2 f3 k4
      rw [hr.out] at k4 hrl
      have HST : Hid (segsB q = segB (f, f + g - 1) :: segsB r) := by show _ = _; rw [hst.out, hf.out, hg.out, hr.out]
      have HM : Hid ((segsB r).length < (segsB q).length) := by show _ < _; rw [HST.out, List.length_cons]; omega
      obtain ⟨a, ha⟩ : ∃ a : Nat, Hid (allS ((f : Int) + (g : Int)) = a) := ⟨_, rfl⟩
      rw [ha.out] at cA k4
      have i1 := Lib.hid (fun v => Tryd.strconv_Itoa_small f (by omega) v)
      have i2 := Lib.hid (fun v => Tryd.strconv_Itoa_small (f + g - 1) (by omega) v)
      have kg : (f : Int) + (g : Int) - 1 = ((f + g - 1 : Nat) : Int) := by omega
      rw [← kg] at i2
      obtain ⟨S1, hS1⟩ : ∃ S : ByteArray, Hid ((⟨(Lib.decDigits f).toArray⟩ : ByteArray) = S) := ⟨_, rfl⟩
      obtain ⟨S2, hS2⟩ : ∃ S : ByteArray, Hid ((⟨(Lib.decDigits (f + g - 1)).toArray⟩ : ByteArray) = S) := ⟨_, rfl⟩
      have z1 : S1.size ≤ 2 := by rw [← hS1.out]; have := decDigits_len (n := f) (by omega); simpa [ByteArray.size] using this
      have z2 : S2.size ≤ 2 := by rw [← hS2.out]; have := decDigits_len (n := f + g - 1) (by omega); simpa [ByteArray.size] using this
      have z3 : (({ data := #[45] } : ByteArray) ++ S2).size ≤ 3 := by rw [ByteArray.size_append]; have : ({ data := #[45] } : ByteArray).size = 1 := rfl; omega
      rw [hS1.out] at i1
      rw [hS2.out] at i2
      have hO := Lib.hid hown
      clear f4 f5 f6 hy hzl e1 e2 eR hst hz2 hy2 hown hq0 kg
      by_cases hg1 : 1 < g
      · have t2 : decide ((1 : Int) < (g : Int)) = true := by simp; omega
        have HS : Hid (segB (f, f + g - 1) = S1 ++ ({ data := #[45] } ++ S2)) := by
          show _ = _
          rw [seg_two (by omega), hS1.out, hS2.out]
        clear hg1
        go_wp2_with (first
          | (go_at_call 34; (first | (with_reducible refine c1.out.mono ?_) | (with_reducible refine c2.out.mono ?_)); rintro e w' ⟨rfl, rfl⟩)
          | (go_at_call 35; (first | (with_reducible refine (i1.out _).mono ?_) | (with_reducible refine (i2.out _).mono ?_)); rintro e w' ⟨rfl, rfl⟩)
          | (at_builtin; refine app_s rfl rfl w.heap.size rfl (hO.out.alloc _) (news := [S1 ++ ({ data := #[45] } ++ S2)]) rfl (Reads.made w' [Value.string (S1 ++ ({ data := #[45] } ++ S2))] _) (by omega) (by simp only [World.size_alloc]; omega) ?_))
        intro v4 w4 o4 k4 _
        have kb4 := k4.below (hbr.alloc hsz _) (Nat.le_refl _) (by simp only [World.size_alloc]; omega)
        have O4 := Lib.hid o4
        have HL : Hid (L = (D ++ [S1 ++ ({ data := #[45] } ++ S2)]) ++ segsB r) := by
          show _ = _
          rw [hD.out, HST.out, HS.out]; simp
        clear k4 o4
        go_wp2_with (go_at_call 17; refine (cA.out _).mono ?_; rintro e w5 ⟨rfl, rfl⟩)
        go_roundw
        case rel => exact ⟨r, _, rfl, hrl, HL, by rw [List.length_append]; exact O4.out, kb4⟩
        case measure => show (segsB ((r : Int).toNat)).length < (segsB ((q : Int).toNat)).length; rw [Int.toNat_natCast, Int.toNat_natCast]; exact HM.out
      · have t2 : decide ((1 : Int) < (g : Int)) = false := by simp; omega
        have HS : Hid (segB (f, f + g - 1) = S1) := by
          show _ = _
          rw [seg_one (by omega), hS1.out]
        clear hg1
        go_wp2_with (first
          | (go_at_call 34; (first | (with_reducible refine c1.out.mono ?_) | (with_reducible refine c2.out.mono ?_)); rintro e w' ⟨rfl, rfl⟩)
          | (go_at_call 35; (first | (with_reducible refine (i1.out _).mono ?_) | (with_reducible refine (i2.out _).mono ?_)); rintro e w' ⟨rfl, rfl⟩)
          | (at_builtin; refine app_s rfl rfl w.heap.size rfl (hO.out.alloc _) (news := [S1]) rfl (Reads.made w' [Value.string S1] _) (by omega) (by simp only [World.size_alloc]; omega) ?_))
        intro v4 w4 o4 k4 _
        have kb4 := k4.below (hbr.alloc hsz _) (Nat.le_refl _) (by simp only [World.size_alloc]; omega)
        have O4 := Lib.hid o4
        have HL : Hid (L = (D ++ [S1]) ++ segsB r) := by
          show _ = _
          rw [hD.out, HST.out, HS.out]; simp
        clear k4 o4
        go_wp2_with (go_at_call 17; refine (cA.out _).mono ?_; rintro e w5 ⟨rfl, rfl⟩)
        go_roundw
        case rel => exact ⟨r, _, rfl, hrl, HL, by rw [List.length_append]; exact O4.out, kb4⟩
        case measure => show (segsB ((r : Int).toNat)).length < (segsB ((q : Int).toNat)).length; rw [Int.toNat_natCast, Int.toNat_natCast]; exact HM.out
end Go.Proofs.YtplneobjdpdlhaaDoor
