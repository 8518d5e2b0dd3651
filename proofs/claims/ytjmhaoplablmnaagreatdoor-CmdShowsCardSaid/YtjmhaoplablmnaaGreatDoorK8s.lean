/- Bundle K8. -/
import Derived.Test.YtjmhaoplablmnaaGreatDoorK7s
import Derived.Test.YtjmhaoplablmnaaGreatDoorK4s
namespace Go.Proofs.YtjmhaoplablmnaaGreatDoor
set_option linter.unusedSimpArgs false
set_option maxRecDepth 100000
set_option linter.unusedVariables false
open Go.RowKit
theorem rcs_len (l : List Nat) : (rcs l).length = l.length := by simp [rcs]
theorem Reads.rune_at {w : World} {B n k r : Nat} {A : Option Addr} {rs : List Nat} (h : Reads w B 1 A n (rcs rs)) (hk : rs[k]? = some r) : ∃ ad, A = some ad ∧ ad.block < B ∧ w.cell? (ad.add k) = some (.int .i32 (r : Int)) := by
  have hl := (List.getElem?_eq_some_iff.1 hk).1
  have h1 := h.1
  rw [rcs_len] at h1
  obtain ⟨ad, e, hb, hc⟩ := h.2 (by omega)
  exact ⟨ad, e, hb, hc k _ (by simp [rcs, hk])⟩
theorem Reads.rune_len {w : World} {B n : Nat} {A : Option Addr} {rs : List Nat} (h : Reads w B 1 A n (rcs rs)) : rs.length = n := by
  have h1 := h.1; rw [rcs_len] at h1; omega
set_option maxRecDepth 1000000 in
theorem cut_runes {w : World} {B n c : Nat} {A : Option Addr} {rs : List Nat} (h : Reads w B 1 A n (rcs rs)) (hcap : n ≤ c) {i j : Nat} (hij : i ≤ j) (hj : j ≤ n) :
    ∃ A' c', (∀ v : World, (Instr.slice 103 (.slice A n c) (some (.int .i64 (i : Int))) (some (.int .i64 (j : Int))) none).run Tryz.prog v = .ok (.slice A' (j - i) c') v) ∧
      (∀ v : World, (Instr.sliceAt 103 (.slice A n c) (some (.int .i64 (i : Int))) (some (.int .i64 (j : Int))) none).run Tryz.prog v = .ok (.slice A' (j - i) c') v) ∧ j - i ≤ c' ∧
      ∀ v : World, (∀ p : Addr, p.block < B → v.cell? p = w.cell? p) → Reads v B 1 A' (j - i) (rcs (cutR rs i j)) ∧ (convert 103 9 (.slice A' (j - i) c')).run Tryz.prog v = .ok (.string (strR (cutR rs i j))) v := by
  have hlen := h.rune_len
  have h1 : ∀ v : World, (Instr.slice 103 (.slice A n c) (some (.int .i64 (i : Int))) (some (.int .i64 (j : Int))) none).run Tryz.prog v = .ok (.slice (if c = i then A else A.map (·.add (i * 1))) (j - i) (c - i)) v := by
    intro v
    rw [run_slice_lh v 103 A n c Tryz.underlying103 .i64 .i64 (i : Int) (j : Int) (by omega) (by omega) (by omega)]
    have e : (sizeOf (Tryz.prog.elem 103)).run Tryz.prog v = .ok 1 v := by
      have ee : Tryz.prog.elem 103 = 21 := by kernel_rfl
      rw [ee]; exact Tryz.sizeOf21 v
    rw [e]
    simp [Result.andThen, sliced]
  have hR : ∀ v : World, (∀ p : Addr, p.block < B → v.cell? p = w.cell? p) → Reads v B 1 (if c = i then A else A.map (·.add (i * 1))) (j - i) (rcs (cutR rs i j)) := by
    intro v hv
    refine ⟨by rw [rcs_len, cutR_len (by omega)]; omega, fun h0 => ?_⟩
    obtain ⟨ad, rfl, hb, hc⟩ := h.2 (by omega)
    rw [if_neg (by omega)]
    refine ⟨ad.add (i * 1), rfl, by rw [block_of_add]; exact hb, fun q u hu => ?_⟩
    rw [add_of_add, hv _ (by rw [block_of_add]; exact hb)]
    refine hc _ u ?_
    have hq : q < j - i := by
      have := (List.getElem?_eq_some_iff.1 hu).1
      rw [rcs_len, cutR_len (by omega)] at this; exact this
    simp only [rcs, List.getElem?_map, cutR_at hq] at hu ⊢
    rw [Nat.mul_one]; exact hu
  refine ⟨_, _, h1, fun v => ?_, by omega, fun v hv => ⟨hR v hv, ?_⟩⟩
  · rw [run_sliceAt_slice v _ _ _ _ _ Tryz.underlying103]; exact h1 v
  · have hr := hR v hv
    have hl : (cutR rs i j).length = j - i := cutR_len (by omega)
    obtain ⟨A2, hA2⟩ : ∃ A2, (if c = i then A else A.map (·.add (i * 1))) = A2 := ⟨_, rfl⟩
    rw [hA2] at hr ⊢
    rcases A2 with _ | a
    · have h0 : j - i = 0 := by
        rcases Nat.eq_zero_or_pos (j - i) with h0 | h0
        · exact h0
        · obtain ⟨ad, h, _⟩ := hr.2 h0
          cases h
      have hnil : cutR rs i j = [] := List.eq_nil_of_length_eq_zero (by omega)
      rw [h0, hnil]
      exact run_convert_runes_nil v _ _ 21 _ _ Tryz.underlying103 Tryz.underlying21 Tryz.underlying9
    · have h2 := run_convert_runes (P := Tryz.prog) v 103 9 21 a (j - i) (c - i) ((cutR rs i j).map (fun r : Nat => (r : Int))) (by simp; omega) Tryz.underlying103 Tryz.underlying21 Tryz.underlying9 (by
        intro q hq
        simp at hq
        have hq2 : q < (cutR rs i j).length := by omega
        obtain ⟨ad, e, _, hc⟩ := hr.rune_at (List.getElem?_eq_getElem hq2)
        injection e with e
        subst e
        rw [hc]
        simp [List.getD, List.getElem?_eq_getElem hq2])
      rw [h2, List.take_of_length_le (by simp; omega), runesBytes_eq]
def RnPost (rs : List Nat) (w : World) (en : Ending) (w' : World) : Prop := ∃ v, en = .returned v ∧ Owns w' w.heap.size 21 1 v rs.length (rcs rs) ∧ Below w.heap.size w w'
set_option maxHeartbeats 1000000 in
theorem runes05_any (s : ByteArray) (w : World) (hs : s.size ≤ 100000) : Calls Tryz.prog 134 #[.string s] w (RnPost (runes (bl s)) w) := by
  have hrl := runes_size s
  obtain ⟨rs, hrs⟩ : ∃ rs, Hid (runes (bl s) = rs) := ⟨_, rfl⟩
  rw [hrs.out] at hrl ⊢
  go_enter Tryz.func134, Tryz.ntmps134
  go_wp2_with fail
  go_loopw [3] (fun v wr => ∃ (k : Nat), k ≤ rs.length ∧ wr.heap[w.heap.size]? = some (.stringIter s (posN k (bl s))) ∧ Owns wr (w.heap.size + 1) 21 1 v k (rcs (rs.take k)) ∧ Below w.heap.size w wr) (fun _ wr => (bl s).length - wr.iterPos w.heap.size)
  case atStart => exact ⟨0, Nat.zero_le _, iter_start w s, by simpa [rcs] using Owns.nil, (Below.refl _ w).alloc (Nat.le_refl _) _⟩
  case round =>
    obtain ⟨k, hk, hit, hown, hb⟩ := hrel
    obtain ⟨A, c, rfl, hkc, hcm⟩ := hown.slice
    have hsz : w.heap.size + 1 ≤ wr.heap.size := by have := (Array.getElem?_eq_some_iff.1 hit).1; omega
    by_cases hlt : k < rs.length
    · obtain ⟨r, hr, hrm, hnx⟩ := next_rune wr _ s k (by rw [hrs.out]; exact hlt) hit
      rw [hrs.out] at hr
      have hit2 := Lib.hid (Lib.iterAt_heap wr _ s _ (posN (k + 1) (bl s)) hit)
      have hb2 := Lib.hid (Lib.below_iterAt hb (Nat.le_refl _) s (posN (k + 1) (bl s)))
      have hpm := pos_mono k (l := bl s) (by rw [hrs.out]; exact hlt)
      have hpl := pos_le (k + 1) (l := bl s) (by rw [hrs.out]; omega)
      have hown2 : Hid (Owns (wr.iterAt w.heap.size s (posN (k + 1) (bl s))) (w.heap.size + 1) 21 1 (.slice A k c) k (rcs (rs.take k))) := hown.keep (fun g _ hg _ => Lib.iterAt_other _ _ _ _ _ (by omega))
      have hsz2 : (wr.iterAt w.heap.size s (posN (k + 1) (bl s))).heap.size = wr.heap.size := by simp [World.iterAt]
      have hitp := Lib.hid hit
      clear hit hown hb
      obtain ⟨w1, hw1⟩ : ∃ w1, wr.iterAt w.heap.size s (posN (k + 1) (bl s)) = w1 := ⟨_, rfl⟩
      rw [hw1] at hnx hit2 hb2 hown2 hsz2
      have hsz3 : w.heap.size + 1 ≤ w1.heap.size := by omega
      clear hsz2
      have hr1 : Hid (Reads (w1.alloc (.cells #[.int .i32 (r : Int)] 21)) (w1.heap.size + 1) 1 (some ⟨w1.heap.size, 0, none⟩) 1 (rcs [r])) := Reads.made w1 (rcs [r]) _
      have hs1 : w.heap.size + 1 ≤ (w1.alloc (.cells #[.int .i32 (r : Int)] 21)).heap.size := by simp; omega
      have ho1 := Lib.hid (hown2.out.alloc (.cells #[.int .i32 (r : Int)] 21))
      go_wp2_with (at_builtin; refine app_r rfl rfl (w.heap.size + 1) rfl ho1.out rfl hr1.out (by omega) hs1 ?_)
      intro v' w3 o3 k3 _
      have kb3 := k3.kb
      have hit3 : Hid (w3.heap[w.heap.size]? = some (.stringIter s (posN (k + 1) (bl s)))) := (kb3.block _ (by simp; omega) (by omega)).trans ((Below.heap_alloc _ _ _ (by omega)).trans hit2.out)
      have hb3 := Lib.hid (k3.below (hb2.out.alloc (by omega) _) (by omega) (by simp; omega))
      replace o3 := Lib.hid o3
      clear kb3 k3 hown2 hit2 hb2
      go_wp2
      go_roundw
      case rel => exact ⟨k + 1, by omega, hit3.out, by rw [take_snoc hr.out]; exact o3.out, hb3.out⟩
      case measure => simp only [World.iterPos, hit3.out, hitp.out]; omega
    · obtain rfl : k = rs.length := by omega
      have hnx := next_end wr _ s _ (by rw [hrs.out]) hit
      rw [List.take_length] at hown
      replace hown := Lib.hid hown
      clear hit
      go_wp2
      go_ret
      exact ⟨_, rfl, hown.out.mono (by omega), hb⟩
theorem small05_any (r : Nat) (w : World) :
    Calls Tryz.prog 164 #[.int .i32 (r : Int)] w fun e w' => e = .returned (.bool (smallR r)) ∧ w = w' := by
  rcases (by omega : r < 48 ∨ (48 ≤ r ∧ r ≤ 57) ∨ (57 < r ∧ r < 97) ∨ (97 ≤ r ∧ r ≤ 122) ∨ 122 < r) with h | h | h | h | h
  all_goals
    have hs : Hid (smallR r = if 48 ≤ r ∧ r ≤ 57 ∨ 97 ≤ r ∧ r ≤ 122 then true else false) := by
      show smallR r = _
      unfold smallR
      split <;> simp <;> omega
    first
    | (have h1 : (48 : Int) ≤ r := by omega)
    | skip
    first
    | (have h2 : (r : Int) ≤ 57 := by omega)
    | (have h2 : (57 : Int) < r := by omega)
    first
    | (have h3 : (97 : Int) ≤ r := by omega)
    | (have h3 : (r : Int) < 97 := by omega)
    first
    | (have h4 : (r : Int) ≤ 122 := by omega)
    | (have h4 : (122 : Int) < r := by omega)
    go_enter Tryz.func164, Tryz.ntmps164
    go_wp2
    go_ret
    refine ⟨ret_bool ?_, rfl⟩
    rw [hs.out]
    first | (rw [if_pos (by omega)]) | (rw [if_neg (by omega)])
    try (simp <;> omega)
theorem wordR_of {x : Nat} {q : Int} (h : classV x = q) : wordR x = ((q == 2) || (q == 3) || (x == 45) || (x == 95)) := by
  unfold wordR hasC
  rw [h]
  have e : ([2, 3] : List Int).contains q = ((q == 2) || (q == 3)) := by cases h2 : (q == 2) <;> cases h3 : (q == 3) <;> simp [List.contains, List.elem, h2, h3]
  rw [e]
set_option maxHeartbeats 1000000 in
theorem end05_word (A : Option Addr) (n c B : Nat) (rs : List Nat) (i x : Nat) (w : World) (h : Reads w B 1 A n (rcs rs)) (hx : rs[i]? = some x) (hq : classV x = 2) (hn : n ≤ 100000) :
    Calls Tryz.prog 155 #[.slice A n c, .int .i64 (i : Int)] w fun e w' => e = .returned (.int .i64 (endW rs i : Nat)) ∧ w = w' := by
  have hlen := h.rune_len
  have hil : i < n := by have := (List.getElem?_eq_some_iff.1 hx).1; omega
  obtain ⟨ad, rfl, hb, hc0⟩ := h.rune_at hx
  have hrd := Lib.hid h
  have hX := Lib.hid hx
  have hQ := Lib.hid hq
  have til : (i : Int) < (n : Int) := by omega
  clear h hx hq
  go_enter Tryz.func155, Tryz.ntmps155
  go_wp2_with (go_at_call 102; refine (rclass_any _ _).mono ?_; rintro e w' ⟨rfl, rfl⟩; rw [hQ.out])
  clear hc0
  go_loopw [6] (fun v wr => ∃ k : Nat, v = .int .i64 (k : Int) ∧ i < k ∧ k ≤ n ∧ wr = w ∧ Hid (∀ j y, i ≤ j → j < k → rs[j]? = some y → wordR y = true)) (fun v _ => n - (intOf v).toNat)
  case atStart =>
    refine ⟨i + 1, by simp, by omega, by omega, rfl, fun j y h1 h2 hy => ?_⟩
    obtain rfl : j = i := by omega
    rw [hX.out] at hy
    injection hy with hy
    subst hy
    exact letter_word hQ.out
  case round =>
    obtain ⟨k, rfl, hik, hkn, rfl, HA⟩ := hrel
    by_cases hlt : k < n
    · obtain ⟨y, hy⟩ : ∃ y, Hid (rs[k]? = some y) := ⟨_, List.getElem?_eq_getElem (by omega)⟩
      obtain ⟨ad2, e, _, hc1⟩ := hrd.out.rune_at hy.out
      injection e with e
      subst e
      have tk : (k : Int) < (n : Int) := by omega
      obtain ⟨q, hq⟩ : ∃ q, Hid (classV y = q) := ⟨_, rfl⟩
      have hw := Lib.hid (wordR_of hq.out)
      by_cases hword : wordR y = true
      · have HA2 : Hid (∀ j z, i ≤ j → j < k + 1 → rs[j]? = some z → wordR z = true) := fun j z h1 h2 hz => by
          rcases Nat.lt_or_ge j k with h3 | h3
          · exact HA.out j z h1 h3 hz
          · obtain rfl : j = k := by omega
            rw [hy.out] at hz
            injection hz with hz
            subst hz; exact hword
        rw [hw.out] at hword
        clear HA hw
        have hcase : (q != 2) = false ∨ ((q != 2) = true ∧ (q != 3) = false) ∨ ((q != 2) = true ∧ (q != 3) = true ∧ ((y : Int) != 45) = false) ∨ ((q != 2) = true ∧ (q != 3) = true ∧ ((y : Int) != 45) = true ∧ ((y : Int) != 95) = false) := by
          simp at hword ⊢
          omega
        clear hword
        rcases hcase with t1 | ⟨t1, t2⟩ | ⟨t1, t2, t3⟩ | ⟨t1, t2, t3, t4⟩
        all_goals
          go_wp2_with (go_at_call 102; refine (rclass_any _ _).mono ?_; rintro e w' ⟨rfl, rfl⟩; rw [hq.out])
          go_roundw
          case rel => exact ⟨k + 1, by go_num, by omega, by omega, by trivial, HA2⟩
          case measure => simp [intOf]; omega
      · have hword' : wordR y = false := by simpa using hword
        have hE : Hid (endW rs i = k) := spanI_is (p := wordR) (by omega) (by omega) HA.out (fun z hz => by rw [hy.out] at hz; injection hz with hz; subst hz; exact hword')
        rw [hw.out] at hword'
        simp only [Bool.or_eq_false_iff] at hword'
        obtain ⟨⟨⟨t1, t2⟩, t3⟩, t4⟩ := hword'
        have t1' : (q != 2) = true := by simpa using t1
        have t2' : (q != 3) = true := by simpa using t2
        have t3' : ((y : Int) != 45) = true := by simp at t3 ⊢; omega
        have t4' : ((y : Int) != 95) = true := by simp at t4 ⊢; omega
        clear HA hw t1 t2 t3 t4 hword
        go_wp2_with (go_at_call 102; refine (rclass_any _ _).mono ?_; rintro e w' ⟨rfl, rfl⟩; rw [hq.out])
        go_ret
        exact ⟨by rw [hE.out]; first | done | rfl, rfl⟩
    · obtain rfl : k = n := by omega
      have hE : Hid (endW rs i = k) := spanI_is (p := wordR) (by omega) (by omega) HA.out (fun z hz => by have := (List.getElem?_eq_some_iff.1 hz).1; omega)
      clear HA
      go_wp2
      go_ret
      exact ⟨by rw [hE.out]; first | done | rfl, rfl⟩
set_option maxHeartbeats 1000000 in
theorem end05_small (A : Option Addr) (n c B : Nat) (rs : List Nat) (i x : Nat) (w : World) (h : Reads w B 1 A n (rcs rs)) (hx : rs[i]? = some x) (hq : classV x = 3) (hn : n ≤ 100000) :
    Calls Tryz.prog 155 #[.slice A n c, .int .i64 (i : Int)] w fun e w' => e = .returned (.int .i64 (endD rs i : Nat)) ∧ w = w' := by
  have hlen := h.rune_len
  have hil : i < n := by have := (List.getElem?_eq_some_iff.1 hx).1; omega
  obtain ⟨ad, rfl, hb, hc0⟩ := h.rune_at hx
  have hrd := Lib.hid h
  have hX := Lib.hid hx
  have hQ := Lib.hid hq
  have til : (i : Int) < (n : Int) := by omega
  clear h hx hq
  go_enter Tryz.func155, Tryz.ntmps155
  go_wp2_with (go_at_call 102; refine (rclass_any _ _).mono ?_; rintro e w' ⟨rfl, rfl⟩; rw [hQ.out])
  clear hc0
  go_loopw [6] (fun v wr => ∃ k : Nat, v = .int .i64 (k : Int) ∧ i < k ∧ k ≤ n ∧ wr = w ∧ Hid (∀ j y, i ≤ j → j < k → rs[j]? = some y → smallR y = true)) (fun v _ => n - (intOf v).toNat)
  case atStart =>
    refine ⟨i + 1, by simp, by omega, by omega, rfl, fun j y h1 h2 hy => ?_⟩
    obtain rfl : j = i := by omega
    rw [hX.out] at hy
    injection hy with hy
    subst hy
    exact digit_small hQ.out
  case round =>
    obtain ⟨k, rfl, hik, hkn, rfl, HA⟩ := hrel
    by_cases hlt : k < n
    · obtain ⟨y, hy⟩ : ∃ y, Hid (rs[k]? = some y) := ⟨_, List.getElem?_eq_getElem (by omega)⟩
      obtain ⟨ad2, e, _, hc1⟩ := hrd.out.rune_at hy.out
      injection e with e
      subst e
      have tk : (k : Int) < (n : Int) := by omega
      obtain ⟨q, hq⟩ : ∃ q, Hid (classV y = q) := ⟨_, rfl⟩
      obtain ⟨b, hb2⟩ : ∃ b, Hid (smallR y = b) := ⟨_, rfl⟩
      cases b with
      | true =>
        have HA2 : Hid (∀ j z, i ≤ j → j < k + 1 → rs[j]? = some z → smallR z = true) := fun j z h1 h2 hz => by
          rcases Nat.lt_or_ge j k with h3 | h3
          · exact HA.out j z h1 h3 hz
          · obtain rfl : j = k := by omega
            rw [hy.out] at hz
            injection hz with hz
            subst hz; exact hb2.out
        clear HA
        go_wp2_with (first
          | (go_at_call 102; refine (rclass_any _ _).mono ?_; rintro e w' ⟨rfl, rfl⟩; rw [hq.out])
          | (go_at_call 164; refine (small05_any _ _).mono ?_; rintro e w' ⟨rfl, rfl⟩; rw [hb2.out]))
        go_roundw
        case rel => exact ⟨k + 1, by go_num, by omega, by omega, by trivial, HA2⟩
        case measure => simp [intOf]; omega
      | false =>
        have hE : Hid (endD rs i = k) := spanI_is (p := smallR) (by omega) (by omega) HA.out (fun z hz => by rw [hy.out] at hz; injection hz with hz; subst hz; exact hb2.out)
        clear HA
        go_wp2_with (first
          | (go_at_call 102; refine (rclass_any _ _).mono ?_; rintro e w' ⟨rfl, rfl⟩; rw [hq.out])
          | (go_at_call 164; refine (small05_any _ _).mono ?_; rintro e w' ⟨rfl, rfl⟩; rw [hb2.out]))
        go_ret
        exact ⟨by rw [hE.out]; first | done | rfl, rfl⟩
    · obtain rfl : k = n := by omega
      have hE : Hid (endD rs i = k) := spanI_is (p := smallR) (by omega) (by omega) HA.out (fun z hz => by have := (List.getElem?_eq_some_iff.1 hz).1; omega)
      clear HA
      go_wp2
      go_ret
      exact ⟨by rw [hE.out]; first | done | rfl, rfl⟩
theorem plain05_any (A : Option Addr) (n c B : Nat) (rs : List Nat) (w : World) (h : Reads w B 1 A n (rcs rs)) (hs : ∀ r ∈ rs, smallR r = true) (hn : n ≤ 100000) :
    Calls Tryz.prog 157 #[.slice A n c] w fun e w' => e = .returned (.bool (!rs.all digR)) ∧ w = w' := by
  have hlen := h.rune_len
  have hrd := Lib.hid h
  have hS := Lib.hid hs
  clear h hs
  go_enter Tryz.func157, Tryz.ntmps157
  go_wp2
  go_loopw [3] (fun v wr => ∃ k : Nat, v = .int .i64 (k : Int) ∧ k ≤ n ∧ wr = w ∧ Hid (∀ j y, j < k → rs[j]? = some y → digR y = true)) (fun v _ => n - (intOf v).toNat)
  case atStart => exact ⟨0, rfl, Nat.zero_le _, rfl, fun j y h => absurd h (by omega)⟩
  case round =>
    obtain ⟨k, rfl, hkn, rfl, HA⟩ := hrel
    by_cases hlt : k < n
    · obtain ⟨y, hy⟩ : ∃ y, Hid (rs[k]? = some y) := ⟨_, List.getElem?_eq_getElem (by omega)⟩
      obtain ⟨ad2, rfl, _, hc1⟩ := hrd.out.rune_at hy.out
      have tk : (k : Int) < (n : Int) := by omega
      have hsy := hS.out y (List.mem_of_getElem? hy.out)
      by_cases hd : digR y = true
      · have HA2 : Hid (∀ j z, j < k + 1 → rs[j]? = some z → digR z = true) := fun j z h2 hz => by
          rcases Nat.lt_or_ge j k with h3 | h3
          · exact HA.out j z h3 hz
          · obtain rfl : j = k := by omega
            rw [hy.out] at hz
            injection hz with hz
            subst hz; exact hd
        have hd2 := digR_iff.1 hd
        have t1 : decide ((97 : Int) ≤ (y : Int)) = false := by simp; omega
        clear HA hd hd2 hsy
        go_wp2
        go_roundw
        case rel => exact ⟨k + 1, by go_num, by omega, by trivial, HA2⟩
        case measure => simp [intOf]; omega
      · have t1 : (97 : Int) ≤ (y : Int) := by rw [digR_iff] at hd; unfold smallR at hsy; simp at hsy; omega
        have hE : Hid (rs.all digR = false) := by
          show _ = _
          rw [Bool.eq_false_iff]
          intro h
          exact hd (List.all_eq_true.1 h y (List.mem_of_getElem? hy.out))
        clear HA hd hsy
        go_wp2
        go_ret
        exact ⟨ret_bool (by rw [hE.out]; rfl), rfl⟩
    · obtain rfl : k = n := by omega
      have hE : Hid (rs.all digR = true) := by
        show _ = _
        rw [List.all_eq_true]
        intro y hy
        obtain ⟨j, hj⟩ := List.mem_iff_getElem?.1 hy
        have := (List.getElem?_eq_some_iff.1 hj).1
        exact HA.out j y (by omega) hj
      clear HA
      go_wp2
      go_ret
      exact ⟨ret_bool (by rw [hE.out]; rfl), rfl⟩
theorem valR_snoc (l : List Nat) (r : Nat) : valR (l ++ [r]) = valR l * 10 + (r - 48) := by simp [valR]
theorem valR_lt {l : List Nat} (h : ∀ r ∈ l, digR r = true) : ∀ k, k ≤ l.length → valR (l.take k) < 10 ^ k := by
  intro k
  induction k with
  | zero => intro _; simp [valR]
  | succ k ih =>
    intro hk
    have h1 := ih (by omega)
    have hx : l[k]? = some (l[k]'(by omega)) := List.getElem?_eq_getElem (by omega)
    have h2 := digR_iff.1 (h _ (List.mem_of_getElem? hx))
    rw [take_snoc hx, valR_snoc, Nat.pow_succ]
    omega
set_option maxHeartbeats 1000000 in
theorem number05_ok (A : Option Addr) (n c B : Nat) (l : List Nat) (w : World) (h : Reads w B 1 A n (rcs l)) (hd : ∀ r ∈ l, digR r = true) (hne : l ≠ []) (hok : numOk l = true) :
    Calls Tryz.prog 158 #[.slice A n c] w fun e w' => e = .returned (.int .i64 (valR l : Nat)) ∧ w = w' := by
  have hlen := h.rune_len
  have h0 : 0 < l.length := by rcases l with _ | ⟨a, t⟩; exact absurd rfl hne; simp
  have hx0 : l[0]? = some (l.headD 0) := by cases l; exact absurd rfl hne; rfl
  obtain ⟨ad, rfl, hb, hc0⟩ := h.rune_at hx0
  unfold numOk at hok
  simp at hok
  obtain ⟨h9, hz⟩ := hok
  have hrd := Lib.hid h
  have hD := Lib.hid hd
  obtain ⟨x0, hx1⟩ : ∃ x0, Hid (l.headD 0 = x0) := ⟨_, rfl⟩
  rw [hx1.out] at hc0
  have hz2 : l.length = 1 ∨ (1 < l.length ∧ ((x0 : Int) == 48) = false) := by
    rcases Nat.lt_or_ge 1 l.length with h1 | h1
    · right
      refine ⟨h1, ?_⟩
      have := hz.resolve_left (by omega)
      rw [← hx1.out]
      simp
      cases l with
      | nil => exact absurd rfl hne
      | cons a t => simp at this ⊢; omega
    · left; omega
  have hV := Lib.hid (valR_lt hd)
  clear h hd hz hne
  have tn0 : ((n : Int) == 0) = false := by simp; omega
  have tn9 : decide ((9 : Int) < (n : Int)) = false := by simp; omega
  have cell0 : w.cell? (ad.add 0) = some (.int .i32 (x0 : Int)) := hc0
  have cell0' : w.cell? ad = some (.int .i32 (x0 : Int)) := by simpa [Addr.add] using hc0
  have go : ∀ (t1 : (decide ((1 : Int) < (n : Int)) = false) ∨ (decide ((1 : Int) < (n : Int)) = true ∧ ((x0 : Int) == 48) = false)), Calls Tryz.prog 158 #[.slice (some ad) n c] w fun e w' => e = .returned (.int .i64 (valR l : Nat)) ∧ w = w' := by
    intro t1
    have t0n : (0 : Int) < (n : Int) := by omega
    rcases t1 with t1 | ⟨t1, t2⟩
    all_goals
      go_enter Tryz.func158, Tryz.ntmps158
      go_wp2
      go_loopw [3, 4] (fun u v wr => ∃ k : Nat, u = .int .i64 (valR (l.take k) : Nat) ∧ v = .int .i64 (k : Int) ∧ k ≤ n ∧ wr = w) (fun _ v _ => n - (intOf v).toNat)
      case atStart => exact ⟨0, rfl, rfl, Nat.zero_le _, rfl⟩
      case round =>
        obtain ⟨k, rfl, rfl, hkn, rfl⟩ := hrel
        by_cases hlt : k < n
        · obtain ⟨y, hy⟩ : ∃ y, Hid (l[k]? = some y) := ⟨_, List.getElem?_eq_getElem (by omega)⟩
          obtain ⟨ad2, e, _, hc1⟩ := hrd.out.rune_at hy.out
          injection e with e
          subst e
          have tk : (k : Int) < (n : Int) := by omega
          obtain ⟨hd1, hd2⟩ := digR_iff.1 (hD.out y (List.mem_of_getElem? hy.out))
          have s1 : decide ((y : Int) < 48) = false := by simp; omega
          have s2 : decide ((57 : Int) < (y : Int)) = false := by simp; omega
          have hvb : valR (l.take k) < 1000000000 := by
            have h1 := hV.out k (by omega)
            have h2 : 10 ^ k ≤ 10 ^ 9 := Nat.pow_le_pow_right (by omega) (by omega)
            omega
          have hvs : Hid (valR (l.take (k + 1)) = valR (l.take k) * 10 + (y - 48)) := by show _ = _; rw [take_snoc hy.out, valR_snoc]
          obtain ⟨vk, hvk⟩ : ∃ vk, Hid (valR (l.take k) = vk) := ⟨_, rfl⟩
          rw [hvk.out] at hvb hvs ⊢
          go_wp2
          go_roundw
          case rel => exact ⟨k + 1, by rw [hvs.out]; go_num, by go_num, by omega, by trivial⟩
          case measure => simp [intOf]; omega
        · obtain rfl : k = n := by omega
          have hE : Hid (l.take k = l) := by show _ = _; rw [← hlen]; exact List.take_length
          go_wp2
          go_ret
          exact ⟨by rw [hE.out]; first | done | rfl, rfl⟩
  rcases hz2 with h1 | ⟨h1, h2⟩
  · exact go (.inl (by simp; omega))
  · exact go (.inr ⟨by simp; omega, h2⟩)
theorem number05_bad (A : Option Addr) (n c B : Nat) (l : List Nat) (w : World) (h : Reads w B 1 A n (rcs l)) (hne : l ≠ []) (hn : n ≤ 100000) (hok : numOk l = false) :
    Calls Tryz.prog 158 #[.slice A n c] w fun e w' => e = .returned (.int .i64 (-1)) ∧ w = w' := by
  have hlen := h.rune_len
  have h0 : 0 < l.length := by rcases l with _ | ⟨a, t⟩; exact absurd rfl hne; simp
  have hx0 : l[0]? = some (l.headD 0) := by cases l; exact absurd rfl hne; rfl
  obtain ⟨ad, rfl, hb, hc0⟩ := h.rune_at hx0
  unfold numOk at hok
  simp at hok
  obtain ⟨x0, hx1⟩ : ∃ x0, Hid (l.headD 0 = x0) := ⟨_, rfl⟩
  rw [hx1.out] at hc0
  have tn0 : ((n : Int) == 0) = false := by simp; omega
  have cell0 : w.cell? (ad.add 0) = some (.int .i32 (x0 : Int)) := hc0
  have cell0' : w.cell? ad = some (.int .i32 (x0 : Int)) := by simpa [Addr.add] using hc0
  have hcase : decide ((9 : Int) < (n : Int)) = true ∨ (decide ((9 : Int) < (n : Int)) = false ∧ decide ((1 : Int) < (n : Int)) = true ∧ ((x0 : Int) == 48) = true) := by
    by_cases h9 : l.length ≤ 9
    · right
      obtain ⟨h1, h2⟩ := hok h9
      refine ⟨by simp; omega, by simp; omega, ?_⟩
      rw [← hx1.out]
      simp
      cases l with
      | nil => exact absurd rfl hne
      | cons a t => simp at h2 ⊢; omega
    · left; simp; omega
  have t0n : (0 : Int) < (n : Int) := by omega
  clear hok h hne
  rcases hcase with t1 | ⟨t1, t2, t3⟩
  all_goals
    go_enter Tryz.func158, Tryz.ntmps158
    go_wp2
    go_ret
    exact ⟨rfl, rfl⟩
def St (rs : List Nat) (a i : Nat) : Prop := a ≤ i ∧ i ≤ endT rs a ∧ heldN true (rs.drop a) (i - a) = false
section
variable {rs : List Nat} {a i x : Nat}
theorem endT_more (h1 : a ≤ i) (h : i ≤ endT rs a) (hx : rs[i]? = some x) (ht : textR (heldN true (rs.drop a) (i - a)) x = true) : i + 1 ≤ endT rs a := by
  rcases Nat.lt_or_ge i (endT rs a) with h2 | h2
  · exact h2
  · have e : endT rs a = i := by omega
    have e2 : scan true (rs.drop a) = i - a := by unfold endT at e; omega
    have h3 := scan_stop (h := true) (l := rs.drop a) (x := x) (by rw [e2]; exact drop_get h1 hx)
    rw [e2, ht] at h3; cases h3
theorem endT_here (h1 : a ≤ i) (h : i ≤ endT rs a) (hx : rs[i]? = some x) (ht : textR (heldN true (rs.drop a) (i - a)) x = false) : endT rs a = i := by
  rcases Nat.lt_or_ge i (endT rs a) with h2 | h2
  · have h3 := scan_mid (h := true) (l := rs.drop a) (k := i - a) (x := x) (by unfold endT at h2; omega) (drop_get h1 hx)
    rw [ht] at h3; cases h3
  · omega
theorem held_step (h1 : a ≤ i) (hx : rs[i]? = some x) : heldN true (rs.drop a) (i + 1 - a) = heldR (heldN true (rs.drop a) (i - a)) x := by
  rw [show i + 1 - a = (i - a) + 1 by omega, heldN_succ (drop_get h1 hx)]
theorem st_start (hx : rs[a]? = some 34) : St rs a (a + 1) := by
  have h0 : heldN true (rs.drop a) (a - a) = true := by simp [heldN]
  refine ⟨by omega, endT_more (Nat.le_refl _) (by unfold endT; omega) hx (by rw [h0]; decide), ?_⟩
  rw [held_step (Nat.le_refl _) hx, h0]; decide
theorem st_quote (h : St rs a i) (hx : rs[i]? = some 34) : endT rs a = i := endT_here h.1 h.2.1 hx (by rw [h.2.2]; decide)
theorem st_bad (h : St rs a i) (hx : rs[i]? = some x) (hb : badR x = true) : endT rs a = i := endT_here h.1 h.2.1 hx (by unfold textR; rw [hb]; rfl)
theorem st_next (h : St rs a i) (hx : rs[i]? = some x) (hb : badR x = false) (h34 : x ≠ 34) (h92 : x ≠ 92) : St rs a (i + 1) := by
  refine ⟨by have := h.1; omega, endT_more h.1 h.2.1 hx (by rw [h.2.2]; unfold textR; rw [hb]; simp [h34]), ?_⟩
  rw [held_step h.1 hx, h.2.2]; unfold heldR; simp [h92]
theorem st_esc (h : St rs a i) (hx : rs[i]? = some 92) : i + 1 ≤ endT rs a ∧ heldN true (rs.drop a) (i + 1 - a) = true := by
  refine ⟨endT_more h.1 h.2.1 hx (by rw [h.2.2]; decide), ?_⟩
  rw [held_step h.1 hx, h.2.2]; decide
theorem st_esc_end (h : St rs a i) (hx : rs[i]? = some 92) (hn : i + 1 = rs.length) : endT rs a = rs.length := by
  have h1 := (st_esc h hx).1
  have h2 := endT_le (rs := rs) (i := a) (by have := h.1; omega)
  omega
theorem st_esc_bad {y : Nat} (h : St rs a i) (hx : rs[i]? = some 92) (hy : rs[i + 1]? = some y) (hb : badR y = true) : endT rs a = i + 1 :=
  endT_here (by have := h.1; omega) (st_esc h hx).1 hy (by unfold textR; rw [hb]; rfl)
theorem st_esc_next {y : Nat} (h : St rs a i) (hx : rs[i]? = some 92) (hy : rs[i + 1]? = some y) (hb : badR y = false) : St rs a (i + 2) := by
  have h1 := st_esc h hx
  have ha := h.1
  refine ⟨by omega, endT_more (by omega) h1.1 hy (by rw [h1.2]; unfold textR; rw [hb]; simp), ?_⟩
  rw [show i + 2 - a = (i + 1) + 1 - a by omega, held_step (by omega) hy, h1.2]; unfold heldR; simp
end
theorem results_cell3 {P : Program} {fn : Func} {p t u v : Tmp} {ty : TypeId} (h : fn.results = #[.cell p ty, .tmp t, .tmp u, .tmp v]) (tmps : Array Value) (w : World) (g : Nat) (tt : TypeId) (cs : Array Value) (fr : Nat × Nat) (d : TypeDesc)
    (hp : tmps.getD p undef = .pointer (some ⟨g, 0, none⟩)) (hg : w.heap[g]? = some (.cells cs tt fr))
    (hu : P.underlying ty = some d) (hd : (match d with | .struct _ | .array _ _ => true | _ => false) = true) (hi : (P.info? ty).map (·.size) = some cs.size) :
    (results fn tmps).run P w = .ok (.tuple #[.agg cs, tmps.getD t undef, tmps.getD u undef, tmps.getD v undef]) w := by
  have hp' : tmps[p]?.getD undef = .pointer (some ⟨g, 0, none⟩) := by simpa using hp
  simp [results, h, hp', asAddr, run_loadVar_row w g tt ty cs fr d hg hu hd hi]
def OneIs (w : World) (r : (Tk × Nat) ⊕ (Nat × Int)) (e : Ending) (w' : World) : Prop :=
  match r with
  | .inl (t, m) => e = .returned (.tuple #[tkV t, .int .i64 (m : Int), .int .i64 0, .int .i64 0]) ∧ Below w.heap.size w w'
  | .inr (a, er) => (∃ t, e = .returned (.tuple #[tkV t, .int .i64 0, .int .i64 (a : Int), .int .i64 er])) ∧ Below w.heap.size w w'
theorem bad_q {x : Nat} {q : Int} (h : classV x = q) : badR x = (q == 0) := by unfold badR; rw [h]
theorem below_tok (w : World) : Below w.heap.size w (w.alloc tok0) := (Below.refl _ w).alloc (Nat.le_refl _) _
theorem below_set4 {w w' : World} {a0 a1 a2 a3 : Value} (h : Below w.heap.size w w') : Below w.heap.size w ((((w'.setCell ⟨w.heap.size, 0, none⟩ a0).setCell ⟨w.heap.size, 1, none⟩ a1).setCell ⟨w.heap.size, 2, none⟩ a2).setCell ⟨w.heap.size, 3, none⟩ a3) :=
  (((h.setCell (p := ⟨w.heap.size, 0, none⟩) (Nat.le_refl _) _).setCell (p := ⟨w.heap.size, 1, none⟩) (Nat.le_refl _) _).setCell (p := ⟨w.heap.size, 2, none⟩) (Nat.le_refl _) _).setCell (p := ⟨w.heap.size, 3, none⟩) (Nat.le_refl _) _
set_option maxRecDepth 20000 in
set_option maxHeartbeats 2000000 in
theorem text05_any (A : Option Addr) (n c B : Nat) (rs : List Nat) (a : Nat) (w : World) (h : Reads w B 1 A n (rcs rs)) (hB : B ≤ w.heap.size) (hcap : n ≤ c) (hx : rs[a]? = some 34) (hn : n ≤ 100000) (hcm : c ≤ maxLen) :
    Calls Tryz.prog 159 #[.slice A n c, .int .i64 (a : Int)] w (OneIs w (textP rs a)) := by
  have hlen := h.rune_len
  have hal : a < n := by have := (List.getElem?_eq_some_iff.1 hx).1; omega
  obtain ⟨ad, rfl, hb, _⟩ := h.rune_at hx
  have hst := Lib.hid (st_start hx)
  have hrd := Lib.hid h
  have hle := endT_le (rs := rs) (i := a) (by omega)
  have hP : True := trivial
  clear h hx
  go_enter Tryz.func159, Tryz.ntmps159
  go_wp2_with fail
  go_loopw [8] (fun v wr => ∃ i : Nat, v = .int .i64 (i : Int) ∧ a < i ∧ wr = w.alloc tok0 ∧ (St rs a i ∨ (i = n + 1 ∧ endT rs a = n))) (fun v _ => n + 1 - (intOf v).toNat)
  case atStart => exact ⟨a + 1, by simp, by omega, rfl, .inl hst.out⟩
  case round =>
    obtain ⟨i, rfl, hai, hwr, hcase⟩ := hrel
    have hz : wr.heap.size = w.heap.size + 1 := by rw [hwr]; simp
    have hbl : Below w.heap.size w wr := by rw [hwr]; exact below_tok w
    have ht : wr.heap[w.heap.size]? = some tok0 := by rw [hwr]; exact heap_alloc_new w tok0
    have hrd2 := Lib.hid (hrd.out.below (hbl.mono hB))
    obtain ⟨e3f, e30, e31, e32, e33⟩ := row4 ht
    replace hz := Lib.hid hz
    replace hbl := Lib.hid hbl
    have hwr2 := Lib.hid hwr
    clear hwr
    rcases hcase with hS | ⟨rfl, hend⟩
    case inr =>
      have t1 : decide ((n : Int) + 1 < (n : Int)) = false := by simp; omega
      have t2 : (n : Int) ≤ (n : Int) + 1 := by omega
      have hP2 : Hid (textP rs a = .inr (a, 50)) := by show _ = _; unfold textP; rw [if_pos (by omega)]
      go_wp2
      (try simp only [Exit.inBlock, Exit.then])
      refine bodyPost_ret (results_cell3 rfl _ _ w.heap.size _ _ _ _ rfl (set4_blk ht) Tryz.underlying96 rfl (by kernel_rfl)) rfl ?_
      rw [hP2.out]
      exact ⟨⟨⟨_, _, _, _⟩, rfl⟩, below_set4 hbl.out⟩
    case inl =>
      have hin : i ≤ n := by have := hS.2.1; omega
      by_cases hlt : i < n
      · obtain ⟨y, hy⟩ : ∃ y, Hid (rs[i]? = some y) := ⟨_, List.getElem?_eq_getElem (by omega)⟩
        obtain ⟨ad2, e, _, hc1⟩ := hrd2.out.rune_at hy.out
        injection e with e
        subst e
        have ti : (i : Int) < (n : Int) := by omega
        obtain ⟨q, hq⟩ : ∃ q, Hid (classV y = q) := ⟨_, rfl⟩
        have hbq := Lib.hid (bad_q hq.out)
        by_cases h34 : y = 34
        · have hy34 : Hid (rs[i]? = some 34) := by rw [← h34]; exact hy
          have hE := Lib.hid (st_quote hS hy34.out)
          have t34 : ((y : Int) != 34) = false := by simp; omega
          have tge : decide ((n : Int) ≤ (i : Int)) = false := by simp; omega
          obtain ⟨A', c', s1, s2, hc', s3⟩ := cut_runes hrd2.out hcap (i := a) (j := i + 1) (by omega) (by omega)
          have s4 := (s3 wr (fun _ _ => rfl)).2
          have hok := ok_flat (cut_good (i := a) (by rw [hE.out]; exact hy34.out) rfl)
          rw [← bl_strR, hE.out] at hok
          have hcl := strR_small (cutR rs a (i + 1))
          have hcl2 := cutR_le rs a (i + 1)
          have hP3 : Hid (textP rs a = if (unqV (bl (strR (cutR rs a (i + 1))))).isSome then .inl (⟨4, ⟨(unqT (bl (strR (cutR rs a (i + 1))))).toArray⟩, 0, a⟩, i + 1) else .inr (a, 50)) := by
            show _ = _
            unfold textP; rw [hE.out, if_neg (by omega), if_neg (by rw [getD_of hy34.out]; omega)]
          obtain ⟨s, hs⟩ : ∃ s, Hid (strR (cutR rs a (i + 1)) = s) := ⟨_, rfl⟩
          rw [hs.out] at s4 hok hcl hP3
          have hu : Hid (∀ v : World, Calls Tryz.prog 165 #[.string s] v fun e v' => e = .returned (.tuple #[.string ⟨(unqT (bl s)).toArray⟩, .int .i64 (unqE (bl s))]) ∧ Below v.heap.size v v') := fun v => runquote_any s v (by omega)
          obtain ⟨u, hu1⟩ : ∃ u, Hid (unqT (bl s) = u) := ⟨_, rfl⟩
          rw [show ((i + 1 : Nat) : Int) = (i : Int) + 1 by omega] at s1 s2
          clear s3 hS hE h34
          cases hv : unqV (bl s) with
          | some z =>
            have hEE := (unq_yes hok hv).2
            rw [hu1.out, hEE] at hu
            have hP4 : Hid (textP rs a = .inl (⟨4, ⟨u.toArray⟩, 0, a⟩, i + 1)) := by show _ = _; rw [hP3.out, hv, hu1.out]; rfl
            clear hP3 hv hok hP hEE
            go_wp2_with (go_at_call 165; refine (hu.out _).mono ?_; rintro e w3 ⟨rfl, hb3⟩; have e3 : w3.heap[w.heap.size]? = some tok0 := (hb3.block _ (by rw [hz.out]; omega)).trans ht; obtain ⟨g3f, g30, g31, g32, g33⟩ := row4 e3)
            (try simp only [Exit.inBlock, Exit.then])
            refine bodyPost_ret (results_cell3 rfl _ _ w.heap.size _ _ _ _ rfl (set4_blk e3) Tryz.underlying96 rfl (by kernel_rfl)) rfl ?_
            rw [hP4.out]
            exact ⟨rfl, below_set4 (hbl.out.trans (hb3.mono (by rw [hz.out]; omega)))⟩
          | none =>
            have hEE := (unq_none hok hv).2
            rw [hu1.out, hEE] at hu
            have hP4 : Hid (textP rs a = .inr (a, 50)) := by show _ = _; rw [hP3.out, hv]; rfl
            clear hP3 hv hok hP hEE
            go_wp2_with (go_at_call 165; refine (hu.out _).mono ?_; rintro e w3 ⟨rfl, hb3⟩; have e3 : w3.heap[w.heap.size]? = some tok0 := (hb3.block _ (by rw [hz.out]; omega)).trans ht; obtain ⟨g3f, g30, g31, g32, g33⟩ := row4 e3)
            (try simp only [Exit.inBlock, Exit.then])
            refine bodyPost_ret (results_cell3 rfl _ _ w.heap.size _ _ _ _ rfl (set4_blk e3) Tryz.underlying96 rfl (by kernel_rfl)) rfl ?_
            rw [hP4.out]
            exact ⟨⟨⟨_, _, _, _⟩, rfl⟩, below_set4 (hbl.out.trans (hb3.mono (by rw [hz.out]; omega)))⟩
        · have t34 : ((y : Int) != 34) = true := by simp; omega
          by_cases hbad : badR y = true
          · have hE := Lib.hid (st_bad hS hy.out hbad)
            rw [hbq.out] at hbad
            have hP2 : Hid (textP rs a = .inr (i, 40)) := by show _ = _; unfold textP; rw [hE.out, if_neg (by omega), if_pos (by rw [getD_of hy.out]; exact h34)]
            clear hS hE h34 hP
            go_wp2_with (go_at_call 102; refine (rclass_any _ _).mono ?_; rintro e w' ⟨rfl, rfl⟩; rw [hq.out])
            (try simp only [Exit.inBlock, Exit.then])
            refine bodyPost_ret (results_cell3 rfl _ _ w.heap.size _ _ _ _ rfl (set4_blk ht) Tryz.underlying96 rfl (by kernel_rfl)) rfl ?_
            rw [hP2.out]
            exact ⟨⟨⟨_, _, _, _⟩, rfl⟩, below_set4 hbl.out⟩
          · have hbad' : badR y = false := by simpa using hbad
            have tb := hbad'
            rw [hbq.out] at tb
            by_cases h92 : y = 92
            · have t92 : ((y : Int) == 92) = true := by simp; omega
              have hy92 : Hid (rs[i]? = some 92) := by rw [← h92]; exact hy
              by_cases hl2 : i + 1 < n
              · obtain ⟨z, hz2⟩ : ∃ z, Hid (rs[i + 1]? = some z) := ⟨_, List.getElem?_eq_getElem (by omega)⟩
                obtain ⟨ad3, e, _, hc2⟩ := hrd2.out.rune_at hz2.out
                injection e with e
                subst e
                have hc2' : wr.cell? ⟨ad.block, ad.off + (i + 1), none⟩ = some (.int .i32 (z : Int)) := by have h2 := hc2; unfold Addr.add at h2; simpa using h2
                obtain ⟨q2, hq2⟩ : ∃ q2, Hid (classV z = q2) := ⟨_, rfl⟩
                have hbq2 := Lib.hid (bad_q hq2.out)
                have ti2 : (i : Int) + 1 < (n : Int) := by omega
                by_cases hbz : badR z = true
                · have hE := Lib.hid (st_esc_bad hS hy92.out hz2.out hbz)
                  have hz34 : z ≠ 34 := by intro e; subst e; revert hbz; decide
                  rw [hbq2.out] at hbz
                  have hP2 : Hid (textP rs a = .inr (i + 1, 40)) := by show _ = _; unfold textP; rw [hE.out, if_neg (by omega), if_pos (by rw [getD_of hz2.out]; exact hz34)]
                  clear hS hE h34 hP hbad hbad' h92 hz34
                  go_wp2_with (go_at_call 102; refine (rclass_any _ _).mono ?_; rintro e w' ⟨rfl, rfl⟩; first | rw [hq.out] | rw [hq2.out])
                  (try simp only [Exit.inBlock, Exit.then])
                  refine bodyPost_ret (results_cell3 rfl _ _ w.heap.size _ _ _ _ rfl (set4_blk ht) Tryz.underlying96 rfl (by kernel_rfl)) rfl ?_
                  rw [hP2.out]
                  exact ⟨⟨⟨_, _, _, _⟩, rfl⟩, below_set4 hbl.out⟩
                · have hbz' : badR z = false := by simpa using hbz
                  have hS2 := Lib.hid (st_esc_next hS hy92.out hz2.out hbz')
                  rw [hbq2.out] at hbz'
                  clear hS h34 hP hbad hbad' h92 hbz
                  go_wp2_with (go_at_call 102; refine (rclass_any _ _).mono ?_; rintro e w' ⟨rfl, rfl⟩; first | rw [hq.out] | rw [hq2.out])
                  go_roundw
                  case rel => exact ⟨i + 2, by go_num, by omega, hwr2.out, .inl hS2.out⟩
                  case measure => simp [intOf]; omega
              · have hE := Lib.hid (st_esc_end hS hy92.out (by omega))
                have hin1 : n ≤ i + 1 := by omega
                have ti2 : decide ((i : Int) + 1 < (n : Int)) = false := by simp; omega
                clear hS h34 hP hbad hbad' h92
                go_wp2_with (go_at_call 102; refine (rclass_any _ _).mono ?_; rintro e w' ⟨rfl, rfl⟩; rw [hq.out])
                go_roundw
                case rel => exact ⟨i + 2, by go_num, by omega, hwr2.out, .inr ⟨by omega, by rw [hE.out]; omega⟩⟩
                case measure => simp [intOf]; omega
            · have t92 : ((y : Int) == 92) = false := by simp; omega
              have hS2 := Lib.hid (st_next hS hy.out hbad' h34 h92)
              clear hS h34 hP hbad hbad' h92
              go_wp2_with (go_at_call 102; refine (rclass_any _ _).mono ?_; rintro e w' ⟨rfl, rfl⟩; rw [hq.out])
              go_roundw
              case rel => exact ⟨i + 1, by go_num, by omega, hwr2.out, .inl hS2.out⟩
              case measure => simp [intOf]; omega
      · obtain rfl : i = n := by omega
        have t1 : decide ((i : Int) < (i : Int)) = false := by simp
        have hP2 : Hid (textP rs a = .inr (a, 50)) := by show _ = _; unfold textP; rw [if_pos (by have := hS.2.1; omega)]
        clear hS hP
        go_wp2
        (try simp only [Exit.inBlock, Exit.then])
        refine bodyPost_ret (results_cell3 rfl _ _ w.heap.size _ _ _ _ rfl (set4_blk ht) Tryz.underlying96 rfl (by kernel_rfl)) rfl ?_
        rw [hP2.out]
        exact ⟨⟨⟨_, _, _, _⟩, rfl⟩, below_set4 hbl.out⟩
def oneW (a : Nat) (w : World) : World := (w.alloc tok0).alloc (.cells #[.int .i64 0, .string ⟨#[]⟩, .int .i64 0, .int .i64 (a : Int)] 96)
section
variable (a : Nat) (w : World)
theorem oneW_below : Below w.heap.size w (oneW a w) := ((Below.refl _ w).alloc (Nat.le_refl _) _).alloc (by simp) _
theorem oneW_size : (oneW a w).heap.size = w.heap.size + 2 := by simp [oneW]
theorem oneW_0 : (oneW a w).heap[w.heap.size]? = some tok0 := by
  unfold oneW; rw [Below.heap_alloc _ _ _ (by simp)]; exact heap_alloc_new w tok0
theorem oneW_1 : (oneW a w).heap[w.heap.size + 1]? = some (.cells #[.int .i64 0, .string ⟨#[]⟩, .int .i64 0, .int .i64 (a : Int)] 96 (0, 0)) := by
  have h := heap_alloc_new (w.alloc tok0) (.cells #[.int .i64 0, .string ⟨#[]⟩, .int .i64 0, .int .i64 (a : Int)] 96)
  simpa [oneW] using h
end
theorem nextP_bad {rs : List Nat} {a x : Nat} (hx : rs[a]? = some x) (h : classV x = 0) : nextP rs a = .inr (a, 40) := by
  have hb : badR x = true := by unfold badR; rw [h]; rfl
  have h34 : x ≠ 34 := by intro e; subst e; revert hb; decide
  have hs : ¬ (x = 61 ∨ x = 58 ∨ x = 44 ∨ x = 45) := by rintro (e | e | e | e) <;> (subst e; revert hb; decide)
  unfold nextP
  rw [getD_of hx, h, if_neg (by decide), if_neg (by decide), if_neg h34, if_neg hs, if_pos rfl]
theorem set1_blk {v : World} {b : Nat} {x0 x1 x2 x3 a0 : Value} {t : TypeId} (h : v.heap[b]? = some (.cells #[x0, x1, x2, x3] t (0, 0))) : (v.setCell ⟨b, 0, none⟩ a0).heap[b]? = some (.cells #[a0, x1, x2, x3] t (0, 0)) := by simp [World.setCell, Array.getElem?_modify, h]
theorem OneIs.split {w : World} {r : (Tk × Nat) ⊕ (Nat × Int)} {e : Ending} {w' : World} (h : OneIs w r e w') :
    ∃ (t : Tk) (p1 p2 p3 : Int), e = .returned (.tuple #[tkV t, .int .i64 p1, .int .i64 p2, .int .i64 p3]) ∧ Below w.heap.size w w' ∧
      ∀ w0 w'' : World, Below w0.heap.size w0 w'' → OneIs w0 r (.returned (.tuple #[tkV t, .int .i64 p1, .int .i64 p2, .int .i64 p3])) w'' := by
  unfold OneIs at h
  rcases r with ⟨t, m⟩ | ⟨a, er⟩
  · obtain ⟨rfl, hb⟩ := h
    exact ⟨t, _, _, _, rfl, hb, fun w0 w'' hb2 => ⟨rfl, hb2⟩⟩
  · obtain ⟨⟨t, rfl⟩, hb⟩ := h
    exact ⟨t, _, _, _, rfl, hb, fun w0 w'' hb2 => ⟨⟨t, rfl⟩, hb2⟩⟩
theorem cut_one {rs : List Nat} {a x : Nat} (hx : rs[a]? = some x) : cutR rs a (a + 1) = [x] := by
  unfold cutR
  rw [show a + 1 - a = 1 by omega, List.drop_eq_getElem_cons (List.getElem?_eq_some_iff.1 hx).1]
  simp [(List.getElem?_eq_some_iff.1 hx).2]
set_option maxRecDepth 20000 in
set_option maxHeartbeats 4000000 in
theorem one05_any (A : Option Addr) (n c B : Nat) (rs : List Nat) (a x : Nat) (w : World) (h : Reads w B 1 A n (rcs rs)) (hB : B ≤ w.heap.size) (hcap : n ≤ c) (hx : rs[a]? = some x) (hn : n ≤ 100000) (hcm : c ≤ maxLen) :
    Calls Tryz.prog 135 #[.slice A n c, .int .i64 (a : Int)] w (OneIs w (nextP rs a)) := by
  have hlen := h.rune_len
  have hal : a < n := by have := (List.getElem?_eq_some_iff.1 hx).1; omega
  obtain ⟨ad, rfl, hb, hc0⟩ := h.rune_at hx
  have hX := Lib.hid hx
  have H1 := Lib.hid (h.below ((oneW_below a w).mono hB))
  have hc0 : (oneW a w).cell? (ad.add a) = some (.int .i32 (x : Int)) := by
    obtain ⟨ad', e, _, hc1⟩ := H1.out.rune_at hx
    injection e with e
    subst e
    exact hc1
  have ta : (a : Int) < (n : Int) := by omega
  obtain ⟨q, hq⟩ : ∃ q, Hid (classV x = q) := ⟨_, rfl⟩
  have hB1 := Lib.hid (oneW_below a w)
  have hZ1 : w.heap.size + 2 ≤ (oneW a w).heap.size := by rw [oneW_size]; omega
  have hT0 := oneW_0 a w
  have hT1 := oneW_1 a w
  have hW : Hid ((w.alloc (.cells #[.int .i64 0, .string ⟨#[]⟩, .int .i64 0, .int .i64 0] 96)).alloc (.cells #[.int .i64 0, .string ⟨#[]⟩, .int .i64 0, .int .i64 (a : Int)] 96) = oneW a w) := rfl
  clear h hx
  go_enter Tryz.func135, Tryz.ntmps135
  go_upto_region 2 with (fail)
  rw [hW.out]
  clear hW
  generalize oneW a w = W1 at *
  obtain ⟨f0, c00, c01, c02, c03⟩ := row4 hT0
  obtain ⟨f1, c10, c11, c12, c13⟩ := row4 hT1
  replace hT0 := Lib.hid hT0
  replace hT1 := Lib.hid hT1
  by_cases hq0 : q = 0
  · have hP := Lib.hid (nextP_bad hX.out (by rw [hq.out]; exact hq0))
    have t0 : (q == 0) = true := by simpa using hq0
    clear hq0
    go_wp2_with (go_at_call 102; refine (rclass_any _ _).mono ?_; rintro e w' ⟨rfl, rfl⟩; rw [hq.out])
    (try simp only [Exit.inBlock, Exit.then])
    refine bodyPost_ret (results_cell3 rfl _ _ w.heap.size _ _ _ _ rfl (set4_blk hT0.out) Tryz.underlying96 rfl (by kernel_rfl)) rfl ?_
    rw [hP.out]
    exact ⟨⟨⟨_, _, _, _⟩, rfl⟩, below_set4 hB1.out⟩
  have u0 : (q == 0) = false := by simpa using hq0
  by_cases hq2 : q = 2
  · have t2 : (q == 2) = true := by simpa using hq2
    have hP : Hid (nextP rs a = .inl (⟨1, lowT (cutR rs a (endW rs a)), 0, a⟩, endW rs a)) := by show _ = _; unfold nextP; rw [getD_of hX.out, hq.out, if_pos hq2]
    have hend := Lib.hid (fun v (hr : Reads v B 1 (some ad) n (rcs rs)) => end05_word (some ad) n c B rs a x v hr hX.out (by rw [hq.out]; exact hq2) hn)
    have hle : endW rs a ≤ n := by rw [← hlen]; exact spanI_le (by omega)
    have hge : a ≤ endW rs a := by unfold endW; omega
    obtain ⟨m, hm⟩ : ∃ m, Hid (endW rs a = m) := ⟨_, rfl⟩
    rw [hm.out] at hP hend hle hge
    obtain ⟨A', c', s1, s2, hc', s3⟩ := cut_runes H1.out hcap (i := a) (j := m) hge hle
    have hlow : Hid (lowT (cutR rs a m) = ⟨((bl (strR (cutR rs a m))).map lowB).toArray⟩) := rfl
    have hcl := strR_small (cutR rs a m)
    have hcl2 := cutR_le rs a m
    have s5 := (s3 (W1.setCell ⟨w.heap.size + 1, 0, none⟩ (.int .i64 1)) (fun p hp => World.cell?_setCell_other _ _ _ _ (fun e => by rw [← e] at hp; dsimp only at hp; omega))).2
    obtain ⟨s, hs⟩ : ∃ s, Hid (strR (cutR rs a m) = s) := ⟨_, rfl⟩
    rw [hs.out] at s5 hlow hcl
    clear s3 hq0 hq2
    go_wp2_with (first
      | (go_at_call 102; refine (rclass_any _ _).mono ?_; rintro e w' ⟨rfl, rfl⟩; rw [hq.out])
      | (go_at_call 155; refine (hend.out _ H1.out).mono ?_; rintro e w' ⟨rfl, rfl⟩))
    have hb2 : Hid (Below w.heap.size w (W1.setCell ⟨w.heap.size + 1, 0, none⟩ (.int .i64 1))) := hB1.out.setCell (p := ⟨w.heap.size + 1, 0, none⟩) (by show w.heap.size ≤ w.heap.size + 1; omega) _
    have g0 : Hid ((W1.setCell ⟨w.heap.size + 1, 0, none⟩ (.int .i64 1)).heap[w.heap.size]? = some tok0) := (Below.heap_setCell _ _ _ _ (by show w.heap.size ≠ w.heap.size + 1; omega)).trans hT0.out
    have g1 := Lib.hid (set1_blk (a0 := .int .i64 1) hT1.out)
    have hzz : w.heap.size + 2 ≤ (W1.setCell ⟨w.heap.size + 1, 0, none⟩ (.int .i64 1)).heap.size := by simp [World.setCell]; omega
    refine (rlower_any s _ (by omega)).mono ?_
    rintro e w3 ⟨rfl, hb3⟩
    have e0 : w3.heap[w.heap.size]? = some tok0 := (hb3.block _ (by omega)).trans g0.out
    have e1 := (hb3.block _ (by omega)).trans g1.out
    obtain ⟨k0, k00, k01, k02, k03⟩ := row4 e0
    obtain ⟨k1, k10, k11, k12, k13⟩ := row4 e1
    have hb4 := Lib.hid (hb2.out.trans (hb3.mono (by omega)))
    replace e0 := Lib.hid e0
    clear hb2 g0 g1 hb3 e1
    dsimp only
    go_wp2
    (try simp only [Exit.inBlock, Exit.then])
    refine bodyPost_ret (results_cell3 rfl _ _ w.heap.size _ _ _ _ rfl (set4_blk ((Below.heap_setCell _ _ _ _ (by show w.heap.size ≠ w.heap.size + 1; omega)).trans e0.out)) Tryz.underlying96 rfl (by kernel_rfl)) rfl ?_
    rw [hP.out]
    refine ⟨?_, below_set4 (hb4.out.setCell (p := ⟨w.heap.size + 1, 1, none⟩) (by show w.heap.size ≤ w.heap.size + 1; omega) _)⟩
    rw [hlow.out]; rfl
  have u2 : (q == 2) = false := by simpa using hq2
  by_cases hq3 : q = 3
  · have t3 : (q == 3) = true := by simpa using hq3
    have hP0 : Hid (nextP rs a = countP rs a) := by show _ = _; unfold nextP; rw [getD_of hX.out, hq.out, if_neg hq2, if_pos hq3]
    have hend := Lib.hid (fun v (hr : Reads v B 1 (some ad) n (rcs rs)) => end05_small (some ad) n c B rs a x v hr hX.out (by rw [hq.out]; exact hq3) hn)
    have hle : endD rs a ≤ n := by rw [← hlen]; exact spanI_le (by omega)
    have hge : a ≤ endD rs a := by unfold endD; omega
    have hsm := Lib.hid (cut_small (rs := rs) (i := a))
    have hne := Lib.hid (cut_ne hX.out (by rw [hq.out]; exact hq3))
    unfold countP at hP0
    obtain ⟨m, hm⟩ : ∃ m, Hid (endD rs a = m) := ⟨_, rfl⟩
    rw [hm.out] at hP0 hend hle hge hsm hne
    obtain ⟨A', c', s1, s2, hc', s3⟩ := cut_runes H1.out hcap (i := a) (j := m) hge hle
    have hcl2 := cutR_le rs a m
    obtain ⟨l, hl⟩ : ∃ l, Hid (cutR rs a m = l) := ⟨_, rfl⟩
    rw [hl.out] at hP0 hsm hne s3 hcl2
    have s3' : ∀ kk : Int, (∀ v, v = W1.setCell ⟨w.heap.size + 1, 0, none⟩ (.int .i64 kk) → Reads v B 1 A' (m - a) (rcs l) ∧ (convert 103 9 (.slice A' (m - a) c')).run Tryz.prog v = .ok (.string (strR l)) v) := fun kk v hv => by
      subst hv
      exact s3 _ (fun p hp => World.cell?_setCell_other _ _ _ _ (fun e => by rw [← e] at hp; dsimp only at hp; omega))
    have hpl := Lib.hid (plain05_any A' (m - a) c' B l W1 (s3 W1 (fun _ _ => rfl)).1 hsm.out (by omega))
    by_cases hall : l.all digR = true
    · rw [hall] at hpl
      have hdg : ∀ r ∈ l, digR r = true := List.all_eq_true.1 hall
      have r2 := (s3' 2 _ rfl).1
      have g0 : Hid ((W1.setCell ⟨w.heap.size + 1, 0, none⟩ (.int .i64 2)).heap[w.heap.size]? = some tok0) := (Below.heap_setCell _ _ _ _ (by show w.heap.size ≠ w.heap.size + 1; omega)).trans hT0.out
      have g1 := set1_blk (a0 := .int .i64 2) hT1.out
      have hb2 : Hid (Below w.heap.size w (W1.setCell ⟨w.heap.size + 1, 0, none⟩ (.int .i64 2))) := hB1.out.setCell (p := ⟨w.heap.size + 1, 0, none⟩) (by show w.heap.size ≤ w.heap.size + 1; omega) _
      by_cases hok : numOk l = true
      · have hP : Hid (nextP rs a = .inl (⟨2, ⟨#[]⟩, (valR l : Int), a⟩, m)) := by show _ = _; rw [hP0.out, if_pos hall, if_pos hok]
        have hnm := Lib.hid (number05_ok A' (m - a) c' B l _ r2 hdg hne.out hok)
        have tv : decide (((valR l : Nat) : Int) < 0) = false := by simp
        clear s3 s3' hq0 hq2 hq3 hP0 hall hok hdg r2 g1
        go_wp2_with (first
          | (go_at_call 102; refine (rclass_any _ _).mono ?_; rintro e w' ⟨rfl, rfl⟩; rw [hq.out])
          | (go_at_call 155; refine (hend.out _ H1.out).mono ?_; rintro e w' ⟨rfl, rfl⟩)
          | (go_at_call 157; refine Calls.mono hpl.out ?_; rintro e w' ⟨rfl, rfl⟩)
          | (go_at_call 158; refine Calls.mono hnm.out ?_; rintro e w' ⟨rfl, rfl⟩))
        (try simp only [Exit.inBlock, Exit.then])
        refine bodyPost_ret (results_cell3 rfl _ _ w.heap.size _ _ _ _ rfl (set4_blk ((Below.heap_setCell _ _ _ _ (by show w.heap.size ≠ w.heap.size + 1; omega)).trans g0.out)) Tryz.underlying96 rfl (by kernel_rfl)) rfl ?_
        rw [hP.out]
        exact ⟨rfl, below_set4 (hb2.out.setCell (p := ⟨w.heap.size + 1, 2, none⟩) (by show w.heap.size ≤ w.heap.size + 1; omega) _)⟩
      · have hok' : numOk l = false := by simpa using hok
        have hP : Hid (nextP rs a = .inr (a, 50)) := by show _ = _; rw [hP0.out, if_pos hall, if_neg hok]
        have hnm := Lib.hid (number05_bad A' (m - a) c' B l _ r2 hne.out (by omega) hok')
        clear s3 s3' hq0 hq2 hq3 hP0 hall hok hok' hdg r2 g1
        go_wp2_with (first
          | (go_at_call 102; refine (rclass_any _ _).mono ?_; rintro e w' ⟨rfl, rfl⟩; rw [hq.out])
          | (go_at_call 155; refine (hend.out _ H1.out).mono ?_; rintro e w' ⟨rfl, rfl⟩)
          | (go_at_call 157; refine Calls.mono hpl.out ?_; rintro e w' ⟨rfl, rfl⟩)
          | (go_at_call 158; refine Calls.mono hnm.out ?_; rintro e w' ⟨rfl, rfl⟩))
        (try simp only [Exit.inBlock, Exit.then])
        refine bodyPost_ret (results_cell3 rfl _ _ w.heap.size _ _ _ _ rfl (set4_blk ((Below.heap_setCell _ _ _ _ (by show w.heap.size ≠ w.heap.size + 1; omega)).trans g0.out)) Tryz.underlying96 rfl (by kernel_rfl)) rfl ?_
        rw [hP.out]
        exact ⟨⟨⟨_, _, _, _⟩, rfl⟩, below_set4 (hb2.out.setCell (p := ⟨w.heap.size + 1, 2, none⟩) (by show w.heap.size ≤ w.heap.size + 1; omega) _)⟩
    · have hall' : l.all digR = false := by simpa using hall
      rw [hall'] at hpl
      have hP : Hid (nextP rs a = .inl (⟨3, strR l, 0, a⟩, m)) := by show _ = _; rw [hP0.out, if_neg hall]
      have s5 := (s3' 3 _ rfl).2
      obtain ⟨s, hs⟩ : ∃ s, Hid (strR l = s) := ⟨_, rfl⟩
      rw [hs.out] at s5 hP
      have g0 : Hid ((W1.setCell ⟨w.heap.size + 1, 0, none⟩ (.int .i64 3)).heap[w.heap.size]? = some tok0) := (Below.heap_setCell _ _ _ _ (by show w.heap.size ≠ w.heap.size + 1; omega)).trans hT0.out
      have hb2 : Hid (Below w.heap.size w (W1.setCell ⟨w.heap.size + 1, 0, none⟩ (.int .i64 3))) := hB1.out.setCell (p := ⟨w.heap.size + 1, 0, none⟩) (by show w.heap.size ≤ w.heap.size + 1; omega) _
      clear s3 s3' hq0 hq2 hq3 hP0 hall hall'
      go_wp2_with (first
        | (go_at_call 102; refine (rclass_any _ _).mono ?_; rintro e w' ⟨rfl, rfl⟩; rw [hq.out])
        | (go_at_call 155; refine (hend.out _ H1.out).mono ?_; rintro e w' ⟨rfl, rfl⟩)
        | (go_at_call 157; refine Calls.mono hpl.out ?_; rintro e w' ⟨rfl, rfl⟩))
      (try simp only [Exit.inBlock, Exit.then])
      refine bodyPost_ret (results_cell3 rfl _ _ w.heap.size _ _ _ _ rfl (set4_blk ((Below.heap_setCell _ _ _ _ (by show w.heap.size ≠ w.heap.size + 1; omega)).trans g0.out)) Tryz.underlying96 rfl (by kernel_rfl)) rfl ?_
      rw [hP.out]
      exact ⟨rfl, below_set4 (hb2.out.setCell (p := ⟨w.heap.size + 1, 1, none⟩) (by show w.heap.size ≤ w.heap.size + 1; omega) _)⟩
  have u3 : (q == 3) = false := by simpa using hq3
  by_cases h34 : x = 34
  · have t34 : ((x : Int) == 34) = true := by simp; omega
    have hP : Hid (nextP rs a = textP rs a) := by show _ = _; unfold nextP; rw [getD_of hX.out, hq.out, if_neg hq2, if_neg hq3, if_pos h34]
    have htx := Lib.hid (text05_any (some ad) n c B rs a W1 H1.out (by omega) hcap (by rw [← h34]; exact hX.out) hn hcm)
    clear hq0 hq2 hq3 h34
    go_wp2_with (first
      | (go_at_call 102; refine (rclass_any _ _).mono ?_; rintro e w' ⟨rfl, rfl⟩; rw [hq.out])
      | (go_at_call 159; refine Calls.mono htx.out ?_; rintro e w3 h3; obtain ⟨t, p1, p2, p3, rfl, hb3, hup⟩ := h3.split; clear h3; have e0 : w3.heap[w.heap.size]? = some tok0 := (hb3.block _ (by omega)).trans hT0.out; obtain ⟨k0, k00, k01, k02, k03⟩ := row4 e0; replace hup := Lib.hid hup; replace hb3 := Lib.hid hb3; unfold tkV))
    (try simp only [Exit.inBlock, Exit.then])
    refine bodyPost_ret (results_cell3 rfl _ _ w.heap.size _ _ _ _ rfl (set4_blk e0) Tryz.underlying96 rfl (by kernel_rfl)) rfl ?_
    rw [hP.out]
    exact hup.out w _ (below_set4 (hB1.out.trans (hb3.out.mono (by omega))))
  have u34 : ((x : Int) == 34) = false := by simp; omega
  by_cases hsg : x = 61 ∨ x = 58 ∨ x = 44 ∨ x = 45
  · have hP : Hid (nextP rs a = .inl (⟨5, strR [x], 0, a⟩, a + 1)) := by show _ = _; unfold nextP; rw [getD_of hX.out, hq.out, if_neg hq2, if_neg hq3, if_neg h34, if_pos hsg]
    obtain ⟨A', c', s1, s2, hc', s3⟩ := cut_runes H1.out hcap (i := a) (j := a + 1) (by omega) (by omega)
    have s5 := (s3 (W1.setCell ⟨w.heap.size + 1, 0, none⟩ (.int .i64 5)) (fun p hp => World.cell?_setCell_other _ _ _ _ (fun e => by rw [← e] at hp; dsimp only at hp; omega))).2
    rw [cut_one hX.out] at s5
    obtain ⟨s, hs⟩ : ∃ s, Hid (strR [x] = s) := ⟨_, rfl⟩
    rw [hs.out] at s5 hP
    rw [show ((a + 1 : Nat) : Int) = (a : Int) + 1 by omega, show a + 1 - a = 1 by omega] at s1 s2
    rw [show a + 1 - a = 1 by omega] at s5
    have g0 : Hid ((W1.setCell ⟨w.heap.size + 1, 0, none⟩ (.int .i64 5)).heap[w.heap.size]? = some tok0) := (Below.heap_setCell _ _ _ _ (by show w.heap.size ≠ w.heap.size + 1; omega)).trans hT0.out
    have hb2 : Hid (Below w.heap.size w (W1.setCell ⟨w.heap.size + 1, 0, none⟩ (.int .i64 5))) := hB1.out.setCell (p := ⟨w.heap.size + 1, 0, none⟩) (by show w.heap.size ≤ w.heap.size + 1; omega) _
    have hcase : ((x : Int) == 61) = true ∨ (((x : Int) == 61) = false ∧ ((x : Int) == 58) = true) ∨ (((x : Int) == 61) = false ∧ ((x : Int) == 58) = false ∧ ((x : Int) == 44) = true) ∨ (((x : Int) == 61) = false ∧ ((x : Int) == 58) = false ∧ ((x : Int) == 44) = false ∧ ((x : Int) == 45) = true) := by simp; omega
    clear hq0 hq2 hq3 h34 hsg s3
    rcases hcase with t1 | ⟨t1, t2⟩ | ⟨t1, t2, t3⟩ | ⟨t1, t2, t3, t4⟩
    all_goals
      go_wp2_with (go_at_call 102; refine (rclass_any _ _).mono ?_; rintro e w' ⟨rfl, rfl⟩; rw [hq.out])
      (try simp only [Exit.inBlock, Exit.then])
      refine bodyPost_ret (results_cell3 rfl _ _ w.heap.size _ _ _ _ rfl (set4_blk ((Below.heap_setCell _ _ _ _ (by show w.heap.size ≠ w.heap.size + 1; omega)).trans g0.out)) Tryz.underlying96 rfl (by kernel_rfl)) rfl ?_
      rw [hP.out]
      exact ⟨rfl, below_set4 (hb2.out.setCell (p := ⟨w.heap.size + 1, 1, none⟩) (by show w.heap.size ≤ w.heap.size + 1; omega) _)⟩
  have hP : Hid (nextP rs a = .inr (a, 50)) := by show _ = _; unfold nextP; rw [getD_of hX.out, hq.out, if_neg hq2, if_neg hq3, if_neg h34, if_neg hsg, if_neg hq0]
  have t1 : ((x : Int) == 61) = false := by simp; omega
  have t2 : ((x : Int) == 58) = false := by simp; omega
  have t3 : ((x : Int) == 44) = false := by simp; omega
  have t4 : ((x : Int) == 45) = false := by simp; omega
  clear hq0 hq2 hq3 h34 hsg
  go_wp2_with (go_at_call 102; refine (rclass_any _ _).mono ?_; rintro e w' ⟨rfl, rfl⟩; rw [hq.out])
  (try simp only [Exit.inBlock, Exit.then])
  refine bodyPost_ret (results_cell3 rfl _ _ w.heap.size _ _ _ _ rfl (set4_blk hT0.out) Tryz.underlying96 rfl (by kernel_rfl)) rfl ?_
  rw [hP.out]
  exact ⟨⟨⟨_, _, _, _⟩, rfl⟩, below_set4 hB1.out⟩
theorem skip_blank {rs : List Nat} {k x : Nat} (hx : rs[k]? = some x) (hb : blankR x = true) : skipR rs k = skipR rs (k + 1) := by
  unfold skipR
  rw [List.drop_eq_getElem_cons (List.getElem?_eq_some_iff.1 hx).1, span_cons, (List.getElem?_eq_some_iff.1 hx).2, hb]
  simp; omega
theorem skip_here {rs : List Nat} {k x : Nat} (hx : rs[k]? = some x) (hb : blankR x = false) : skipR rs k = k := by
  unfold skipR
  rw [List.drop_eq_getElem_cons (List.getElem?_eq_some_iff.1 hx).1, span_cons, (List.getElem?_eq_some_iff.1 hx).2, hb]
  simp
theorem skip_end {rs : List Nat} : skipR rs rs.length = rs.length := by unfold skipR; simp [spanN]
theorem lexF_skip {f k k' : Nat} {rs : List Nat} {acc : List Tk} (h : skipR rs k = skipR rs k') : lexF f rs k acc = lexF f rs k' acc := by
  cases f with
  | zero => rfl
  | succ f => rw [lexF, lexF, h]
theorem blank_q {x : Nat} {q : Int} (h : classV x = q) : blankR x = (q == 1) := by
  unfold blankR hasC
  rw [h]
  cases h2 : (q == 1) <;> simp [List.contains, List.elem, h2]
theorem tokP_inl {s : ByteArray} {ts : List Tk} (h : s.size ≤ 400) (hl : lexP (runes (bl s)) = .inl ts) : tokP s = (ts, ((runes (bl s)).length : Int), 0) := by
  unfold tokP; rw [if_neg (by omega), hl]
theorem tokP_inr {s : ByteArray} {a : Nat} {er : Int} (h : s.size ≤ 400) (hl : lexP (runes (bl s)) = .inr (a, er)) : tokP s = ([], (a : Int), er) := by
  unfold tokP; rw [if_neg (by omega), hl]
set_option maxHeartbeats 1000000 in
theorem tokens05_big (s : ByteArray) (w : World) (h : 400 < s.size) : Calls Tryz.prog 100 #[.string s] w (RetTok w (tokP s)) := by
  have t1 : decide ((400 : Int) < (s.size : Int)) = true := by simp; omega
  have hP : Hid (tokP s = ([], 0, 3)) := by show _ = _; unfold tokP; rw [if_pos h]
  clear h
  go_enter Tryz.func100, Tryz.ntmps100
  go_wp2
  go_ret3
  rw [hP.out]
  exact ⟨_, rfl, Owns.nil, Below.refl _ _⟩
def TokInv (n c : Nat) (A : Option Addr) (rs : List Nat) (B2 : Nat) (w : World) (o i : Value) (wr : World) : Prop :=
  ∃ (k f : Nat) (acc : List Tk), i = .int .i64 (k : Int) ∧ k ≤ n ∧ n - k < f ∧ acc.length ≤ k ∧ Owns wr B2 96 4 o acc.length (recs tkC acc) ∧ Reads wr B2 1 A n (rcs rs) ∧ lexF f rs k acc = lexP rs ∧ Below w.heap.size w wr ∧ B2 ≤ wr.heap.size
set_option maxHeartbeats 2000000 in
theorem tokens05_any (s : ByteArray) (w : World) : Calls Tryz.prog 100 #[.string s] w (RetTok w (tokP s)) := by
  rcases Nat.lt_or_ge 400 s.size with h | h
  · exact tokens05_big s w h
  have t1 : decide ((400 : Int) < (s.size : Int)) = false := by simp; omega
  have hP := Lib.hid (fun ts => tokP_inl (s := s) (ts := ts) h)
  have hQ := Lib.hid (fun a er => tokP_inr (s := s) (a := a) (er := er) h)
  have hrl := runes_size s
  have hrn : (runes (bl s)).length ≤ 400 := by omega
  have hru := Lib.hid (runes05_any s w (by omega))
  obtain ⟨rs, hrs⟩ : ∃ rs, Hid (runes (bl s) = rs) := ⟨_, rfl⟩
  rw [hrs.out] at hP hQ hrn hru
  clear hrl
  go_enter Tryz.func100, Tryz.ntmps100
  go_wp2_with (go_at_call 134; refine Calls.mono hru.out ?_; rintro e w1 ⟨v, rfl, ho1, hb1⟩; obtain ⟨A, c, rfl, hcap, hcm⟩ := ho1.slice; have hr1 := Lib.hid ho1.reads; replace hb1 := Lib.hid hb1; clear ho1)
  go_loopw [6, 7] (TokInv rs.length c A rs w1.heap.size w) (fun _ v _ => rs.length - (intOf v).toNat)
  case atStart => exact ⟨0, rs.length + 1, [], rfl, Nat.zero_le _, by omega, Nat.le_refl _, Owns.nil, hr1.out, rfl, hb1.out, Nat.le_refl _⟩
  case round =>
    obtain ⟨k, f, acc, rfl, hkn, hf, hacc, hown, hrd, hlx, hbr, hB2⟩ := hrel
    have hw1 : w.heap.size ≤ w1.heap.size := hb1.out.size
    by_cases hlt : k < rs.length
    · obtain ⟨x, hx⟩ : ∃ x, Hid (rs[k]? = some x) := ⟨_, List.getElem?_eq_getElem (by omega)⟩
      obtain ⟨ad, rfl, hadB, hc1⟩ := hrd.rune_at hx.out
      have hR := Lib.hid hrd
      obtain ⟨q, hq⟩ : ∃ q, Hid (classV x = q) := ⟨_, rfl⟩
      have hbk := Lib.hid (blank_q hq.out)
      have tk : (k : Int) < (rs.length : Int) := by omega
      clear hrd
      by_cases hbl : blankR x = true
      · have hl2 : Hid (lexF f rs (k + 1) acc = lexP rs) := by show _ = _; rw [← hlx]; exact (lexF_skip (skip_blank hx.out hbl)).symm
        rw [hbk.out] at hbl
        clear hlx
        go_wp2_with (go_at_call 102; refine (rclass_any _ _).mono ?_; rintro e w' ⟨rfl, rfl⟩; rw [hq.out])
        go_roundw
        case rel => exact ⟨k + 1, f, acc, by go_num, by omega, by omega, by omega, hown, hR.out, hl2.out, hbr, hB2⟩
        case measure => simp [intOf]; omega
      · have hbl' : blankR x = false := by simpa using hbl
        have hsk := Lib.hid (skip_here hx.out hbl')
        have tb := hbl'
        rw [hbk.out] at tb
        have hone := Lib.hid (one05_any (some ad) rs.length c w1.heap.size rs k x wr hR.out hB2 hcap hx.out (by omega) hcm)
        have hlx2 := Lib.hid hlx
        clear hbl hbl' hlx
        obtain ⟨f', rfl⟩ : ∃ f', f = f' + 1 := ⟨f - 1, by omega⟩
        cases hnp : nextP rs k with
        | inr e =>
          obtain ⟨a, er⟩ := e
          rw [hnp] at hone
          have hne := nextP_err hnp
          have te : (er != 0) = true := by simpa using hne
          have hP2 : Hid (tokP s = ([], (a : Int), er)) := by show _ = _; exact hQ.out _ _ (by rw [← hlx2.out, lexF_bad (by rw [hsk.out]; omega) (by rw [hsk.out]; exact hnp)])
          clear hne hnp
          go_wp2_with (first
            | (go_at_call 102; refine (rclass_any _ _).mono ?_; rintro e w' ⟨rfl, rfl⟩; rw [hq.out])
            | (go_at_call 135; refine Calls.mono hone.out ?_; rintro e w3 ⟨⟨t, rfl⟩, hb3⟩; unfold tkV))
          go_ret3
          rw [hP2.out]
          exact ⟨_, rfl, Owns.nil, (hbr.trans (hb3.mono (by omega))).alloc (by have := hb3.size; omega) _⟩
        | inl e =>
          obtain ⟨t, m⟩ := e
          rw [hnp] at hone
          have haft := nextP_after (rs := rs) (i := k) hlt hnp
          have hstep := Lib.hid (lexF_step (f := f') (acc := acc) (by rw [hsk.out]; omega : skipR rs k ≠ rs.length) (by rw [hsk.out]; exact hnp))
          clear hnp
          go_wp2_with (first
            | (go_at_call 102; refine (rclass_any _ _).mono ?_; rintro e w' ⟨rfl, rfl⟩; rw [hq.out])
            | (go_at_call 135; refine Calls.mono hone.out ?_; rintro e w3 ⟨rfl, hb3⟩; have hz3 : w1.heap.size ≤ w3.heap.size := (by have := hb3.size; omega); have ho3 := Lib.hid (hown.below hb3); unfold tkV)
            | (at_builtin; refine app_t rfl rfl w1.heap.size rfl ((ho3.out.alloc _).alloc _) rfl (tok_made w3 _ t) (by omega) (by simp only [World.size_alloc]; omega) ?_))
          intro v4 w4 o4 k4 _
          have kb4 : Hid (Kb (fun b => w1.heap.size ≤ b) w3 w4) := (((Kb.refl _ w3).alloc _).alloc _).trans k4.kb
          replace o4 := Lib.hid o4
          clear k4
          go_wp2
          go_roundw
          case rel =>
            have hb4 : Below w.heap.size w w4 := Kb.below_ (hbr.trans (hb3.mono (by omega))) kb4.out (fun b hb => by omega) (by omega)
            have hrd4 : Reads w4 w1.heap.size 1 (some ad) rs.length (rcs rs) := (hR.out.below (hb3.mono hB2)).keep (fun p hp => kb4.out.cell (by omega) (by omega))
            exact ⟨m, f', acc ++ [t], rfl, haft.2, by omega, by simp; omega, by simpa using o4.out, hrd4, by rw [← hlx2.out, hstep.out], hb4, by have := kb4.out.size; omega⟩
          case measure => simp [intOf]; omega
    · obtain rfl : k = rs.length := by omega
      have hP2 : Hid (tokP s = (acc, (rs.length : Int), 0)) := by show _ = _; exact hP.out _ (by rw [← hlx, lexF_end skip_end])
      clear hlx hrd
      go_wp2
      go_ret3
      rw [hP2.out]
      exact ⟨_, rfl, hown.mono (by omega), hbr⟩
end Go.Proofs.YtjmhaoplablmnaaGreatDoor
