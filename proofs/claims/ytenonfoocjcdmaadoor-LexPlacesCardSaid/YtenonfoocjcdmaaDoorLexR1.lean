/- Layer 5, the document's answer: runes, where a run ends, numbers. -/
import Derived.Test.YtenonfoocjcdmaaDoorLexW10
import Derived.Test.YtenonfoocjcdmaaDoorRuR3
namespace Go.Proofs.YtenonfoocjcdmaaDoor
set_option linter.unusedVariables false
open Go.RowKit
theorem rcs_len (l : List Nat) : (rcs l).length = l.length := by simp [rcs]
theorem Reads.rune_at {w : World} {B n k r : Nat} {A : Option Addr} {rs : List Nat} (h : Reads w B 1 A n (rcs rs)) (hk : rs[k]? = some r) : ∃ ad, A = some ad ∧ ad.block < B ∧ w.cell? (ad.add k) = some (.int .i32 (r : Int)) := by
  have hl := (List.getElem?_eq_some_iff.1 hk).1
  have h1 := h.1
  rw [rcs_len] at h1
  obtain ⟨ad, e, hb, hc⟩ := h.2 (by omega)
  exact ⟨ad, e, hb, hc k _ (by simp [rcs, hk])⟩
theorem Reads.rune_len {w : World} {B n : Nat} {A : Option Addr} {rs : List Nat} (h : Reads w B 1 A n (rcs rs)) : rs.length = n := by
  have h1 := h.1; rw [rcs_len] at h1; omega
set_option maxRecDepth 1000000 in
/-- 'l[i:j]', and 'string(l[i:j])' -/
theorem cut_runes {w : World} {B n c : Nat} {A : Option Addr} {rs : List Nat} (h : Reads w B 1 A n (rcs rs)) (hcap : n ≤ c) {i j : Nat} (hij : i ≤ j) (hj : j ≤ n) :
    ∃ A' c', (∀ v : World, (Instr.slice 87 (.slice A n c) (some (.int .i64 (i : Int))) (some (.int .i64 (j : Int))) none).run Tryd.prog v = .ok (.slice A' (j - i) c') v) ∧
      (∀ v : World, (Instr.sliceAt 87 (.slice A n c) (some (.int .i64 (i : Int))) (some (.int .i64 (j : Int))) none).run Tryd.prog v = .ok (.slice A' (j - i) c') v) ∧ j - i ≤ c' ∧
      ∀ v : World, (∀ p : Addr, p.block < B → v.cell? p = w.cell? p) → Reads v B 1 A' (j - i) (rcs (cutR rs i j)) ∧ (convert 87 9 (.slice A' (j - i) c')).run Tryd.prog v = .ok (.string (strR (cutR rs i j))) v := by
  have hlen := h.rune_len
  have h1 : ∀ v : World, (Instr.slice 87 (.slice A n c) (some (.int .i64 (i : Int))) (some (.int .i64 (j : Int))) none).run Tryd.prog v = .ok (.slice (if c = i then A else A.map (·.add (i * 1))) (j - i) (c - i)) v := by
    intro v
    rw [run_slice_lh v 87 A n c Tryd.underlying87 .i64 .i64 (i : Int) (j : Int) (by omega) (by omega) (by omega)]
    have e : (sizeOf (Tryd.prog.elem 87)).run Tryd.prog v = .ok 1 v := by
      have ee : Tryd.prog.elem 87 = 21 := by kernel_rfl
      rw [ee]; exact Tryd.sizeOf21 v
    rw [e]
    simp [Result.andThen, sliced]
  have hR : ∀ v : World, (∀ p : Addr, p.block < B → v.cell? p = w.cell? p) → Reads v B 1 (if c = i then A else A.map (·.add (i * 1))) (j - i) (rcs (cutR rs i j)) := by
    intro v hv
    refine ⟨by rw [rcs_len, cutR_len (by omega)]; omega, fun h0 => ?_⟩
    obtain ⟨ad, rfl, hb, hc⟩ := h.2 (by omega)
    rw [if_neg (by omega)]
    refine ⟨ad.add (i * 1), rfl, by rw [block_of_add]; exact hb, fun q u hu => ?_⟩
    rw [add_of_add, hv _ (by rw [block_of_add]; exact hb)]
    refine hc _ u ?_
    have hq : q < j - i := by
      have := (List.getElem?_eq_some_iff.1 hu).1
      rw [rcs_len, cutR_len (by omega)] at this; exact this
    simp only [rcs, List.getElem?_map, cutR_at hq] at hu ⊢
    rw [Nat.mul_one]; exact hu
  refine ⟨_, _, h1, fun v => ?_, by omega, fun v hv => ⟨hR v hv, ?_⟩⟩
  · rw [run_sliceAt_slice v _ _ _ _ _ Tryd.underlying87]; exact h1 v
  · have hr := hR v hv
    have hl : (cutR rs i j).length = j - i := cutR_len (by omega)
    obtain ⟨A2, hA2⟩ : ∃ A2, (if c = i then A else A.map (·.add (i * 1))) = A2 := ⟨_, rfl⟩
    rw [hA2] at hr ⊢
    rcases A2 with _ | a
    · have h0 : j - i = 0 := by
        rcases Nat.eq_zero_or_pos (j - i) with h0 | h0
        · exact h0
        · obtain ⟨ad, h, _⟩ := hr.2 h0
          cases h
      have hnil : cutR rs i j = [] := List.eq_nil_of_length_eq_zero (by omega)
      rw [h0, hnil]
      exact run_convert_runes_nil v _ _ 21 _ _ Tryd.underlying87 Tryd.underlying21 Tryd.underlying9
    · have h2 := run_convert_runes (P := Tryd.prog) v 87 9 21 a (j - i) (c - i) ((cutR rs i j).map (fun r : Nat => (r : Int))) (by simp; omega) Tryd.underlying87 Tryd.underlying21 Tryd.underlying9 (by
        intro q hq
        simp at hq
        have hq2 : q < (cutR rs i j).length := by omega
        obtain ⟨ad, e, _, hc⟩ := hr.rune_at (List.getElem?_eq_getElem hq2)
        injection e with e
        subst e
        rw [hc]
        simp [List.getD, List.getElem?_eq_getElem hq2])
      rw [h2, List.take_of_length_le (by simp; omega), runesBytes_eq]
def RnPost (rs : List Nat) (w : World) (en : Ending) (w' : World) : Prop := ∃ v, en = .returned v ∧ Owns w' w.heap.size 21 1 v rs.length (rcs rs) ∧ Below w.heap.size w w'
set_option maxHeartbeats 1000000 in
theorem runes05_any (s : ByteArray) (w : World) (hs : s.size ≤ 100000) : Calls Tryd.prog 51 #[.string s] w (RnPost (runes (bl s)) w) := by
  have hrl := runes_size s
  obtain ⟨rs, hrs⟩ : ∃ rs, Hid (runes (bl s) = rs) := ⟨_, rfl⟩
  rw [hrs.out] at hrl ⊢
  go_enter Tryd.func51, Tryd.ntmps51
  go_wp2_with fail
  go_loopw [3] (fun v wr => ∃ (k : Nat), k ≤ rs.length ∧ wr.heap[w.heap.size]? = some (.stringIter s (posN k (bl s))) ∧ Owns wr (w.heap.size + 1) 21 1 v k (rcs (rs.take k)) ∧ Below w.heap.size w wr) (fun _ wr => (bl s).length - wr.iterPos w.heap.size)
  case atStart => exact ⟨0, Nat.zero_le _, iter_start w s, by simpa [rcs] using Owns.nil, (Below.refl _ w).alloc (Nat.le_refl _) _⟩
  case round =>
    obtain ⟨k, hk, hit, hown, hb⟩ := hrel
    obtain ⟨A, c, rfl, hkc, hcm⟩ := hown.slice
    have hsz : w.heap.size + 1 ≤ wr.heap.size := by have := (Array.getElem?_eq_some_iff.1 hit).1; omega
    by_cases hlt : k < rs.length
    · obtain ⟨r, hr, hrm, hnx⟩ := next_rune wr _ s k (by rw [hrs.out]; exact hlt) hit
      rw [hrs.out] at hr
      have hit2 := Lib.hid (Lib.iterAt_heap wr _ s _ (posN (k + 1) (bl s)) hit)
      have hb2 := Lib.hid (Lib.below_iterAt hb (Nat.le_refl _) s (posN (k + 1) (bl s)))
      have hpm := pos_mono k (l := bl s) (by rw [hrs.out]; exact hlt)
      have hpl := pos_le (k + 1) (l := bl s) (by rw [hrs.out]; omega)
      have hown2 : Hid (Owns (wr.iterAt w.heap.size s (posN (k + 1) (bl s))) (w.heap.size + 1) 21 1 (.slice A k c) k (rcs (rs.take k))) := hown.keep (fun g _ hg _ => Lib.iterAt_other _ _ _ _ _ (by omega))
      have hsz2 : (wr.iterAt w.heap.size s (posN (k + 1) (bl s))).heap.size = wr.heap.size := by simp [World.iterAt]
      have hitp := Lib.hid hit
      clear hit hown hb
      obtain ⟨w1, hw1⟩ : ∃ w1, wr.iterAt w.heap.size s (posN (k + 1) (bl s)) = w1 := ⟨_, rfl⟩
      rw [hw1] at hnx hit2 hb2 hown2 hsz2
      have hsz3 : w.heap.size + 1 ≤ w1.heap.size := by omega
      clear hsz2
      have hr1 : Hid (Reads (w1.alloc (.cells #[.int .i32 (r : Int)] 21)) (w1.heap.size + 1) 1 (some ⟨w1.heap.size, 0, none⟩) 1 (rcs [r])) := Reads.made w1 (rcs [r]) _
      have hs1 : w.heap.size + 1 ≤ (w1.alloc (.cells #[.int .i32 (r : Int)] 21)).heap.size := by simp; omega
      have ho1 := Lib.hid (hown2.out.alloc (.cells #[.int .i32 (r : Int)] 21))
      go_wp2_with (at_builtin; refine app_r rfl rfl (w.heap.size + 1) rfl ho1.out rfl hr1.out (by omega) hs1 ?_)
      intro v' w3 o3 k3 _
      have kb3 := k3.kb
      have hit3 : Hid (w3.heap[w.heap.size]? = some (.stringIter s (posN (k + 1) (bl s)))) := (kb3.block _ (by simp; omega) (by omega)).trans ((Below.heap_alloc _ _ _ (by omega)).trans hit2.out)
      have hb3 := Lib.hid (k3.below (hb2.out.alloc (by omega) _) (by omega) (by simp; omega))
      replace o3 := Lib.hid o3
      clear kb3 k3 hown2 hit2 hb2
      go_wp2
      go_roundw
      case rel => exact ⟨k + 1, by omega, hit3.out, by rw [take_snoc hr.out]; exact o3.out, hb3.out⟩
      case measure => simp only [World.iterPos, hit3.out, hitp.out]; omega
    · obtain rfl : k = rs.length := by omega
      have hnx := next_end wr _ s _ (by rw [hrs.out]) hit
      rw [List.take_length] at hown
      replace hown := Lib.hid hown
      clear hit
      go_wp2
      go_ret
      exact ⟨_, rfl, hown.out.mono (by omega), hb⟩
theorem small05_any (r : Nat) (w : World) :
    Calls Tryd.prog 99 #[.int .i32 (r : Int)] w fun e w' => e = .returned (.bool (smallR r)) ∧ w = w' := by
  rcases (by omega : r < 48 ∨ (48 ≤ r ∧ r ≤ 57) ∨ (57 < r ∧ r < 97) ∨ (97 ≤ r ∧ r ≤ 122) ∨ 122 < r) with h | h | h | h | h
  all_goals
    have hs : Hid (smallR r = if 48 ≤ r ∧ r ≤ 57 ∨ 97 ≤ r ∧ r ≤ 122 then true else false) := by
      show smallR r = _
      unfold smallR
      split <;> simp <;> omega
    first
    | (have h1 : (48 : Int) ≤ r := by omega)
    | skip
    first
    | (have h2 : (r : Int) ≤ 57 := by omega)
    | (have h2 : (57 : Int) < r := by omega)
    first
    | (have h3 : (97 : Int) ≤ r := by omega)
    | (have h3 : (r : Int) < 97 := by omega)
    first
    | (have h4 : (r : Int) ≤ 122 := by omega)
    | (have h4 : (122 : Int) < r := by omega)
    go_enter Tryd.func99, Tryd.ntmps99
    go_wp2
    go_ret
    refine ⟨ret_bool ?_, rfl⟩
    rw [hs.out]
    first | (rw [if_pos (by omega)]) | (rw [if_neg (by omega)])
    try (simp <;> omega)
end Go.Proofs.YtenonfoocjcdmaaDoor
