/- Contracts of the functions of layer 4 (runes): small letters, quoting. -/
import Derived.Test.YtenonfoocjcdmaaDoorRuW2
namespace Go.Proofs.YtenonfoocjcdmaaDoor
set_option linter.unusedVariables false
open Go.RowKit

theorem lowB_up {b : UInt8} (h1 : 65 ≤ b.toNat) (h2 : b.toNat ≤ 90) : ((lowB b).toNat : Int) = (b.toNat : Int) + 97 - 65 := by
  unfold lowB; rw [if_pos ⟨h1, h2⟩, UInt8.toNat_add]; simp; omega
theorem lowB_same {b : UInt8} (h : ¬ (65 ≤ b.toNat ∧ b.toNat ≤ 90)) : lowB b = b := by unfold lowB; rw [if_neg h]
/-- a text whose first k bytes are made small -/
def lowTo (k : Nat) (l : List UInt8) : List UInt8 := (l.take k).map lowB ++ l.drop k
theorem lowTo_len (k : Nat) (l : List UInt8) : (lowTo k l).length = l.length := by simp [lowTo]; omega
theorem lowTo_at {k : Nat} {l : List UInt8} {b : UInt8} (h : l[k]? = some b) : (lowTo k l)[k]? = some b := by
  obtain ⟨hk, e⟩ := List.getElem?_eq_some_iff.1 h
  unfold lowTo
  rw [List.getElem?_append_right (by simp; omega)]
  simp [Nat.min_eq_left (Nat.le_of_lt hk), h]
theorem lowTo_succ {k : Nat} {l : List UInt8} {b : UInt8} (h : l[k]? = some b) : lowTo (k + 1) l = (lowTo k l).set k (lowB b) := by
  obtain ⟨hk, e⟩ := List.getElem?_eq_some_iff.1 h
  unfold lowTo
  have hd : l.drop k = b :: l.drop (k + 1) := by rw [← e, List.getElem_cons_drop]
  rw [List.take_add_one, h, hd, List.set_append_right _ _ (by simp; omega)]
  simp [Nat.min_eq_left (Nat.le_of_lt hk)]
theorem lowTo_all {k : Nat} {l : List UInt8} (h : k = l.length) : lowTo k l = l.map lowB := by subst h; simp [lowTo]

theorem bytes_made (w : World) (s : ByteArray) : ∃ (cap : Nat) (C : Array Value), (convert 9 68 (.string s)).run Tryd.prog w = .ok (.slice (some ⟨w.heap.size, 0, none⟩) s.size cap) (w.drew.alloc (.cells C 5 (C.size, C.size + 1))) ∧
    Hid (BytesAt (w.alloc (.cells C 5 (C.size, C.size + 1))) 5 w.heap.size (bl s)) :=
  ⟨_, _, run_bytes_of_string w _ _ 5 s Tryd.underlying9 Tryd.underlying68 Tryd.underlying5, BytesAt.made w 5 s _⟩
theorem str_of_bytes {w : World} {g cap : Nat} {l : List UInt8} (h : BytesAt w 5 g l) : (convert 68 9 (.slice (some ⟨g, 0, none⟩) l.length cap)).run Tryd.prog w = .ok (.string ⟨l.toArray⟩) w :=
  run_convert_bytes_back w 68 9 5 _ cap l Tryd.underlying68 Tryd.underlying5 Tryd.underlying9 (fun j hj => by
    have e : (Addr.add ⟨g, 0, none⟩ j) = ⟨g, j, none⟩ := by unfold Addr.add; split <;> simp_all
    rw [e]
    exact h.cell (List.getElem?_eq_getElem hj))

set_option maxRecDepth 100000 in
set_option maxHeartbeats 1000000 in
theorem lower_any (s : ByteArray) (w : World) (hs : s.size ≤ maxLen) :
    Calls Tryd.prog 92 #[.string s] w fun e w' => e = .returned (.string ⟨((bl s).map lowB).toArray⟩) ∧ Below w.heap.size w w' := by
  unfold maxLen at hs
  obtain ⟨cap, C, hconv, hB0⟩ := bytes_made w s
  go_enter Tryd.func92, Tryd.ntmps92
  go_wp2
  go_loopw [10] (fun i wr => ∃ k : Nat, k ≤ s.size ∧ i = .int .i64 k ∧ BytesAt wr 5 w.heap.size (lowTo k (bl s)) ∧ Below w.heap.size w wr) (fun i _ => s.size - (intOf i).toNat)
  case atStart =>
    refine ⟨0, Nat.zero_le _, rfl, ?_, below_drew ((Below.refl _ w).alloc (Nat.le_refl _) _)⟩
    have e : lowTo 0 (bl s) = bl s := by simp [lowTo]
    rw [e]; exact hB0.out
  case round =>
    obtain ⟨k, hk, rfl, hB, hb⟩ := hrel
    clear hB0
    by_cases hlt : k < s.size
    · have hkl : k < (bl s).length := by rw [bl_len]; exact hlt
      obtain ⟨b, hbk⟩ : ∃ b, Hid ((bl s)[k]? = some b) := ⟨_, List.getElem?_eq_getElem hkl⟩
      have hc := hB.cell (lowTo_at hbk.out)
      have hf := hB.frozen (j := k) (by rw [lowTo_len]; exact hkl)
      have hb256 := b.toNat_lt
      have hs2 := Lib.hid (lowTo_succ hbk.out)
      by_cases hup : 65 ≤ b.toNat ∧ b.toNat ≤ 90
      · obtain ⟨hu1, hu2⟩ := hup
        have e2 := Lib.hid (lowB_up hu1 hu2)
        have hset := Lib.hid (hB.set_ k (lowB b))
        have hset2 : Hid (BytesAt (wr.setCell ⟨w.heap.size, k, none⟩ (.int .u8 ((b.toNat : Int) + 97 - 65))) 5 w.heap.size (lowTo (k + 1) (bl s))) := by
          have h := hset.out
          rw [e2.out, ← hs2.out] at h
          exact h
        have hb3 := hb.setCell (p := ⟨w.heap.size, k, none⟩) (Nat.le_refl _) (.int .u8 ((b.toNat : Int) + 97 - 65))
        clear hset hB
        have hu3 : (65 : Int) ≤ (b.toNat : Int) := by omega
        have hu4 : (b.toNat : Int) ≤ 90 := by omega
        go_wp2
        go_roundw
        case rel => exact ⟨k + 1, by omega, by go_num, hset2.out, hb3⟩
        case measure => simp [intOf]; omega
      · have hsame : Hid (lowTo (k + 1) (bl s) = lowTo k (bl s)) := by
          show _ = _
          rw [hs2.out, lowB_same hup]
          obtain ⟨hk9, e9⟩ := List.getElem?_eq_some_iff.1 (lowTo_at hbk.out)
          conv => lhs; rw [← e9]
          exact List.set_getElem_self hk9
        by_cases hu1 : (65 : Int) ≤ (b.toNat : Int)
        · have hu2 : (90 : Int) < (b.toNat : Int) := by omega
          go_wp2
          go_roundw
          case rel => exact ⟨k + 1, by omega, by go_num, by rw [hsame.out]; exact hB, hb⟩
          case measure => simp [intOf]; omega
        · go_wp2
          go_roundw
          case rel => exact ⟨k + 1, by omega, by go_num, by rw [hsame.out]; exact hB, hb⟩
          case measure => simp [intOf]; omega
    · have e : Hid (lowTo k (bl s) = (bl s).map lowB) := lowTo_all (by rw [bl_len]; omega)
      rw [e.out] at hB
      have hst := str_of_bytes (cap := cap) hB
      rw [show ((bl s).map lowB).length = s.size by rw [List.length_map, bl_len]] at hst
      go_wp2
      go_ret
      exact ⟨rfl, hb⟩

theorem enc_len (r : Nat) : (enc r).length ≤ 4 := by
  have := (Lib.runeCells_le (r : Int)).2
  rw [Lib.runeCells_length] at this; exact this
theorem escR_len (rs : List Nat) : (escR rs).length ≤ 5 * rs.length := by
  induction rs with
  | nil => simp [escR]
  | cons r t ih =>
    have h1 := enc_len r
    show (((if r = 34 ∨ r = 92 then [92] else []) ++ enc r) ++ escR t).length ≤ _
    simp only [List.length_append, List.length_cons]
    split <;> simp <;> omega
theorem escR_next {rs : List Nat} {k r : Nat} (h : rs[k]? = some r) : escR (rs.take (k + 1)) = escR (rs.take k) ++ ((if r = 34 ∨ r = 92 then [92] else []) ++ enc r) := by
  rw [List.take_add_one, h, escR_append]
  simp [escR]

theorem pos_mono (k : Nat) {l : List UInt8} (h : k < (runes l).length) : posN k l < posN (k + 1) l := by
  rw [pos_succ k h]; have := dec_pos (l.drop (posN k l)); omega
theorem bc_one (a : List UInt8) (r : Nat) : Lib.byteCells (34 :: (a ++ enc r)) = Lib.byteCells (34 :: a) ++ Lib.runeCells (r : Int) := by
  rw [← Lib.byteCells_encodeRune, ← Lib.byteCells_append]; rfl
theorem bc_two (a : List UInt8) (r : Nat) : Lib.byteCells (34 :: (a ++ ([92] ++ enc r))) = Lib.byteCells (34 :: a) ++ [.int .u8 92] ++ Lib.runeCells (r : Int) := by
  rw [← Lib.byteCells_encodeRune]; simp [Lib.byteCells, enc]
theorem bc_end (a : List UInt8) : Lib.byteCells (34 :: a) ++ [Value.int .u8 34] = Lib.byteCells (34 :: (a ++ [34])) := by
  simp [Lib.byteCells]

set_option maxRecDepth 100000 in
set_option maxHeartbeats 2000000 in
theorem quote_ok (s : ByteArray) (w : World) (hs : s.size ≤ 17592186044416) (hok : okL (bl s) = true) :
    Calls Tryd.prog 80 #[.string s] w fun e w' => e = .returned (.tuple #[.string ⟨(quoteL (bl s)).toArray⟩, .int .i64 0]) ∧ Below w.heap.size w w' := by
  have hce := checkE_ok hok
  have hrl := runes_size s
  have Hq : Hid (34 :: (escR (runes (bl s)) ++ [34]) = quoteL (bl s)) := by show _ = _; rw [quoteL, esc_ok hok]
  clear hok
  go_enter Tryd.func80, Tryd.ntmps80
  go_wp2_with (go_at_call 102; refine (check_any s _ (by unfold maxLen; omega)).mono ?_; rintro e w1 ⟨rfl, hb1⟩)
  have hz1 := hb1.size
  have hI0 := Lib.IsBuilderF.of (Lib.fresh_isBuilder 70 5 w1)
  refine (writeByte_any w1.heap.size w1.heap.size [] 34 _ hI0 (by simp) (by simp)).mono ?_
  rintro e w2 ⟨rfl, hI2, hb2, hk2⟩
  have hz2 := hb2.size
  simp only [World.size_alloc] at hz2
  go_wp2_with fail
  go_loopw [] (fun wr => ∃ k : Nat, k ≤ (runes (bl s)).length ∧ Lib.IsBuilderF 70 5 w1.heap.size w1.heap.size (Lib.byteCells (34 :: escR ((runes (bl s)).take k))) wr ∧ wr.heap[w2.heap.size]? = some (.stringIter s (posN k (bl s))) ∧ Below w1.heap.size w1 wr) (fun wr => (bl s).length - wr.iterPos w2.heap.size)
  case atStart =>
    refine ⟨0, Nat.zero_le _, ?_, iter_start w2 s, (((Below.refl _ w1).alloc (Nat.le_refl _) _).trans hb2).alloc (by omega) _⟩
    have e : Lib.byteCells (34 :: escR ((runes (bl s)).take 0)) = [] ++ [Value.int .u8 34] := by simp [escR, Lib.byteCells]
    rw [e]; exact hI2.alloc (.stringIter s 0)
  case round =>
    obtain ⟨k, hk, hI, hit, hb⟩ := hrel
    have hsz : w2.heap.size < wr.heap.size := (Array.getElem?_eq_some_iff.1 hit).1
    have hel := escR_len ((runes (bl s)).take k)
    have htl : ((runes (bl s)).take k).length ≤ k := List.length_take_le _ _
    by_cases hlt : k < (runes (bl s)).length
    · obtain ⟨r, hr, hrm, hnx⟩ := next_rune wr _ s k hlt hit
      have hI' := hI.iterAt hit (posN (k + 1) (bl s))
      have hit2 := Lib.hid (Lib.iterAt_heap wr _ s _ (posN (k + 1) (bl s)) hit)
      have hb2' := Lib.below_iterAt hb (k := w2.heap.size) (by omega) s (posN (k + 1) (bl s))
      have hsz2 : w1.heap.size < (wr.iterAt w2.heap.size s (posN (k + 1) (bl s))).heap.size := by rw [Lib.iterAt_size]; omega
      have hnext := Lib.hid (escR_next hr.out)
      have hpm := pos_mono k hlt
      have hpl := pos_le (k + 1) (l := bl s) (by omega)
      have hitp := Lib.hid hit
      clear hit hI hb
      rcases (by by_cases h1 : ((r : Int) == 34) = true
                 · exact .inl h1
                 · by_cases h2 : ((r : Int) == 92) = true
                   · exact .inr (.inl ⟨by simpa using h1, h2⟩)
                   · exact .inr (.inr ⟨by simpa using h1, by simpa using h2⟩) : ((r : Int) == 34) = true ∨ (((r : Int) == 34) = false ∧ ((r : Int) == 92) = true) ∨ (((r : Int) == 34) = false ∧ ((r : Int) == 92) = false)) with h34 | ⟨h34, h92⟩ | ⟨h34, h92⟩
      · have hn2 : Hid (escR ((runes (bl s)).take (k + 1)) = escR ((runes (bl s)).take k) ++ ([92] ++ enc r)) := by
          show _ = _
          rw [hnext.out, if_pos (.inl (by simp at h34; omega))]
        go_wp2_with (go_at_call 41; refine (writeByte_any _ _ _ 92 _ hI' (by rw [Lib.byteCells_length]; simp; omega) (by omega)).mono ?_)
        rintro e w3 ⟨rfl, hI3, hb3, hk3⟩
        have hz3 := hb3.size
        go_wp2_with (go_at_call 103; refine (writeRune_any _ _ _ _ (by omega) (by omega) _ hI3 (by simp [Lib.byteCells_length]; omega) (by omega)).mono ?_)
        rintro e w4 ⟨rfl, hI4, hb4, hk4⟩
        go_wp2
        have hit4 := hk4.iter (hk3.iter hit2.out (by omega)) (by omega)
        go_roundw
        case rel => exact ⟨k + 1, by omega, by rw [hn2.out, bc_two]; exact hI4, hit4, (hb2'.trans hb3).trans hb4⟩
        case measure => simp only [World.iterPos, hit4, hitp.out]; omega
      · have hn2 : Hid (escR ((runes (bl s)).take (k + 1)) = escR ((runes (bl s)).take k) ++ ([92] ++ enc r)) := by
          show _ = _
          rw [hnext.out, if_pos (.inr (by simp at h92; omega))]
        go_wp2_with (go_at_call 41; refine (writeByte_any _ _ _ 92 _ hI' (by rw [Lib.byteCells_length]; simp; omega) (by omega)).mono ?_)
        rintro e w3 ⟨rfl, hI3, hb3, hk3⟩
        have hz3 := hb3.size
        go_wp2_with (go_at_call 103; refine (writeRune_any _ _ _ _ (by omega) (by omega) _ hI3 (by simp [Lib.byteCells_length]; omega) (by omega)).mono ?_)
        rintro e w4 ⟨rfl, hI4, hb4, hk4⟩
        go_wp2
        have hit4 := hk4.iter (hk3.iter hit2.out (by omega)) (by omega)
        go_roundw
        case rel => exact ⟨k + 1, by omega, by rw [hn2.out, bc_two]; exact hI4, hit4, (hb2'.trans hb3).trans hb4⟩
        case measure => simp only [World.iterPos, hit4, hitp.out]; omega
      · have hn2 : Hid (escR ((runes (bl s)).take (k + 1)) = escR ((runes (bl s)).take k) ++ enc r) := by
          show _ = _
          rw [hnext.out, if_neg (by simp at h34 h92; omega)]; rfl
        go_wp2_with (go_at_call 103; refine (writeRune_any _ _ _ _ (by omega) (by omega) _ hI' (by simp [Lib.byteCells_length]; omega) (by omega)).mono ?_)
        rintro e w4 ⟨rfl, hI4, hb4, hk4⟩
        go_wp2
        have hit4 := hk4.iter hit2.out (by omega)
        go_roundw
        case rel => exact ⟨k + 1, by omega, by rw [hn2.out, bc_one]; exact hI4, hit4, hb2'.trans hb4⟩
        case measure => simp only [World.iterPos, hit4, hitp.out]; omega
    · have hk2' : k = (runes (bl s)).length := by omega
      have hnx := next_end wr _ s k hk2' hit
      have HT : Hid ((runes (bl s)).take k = runes (bl s)) := by show _ = _; rw [hk2', List.take_length]
      clear hit hk2'
      go_wp2_with (go_at_call 41; refine (writeByte_any _ _ _ 34 _ hI (by rw [Lib.byteCells_length]; simp; omega) (by omega)).mono ?_)
      rintro e w3 ⟨rfl, hI3, hb3, hk3⟩
      have hz3 := hb3.size
      have hI5 : Lib.IsBuilderF 70 5 w1.heap.size w1.heap.size (Lib.byteCells (quoteL (bl s))) w3 := by
        have h := hI3
        rw [HT.out, bc_end, Hq.out] at h
        exact h
      clear hI3
      go_wp2_with (go_at_call 43; refine (Tryd.Builder_String_any_k _ _ _ _ hI5 (by omega)).mono ?_)
      rintro e w4 ⟨rfl, _, hb4, _⟩
      go_wp2
      go_ret2
      exact ⟨rfl, hb1.trans (((hb.trans hb3).trans hb4).mono hz1)⟩
theorem quote_bad (s : ByteArray) (w : World) (hs : s.size ≤ maxLen) (hok : okL (bl s) = false) :
    Calls Tryd.prog 80 #[.string s] w fun e w' => e = .returned (.tuple #[.string ⟨#[]⟩, .int .i64 40]) ∧ Below w.heap.size w w' := by
  have hce := checkE_bad hok
  clear hok
  go_enter Tryd.func80, Tryd.ntmps80
  go_wp2_with (go_at_call 102; refine (check_any s _ hs).mono ?_; rintro e w1 ⟨rfl, hb1⟩)
  go_ret2
  exact ⟨rfl, hb1⟩
end Go.Proofs.YtenonfoocjcdmaaDoor
