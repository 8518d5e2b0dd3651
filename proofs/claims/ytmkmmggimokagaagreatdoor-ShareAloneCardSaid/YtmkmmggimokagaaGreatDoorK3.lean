/- strings.Builder at this program: contracts of copyCheck, WriteByte, WriteRune (String and AppendRune come from the kit's shelf). Contracts of the functions of layer 4 (runes): classes, checks, counts. Contracts of the functions of layer 4 (runes): counts, cuts, small letters. Contracts of the functions of layer 4 (runes): small letters, quoting. Contracts of the functions of layer 4 (runes): unquoting. -/
import Derived.Test.YtmkmmggimokagaaGreatDoorK1
import Derived.Test.YtmkmmggimokagaaGreatDoorShelf
import Derived.Lib.FrozenHead2
import Derived.Lib.OthersKept
import Derived.Lib.RuneBytes
import Derived.Test.YtmkmmggimokagaaGreatDoorK2
import Derived.Deep.QuietTactic
import Derived.BigQuiet
namespace Go.Proofs.YtmkmmggimokagaaGreatDoor
set_option linter.unusedVariables false
open Go.RowKit
theorem Tryz.sizeBld : (Tryz.prog.info? 167).map (·.size) = some 2 := by kernel_rfl
theorem Tryz.liesBld : liesAt Tryz.prog Tryz.prog.depth 167 (2 / Tryz.prog.cellsOf 167) 0 167 1 = true := by kernel_rfl
theorem Tryz.infoByte : (Tryz.prog.info? 5).map (fun i => (i.zero, i.size, i.bytes)) = some (some (.int .u8 0), 1, 1) := by kernel_rfl
set_option maxHeartbeats 1000000 in
set_option maxRecDepth 100000 in
theorem copyCheck_used (b : Nat) (w : World) (h0 : w.cell? ⟨b, 0, none⟩ = some (.pointer (some ⟨b, 0, none⟩))) :
    Calls Tryz.prog 134 #[.pointer (some ⟨b, 0, none⟩)] w fun e w' => e = .returned (.tuple #[]) ∧ w' = w := by
  obtain ⟨j, hj, _⟩ := Option.map_eq_some_iff.1 Tryz.sizeBld
  go_enter Tryz.func134, Tryz.ntmps134
  go_wp2
  rw [Lib.run_neq_ptr_same w _ Tryz.underlying164 hj]
  go_wp2
  go_end0
  exact ⟨rfl, rfl⟩
set_option maxHeartbeats 1000000 in
set_option maxRecDepth 100000 in
theorem copyCheck_fresh (b : Nat) (w : World) (h0 : w.cell? ⟨b, 0, none⟩ = some (.pointer none)) (hsh : w.shape? b = some (167, 2)) (hfz : w.frozen? ⟨b, 0, none⟩ = false) :
    Calls Tryz.prog 134 #[.pointer (some ⟨b, 0, none⟩)] w fun e w' => e = .returned (.tuple #[]) ∧ w' = w.setCell ⟨b, 0, none⟩ (.pointer (some ⟨b, 0, none⟩)) := by
  obtain ⟨j, hj, hjs⟩ := Option.map_eq_some_iff.1 Tryz.sizeBld
  go_enter Tryz.func134, Tryz.ntmps134
  go_wp2
  rw [Lib.run_to_unsafe w ⟨b, 0, none⟩ Tryz.underlying164 Tryz.underlying184 hj (by rw [hjs]; decide) hsh (Nat.zero_lt_succ 1)]
  simp only [Result.andThen]
  rw [Oper.upon_value]
  go_wp2
  rw [run_callFunc_extern Tryz.func142 (by kernel_rfl) (by kernel_rfl) (by kernel_rfl) (e := Extern.AbiNoEscape.same) (by kernel_rfl)]
  rw [Lib.run_noEscape]
  simp only [Result.andThen]
  rw [Oper.upon_value]
  go_wp2
  rw [Lib.run_from_unsafe w ⟨b, 0, none⟩ Tryz.underlying184 Tryz.underlying164 hj hsh Tryz.liesBld]
  simp only [Result.andThen]
  rw [Oper.upon_value]
  go_wp2
  go_end0
  exact ⟨rfl, rfl⟩
theorem copyCheck_any (B b : Nat) (bs : List Value) (w : World) (h : Lib.IsBuilderF 167 5 B b bs w) :
    Calls Tryz.prog 134 #[.pointer (some ⟨b, 0, none⟩)] w fun e w' => e = .returned (.tuple #[]) ∧ (Lib.BuilderAtF 167 5 B b (.pointer (some ⟨b, 0, none⟩)) bs w' ∧ Below B w w' ∧ Lib.OthersKept 5 (some b) w w') := by
  rcases h with h | h
  · refine (copyCheck_fresh b w h.cell0 h.shape h.frozen0).mono ?_
    rintro e w' ⟨rfl, rfl⟩
    exact ⟨rfl, h.used _, (Below.refl B w).setCell (p := ⟨b, 0, none⟩) h.1 _, (Lib.OthersKept.refl _ _ w).setCell ⟨b, 0, none⟩ rfl _⟩
  · refine (copyCheck_used b w h.cell0).mono ?_
    rintro e w' ⟨rfl, rfl⟩
    exact ⟨rfl, h, Below.refl B _, Lib.OthersKept.refl _ _ _⟩
set_option maxHeartbeats 2000000 in
set_option maxRecDepth 100000 in
theorem writeByte_any (B b : Nat) (bs : List Value) (c : Int) (w : World) (h : Lib.IsBuilderF 167 5 B b bs w) (hlen : bs.length + 1 ≤ 140737488355328) (hBw : B ≤ w.heap.size) :
    Calls Tryz.prog 122 #[.pointer (some ⟨b, 0, none⟩), .int .u8 c] w fun e w' => e = .returned .nilIface ∧ (Lib.IsBuilderF 167 5 B b (bs ++ [.int .u8 c]) w' ∧ Below B w w' ∧ Lib.OthersKept 5 (some b) w w') := by
  obtain ⟨i0, hi, hz0, hz1, hz2⟩ := info_parts Tryz.infoByte
  go_enter Tryz.func122, Tryz.ntmps122
  go_wp2_with (go_at_call 134; refine (copyCheck_any B b bs _ h).mono ?_)
  rintro e w1 ⟨rfl, h1, hb1, hk1⟩
  obtain ⟨hB, v, hbk, hown, hne⟩ := h1
  have c0 : w1.cell? ⟨b, 0, none⟩ = some (.pointer (some ⟨b, 0, none⟩)) := by rw [Lib.cell_of_heap hbk]; rfl
  have c1 : w1.cell? ⟨b, 1, none⟩ = some v := by rw [Lib.cell_of_heap hbk]; rfl
  go_wp2_with (at_builtin; refine wpList_append_ownF _ rfl _ _ 165 rfl B 5 i0 (.int .u8 0) 1 1 Tryz.underlying165 hi hz0 hz1 hz2 rfl (by decide) _ _ _ rfl (hown.alloc _) ⟨w1.heap.size, 0, none⟩ 1 1 [.int .u8 c] rfl rfl ?c1 ?c2 ?c3 ?c4 ?c5 ?_)
  case c1 =>
    intro j u hj
    match j, hj with
    | 0, hj => simp at hj; subst hj; simp [Addr.add]
  case c2 => intro u hu; simp at hu; subst hu; rfl
  case c3 => unfold maxLen; omega
  case c4 => omega
  case c5 => have := hb1.size; simp; omega
  intro v' w2 hown' hgrow _
  have hlt : b < w1.heap.size := by
    rcases Nat.lt_or_ge b w1.heap.size with h' | h'
    · exact h'
    · simp [Array.getElem?_eq_none h'] at hbk
  have hb2 : w2.heap[b]? = some (.cells #[.pointer (some ⟨b, 0, none⟩), v] 167 (0, 0)) := by
    rw [hgrow.block b (by simp; omega) (fun e => hne e.symm), Lib.alloc_old w1 _ b hlt]
    exact hbk
  have d0 : w2.cell? ⟨b, 0, none⟩ = some (.pointer (some ⟨b, 0, none⟩)) := by rw [Lib.cell_of_heap hb2]; rfl
  have d1 : w2.cell? ⟨b, 1, none⟩ = some v := by rw [Lib.cell_of_heap hb2]; rfl
  have f1 : w2.frozen? ⟨b, 1, none⟩ = false := Lib.frozen_of_heap hb2 1
  obtain ⟨g, cap, rfl⟩ : ∃ g cap, v' = .slice (some ⟨g, 0, none⟩) (bs.length + 1) cap := by
    rcases hown'.2 with ⟨_, h0⟩ | ⟨g, cap, cur, fz, hv, _⟩
    · omega
    · exact ⟨g, cap, hv⟩
  go_wp2
  go_ret
  refine ⟨rfl, .inr ?_, ?_, ((hk1.alloc _).grown hgrow (Lib.ownsRowF_kind (hown.alloc _))).setCell ⟨b, 1, none⟩ rfl _⟩
  · exact Lib.BuilderAtF.put (T := 167) (e := 5) hB hb2 (bs' := bs ++ [.int .u8 c]) (by simpa using hown') (by decide)
  · exact ((hb1.alloc (by have := hb1.size; omega) _).grown hgrow (by have := hb1.size; simp; omega) (fun k hk => (hown.lt k hk).1)).setCell (p := ⟨b, 1, none⟩) hB _
set_option maxHeartbeats 4000000 in
set_option maxRecDepth 100000 in
theorem writeRune_any (B b : Nat) (bs : List Value) (r : Int) (hr0 : -2147483648 ≤ r) (hr1 : r ≤ 2147483647) (w : World) (h : Lib.IsBuilderF 167 5 B b bs w) (hlen : bs.length + 4 ≤ 140737488355328) (hBw : B ≤ w.heap.size) :
    Calls Tryz.prog 123 #[.pointer (some ⟨b, 0, none⟩), .int .i32 r] w fun e w' => e = .returned (.tuple #[.int .i64 (Lib.runeCells r).length, .nilIface]) ∧ (Lib.IsBuilderF 167 5 B b (bs ++ Lib.runeCells r) w' ∧ Below B w w' ∧ Lib.OthersKept 5 (some b) w w') := by
  have hk4 := Lib.runeCells_le r
  go_enter Tryz.func123, Tryz.ntmps123
  go_wp2_with (go_at_call 134; refine (copyCheck_any B b bs _ h).mono ?_)
  rintro e w1 ⟨rfl, h1, hb1, hk1⟩
  obtain ⟨hB, v, hbk, hown, hne⟩ := h1
  obtain ⟨ao, cap, rfl⟩ : ∃ ao cap, v = .slice ao bs.length cap := by
    rcases hown.2 with ⟨hv, h0⟩ | ⟨g, cap, cur, fz, hv, _⟩
    · exact ⟨none, 0, by rw [hv, h0]⟩
    · exact ⟨_, _, hv⟩
  have c0 : w1.cell? ⟨b, 0, none⟩ = some (.pointer (some ⟨b, 0, none⟩)) := by rw [Lib.cell_of_heap hbk]; rfl
  have c1 : w1.cell? ⟨b, 1, none⟩ = some (.slice ao bs.length cap) := by rw [Lib.cell_of_heap hbk]; rfl
  go_wp2_with (go_at_call 135; refine (Tryz.utf8_AppendRune_row B _ bs.length bs r hr0 hr1 _ hown hlen (by have := hb1.size; omega)).mono ?_)
  rintro e w2 ⟨v', rfl, hown', o, hgrow⟩
  have hlt : b < w1.heap.size := by
    rcases Nat.lt_or_ge b w1.heap.size with h' | h'
    · exact h'
    · simp [Array.getElem?_eq_none h'] at hbk
  have hb2 : w2.heap[b]? = some (.cells #[.pointer (some ⟨b, 0, none⟩), .slice ao bs.length cap] 167 (0, 0)) := by
    rw [hgrow.block b (by simp; omega) (fun e => hne e.symm), Lib.alloc_old w1 _ b hlt]
    exact hbk
  have d0 : w2.cell? ⟨b, 0, none⟩ = some (.pointer (some ⟨b, 0, none⟩)) := by rw [Lib.cell_of_heap hb2]; rfl
  have d1 : w2.cell? ⟨b, 1, none⟩ = some (.slice ao bs.length cap) := by rw [Lib.cell_of_heap hb2]; rfl
  have f1 : w2.frozen? ⟨b, 1, none⟩ = false := Lib.frozen_of_heap hb2 1
  obtain ⟨g, cap', rfl⟩ : ∃ g cap', v' = .slice (some ⟨g, 0, none⟩) (bs.length + (Lib.runeCells r).length) cap' := by
    rcases hown'.2 with ⟨_, h0⟩ | ⟨g, cap', cur, fz, hv, _⟩
    · omega
    · exact ⟨g, cap', hv⟩
  go_wp2
  go_ret2
  refine ⟨?_, .inr ?_, ?_, ((hk1.alloc _).grown hgrow (Lib.ownsRowF_kind (hown.alloc _))).setCell ⟨b, 1, none⟩ rfl _⟩
  · have e : ((bs.length : Int) + ((Lib.runeCells r).length : Int) - (bs.length : Int)) = ((Lib.runeCells r).length : Int) := by omega
    simp [e]
  · exact Lib.BuilderAtF.put (T := 167) (e := 5) hB hb2 (bs' := bs ++ Lib.runeCells r) (by simpa using hown') (by decide)
  · exact ((hb1.alloc (by have := hb1.size; omega) _).grown hgrow (by have := hb1.size; simp; omega) (fun k hk => (hown.lt k hk).1)).setCell (p := ⟨b, 1, none⟩) hB _
set_option maxHeartbeats 1000000 in
theorem class_any (r : Int) (w : World) :
    Calls Tryz.prog 103 #[.int .i32 r] w fun e w' => e = .returned (.int .i64 (classV r)) ∧ w = w' := by
  go_enter Tryz.func103, Tryz.ntmps103
  go_wp2
  all_goals
    go_ret
    refine ⟨ret_int ?_, rfl⟩
    try simp only [beq_iff_eq, beq_eq_false_iff_ne] at *
    unfold classV
    repeat' split
    all_goals first | rfl | (exfalso; omega)
/-- a text's bytes as a list -/
abbrev bl (s : ByteArray) : List UInt8 := s.data.toList
theorem bl_len (s : ByteArray) : (bl s).length = s.size := rfl
theorem next_rune (wr : World) (b : Nat) (s : ByteArray) (k : Nat) (h : k < (runes (bl s)).length) (hit : wr.heap[b]? = some (.stringIter s (posN k (bl s)))) :
    ∃ r : Nat, Hid ((runes (bl s))[k]? = some r) ∧ r ≤ 1114111 ∧ ∀ ty, (Instr.next (.pointer (some ⟨b, 0, none⟩)) true ty).run Tryz.prog wr =
      .ok (.tuple #[.bool true, .int .i64 (posN k (bl s)), .int .i32 r]) (wr.iterAt b s (posN (k + 1) (bl s))) := by
  have hlt := (pos_lt_iff k (by omega)).2 h
  rw [bl_len] at hlt
  have e : Utf8.decode s (posN k (bl s)) = dec ((bl s).drop (posN k (bl s))) := (Lib.decodeL_drop s _).symm
  refine ⟨_, pos_rune k h, dec_max _, fun ty => ?_⟩
  rw [Lib.run_next_any_at wr b s _ ty hit hlt, e, pos_succ k h]
theorem next_end (wr : World) (b : Nat) (s : ByteArray) (k : Nat) (h : k = (runes (bl s)).length) (hit : wr.heap[b]? = some (.stringIter s (posN k (bl s)))) :
    ∀ ty, (Instr.next (.pointer (some ⟨b, 0, none⟩)) true ty).run Tryz.prog wr = .ok (.tuple #[.bool false]) wr := fun ty =>
  Lib.run_next_end_at wr b s _ ty hit (by rw [pos_end h, bl_len]; omega)
theorem runes_size (s : ByteArray) : (runes (bl s)).length ≤ s.size := by have := runes_len_le (bl s); rw [bl_len] at this; exact this
theorem iter_start (w : World) (s : ByteArray) : (w.iter s 0).heap[w.heap.size]? = some (.stringIter s (posN 0 (bl s))) := by
  have := World.iter_heap w s 0
  simpa [posN] using this
theorem take_good {l : List Nat} {k r : Nat} (h : l[k]? = some r) (ha : (l.take k).all (fun r => !badR r) = true) (hr : badR r = false) : (l.take (k + 1)).all (fun r => !badR r) = true := by
  rw [List.take_add_one, h]; simp only [List.all_append, ha, Option.toList, List.all_cons, hr, List.all_nil]; rfl
theorem split_at {l : List Nat} {k r : Nat} (h : l[k]? = some r) : l = l.take k ++ r :: l.drop (k + 1) := by
  obtain ⟨hk, e⟩ := List.getElem?_eq_some_iff.1 h
  rw [← e, List.getElem_cons_drop, List.take_append_drop]
set_option maxHeartbeats 1000000 in
theorem check_any (s : ByteArray) (w : World) (hs : s.size ≤ maxLen) :
    Calls Tryz.prog 86 #[.string s] w fun e w' => e = .returned (.tuple #[.int .i64 (checkN (bl s)), .int .i64 (checkE (bl s))]) ∧ Below w.heap.size w w' := by
  unfold maxLen at hs
  have hrl := runes_size s
  go_enter Tryz.func86, Tryz.ntmps86
  go_wp2
  go_loopw [4] (fun n wr => ∃ k : Nat, k ≤ (runes (bl s)).length ∧ n = .int .i64 k ∧ Hid (((runes (bl s)).take k).all (fun r => !badR r) = true) ∧ wr.heap[w.heap.size]? = some (.stringIter s (posN k (bl s))) ∧ Below w.heap.size w wr) (fun n _ => (runes (bl s)).length - (intOf n).toNat)
  case atStart => exact ⟨0, Nat.zero_le _, rfl, rfl, iter_start w s, (Below.refl _ w).alloc (Nat.le_refl _) _⟩
  case round =>
    obtain ⟨k, hk, rfl, ha, hit, hb⟩ := hrel
    have hsz : w.heap.size < wr.heap.size := (Array.getElem?_eq_some_iff.1 hit).1
    by_cases hlt : k < (runes (bl s)).length
    · obtain ⟨r, hr, hrm, hnx⟩ := next_rune wr _ s k hlt hit
      have hit2 := Lib.hid (Lib.iterAt_heap wr _ s _ (posN (k + 1) (bl s)) hit)
      have hb2 := Lib.below_iterAt hb (Nat.le_refl _) s (posN (k + 1) (bl s))
      by_cases hbad : badR r = true
      · have hc : (classV (r : Int) == 0) = true := hbad
        have hfin := Lib.hid (check_split (split_at hr.out) ha.out hbad)
        clear hbad hit
        go_wp2_with (go_at_call 103; refine (class_any _ _).mono ?_; rintro e w' ⟨rfl, rfl⟩)
        go_ret2
        exact ⟨ret_v (by rw [hfin.out.2, checkE_bad hfin.out.1]; simp; omega), hb2⟩
      · have hc : (classV (r : Int) == 0) = false := by simpa [badR] using hbad
        have ha2 := Lib.hid (take_good hr.out ha.out (by simpa using hbad))
        clear hbad hit ha
        go_wp2_with (go_at_call 103; refine (class_any _ _).mono ?_; rintro e w' ⟨rfl, rfl⟩)
        go_roundw
        case rel => exact ⟨k + 1, by omega, by go_num, ha2, hit2.out, hb2⟩
        case measure => simp [intOf]; omega
    · have hk2 : Hid (k = (runes (bl s)).length) := by show _ = _; omega
      have hnx := next_end wr _ s k hk2.out hit
      have hok : Hid (okL (bl s) = true) := by
        show _ = _
        have h := ha.out
        rw [hk2.out, List.take_length] at h
        exact h
      clear hit
      go_wp2
      go_ret2
      exact ⟨ret_v (by rw [checkN_ok hok.out, checkE_ok hok.out, ← hk2.out]; rfl), hb⟩
/-- the two parts of a text that is cut behind k runes -/
def cutA (s : ByteArray) (k : Nat) : ByteArray := s.extract 0 (posN k (bl s))
def cutB (s : ByteArray) (k : Nat) : ByteArray := s.extract (posN k (bl s)) s.size
theorem ba_ext {a b : ByteArray} (h : a.data.toList = b.data.toList) : a = b := by
  cases a; cases b; simp at h; rw [h]
theorem bl_extract (s : ByteArray) (i j : Nat) : bl (s.extract i j) = ((bl s).drop i).take (j - i) := Lib.extract_data s i j
theorem bl_cutA (s : ByteArray) (k : Nat) : bl (cutA s k) = (bl s).take (posN k (bl s)) := by rw [cutA, bl_extract]; simp
theorem bl_cutB (s : ByteArray) (k : Nat) : bl (cutB s k) = (bl s).drop (posN k (bl s)) := by
  rw [cutB, bl_extract, List.take_of_length_le]
  rw [List.length_drop, bl_len]; omega
theorem cutA_end (s : ByteArray) : cutA s (runes (bl s)).length = s := ba_ext (by
  show bl _ = bl _
  rw [bl_cutA, pos_end rfl, List.take_length])
theorem cutB_end (s : ByteArray) : cutB s (runes (bl s)).length = ⟨#[]⟩ := ba_ext (by
  show bl _ = _
  rw [bl_cutB, pos_end rfl, List.drop_length])
theorem lowB_up {b : UInt8} (h1 : 65 ≤ b.toNat) (h2 : b.toNat ≤ 90) : ((lowB b).toNat : Int) = (b.toNat : Int) + 97 - 65 := by
  unfold lowB; rw [if_pos ⟨h1, h2⟩, UInt8.toNat_add]; simp; omega
theorem lowB_same {b : UInt8} (h : ¬ (65 ≤ b.toNat ∧ b.toNat ≤ 90)) : lowB b = b := by unfold lowB; rw [if_neg h]
/-- a text whose first k bytes are made small -/
def lowTo (k : Nat) (l : List UInt8) : List UInt8 := (l.take k).map lowB ++ l.drop k
theorem lowTo_len (k : Nat) (l : List UInt8) : (lowTo k l).length = l.length := by simp [lowTo]; omega
theorem lowTo_at {k : Nat} {l : List UInt8} {b : UInt8} (h : l[k]? = some b) : (lowTo k l)[k]? = some b := by
  obtain ⟨hk, e⟩ := List.getElem?_eq_some_iff.1 h
  unfold lowTo
  rw [List.getElem?_append_right (by simp; omega)]
  simp [Nat.min_eq_left (Nat.le_of_lt hk), h]
theorem lowTo_succ {k : Nat} {l : List UInt8} {b : UInt8} (h : l[k]? = some b) : lowTo (k + 1) l = (lowTo k l).set k (lowB b) := by
  obtain ⟨hk, e⟩ := List.getElem?_eq_some_iff.1 h
  unfold lowTo
  have hd : l.drop k = b :: l.drop (k + 1) := by rw [← e, List.getElem_cons_drop]
  rw [List.take_add_one, h, hd, List.set_append_right _ _ (by simp; omega)]
  simp [Nat.min_eq_left (Nat.le_of_lt hk)]
theorem lowTo_all {k : Nat} {l : List UInt8} (h : k = l.length) : lowTo k l = l.map lowB := by subst h; simp [lowTo]
theorem bytes_made (w : World) (s : ByteArray) : ∃ (cap : Nat) (C : Array Value), (convert 9 165 (.string s)).run Tryz.prog w = .ok (.slice (some ⟨w.heap.size, 0, none⟩) s.size cap) (w.drew.alloc (.cells C 5 (C.size, C.size + 1))) ∧
    Hid (BytesAt (w.alloc (.cells C 5 (C.size, C.size + 1))) 5 w.heap.size (bl s)) :=
  ⟨_, _, run_bytes_of_string w _ _ 5 s Tryz.underlying9 Tryz.underlying165 Tryz.underlying5, BytesAt.made w 5 s _⟩
theorem str_of_bytes {w : World} {g cap : Nat} {l : List UInt8} (h : BytesAt w 5 g l) : (convert 165 9 (.slice (some ⟨g, 0, none⟩) l.length cap)).run Tryz.prog w = .ok (.string ⟨l.toArray⟩) w :=
  run_convert_bytes_back w 165 9 5 _ cap l Tryz.underlying165 Tryz.underlying5 Tryz.underlying9 (fun j hj => by
    have e : (Addr.add ⟨g, 0, none⟩ j) = ⟨g, j, none⟩ := by unfold Addr.add; split <;> simp_all
    rw [e]
    exact h.cell (List.getElem?_eq_getElem hj))
set_option maxRecDepth 100000 in
set_option maxHeartbeats 1000000 in
theorem lower_any (s : ByteArray) (w : World) (hs : s.size ≤ maxLen) :
    Calls Tryz.prog 126 #[.string s] w fun e w' => e = .returned (.string ⟨((bl s).map lowB).toArray⟩) ∧ Below w.heap.size w w' := by
  unfold maxLen at hs
  obtain ⟨cap, C, hconv, hB0⟩ := bytes_made w s
  go_enter Tryz.func126, Tryz.ntmps126
  go_wp2
  go_loopw [10] (fun i wr => ∃ k : Nat, k ≤ s.size ∧ i = .int .i64 k ∧ BytesAt wr 5 w.heap.size (lowTo k (bl s)) ∧ Below w.heap.size w wr) (fun i _ => s.size - (intOf i).toNat)
  case atStart =>
    refine ⟨0, Nat.zero_le _, rfl, ?_, below_drew ((Below.refl _ w).alloc (Nat.le_refl _) _)⟩
    have e : lowTo 0 (bl s) = bl s := by simp [lowTo]
    rw [e]; exact hB0.out
  case round =>
    obtain ⟨k, hk, rfl, hB, hb⟩ := hrel
    clear hB0
    by_cases hlt : k < s.size
    · have hkl : k < (bl s).length := by rw [bl_len]; exact hlt
      obtain ⟨b, hbk⟩ : ∃ b, Hid ((bl s)[k]? = some b) := ⟨_, List.getElem?_eq_getElem hkl⟩
      have hc := hB.cell (lowTo_at hbk.out)
      have hf := hB.frozen (j := k) (by rw [lowTo_len]; exact hkl)
      have hb256 := b.toNat_lt
      have hs2 := Lib.hid (lowTo_succ hbk.out)
      by_cases hup : 65 ≤ b.toNat ∧ b.toNat ≤ 90
      · obtain ⟨hu1, hu2⟩ := hup
        have e2 := Lib.hid (lowB_up hu1 hu2)
        have hset := Lib.hid (hB.set_ k (lowB b))
        have hset2 : Hid (BytesAt (wr.setCell ⟨w.heap.size, k, none⟩ (.int .u8 ((b.toNat : Int) + 97 - 65))) 5 w.heap.size (lowTo (k + 1) (bl s))) := by
          have h := hset.out
          rw [e2.out, ← hs2.out] at h
          exact h
        have hb3 := hb.setCell (p := ⟨w.heap.size, k, none⟩) (Nat.le_refl _) (.int .u8 ((b.toNat : Int) + 97 - 65))
        clear hset hB
        have hu3 : (65 : Int) ≤ (b.toNat : Int) := by omega
        have hu4 : (b.toNat : Int) ≤ 90 := by omega
        go_wp2
        go_roundw
        case rel => exact ⟨k + 1, by omega, by go_num, hset2.out, hb3⟩
        case measure => simp [intOf]; omega
      · have hsame : Hid (lowTo (k + 1) (bl s) = lowTo k (bl s)) := by
          show _ = _
          rw [hs2.out, lowB_same hup]
          obtain ⟨hk9, e9⟩ := List.getElem?_eq_some_iff.1 (lowTo_at hbk.out)
          conv => lhs; rw [← e9]
          exact List.set_getElem_self hk9
        by_cases hu1 : (65 : Int) ≤ (b.toNat : Int)
        · have hu2 : (90 : Int) < (b.toNat : Int) := by omega
          go_wp2
          go_roundw
          case rel => exact ⟨k + 1, by omega, by go_num, by rw [hsame.out]; exact hB, hb⟩
          case measure => simp [intOf]; omega
        · go_wp2
          go_roundw
          case rel => exact ⟨k + 1, by omega, by go_num, by rw [hsame.out]; exact hB, hb⟩
          case measure => simp [intOf]; omega
    · have e : Hid (lowTo k (bl s) = (bl s).map lowB) := lowTo_all (by rw [bl_len]; omega)
      rw [e.out] at hB
      have hst := str_of_bytes (cap := cap) hB
      rw [show ((bl s).map lowB).length = s.size by rw [List.length_map, bl_len]] at hst
      go_wp2
      go_ret
      exact ⟨rfl, hb⟩
theorem enc_len (r : Nat) : (enc r).length ≤ 4 := by
  have := (Lib.runeCells_le (r : Int)).2
  rw [Lib.runeCells_length] at this; exact this
theorem escR_len (rs : List Nat) : (escR rs).length ≤ 5 * rs.length := by
  induction rs with
  | nil => simp [escR]
  | cons r t ih =>
    have h1 := enc_len r
    show (((if r = 34 ∨ r = 92 then [92] else []) ++ enc r) ++ escR t).length ≤ _
    simp only [List.length_append, List.length_cons]
    split <;> simp <;> omega
theorem escR_next {rs : List Nat} {k r : Nat} (h : rs[k]? = some r) : escR (rs.take (k + 1)) = escR (rs.take k) ++ ((if r = 34 ∨ r = 92 then [92] else []) ++ enc r) := by
  rw [List.take_add_one, h, escR_append]
  simp [escR]
theorem pos_mono (k : Nat) {l : List UInt8} (h : k < (runes l).length) : posN k l < posN (k + 1) l := by
  rw [pos_succ k h]; have := dec_pos (l.drop (posN k l)); omega
theorem bc_one (a : List UInt8) (r : Nat) : Lib.byteCells (34 :: (a ++ enc r)) = Lib.byteCells (34 :: a) ++ Lib.runeCells (r : Int) := by
  rw [← Lib.byteCells_encodeRune, ← Lib.byteCells_append]; rfl
theorem bc_two (a : List UInt8) (r : Nat) : Lib.byteCells (34 :: (a ++ ([92] ++ enc r))) = Lib.byteCells (34 :: a) ++ [.int .u8 92] ++ Lib.runeCells (r : Int) := by
  rw [← Lib.byteCells_encodeRune]; simp [Lib.byteCells, enc]
theorem bc_end (a : List UInt8) : Lib.byteCells (34 :: a) ++ [Value.int .u8 34] = Lib.byteCells (34 :: (a ++ [34])) := by
  simp [Lib.byteCells]
set_option maxRecDepth 100000 in
set_option maxHeartbeats 2000000 in
theorem quote_ok (s : ByteArray) (w : World) (hs : s.size ≤ 17592186044416) (hok : okL (bl s) = true) :
    Calls Tryz.prog 114 #[.string s] w fun e w' => e = .returned (.tuple #[.string ⟨(quoteL (bl s)).toArray⟩, .int .i64 0]) ∧ Below w.heap.size w w' := by
  have hce := checkE_ok hok
  have hrl := runes_size s
  have Hq : Hid (34 :: (escR (runes (bl s)) ++ [34]) = quoteL (bl s)) := by show _ = _; rw [quoteL, esc_ok hok]
  clear hok
  go_enter Tryz.func114, Tryz.ntmps114
  go_wp2_with (go_at_call 86; refine (check_any s _ (by unfold maxLen; omega)).mono ?_; rintro e w1 ⟨rfl, hb1⟩)
  have hz1 := hb1.size
  have hI0 := Lib.IsBuilderF.of (Lib.fresh_isBuilder 167 5 w1)
  refine (writeByte_any w1.heap.size w1.heap.size [] 34 _ hI0 (by simp) (by simp)).mono ?_
  rintro e w2 ⟨rfl, hI2, hb2, hk2⟩
  have hz2 := hb2.size
  simp only [World.size_alloc] at hz2
  go_wp2_with fail
  go_loopw [] (fun wr => ∃ k : Nat, k ≤ (runes (bl s)).length ∧ Lib.IsBuilderF 167 5 w1.heap.size w1.heap.size (Lib.byteCells (34 :: escR ((runes (bl s)).take k))) wr ∧ wr.heap[w2.heap.size]? = some (.stringIter s (posN k (bl s))) ∧ Below w1.heap.size w1 wr) (fun wr => (bl s).length - wr.iterPos w2.heap.size)
  case atStart =>
    refine ⟨0, Nat.zero_le _, ?_, iter_start w2 s, (((Below.refl _ w1).alloc (Nat.le_refl _) _).trans hb2).alloc (by omega) _⟩
    have e : Lib.byteCells (34 :: escR ((runes (bl s)).take 0)) = [] ++ [Value.int .u8 34] := by simp [escR, Lib.byteCells]
    rw [e]; exact hI2.alloc (.stringIter s 0)
  case round =>
    obtain ⟨k, hk, hI, hit, hb⟩ := hrel
    have hsz : w2.heap.size < wr.heap.size := (Array.getElem?_eq_some_iff.1 hit).1
    have hel := escR_len ((runes (bl s)).take k)
    have htl : ((runes (bl s)).take k).length ≤ k := List.length_take_le _ _
    by_cases hlt : k < (runes (bl s)).length
    · obtain ⟨r, hr, hrm, hnx⟩ := next_rune wr _ s k hlt hit
      have hI' := hI.iterAt hit (posN (k + 1) (bl s))
      have hit2 := Lib.hid (Lib.iterAt_heap wr _ s _ (posN (k + 1) (bl s)) hit)
      have hb2' := Lib.below_iterAt hb (k := w2.heap.size) (by omega) s (posN (k + 1) (bl s))
      have hsz2 : w1.heap.size < (wr.iterAt w2.heap.size s (posN (k + 1) (bl s))).heap.size := by rw [Lib.iterAt_size]; omega
      have hnext := Lib.hid (escR_next hr.out)
      have hpm := pos_mono k hlt
      have hpl := pos_le (k + 1) (l := bl s) (by omega)
      have hitp := Lib.hid hit
      clear hit hI hb
      rcases (by by_cases h1 : ((r : Int) == 34) = true
                 · exact .inl h1
                 · by_cases h2 : ((r : Int) == 92) = true
                   · exact .inr (.inl ⟨by simpa using h1, h2⟩)
                   · exact .inr (.inr ⟨by simpa using h1, by simpa using h2⟩) : ((r : Int) == 34) = true ∨ (((r : Int) == 34) = false ∧ ((r : Int) == 92) = true) ∨ (((r : Int) == 34) = false ∧ ((r : Int) == 92) = false)) with h34 | ⟨h34, h92⟩ | ⟨h34, h92⟩
      · have hn2 : Hid (escR ((runes (bl s)).take (k + 1)) = escR ((runes (bl s)).take k) ++ ([92] ++ enc r)) := by
          show _ = _
          rw [hnext.out, if_pos (.inl (by simp at h34; omega))]
        go_wp2_with (go_at_call 122; refine (writeByte_any _ _ _ 92 _ hI' (by rw [Lib.byteCells_length]; simp; omega) (by omega)).mono ?_)
        rintro e w3 ⟨rfl, hI3, hb3, hk3⟩
        have hz3 := hb3.size
        go_wp2_with (go_at_call 123; refine (writeRune_any _ _ _ _ (by omega) (by omega) _ hI3 (by simp [Lib.byteCells_length]; omega) (by omega)).mono ?_)
        rintro e w4 ⟨rfl, hI4, hb4, hk4⟩
        go_wp2
        have hit4 := hk4.iter (hk3.iter hit2.out (by omega)) (by omega)
        go_roundw
        case rel => exact ⟨k + 1, by omega, by rw [hn2.out, bc_two]; exact hI4, hit4, (hb2'.trans hb3).trans hb4⟩
        case measure => simp only [World.iterPos, hit4, hitp.out]; omega
      · have hn2 : Hid (escR ((runes (bl s)).take (k + 1)) = escR ((runes (bl s)).take k) ++ ([92] ++ enc r)) := by
          show _ = _
          rw [hnext.out, if_pos (.inr (by simp at h92; omega))]
        go_wp2_with (go_at_call 122; refine (writeByte_any _ _ _ 92 _ hI' (by rw [Lib.byteCells_length]; simp; omega) (by omega)).mono ?_)
        rintro e w3 ⟨rfl, hI3, hb3, hk3⟩
        have hz3 := hb3.size
        go_wp2_with (go_at_call 123; refine (writeRune_any _ _ _ _ (by omega) (by omega) _ hI3 (by simp [Lib.byteCells_length]; omega) (by omega)).mono ?_)
        rintro e w4 ⟨rfl, hI4, hb4, hk4⟩
        go_wp2
        have hit4 := hk4.iter (hk3.iter hit2.out (by omega)) (by omega)
        go_roundw
        case rel => exact ⟨k + 1, by omega, by rw [hn2.out, bc_two]; exact hI4, hit4, (hb2'.trans hb3).trans hb4⟩
        case measure => simp only [World.iterPos, hit4, hitp.out]; omega
      · have hn2 : Hid (escR ((runes (bl s)).take (k + 1)) = escR ((runes (bl s)).take k) ++ enc r) := by
          show _ = _
          rw [hnext.out, if_neg (by simp at h34 h92; omega)]; rfl
        go_wp2_with (go_at_call 123; refine (writeRune_any _ _ _ _ (by omega) (by omega) _ hI' (by simp [Lib.byteCells_length]; omega) (by omega)).mono ?_)
        rintro e w4 ⟨rfl, hI4, hb4, hk4⟩
        go_wp2
        have hit4 := hk4.iter hit2.out (by omega)
        go_roundw
        case rel => exact ⟨k + 1, by omega, by rw [hn2.out, bc_one]; exact hI4, hit4, hb2'.trans hb4⟩
        case measure => simp only [World.iterPos, hit4, hitp.out]; omega
    · have hk2' : k = (runes (bl s)).length := by omega
      have hnx := next_end wr _ s k hk2' hit
      have HT : Hid ((runes (bl s)).take k = runes (bl s)) := by show _ = _; rw [hk2', List.take_length]
      clear hit hk2'
      go_wp2_with (go_at_call 122; refine (writeByte_any _ _ _ 34 _ hI (by rw [Lib.byteCells_length]; simp; omega) (by omega)).mono ?_)
      rintro e w3 ⟨rfl, hI3, hb3, hk3⟩
      have hz3 := hb3.size
      have hI5 : Lib.IsBuilderF 167 5 w1.heap.size w1.heap.size (Lib.byteCells (quoteL (bl s))) w3 := by
        have h := hI3
        rw [HT.out, bc_end, Hq.out] at h
        exact h
      clear hI3
      go_wp2_with (go_at_call 124; refine (Tryz.Builder_String_any_k _ _ _ _ hI5 (by omega)).mono ?_)
      rintro e w4 ⟨rfl, _, hb4, _⟩
      go_wp2
      go_ret2
      exact ⟨rfl, hb1.trans (((hb.trans hb3).trans hb4).mono hz1)⟩
theorem quote_bad (s : ByteArray) (w : World) (hs : s.size ≤ maxLen) (hok : okL (bl s) = false) :
    Calls Tryz.prog 114 #[.string s] w fun e w' => e = .returned (.tuple #[.string ⟨#[]⟩, .int .i64 40]) ∧ Below w.heap.size w w' := by
  have hce := checkE_bad hok
  clear hok
  go_enter Tryz.func114, Tryz.ntmps114
  go_wp2_with (go_at_call 86; refine (check_any s _ hs).mono ?_; rintro e w1 ⟨rfl, hb1⟩)
  go_ret2
  exact ⟨rfl, hb1⟩
theorem head_of {s : ByteArray} (h : 0 < s.size) : (bl s).head? = some (s[0]'h) := by
  rw [List.head?_eq_getElem?, List.getElem?_eq_getElem (by rw [bl_len]; exact h)]; rfl
theorem last_of {s : ByteArray} (h : 0 < s.size) : (bl s).getLast? = some (s[s.size - 1]'(by omega)) := by
  rw [List.getLast?_eq_getElem?, bl_len, List.getElem?_eq_getElem (by rw [bl_len]; omega)]; rfl
theorem u8_is (b : UInt8) (n : Nat) (h : n < 256) : (b.toNat : Int) = n ↔ b = UInt8.ofNat n := by
  constructor
  · intro e
    have e2 : b.toNat = n := by omega
    rw [← e2]; simp
  · rintro rfl; simp; omega
theorem inner_bl (s : ByteArray) : inner (bl s) = bl (s.extract 1 (s.size - 1)) := by
  rw [bl_extract, inner, bl_len]; rfl
theorem unq_not {l : List UInt8} (hok : okL l = true) (h : ¬ (2 ≤ l.length ∧ l.head? = some 34 ∧ l.getLast? = some 34)) : unqT l = [] ∧ unqE l = 50 := by
  have hn : unqV l = none := by unfold unqV; rw [if_neg (fun hh => h hh.2)]
  unfold unqT unqE
  rw [hn, hok]; exact ⟨rfl, rfl⟩
theorem unq_none {l : List UInt8} (hok : okL l = true) (h : unqV l = none) : unqT l = [] ∧ unqE l = 50 := by
  unfold unqT unqE
  rw [h, hok]; exact ⟨rfl, rfl⟩
theorem unq_yes {l u : List UInt8} (hok : okL l = true) (h : unqV l = some u) : unqT l = u ∧ unqE l = 0 := by
  unfold unqT unqE
  rw [h, hok]; exact ⟨rfl, rfl⟩
theorem drop_at {l : List Nat} {k r : Nat} (h : l[k]? = some r) : l.drop k = r :: l.drop (k + 1) := by
  obtain ⟨hk, e⟩ := List.getElem?_eq_some_iff.1 h
  rw [← e, List.getElem_cons_drop]
/-- what the loop of Unquote keeps -/
def UnqAt (rs : List Nat) (held : Bool) (k : Nat) (acc : List UInt8) : Prop := unqR false rs = (unqR held (rs.drop k)).map (acc ++ ·)
theorem UnqAt.start (rs : List Nat) : UnqAt rs false 0 [] := by unfold UnqAt; cases h : unqR false rs <;> simp [h]
theorem UnqAt.put {rs : List Nat} {held : Bool} {k r : Nat} {acc : List UInt8} (h : UnqAt rs held k acc) (hr : rs[k]? = some r) (hg : if held then r = 34 ∨ r = 92 else r ≠ 34 ∧ r ≠ 92) : UnqAt rs false (k + 1) (acc ++ enc r) := by
  unfold UnqAt at h ⊢
  rw [h, drop_at hr]
  cases held with
  | true =>
    simp only [if_true] at hg
    rw [unqR, if_pos hg, Option.map_map]
    congr 1; funext x; simp
  | false =>
    simp only [Bool.false_eq_true, if_false] at hg
    rw [unqR, if_neg hg.1, if_neg hg.2, Option.map_map]
    congr 1; funext x; simp
theorem UnqAt.hold {rs : List Nat} {k : Nat} {acc : List UInt8} (h : UnqAt rs false k acc) (hr : rs[k]? = some 92) : UnqAt rs true (k + 1) acc := by
  unfold UnqAt at h ⊢
  rw [h, drop_at hr, unqR, if_neg (by omega), if_pos rfl]
theorem UnqAt.bad {rs : List Nat} {held : Bool} {k r : Nat} {acc : List UInt8} (h : UnqAt rs held k acc) (hr : rs[k]? = some r) (hg : if held then r ≠ 34 ∧ r ≠ 92 else r = 34) : unqR false rs = none := by
  unfold UnqAt at h
  rw [h, drop_at hr]
  cases held with
  | true =>
    simp only [if_true] at hg
    rw [unqR, if_neg (by omega)]; rfl
  | false =>
    simp only [Bool.false_eq_true, if_false] at hg
    rw [unqR, if_pos hg]; rfl
theorem UnqAt.end_ {rs : List Nat} {held : Bool} {k : Nat} {acc : List UInt8} (h : UnqAt rs held k acc) (hk : k = rs.length) : unqR false rs = if held then none else some acc := by
  unfold UnqAt at h
  rw [h, hk, List.drop_length]
  cases held <;> simp [unqR]
set_option maxRecDepth 100000 in
set_option maxHeartbeats 4000000 in
theorem unquote_any (s : ByteArray) (w : World) (hs : s.size ≤ 17592186044416) :
    Calls Tryz.prog 131 #[.string s] w fun e w' => e = .returned (.tuple #[.string ⟨(unqT (bl s)).toArray⟩, .int .i64 (unqE (bl s))]) ∧ Below w.heap.size w w' := by
  by_cases hok : okL (bl s) = true
  case neg =>
    have hok' : okL (bl s) = false := by simpa using hok
    have hce := checkE_bad hok'
    have HR : Hid (unqT (bl s) = [] ∧ unqE (bl s) = 40) := ⟨by unfold unqT; rw [unq_bad hok']; rfl, by unfold unqE; simp [hok']⟩
    clear hok hok'
    go_enter Tryz.func131, Tryz.ntmps131
    go_wp2_with (go_at_call 86; refine (check_any s _ (by unfold maxLen; omega)).mono ?_; rintro e w1 ⟨rfl, hb1⟩)
    go_ret2
    exact ⟨ret_v (by rw [HR.out.1, HR.out.2]; rfl), hb1⟩
  have hce := checkE_ok hok
  by_cases hq : 2 ≤ (bl s).length ∧ (bl s).head? = some 34 ∧ (bl s).getLast? = some 34
  case neg =>
    have HR := Lib.hid (unq_not hok hq)
    have HQ := Lib.hid hq
    clear hok hq
    go_enter Tryz.func131, Tryz.ntmps131
    go_wp2_with (go_at_call 86; refine (check_any s _ (by unfold maxLen; omega)).mono ?_; rintro e w1 ⟨rfl, hb1⟩)
    all_goals first
      | (go_ret2; exact ⟨ret_v (by rw [HR.out.1, HR.out.2]; rfl), hb1⟩)
      | (exfalso
         have h2 : 2 ≤ (s.size : Int) ∧ (((s[s.size - 1]'(by omega)).toNat : Int) != 34) = false := by assumption
         have h0 : ((s[0]'(by omega)).toNat : Int) = 34 := by assumption
         have h1 : (((s[s.size - 1]'(by omega)).toNat : Int) != 34) = false := h2.2
         refine HQ.out ⟨by rw [bl_len]; omega, ?_, ?_⟩
         · rw [head_of (by omega)]; exact congrArg some ((u8_is _ 34 (by omega)).1 h0)
         · rw [last_of (by omega)]; exact congrArg some ((u8_is _ 34 (by omega)).1 (by simpa using h1)))
  obtain ⟨hq1, hq2, hq3⟩ := hq
  rw [bl_len] at hq1
  have h0 : ((s[0]'(by omega)).toNat : Int) = 34 := (u8_is _ 34 (by omega)).2 (by rw [head_of (by omega)] at hq2; simpa using hq2)
  have h1 : ((s[s.size - 1]'(by omega)).toNat : Int) = 34 := (u8_is _ 34 (by omega)).2 (by rw [last_of (by omega)] at hq3; simpa using hq3)
  have HU : Hid (unqV (bl s) = unqR false (runes (bl (s.extract 1 (s.size - 1))))) := by
    show _ = _
    unfold unqV
    rw [if_pos ⟨hok, by rw [bl_len]; exact hq1, hq2, hq3⟩, inner_bl]
  have HOK := Lib.hid hok
  have hrl := runes_size (s.extract 1 (s.size - 1))
  have hms : (s.extract 1 (s.size - 1)).size ≤ s.size := by
    have := congrArg List.length (bl_extract s 1 (s.size - 1))
    rw [bl_len, List.length_take, List.length_drop, bl_len] at this; omega
  clear hok hq2 hq3
  go_enter Tryz.func131, Tryz.ntmps131
  go_wp2_with (go_at_call 86; refine (check_any s _ (by unfold maxLen; omega)).mono ?_; rintro e w1 ⟨rfl, hb1⟩)
  have hz1 := hb1.size
  have hI0 := Lib.IsBuilderF.of (Lib.fresh_isBuilder 167 5 w1)
  go_loopw [7] (fun hd wr => ∃ (k : Nat) (held : Bool) (acc : List UInt8), k ≤ (runes (bl (s.extract 1 (s.size - 1)))).length ∧ hd = .bool held ∧ Hid (UnqAt (runes (bl (s.extract 1 (s.size - 1)))) held k acc) ∧ acc.length ≤ 4 * k ∧ Lib.IsBuilderF 167 5 w1.heap.size w1.heap.size (Lib.byteCells acc) wr ∧ wr.heap[w1.heap.size + 1]? = some (.stringIter (s.extract 1 (s.size - 1)) (posN k (bl (s.extract 1 (s.size - 1))))) ∧ Below w1.heap.size w1 wr) (fun _ wr => (bl (s.extract 1 (s.size - 1))).length - wr.iterPos (w1.heap.size + 1))
  case atStart =>
    refine ⟨0, false, [], Nat.zero_le _, rfl, UnqAt.start _, by simp, hI0.alloc _, ?_, ((Below.refl _ w1).alloc (Nat.le_refl _) _).alloc (by simp) _⟩
    have := iter_start (w1.alloc (.cells #[.pointer none, .slice none 0 0] 167)) (s.extract 1 (s.size - 1))
    simpa using this
  case round =>
    obtain ⟨k, held, acc, hk, rfl, hU, hal, hI, hit, hb⟩ := hrel
    generalize s.extract 1 (s.size - 1) = M at *
    have hsz : w1.heap.size + 1 < wr.heap.size := (Array.getElem?_eq_some_iff.1 hit).1
    by_cases hlt : k < (runes (bl M)).length
    · obtain ⟨r, hr, hrm, hnx⟩ := next_rune wr _ M k hlt hit
      have hI' := hI.iterAt hit (posN (k + 1) (bl M))
      have hit2 := Lib.hid (Lib.iterAt_heap wr _ M _ (posN (k + 1) (bl M)) hit)
      have hb2' := Lib.below_iterAt hb (k := w1.heap.size + 1) (by omega) M (posN (k + 1) (bl M))
      have hsz2 : w1.heap.size < (wr.iterAt (w1.heap.size + 1) M (posN (k + 1) (bl M))).heap.size := by rw [Lib.iterAt_size]; omega
      have hpm := pos_mono k hlt
      have hpl := pos_le (k + 1) (l := bl M) (by omega)
      have hitp := Lib.hid hit
      have hel := enc_len r
      clear hit hI hb h0 h1
      cases held with
      | true =>
        by_cases hsp : r = 34 ∨ r = 92
        · have hU2 := Lib.hid (hU.out.put hr.out (by simpa using hsp))
          rcases (by by_cases h1 : ((r : Int) != 34) = false
                     · exact .inl h1
                     · exact .inr ⟨by simpa using h1, by simp at h1 ⊢; omega⟩ : ((r : Int) != 34) = false ∨ (((r : Int) != 34) = true ∧ ((r : Int) != 92) = false)) with h34 | ⟨h34, h92⟩
          all_goals
            clear hsp
            go_wp2_with (go_at_call 123; refine (writeRune_any _ _ _ _ (by omega) (by omega) _ hI' (by simp [Lib.byteCells_length]; omega) (by omega)).mono ?_)
            rintro e w4 ⟨rfl, hI4, hb4, hk4⟩
            go_wp2
            have hit4 := hk4.iter hit2.out (by omega)
            go_roundw
            case rel => exact ⟨k + 1, false, acc ++ enc r, by omega, rfl, hU2, by simp; omega, by rw [Lib.byteCells_append]; unfold enc; rw [Lib.byteCells_encodeRune]; exact hI4, hit4, hb2'.trans hb4⟩
            case measure => simp only [World.iterPos, hit4, hitp.out]; omega
        · have h34 : ((r : Int) != 34) = true := by simp; omega
          have h92 : ((r : Int) != 92) = true := by simp; omega
          have HN : Hid (unqV (bl s) = none) := by show _ = _; rw [HU.out]; exact hU.out.bad hr.out (by simpa using hsp)
          have HR := Lib.hid (unq_none HOK.out HN.out)
          clear hsp
          go_wp2
          go_ret2
          exact ⟨ret_v (by rw [HR.out.1, HR.out.2]; rfl), hb1.trans (hb2'.mono hz1)⟩
      | false =>
        by_cases h34 : r = 34
        · have h34' : ((r : Int) == 34) = true := by simp; omega
          have HN : Hid (unqV (bl s) = none) := by show _ = _; rw [HU.out]; exact hU.out.bad hr.out (by simpa using h34)
          have HR := Lib.hid (unq_none HOK.out HN.out)
          clear h34
          go_wp2
          go_ret2
          exact ⟨ret_v (by rw [HR.out.1, HR.out.2]; rfl), hb1.trans (hb2'.mono hz1)⟩
        · have h34' : ((r : Int) == 34) = false := by simp; omega
          by_cases h92 : r = 92
          · have h92' : ((r : Int) == 92) = true := by simp; omega
            have hU2 : Hid (UnqAt (runes (bl M)) true (k + 1) acc) := hU.out.hold (by rw [hr.out, h92])
            clear h34 h92
            go_wp2
            go_roundw
            case rel => exact ⟨k + 1, true, acc, by omega, rfl, hU2, by omega, hI', hit2.out, hb2'⟩
            case measure => simp only [World.iterPos, hit2.out, hitp.out]; omega
          · have h92' : ((r : Int) == 92) = false := by simp; omega
            have hU2 := Lib.hid (hU.out.put hr.out (by simp only [Bool.false_eq_true, if_false]; exact ⟨h34, h92⟩))
            clear h34 h92
            go_wp2_with (go_at_call 123; refine (writeRune_any _ _ _ _ (by omega) (by omega) _ hI' (by simp [Lib.byteCells_length]; omega) (by omega)).mono ?_)
            rintro e w4 ⟨rfl, hI4, hb4, hk4⟩
            go_wp2
            have hit4 := hk4.iter hit2.out (by omega)
            go_roundw
            case rel => exact ⟨k + 1, false, acc ++ enc r, by omega, rfl, hU2, by simp; omega, by rw [Lib.byteCells_append]; unfold enc; rw [Lib.byteCells_encodeRune]; exact hI4, hit4, hb2'.trans hb4⟩
            case measure => simp only [World.iterPos, hit4, hitp.out]; omega
    · have hk2' : k = (runes (bl M)).length := by omega
      have hnx := next_end wr _ M k hk2' hit
      have HE := Lib.hid (hU.out.end_ hk2')
      clear hit hk2' h0 h1
      cases held with
      | true =>
        have HR := Lib.hid (unq_none HOK.out (by rw [HU.out, HE.out]; rfl))
        go_wp2
        go_ret2
        exact ⟨ret_v (by rw [HR.out.1, HR.out.2]; rfl), hb1.trans (hb.mono hz1)⟩
      | false =>
        have HR := Lib.hid (unq_yes HOK.out (u := acc) (by rw [HU.out, HE.out]; rfl))
        go_wp2_with (go_at_call 124; refine (Tryz.Builder_String_any_k _ _ _ _ hI (by omega)).mono ?_)
        rintro e w4 ⟨rfl, _, hb4, _⟩
        go_wp2
        go_ret2
        exact ⟨ret_v (by rw [HR.out.1, HR.out.2]; rfl), hb1.trans ((hb.trans hb4).mono hz1)⟩
end Go.Proofs.YtmkmmggimokagaaGreatDoor
