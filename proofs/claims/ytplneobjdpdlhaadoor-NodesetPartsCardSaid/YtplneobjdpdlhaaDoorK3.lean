/- strings.Builder at this program: contracts of copyCheck, WriteByte, WriteRune (String and AppendRune come from the kit's shelf). Contracts of the functions of layer 4 (runes): classes, checks, counts. Contracts of the functions of layer 4 (runes): counts, cuts, small letters. Contracts of the functions of layer 4 (runes): small letters, quoting. Contracts of the functions of layer 4 (runes): unquoting. -/
import Derived.Test.YtplneobjdpdlhaaDoorK1
import Derived.Test.YtplneobjdpdlhaaDoorShelf
import Derived.Lib.FrozenHead2
import Derived.Lib.OthersKept
import Derived.Lib.RuneBytes
import Derived.Test.YtplneobjdpdlhaaDoorK2
import Derived.Deep.QuietTactic
import Derived.BigQuiet
namespace Go.Proofs.YtplneobjdpdlhaaDoor
set_option linter.unusedVariables false
open Go.RowKit

theorem Tryd.sizeBld : (Tryd.prog.info? 61).map (·.size) = some 2 := by kernel_rfl
theorem Tryd.liesBld : liesAt Tryd.prog Tryd.prog.depth 61 (2 / Tryd.prog.cellsOf 61) 0 61 1 = true := by kernel_rfl
theorem Tryd.infoByte : (Tryd.prog.info? 5).map (fun i => (i.zero, i.size, i.bytes)) = some (some (.int .u8 0), 1, 1) := by kernel_rfl

set_option maxHeartbeats 1000000 in
set_option maxRecDepth 100000 in
theorem copyCheck_used (b : Nat) (w : World) (h0 : w.cell? ⟨b, 0, none⟩ = some (.pointer (some ⟨b, 0, none⟩))) :
    Calls Tryd.prog 52 #[.pointer (some ⟨b, 0, none⟩)] w fun e w' => e = .returned (.tuple #[]) ∧ w' = w := by
  obtain ⟨j, hj, _⟩ := Option.map_eq_some_iff.1 Tryd.sizeBld
  go_enter Tryd.func52, Tryd.ntmps52
  go_wp2
  rw [Lib.run_neq_ptr_same w _ Tryd.underlying58 hj]
  go_wp2
  go_end0
  exact ⟨rfl, rfl⟩
set_option maxHeartbeats 1000000 in
set_option maxRecDepth 100000 in
theorem copyCheck_fresh (b : Nat) (w : World) (h0 : w.cell? ⟨b, 0, none⟩ = some (.pointer none)) (hsh : w.shape? b = some (61, 2)) (hfz : w.frozen? ⟨b, 0, none⟩ = false) :
    Calls Tryd.prog 52 #[.pointer (some ⟨b, 0, none⟩)] w fun e w' => e = .returned (.tuple #[]) ∧ w' = w.setCell ⟨b, 0, none⟩ (.pointer (some ⟨b, 0, none⟩)) := by
  obtain ⟨j, hj, hjs⟩ := Option.map_eq_some_iff.1 Tryd.sizeBld
  go_enter Tryd.func52, Tryd.ntmps52
  go_wp2
  rw [Lib.run_to_unsafe w ⟨b, 0, none⟩ Tryd.underlying58 Tryd.underlying84 hj (by rw [hjs]; decide) hsh (Nat.zero_lt_succ 1)]
  simp only [Result.andThen]
  rw [Oper.upon_value]
  go_wp2
  rw [run_callFunc_extern Tryd.func70 (by kernel_rfl) (by kernel_rfl) (by kernel_rfl) (e := Extern.AbiNoEscape.same) (by kernel_rfl)]
  rw [Lib.run_noEscape]
  simp only [Result.andThen]
  rw [Oper.upon_value]
  go_wp2
  rw [Lib.run_from_unsafe w ⟨b, 0, none⟩ Tryd.underlying84 Tryd.underlying58 hj hsh Tryd.liesBld]
  simp only [Result.andThen]
  rw [Oper.upon_value]
  go_wp2
  go_end0
  exact ⟨rfl, rfl⟩
theorem copyCheck_any (B b : Nat) (bs : List Value) (w : World) (h : Lib.IsBuilderF 61 5 B b bs w) :
    Calls Tryd.prog 52 #[.pointer (some ⟨b, 0, none⟩)] w fun e w' => e = .returned (.tuple #[]) ∧ (Lib.BuilderAtF 61 5 B b (.pointer (some ⟨b, 0, none⟩)) bs w' ∧ Below B w w' ∧ Lib.OthersKept 5 (some b) w w') := by
  rcases h with h | h
  · refine (copyCheck_fresh b w h.cell0 h.shape h.frozen0).mono ?_
    rintro e w' ⟨rfl, rfl⟩
    exact ⟨rfl, h.used _, (Below.refl B w).setCell (p := ⟨b, 0, none⟩) h.1 _, (Lib.OthersKept.refl _ _ w).setCell ⟨b, 0, none⟩ rfl _⟩
  · refine (copyCheck_used b w h.cell0).mono ?_
    rintro e w' ⟨rfl, rfl⟩
    exact ⟨rfl, h, Below.refl B _, Lib.OthersKept.refl _ _ _⟩

set_option maxHeartbeats 2000000 in
set_option maxRecDepth 100000 in
theorem writeString_any (B b : Nat) (bs : List Value) (s : ByteArray) (w : World) (h : Lib.IsBuilderF 61 5 B b bs w) (hlen : bs.length + s.size ≤ 140737488355328) (hBw : B ≤ w.heap.size) :
    Calls Tryd.prog 43 #[.pointer (some ⟨b, 0, none⟩), .string s] w fun e w' => e = .returned (.tuple #[.int .i64 s.size, .nilIface]) ∧ (Lib.IsBuilderF 61 5 B b (bs ++ Lib.strCells s) w' ∧ Below B w w' ∧ Lib.OthersKept 5 (some b) w w') := by
  obtain ⟨i0, hi, hz0, hz1, hz2⟩ := info_parts Tryd.infoByte
  go_enter Tryd.func43, Tryd.ntmps43
  go_wp2_with (go_at_call 52; refine (copyCheck_any B b bs _ h).mono ?_)
  rintro e w1 ⟨rfl, h1, hb1, hk1⟩
  obtain ⟨hB, v, hbk, hown, hne⟩ := h1
  have c0 : w1.cell? ⟨b, 0, none⟩ = some (.pointer (some ⟨b, 0, none⟩)) := by rw [Lib.cell_of_heap hbk]; rfl
  have c1 : w1.cell? ⟨b, 1, none⟩ = some v := by rw [Lib.cell_of_heap hbk]; rfl
  go_wp2_with (at_builtin; refine Lib.wpList_append_own_stringF _ rfl _ _ 59 9 rfl B 5 i0 Tryd.underlying59 Tryd.underlying9 hi hz0 hz1 hz2 _ _ _ rfl hown s rfl ?c3 ?c4 ?c5 ?_)
  case c3 => unfold maxLen; omega
  case c4 => omega
  case c5 => have := hb1.size; omega
  intro v' w2 hown' hgrow _
  have hlt : b < w1.heap.size := by
    rcases Nat.lt_or_ge b w1.heap.size with h' | h'
    · exact h'
    · simp [Array.getElem?_eq_none h'] at hbk
  have hb2 : w2.heap[b]? = some (.cells #[.pointer (some ⟨b, 0, none⟩), v] 61 (0, 0)) := by
    rw [hgrow.block b hlt (fun e => hne e.symm)]
    exact hbk
  have d0 : w2.cell? ⟨b, 0, none⟩ = some (.pointer (some ⟨b, 0, none⟩)) := by rw [Lib.cell_of_heap hb2]; rfl
  have d1 : w2.cell? ⟨b, 1, none⟩ = some v := by rw [Lib.cell_of_heap hb2]; rfl
  have f1 : w2.frozen? ⟨b, 1, none⟩ = false := Lib.frozen_of_heap hb2 1
  obtain ⟨ao, n', cap, rfl⟩ : ∃ ao n' cap, v' = .slice ao n' cap := by
    rcases hown'.2 with ⟨hv, _⟩ | ⟨g, cap, cur, fz, hv, _⟩
    · exact ⟨_, _, _, hv⟩
    · exact ⟨_, _, _, hv⟩
  go_wp2
  go_ret2
  refine ⟨rfl, .inr ?_, ?_, (hk1.grown hgrow (Lib.ownsRowF_kind hown)).setCell ⟨b, 1, none⟩ rfl _⟩
  · exact Lib.BuilderAtF.put (T := 61) (e := 5) hB hb2 (bs' := bs ++ Lib.strCells s) (by simpa [Lib.strCells] using hown') (by decide)
  · exact (hb1.grown hgrow (by have := hb1.size; omega) (fun k hk => (hown.lt k hk).1)).setCell (p := ⟨b, 1, none⟩) hB _
end Go.Proofs.YtplneobjdpdlhaaDoor

namespace Go.Proofs.YtplneobjdpdlhaaDoor
set_option linter.unusedVariables false
open Go.RowKit

/-- a text's bytes as a list -/
abbrev bl (s : ByteArray) : List UInt8 := s.data.toList
theorem bl_len (s : ByteArray) : (bl s).length = s.size := rfl
theorem next_rune (wr : World) (b : Nat) (s : ByteArray) (k : Nat) (h : k < (runes (bl s)).length) (hit : wr.heap[b]? = some (.stringIter s (posN k (bl s)))) :
    ∃ r : Nat, Hid ((runes (bl s))[k]? = some r) ∧ r ≤ 1114111 ∧ ∀ ty, (Instr.next (.pointer (some ⟨b, 0, none⟩)) true ty).run Tryd.prog wr =
      .ok (.tuple #[.bool true, .int .i64 (posN k (bl s)), .int .i32 r]) (wr.iterAt b s (posN (k + 1) (bl s))) := by
  have hlt := (pos_lt_iff k (by omega)).2 h
  rw [bl_len] at hlt
  have e : Utf8.decode s (posN k (bl s)) = dec ((bl s).drop (posN k (bl s))) := (Lib.decodeL_drop s _).symm
  refine ⟨_, pos_rune k h, dec_max _, fun ty => ?_⟩
  rw [Lib.run_next_any_at wr b s _ ty hit hlt, e, pos_succ k h]
theorem next_end (wr : World) (b : Nat) (s : ByteArray) (k : Nat) (h : k = (runes (bl s)).length) (hit : wr.heap[b]? = some (.stringIter s (posN k (bl s)))) :
    ∀ ty, (Instr.next (.pointer (some ⟨b, 0, none⟩)) true ty).run Tryd.prog wr = .ok (.tuple #[.bool false]) wr := fun ty =>
  Lib.run_next_end_at wr b s _ ty hit (by rw [pos_end h, bl_len]; omega)
theorem runes_size (s : ByteArray) : (runes (bl s)).length ≤ s.size := by have := runes_len_le (bl s); rw [bl_len] at this; exact this
theorem iter_start (w : World) (s : ByteArray) : (w.iter s 0).heap[w.heap.size]? = some (.stringIter s (posN 0 (bl s))) := by
  have := World.iter_heap w s 0
  simpa [posN] using this
theorem take_good {l : List Nat} {k r : Nat} (h : l[k]? = some r) (ha : (l.take k).all (fun r => !badR r) = true) (hr : badR r = false) : (l.take (k + 1)).all (fun r => !badR r) = true := by
  rw [List.take_add_one, h]; simp only [List.all_append, ha, Option.toList, List.all_cons, hr, List.all_nil]; rfl
theorem split_at {l : List Nat} {k r : Nat} (h : l[k]? = some r) : l = l.take k ++ r :: l.drop (k + 1) := by
  obtain ⟨hk, e⟩ := List.getElem?_eq_some_iff.1 h
  rw [← e, List.getElem_cons_drop, List.take_append_drop]

end Go.Proofs.YtplneobjdpdlhaaDoor

namespace Go.Proofs.YtplneobjdpdlhaaDoor
set_option linter.unusedVariables false
open Go.RowKit


/-- the two parts of a text that is cut behind k runes -/
def cutA (s : ByteArray) (k : Nat) : ByteArray := s.extract 0 (posN k (bl s))
def cutB (s : ByteArray) (k : Nat) : ByteArray := s.extract (posN k (bl s)) s.size
theorem ba_ext {a b : ByteArray} (h : a.data.toList = b.data.toList) : a = b := by
  cases a; cases b; simp at h; rw [h]
theorem bl_extract (s : ByteArray) (i j : Nat) : bl (s.extract i j) = ((bl s).drop i).take (j - i) := Lib.extract_data s i j
theorem bl_cutA (s : ByteArray) (k : Nat) : bl (cutA s k) = (bl s).take (posN k (bl s)) := by rw [cutA, bl_extract]; simp
theorem bl_cutB (s : ByteArray) (k : Nat) : bl (cutB s k) = (bl s).drop (posN k (bl s)) := by
  rw [cutB, bl_extract, List.take_of_length_le]
  rw [List.length_drop, bl_len]; omega
theorem cutA_end (s : ByteArray) : cutA s (runes (bl s)).length = s := ba_ext (by
  show bl _ = bl _
  rw [bl_cutA, pos_end rfl, List.take_length])
theorem cutB_end (s : ByteArray) : cutB s (runes (bl s)).length = ⟨#[]⟩ := ba_ext (by
  show bl _ = _
  rw [bl_cutB, pos_end rfl, List.drop_length])

end Go.Proofs.YtplneobjdpdlhaaDoor

namespace Go.Proofs.YtplneobjdpdlhaaDoor
set_option linter.unusedVariables false
open Go.RowKit

theorem lowB_up {b : UInt8} (h1 : 65 ≤ b.toNat) (h2 : b.toNat ≤ 90) : ((lowB b).toNat : Int) = (b.toNat : Int) + 97 - 65 := by
  unfold lowB; rw [if_pos ⟨h1, h2⟩, UInt8.toNat_add]; simp; omega
theorem lowB_same {b : UInt8} (h : ¬ (65 ≤ b.toNat ∧ b.toNat ≤ 90)) : lowB b = b := by unfold lowB; rw [if_neg h]
/-- a text whose first k bytes are made small -/
def lowTo (k : Nat) (l : List UInt8) : List UInt8 := (l.take k).map lowB ++ l.drop k
theorem lowTo_len (k : Nat) (l : List UInt8) : (lowTo k l).length = l.length := by simp [lowTo]; omega
theorem lowTo_at {k : Nat} {l : List UInt8} {b : UInt8} (h : l[k]? = some b) : (lowTo k l)[k]? = some b := by
  obtain ⟨hk, e⟩ := List.getElem?_eq_some_iff.1 h
  unfold lowTo
  rw [List.getElem?_append_right (by simp; omega)]
  simp [Nat.min_eq_left (Nat.le_of_lt hk), h]
theorem lowTo_succ {k : Nat} {l : List UInt8} {b : UInt8} (h : l[k]? = some b) : lowTo (k + 1) l = (lowTo k l).set k (lowB b) := by
  obtain ⟨hk, e⟩ := List.getElem?_eq_some_iff.1 h
  unfold lowTo
  have hd : l.drop k = b :: l.drop (k + 1) := by rw [← e, List.getElem_cons_drop]
  rw [List.take_add_one, h, hd, List.set_append_right _ _ (by simp; omega)]
  simp [Nat.min_eq_left (Nat.le_of_lt hk)]
theorem lowTo_all {k : Nat} {l : List UInt8} (h : k = l.length) : lowTo k l = l.map lowB := by subst h; simp [lowTo]

theorem bytes_made (w : World) (s : ByteArray) : ∃ (cap : Nat) (C : Array Value), (convert 9 59 (.string s)).run Tryd.prog w = .ok (.slice (some ⟨w.heap.size, 0, none⟩) s.size cap) (w.drew.alloc (.cells C 5 (C.size, C.size + 1))) ∧
    Hid (BytesAt (w.alloc (.cells C 5 (C.size, C.size + 1))) 5 w.heap.size (bl s)) :=
  ⟨_, _, run_bytes_of_string w _ _ 5 s Tryd.underlying9 Tryd.underlying59 Tryd.underlying5, BytesAt.made w 5 s _⟩
theorem str_of_bytes {w : World} {g cap : Nat} {l : List UInt8} (h : BytesAt w 5 g l) : (convert 59 9 (.slice (some ⟨g, 0, none⟩) l.length cap)).run Tryd.prog w = .ok (.string ⟨l.toArray⟩) w :=
  run_convert_bytes_back w 59 9 5 _ cap l Tryd.underlying59 Tryd.underlying5 Tryd.underlying9 (fun j hj => by
    have e : (Addr.add ⟨g, 0, none⟩ j) = ⟨g, j, none⟩ := by unfold Addr.add; split <;> simp_all
    rw [e]
    exact h.cell (List.getElem?_eq_getElem hj))

theorem enc_len (r : Nat) : (enc r).length ≤ 4 := by
  have := (Lib.runeCells_le (r : Int)).2
  rw [Lib.runeCells_length] at this; exact this
theorem escR_len (rs : List Nat) : (escR rs).length ≤ 5 * rs.length := by
  induction rs with
  | nil => simp [escR]
  | cons r t ih =>
    have h1 := enc_len r
    show (((if r = 34 ∨ r = 92 then [92] else []) ++ enc r) ++ escR t).length ≤ _
    simp only [List.length_append, List.length_cons]
    split <;> simp <;> omega
theorem escR_next {rs : List Nat} {k r : Nat} (h : rs[k]? = some r) : escR (rs.take (k + 1)) = escR (rs.take k) ++ ((if r = 34 ∨ r = 92 then [92] else []) ++ enc r) := by
  rw [List.take_add_one, h, escR_append]
  simp [escR]

theorem pos_mono (k : Nat) {l : List UInt8} (h : k < (runes l).length) : posN k l < posN (k + 1) l := by
  rw [pos_succ k h]; have := dec_pos (l.drop (posN k l)); omega
theorem bc_one (a : List UInt8) (r : Nat) : Lib.byteCells (34 :: (a ++ enc r)) = Lib.byteCells (34 :: a) ++ Lib.runeCells (r : Int) := by
  rw [← Lib.byteCells_encodeRune, ← Lib.byteCells_append]; rfl
theorem bc_two (a : List UInt8) (r : Nat) : Lib.byteCells (34 :: (a ++ ([92] ++ enc r))) = Lib.byteCells (34 :: a) ++ [.int .u8 92] ++ Lib.runeCells (r : Int) := by
  rw [← Lib.byteCells_encodeRune]; simp [Lib.byteCells, enc]
theorem bc_end (a : List UInt8) : Lib.byteCells (34 :: a) ++ [Value.int .u8 34] = Lib.byteCells (34 :: (a ++ [34])) := by
  simp [Lib.byteCells]

end Go.Proofs.YtplneobjdpdlhaaDoor

namespace Go.Proofs.YtplneobjdpdlhaaDoor
set_option linter.unusedVariables false
open Go.RowKit

theorem head_of {s : ByteArray} (h : 0 < s.size) : (bl s).head? = some (s[0]'h) := by
  rw [List.head?_eq_getElem?, List.getElem?_eq_getElem (by rw [bl_len]; exact h)]; rfl
theorem last_of {s : ByteArray} (h : 0 < s.size) : (bl s).getLast? = some (s[s.size - 1]'(by omega)) := by
  rw [List.getLast?_eq_getElem?, bl_len, List.getElem?_eq_getElem (by rw [bl_len]; omega)]; rfl
theorem u8_is (b : UInt8) (n : Nat) (h : n < 256) : (b.toNat : Int) = n ↔ b = UInt8.ofNat n := by
  constructor
  · intro e
    have e2 : b.toNat = n := by omega
    rw [← e2]; simp
  · rintro rfl; simp; omega
theorem inner_bl (s : ByteArray) : inner (bl s) = bl (s.extract 1 (s.size - 1)) := by
  rw [bl_extract, inner, bl_len]; rfl
theorem unq_not {l : List UInt8} (hok : okL l = true) (h : ¬ (2 ≤ l.length ∧ l.head? = some 34 ∧ l.getLast? = some 34)) : unqT l = [] ∧ unqE l = 50 := by
  have hn : unqV l = none := by unfold unqV; rw [if_neg (fun hh => h hh.2)]
  unfold unqT unqE
  rw [hn, hok]; exact ⟨rfl, rfl⟩
theorem unq_none {l : List UInt8} (hok : okL l = true) (h : unqV l = none) : unqT l = [] ∧ unqE l = 50 := by
  unfold unqT unqE
  rw [h, hok]; exact ⟨rfl, rfl⟩
theorem unq_yes {l u : List UInt8} (hok : okL l = true) (h : unqV l = some u) : unqT l = u ∧ unqE l = 0 := by
  unfold unqT unqE
  rw [h, hok]; exact ⟨rfl, rfl⟩
theorem drop_at {l : List Nat} {k r : Nat} (h : l[k]? = some r) : l.drop k = r :: l.drop (k + 1) := by
  obtain ⟨hk, e⟩ := List.getElem?_eq_some_iff.1 h
  rw [← e, List.getElem_cons_drop]
/-- what the loop of Unquote keeps -/
def UnqAt (rs : List Nat) (held : Bool) (k : Nat) (acc : List UInt8) : Prop := unqR false rs = (unqR held (rs.drop k)).map (acc ++ ·)
theorem UnqAt.start (rs : List Nat) : UnqAt rs false 0 [] := by unfold UnqAt; cases h : unqR false rs <;> simp [h]
theorem UnqAt.put {rs : List Nat} {held : Bool} {k r : Nat} {acc : List UInt8} (h : UnqAt rs held k acc) (hr : rs[k]? = some r) (hg : if held then r = 34 ∨ r = 92 else r ≠ 34 ∧ r ≠ 92) : UnqAt rs false (k + 1) (acc ++ enc r) := by
  unfold UnqAt at h ⊢
  rw [h, drop_at hr]
  cases held with
  | true =>
    simp only [if_true] at hg
    rw [unqR, if_pos hg, Option.map_map]
    congr 1; funext x; simp
  | false =>
    simp only [Bool.false_eq_true, if_false] at hg
    rw [unqR, if_neg hg.1, if_neg hg.2, Option.map_map]
    congr 1; funext x; simp
theorem UnqAt.hold {rs : List Nat} {k : Nat} {acc : List UInt8} (h : UnqAt rs false k acc) (hr : rs[k]? = some 92) : UnqAt rs true (k + 1) acc := by
  unfold UnqAt at h ⊢
  rw [h, drop_at hr, unqR, if_neg (by omega), if_pos rfl]
theorem UnqAt.bad {rs : List Nat} {held : Bool} {k r : Nat} {acc : List UInt8} (h : UnqAt rs held k acc) (hr : rs[k]? = some r) (hg : if held then r ≠ 34 ∧ r ≠ 92 else r = 34) : unqR false rs = none := by
  unfold UnqAt at h
  rw [h, drop_at hr]
  cases held with
  | true =>
    simp only [if_true] at hg
    rw [unqR, if_neg (by omega)]; rfl
  | false =>
    simp only [Bool.false_eq_true, if_false] at hg
    rw [unqR, if_pos hg]; rfl
theorem UnqAt.end_ {rs : List Nat} {held : Bool} {k : Nat} {acc : List UInt8} (h : UnqAt rs held k acc) (hk : k = rs.length) : unqR false rs = if held then none else some acc := by
  unfold UnqAt at h
  rw [h, hk, List.drop_length]
  cases held <;> simp [unqR]

end Go.Proofs.YtplneobjdpdlhaaDoor
