/- Contracts of the functions of layer 4 (runes): unquoting. -/
import Derived.Test.YtenonfoocjcdmaaDoorRuW3
namespace Go.Proofs.YtenonfoocjcdmaaDoor
set_option linter.unusedVariables false
open Go.RowKit

theorem head_of {s : ByteArray} (h : 0 < s.size) : (bl s).head? = some (s[0]'h) := by
  rw [List.head?_eq_getElem?, List.getElem?_eq_getElem (by rw [bl_len]; exact h)]; rfl
theorem last_of {s : ByteArray} (h : 0 < s.size) : (bl s).getLast? = some (s[s.size - 1]'(by omega)) := by
  rw [List.getLast?_eq_getElem?, bl_len, List.getElem?_eq_getElem (by rw [bl_len]; omega)]; rfl
theorem u8_is (b : UInt8) (n : Nat) (h : n < 256) : (b.toNat : Int) = n ↔ b = UInt8.ofNat n := by
  constructor
  · intro e
    have e2 : b.toNat = n := by omega
    rw [← e2]; simp
  · rintro rfl; simp; omega
theorem inner_bl (s : ByteArray) : inner (bl s) = bl (s.extract 1 (s.size - 1)) := by
  rw [bl_extract, inner, bl_len]; rfl
theorem unq_not {l : List UInt8} (hok : okL l = true) (h : ¬ (2 ≤ l.length ∧ l.head? = some 34 ∧ l.getLast? = some 34)) : unqT l = [] ∧ unqE l = 50 := by
  have hn : unqV l = none := by unfold unqV; rw [if_neg (fun hh => h hh.2)]
  unfold unqT unqE
  rw [hn, hok]; exact ⟨rfl, rfl⟩
theorem unq_none {l : List UInt8} (hok : okL l = true) (h : unqV l = none) : unqT l = [] ∧ unqE l = 50 := by
  unfold unqT unqE
  rw [h, hok]; exact ⟨rfl, rfl⟩
theorem unq_yes {l u : List UInt8} (hok : okL l = true) (h : unqV l = some u) : unqT l = u ∧ unqE l = 0 := by
  unfold unqT unqE
  rw [h, hok]; exact ⟨rfl, rfl⟩
theorem drop_at {l : List Nat} {k r : Nat} (h : l[k]? = some r) : l.drop k = r :: l.drop (k + 1) := by
  obtain ⟨hk, e⟩ := List.getElem?_eq_some_iff.1 h
  rw [← e, List.getElem_cons_drop]
/-- what the loop of Unquote keeps -/
def UnqAt (rs : List Nat) (held : Bool) (k : Nat) (acc : List UInt8) : Prop := unqR false rs = (unqR held (rs.drop k)).map (acc ++ ·)
theorem UnqAt.start (rs : List Nat) : UnqAt rs false 0 [] := by unfold UnqAt; cases h : unqR false rs <;> simp [h]
theorem UnqAt.put {rs : List Nat} {held : Bool} {k r : Nat} {acc : List UInt8} (h : UnqAt rs held k acc) (hr : rs[k]? = some r) (hg : if held then r = 34 ∨ r = 92 else r ≠ 34 ∧ r ≠ 92) : UnqAt rs false (k + 1) (acc ++ enc r) := by
  unfold UnqAt at h ⊢
  rw [h, drop_at hr]
  cases held with
  | true =>
    simp only [if_true] at hg
    rw [unqR, if_pos hg, Option.map_map]
    congr 1; funext x; simp
  | false =>
    simp only [Bool.false_eq_true, if_false] at hg
    rw [unqR, if_neg hg.1, if_neg hg.2, Option.map_map]
    congr 1; funext x; simp
theorem UnqAt.hold {rs : List Nat} {k : Nat} {acc : List UInt8} (h : UnqAt rs false k acc) (hr : rs[k]? = some 92) : UnqAt rs true (k + 1) acc := by
  unfold UnqAt at h ⊢
  rw [h, drop_at hr, unqR, if_neg (by omega), if_pos rfl]
theorem UnqAt.bad {rs : List Nat} {held : Bool} {k r : Nat} {acc : List UInt8} (h : UnqAt rs held k acc) (hr : rs[k]? = some r) (hg : if held then r ≠ 34 ∧ r ≠ 92 else r = 34) : unqR false rs = none := by
  unfold UnqAt at h
  rw [h, drop_at hr]
  cases held with
  | true =>
    simp only [if_true] at hg
    rw [unqR, if_neg (by omega)]; rfl
  | false =>
    simp only [Bool.false_eq_true, if_false] at hg
    rw [unqR, if_pos hg]; rfl
theorem UnqAt.end_ {rs : List Nat} {held : Bool} {k : Nat} {acc : List UInt8} (h : UnqAt rs held k acc) (hk : k = rs.length) : unqR false rs = if held then none else some acc := by
  unfold UnqAt at h
  rw [h, hk, List.drop_length]
  cases held <;> simp [unqR]

set_option maxRecDepth 100000 in
set_option maxHeartbeats 4000000 in
theorem unquote_any (s : ByteArray) (w : World) (hs : s.size ≤ 17592186044416) :
    Calls Tryd.prog 97 #[.string s] w fun e w' => e = .returned (.tuple #[.string ⟨(unqT (bl s)).toArray⟩, .int .i64 (unqE (bl s))]) ∧ Below w.heap.size w w' := by
  by_cases hok : okL (bl s) = true
  case neg =>
    have hok' : okL (bl s) = false := by simpa using hok
    have hce := checkE_bad hok'
    have HR : Hid (unqT (bl s) = [] ∧ unqE (bl s) = 40) := ⟨by unfold unqT; rw [unq_bad hok']; rfl, by unfold unqE; simp [hok']⟩
    clear hok hok'
    go_enter Tryd.func97, Tryd.ntmps97
    go_wp2_with (go_at_call 102; refine (check_any s _ (by unfold maxLen; omega)).mono ?_; rintro e w1 ⟨rfl, hb1⟩)
    go_ret2
    exact ⟨ret_v (by rw [HR.out.1, HR.out.2]; rfl), hb1⟩
  have hce := checkE_ok hok
  by_cases hq : 2 ≤ (bl s).length ∧ (bl s).head? = some 34 ∧ (bl s).getLast? = some 34
  case neg =>
    have HR := Lib.hid (unq_not hok hq)
    have HQ := Lib.hid hq
    clear hok hq
    go_enter Tryd.func97, Tryd.ntmps97
    go_wp2_with (go_at_call 102; refine (check_any s _ (by unfold maxLen; omega)).mono ?_; rintro e w1 ⟨rfl, hb1⟩)
    all_goals first
      | (go_ret2; exact ⟨ret_v (by rw [HR.out.1, HR.out.2]; rfl), hb1⟩)
      | (exfalso
         have h2 : 2 ≤ (s.size : Int) ∧ (((s[s.size - 1]'(by omega)).toNat : Int) != 34) = false := by assumption
         have h0 : ((s[0]'(by omega)).toNat : Int) = 34 := by assumption
         have h1 : (((s[s.size - 1]'(by omega)).toNat : Int) != 34) = false := h2.2
         refine HQ.out ⟨by rw [bl_len]; omega, ?_, ?_⟩
         · rw [head_of (by omega)]; exact congrArg some ((u8_is _ 34 (by omega)).1 h0)
         · rw [last_of (by omega)]; exact congrArg some ((u8_is _ 34 (by omega)).1 (by simpa using h1)))
  obtain ⟨hq1, hq2, hq3⟩ := hq
  rw [bl_len] at hq1
  have h0 : ((s[0]'(by omega)).toNat : Int) = 34 := (u8_is _ 34 (by omega)).2 (by rw [head_of (by omega)] at hq2; simpa using hq2)
  have h1 : ((s[s.size - 1]'(by omega)).toNat : Int) = 34 := (u8_is _ 34 (by omega)).2 (by rw [last_of (by omega)] at hq3; simpa using hq3)
  have HU : Hid (unqV (bl s) = unqR false (runes (bl (s.extract 1 (s.size - 1))))) := by
    show _ = _
    unfold unqV
    rw [if_pos ⟨hok, by rw [bl_len]; exact hq1, hq2, hq3⟩, inner_bl]
  have HOK := Lib.hid hok
  have hrl := runes_size (s.extract 1 (s.size - 1))
  have hms : (s.extract 1 (s.size - 1)).size ≤ s.size := by
    have := congrArg List.length (bl_extract s 1 (s.size - 1))
    rw [bl_len, List.length_take, List.length_drop, bl_len] at this; omega
  clear hok hq2 hq3
  go_enter Tryd.func97, Tryd.ntmps97
  go_wp2_with (go_at_call 102; refine (check_any s _ (by unfold maxLen; omega)).mono ?_; rintro e w1 ⟨rfl, hb1⟩)
  have hz1 := hb1.size
  have hI0 := Lib.IsBuilderF.of (Lib.fresh_isBuilder 70 5 w1)
  go_loopw [7] (fun hd wr => ∃ (k : Nat) (held : Bool) (acc : List UInt8), k ≤ (runes (bl (s.extract 1 (s.size - 1)))).length ∧ hd = .bool held ∧ Hid (UnqAt (runes (bl (s.extract 1 (s.size - 1)))) held k acc) ∧ acc.length ≤ 4 * k ∧ Lib.IsBuilderF 70 5 w1.heap.size w1.heap.size (Lib.byteCells acc) wr ∧ wr.heap[w1.heap.size + 1]? = some (.stringIter (s.extract 1 (s.size - 1)) (posN k (bl (s.extract 1 (s.size - 1))))) ∧ Below w1.heap.size w1 wr) (fun _ wr => (bl (s.extract 1 (s.size - 1))).length - wr.iterPos (w1.heap.size + 1))
  case atStart =>
    refine ⟨0, false, [], Nat.zero_le _, rfl, UnqAt.start _, by simp, hI0.alloc _, ?_, ((Below.refl _ w1).alloc (Nat.le_refl _) _).alloc (by simp) _⟩
    have := iter_start (w1.alloc (.cells #[.pointer none, .slice none 0 0] 70)) (s.extract 1 (s.size - 1))
    simpa using this
  case round =>
    obtain ⟨k, held, acc, hk, rfl, hU, hal, hI, hit, hb⟩ := hrel
    generalize s.extract 1 (s.size - 1) = M at *
    have hsz : w1.heap.size + 1 < wr.heap.size := (Array.getElem?_eq_some_iff.1 hit).1
    by_cases hlt : k < (runes (bl M)).length
    · obtain ⟨r, hr, hrm, hnx⟩ := next_rune wr _ M k hlt hit
      have hI' := hI.iterAt hit (posN (k + 1) (bl M))
      have hit2 := Lib.hid (Lib.iterAt_heap wr _ M _ (posN (k + 1) (bl M)) hit)
      have hb2' := Lib.below_iterAt hb (k := w1.heap.size + 1) (by omega) M (posN (k + 1) (bl M))
      have hsz2 : w1.heap.size < (wr.iterAt (w1.heap.size + 1) M (posN (k + 1) (bl M))).heap.size := by rw [Lib.iterAt_size]; omega
      have hpm := pos_mono k hlt
      have hpl := pos_le (k + 1) (l := bl M) (by omega)
      have hitp := Lib.hid hit
      have hel := enc_len r
      clear hit hI hb h0 h1
      cases held with
      | true =>
        by_cases hsp : r = 34 ∨ r = 92
        · have hU2 := Lib.hid (hU.out.put hr.out (by simpa using hsp))
          rcases (by by_cases h1 : ((r : Int) != 34) = false
                     · exact .inl h1
                     · exact .inr ⟨by simpa using h1, by simp at h1 ⊢; omega⟩ : ((r : Int) != 34) = false ∨ (((r : Int) != 34) = true ∧ ((r : Int) != 92) = false)) with h34 | ⟨h34, h92⟩
          all_goals
            clear hsp
            go_wp2_with (go_at_call 103; refine (writeRune_any _ _ _ _ (by omega) (by omega) _ hI' (by simp [Lib.byteCells_length]; omega) (by omega)).mono ?_)
            rintro e w4 ⟨rfl, hI4, hb4, hk4⟩
            go_wp2
            have hit4 := hk4.iter hit2.out (by omega)
            go_roundw
            case rel => exact ⟨k + 1, false, acc ++ enc r, by omega, rfl, hU2, by simp; omega, by rw [Lib.byteCells_append]; unfold enc; rw [Lib.byteCells_encodeRune]; exact hI4, hit4, hb2'.trans hb4⟩
            case measure => simp only [World.iterPos, hit4, hitp.out]; omega
        · have h34 : ((r : Int) != 34) = true := by simp; omega
          have h92 : ((r : Int) != 92) = true := by simp; omega
          have HN : Hid (unqV (bl s) = none) := by show _ = _; rw [HU.out]; exact hU.out.bad hr.out (by simpa using hsp)
          have HR := Lib.hid (unq_none HOK.out HN.out)
          clear hsp
          go_wp2
          go_ret2
          exact ⟨ret_v (by rw [HR.out.1, HR.out.2]; rfl), hb1.trans (hb2'.mono hz1)⟩
      | false =>
        by_cases h34 : r = 34
        · have h34' : ((r : Int) == 34) = true := by simp; omega
          have HN : Hid (unqV (bl s) = none) := by show _ = _; rw [HU.out]; exact hU.out.bad hr.out (by simpa using h34)
          have HR := Lib.hid (unq_none HOK.out HN.out)
          clear h34
          go_wp2
          go_ret2
          exact ⟨ret_v (by rw [HR.out.1, HR.out.2]; rfl), hb1.trans (hb2'.mono hz1)⟩
        · have h34' : ((r : Int) == 34) = false := by simp; omega
          by_cases h92 : r = 92
          · have h92' : ((r : Int) == 92) = true := by simp; omega
            have hU2 : Hid (UnqAt (runes (bl M)) true (k + 1) acc) := hU.out.hold (by rw [hr.out, h92])
            clear h34 h92
            go_wp2
            go_roundw
            case rel => exact ⟨k + 1, true, acc, by omega, rfl, hU2, by omega, hI', hit2.out, hb2'⟩
            case measure => simp only [World.iterPos, hit2.out, hitp.out]; omega
          · have h92' : ((r : Int) == 92) = false := by simp; omega
            have hU2 := Lib.hid (hU.out.put hr.out (by simp only [Bool.false_eq_true, if_false]; exact ⟨h34, h92⟩))
            clear h34 h92
            go_wp2_with (go_at_call 103; refine (writeRune_any _ _ _ _ (by omega) (by omega) _ hI' (by simp [Lib.byteCells_length]; omega) (by omega)).mono ?_)
            rintro e w4 ⟨rfl, hI4, hb4, hk4⟩
            go_wp2
            have hit4 := hk4.iter hit2.out (by omega)
            go_roundw
            case rel => exact ⟨k + 1, false, acc ++ enc r, by omega, rfl, hU2, by simp; omega, by rw [Lib.byteCells_append]; unfold enc; rw [Lib.byteCells_encodeRune]; exact hI4, hit4, hb2'.trans hb4⟩
            case measure => simp only [World.iterPos, hit4, hitp.out]; omega
    · have hk2' : k = (runes (bl M)).length := by omega
      have hnx := next_end wr _ M k hk2' hit
      have HE := Lib.hid (hU.out.end_ hk2')
      clear hit hk2' h0 h1
      cases held with
      | true =>
        have HR := Lib.hid (unq_none HOK.out (by rw [HU.out, HE.out]; rfl))
        go_wp2
        go_ret2
        exact ⟨ret_v (by rw [HR.out.1, HR.out.2]; rfl), hb1.trans (hb.mono hz1)⟩
      | false =>
        have HR := Lib.hid (unq_yes HOK.out (u := acc) (by rw [HU.out, HE.out]; rfl))
        go_wp2_with (go_at_call 43; refine (Tryd.Builder_String_any_k _ _ _ _ hI (by omega)).mono ?_)
        rintro e w4 ⟨rfl, _, hb4, _⟩
        go_wp2
        go_ret2
        exact ⟨ret_v (by rw [HR.out.1, HR.out.2]; rfl), hb1.trans ((hb.trans hb4).mono hz1)⟩
end Go.Proofs.YtenonfoocjcdmaaDoor
