/- Bundle K4. -/
import Derived.Test.YtjmhaoplablmnaaGreatDoorK3s
namespace Go.Proofs.YtjmhaoplablmnaaGreatDoor
set_option linter.unusedSimpArgs false
set_option maxRecDepth 100000
set_option linter.unusedVariables false
open Go.RowKit
set_option maxHeartbeats 1000000 in
theorem rclass_any (r : Int) (w : World) :
    Calls Tryz.prog 102 #[.int .i32 r] w fun e w' => e = .returned (.int .i64 (classV r)) ∧ w = w' := by
  go_enter Tryz.func102, Tryz.ntmps102
  go_wp2
  all_goals
    go_ret
    refine ⟨ret_int ?_, rfl⟩
    try simp only [beq_iff_eq, beq_eq_false_iff_ne] at *
    unfold classV
    repeat' split
    all_goals first | rfl | (exfalso; omega)
set_option maxHeartbeats 1000000 in
theorem rcheck_any (s : ByteArray) (w : World) (hs : s.size ≤ maxLen) :
    Calls Tryz.prog 58 #[.string s] w fun e w' => e = .returned (.tuple #[.int .i64 (checkN (bl s)), .int .i64 (checkE (bl s))]) ∧ Below w.heap.size w w' := by
  unfold maxLen at hs
  have hrl := runes_size s
  go_enter Tryz.func58, Tryz.ntmps58
  go_wp2
  go_loopw [4] (fun n wr => ∃ k : Nat, k ≤ (runes (bl s)).length ∧ n = .int .i64 k ∧ Hid (((runes (bl s)).take k).all (fun r => !badR r) = true) ∧ wr.heap[w.heap.size]? = some (.stringIter s (posN k (bl s))) ∧ Below w.heap.size w wr) (fun n _ => (runes (bl s)).length - (intOf n).toNat)
  case atStart => exact ⟨0, Nat.zero_le _, rfl, rfl, iter_start w s, (Below.refl _ w).alloc (Nat.le_refl _) _⟩
  case round =>
    obtain ⟨k, hk, rfl, ha, hit, hb⟩ := hrel
    have hsz : w.heap.size < wr.heap.size := (Array.getElem?_eq_some_iff.1 hit).1
    by_cases hlt : k < (runes (bl s)).length
    · obtain ⟨r, hr, hrm, hnx⟩ := next_rune wr _ s k hlt hit
      have hit2 := Lib.hid (Lib.iterAt_heap wr _ s _ (posN (k + 1) (bl s)) hit)
      have hb2 := Lib.below_iterAt hb (Nat.le_refl _) s (posN (k + 1) (bl s))
      by_cases hbad : badR r = true
      · have hc : (classV (r : Int) == 0) = true := hbad
        have hfin := Lib.hid (check_split (split_at hr.out) ha.out hbad)
        clear hbad hit
        go_wp2_with (go_at_call 102; refine (rclass_any _ _).mono ?_; rintro e w' ⟨rfl, rfl⟩)
        go_ret2
        exact ⟨ret_v (by rw [hfin.out.2, checkE_bad hfin.out.1]; simp; omega), hb2⟩
      · have hc : (classV (r : Int) == 0) = false := by simpa [badR] using hbad
        have ha2 := Lib.hid (take_good hr.out ha.out (by simpa using hbad))
        clear hbad hit ha
        go_wp2_with (go_at_call 102; refine (rclass_any _ _).mono ?_; rintro e w' ⟨rfl, rfl⟩)
        go_roundw
        case rel => exact ⟨k + 1, by omega, by go_num, ha2, hit2.out, hb2⟩
        case measure => simp [intOf]; omega
    · have hk2 : Hid (k = (runes (bl s)).length) := by show _ = _; omega
      have hnx := next_end wr _ s k hk2.out hit
      have hok : Hid (okL (bl s) = true) := by
        show _ = _
        have h := ha.out
        rw [hk2.out, List.take_length] at h
        exact h
      clear hit
      go_wp2
      go_ret2
      exact ⟨ret_v (by rw [checkN_ok hok.out, checkE_ok hok.out, ← hk2.out]; rfl), hb⟩
theorem take_map_next {l : List UInt8} {k : Nat} {b : UInt8} (h : l[k]? = some b) : (l.take k).map lowB ++ [lowB b] = (l.take (k + 1)).map lowB := by
  rw [List.take_add_one, h]; simp
theorem esc_next {l : List UInt8} {k : Nat} {b : UInt8} (h : l[k]? = some b) : esc (l.take (k + 1)) = esc (l.take k) ++ (if b = 34 ∨ b = 92 then [92, b] else [b]) := by
  rw [List.take_add_one, h, esc_append]; simp [esc]
theorem esc_len (l : List UInt8) : (esc l).length ≤ 2 * l.length := by
  induction l with
  | nil => simp [esc]
  | cons b t ih =>
    show ((if b = 34 ∨ b = 92 then [92, b] else [b]) ++ esc t).length ≤ _
    simp only [List.length_append, List.length_cons]
    split <;> simp <;> omega
theorem bl_get {s : ByteArray} {k : Nat} (h : k < s.size) : (bl s)[k]? = some (s[k]'h) := by
  rw [List.getElem?_eq_getElem (by rw [bl_len]; exact h)]; rfl
set_option maxHeartbeats 1000000 in
theorem rlower_any (s : ByteArray) (w : World) (hs : s.size ≤ 17592186044416) :
    Calls Tryz.prog 156 #[.string s] w fun e w' => e = .returned (.string ⟨((bl s).map lowB).toArray⟩) ∧ Below w.heap.size w w' := by
  go_enter Tryz.func156, Tryz.ntmps156
  go_wp2
  go_loopw [3, 4] (fun v i wr => ∃ k : Nat, k ≤ s.size ∧ i = .int .i64 k ∧ wr.ownsRow w.heap.size 5 1 v k (Lib.byteCells (((bl s).take k).map lowB)) ∧ Below w.heap.size w wr) (fun _ i _ => s.size - (intOf i).toNat)
  case atStart => exact ⟨0, Nat.zero_le _, rfl, own_nil, Below.refl _ w⟩
  case round =>
    obtain ⟨k, hk, rfl, hown, hb⟩ := hrel
    have hz := hb.size
    by_cases hlt : k < s.size
    · have hget := bl_get hlt
      obtain ⟨b, hbk⟩ : ∃ b, s[k]'hlt = b := ⟨_, rfl⟩
      rw [hbk] at hget
      have hnx := Lib.hid (take_map_next hget)
      clear hget
      generalize hE : ((bl s).take k).map lowB = E at hown hnx
      clear hE
      have hb256 := b.toNat_lt
      by_cases hup : 65 ≤ b.toNat ∧ b.toNat ≤ 90
      · obtain ⟨hu1, hu2⟩ := hup
        have e2 : Hid (((lowB b).toNat : Int) = (b.toNat : Int) + 32) := by show _ = _; rw [lowB_up hu1 hu2]; omega
        have hu3 : (64 : Int) < (b.toNat : Int) := by omega
        have hu4 : (b.toNat : Int) < 91 := by omega
        go_wp2_with (at_builtin; refine wp_app_bytes (.tmp 21) (.tmp 26) rfl rfl w.heap.size u3 k E rfl (hown.alloc _) _ (some ⟨wr.heap.size, 0, none⟩) 1 1 [lowB b] rfl (made_byte wr _ _ e2.out) (by omega) (by simp; omega) ?_)
        intro v1 w1 hown1 hg1 hat1
        have hb1 := below_app (hb.alloc hz _) (Nat.le_refl _) (by simp; omega) (hown.alloc _) hg1
        rw [hnx.out] at hown1
        clear hg1 hat1 hown
        go_wp2
        go_roundw
        case rel => exact ⟨k + 1, by omega, by go_num, hown1, hb1⟩
        case measure => simp [intOf]; omega
      · have e2 : Hid (((lowB b).toNat : Int) = (b.toNat : Int)) := by show _ = _; rw [lowB_same hup]
        by_cases hu3 : (64 : Int) < (b.toNat : Int)
        · have hu4 : (91 : Int) ≤ (b.toNat : Int) := by omega
          go_wp2_with (at_builtin; refine wp_app_bytes (.tmp 28) (.tmp 32) rfl rfl w.heap.size u3 k E rfl (hown.alloc _) _ (some ⟨wr.heap.size, 0, none⟩) 1 1 [lowB b] rfl (made_byte wr _ _ e2.out) (by omega) (by simp; omega) ?_)
          intro v1 w1 hown1 hg1 hat1
          have hb1 := below_app (hb.alloc hz _) (Nat.le_refl _) (by simp; omega) (hown.alloc _) hg1
          rw [hnx.out] at hown1
          clear hg1 hat1 hown
          go_wp2
          go_roundw
          case rel => exact ⟨k + 1, by omega, by go_num, hown1, hb1⟩
          case measure => simp [intOf]; omega
        · go_wp2_with (at_builtin; refine wp_app_bytes (.tmp 28) (.tmp 32) rfl rfl w.heap.size u3 k E rfl (hown.alloc _) _ (some ⟨wr.heap.size, 0, none⟩) 1 1 [lowB b] rfl (made_byte wr _ _ e2.out) (by omega) (by simp; omega) ?_)
          intro v1 w1 hown1 hg1 hat1
          have hb1 := below_app (hb.alloc hz _) (Nat.le_refl _) (by simp; omega) (hown.alloc _) hg1
          rw [hnx.out] at hown1
          clear hg1 hat1 hown
          go_wp2
          go_roundw
          case rel => exact ⟨k + 1, by omega, by go_num, hown1, hb1⟩
          case measure => simp [intOf]; omega
    · have e : Hid ((bl s).take k = bl s) := List.take_of_length_le (by rw [bl_len]; omega)
      rw [e.out] at hown
      obtain ⟨A, c, rfl, _⟩ := own_slice hown
      have hst := str_of_reads (c := c) (Reads.of_own hown)
      clear hown
      go_wp2
      go_ret
      exact ⟨rfl, hb⟩
set_option maxHeartbeats 1000000 in
theorem rquote_ok (s : ByteArray) (w : World) (hs : s.size ≤ 17592186044416) (hok : okL (bl s) = true) :
    Calls Tryz.prog 28 #[.string s] w fun e w' => e = .returned (.tuple #[.string ⟨(quoteL (bl s)).toArray⟩, .int .i64 0]) ∧ Below w.heap.size w w' := by
  have hce := checkE_ok hok
  have Hq : Hid (34 :: esc (bl s) ++ [34] = quoteL (bl s)) := rfl
  clear hok
  go_enter Tryz.func28, Tryz.ntmps28
  go_wp2_with (go_at_call 58; refine (rcheck_any s _ (by unfold maxLen; omega)).mono ?_; rintro e w1 ⟨rfl, hb1⟩)
  have hz1 := hb1.size
  go_loopw [6, 7] (fun v i wr => ∃ k : Nat, k ≤ s.size ∧ i = .int .i64 k ∧ wr.ownsRow w1.heap.size 5 1 v (34 :: esc ((bl s).take k)).length (Lib.byteCells (34 :: esc ((bl s).take k))) ∧ Below w1.heap.size w1 wr) (fun _ i _ => s.size - (intOf i).toNat)
  case atStart =>
    refine ⟨0, Nat.zero_le _, rfl, ?_, (Below.refl _ w1).alloc (Nat.le_refl _) _⟩
    refine ⟨by simp [Lib.byteCells, esc], .inr ⟨w1.heap.size, 1, #[.int .u8 34], by simp [esc], Nat.le_refl _, heap_alloc_new w1 _, by simp [esc], by decide, by simp, by simp [Lib.byteCells, esc]⟩⟩
  case round =>
    obtain ⟨k, hk, rfl, hown, hb⟩ := hrel
    have hz := hb.size
    have hel := esc_len ((bl s).take k)
    have htl : ((bl s).take k).length ≤ k := List.length_take_le _ _
    have hlen : (34 :: esc ((bl s).take k)).length ≤ 2 * k + 1 := by simp; omega
    by_cases hlt : k < s.size
    · have hget := bl_get hlt
      obtain ⟨b, hbk⟩ : ∃ b, s[k]'hlt = b := ⟨_, rfl⟩
      rw [hbk] at hget
      have hnx := Lib.hid (esc_next hget)
      clear hget
      have hb256 := b.toNat_lt
      have i34 := u8_is b 34 (by omega)
      have i92 := u8_is b 92 (by omega)
      rcases (by by_cases h1 : ((b.toNat : Int) == 34) = true
                 · exact .inl h1
                 · by_cases h2 : ((b.toNat : Int) == 92) = true
                   · exact .inr (.inl ⟨by simpa using h1, h2⟩)
                   · exact .inr (.inr ⟨by simpa using h1, by simpa using h2⟩) : ((b.toNat : Int) == 34) = true ∨ (((b.toNat : Int) == 34) = false ∧ ((b.toNat : Int) == 92) = true) ∨ (((b.toNat : Int) == 34) = false ∧ ((b.toNat : Int) == 92) = false)) with h34 | ⟨h34, h92⟩ | ⟨h34, h92⟩
      · have hn2 : Hid (esc ((bl s).take (k + 1)) = esc ((bl s).take k) ++ [92] ++ [b]) := by
          show _ = _
          rw [hnx.out, if_pos (.inl (i34.1 (by simpa using h34)))]; simp
        clear hnx i34 i92
        generalize hE : 34 :: esc ((bl s).take k) = E at *
        have HE := Lib.hid hE
        clear hE
        go_wp2_with (first
          | (at_builtin; refine wp_app_bytes (.tmp 33) (.tmp 34) rfl rfl w1.heap.size u6 E.length E rfl (hown.alloc _) _ (some ⟨wr.heap.size, 0, none⟩) 1 1 [92] rfl (made_byte wr _ 92 rfl) (by omega) (by simp; omega) ?_; intro v1 w2 hown1 hg1 hat1; have hb2 := below_app (hb.alloc hz _) (Nat.le_refl _) (by simp; omega) (hown.alloc _) hg1; have hz2 := hb2.size)
          | (at_builtin; refine wp_app_bytes (.tmp 36) (.tmp 40) rfl rfl w1.heap.size v1 (E.length + 1) (E ++ [92]) rfl (hown1.alloc _) _ (some ⟨w2.heap.size, 0, none⟩) 1 1 [b] rfl (made_byte w2 _ b rfl) (by omega) (by simp; omega) ?_; intro v2 w3 hown2 hg2 hat2; have hb3 := below_app (hb2.alloc hz2 _) (Nat.le_refl _) (by simp; omega) (hown1.alloc _) hg2))
        go_roundw
        case rel => exact ⟨k + 1, by omega, by go_num, by rw [hn2.out, ← List.cons_append, ← List.cons_append, HE.out]; simpa using hown2, hb3⟩
        case measure => simp [intOf]; omega
      · have hn2 : Hid (esc ((bl s).take (k + 1)) = esc ((bl s).take k) ++ [92] ++ [b]) := by
          show _ = _
          rw [hnx.out, if_pos (.inr (i92.1 (by simpa using h92)))]; simp
        clear hnx i34 i92
        generalize hE : 34 :: esc ((bl s).take k) = E at *
        have HE := Lib.hid hE
        clear hE
        go_wp2_with (first
          | (at_builtin; refine wp_app_bytes (.tmp 33) (.tmp 34) rfl rfl w1.heap.size u6 E.length E rfl (hown.alloc _) _ (some ⟨wr.heap.size, 0, none⟩) 1 1 [92] rfl (made_byte wr _ 92 rfl) (by omega) (by simp; omega) ?_; intro v1 w2 hown1 hg1 hat1; have hb2 := below_app (hb.alloc hz _) (Nat.le_refl _) (by simp; omega) (hown.alloc _) hg1; have hz2 := hb2.size)
          | (at_builtin; refine wp_app_bytes (.tmp 36) (.tmp 40) rfl rfl w1.heap.size v1 (E.length + 1) (E ++ [92]) rfl (hown1.alloc _) _ (some ⟨w2.heap.size, 0, none⟩) 1 1 [b] rfl (made_byte w2 _ b rfl) (by omega) (by simp; omega) ?_; intro v2 w3 hown2 hg2 hat2; have hb3 := below_app (hb2.alloc hz2 _) (Nat.le_refl _) (by simp; omega) (hown1.alloc _) hg2))
        go_roundw
        case rel => exact ⟨k + 1, by omega, by go_num, by rw [hn2.out, ← List.cons_append, ← List.cons_append, HE.out]; simpa using hown2, hb3⟩
        case measure => simp [intOf]; omega
      · have hn2 : Hid (esc ((bl s).take (k + 1)) = esc ((bl s).take k) ++ [b]) := by
          show _ = _
          rw [hnx.out, if_neg]
          rintro (h | h)
          · have := i34.2 h; simp [this] at h34
          · have := i92.2 h; simp [this] at h92
        clear hnx i34 i92
        generalize hE : 34 :: esc ((bl s).take k) = E at *
        have HE := Lib.hid hE
        clear hE
        go_wp2_with (at_builtin; refine wp_app_bytes (.tmp 36) (.tmp 40) rfl rfl w1.heap.size u6 E.length E rfl (hown.alloc _) _ (some ⟨wr.heap.size, 0, none⟩) 1 1 [b] rfl (made_byte wr _ b rfl) (by omega) (by simp; omega) ?_; intro v1 w2 hown1 hg1 hat1; have hb2 := below_app (hb.alloc hz _) (Nat.le_refl _) (by simp; omega) (hown.alloc _) hg1)
        go_roundw
        case rel => exact ⟨k + 1, by omega, by go_num, by rw [hn2.out, ← List.cons_append, HE.out]; simpa using hown1, hb2⟩
        case measure => simp [intOf]; omega
    · have e : Hid ((bl s).take k = bl s) := List.take_of_length_le (by rw [bl_len]; omega)
      rw [e.out] at hown hlen
      rw [List.cons_append] at Hq
      generalize hE : 34 :: esc (bl s) = E at *
      have HE := Lib.hid hE
      clear hE
      go_wp2_with (at_builtin; refine wp_app_bytes (.tmp 42) (.tmp 43) rfl rfl w1.heap.size u6 E.length E rfl (hown.alloc _) _ (some ⟨wr.heap.size, 0, none⟩) 1 1 [34] rfl (made_byte wr _ 34 rfl) (by omega) (by simp; omega) ?_)
      intro v1 w2 hown1 hg1 hat1
      have hb2 := below_app (hb.alloc hz _) (Nat.le_refl _) (by simp; omega) (hown.alloc _) hg1
      obtain ⟨A, c, e1, _⟩ := own_slice hown1
      rw [e1] at hown1 ⊢
      have hst := str_of_reads (c := c) (Reads.of_own hown1)
      clear hown1 e1 hg1 hat1
      go_wp2
      go_ret2
      refine ⟨ret_v ?_, hb1.trans (hb2.mono hz1)⟩
      rw [← Hq.out, ← List.cons_append, HE.out]; rfl
theorem rquote_bad (s : ByteArray) (w : World) (hs : s.size ≤ maxLen) (hok : okL (bl s) = false) :
    Calls Tryz.prog 28 #[.string s] w fun e w' => e = .returned (.tuple #[.string ⟨#[]⟩, .int .i64 40]) ∧ Below w.heap.size w w' := by
  have hce := checkE_bad hok
  clear hok
  go_enter Tryz.func28, Tryz.ntmps28
  go_wp2_with (go_at_call 58; refine (rcheck_any s _ hs).mono ?_; rintro e w1 ⟨rfl, hb1⟩)
  go_ret2
  exact ⟨rfl, hb1⟩
theorem inner_len (l : List UInt8) : (inner l).length = l.length - 2 := by simp [inner]; omega
theorem inner_at {l : List UInt8} {k : Nat} {b : UInt8} (h : l[k + 1]? = some b) (hk : k < (inner l).length) : (inner l)[k]? = some b := by
  rw [inner_len] at hk
  unfold inner
  rw [List.getElem?_take, if_pos hk, List.getElem?_drop, Nat.add_comm 1 k, h]
theorem drop_b {l : List UInt8} {k : Nat} {b : UInt8} (h : l[k]? = some b) : l.drop k = b :: l.drop (k + 1) := by
  obtain ⟨hk, e⟩ := List.getElem?_eq_some_iff.1 h
  rw [← e, List.getElem_cons_drop]
theorem strip_plain {l : List UInt8} {k : Nat} {b : UInt8} (h : l[k]? = some b) (hn : b ≠ 92 ∨ l.length = k + 1) : strip (l.drop k) = b :: strip (l.drop (k + 1)) := by
  rw [drop_b h]
  rcases hn with hn | hn
  · cases he : l.drop (k + 1) with
    | nil => simp [strip]
    | cons d t => rw [strip, if_neg hn]
  · rw [List.drop_eq_nil_of_le (by omega)]; simp [strip]
theorem strip_sign {l : List UInt8} {k : Nat} {b : UInt8} (h : l[k]? = some 92) (h2 : l[k + 1]? = some b) : strip (l.drop k) = b :: strip (l.drop (k + 2)) := by
  rw [drop_b h, drop_b h2, strip, if_pos rfl]
theorem bl_mk (l : List UInt8) : bl ⟨l.toArray⟩ = l := by simp [bl]
theorem tl_bl (s : ByteArray) : s.toList = bl s := by simp [bl, Lib.toList_data]
theorem size_mk (l : List UInt8) : (⟨l.toArray⟩ : ByteArray).size = l.length := by rw [← bl_len, bl_mk]
theorem rquote_ok_l (l : List UInt8) (w : World) (hs : l.length ≤ 17592186044416) (hok : okL l = true) :
    Calls Tryz.prog 28 #[.string ⟨l.toArray⟩] w fun e w' => e = .returned (.tuple #[.string ⟨(quoteL l).toArray⟩, .int .i64 0]) ∧ Below w.heap.size w w' := by
  have h := rquote_ok ⟨l.toArray⟩ w (by rw [size_mk]; exact hs) (by rw [bl_mk]; exact hok)
  rw [bl_mk] at h; exact h
theorem rquote_bad_l (l : List UInt8) (w : World) (hs : l.length ≤ 17592186044416) (hok : okL l = false) :
    Calls Tryz.prog 28 #[.string ⟨l.toArray⟩] w fun e w' => e = .returned (.tuple #[.string ⟨#[]⟩, .int .i64 40]) ∧ Below w.heap.size w w' :=
  rquote_bad ⟨l.toArray⟩ w (by rw [size_mk]; unfold maxLen; omega) (by rw [bl_mk]; exact hok)
set_option maxHeartbeats 2000000 in
theorem runquote_any (s : ByteArray) (w : World) (hs : s.size ≤ 8796093022208) :
    Calls Tryz.prog 165 #[.string s] w fun e w' => e = .returned (.tuple #[.string ⟨(unqT (bl s)).toArray⟩, .int .i64 (unqE (bl s))]) ∧ Below w.heap.size w w' := by
  by_cases hok : okL (bl s) = true
  case neg =>
    have hok' : okL (bl s) = false := by simpa using hok
    have hce := checkE_bad hok'
    have HR : Hid (unqT (bl s) = [] ∧ unqE (bl s) = 40) := ⟨by unfold unqT; rw [unq_bad hok']; rfl, by unfold unqE; simp [hok']⟩
    clear hok hok'
    go_enter Tryz.func165, Tryz.ntmps165
    go_wp2_with (go_at_call 58; refine (rcheck_any s _ (by unfold maxLen; omega)).mono ?_; rintro e w1 ⟨rfl, hb1⟩)
    go_ret2
    exact ⟨ret_v (by rw [HR.out.1, HR.out.2]; rfl), hb1⟩
  have hce := checkE_ok hok
  have HOK := Lib.hid hok
  have hil := Lib.hid (inner_len (bl s))
  have hil2 : (inner (bl s)).length ≤ s.size := by rw [hil.out, bl_len]; omega
  have hil3 : (s.size : Int) - 2 ≤ ((inner (bl s)).length : Int) := by rw [hil.out, bl_len]; omega
  have hil4 : 1 ≤ (inner (bl s)).length → ((inner (bl s)).length : Int) ≤ (s.size : Int) - 2 := by rw [hil.out, bl_len]; omega
  clear hok
  go_enter Tryz.func165, Tryz.ntmps165
  go_wp2_with (go_at_call 58; refine (rcheck_any s _ (by unfold maxLen; omega)).mono ?_; rintro e w1 ⟨rfl, hb1⟩)
  have hz1 := hb1.size
  go_loopw [6, 7] (fun v i wr => ∃ (k : Nat) (acc : List UInt8), k ≤ (inner (bl s)).length ∧ i = .int .i64 ((k : Int) + 1) ∧ Hid (strip (inner (bl s)) = acc ++ strip ((inner (bl s)).drop k)) ∧ acc.length ≤ k ∧ wr.ownsRow w1.heap.size 5 1 v acc.length (Lib.byteCells acc) ∧ Below w1.heap.size w1 wr) (fun _ i _ => s.size - (intOf i).toNat)
  case atStart => exact ⟨0, [], Nat.zero_le _, rfl, rfl, by simp, own_nil, Below.refl _ w1⟩
  case round =>
    obtain ⟨k, acc, hk, rfl, hS, hal, hown, hb⟩ := hrel
    have hz := hb.size
    by_cases hlt : k < (inner (bl s)).length
    · have h4 := hil4 (by omega)
      have hks : k + 1 < s.size := by omega
      have hki : ((k : Int) + 1).toNat = k + 1 := by omega
      have hget := bl_get hks
      obtain ⟨b, hbk⟩ : ∃ b, s[k + 1]'hks = b := ⟨_, rfl⟩
      rw [hbk] at hget
      have hin := Lib.hid (inner_at hget hlt)
      clear hget
      have i92 := Lib.hid (u8_is b 92 (by omega))
      by_cases hsg : b = 92 ∧ k + 1 < (inner (bl s)).length
      · obtain ⟨hs1, hs2⟩ := hsg
        have hks2 : k + 2 < s.size := by omega
        have hget2 := bl_get hks2
        obtain ⟨d, hdk⟩ : ∃ d, s[k + 2]'hks2 = d := ⟨_, rfl⟩
        rw [hdk] at hget2
        have hin2 := inner_at hget2 hs2
        have hS2 : Hid (strip (inner (bl s)) = acc ++ [d] ++ strip ((inner (bl s)).drop (k + 2))) := by
          show _ = _
          rw [hS.out, strip_sign (by rw [hin.out, hs1]) hin2]; simp
        have hb92 : ((b.toNat : Int) == 92) = true := by rw [beq_iff_eq]; exact i92.out.2 hs1
        have ht2 : (k : Int) + 1 + 1 < (s.size : Int) - 1 := by omega
        have hki2 : ((k : Int) + 1 + 1).toNat = k + 2 := by omega
        clear hget2 hin2 hs1
        go_wp2_with (at_builtin; refine wp_app_bytes (.tmp 39) (.tmp 43) rfl rfl w1.heap.size u6 acc.length acc rfl (hown.alloc _) _ (some ⟨wr.heap.size, 0, none⟩) 1 1 [d] rfl (made_byte wr _ d rfl) (by omega) (by simp; omega) ?_)
        intro v1 w2 hown1 hg1 hat1
        have hb2 := below_app (hb.alloc hz _) (Nat.le_refl _) (by simp; omega) (hown.alloc _) hg1
        clear hg1 hat1 hown
        go_wp2
        go_roundw
        case rel => exact ⟨k + 2, acc ++ [d], by omega, by first | (congr 1; omega) | congr 1, hS2, by simp; omega, by simpa using hown1, hb2⟩
        case measure => simp [intOf]; omega
      · have hS2 : Hid (strip (inner (bl s)) = acc ++ [b] ++ strip ((inner (bl s)).drop (k + 1))) := by
          show _ = _
          rw [hS.out, strip_plain hin.out (by
            by_cases h : b = 92
            · right
              have : ¬ (k + 1 < (inner (bl s)).length) := fun hh => hsg ⟨h, hh⟩
              omega
            · exact .inl h)]
          simp
        rcases (by by_cases h1 : ((b.toNat : Int) == 92) = true
                   · refine .inr ⟨h1, ?_⟩
                     have h2 : b = 92 := i92.out.1 (by simpa using h1)
                     have : ¬ (k + 1 < (inner (bl s)).length) := fun hh => hsg ⟨h2, hh⟩
                     omega
                   · exact .inl (by simpa using h1) : ((b.toNat : Int) == 92) = false ∨ (((b.toNat : Int) == 92) = true ∧ ¬ ((k : Int) + 1 + 1 < (s.size : Int) - 1))) with hb92 | ⟨hb92, ht2⟩
        all_goals
          clear hsg
          go_wp2_with (at_builtin; refine wp_app_bytes (.tmp 39) (.tmp 43) rfl rfl w1.heap.size u6 acc.length acc rfl (hown.alloc _) _ (some ⟨wr.heap.size, 0, none⟩) 1 1 [b] rfl (made_byte wr _ b rfl) (by omega) (by simp; omega) ?_)
          intro v1 w2 hown1 hg1 hat1
          have hb2 := below_app (hb.alloc hz _) (Nat.le_refl _) (by simp; omega) (hown.alloc _) hg1
          clear hg1 hat1 hown
          go_wp2
          go_roundw
          case rel => exact ⟨k + 1, acc ++ [b], by omega, by congr 1, hS2, by simp; omega, by simpa using hown1, hb2⟩
          case measure => simp [intOf]; omega
    · have hS2 : Hid (strip (inner (bl s)) = acc) := by
        show _ = _
        rw [hS.out, List.drop_eq_nil_of_le (by omega)]; simp [strip]
      have hend : ¬ ((k : Int) + 1 < (s.size : Int) - 1) := by omega
      have hal2 : acc.length ≤ s.size := by omega
      obtain ⟨A, c, rfl, _⟩ := own_slice hown
      have hst := fun c => str_of_reads (c := c) (Reads.of_own hown)
      have HRD := Lib.hid (Reads.of_own hown)
      have HREF := Lib.hid (unqRef_eq HOK.out)
      by_cases hoa : okL acc = true
      · by_cases hqe : quoteL acc = bl s
        · have HV : Hid (unqV (bl s) = some acc) := by
            show _ = _
            rw [← HREF.out]; unfold unqRef; rw [hS2.out, if_pos ⟨hoa, hqe⟩]
          have HR := Lib.hid (unq_yes HOK.out HV.out)
          have hcmp : (quoteL acc == s.toList) = true := by rw [tl_bl, hqe]; simp
          clear hqe hown
          have HOA := Lib.hid hoa
          clear hoa
          go_wp2_with fail
          refine (rquote_ok_l acc _ (by omega) HOA.out).mono ?_
          rintro e w2 ⟨rfl, hb2⟩
          have hst2 := fun c => str_of_reads (c := c) (HRD.out.below hb2)
          go_wp2
          go_ret2
          exact ⟨ret_v (by rw [HR.out.1, HR.out.2]; rfl), hb1.trans ((hb.trans (hb2.mono hz)).mono hz1)⟩
        · have HV : Hid (unqV (bl s) = none) := by
            show _ = _
            rw [← HREF.out]; unfold unqRef; rw [hS2.out, if_neg (fun hh => hqe hh.2)]
          have HR := Lib.hid (unq_none HOK.out HV.out)
          have hcmp : (quoteL acc == s.toList) = false := by rw [tl_bl]; simpa using hqe
          clear hqe hown
          have HOA := Lib.hid hoa
          clear hoa
          go_wp2_with fail
          refine (rquote_ok_l acc _ (by omega) HOA.out).mono ?_
          rintro e w2 ⟨rfl, hb2⟩
          go_wp2
          go_ret2
          exact ⟨ret_v (by rw [HR.out.1, HR.out.2]; rfl), hb1.trans ((hb.trans (hb2.mono hz)).mono hz1)⟩
      · have hoa' : okL acc = false := by simpa using hoa
        have HV : Hid (unqV (bl s) = none) := by
          show _ = _
          rw [← HREF.out]; unfold unqRef; rw [hS2.out, if_neg (fun hh => hoa hh.1)]
        have HR := Lib.hid (unq_none HOK.out HV.out)
        clear hown hoa
        have HOA := Lib.hid hoa'
        clear hoa'
        go_wp2_with fail
        refine (rquote_bad_l acc _ (by omega) HOA.out).mono ?_
        rintro e w2 ⟨rfl, hb2⟩
        go_wp2
        go_ret2
        exact ⟨ret_v (by rw [HR.out.1, HR.out.2]; rfl), hb1.trans ((hb.trans (hb2.mono hz)).mono hz1)⟩
end Go.Proofs.YtjmhaoplablmnaaGreatDoor
