/- Contracts of the reference of layer 4 (runes): small letters, quoting, unquoting. -/
import Derived.Test.YtenonfoocjcdmaaDoorRuR
namespace Go.Proofs.YtenonfoocjcdmaaDoor
set_option linter.unusedVariables false
open Go.RowKit

theorem take_map_next {l : List UInt8} {k : Nat} {b : UInt8} (h : l[k]? = some b) : (l.take k).map lowB ++ [lowB b] = (l.take (k + 1)).map lowB := by
  rw [List.take_add_one, h]; simp
theorem esc_next {l : List UInt8} {k : Nat} {b : UInt8} (h : l[k]? = some b) : esc (l.take (k + 1)) = esc (l.take k) ++ (if b = 34 ∨ b = 92 then [92, b] else [b]) := by
  rw [List.take_add_one, h, esc_append]; simp [esc]
theorem esc_len (l : List UInt8) : (esc l).length ≤ 2 * l.length := by
  induction l with
  | nil => simp [esc]
  | cons b t ih =>
    show ((if b = 34 ∨ b = 92 then [92, b] else [b]) ++ esc t).length ≤ _
    simp only [List.length_append, List.length_cons]
    split <;> simp <;> omega
theorem bl_get {s : ByteArray} {k : Nat} (h : k < s.size) : (bl s)[k]? = some (s[k]'h) := by
  rw [List.getElem?_eq_getElem (by rw [bl_len]; exact h)]; rfl

set_option maxRecDepth 100000 in
set_option maxHeartbeats 1000000 in
theorem rlower_any (s : ByteArray) (w : World) (hs : s.size ≤ 17592186044416) :
    Calls Tryd.prog 75 #[.string s] w fun e w' => e = .returned (.string ⟨((bl s).map lowB).toArray⟩) ∧ Below w.heap.size w w' := by
  go_enter Tryd.func75, Tryd.ntmps75
  go_wp2
  go_loopw [3, 4] (fun v i wr => ∃ k : Nat, k ≤ s.size ∧ i = .int .i64 k ∧ wr.ownsRow w.heap.size 5 1 v k (Lib.byteCells (((bl s).take k).map lowB)) ∧ Below w.heap.size w wr) (fun _ i _ => s.size - (intOf i).toNat)
  case atStart => exact ⟨0, Nat.zero_le _, rfl, own_nil, Below.refl _ w⟩
  case round =>
    obtain ⟨k, hk, rfl, hown, hb⟩ := hrel
    have hz := hb.size
    by_cases hlt : k < s.size
    · have hget := bl_get hlt
      obtain ⟨b, hbk⟩ : ∃ b, s[k]'hlt = b := ⟨_, rfl⟩
      rw [hbk] at hget
      have hnx := Lib.hid (take_map_next hget)
      clear hget
      generalize hE : ((bl s).take k).map lowB = E at hown hnx
      clear hE
      have hb256 := b.toNat_lt
      by_cases hup : 65 ≤ b.toNat ∧ b.toNat ≤ 90
      · obtain ⟨hu1, hu2⟩ := hup
        have e2 : Hid (((lowB b).toNat : Int) = (b.toNat : Int) + 32) := by show _ = _; rw [lowB_up hu1 hu2]; omega
        have hu3 : (64 : Int) < (b.toNat : Int) := by omega
        have hu4 : (b.toNat : Int) < 91 := by omega
        go_wp2_with (at_builtin; refine wp_app_bytes (.tmp 21) (.tmp 26) rfl rfl w.heap.size u3 k E rfl (hown.alloc _) _ (some ⟨wr.heap.size, 0, none⟩) 1 1 [lowB b] rfl (made_byte wr _ _ e2.out) (by omega) (by simp; omega) ?_)
        intro v1 w1 hown1 hg1 hat1
        have hb1 := below_app (hb.alloc hz _) (Nat.le_refl _) (by simp; omega) (hown.alloc _) hg1
        rw [hnx.out] at hown1
        clear hg1 hat1 hown
        go_wp2
        go_roundw
        case rel => exact ⟨k + 1, by omega, by go_num, hown1, hb1⟩
        case measure => simp [intOf]; omega
      · have e2 : Hid (((lowB b).toNat : Int) = (b.toNat : Int)) := by show _ = _; rw [lowB_same hup]
        by_cases hu3 : (64 : Int) < (b.toNat : Int)
        · have hu4 : (91 : Int) ≤ (b.toNat : Int) := by omega
          go_wp2_with (at_builtin; refine wp_app_bytes (.tmp 28) (.tmp 32) rfl rfl w.heap.size u3 k E rfl (hown.alloc _) _ (some ⟨wr.heap.size, 0, none⟩) 1 1 [lowB b] rfl (made_byte wr _ _ e2.out) (by omega) (by simp; omega) ?_)
          intro v1 w1 hown1 hg1 hat1
          have hb1 := below_app (hb.alloc hz _) (Nat.le_refl _) (by simp; omega) (hown.alloc _) hg1
          rw [hnx.out] at hown1
          clear hg1 hat1 hown
          go_wp2
          go_roundw
          case rel => exact ⟨k + 1, by omega, by go_num, hown1, hb1⟩
          case measure => simp [intOf]; omega
        · go_wp2_with (at_builtin; refine wp_app_bytes (.tmp 28) (.tmp 32) rfl rfl w.heap.size u3 k E rfl (hown.alloc _) _ (some ⟨wr.heap.size, 0, none⟩) 1 1 [lowB b] rfl (made_byte wr _ _ e2.out) (by omega) (by simp; omega) ?_)
          intro v1 w1 hown1 hg1 hat1
          have hb1 := below_app (hb.alloc hz _) (Nat.le_refl _) (by simp; omega) (hown.alloc _) hg1
          rw [hnx.out] at hown1
          clear hg1 hat1 hown
          go_wp2
          go_roundw
          case rel => exact ⟨k + 1, by omega, by go_num, hown1, hb1⟩
          case measure => simp [intOf]; omega
    · have e : Hid ((bl s).take k = bl s) := List.take_of_length_le (by rw [bl_len]; omega)
      rw [e.out] at hown
      obtain ⟨A, c, rfl, _⟩ := own_slice hown
      have hst := str_of_reads (c := c) (Reads.of_own hown)
      clear hown
      go_wp2
      go_ret
      exact ⟨rfl, hb⟩

set_option maxRecDepth 100000 in
set_option maxHeartbeats 1000000 in
theorem rquote_ok (s : ByteArray) (w : World) (hs : s.size ≤ 17592186044416) (hok : okL (bl s) = true) :
    Calls Tryd.prog 82 #[.string s] w fun e w' => e = .returned (.tuple #[.string ⟨(quoteL (bl s)).toArray⟩, .int .i64 0]) ∧ Below w.heap.size w w' := by
  have hce := checkE_ok hok
  have Hq : Hid (34 :: esc (bl s) ++ [34] = quoteL (bl s)) := rfl
  clear hok
  go_enter Tryd.func82, Tryd.ntmps82
  go_wp2_with (go_at_call 104; refine (rcheck_any s _ (by unfold maxLen; omega)).mono ?_; rintro e w1 ⟨rfl, hb1⟩)
  have hz1 := hb1.size
  go_loopw [6, 7] (fun v i wr => ∃ k : Nat, k ≤ s.size ∧ i = .int .i64 k ∧ wr.ownsRow w1.heap.size 5 1 v (34 :: esc ((bl s).take k)).length (Lib.byteCells (34 :: esc ((bl s).take k))) ∧ Below w1.heap.size w1 wr) (fun _ i _ => s.size - (intOf i).toNat)
  case atStart =>
    refine ⟨0, Nat.zero_le _, rfl, ?_, (Below.refl _ w1).alloc (Nat.le_refl _) _⟩
    refine ⟨by simp [Lib.byteCells, esc], .inr ⟨w1.heap.size, 1, #[.int .u8 34], by simp [esc], Nat.le_refl _, heap_alloc_new w1 _, by simp [esc], by decide, by simp, by simp [Lib.byteCells, esc]⟩⟩
  case round =>
    obtain ⟨k, hk, rfl, hown, hb⟩ := hrel
    have hz := hb.size
    have hel := esc_len ((bl s).take k)
    have htl : ((bl s).take k).length ≤ k := List.length_take_le _ _
    have hlen : (34 :: esc ((bl s).take k)).length ≤ 2 * k + 1 := by simp; omega
    by_cases hlt : k < s.size
    · have hget := bl_get hlt
      obtain ⟨b, hbk⟩ : ∃ b, s[k]'hlt = b := ⟨_, rfl⟩
      rw [hbk] at hget
      have hnx := Lib.hid (esc_next hget)
      clear hget
      have hb256 := b.toNat_lt
      have i34 := u8_is b 34 (by omega)
      have i92 := u8_is b 92 (by omega)
      rcases (by by_cases h1 : ((b.toNat : Int) == 34) = true
                 · exact .inl h1
                 · by_cases h2 : ((b.toNat : Int) == 92) = true
                   · exact .inr (.inl ⟨by simpa using h1, h2⟩)
                   · exact .inr (.inr ⟨by simpa using h1, by simpa using h2⟩) : ((b.toNat : Int) == 34) = true ∨ (((b.toNat : Int) == 34) = false ∧ ((b.toNat : Int) == 92) = true) ∨ (((b.toNat : Int) == 34) = false ∧ ((b.toNat : Int) == 92) = false)) with h34 | ⟨h34, h92⟩ | ⟨h34, h92⟩
      · have hn2 : Hid (esc ((bl s).take (k + 1)) = esc ((bl s).take k) ++ [92] ++ [b]) := by
          show _ = _
          rw [hnx.out, if_pos (.inl (i34.1 (by simpa using h34)))]; simp
        clear hnx i34 i92
        generalize hE : 34 :: esc ((bl s).take k) = E at *
        have HE := Lib.hid hE
        clear hE
        go_wp2_with (first
          | (at_builtin; refine wp_app_bytes (.tmp 33) (.tmp 34) rfl rfl w1.heap.size u6 E.length E rfl (hown.alloc _) _ (some ⟨wr.heap.size, 0, none⟩) 1 1 [92] rfl (made_byte wr _ 92 rfl) (by omega) (by simp; omega) ?_; intro v1 w2 hown1 hg1 hat1; have hb2 := below_app (hb.alloc hz _) (Nat.le_refl _) (by simp; omega) (hown.alloc _) hg1; have hz2 := hb2.size)
          | (at_builtin; refine wp_app_bytes (.tmp 36) (.tmp 40) rfl rfl w1.heap.size v1 (E.length + 1) (E ++ [92]) rfl (hown1.alloc _) _ (some ⟨w2.heap.size, 0, none⟩) 1 1 [b] rfl (made_byte w2 _ b rfl) (by omega) (by simp; omega) ?_; intro v2 w3 hown2 hg2 hat2; have hb3 := below_app (hb2.alloc hz2 _) (Nat.le_refl _) (by simp; omega) (hown1.alloc _) hg2))
        go_roundw
        case rel => exact ⟨k + 1, by omega, by go_num, by rw [hn2.out, ← List.cons_append, ← List.cons_append, HE.out]; simpa using hown2, hb3⟩
        case measure => simp [intOf]; omega
      · have hn2 : Hid (esc ((bl s).take (k + 1)) = esc ((bl s).take k) ++ [92] ++ [b]) := by
          show _ = _
          rw [hnx.out, if_pos (.inr (i92.1 (by simpa using h92)))]; simp
        clear hnx i34 i92
        generalize hE : 34 :: esc ((bl s).take k) = E at *
        have HE := Lib.hid hE
        clear hE
        go_wp2_with (first
          | (at_builtin; refine wp_app_bytes (.tmp 33) (.tmp 34) rfl rfl w1.heap.size u6 E.length E rfl (hown.alloc _) _ (some ⟨wr.heap.size, 0, none⟩) 1 1 [92] rfl (made_byte wr _ 92 rfl) (by omega) (by simp; omega) ?_; intro v1 w2 hown1 hg1 hat1; have hb2 := below_app (hb.alloc hz _) (Nat.le_refl _) (by simp; omega) (hown.alloc _) hg1; have hz2 := hb2.size)
          | (at_builtin; refine wp_app_bytes (.tmp 36) (.tmp 40) rfl rfl w1.heap.size v1 (E.length + 1) (E ++ [92]) rfl (hown1.alloc _) _ (some ⟨w2.heap.size, 0, none⟩) 1 1 [b] rfl (made_byte w2 _ b rfl) (by omega) (by simp; omega) ?_; intro v2 w3 hown2 hg2 hat2; have hb3 := below_app (hb2.alloc hz2 _) (Nat.le_refl _) (by simp; omega) (hown1.alloc _) hg2))
        go_roundw
        case rel => exact ⟨k + 1, by omega, by go_num, by rw [hn2.out, ← List.cons_append, ← List.cons_append, HE.out]; simpa using hown2, hb3⟩
        case measure => simp [intOf]; omega
      · have hn2 : Hid (esc ((bl s).take (k + 1)) = esc ((bl s).take k) ++ [b]) := by
          show _ = _
          rw [hnx.out, if_neg]
          rintro (h | h)
          · have := i34.2 h; simp [this] at h34
          · have := i92.2 h; simp [this] at h92
        clear hnx i34 i92
        generalize hE : 34 :: esc ((bl s).take k) = E at *
        have HE := Lib.hid hE
        clear hE
        go_wp2_with (at_builtin; refine wp_app_bytes (.tmp 36) (.tmp 40) rfl rfl w1.heap.size u6 E.length E rfl (hown.alloc _) _ (some ⟨wr.heap.size, 0, none⟩) 1 1 [b] rfl (made_byte wr _ b rfl) (by omega) (by simp; omega) ?_; intro v1 w2 hown1 hg1 hat1; have hb2 := below_app (hb.alloc hz _) (Nat.le_refl _) (by simp; omega) (hown.alloc _) hg1)
        go_roundw
        case rel => exact ⟨k + 1, by omega, by go_num, by rw [hn2.out, ← List.cons_append, HE.out]; simpa using hown1, hb2⟩
        case measure => simp [intOf]; omega
    · have e : Hid ((bl s).take k = bl s) := List.take_of_length_le (by rw [bl_len]; omega)
      rw [e.out] at hown hlen
      rw [List.cons_append] at Hq
      generalize hE : 34 :: esc (bl s) = E at *
      have HE := Lib.hid hE
      clear hE
      go_wp2_with (at_builtin; refine wp_app_bytes (.tmp 42) (.tmp 43) rfl rfl w1.heap.size u6 E.length E rfl (hown.alloc _) _ (some ⟨wr.heap.size, 0, none⟩) 1 1 [34] rfl (made_byte wr _ 34 rfl) (by omega) (by simp; omega) ?_)
      intro v1 w2 hown1 hg1 hat1
      have hb2 := below_app (hb.alloc hz _) (Nat.le_refl _) (by simp; omega) (hown.alloc _) hg1
      obtain ⟨A, c, e1, _⟩ := own_slice hown1
      rw [e1] at hown1 ⊢
      have hst := str_of_reads (c := c) (Reads.of_own hown1)
      clear hown1 e1 hg1 hat1
      go_wp2
      go_ret2
      refine ⟨ret_v ?_, hb1.trans (hb2.mono hz1)⟩
      rw [← Hq.out, ← List.cons_append, HE.out]; rfl
theorem rquote_bad (s : ByteArray) (w : World) (hs : s.size ≤ maxLen) (hok : okL (bl s) = false) :
    Calls Tryd.prog 82 #[.string s] w fun e w' => e = .returned (.tuple #[.string ⟨#[]⟩, .int .i64 40]) ∧ Below w.heap.size w w' := by
  have hce := checkE_bad hok
  clear hok
  go_enter Tryd.func82, Tryd.ntmps82
  go_wp2_with (go_at_call 104; refine (rcheck_any s _ hs).mono ?_; rintro e w1 ⟨rfl, hb1⟩)
  go_ret2
  exact ⟨rfl, hb1⟩
end Go.Proofs.YtenonfoocjcdmaaDoor
