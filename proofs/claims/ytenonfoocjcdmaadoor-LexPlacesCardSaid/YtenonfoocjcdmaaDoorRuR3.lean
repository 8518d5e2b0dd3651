/- Contracts of the reference of layer 4 (runes): unquoting. -/
import Derived.Test.YtenonfoocjcdmaaDoorRuR2
namespace Go.Proofs.YtenonfoocjcdmaaDoor
set_option linter.unusedVariables false
open Go.RowKit

theorem inner_len (l : List UInt8) : (inner l).length = l.length - 2 := by simp [inner]; omega
theorem inner_at {l : List UInt8} {k : Nat} {b : UInt8} (h : l[k + 1]? = some b) (hk : k < (inner l).length) : (inner l)[k]? = some b := by
  rw [inner_len] at hk
  unfold inner
  rw [List.getElem?_take, if_pos hk, List.getElem?_drop, Nat.add_comm 1 k, h]
theorem drop_b {l : List UInt8} {k : Nat} {b : UInt8} (h : l[k]? = some b) : l.drop k = b :: l.drop (k + 1) := by
  obtain ⟨hk, e⟩ := List.getElem?_eq_some_iff.1 h
  rw [← e, List.getElem_cons_drop]
theorem strip_plain {l : List UInt8} {k : Nat} {b : UInt8} (h : l[k]? = some b) (hn : b ≠ 92 ∨ l.length = k + 1) : strip (l.drop k) = b :: strip (l.drop (k + 1)) := by
  rw [drop_b h]
  rcases hn with hn | hn
  · cases he : l.drop (k + 1) with
    | nil => simp [strip]
    | cons d t => rw [strip, if_neg hn]
  · rw [List.drop_eq_nil_of_le (by omega)]; simp [strip]
theorem strip_sign {l : List UInt8} {k : Nat} {b : UInt8} (h : l[k]? = some 92) (h2 : l[k + 1]? = some b) : strip (l.drop k) = b :: strip (l.drop (k + 2)) := by
  rw [drop_b h, drop_b h2, strip, if_pos rfl]
theorem bl_mk (l : List UInt8) : bl ⟨l.toArray⟩ = l := by simp [bl]
theorem tl_bl (s : ByteArray) : s.toList = bl s := by simp [bl, Lib.toList_data]

theorem size_mk (l : List UInt8) : (⟨l.toArray⟩ : ByteArray).size = l.length := by rw [← bl_len, bl_mk]
theorem rquote_ok_l (l : List UInt8) (w : World) (hs : l.length ≤ 17592186044416) (hok : okL l = true) :
    Calls Tryd.prog 82 #[.string ⟨l.toArray⟩] w fun e w' => e = .returned (.tuple #[.string ⟨(quoteL l).toArray⟩, .int .i64 0]) ∧ Below w.heap.size w w' := by
  have h := rquote_ok ⟨l.toArray⟩ w (by rw [size_mk]; exact hs) (by rw [bl_mk]; exact hok)
  rw [bl_mk] at h; exact h
theorem rquote_bad_l (l : List UInt8) (w : World) (hs : l.length ≤ 17592186044416) (hok : okL l = false) :
    Calls Tryd.prog 82 #[.string ⟨l.toArray⟩] w fun e w' => e = .returned (.tuple #[.string ⟨#[]⟩, .int .i64 40]) ∧ Below w.heap.size w w' :=
  rquote_bad ⟨l.toArray⟩ w (by rw [size_mk]; unfold maxLen; omega) (by rw [bl_mk]; exact hok)

set_option maxRecDepth 100000 in
set_option maxHeartbeats 2000000 in
theorem runquote_any (s : ByteArray) (w : World) (hs : s.size ≤ 8796093022208) :
    Calls Tryd.prog 100 #[.string s] w fun e w' => e = .returned (.tuple #[.string ⟨(unqT (bl s)).toArray⟩, .int .i64 (unqE (bl s))]) ∧ Below w.heap.size w w' := by
  by_cases hok : okL (bl s) = true
  case neg =>
    have hok' : okL (bl s) = false := by simpa using hok
    have hce := checkE_bad hok'
    have HR : Hid (unqT (bl s) = [] ∧ unqE (bl s) = 40) := ⟨by unfold unqT; rw [unq_bad hok']; rfl, by unfold unqE; simp [hok']⟩
    clear hok hok'
    go_enter Tryd.func100, Tryd.ntmps100
    go_wp2_with (go_at_call 104; refine (rcheck_any s _ (by unfold maxLen; omega)).mono ?_; rintro e w1 ⟨rfl, hb1⟩)
    go_ret2
    exact ⟨ret_v (by rw [HR.out.1, HR.out.2]; rfl), hb1⟩
  have hce := checkE_ok hok
  have HOK := Lib.hid hok
  have hil := Lib.hid (inner_len (bl s))
  have hil2 : (inner (bl s)).length ≤ s.size := by rw [hil.out, bl_len]; omega
  have hil3 : (s.size : Int) - 2 ≤ ((inner (bl s)).length : Int) := by rw [hil.out, bl_len]; omega
  have hil4 : 1 ≤ (inner (bl s)).length → ((inner (bl s)).length : Int) ≤ (s.size : Int) - 2 := by rw [hil.out, bl_len]; omega
  clear hok
  go_enter Tryd.func100, Tryd.ntmps100
  go_wp2_with (go_at_call 104; refine (rcheck_any s _ (by unfold maxLen; omega)).mono ?_; rintro e w1 ⟨rfl, hb1⟩)
  have hz1 := hb1.size
  go_loopw [6, 7] (fun v i wr => ∃ (k : Nat) (acc : List UInt8), k ≤ (inner (bl s)).length ∧ i = .int .i64 ((k : Int) + 1) ∧ Hid (strip (inner (bl s)) = acc ++ strip ((inner (bl s)).drop k)) ∧ acc.length ≤ k ∧ wr.ownsRow w1.heap.size 5 1 v acc.length (Lib.byteCells acc) ∧ Below w1.heap.size w1 wr) (fun _ i _ => s.size - (intOf i).toNat)
  case atStart => exact ⟨0, [], Nat.zero_le _, rfl, rfl, by simp, own_nil, Below.refl _ w1⟩
  case round =>
    obtain ⟨k, acc, hk, rfl, hS, hal, hown, hb⟩ := hrel
    have hz := hb.size
    by_cases hlt : k < (inner (bl s)).length
    · have h4 := hil4 (by omega)
      have hks : k + 1 < s.size := by omega
      have hki : ((k : Int) + 1).toNat = k + 1 := by omega
      have hget := bl_get hks
      obtain ⟨b, hbk⟩ : ∃ b, s[k + 1]'hks = b := ⟨_, rfl⟩
      rw [hbk] at hget
      have hin := Lib.hid (inner_at hget hlt)
      clear hget
      have i92 := Lib.hid (u8_is b 92 (by omega))
      by_cases hsg : b = 92 ∧ k + 1 < (inner (bl s)).length
      · obtain ⟨hs1, hs2⟩ := hsg
        have hks2 : k + 2 < s.size := by omega
        have hget2 := bl_get hks2
        obtain ⟨d, hdk⟩ : ∃ d, s[k + 2]'hks2 = d := ⟨_, rfl⟩
        rw [hdk] at hget2
        have hin2 := inner_at hget2 hs2
        have hS2 : Hid (strip (inner (bl s)) = acc ++ [d] ++ strip ((inner (bl s)).drop (k + 2))) := by
          show _ = _
          rw [hS.out, strip_sign (by rw [hin.out, hs1]) hin2]; simp
        have hb92 : ((b.toNat : Int) == 92) = true := by rw [beq_iff_eq]; exact i92.out.2 hs1
        have ht2 : (k : Int) + 1 + 1 < (s.size : Int) - 1 := by omega
        have hki2 : ((k : Int) + 1 + 1).toNat = k + 2 := by omega
        clear hget2 hin2 hs1
        go_wp2_with (at_builtin; refine wp_app_bytes (.tmp 39) (.tmp 43) rfl rfl w1.heap.size u6 acc.length acc rfl (hown.alloc _) _ (some ⟨wr.heap.size, 0, none⟩) 1 1 [d] rfl (made_byte wr _ d rfl) (by omega) (by simp; omega) ?_)
        intro v1 w2 hown1 hg1 hat1
        have hb2 := below_app (hb.alloc hz _) (Nat.le_refl _) (by simp; omega) (hown.alloc _) hg1
        clear hg1 hat1 hown
        go_wp2
        go_roundw
        case rel => exact ⟨k + 2, acc ++ [d], by omega, by first | (congr 1; omega) | congr 1, hS2, by simp; omega, by simpa using hown1, hb2⟩
        case measure => simp [intOf]; omega
      · have hS2 : Hid (strip (inner (bl s)) = acc ++ [b] ++ strip ((inner (bl s)).drop (k + 1))) := by
          show _ = _
          rw [hS.out, strip_plain hin.out (by
            by_cases h : b = 92
            · right
              have : ¬ (k + 1 < (inner (bl s)).length) := fun hh => hsg ⟨h, hh⟩
              omega
            · exact .inl h)]
          simp
        rcases (by by_cases h1 : ((b.toNat : Int) == 92) = true
                   · refine .inr ⟨h1, ?_⟩
                     have h2 : b = 92 := i92.out.1 (by simpa using h1)
                     have : ¬ (k + 1 < (inner (bl s)).length) := fun hh => hsg ⟨h2, hh⟩
                     omega
                   · exact .inl (by simpa using h1) : ((b.toNat : Int) == 92) = false ∨ (((b.toNat : Int) == 92) = true ∧ ¬ ((k : Int) + 1 + 1 < (s.size : Int) - 1))) with hb92 | ⟨hb92, ht2⟩
        all_goals
          clear hsg
          go_wp2_with (at_builtin; refine wp_app_bytes (.tmp 39) (.tmp 43) rfl rfl w1.heap.size u6 acc.length acc rfl (hown.alloc _) _ (some ⟨wr.heap.size, 0, none⟩) 1 1 [b] rfl (made_byte wr _ b rfl) (by omega) (by simp; omega) ?_)
          intro v1 w2 hown1 hg1 hat1
          have hb2 := below_app (hb.alloc hz _) (Nat.le_refl _) (by simp; omega) (hown.alloc _) hg1
          clear hg1 hat1 hown
          go_wp2
          go_roundw
          case rel => exact ⟨k + 1, acc ++ [b], by omega, by congr 1, hS2, by simp; omega, by simpa using hown1, hb2⟩
          case measure => simp [intOf]; omega
    · have hS2 : Hid (strip (inner (bl s)) = acc) := by
        show _ = _
        rw [hS.out, List.drop_eq_nil_of_le (by omega)]; simp [strip]
      have hend : ¬ ((k : Int) + 1 < (s.size : Int) - 1) := by omega
      have hal2 : acc.length ≤ s.size := by omega
      obtain ⟨A, c, rfl, _⟩ := own_slice hown
      have hst := fun c => str_of_reads (c := c) (Reads.of_own hown)
      have HRD := Lib.hid (Reads.of_own hown)
      have HREF := Lib.hid (unqRef_eq HOK.out)
      by_cases hoa : okL acc = true
      · by_cases hqe : quoteL acc = bl s
        · have HV : Hid (unqV (bl s) = some acc) := by
            show _ = _
            rw [← HREF.out]; unfold unqRef; rw [hS2.out, if_pos ⟨hoa, hqe⟩]
          have HR := Lib.hid (unq_yes HOK.out HV.out)
          have hcmp : (quoteL acc == s.toList) = true := by rw [tl_bl, hqe]; simp
          clear hqe hown
          have HOA := Lib.hid hoa
          clear hoa
          go_wp2_with fail
          refine (rquote_ok_l acc _ (by omega) HOA.out).mono ?_
          rintro e w2 ⟨rfl, hb2⟩
          have hst2 := fun c => str_of_reads (c := c) (HRD.out.below hb2)
          go_wp2
          go_ret2
          exact ⟨ret_v (by rw [HR.out.1, HR.out.2]; rfl), hb1.trans ((hb.trans (hb2.mono hz)).mono hz1)⟩
        · have HV : Hid (unqV (bl s) = none) := by
            show _ = _
            rw [← HREF.out]; unfold unqRef; rw [hS2.out, if_neg (fun hh => hqe hh.2)]
          have HR := Lib.hid (unq_none HOK.out HV.out)
          have hcmp : (quoteL acc == s.toList) = false := by rw [tl_bl]; simpa using hqe
          clear hqe hown
          have HOA := Lib.hid hoa
          clear hoa
          go_wp2_with fail
          refine (rquote_ok_l acc _ (by omega) HOA.out).mono ?_
          rintro e w2 ⟨rfl, hb2⟩
          go_wp2
          go_ret2
          exact ⟨ret_v (by rw [HR.out.1, HR.out.2]; rfl), hb1.trans ((hb.trans (hb2.mono hz)).mono hz1)⟩
      · have hoa' : okL acc = false := by simpa using hoa
        have HV : Hid (unqV (bl s) = none) := by
          show _ = _
          rw [← HREF.out]; unfold unqRef; rw [hS2.out, if_neg (fun hh => hoa hh.1)]
        have HR := Lib.hid (unq_none HOK.out HV.out)
        clear hown hoa
        have HOA := Lib.hid hoa'
        clear hoa'
        go_wp2_with fail
        refine (rquote_bad_l acc _ (by omega) HOA.out).mono ?_
        rintro e w2 ⟨rfl, hb2⟩
        go_wp2
        go_ret2
        exact ⟨ret_v (by rw [HR.out.1, HR.out.2]; rfl), hb1.trans ((hb.trans (hb2.mono hz)).mono hz1)⟩
end Go.Proofs.YtenonfoocjcdmaaDoor
