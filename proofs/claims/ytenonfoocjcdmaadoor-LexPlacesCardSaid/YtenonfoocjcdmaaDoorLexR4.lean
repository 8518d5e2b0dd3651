/- Layer 5, the document's answer: a text. -/
import Derived.Test.YtenonfoocjcdmaaDoorLexR3
namespace Go.Proofs.YtenonfoocjcdmaaDoor
set_option linter.unusedVariables false
open Go.RowKit
theorem results_cell3 {P : Program} {fn : Func} {p t u v : Tmp} {ty : TypeId} (h : fn.results = #[.cell p ty, .tmp t, .tmp u, .tmp v]) (tmps : Array Value) (w : World) (g : Nat) (tt : TypeId) (cs : Array Value) (fr : Nat × Nat) (d : TypeDesc)
    (hp : tmps.getD p undef = .pointer (some ⟨g, 0, none⟩)) (hg : w.heap[g]? = some (.cells cs tt fr))
    (hu : P.underlying ty = some d) (hd : (match d with | .struct _ | .array _ _ => true | _ => false) = true) (hi : (P.info? ty).map (·.size) = some cs.size) :
    (results fn tmps).run P w = .ok (.tuple #[.agg cs, tmps.getD t undef, tmps.getD u undef, tmps.getD v undef]) w := by
  have hp' : tmps[p]?.getD undef = .pointer (some ⟨g, 0, none⟩) := by simpa using hp
  simp [results, h, hp', asAddr, run_loadVar_row w g tt ty cs fr d hg hu hd hi]
/-- what is told of a token by the document: it, and the place behind it; or a place and an error -/
def OneIs (w : World) (r : (Tk × Nat) ⊕ (Nat × Int)) (e : Ending) (w' : World) : Prop :=
  match r with
  | .inl (t, m) => e = .returned (.tuple #[tkV t, .int .i64 (m : Int), .int .i64 0, .int .i64 0]) ∧ Below w.heap.size w w'
  | .inr (a, er) => (∃ t, e = .returned (.tuple #[tkV t, .int .i64 0, .int .i64 (a : Int), .int .i64 er])) ∧ Below w.heap.size w w'
theorem bad_q {x : Nat} {q : Int} (h : classV x = q) : badR x = (q == 0) := by unfold badR; rw [h]
theorem below_tok (w : World) : Below w.heap.size w (w.alloc tok0) := (Below.refl _ w).alloc (Nat.le_refl _) _
theorem below_set4 {w w' : World} {a0 a1 a2 a3 : Value} (h : Below w.heap.size w w') : Below w.heap.size w ((((w'.setCell ⟨w.heap.size, 0, none⟩ a0).setCell ⟨w.heap.size, 1, none⟩ a1).setCell ⟨w.heap.size, 2, none⟩ a2).setCell ⟨w.heap.size, 3, none⟩ a3) :=
  (((h.setCell (p := ⟨w.heap.size, 0, none⟩) (Nat.le_refl _) _).setCell (p := ⟨w.heap.size, 1, none⟩) (Nat.le_refl _) _).setCell (p := ⟨w.heap.size, 2, none⟩) (Nat.le_refl _) _).setCell (p := ⟨w.heap.size, 3, none⟩) (Nat.le_refl _) _
set_option maxRecDepth 20000 in
set_option maxHeartbeats 2000000 in
theorem text05_any (A : Option Addr) (n c B : Nat) (rs : List Nat) (a : Nat) (w : World) (h : Reads w B 1 A n (rcs rs)) (hB : B ≤ w.heap.size) (hcap : n ≤ c) (hx : rs[a]? = some 34) (hn : n ≤ 100000) (hcm : c ≤ maxLen) :
    Calls Tryd.prog 78 #[.slice A n c, .int .i64 (a : Int)] w (OneIs w (textP rs a)) := by
  have hlen := h.rune_len
  have hal : a < n := by have := (List.getElem?_eq_some_iff.1 hx).1; omega
  obtain ⟨ad, rfl, hb, _⟩ := h.rune_at hx
  have hst := Lib.hid (st_start hx)
  have hrd := Lib.hid h
  have hle := endT_le (rs := rs) (i := a) (by omega)
  have hP : True := trivial
  clear h hx
  go_enter Tryd.func78, Tryd.ntmps78
  go_wp2_with fail
  go_loopw [8] (fun v wr => ∃ i : Nat, v = .int .i64 (i : Int) ∧ a < i ∧ wr = w.alloc tok0 ∧ (St rs a i ∨ (i = n + 1 ∧ endT rs a = n))) (fun v _ => n + 1 - (intOf v).toNat)
  case atStart => exact ⟨a + 1, by simp, by omega, rfl, .inl hst.out⟩
  case round =>
    obtain ⟨i, rfl, hai, hwr, hcase⟩ := hrel
    have hz : wr.heap.size = w.heap.size + 1 := by rw [hwr]; simp
    have hbl : Below w.heap.size w wr := by rw [hwr]; exact below_tok w
    have ht : wr.heap[w.heap.size]? = some tok0 := by rw [hwr]; exact heap_alloc_new w tok0
    have hrd2 := Lib.hid (hrd.out.below (hbl.mono hB))
    obtain ⟨e3f, e30, e31, e32, e33⟩ := row4 ht
    replace hz := Lib.hid hz
    replace hbl := Lib.hid hbl
    have hwr2 := Lib.hid hwr
    clear hwr
    rcases hcase with hS | ⟨rfl, hend⟩
    case inr =>
      have t1 : decide ((n : Int) + 1 < (n : Int)) = false := by simp; omega
      have t2 : (n : Int) ≤ (n : Int) + 1 := by omega
      have hP2 : Hid (textP rs a = .inr (a, 50)) := by show _ = _; unfold textP; rw [if_pos (by omega)]
      go_wp2
      (try simp only [Exit.inBlock, Exit.then])
      refine bodyPost_ret (results_cell3 rfl _ _ w.heap.size _ _ _ _ rfl (set4_blk ht) Tryd.underlying42 rfl (by kernel_rfl)) rfl ?_
      rw [hP2.out]
      exact ⟨⟨⟨_, _, _, _⟩, rfl⟩, below_set4 hbl.out⟩
    case inl =>
      have hin : i ≤ n := by have := hS.2.1; omega
      by_cases hlt : i < n
      · obtain ⟨y, hy⟩ : ∃ y, Hid (rs[i]? = some y) := ⟨_, List.getElem?_eq_getElem (by omega)⟩
        obtain ⟨ad2, e, _, hc1⟩ := hrd2.out.rune_at hy.out
        injection e with e
        subst e
        have ti : (i : Int) < (n : Int) := by omega
        obtain ⟨q, hq⟩ : ∃ q, Hid (classV y = q) := ⟨_, rfl⟩
        have hbq := Lib.hid (bad_q hq.out)
        by_cases h34 : y = 34
        · have hy34 : Hid (rs[i]? = some 34) := by rw [← h34]; exact hy
          have hE := Lib.hid (st_quote hS hy34.out)
          have t34 : ((y : Int) != 34) = false := by simp; omega
          have tge : decide ((n : Int) ≤ (i : Int)) = false := by simp; omega
          obtain ⟨A', c', s1, s2, hc', s3⟩ := cut_runes hrd2.out hcap (i := a) (j := i + 1) (by omega) (by omega)
          have s4 := (s3 wr (fun _ _ => rfl)).2
          have hok := ok_flat (cut_good (i := a) (by rw [hE.out]; exact hy34.out) rfl)
          rw [← bl_strR, hE.out] at hok
          have hcl := strR_small (cutR rs a (i + 1))
          have hcl2 := cutR_le rs a (i + 1)
          have hP3 : Hid (textP rs a = if (unqV (bl (strR (cutR rs a (i + 1))))).isSome then .inl (⟨4, ⟨(unqT (bl (strR (cutR rs a (i + 1))))).toArray⟩, 0, a⟩, i + 1) else .inr (a, 50)) := by
            show _ = _
            unfold textP; rw [hE.out, if_neg (by omega), if_neg (by rw [getD_of hy34.out]; omega)]
          obtain ⟨s, hs⟩ : ∃ s, Hid (strR (cutR rs a (i + 1)) = s) := ⟨_, rfl⟩
          rw [hs.out] at s4 hok hcl hP3
          have hu : Hid (∀ v : World, Calls Tryd.prog 100 #[.string s] v fun e v' => e = .returned (.tuple #[.string ⟨(unqT (bl s)).toArray⟩, .int .i64 (unqE (bl s))]) ∧ Below v.heap.size v v') := fun v => runquote_any s v (by omega)
          obtain ⟨u, hu1⟩ : ∃ u, Hid (unqT (bl s) = u) := ⟨_, rfl⟩
          rw [show ((i + 1 : Nat) : Int) = (i : Int) + 1 by omega] at s1 s2
          clear s3 hS hE h34
          cases hv : unqV (bl s) with
          | some z =>
            have hEE := (unq_yes hok hv).2
            rw [hu1.out, hEE] at hu
            have hP4 : Hid (textP rs a = .inl (⟨4, ⟨u.toArray⟩, 0, a⟩, i + 1)) := by show _ = _; rw [hP3.out, hv, hu1.out]; rfl
            clear hP3 hv hok hP hEE
            go_wp2_with (go_at_call 100; refine (hu.out _).mono ?_; rintro e w3 ⟨rfl, hb3⟩; have e3 : w3.heap[w.heap.size]? = some tok0 := (hb3.block _ (by rw [hz.out]; omega)).trans ht; obtain ⟨g3f, g30, g31, g32, g33⟩ := row4 e3)
            (try simp only [Exit.inBlock, Exit.then])
            refine bodyPost_ret (results_cell3 rfl _ _ w.heap.size _ _ _ _ rfl (set4_blk e3) Tryd.underlying42 rfl (by kernel_rfl)) rfl ?_
            rw [hP4.out]
            exact ⟨rfl, below_set4 (hbl.out.trans (hb3.mono (by rw [hz.out]; omega)))⟩
          | none =>
            have hEE := (unq_none hok hv).2
            rw [hu1.out, hEE] at hu
            have hP4 : Hid (textP rs a = .inr (a, 50)) := by show _ = _; rw [hP3.out, hv]; rfl
            clear hP3 hv hok hP hEE
            go_wp2_with (go_at_call 100; refine (hu.out _).mono ?_; rintro e w3 ⟨rfl, hb3⟩; have e3 : w3.heap[w.heap.size]? = some tok0 := (hb3.block _ (by rw [hz.out]; omega)).trans ht; obtain ⟨g3f, g30, g31, g32, g33⟩ := row4 e3)
            (try simp only [Exit.inBlock, Exit.then])
            refine bodyPost_ret (results_cell3 rfl _ _ w.heap.size _ _ _ _ rfl (set4_blk e3) Tryd.underlying42 rfl (by kernel_rfl)) rfl ?_
            rw [hP4.out]
            exact ⟨⟨⟨_, _, _, _⟩, rfl⟩, below_set4 (hbl.out.trans (hb3.mono (by rw [hz.out]; omega)))⟩
        · have t34 : ((y : Int) != 34) = true := by simp; omega
          by_cases hbad : badR y = true
          · have hE := Lib.hid (st_bad hS hy.out hbad)
            rw [hbq.out] at hbad
            have hP2 : Hid (textP rs a = .inr (i, 40)) := by show _ = _; unfold textP; rw [hE.out, if_neg (by omega), if_pos (by rw [getD_of hy.out]; exact h34)]
            clear hS hE h34 hP
            go_wp2_with (go_at_call 52; refine (rclass_any _ _).mono ?_; rintro e w' ⟨rfl, rfl⟩; rw [hq.out])
            (try simp only [Exit.inBlock, Exit.then])
            refine bodyPost_ret (results_cell3 rfl _ _ w.heap.size _ _ _ _ rfl (set4_blk ht) Tryd.underlying42 rfl (by kernel_rfl)) rfl ?_
            rw [hP2.out]
            exact ⟨⟨⟨_, _, _, _⟩, rfl⟩, below_set4 hbl.out⟩
          · have hbad' : badR y = false := by simpa using hbad
            have tb := hbad'
            rw [hbq.out] at tb
            by_cases h92 : y = 92
            · have t92 : ((y : Int) == 92) = true := by simp; omega
              have hy92 : Hid (rs[i]? = some 92) := by rw [← h92]; exact hy
              by_cases hl2 : i + 1 < n
              · obtain ⟨z, hz2⟩ : ∃ z, Hid (rs[i + 1]? = some z) := ⟨_, List.getElem?_eq_getElem (by omega)⟩
                obtain ⟨ad3, e, _, hc2⟩ := hrd2.out.rune_at hz2.out
                injection e with e
                subst e
                have hc2' : wr.cell? ⟨ad.block, ad.off + (i + 1), none⟩ = some (.int .i32 (z : Int)) := by have h2 := hc2; unfold Addr.add at h2; simpa using h2
                obtain ⟨q2, hq2⟩ : ∃ q2, Hid (classV z = q2) := ⟨_, rfl⟩
                have hbq2 := Lib.hid (bad_q hq2.out)
                have ti2 : (i : Int) + 1 < (n : Int) := by omega
                by_cases hbz : badR z = true
                · have hE := Lib.hid (st_esc_bad hS hy92.out hz2.out hbz)
                  have hz34 : z ≠ 34 := by intro e; subst e; revert hbz; decide
                  rw [hbq2.out] at hbz
                  have hP2 : Hid (textP rs a = .inr (i + 1, 40)) := by show _ = _; unfold textP; rw [hE.out, if_neg (by omega), if_pos (by rw [getD_of hz2.out]; exact hz34)]
                  clear hS hE h34 hP hbad hbad' h92 hz34
                  go_wp2_with (go_at_call 52; refine (rclass_any _ _).mono ?_; rintro e w' ⟨rfl, rfl⟩; first | rw [hq.out] | rw [hq2.out])
                  (try simp only [Exit.inBlock, Exit.then])
                  refine bodyPost_ret (results_cell3 rfl _ _ w.heap.size _ _ _ _ rfl (set4_blk ht) Tryd.underlying42 rfl (by kernel_rfl)) rfl ?_
                  rw [hP2.out]
                  exact ⟨⟨⟨_, _, _, _⟩, rfl⟩, below_set4 hbl.out⟩
                · have hbz' : badR z = false := by simpa using hbz
                  have hS2 := Lib.hid (st_esc_next hS hy92.out hz2.out hbz')
                  rw [hbq2.out] at hbz'
                  clear hS h34 hP hbad hbad' h92 hbz
                  go_wp2_with (go_at_call 52; refine (rclass_any _ _).mono ?_; rintro e w' ⟨rfl, rfl⟩; first | rw [hq.out] | rw [hq2.out])
                  go_roundw
                  case rel => exact ⟨i + 2, by go_num, by omega, hwr2.out, .inl hS2.out⟩
                  case measure => simp [intOf]; omega
              · have hE := Lib.hid (st_esc_end hS hy92.out (by omega))
                have hin1 : n ≤ i + 1 := by omega
                have ti2 : decide ((i : Int) + 1 < (n : Int)) = false := by simp; omega
                clear hS h34 hP hbad hbad' h92
                go_wp2_with (go_at_call 52; refine (rclass_any _ _).mono ?_; rintro e w' ⟨rfl, rfl⟩; rw [hq.out])
                go_roundw
                case rel => exact ⟨i + 2, by go_num, by omega, hwr2.out, .inr ⟨by omega, by rw [hE.out]; omega⟩⟩
                case measure => simp [intOf]; omega
            · have t92 : ((y : Int) == 92) = false := by simp; omega
              have hS2 := Lib.hid (st_next hS hy.out hbad' h34 h92)
              clear hS h34 hP hbad hbad' h92
              go_wp2_with (go_at_call 52; refine (rclass_any _ _).mono ?_; rintro e w' ⟨rfl, rfl⟩; rw [hq.out])
              go_roundw
              case rel => exact ⟨i + 1, by go_num, by omega, hwr2.out, .inl hS2.out⟩
              case measure => simp [intOf]; omega
      · obtain rfl : i = n := by omega
        have t1 : decide ((i : Int) < (i : Int)) = false := by simp
        have hP2 : Hid (textP rs a = .inr (a, 50)) := by show _ = _; unfold textP; rw [if_pos (by have := hS.2.1; omega)]
        clear hS hP
        go_wp2
        (try simp only [Exit.inBlock, Exit.then])
        refine bodyPost_ret (results_cell3 rfl _ _ w.heap.size _ _ _ _ rfl (set4_blk ht) Tryd.underlying42 rfl (by kernel_rfl)) rfl ?_
        rw [hP2.out]
        exact ⟨⟨⟨_, _, _, _⟩, rfl⟩, below_set4 hbl.out⟩
end Go.Proofs.YtenonfoocjcdmaaDoor
