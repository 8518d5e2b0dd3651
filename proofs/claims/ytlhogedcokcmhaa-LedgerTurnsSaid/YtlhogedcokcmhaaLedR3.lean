/- The document's answers of layer 17: Charge. -/
import Derived.Test.YtlhogedcokcmhaaLedR2
import Derived.Test.YtlhogedcokcmhaaLedL3
import Derived.Deep.CutBlock
namespace Go.Proofs.Ytlhogedcokcmhaa
set_option linter.unusedVariables false
open Go.RowKit
theorem rcharge_bad (A : Option Addr) (n c B : Nat) (l : List U) (user acct : ByteArray) (z : Int) (w : World) (hn : n ≤ maxLen) (hr : Reads w B 4 A n (recs ucells l)) (hB : B ≤ w.heap.size)
    (h : ledgerV l = false ∨ (nameV user && nameV acct && decide (0 ≤ z)) = false) :
    Calls Try.prog 9 #[.slice A n c, .string user, .string acct, .int .i64 z] w (RetLE w [] 2) := by
  by_cases hg : ledgerV l = true
  · have hE : chkE l = 0 := by unfold chkE; rw [if_pos hg]
    have h2 : (nameV user && nameV acct && decide (0 ≤ z)) = false := by
      rcases h with h | h
      · rw [hg] at h; cases h
      · exact h
    have h3 : nameV user = false ∨ (nameV user = true ∧ nameV acct = false) ∨ (nameV user = true ∧ nameV acct = true ∧ decide (z < 0) = true) := by
      cases n1 : nameV user <;> cases n2 : nameV acct <;> simp [n1, n2] at h2 ⊢
      omega
    clear h hg h2
    rcases h3 with n1 | ⟨n1, n2⟩ | ⟨n1, n2, n3⟩
    all_goals
      go_enter Try.func9, Try.ntmps9
      go_wp2_with (first
        | (go_at_call 14; refine (rcheck_any A n c B l _ hn hr hB).mono ?_; rintro e w1 ⟨rfl, hb1⟩; rw [hE]; clear hr)
        | (go_at_call 25; refine (rname_any _ _).mono ?_; rintro e w1 ⟨rfl, rfl⟩))
      go_ret2
      exact ⟨_, rfl, Owns.nil, hb1⟩
  · have hE : chkE l = 2 := by unfold chkE; rw [if_neg hg]
    clear h hg
    go_enter Try.func9, Try.ntmps9
    go_wp2_with (go_at_call 14; refine (rcheck_any A n c B l _ hn hr hB).mono ?_; rintro e w1 ⟨rfl, hb1⟩; rw [hE])
    go_ret2
    exact ⟨_, rfl, Owns.nil, hb1⟩
theorem wp_gen {P : Program} {c : Code} {Q : Exit → Act → World → Prop} {a : Act} {W : World} (h : ∀ w', w' = W → Code.wp P c Q a w') : Code.wp P c Q a W := h W rfl
theorem reads1 {w : World} {g : Nat} (x : U) (c0 : w.cell? ⟨g, 0, none⟩ = some (.string x.user)) (c1 : w.cell? ⟨g, 1, none⟩ = some (.string x.acct)) (c2 : w.cell? ⟨g, 2, none⟩ = some (.int .i64 x.used)) (c3 : w.cell? ⟨g, 3, none⟩ = some (.int .i64 x.share)) :
    Reads w (g + 1) 4 (some ⟨g, 0, none⟩) 1 (recs ucells [x]) := by
  refine ⟨rfl, fun _ => ⟨_, rfl, by simp, fun j u hu => ?_⟩⟩
  rw [recs_single] at hu
  have hj : j < 4 := by simpa [ucells] using (List.getElem?_eq_some_iff.1 hu).1
  rw [add_plain, Nat.zero_add]
  rcases j with _ | _ | _ | _ | j
  · simp [ucells] at hu; subst hu; exact c0
  · simp [ucells] at hu; subst hu; exact c1
  · simp [ucells] at hu; subst hu; exact c2
  · simp [ucells] at hu; subst hu; exact c3
  · omega
theorem rplus2 (x y : Int) (W : World) (g : Nat) (c0 : W.cell? ⟨g, 0, none⟩ = some (.int .i64 x)) (c1 : W.cell? ⟨g, 1, none⟩ = some (.int .i64 y)) :
    Calls Try.prog 27 #[.slice (some ⟨g, 0, none⟩) 2 2] W fun e w' => e = .returned (.int .i64 (addV 1000000000000 [x, y])) ∧ W = w' := by
  refine rplus_any (some ⟨g, 0, none⟩) 2 2 (g + 1) [x, y] W (by simp [maxLen]) ⟨rfl, fun _ => ⟨_, rfl, by simp, fun j u hu => ?_⟩⟩
  have hj : j < 2 := by simpa [ints] using (List.getElem?_eq_some_iff.1 hu).1
  rcases j with _ | _ | j
  · simp [ints] at hu; subst hu; simpa [Addr.add] using c0
  · simp [ints] at hu; subst hu; simpa [Addr.add] using c1
  · omega
theorem AppKeeps.all {w w' : World} {v : Value} (hk : AppKeeps w.heap.size v w w') : ∀ b o, b < w.heap.size → w'.cell? ⟨b, o, none⟩ = w.cell? ⟨b, o, none⟩ := fun b o h => hk.cell_low (p := ⟨b, o, none⟩) h h
theorem sk_app {w3 w' w'' : World} {base : Nat} {v : Value} (h : (∀ b o, b < w3.heap.size → w'.cell? ⟨b, o, none⟩ = w3.cell? ⟨b, o, none⟩) ∧ Below w3.heap.size w3 w') (k : AppKeeps base v w' w'') (hb : w3.heap.size ≤ base) : (∀ b o, b < w3.heap.size → w''.cell? ⟨b, o, none⟩ = w3.cell? ⟨b, o, none⟩) ∧ Below w3.heap.size w3 w'' := sk_mk (k.below h.2 hb h.2.size)
/-- what stands in memory where the entry that is charged has been found, or made -/
def AtX (wx : World) (p B : Nat) (A' : Option Addr) (n' : Nat) (x : U) (rs : List U) : Prop :=
  Reads wx B 4 A' n' (recs ucells rs) ∧ wx.cell? ⟨p, 0, none⟩ = some (.string x.user) ∧ wx.cell? ⟨p, 1, none⟩ = some (.string x.acct) ∧ wx.cell? ⟨p, 2, none⟩ = some (.int .i64 x.used) ∧ wx.cell? ⟨p, 3, none⟩ = some (.int .i64 x.share) ∧ (∀ j, wx.frozen? ⟨p, j, none⟩ = false) ∧ p < wx.heap.size
theorem box4 {w : World} {p : Nat} {a0 a1 a2 a3 b0 b1 b2 b3 : Value} (h0 : w.cell? ⟨p, 0, none⟩ = some a0) (h1 : w.cell? ⟨p, 1, none⟩ = some a1) (h2 : w.cell? ⟨p, 2, none⟩ = some a2) (h3 : w.cell? ⟨p, 3, none⟩ = some a3) :
    let W := (((w.setCell ⟨p, 0, none⟩ b0).setCell ⟨p, 1, none⟩ b1).setCell ⟨p, 2, none⟩ b2).setCell ⟨p, 3, none⟩ b3
    W.cell? ⟨p, 0, none⟩ = some b0 ∧ W.cell? ⟨p, 1, none⟩ = some b1 ∧ W.cell? ⟨p, 2, none⟩ = some b2 ∧ W.cell? ⟨p, 3, none⟩ = some b3 ∧ ∀ j, W.frozen? ⟨p, j, none⟩ = w.frozen? ⟨p, j, none⟩ := by
  intro W
  have e1 : (w.setCell ⟨p, 0, none⟩ b0).cell? ⟨p, 1, none⟩ = some a1 := by rw [World.cell?_setCell_other _ _ _ _ (by simp)]; exact h1
  have e2 : ((w.setCell ⟨p, 0, none⟩ b0).setCell ⟨p, 1, none⟩ b1).cell? ⟨p, 2, none⟩ = some a2 := by rw [World.cell?_setCell_other _ _ _ _ (by simp), World.cell?_setCell_other _ _ _ _ (by simp)]; exact h2
  have e3 : (((w.setCell ⟨p, 0, none⟩ b0).setCell ⟨p, 1, none⟩ b1).setCell ⟨p, 2, none⟩ b2).cell? ⟨p, 3, none⟩ = some a3 := by rw [World.cell?_setCell_other _ _ _ _ (by simp), World.cell?_setCell_other _ _ _ _ (by simp), World.cell?_setCell_other _ _ _ _ (by simp)]; exact h3
  refine ⟨?_, ?_, ?_, World.cell?_setCell_same _ _ _ e3, fun j => by simp [W]⟩
  · rw [World.cell?_setCell_other _ _ _ _ (by simp), World.cell?_setCell_other _ _ _ _ (by simp), World.cell?_setCell_other _ _ _ _ (by simp)]; exact World.cell?_setCell_same _ _ _ h0
  · rw [World.cell?_setCell_other _ _ _ _ (by simp), World.cell?_setCell_other _ _ _ _ (by simp)]; exact World.cell?_setCell_same _ _ _ e1
  · rw [World.cell?_setCell_other _ _ _ _ (by simp)]; exact World.cell?_setCell_same _ _ _ e2
theorem rclose {w wd : World} {base i n' : Nat} {v3 : Value} {L rs : List U} {x : U} (o3 : Owns wd base 42 4 v3 (0 + i + 1 + n') (recs ucells ([] ++ L ++ [x] ++ rs))) (hb : w.heap.size ≤ base) (h : Below w.heap.size w wd) (hl : L.length = i) (hr : rs.length = n') :
    RetLE w (L ++ x :: rs) 0 (.returned (.tuple #[v3, .int .i64 0])) wd := by
  have e1 : (L ++ x :: rs).length = 0 + i + 1 + n' := by simp; omega
  have e2 : L ++ x :: rs = [] ++ L ++ [x] ++ rs := by simp
  refine ⟨_, rfl, ?_, h⟩
  rw [e1, e2]; exact o3.mono hb
set_option linter.unusedSimpArgs false in
set_option maxRecDepth 100000 in
set_option maxHeartbeats 4000000 in
theorem rcharge_x (A : Option Addr) (n c B : Nat) (l : List U) (user acct : ByteArray) (z : Int) (w : World) (hn : n ≤ maxLen) (hc : n ≤ c) (hr : Reads w B 4 A n (recs ucells l)) (hB : B ≤ w.heap.size)
    (hg : ledgerV l = true) (n1 : nameV user = true) (n2 : nameV acct = true) (hz : 0 ≤ z) (i : Nat) (HI : Hid (lowU l (newU user acct) = i)) :
    Calls Try.prog 9 #[.slice A n c, .string user, .string acct, .int .i64 z] w (RetLE w (chargeL l user acct z) (chargeE l user acct z)) := by
  have hE : chkE l = 0 := by unfold chkE; rw [if_pos hg]
  have HG := Lib.hid hg
  have h4 : decide (z < 0) = false := by simp; omega
  have hlen := hr.rec_len ucells_len (by omega)
  have hle : n ≤ 200 := by have := hlen.out; simp [ledgerV] at hg; omega
  have hi : i ≤ n := by have := lowU_le l (newU user acct); rw [HI.out, hlen.out] at this; exact this
  have hti : Hid ((l.take i).length = i) := by show _ = _; have := hlen.out; simp; omega
  clear hg
  go_enter Try.func9, Try.ntmps9
  go_upto_block 0 with (first
    | (go_at_call 14; refine (rcheck_any A n c B l _ hn hr hB).mono ?_; rintro e w1 ⟨rfl, hb1⟩; rw [hE]; have hr1 := hr.below (hb1.mono hB); have hz1 := hb1.size; clear hr hE)
    | (go_at_call 25; refine (rname_any _ _).mono ?_; rintro e w' ⟨rfl, rfl⟩))
  have hr2 := hr1.alloc (by omega) (.cells #[.string user, .string acct, .int .i64 0, .int .i64 0] 42)
  clear hr1
  go_cut [11] (fun s wx => s = .int .i64 i ∧ Below (w1.heap.size + 1) (w1.alloc (.cells #[.string user, .string acct, .int .i64 0, .int .i64 0] 42)) wx)
  case first =>
    go_wp2_with (fail)
    go_loopw [11] (fun t wr => ∃ k : Nat, k ≤ i ∧ t = .int .i64 k ∧ Below (w1.heap.size + 1) (w1.alloc (.cells #[.string user, .string acct, .int .i64 0, .int .i64 0] 42)) wr) (fun t _ => i - (intOf t).toNat)
    case atStart => exact ⟨0, Nat.zero_le _, rfl, Below.refl _ _⟩
    case round =>
      obtain ⟨k, hk, rfl, b4⟩ := hrel
      have hz4 := b4.size
      simp only [World.size_alloc] at hz4
      have hr3 := hr2.below (b4.mono (by omega))
      have x0 : wr.cell? ⟨w1.heap.size, 0, none⟩ = some (.string user) := by rw [b4.cell (by simp)]; simp [go_sem]
      have x1 : wr.cell? ⟨w1.heap.size, 1, none⟩ = some (.string acct) := by rw [b4.cell (by simp)]; simp [go_sem]
      have x2 : wr.cell? ⟨w1.heap.size, 2, none⟩ = some (.int .i64 0) := by rw [b4.cell (by simp)]; simp [go_sem]
      have x3 : wr.cell? ⟨w1.heap.size, 3, none⟩ = some (.int .i64 0) := by rw [b4.cell (by simp)]; simp [go_sem]
      have hw0 : w1.heap.size < wr.heap.size := by omega
      by_cases hkn : k < n
      · obtain ⟨b, o, u, rfl, hbb, hx, c0, c1, c2, c3⟩ := hr3.u_at (k := k) hkn
        have hub : b < wr.heap.size := by omega
        have hj2 : decide (k < n) = true := by simp; omega
        have hj0 : (0 : Int) ≤ (k : Int) := by omega
        have hj1 : (k : Int) < (n : Int) := by omega
        by_cases hlt : k < i
        · have ho : decide (ordU u (newU user acct) < 0) = true := by simpa using lowU_before (by have := HI.out; omega) hx.out
          clear hr2 hr3
          go_wp2
          refine wp_region_later (by kernel_rfl) (by kernel_rfl) ?_
          have hl_ := later_cell (wr)
          repeat (first | go_big_quiet_step ((go_at_call 26; exact later_of (ahead_any u (newU user acct) _))) | quiet_step ((go_at_call 26; exact later_of (ahead_any u (newU user acct) _))))
          refine wpQuiet_nil ?_
          intro w9 hx_
          obtain ⟨⟨w_, hb9⟩, e_⟩ := hx_
          have e2_ : w9 = w_ := e_
          clear e_
          subst e2_
          clear hl_
          go_wp2
          go_roundw
          case rel => exact ⟨k + 1, by omega, by go_num, b4.trans (hb9.mono (by omega))⟩
          case measure => simp [intOf]; omega
        · obtain rfl : k = i := by omega
          have ho : decide (ordU u (newU user acct) < 0) = false := by
            have := lowU_stop (x := newU user acct) (by rw [HI.out]; exact hx.out)
            simpa using this
          clear hr2 hr3
          go_wp2
          refine wp_region_later (by kernel_rfl) (by kernel_rfl) ?_
          have hl_ := later_cell (wr)
          repeat (first | go_big_quiet_step ((go_at_call 26; exact later_of (ahead_any u (newU user acct) _))) | quiet_step ((go_at_call 26; exact later_of (ahead_any u (newU user acct) _))))
          refine wpQuiet_nil ?_
          intro w9 hx_
          obtain ⟨⟨w_, hb9⟩, e_⟩ := hx_
          have e2_ : w9 = w_ := e_
          clear e_
          subst e2_
          clear hl_
          go_wp2_with (fail)
          go_meet
          exact ⟨rfl, b4.trans (hb9.mono (by omega))⟩
      · obtain rfl : k = i := by omega
        have hj2 : decide (k < n) = false := by simp; omega
        clear hr2 hr3
        go_wp2
        refine wp_region_later (by kernel_rfl) (by kernel_rfl) ?_
        have hl_ := later_cell (wr)
        repeat (first | go_big_quiet_step ((fail)) | quiet_step ((fail)))
        refine wpQuiet_nil ?_
        intro w9 hx_
        obtain ⟨⟨w_, hb9⟩, e_⟩ := hx_
        have e2_ : w9 = w_ := e_
        clear e_
        subst e2_
        clear hl_
        go_wp2_with (fail)
        go_meet
        exact ⟨rfl, b4.trans (hb9.mono (by omega))⟩
  case rest =>
    obtain ⟨rfl, b5⟩ := hcut
    obtain ⟨w5, hw5⟩ : ∃ w5 : World, w5 = wc := ⟨_, rfl⟩
    subst hw5
    have hz5 := b5.size
    simp only [World.size_alloc] at hz5
    have hr5 := hr2.below (b5.mono (by omega))
    have x0 : w5.cell? ⟨w1.heap.size, 0, none⟩ = some (.string user) := by rw [b5.cell (by simp)]; simp [go_sem]
    have x1 : w5.cell? ⟨w1.heap.size, 1, none⟩ = some (.string acct) := by rw [b5.cell (by simp)]; simp [go_sem]
    have x2 : w5.cell? ⟨w1.heap.size, 2, none⟩ = some (.int .i64 0) := by rw [b5.cell (by simp)]; simp [go_sem]
    have x3 : w5.cell? ⟨w1.heap.size, 3, none⟩ = some (.int .i64 0) := by rw [b5.cell (by simp)]; simp [go_sem]
    have hff : ∀ j, w5.frozen? ⟨w1.heap.size, j, none⟩ = false := fun j => by
      rw [b5.frozen (by simp), World.frozen?_alloc_at _ _ _ _ rfl]
    have hw0 : w1.heap.size < w5.heap.size := by omega
    have bw5 := (hb1.alloc hz1 (.cells #[.string user, .string acct, .int .i64 0, .int .i64 0] 42)).trans (b5.mono (by omega))
    have f0 := hff 0
    have f1 := hff 1
    have f2 := hff 2
    have f3 := hff 3
    have HFF := Lib.hid hff
    clear hr2 b5 hb1 h4 hff
    by_cases hfull : foundU l (newU user acct) = false ∧ n = 200
    · have hE3 : Hid (chargeE l user acct z = 3) := by
        show _ = _
        unfold chargeE; rw [hlen.out]; simp [HG.out, n1, n2, hfull.1, hfull.2]; omega
      have hL3 : Hid (chargeL l user acct z = []) := by show _ = _; unfold chargeL; rw [if_neg (by rw [hE3.out]; omega)]
      have h200 : ((n : Int) == 200) = true := by simp; omega
      by_cases hin : i < n
      · obtain ⟨b, o, u, rfl, hbb, hx, c0, c1, c2, c3⟩ := hr5.u_at (k := i) hin
        have hne : ¬ (u.user = user ∧ u.acct = acct) := fun h => by
          have h1 := hfull.1
          unfold foundU at h1
          rw [HI.out, hx.out] at h1
          have h2 := (ordU_zero (u := u) (v := newU user acct)).2 h
          simp [h2] at h1
        by_cases e1 : u.user = user
        · have k1 : (u.user.toList == user.toList) = true := by rw [beq_str]; simpa using e1
          have k2 : (u.acct.toList == acct.toList) = false := by rw [beq_str]; simpa using fun h => hne ⟨e1, h⟩
          clear hr5 hfull hne e1
          go_wp2
          all_goals
            go_ret2
            rw [hL3.out, hE3.out]
            exact ⟨_, rfl, Owns.nil, bw5⟩
        · have k1 : (u.user.toList == user.toList) = false := by rw [beq_str]; simpa using e1
          clear hr5 hfull hne e1
          go_wp2
          all_goals
            go_ret2
            rw [hL3.out, hE3.out]
            exact ⟨_, rfl, Owns.nil, bw5⟩
      · have hj2 : decide (i < n) = false := by simp; omega
        clear hr5 hfull
        go_wp2
        all_goals
          go_ret2
          rw [hL3.out, hE3.out]
          exact ⟨_, rfl, Owns.nil, bw5⟩
    · have hE0 : Hid (chargeE l user acct z = 0) := by
        show _ = _
        unfold chargeE; rw [hlen.out]
        cases hfo : foundU l (newU user acct)
        · have : n ≠ 200 := fun h => hfull ⟨hfo, h⟩
          simp [HG.out, n1, n2, this]; omega
        · simp [HG.out, n1, n2]; omega
      by_cases hin : i < n
      · obtain ⟨b, o, u, rfl, hbb, hx, c0, c1, c2, c3⟩ := hr5.u_at (k := i) hin
        have hj2 : decide (i < n) = true := by simp; omega
        have hj0 : (0 : Int) ≤ (i : Int) := by omega
        have hj1 : (i : Int) < (n : Int) := by omega
        have hub : b < w5.heap.size := by omega
        by_cases e1 : u.user = user
        · by_cases e2 : u.acct = acct
          · subst e1; subst e2
            have hL0 : Hid (chargeL l u.user u.acct z = l.take i ++ bump z u :: l.drop (i + 1)) := by
              show _ = _
              have hfo : foundU l (newU u.user u.acct) = true := by unfold foundU; rw [HI.out, hx.out]; simp [ordU_zero, newU]
              unfold chargeL baseL; rw [if_pos hE0.out, hfo, if_pos rfl, HI.out, modify_set hx.out, List.set_eq_take_append_cons_drop, if_pos (List.getElem?_eq_some_iff.1 hx.out).1]
            have hrc := hr5.cut (k := i + 1) (by omega) hc
            rw [← recs_drop ucells_len] at hrc
            have hck : ¬ c = i := by omega
            by_cases hci : c = i + 1
            · subst hci
              rw [if_pos rfl, show n - (i + 1) = 0 by omega] at hrc
              clear hfull
              go_upto_if 71 with (fail)
              go_cut [12] (fun s wx => ∃ (A' : Option Addr) (n' c' : Nat) (x : U) (rs : List U), s = .slice A' n' c' ∧ AtX wx w1.heap.size B A' n' x rs ∧ Reads wx B 4 (some ⟨b, o, none⟩) n (recs ucells l) ∧ n' ≤ n ∧ Hid (chargeL l u.user u.acct z = l.take i ++ bump z x :: rs) ∧ Hid (chargeE l u.user u.acct z = 0) ∧ Below w.heap.size w wx)
              case first =>
                go_wp2_with (fail)
                go_meet
                refine ⟨_, _, _, u, l.drop (i + 1), rfl, ⟨?_, ?_, ?_, ?_, ?_, ?_, ?_⟩, ?_, by omega, hL0, hE0, ?_⟩
                · first | exact (((((hrc.setCell (Nat.le_trans hB hz1) _).setCell (Nat.le_trans hB hz1) _).setCell (Nat.le_trans hB hz1) _).setCell (Nat.le_trans hB hz1) _)) | simpa [add_plain] using (((((hrc.setCell (p := ⟨w1.heap.size, 0, none⟩) (Nat.le_trans hB hz1) _).setCell (p := ⟨w1.heap.size, 1, none⟩) (Nat.le_trans hB hz1) _).setCell (p := ⟨w1.heap.size, 2, none⟩) (Nat.le_trans hB hz1) _).setCell (p := ⟨w1.heap.size, 3, none⟩) (Nat.le_trans hB hz1) _))
                · exact (box4 x0 x1 x2 x3).1
                · exact (box4 x0 x1 x2 x3).2.1
                · exact (box4 x0 x1 x2 x3).2.2.1
                · exact (box4 x0 x1 x2 x3).2.2.2.1
                · intro j; rw [(box4 x0 x1 x2 x3).2.2.2.2 j]; exact HFF.out j
                · simpa using hw0
                · exact (((((hr5.setCell (by simp; omega) _).setCell (by simp; omega) _).setCell (by simp; omega) _).setCell (by simp; omega) _))
                · exact ((((bw5.setCell hz1 _).setCell hz1 _).setCell hz1 _).setCell hz1 _)
              case rest =>
                  obtain ⟨A', n', c', x, rs, rfl, ⟨rr, y0, y1, y2, y3, ff, hp⟩, rl, hn', HCL, HCE, b6⟩ := hcut
                  obtain ⟨w4, hw4⟩ : ∃ w4 : World, w4 = wc := ⟨_, rfl⟩
                  subst hw4
                  have g2 := ff 2
                  have g3 := ff 3
                  have HF2 := Lib.hid ff
                  clear ff
                  go_wp2_with (fail)
                  refine (rplus2 x.used z _ _ (by simp [go_sem]) (by simp [go_sem])).mono ?_
                  rintro e w7 ⟨rfl, hw7⟩
                  have z7 : w4.heap.size + 1 = w7.heap.size := by rw [← hw7]; simp
                  have v0 : w7.cell? ⟨w1.heap.size, 0, none⟩ = some (.string x.user) := by rw [← hw7, World.cell?_alloc_past _ _ _ hp]; exact y0
                  have v1 : w7.cell? ⟨w1.heap.size, 1, none⟩ = some (.string x.acct) := by rw [← hw7, World.cell?_alloc_past _ _ _ hp]; exact y1
                  have v2 : w7.cell? ⟨w1.heap.size, 2, none⟩ = some (.int .i64 x.used) := by rw [← hw7, World.cell?_alloc_past _ _ _ hp]; exact y2
                  have v3 : w7.cell? ⟨w1.heap.size, 3, none⟩ = some (.int .i64 x.share) := by rw [← hw7, World.cell?_alloc_past _ _ _ hp]; exact y3
                  have t2 : w7.frozen? ⟨w1.heap.size, 2, none⟩ = false := by rw [← hw7, World.frozen?_alloc_past _ _ _ hp]; exact g2
                  have t3 : w7.frozen? ⟨w1.heap.size, 3, none⟩ = false := by rw [← hw7, World.frozen?_alloc_past _ _ _ hp]; exact g3
                  have b7 : Below w.heap.size w w7 := by rw [← hw7]; exact b6.alloc b6.size _
                  have rr7 : Reads w7 B 4 A' n' (recs ucells rs) := by rw [← hw7]; exact rr.alloc (Nat.le_trans hB b6.size) _
                  have rl7 : Reads w7 B 4 (some ⟨b, o, none⟩) n (recs ucells l) := by rw [← hw7]; exact rl.alloc (Nat.le_trans hB b6.size) _
                  have hp7 : w1.heap.size < w7.heap.size := by omega
                  clear hw7 y0 y1 y2 y3 g2 g3 HF2 b6 rr rl z7 hp
                  go_wp2_with (fail)
                  refine (rplus2 x.share z _ _ (by simp [go_sem]) (by simp [go_sem])).mono ?_
                  rintro e w8 ⟨rfl, hw8⟩
                  have v0' : w8.cell? ⟨w1.heap.size, 0, none⟩ = some (.string x.user) := by rw [← hw8, World.cell?_alloc_past _ _ _ (by simpa using hp7), World.cell?_setCell_other _ _ _ _ (by simp)]; exact v0
                  have v1' : w8.cell? ⟨w1.heap.size, 1, none⟩ = some (.string x.acct) := by rw [← hw8, World.cell?_alloc_past _ _ _ (by simpa using hp7), World.cell?_setCell_other _ _ _ _ (by simp)]; exact v1
                  have v2' : w8.cell? ⟨w1.heap.size, 2, none⟩ = some (.int .i64 (addV 1000000000000 [x.used, z])) := by rw [← hw8, World.cell?_alloc_past _ _ _ (by simpa using hp7)]; exact World.cell?_setCell_same _ _ _ v2
                  have v3' : w8.cell? ⟨w1.heap.size, 3, none⟩ = some (.int .i64 x.share) := by rw [← hw8, World.cell?_alloc_past _ _ _ (by simpa using hp7), World.cell?_setCell_other _ _ _ _ (by simp)]; exact v3
                  have t3' : w8.frozen? ⟨w1.heap.size, 3, none⟩ = false := by rw [← hw8, World.frozen?_alloc_past _ _ _ (by simpa using hp7)]; simpa using t3
                  have b8 : Below w.heap.size w w8 := by rw [← hw8]; exact (b7.setCell hz1 _).alloc (by simpa using b7.size) _
                  have rr8 : Reads w8 B 4 A' n' (recs ucells rs) := by rw [← hw8]; exact (rr7.setCell (by simp; omega) _).alloc (by simpa using Nat.le_trans hB b7.size) _
                  have rl8 : Reads w8 B 4 (some ⟨b, o, none⟩) n (recs ucells l) := by rw [← hw8]; exact (rl7.setCell (by simp; omega) _).alloc (by simpa using Nat.le_trans hB b7.size) _
                  have hp8 : w1.heap.size < w8.heap.size := by rw [← hw8]; simp; omega
                  clear hw8 v0 v1 v2 v3 t2 t3 b7 rr7 rl7 hp7
                  go_wp2_with (fail)
                  refine wp_gen ?_
                  intro w6 hw6
                  have q0 : w6.cell? ⟨w1.heap.size, 0, none⟩ = some (.string x.user) := by rw [hw6, World.cell?_setCell_other _ _ _ _ (by simp)]; exact v0'
                  have q1 : w6.cell? ⟨w1.heap.size, 1, none⟩ = some (.string x.acct) := by rw [hw6, World.cell?_setCell_other _ _ _ _ (by simp)]; exact v1'
                  have q2 : w6.cell? ⟨w1.heap.size, 2, none⟩ = some (.int .i64 (addV 1000000000000 [x.used, z])) := by rw [hw6, World.cell?_setCell_other _ _ _ _ (by simp)]; exact v2'
                  have q3 : w6.cell? ⟨w1.heap.size, 3, none⟩ = some (.int .i64 (addV 1000000000000 [x.share, z])) := by rw [hw6]; exact World.cell?_setCell_same _ _ _ v3'
                  have b6 : Below w.heap.size w w6 := by rw [hw6]; exact b8.setCell hz1 _
                  have z6 := b6.size
                  have rr6 : Reads w6 w6.heap.size 4 A' n' (recs ucells rs) := by rw [hw6]; exact (rr8.setCell (by simp; omega) _).more (by simpa using Nat.le_trans hB b8.size)
                  have rp6 : Reads w6 w6.heap.size 4 (some ⟨b, o, none⟩) i (recs ucells (l.take i)) := by rw [hw6]; exact ((rl8.setCell (by simp; omega) _).prefix_ hi).more (by simpa using Nat.le_trans hB b8.size)
                  have hp6 : w1.heap.size < w6.heap.size := by rw [hw6]; simpa using hp8
                  have hi0 : (0 : Int) ≤ (i : Int) := by omega
                  have hi1 : (i : Int) ≤ ((i : Int) + 1) := by omega
                  have hi2 : (i : Int) ≤ (n : Int) := by omega
                  clear hw6 v0' v1' v2' v3' t3' b8 rr8 rl8 hp8
                  refine wp_region_held_drew (S := (fun w' => (∀ b o, b < w6.heap.size → w'.cell? ⟨b, o, none⟩ = w6.cell? ⟨b, o, none⟩) ∧ Below w6.heap.size w6 w')) (by kernel_rfl) ?_ (fun hHeld => ?_)
                  · (try dsimp only); (first | assumption | exact sk_mk (below_drew (Below.refl _ _)) | (refine sk_mk (Below.alloc (And.right (by assumption)) (sk_size (by assumption)) _)) | exact sk_app (by assumption) (by assumption) (sk_size (by assumption)))
                  refine wpAnyH_take (i := 1) (oi := ⟨_, _, _, _, _, _⟩) (v := ?v_1) rfl (by kernel_rfl) (by kernel_rfl) (by kernel_rfl) (fun _ _ _ h => h) (Or.inl ⟨by rfl, ?hy_1⟩) (by assumption) ?r_1
                  case hy_1 => (intro w_ hS_; (try dsimp only at hS_); go_simp; try with_reducible rfl)
                  try simp only [Act.put, List.setIfInBounds_toArray, List.set_cons_zero, List.set_cons_succ]
                  refine wpAnyH_take (i := 2) (oi := ⟨_, _, _, _, _, _⟩) (v := ?v_2) rfl (by kernel_rfl) (by kernel_rfl) (by kernel_rfl) (fun _ _ _ h => h) (Or.inl ⟨by rfl, ?hy_2⟩) (by assumption) ?r_2
                  case hy_2 => (intro w_ hS_; (try dsimp only at hS_); go_simp; try with_reducible rfl)
                  try simp only [Act.put, List.setIfInBounds_toArray, List.set_cons_zero, List.set_cons_succ]
                  refine wpAnyH_take (i := 3) (oi := ⟨_, _, _, _, _, _⟩) (v := ?v_3) rfl (by kernel_rfl) (by kernel_rfl) (by kernel_rfl) (fun _ _ _ h => h) (Or.inl ⟨by rfl, ?hy_3⟩) (by assumption) ?r_3
                  case hy_3 => (intro w_ hS_; (try dsimp only at hS_); go_simp; try with_reducible rfl)
                  try simp only [Act.put, List.setIfInBounds_toArray, List.set_cons_zero, List.set_cons_succ]
                  refine wpAnyH_take (i := 5) (oi := ⟨_, _, _, _, _, _⟩) (v := ?v_4) rfl (by kernel_rfl) (by kernel_rfl) (by kernel_rfl) (fun _ _ _ h => h) (Or.inl ⟨by rfl, ?hy_4⟩) (by assumption) ?r_4
                  case hy_4 => (intro w_ hS_; (try dsimp only at hS_); go_simp; try with_reducible rfl)
                  try simp only [Act.put, List.setIfInBounds_toArray, List.set_cons_zero, List.set_cons_succ]
                  refine wpAnyH_take (i := 8) (oi := ⟨_, _, _, _, _, _⟩) (v := ?v_5) rfl (by kernel_rfl) (by kernel_rfl) (by kernel_rfl) (fun _ _ _ h => h) (Or.inl ⟨by rfl, ?hy_5⟩) (by assumption) ?r_5
                  case hy_5 => (intro w_ hS_; (try dsimp only at hS_); go_simp; try with_reducible rfl)
                  try simp only [Act.put, List.setIfInBounds_toArray, List.set_cons_zero, List.set_cons_succ]
                  refine wpAnyH_ready (rs := [0, 6]) (by kernel_rfl) (by simp) ?_
                  refine AllReadyH.cons (o := ⟨_, _, _, _, _, _⟩) rfl (fun K hK => ?_) ?_
                  · go_simp
                    refine hK.out _ _ ?_ (fun hHeld => ?_)
                    · (try dsimp only); (first | assumption | exact sk_mk (below_drew (Below.refl _ _)) | (refine sk_mk (Below.alloc (And.right (by assumption)) (sk_size (by assumption)) _)) | exact sk_app (by assumption) (by assumption) (sk_size (by assumption)))
                    clear hK K
                    try simp only [Act.put, List.setIfInBounds_toArray, List.set_cons_zero, List.set_cons_succ]
                    refine wpAnyH_ready (rs := [4, 6]) (by kernel_rfl) (by simp) ?_
                    refine AllReadyH.cons (o := ⟨_, _, _, _, _, _⟩) rfl (fun K hK => ?_) ?_
                    · (first | (refine step_u (s := .tmp 95) (x := .tmp 98) rfl rfl _ rfl (xs := []) Owns.nil rfl (sk_reads (by assumption) rp6) (by omega) (Nat.le_refl _) ?_; intro v1 wa o1 k1 _; have kc := k1.all; have zk := k1.hsize) | (refine step_u (s := .tmp 99) (x := .tmp 101) rfl rfl _ rfl (by first | exact o1 | exact o1.alloc _) rfl (reads1 (bump z x) (by simp [go_sem, kc, bump]) (by simp [go_sem, kc, bump]) (by simp [go_sem, kc, bump]) (by simp [go_sem, kc, bump])) (by omega) (by simp at zk ⊢ <;> omega) ?_; intro v2 wb o2 k2 _; have zk2 := k2.hsize) | (refine step_u (s := .tmp 102) (x := .tmp 103) rfl rfl _ rfl o2 rfl (sk_reads (by assumption) rr6) (by omega) (by simp at zk zk2 ⊢ <;> omega) ?_; intro v3 wd o3 k3 _))
                      refine hK.out _ _ ?_ (fun hHeld => ?_)
                      · (try dsimp only); (first | assumption | exact sk_mk (below_drew (Below.refl _ _)) | (refine sk_mk (Below.alloc (And.right (by assumption)) (sk_size (by assumption)) _)) | exact sk_app (by assumption) (by assumption) (sk_size (by assumption)))
                      clear hK K
                      try simp only [Act.put, List.setIfInBounds_toArray, List.set_cons_zero, List.set_cons_succ]
                      refine wpAnyH_ready (rs := [6]) (by kernel_rfl) (by simp) ?_
                      refine AllReadyH.cons (o := ⟨_, _, _, _, _, _⟩) rfl (fun K hK => ?_) AllReadyH.nil
                      go_simp
                      refine hK.out _ _ ?_ (fun hHeld => ?_)
                      · (try dsimp only); (first | assumption | exact sk_mk (below_drew (Below.refl _ _)) | (refine sk_mk (Below.alloc (And.right (by assumption)) (sk_size (by assumption)) _)) | exact sk_app (by assumption) (by assumption) (sk_size (by assumption)))
                      clear hK K
                      try simp only [Act.put, List.setIfInBounds_toArray, List.set_cons_zero, List.set_cons_succ]
                      refine wpAnyH_ready (rs := [7]) (by kernel_rfl) (by simp) ?_
                      refine AllReadyH.cons (o := ⟨_, _, _, _, _, _⟩) rfl (fun K hK => ?_) AllReadyH.nil
                      (first | (refine step_u (s := .tmp 95) (x := .tmp 98) rfl rfl _ rfl (xs := []) Owns.nil rfl (sk_reads (by assumption) rp6) (by omega) (Nat.le_refl _) ?_; intro v1 wa o1 k1 _; have kc := k1.all; have zk := k1.hsize) | (refine step_u (s := .tmp 99) (x := .tmp 101) rfl rfl _ rfl (by first | exact o1 | exact o1.alloc _) rfl (reads1 (bump z x) (by simp [go_sem, kc, bump]) (by simp [go_sem, kc, bump]) (by simp [go_sem, kc, bump]) (by simp [go_sem, kc, bump])) (by omega) (by simp at zk ⊢ <;> omega) ?_; intro v2 wb o2 k2 _; have zk2 := k2.hsize) | (refine step_u (s := .tmp 102) (x := .tmp 103) rfl rfl _ rfl o2 rfl (sk_reads (by assumption) rr6) (by omega) (by simp at zk zk2 ⊢ <;> omega) ?_; intro v3 wd o3 k3 _))
                      refine hK.out _ _ ?_ (fun hHeld => ?_)
                      · (try dsimp only); (first | assumption | exact sk_mk (below_drew (Below.refl _ _)) | (refine sk_mk (Below.alloc (And.right (by assumption)) (sk_size (by assumption)) _)) | exact sk_app (by assumption) (by assumption) (sk_size (by assumption)))
                      clear hK K
                      try simp only [Act.put, List.setIfInBounds_toArray, List.set_cons_zero, List.set_cons_succ]
                      refine wpAnyH_ready (rs := [9]) (by kernel_rfl) (by simp) ?_
                      refine AllReadyH.cons (o := ⟨_, _, _, _, _, _⟩) rfl (fun K hK => ?_) AllReadyH.nil
                      (first | (refine step_u (s := .tmp 95) (x := .tmp 98) rfl rfl _ rfl (xs := []) Owns.nil rfl (sk_reads (by assumption) rp6) (by omega) (Nat.le_refl _) ?_; intro v1 wa o1 k1 _; have kc := k1.all; have zk := k1.hsize) | (refine step_u (s := .tmp 99) (x := .tmp 101) rfl rfl _ rfl (by first | exact o1 | exact o1.alloc _) rfl (reads1 (bump z x) (by simp [go_sem, kc, bump]) (by simp [go_sem, kc, bump]) (by simp [go_sem, kc, bump]) (by simp [go_sem, kc, bump])) (by omega) (by simp at zk ⊢ <;> omega) ?_; intro v2 wb o2 k2 _; have zk2 := k2.hsize) | (refine step_u (s := .tmp 102) (x := .tmp 103) rfl rfl _ rfl o2 rfl (sk_reads (by assumption) rr6) (by omega) (by simp at zk zk2 ⊢ <;> omega) ?_; intro v3 wd o3 k3 _))
                      refine hK.out _ _ ?_ (fun hHeld => ?_)
                      · (try dsimp only); (first | assumption | exact sk_mk (below_drew (Below.refl _ _)) | (refine sk_mk (Below.alloc (And.right (by assumption)) (sk_size (by assumption)) _)) | exact sk_app (by assumption) (by assumption) (sk_size (by assumption)))
                      clear hK K
                      try simp only [Act.put, List.setIfInBounds_toArray, List.set_cons_zero, List.set_cons_succ]
                      refine wpAnyH_take (i := 10) (oi := ⟨_, _, _, _, _, _⟩) (v := ?v_6) rfl (by kernel_rfl) (by kernel_rfl) (by kernel_rfl) (fun _ _ _ h => h) (Or.inl ⟨by rfl, ?hy_6⟩) (by assumption) ?r_6
                      case hy_6 => (intro w_ hS_; (try dsimp only at hS_); go_simp; try with_reducible rfl)
                      try simp only [Act.put, List.setIfInBounds_toArray, List.set_cons_zero, List.set_cons_succ]
                      refine wpAnyH_take (i := 11) (oi := ⟨_, _, _, _, _, _⟩) (v := ?v_7) rfl (by kernel_rfl) (by kernel_rfl) (by kernel_rfl) (fun _ _ _ h => h) (Or.inl ⟨by rfl, ?hy_7⟩) (by assumption) ?r_7
                      case hy_7 => (intro w_ hS_; (try dsimp only at hS_); go_simp; try with_reducible rfl)
                      try simp only [Act.put, List.setIfInBounds_toArray, List.set_cons_zero, List.set_cons_succ]
                      refine wpAnyH_done (by kernel_rfl) ?_ _
                      (have bf := And.right (by assumption : (∀ b o, b < w6.heap.size → World.cell? _ ⟨b, o, none⟩ = w6.cell? ⟨b, o, none⟩) ∧ Below w6.heap.size w6 _); go_wp2; go_ret2; rw [HCL.out, HCE.out]; exact rclose o3 (by simp <;> omega) (b6.trans (bf.mono z6)) hti.out (rr6.rec_len ucells_len (by omega)).out)
                    refine AllReadyH.cons (o := ⟨_, _, _, _, _, _⟩) rfl (fun K hK => ?_) AllReadyH.nil
                    go_simp
                    refine hK.out _ _ ?_ (fun hHeld => ?_)
                    · (try dsimp only); (first | assumption | exact sk_mk (below_drew (Below.refl _ _)) | (refine sk_mk (Below.alloc (And.right (by assumption)) (sk_size (by assumption)) _)) | exact sk_app (by assumption) (by assumption) (sk_size (by assumption)))
                    clear hK K
                    try simp only [Act.put, List.setIfInBounds_toArray, List.set_cons_zero, List.set_cons_succ]
                    refine wpAnyH_ready (rs := [4]) (by kernel_rfl) (by simp) ?_
                    refine AllReadyH.cons (o := ⟨_, _, _, _, _, _⟩) rfl (fun K hK => ?_) AllReadyH.nil
                    (first | (refine step_u (s := .tmp 95) (x := .tmp 98) rfl rfl _ rfl (xs := []) Owns.nil rfl (sk_reads (by assumption) rp6) (by omega) (Nat.le_refl _) ?_; intro v1 wa o1 k1 _; have kc := k1.all; have zk := k1.hsize) | (refine step_u (s := .tmp 99) (x := .tmp 101) rfl rfl _ rfl (by first | exact o1 | exact o1.alloc _) rfl (reads1 (bump z x) (by simp [go_sem, kc, bump]) (by simp [go_sem, kc, bump]) (by simp [go_sem, kc, bump]) (by simp [go_sem, kc, bump])) (by omega) (by simp at zk ⊢ <;> omega) ?_; intro v2 wb o2 k2 _; have zk2 := k2.hsize) | (refine step_u (s := .tmp 102) (x := .tmp 103) rfl rfl _ rfl o2 rfl (sk_reads (by assumption) rr6) (by omega) (by simp at zk zk2 ⊢ <;> omega) ?_; intro v3 wd o3 k3 _))
                    refine hK.out _ _ ?_ (fun hHeld => ?_)
                    · (try dsimp only); (first | assumption | exact sk_mk (below_drew (Below.refl _ _)) | (refine sk_mk (Below.alloc (And.right (by assumption)) (sk_size (by assumption)) _)) | exact sk_app (by assumption) (by assumption) (sk_size (by assumption)))
                    clear hK K
                    try simp only [Act.put, List.setIfInBounds_toArray, List.set_cons_zero, List.set_cons_succ]
                    refine wpAnyH_ready (rs := [7]) (by kernel_rfl) (by simp) ?_
                    refine AllReadyH.cons (o := ⟨_, _, _, _, _, _⟩) rfl (fun K hK => ?_) AllReadyH.nil
                    (first | (refine step_u (s := .tmp 95) (x := .tmp 98) rfl rfl _ rfl (xs := []) Owns.nil rfl (sk_reads (by assumption) rp6) (by omega) (Nat.le_refl _) ?_; intro v1 wa o1 k1 _; have kc := k1.all; have zk := k1.hsize) | (refine step_u (s := .tmp 99) (x := .tmp 101) rfl rfl _ rfl (by first | exact o1 | exact o1.alloc _) rfl (reads1 (bump z x) (by simp [go_sem, kc, bump]) (by simp [go_sem, kc, bump]) (by simp [go_sem, kc, bump]) (by simp [go_sem, kc, bump])) (by omega) (by simp at zk ⊢ <;> omega) ?_; intro v2 wb o2 k2 _; have zk2 := k2.hsize) | (refine step_u (s := .tmp 102) (x := .tmp 103) rfl rfl _ rfl o2 rfl (sk_reads (by assumption) rr6) (by omega) (by simp at zk zk2 ⊢ <;> omega) ?_; intro v3 wd o3 k3 _))
                    refine hK.out _ _ ?_ (fun hHeld => ?_)
                    · (try dsimp only); (first | assumption | exact sk_mk (below_drew (Below.refl _ _)) | (refine sk_mk (Below.alloc (And.right (by assumption)) (sk_size (by assumption)) _)) | exact sk_app (by assumption) (by assumption) (sk_size (by assumption)))
                    clear hK K
                    try simp only [Act.put, List.setIfInBounds_toArray, List.set_cons_zero, List.set_cons_succ]
                    refine wpAnyH_ready (rs := [9]) (by kernel_rfl) (by simp) ?_
                    refine AllReadyH.cons (o := ⟨_, _, _, _, _, _⟩) rfl (fun K hK => ?_) AllReadyH.nil
                    (first | (refine step_u (s := .tmp 95) (x := .tmp 98) rfl rfl _ rfl (xs := []) Owns.nil rfl (sk_reads (by assumption) rp6) (by omega) (Nat.le_refl _) ?_; intro v1 wa o1 k1 _; have kc := k1.all; have zk := k1.hsize) | (refine step_u (s := .tmp 99) (x := .tmp 101) rfl rfl _ rfl (by first | exact o1 | exact o1.alloc _) rfl (reads1 (bump z x) (by simp [go_sem, kc, bump]) (by simp [go_sem, kc, bump]) (by simp [go_sem, kc, bump]) (by simp [go_sem, kc, bump])) (by omega) (by simp at zk ⊢ <;> omega) ?_; intro v2 wb o2 k2 _; have zk2 := k2.hsize) | (refine step_u (s := .tmp 102) (x := .tmp 103) rfl rfl _ rfl o2 rfl (sk_reads (by assumption) rr6) (by omega) (by simp at zk zk2 ⊢ <;> omega) ?_; intro v3 wd o3 k3 _))
                    refine hK.out _ _ ?_ (fun hHeld => ?_)
                    · (try dsimp only); (first | assumption | exact sk_mk (below_drew (Below.refl _ _)) | (refine sk_mk (Below.alloc (And.right (by assumption)) (sk_size (by assumption)) _)) | exact sk_app (by assumption) (by assumption) (sk_size (by assumption)))
                    clear hK K
                    try simp only [Act.put, List.setIfInBounds_toArray, List.set_cons_zero, List.set_cons_succ]
                    refine wpAnyH_take (i := 10) (oi := ⟨_, _, _, _, _, _⟩) (v := ?v_8) rfl (by kernel_rfl) (by kernel_rfl) (by kernel_rfl) (fun _ _ _ h => h) (Or.inl ⟨by rfl, ?hy_8⟩) (by assumption) ?r_8
                    case hy_8 => (intro w_ hS_; (try dsimp only at hS_); go_simp; try with_reducible rfl)
                    try simp only [Act.put, List.setIfInBounds_toArray, List.set_cons_zero, List.set_cons_succ]
                    refine wpAnyH_take (i := 11) (oi := ⟨_, _, _, _, _, _⟩) (v := ?v_9) rfl (by kernel_rfl) (by kernel_rfl) (by kernel_rfl) (fun _ _ _ h => h) (Or.inl ⟨by rfl, ?hy_9⟩) (by assumption) ?r_9
                    case hy_9 => (intro w_ hS_; (try dsimp only at hS_); go_simp; try with_reducible rfl)
                    try simp only [Act.put, List.setIfInBounds_toArray, List.set_cons_zero, List.set_cons_succ]
                    refine wpAnyH_done (by kernel_rfl) ?_ _
                    (have bf := And.right (by assumption : (∀ b o, b < w6.heap.size → World.cell? _ ⟨b, o, none⟩ = w6.cell? ⟨b, o, none⟩) ∧ Below w6.heap.size w6 _); go_wp2; go_ret2; rw [HCL.out, HCE.out]; exact rclose o3 (by simp <;> omega) (b6.trans (bf.mono z6)) hti.out (rr6.rec_len ucells_len (by omega)).out)
                  refine AllReadyH.cons (o := ⟨_, _, _, _, _, _⟩) rfl (fun K hK => ?_) AllReadyH.nil
                  go_simp
                  refine hK.out _ _ ?_ (fun hHeld => ?_)
                  · (try dsimp only); (first | assumption | exact sk_mk (below_drew (Below.refl _ _)) | (refine sk_mk (Below.alloc (And.right (by assumption)) (sk_size (by assumption)) _)) | exact sk_app (by assumption) (by assumption) (sk_size (by assumption)))
                  clear hK K
                  try simp only [Act.put, List.setIfInBounds_toArray, List.set_cons_zero, List.set_cons_succ]
                  refine wpAnyH_ready (rs := [0]) (by kernel_rfl) (by simp) ?_
                  refine AllReadyH.cons (o := ⟨_, _, _, _, _, _⟩) rfl (fun K hK => ?_) AllReadyH.nil
                  go_simp
                  refine hK.out _ _ ?_ (fun hHeld => ?_)
                  · (try dsimp only); (first | assumption | exact sk_mk (below_drew (Below.refl _ _)) | (refine sk_mk (Below.alloc (And.right (by assumption)) (sk_size (by assumption)) _)) | exact sk_app (by assumption) (by assumption) (sk_size (by assumption)))
                  clear hK K
                  try simp only [Act.put, List.setIfInBounds_toArray, List.set_cons_zero, List.set_cons_succ]
                  refine wpAnyH_ready (rs := [4]) (by kernel_rfl) (by simp) ?_
                  refine AllReadyH.cons (o := ⟨_, _, _, _, _, _⟩) rfl (fun K hK => ?_) AllReadyH.nil
                  (first | (refine step_u (s := .tmp 95) (x := .tmp 98) rfl rfl _ rfl (xs := []) Owns.nil rfl (sk_reads (by assumption) rp6) (by omega) (Nat.le_refl _) ?_; intro v1 wa o1 k1 _; have kc := k1.all; have zk := k1.hsize) | (refine step_u (s := .tmp 99) (x := .tmp 101) rfl rfl _ rfl (by first | exact o1 | exact o1.alloc _) rfl (reads1 (bump z x) (by simp [go_sem, kc, bump]) (by simp [go_sem, kc, bump]) (by simp [go_sem, kc, bump]) (by simp [go_sem, kc, bump])) (by omega) (by simp at zk ⊢ <;> omega) ?_; intro v2 wb o2 k2 _; have zk2 := k2.hsize) | (refine step_u (s := .tmp 102) (x := .tmp 103) rfl rfl _ rfl o2 rfl (sk_reads (by assumption) rr6) (by omega) (by simp at zk zk2 ⊢ <;> omega) ?_; intro v3 wd o3 k3 _))
                  refine hK.out _ _ ?_ (fun hHeld => ?_)
                  · (try dsimp only); (first | assumption | exact sk_mk (below_drew (Below.refl _ _)) | (refine sk_mk (Below.alloc (And.right (by assumption)) (sk_size (by assumption)) _)) | exact sk_app (by assumption) (by assumption) (sk_size (by assumption)))
                  clear hK K
                  try simp only [Act.put, List.setIfInBounds_toArray, List.set_cons_zero, List.set_cons_succ]
                  refine wpAnyH_ready (rs := [7]) (by kernel_rfl) (by simp) ?_
                  refine AllReadyH.cons (o := ⟨_, _, _, _, _, _⟩) rfl (fun K hK => ?_) AllReadyH.nil
                  (first | (refine step_u (s := .tmp 95) (x := .tmp 98) rfl rfl _ rfl (xs := []) Owns.nil rfl (sk_reads (by assumption) rp6) (by omega) (Nat.le_refl _) ?_; intro v1 wa o1 k1 _; have kc := k1.all; have zk := k1.hsize) | (refine step_u (s := .tmp 99) (x := .tmp 101) rfl rfl _ rfl (by first | exact o1 | exact o1.alloc _) rfl (reads1 (bump z x) (by simp [go_sem, kc, bump]) (by simp [go_sem, kc, bump]) (by simp [go_sem, kc, bump]) (by simp [go_sem, kc, bump])) (by omega) (by simp at zk ⊢ <;> omega) ?_; intro v2 wb o2 k2 _; have zk2 := k2.hsize) | (refine step_u (s := .tmp 102) (x := .tmp 103) rfl rfl _ rfl o2 rfl (sk_reads (by assumption) rr6) (by omega) (by simp at zk zk2 ⊢ <;> omega) ?_; intro v3 wd o3 k3 _))
                  refine hK.out _ _ ?_ (fun hHeld => ?_)
                  · (try dsimp only); (first | assumption | exact sk_mk (below_drew (Below.refl _ _)) | (refine sk_mk (Below.alloc (And.right (by assumption)) (sk_size (by assumption)) _)) | exact sk_app (by assumption) (by assumption) (sk_size (by assumption)))
                  clear hK K
                  try simp only [Act.put, List.setIfInBounds_toArray, List.set_cons_zero, List.set_cons_succ]
                  refine wpAnyH_ready (rs := [9]) (by kernel_rfl) (by simp) ?_
                  refine AllReadyH.cons (o := ⟨_, _, _, _, _, _⟩) rfl (fun K hK => ?_) AllReadyH.nil
                  (first | (refine step_u (s := .tmp 95) (x := .tmp 98) rfl rfl _ rfl (xs := []) Owns.nil rfl (sk_reads (by assumption) rp6) (by omega) (Nat.le_refl _) ?_; intro v1 wa o1 k1 _; have kc := k1.all; have zk := k1.hsize) | (refine step_u (s := .tmp 99) (x := .tmp 101) rfl rfl _ rfl (by first | exact o1 | exact o1.alloc _) rfl (reads1 (bump z x) (by simp [go_sem, kc, bump]) (by simp [go_sem, kc, bump]) (by simp [go_sem, kc, bump]) (by simp [go_sem, kc, bump])) (by omega) (by simp at zk ⊢ <;> omega) ?_; intro v2 wb o2 k2 _; have zk2 := k2.hsize) | (refine step_u (s := .tmp 102) (x := .tmp 103) rfl rfl _ rfl o2 rfl (sk_reads (by assumption) rr6) (by omega) (by simp at zk zk2 ⊢ <;> omega) ?_; intro v3 wd o3 k3 _))
                  refine hK.out _ _ ?_ (fun hHeld => ?_)
                  · (try dsimp only); (first | assumption | exact sk_mk (below_drew (Below.refl _ _)) | (refine sk_mk (Below.alloc (And.right (by assumption)) (sk_size (by assumption)) _)) | exact sk_app (by assumption) (by assumption) (sk_size (by assumption)))
                  clear hK K
                  try simp only [Act.put, List.setIfInBounds_toArray, List.set_cons_zero, List.set_cons_succ]
                  refine wpAnyH_take (i := 10) (oi := ⟨_, _, _, _, _, _⟩) (v := ?v_10) rfl (by kernel_rfl) (by kernel_rfl) (by kernel_rfl) (fun _ _ _ h => h) (Or.inl ⟨by rfl, ?hy_10⟩) (by assumption) ?r_10
                  case hy_10 => (intro w_ hS_; (try dsimp only at hS_); go_simp; try with_reducible rfl)
                  try simp only [Act.put, List.setIfInBounds_toArray, List.set_cons_zero, List.set_cons_succ]
                  refine wpAnyH_take (i := 11) (oi := ⟨_, _, _, _, _, _⟩) (v := ?v_11) rfl (by kernel_rfl) (by kernel_rfl) (by kernel_rfl) (fun _ _ _ h => h) (Or.inl ⟨by rfl, ?hy_11⟩) (by assumption) ?r_11
                  case hy_11 => (intro w_ hS_; (try dsimp only at hS_); go_simp; try with_reducible rfl)
                  try simp only [Act.put, List.setIfInBounds_toArray, List.set_cons_zero, List.set_cons_succ]
                  refine wpAnyH_done (by kernel_rfl) ?_ _
                  (have bf := And.right (by assumption : (∀ b o, b < w6.heap.size → World.cell? _ ⟨b, o, none⟩ = w6.cell? ⟨b, o, none⟩) ∧ Below w6.heap.size w6 _); go_wp2; go_ret2; rw [HCL.out, HCE.out]; exact rclose o3 (by simp <;> omega) (b6.trans (bf.mono z6)) hti.out (rr6.rec_len ucells_len (by omega)).out)
            · rw [if_neg hci] at hrc
              clear hfull
              go_upto_if 71 with (fail)
              go_cut [12] (fun s wx => ∃ (A' : Option Addr) (n' c' : Nat) (x : U) (rs : List U), s = .slice A' n' c' ∧ AtX wx w1.heap.size B A' n' x rs ∧ Reads wx B 4 (some ⟨b, o, none⟩) n (recs ucells l) ∧ n' ≤ n ∧ Hid (chargeL l u.user u.acct z = l.take i ++ bump z x :: rs) ∧ Hid (chargeE l u.user u.acct z = 0) ∧ Below w.heap.size w wx)
              case first =>
                go_wp2_with (fail)
                go_meet
                refine ⟨_, _, _, u, l.drop (i + 1), rfl, ⟨?_, ?_, ?_, ?_, ?_, ?_, ?_⟩, ?_, by omega, hL0, hE0, ?_⟩
                · first | exact (((((hrc.setCell (Nat.le_trans hB hz1) _).setCell (Nat.le_trans hB hz1) _).setCell (Nat.le_trans hB hz1) _).setCell (Nat.le_trans hB hz1) _)) | simpa [add_plain] using (((((hrc.setCell (p := ⟨w1.heap.size, 0, none⟩) (Nat.le_trans hB hz1) _).setCell (p := ⟨w1.heap.size, 1, none⟩) (Nat.le_trans hB hz1) _).setCell (p := ⟨w1.heap.size, 2, none⟩) (Nat.le_trans hB hz1) _).setCell (p := ⟨w1.heap.size, 3, none⟩) (Nat.le_trans hB hz1) _))
                · exact (box4 x0 x1 x2 x3).1
                · exact (box4 x0 x1 x2 x3).2.1
                · exact (box4 x0 x1 x2 x3).2.2.1
                · exact (box4 x0 x1 x2 x3).2.2.2.1
                · intro j; rw [(box4 x0 x1 x2 x3).2.2.2.2 j]; exact HFF.out j
                · simpa using hw0
                · exact (((((hr5.setCell (by simp; omega) _).setCell (by simp; omega) _).setCell (by simp; omega) _).setCell (by simp; omega) _))
                · exact ((((bw5.setCell hz1 _).setCell hz1 _).setCell hz1 _).setCell hz1 _)
              case rest =>
                  obtain ⟨A', n', c', x, rs, rfl, ⟨rr, y0, y1, y2, y3, ff, hp⟩, rl, hn', HCL, HCE, b6⟩ := hcut
                  obtain ⟨w4, hw4⟩ : ∃ w4 : World, w4 = wc := ⟨_, rfl⟩
                  subst hw4
                  have g2 := ff 2
                  have g3 := ff 3
                  have HF2 := Lib.hid ff
                  clear ff
                  go_wp2_with (fail)
                  refine (rplus2 x.used z _ _ (by simp [go_sem]) (by simp [go_sem])).mono ?_
                  rintro e w7 ⟨rfl, hw7⟩
                  have z7 : w4.heap.size + 1 = w7.heap.size := by rw [← hw7]; simp
                  have v0 : w7.cell? ⟨w1.heap.size, 0, none⟩ = some (.string x.user) := by rw [← hw7, World.cell?_alloc_past _ _ _ hp]; exact y0
                  have v1 : w7.cell? ⟨w1.heap.size, 1, none⟩ = some (.string x.acct) := by rw [← hw7, World.cell?_alloc_past _ _ _ hp]; exact y1
                  have v2 : w7.cell? ⟨w1.heap.size, 2, none⟩ = some (.int .i64 x.used) := by rw [← hw7, World.cell?_alloc_past _ _ _ hp]; exact y2
                  have v3 : w7.cell? ⟨w1.heap.size, 3, none⟩ = some (.int .i64 x.share) := by rw [← hw7, World.cell?_alloc_past _ _ _ hp]; exact y3
                  have t2 : w7.frozen? ⟨w1.heap.size, 2, none⟩ = false := by rw [← hw7, World.frozen?_alloc_past _ _ _ hp]; exact g2
                  have t3 : w7.frozen? ⟨w1.heap.size, 3, none⟩ = false := by rw [← hw7, World.frozen?_alloc_past _ _ _ hp]; exact g3
                  have b7 : Below w.heap.size w w7 := by rw [← hw7]; exact b6.alloc b6.size _
                  have rr7 : Reads w7 B 4 A' n' (recs ucells rs) := by rw [← hw7]; exact rr.alloc (Nat.le_trans hB b6.size) _
                  have rl7 : Reads w7 B 4 (some ⟨b, o, none⟩) n (recs ucells l) := by rw [← hw7]; exact rl.alloc (Nat.le_trans hB b6.size) _
                  have hp7 : w1.heap.size < w7.heap.size := by omega
                  clear hw7 y0 y1 y2 y3 g2 g3 HF2 b6 rr rl z7 hp
                  go_wp2_with (fail)
                  refine (rplus2 x.share z _ _ (by simp [go_sem]) (by simp [go_sem])).mono ?_
                  rintro e w8 ⟨rfl, hw8⟩
                  have v0' : w8.cell? ⟨w1.heap.size, 0, none⟩ = some (.string x.user) := by rw [← hw8, World.cell?_alloc_past _ _ _ (by simpa using hp7), World.cell?_setCell_other _ _ _ _ (by simp)]; exact v0
                  have v1' : w8.cell? ⟨w1.heap.size, 1, none⟩ = some (.string x.acct) := by rw [← hw8, World.cell?_alloc_past _ _ _ (by simpa using hp7), World.cell?_setCell_other _ _ _ _ (by simp)]; exact v1
                  have v2' : w8.cell? ⟨w1.heap.size, 2, none⟩ = some (.int .i64 (addV 1000000000000 [x.used, z])) := by rw [← hw8, World.cell?_alloc_past _ _ _ (by simpa using hp7)]; exact World.cell?_setCell_same _ _ _ v2
                  have v3' : w8.cell? ⟨w1.heap.size, 3, none⟩ = some (.int .i64 x.share) := by rw [← hw8, World.cell?_alloc_past _ _ _ (by simpa using hp7), World.cell?_setCell_other _ _ _ _ (by simp)]; exact v3
                  have t3' : w8.frozen? ⟨w1.heap.size, 3, none⟩ = false := by rw [← hw8, World.frozen?_alloc_past _ _ _ (by simpa using hp7)]; simpa using t3
                  have b8 : Below w.heap.size w w8 := by rw [← hw8]; exact (b7.setCell hz1 _).alloc (by simpa using b7.size) _
                  have rr8 : Reads w8 B 4 A' n' (recs ucells rs) := by rw [← hw8]; exact (rr7.setCell (by simp; omega) _).alloc (by simpa using Nat.le_trans hB b7.size) _
                  have rl8 : Reads w8 B 4 (some ⟨b, o, none⟩) n (recs ucells l) := by rw [← hw8]; exact (rl7.setCell (by simp; omega) _).alloc (by simpa using Nat.le_trans hB b7.size) _
                  have hp8 : w1.heap.size < w8.heap.size := by rw [← hw8]; simp; omega
                  clear hw8 v0 v1 v2 v3 t2 t3 b7 rr7 rl7 hp7
                  go_wp2_with (fail)
                  refine wp_gen ?_
                  intro w6 hw6
                  have q0 : w6.cell? ⟨w1.heap.size, 0, none⟩ = some (.string x.user) := by rw [hw6, World.cell?_setCell_other _ _ _ _ (by simp)]; exact v0'
                  have q1 : w6.cell? ⟨w1.heap.size, 1, none⟩ = some (.string x.acct) := by rw [hw6, World.cell?_setCell_other _ _ _ _ (by simp)]; exact v1'
                  have q2 : w6.cell? ⟨w1.heap.size, 2, none⟩ = some (.int .i64 (addV 1000000000000 [x.used, z])) := by rw [hw6, World.cell?_setCell_other _ _ _ _ (by simp)]; exact v2'
                  have q3 : w6.cell? ⟨w1.heap.size, 3, none⟩ = some (.int .i64 (addV 1000000000000 [x.share, z])) := by rw [hw6]; exact World.cell?_setCell_same _ _ _ v3'
                  have b6 : Below w.heap.size w w6 := by rw [hw6]; exact b8.setCell hz1 _
                  have z6 := b6.size
                  have rr6 : Reads w6 w6.heap.size 4 A' n' (recs ucells rs) := by rw [hw6]; exact (rr8.setCell (by simp; omega) _).more (by simpa using Nat.le_trans hB b8.size)
                  have rp6 : Reads w6 w6.heap.size 4 (some ⟨b, o, none⟩) i (recs ucells (l.take i)) := by rw [hw6]; exact ((rl8.setCell (by simp; omega) _).prefix_ hi).more (by simpa using Nat.le_trans hB b8.size)
                  have hp6 : w1.heap.size < w6.heap.size := by rw [hw6]; simpa using hp8
                  have hi0 : (0 : Int) ≤ (i : Int) := by omega
                  have hi1 : (i : Int) ≤ (c : Int) := by omega
                  have hi2 : (i : Int) ≤ (n : Int) := by omega
                  clear hw6 v0' v1' v2' v3' t3' b8 rr8 rl8 hp8
                  refine wp_region_held_drew (S := (fun w' => (∀ b o, b < w6.heap.size → w'.cell? ⟨b, o, none⟩ = w6.cell? ⟨b, o, none⟩) ∧ Below w6.heap.size w6 w')) (by kernel_rfl) ?_ (fun hHeld => ?_)
                  · (try dsimp only); (first | assumption | exact sk_mk (below_drew (Below.refl _ _)) | (refine sk_mk (Below.alloc (And.right (by assumption)) (sk_size (by assumption)) _)) | exact sk_app (by assumption) (by assumption) (sk_size (by assumption)))
                  refine wpAnyH_take (i := 1) (oi := ⟨_, _, _, _, _, _⟩) (v := ?v_12) rfl (by kernel_rfl) (by kernel_rfl) (by kernel_rfl) (fun _ _ _ h => h) (Or.inl ⟨by rfl, ?hy_12⟩) (by assumption) ?r_12
                  case hy_12 => (intro w_ hS_; (try dsimp only at hS_); go_simp; try with_reducible rfl)
                  try simp only [Act.put, List.setIfInBounds_toArray, List.set_cons_zero, List.set_cons_succ]
                  refine wpAnyH_take (i := 2) (oi := ⟨_, _, _, _, _, _⟩) (v := ?v_13) rfl (by kernel_rfl) (by kernel_rfl) (by kernel_rfl) (fun _ _ _ h => h) (Or.inl ⟨by rfl, ?hy_13⟩) (by assumption) ?r_13
                  case hy_13 => (intro w_ hS_; (try dsimp only at hS_); go_simp; try with_reducible rfl)
                  try simp only [Act.put, List.setIfInBounds_toArray, List.set_cons_zero, List.set_cons_succ]
                  refine wpAnyH_take (i := 3) (oi := ⟨_, _, _, _, _, _⟩) (v := ?v_14) rfl (by kernel_rfl) (by kernel_rfl) (by kernel_rfl) (fun _ _ _ h => h) (Or.inl ⟨by rfl, ?hy_14⟩) (by assumption) ?r_14
                  case hy_14 => (intro w_ hS_; (try dsimp only at hS_); go_simp; try with_reducible rfl)
                  try simp only [Act.put, List.setIfInBounds_toArray, List.set_cons_zero, List.set_cons_succ]
                  refine wpAnyH_take (i := 5) (oi := ⟨_, _, _, _, _, _⟩) (v := ?v_15) rfl (by kernel_rfl) (by kernel_rfl) (by kernel_rfl) (fun _ _ _ h => h) (Or.inl ⟨by rfl, ?hy_15⟩) (by assumption) ?r_15
                  case hy_15 => (intro w_ hS_; (try dsimp only at hS_); go_simp; try with_reducible rfl)
                  try simp only [Act.put, List.setIfInBounds_toArray, List.set_cons_zero, List.set_cons_succ]
                  refine wpAnyH_take (i := 8) (oi := ⟨_, _, _, _, _, _⟩) (v := ?v_16) rfl (by kernel_rfl) (by kernel_rfl) (by kernel_rfl) (fun _ _ _ h => h) (Or.inl ⟨by rfl, ?hy_16⟩) (by assumption) ?r_16
                  case hy_16 => (intro w_ hS_; (try dsimp only at hS_); go_simp; try with_reducible rfl)
                  try simp only [Act.put, List.setIfInBounds_toArray, List.set_cons_zero, List.set_cons_succ]
                  refine wpAnyH_ready (rs := [0, 6]) (by kernel_rfl) (by simp) ?_
                  refine AllReadyH.cons (o := ⟨_, _, _, _, _, _⟩) rfl (fun K hK => ?_) ?_
                  · go_simp
                    refine hK.out _ _ ?_ (fun hHeld => ?_)
                    · (try dsimp only); (first | assumption | exact sk_mk (below_drew (Below.refl _ _)) | (refine sk_mk (Below.alloc (And.right (by assumption)) (sk_size (by assumption)) _)) | exact sk_app (by assumption) (by assumption) (sk_size (by assumption)))
                    clear hK K
                    try simp only [Act.put, List.setIfInBounds_toArray, List.set_cons_zero, List.set_cons_succ]
                    refine wpAnyH_ready (rs := [4, 6]) (by kernel_rfl) (by simp) ?_
                    refine AllReadyH.cons (o := ⟨_, _, _, _, _, _⟩) rfl (fun K hK => ?_) ?_
                    · (first | (refine step_u (s := .tmp 95) (x := .tmp 98) rfl rfl _ rfl (xs := []) Owns.nil rfl (sk_reads (by assumption) rp6) (by omega) (Nat.le_refl _) ?_; intro v1 wa o1 k1 _; have kc := k1.all; have zk := k1.hsize) | (refine step_u (s := .tmp 99) (x := .tmp 101) rfl rfl _ rfl (by first | exact o1 | exact o1.alloc _) rfl (reads1 (bump z x) (by simp [go_sem, kc, bump]) (by simp [go_sem, kc, bump]) (by simp [go_sem, kc, bump]) (by simp [go_sem, kc, bump])) (by omega) (by simp at zk ⊢ <;> omega) ?_; intro v2 wb o2 k2 _; have zk2 := k2.hsize) | (refine step_u (s := .tmp 102) (x := .tmp 103) rfl rfl _ rfl o2 rfl (sk_reads (by assumption) rr6) (by omega) (by simp at zk zk2 ⊢ <;> omega) ?_; intro v3 wd o3 k3 _))
                      refine hK.out _ _ ?_ (fun hHeld => ?_)
                      · (try dsimp only); (first | assumption | exact sk_mk (below_drew (Below.refl _ _)) | (refine sk_mk (Below.alloc (And.right (by assumption)) (sk_size (by assumption)) _)) | exact sk_app (by assumption) (by assumption) (sk_size (by assumption)))
                      clear hK K
                      try simp only [Act.put, List.setIfInBounds_toArray, List.set_cons_zero, List.set_cons_succ]
                      refine wpAnyH_ready (rs := [6]) (by kernel_rfl) (by simp) ?_
                      refine AllReadyH.cons (o := ⟨_, _, _, _, _, _⟩) rfl (fun K hK => ?_) AllReadyH.nil
                      go_simp
                      refine hK.out _ _ ?_ (fun hHeld => ?_)
                      · (try dsimp only); (first | assumption | exact sk_mk (below_drew (Below.refl _ _)) | (refine sk_mk (Below.alloc (And.right (by assumption)) (sk_size (by assumption)) _)) | exact sk_app (by assumption) (by assumption) (sk_size (by assumption)))
                      clear hK K
                      try simp only [Act.put, List.setIfInBounds_toArray, List.set_cons_zero, List.set_cons_succ]
                      refine wpAnyH_ready (rs := [7]) (by kernel_rfl) (by simp) ?_
                      refine AllReadyH.cons (o := ⟨_, _, _, _, _, _⟩) rfl (fun K hK => ?_) AllReadyH.nil
                      (first | (refine step_u (s := .tmp 95) (x := .tmp 98) rfl rfl _ rfl (xs := []) Owns.nil rfl (sk_reads (by assumption) rp6) (by omega) (Nat.le_refl _) ?_; intro v1 wa o1 k1 _; have kc := k1.all; have zk := k1.hsize) | (refine step_u (s := .tmp 99) (x := .tmp 101) rfl rfl _ rfl (by first | exact o1 | exact o1.alloc _) rfl (reads1 (bump z x) (by simp [go_sem, kc, bump]) (by simp [go_sem, kc, bump]) (by simp [go_sem, kc, bump]) (by simp [go_sem, kc, bump])) (by omega) (by simp at zk ⊢ <;> omega) ?_; intro v2 wb o2 k2 _; have zk2 := k2.hsize) | (refine step_u (s := .tmp 102) (x := .tmp 103) rfl rfl _ rfl o2 rfl (sk_reads (by assumption) rr6) (by omega) (by simp at zk zk2 ⊢ <;> omega) ?_; intro v3 wd o3 k3 _))
                      refine hK.out _ _ ?_ (fun hHeld => ?_)
                      · (try dsimp only); (first | assumption | exact sk_mk (below_drew (Below.refl _ _)) | (refine sk_mk (Below.alloc (And.right (by assumption)) (sk_size (by assumption)) _)) | exact sk_app (by assumption) (by assumption) (sk_size (by assumption)))
                      clear hK K
                      try simp only [Act.put, List.setIfInBounds_toArray, List.set_cons_zero, List.set_cons_succ]
                      refine wpAnyH_ready (rs := [9]) (by kernel_rfl) (by simp) ?_
                      refine AllReadyH.cons (o := ⟨_, _, _, _, _, _⟩) rfl (fun K hK => ?_) AllReadyH.nil
                      (first | (refine step_u (s := .tmp 95) (x := .tmp 98) rfl rfl _ rfl (xs := []) Owns.nil rfl (sk_reads (by assumption) rp6) (by omega) (Nat.le_refl _) ?_; intro v1 wa o1 k1 _; have kc := k1.all; have zk := k1.hsize) | (refine step_u (s := .tmp 99) (x := .tmp 101) rfl rfl _ rfl (by first | exact o1 | exact o1.alloc _) rfl (reads1 (bump z x) (by simp [go_sem, kc, bump]) (by simp [go_sem, kc, bump]) (by simp [go_sem, kc, bump]) (by simp [go_sem, kc, bump])) (by omega) (by simp at zk ⊢ <;> omega) ?_; intro v2 wb o2 k2 _; have zk2 := k2.hsize) | (refine step_u (s := .tmp 102) (x := .tmp 103) rfl rfl _ rfl o2 rfl (sk_reads (by assumption) rr6) (by omega) (by simp at zk zk2 ⊢ <;> omega) ?_; intro v3 wd o3 k3 _))
                      refine hK.out _ _ ?_ (fun hHeld => ?_)
                      · (try dsimp only); (first | assumption | exact sk_mk (below_drew (Below.refl _ _)) | (refine sk_mk (Below.alloc (And.right (by assumption)) (sk_size (by assumption)) _)) | exact sk_app (by assumption) (by assumption) (sk_size (by assumption)))
                      clear hK K
                      try simp only [Act.put, List.setIfInBounds_toArray, List.set_cons_zero, List.set_cons_succ]
                      refine wpAnyH_take (i := 10) (oi := ⟨_, _, _, _, _, _⟩) (v := ?v_17) rfl (by kernel_rfl) (by kernel_rfl) (by kernel_rfl) (fun _ _ _ h => h) (Or.inl ⟨by rfl, ?hy_17⟩) (by assumption) ?r_17
                      case hy_17 => (intro w_ hS_; (try dsimp only at hS_); go_simp; try with_reducible rfl)
                      try simp only [Act.put, List.setIfInBounds_toArray, List.set_cons_zero, List.set_cons_succ]
                      refine wpAnyH_take (i := 11) (oi := ⟨_, _, _, _, _, _⟩) (v := ?v_18) rfl (by kernel_rfl) (by kernel_rfl) (by kernel_rfl) (fun _ _ _ h => h) (Or.inl ⟨by rfl, ?hy_18⟩) (by assumption) ?r_18
                      case hy_18 => (intro w_ hS_; (try dsimp only at hS_); go_simp; try with_reducible rfl)
                      try simp only [Act.put, List.setIfInBounds_toArray, List.set_cons_zero, List.set_cons_succ]
                      refine wpAnyH_done (by kernel_rfl) ?_ _
                      (have bf := And.right (by assumption : (∀ b o, b < w6.heap.size → World.cell? _ ⟨b, o, none⟩ = w6.cell? ⟨b, o, none⟩) ∧ Below w6.heap.size w6 _); go_wp2; go_ret2; rw [HCL.out, HCE.out]; exact rclose o3 (by simp <;> omega) (b6.trans (bf.mono z6)) hti.out (rr6.rec_len ucells_len (by omega)).out)
                    refine AllReadyH.cons (o := ⟨_, _, _, _, _, _⟩) rfl (fun K hK => ?_) AllReadyH.nil
                    go_simp
                    refine hK.out _ _ ?_ (fun hHeld => ?_)
                    · (try dsimp only); (first | assumption | exact sk_mk (below_drew (Below.refl _ _)) | (refine sk_mk (Below.alloc (And.right (by assumption)) (sk_size (by assumption)) _)) | exact sk_app (by assumption) (by assumption) (sk_size (by assumption)))
                    clear hK K
                    try simp only [Act.put, List.setIfInBounds_toArray, List.set_cons_zero, List.set_cons_succ]
                    refine wpAnyH_ready (rs := [4]) (by kernel_rfl) (by simp) ?_
                    refine AllReadyH.cons (o := ⟨_, _, _, _, _, _⟩) rfl (fun K hK => ?_) AllReadyH.nil
                    (first | (refine step_u (s := .tmp 95) (x := .tmp 98) rfl rfl _ rfl (xs := []) Owns.nil rfl (sk_reads (by assumption) rp6) (by omega) (Nat.le_refl _) ?_; intro v1 wa o1 k1 _; have kc := k1.all; have zk := k1.hsize) | (refine step_u (s := .tmp 99) (x := .tmp 101) rfl rfl _ rfl (by first | exact o1 | exact o1.alloc _) rfl (reads1 (bump z x) (by simp [go_sem, kc, bump]) (by simp [go_sem, kc, bump]) (by simp [go_sem, kc, bump]) (by simp [go_sem, kc, bump])) (by omega) (by simp at zk ⊢ <;> omega) ?_; intro v2 wb o2 k2 _; have zk2 := k2.hsize) | (refine step_u (s := .tmp 102) (x := .tmp 103) rfl rfl _ rfl o2 rfl (sk_reads (by assumption) rr6) (by omega) (by simp at zk zk2 ⊢ <;> omega) ?_; intro v3 wd o3 k3 _))
                    refine hK.out _ _ ?_ (fun hHeld => ?_)
                    · (try dsimp only); (first | assumption | exact sk_mk (below_drew (Below.refl _ _)) | (refine sk_mk (Below.alloc (And.right (by assumption)) (sk_size (by assumption)) _)) | exact sk_app (by assumption) (by assumption) (sk_size (by assumption)))
                    clear hK K
                    try simp only [Act.put, List.setIfInBounds_toArray, List.set_cons_zero, List.set_cons_succ]
                    refine wpAnyH_ready (rs := [7]) (by kernel_rfl) (by simp) ?_
                    refine AllReadyH.cons (o := ⟨_, _, _, _, _, _⟩) rfl (fun K hK => ?_) AllReadyH.nil
                    (first | (refine step_u (s := .tmp 95) (x := .tmp 98) rfl rfl _ rfl (xs := []) Owns.nil rfl (sk_reads (by assumption) rp6) (by omega) (Nat.le_refl _) ?_; intro v1 wa o1 k1 _; have kc := k1.all; have zk := k1.hsize) | (refine step_u (s := .tmp 99) (x := .tmp 101) rfl rfl _ rfl (by first | exact o1 | exact o1.alloc _) rfl (reads1 (bump z x) (by simp [go_sem, kc, bump]) (by simp [go_sem, kc, bump]) (by simp [go_sem, kc, bump]) (by simp [go_sem, kc, bump])) (by omega) (by simp at zk ⊢ <;> omega) ?_; intro v2 wb o2 k2 _; have zk2 := k2.hsize) | (refine step_u (s := .tmp 102) (x := .tmp 103) rfl rfl _ rfl o2 rfl (sk_reads (by assumption) rr6) (by omega) (by simp at zk zk2 ⊢ <;> omega) ?_; intro v3 wd o3 k3 _))
                    refine hK.out _ _ ?_ (fun hHeld => ?_)
                    · (try dsimp only); (first | assumption | exact sk_mk (below_drew (Below.refl _ _)) | (refine sk_mk (Below.alloc (And.right (by assumption)) (sk_size (by assumption)) _)) | exact sk_app (by assumption) (by assumption) (sk_size (by assumption)))
                    clear hK K
                    try simp only [Act.put, List.setIfInBounds_toArray, List.set_cons_zero, List.set_cons_succ]
                    refine wpAnyH_ready (rs := [9]) (by kernel_rfl) (by simp) ?_
                    refine AllReadyH.cons (o := ⟨_, _, _, _, _, _⟩) rfl (fun K hK => ?_) AllReadyH.nil
                    (first | (refine step_u (s := .tmp 95) (x := .tmp 98) rfl rfl _ rfl (xs := []) Owns.nil rfl (sk_reads (by assumption) rp6) (by omega) (Nat.le_refl _) ?_; intro v1 wa o1 k1 _; have kc := k1.all; have zk := k1.hsize) | (refine step_u (s := .tmp 99) (x := .tmp 101) rfl rfl _ rfl (by first | exact o1 | exact o1.alloc _) rfl (reads1 (bump z x) (by simp [go_sem, kc, bump]) (by simp [go_sem, kc, bump]) (by simp [go_sem, kc, bump]) (by simp [go_sem, kc, bump])) (by omega) (by simp at zk ⊢ <;> omega) ?_; intro v2 wb o2 k2 _; have zk2 := k2.hsize) | (refine step_u (s := .tmp 102) (x := .tmp 103) rfl rfl _ rfl o2 rfl (sk_reads (by assumption) rr6) (by omega) (by simp at zk zk2 ⊢ <;> omega) ?_; intro v3 wd o3 k3 _))
                    refine hK.out _ _ ?_ (fun hHeld => ?_)
                    · (try dsimp only); (first | assumption | exact sk_mk (below_drew (Below.refl _ _)) | (refine sk_mk (Below.alloc (And.right (by assumption)) (sk_size (by assumption)) _)) | exact sk_app (by assumption) (by assumption) (sk_size (by assumption)))
                    clear hK K
                    try simp only [Act.put, List.setIfInBounds_toArray, List.set_cons_zero, List.set_cons_succ]
                    refine wpAnyH_take (i := 10) (oi := ⟨_, _, _, _, _, _⟩) (v := ?v_19) rfl (by kernel_rfl) (by kernel_rfl) (by kernel_rfl) (fun _ _ _ h => h) (Or.inl ⟨by rfl, ?hy_19⟩) (by assumption) ?r_19
                    case hy_19 => (intro w_ hS_; (try dsimp only at hS_); go_simp; try with_reducible rfl)
                    try simp only [Act.put, List.setIfInBounds_toArray, List.set_cons_zero, List.set_cons_succ]
                    refine wpAnyH_take (i := 11) (oi := ⟨_, _, _, _, _, _⟩) (v := ?v_20) rfl (by kernel_rfl) (by kernel_rfl) (by kernel_rfl) (fun _ _ _ h => h) (Or.inl ⟨by rfl, ?hy_20⟩) (by assumption) ?r_20
                    case hy_20 => (intro w_ hS_; (try dsimp only at hS_); go_simp; try with_reducible rfl)
                    try simp only [Act.put, List.setIfInBounds_toArray, List.set_cons_zero, List.set_cons_succ]
                    refine wpAnyH_done (by kernel_rfl) ?_ _
                    (have bf := And.right (by assumption : (∀ b o, b < w6.heap.size → World.cell? _ ⟨b, o, none⟩ = w6.cell? ⟨b, o, none⟩) ∧ Below w6.heap.size w6 _); go_wp2; go_ret2; rw [HCL.out, HCE.out]; exact rclose o3 (by simp <;> omega) (b6.trans (bf.mono z6)) hti.out (rr6.rec_len ucells_len (by omega)).out)
                  refine AllReadyH.cons (o := ⟨_, _, _, _, _, _⟩) rfl (fun K hK => ?_) AllReadyH.nil
                  go_simp
                  refine hK.out _ _ ?_ (fun hHeld => ?_)
                  · (try dsimp only); (first | assumption | exact sk_mk (below_drew (Below.refl _ _)) | (refine sk_mk (Below.alloc (And.right (by assumption)) (sk_size (by assumption)) _)) | exact sk_app (by assumption) (by assumption) (sk_size (by assumption)))
                  clear hK K
                  try simp only [Act.put, List.setIfInBounds_toArray, List.set_cons_zero, List.set_cons_succ]
                  refine wpAnyH_ready (rs := [0]) (by kernel_rfl) (by simp) ?_
                  refine AllReadyH.cons (o := ⟨_, _, _, _, _, _⟩) rfl (fun K hK => ?_) AllReadyH.nil
                  go_simp
                  refine hK.out _ _ ?_ (fun hHeld => ?_)
                  · (try dsimp only); (first | assumption | exact sk_mk (below_drew (Below.refl _ _)) | (refine sk_mk (Below.alloc (And.right (by assumption)) (sk_size (by assumption)) _)) | exact sk_app (by assumption) (by assumption) (sk_size (by assumption)))
                  clear hK K
                  try simp only [Act.put, List.setIfInBounds_toArray, List.set_cons_zero, List.set_cons_succ]
                  refine wpAnyH_ready (rs := [4]) (by kernel_rfl) (by simp) ?_
                  refine AllReadyH.cons (o := ⟨_, _, _, _, _, _⟩) rfl (fun K hK => ?_) AllReadyH.nil
                  (first | (refine step_u (s := .tmp 95) (x := .tmp 98) rfl rfl _ rfl (xs := []) Owns.nil rfl (sk_reads (by assumption) rp6) (by omega) (Nat.le_refl _) ?_; intro v1 wa o1 k1 _; have kc := k1.all; have zk := k1.hsize) | (refine step_u (s := .tmp 99) (x := .tmp 101) rfl rfl _ rfl (by first | exact o1 | exact o1.alloc _) rfl (reads1 (bump z x) (by simp [go_sem, kc, bump]) (by simp [go_sem, kc, bump]) (by simp [go_sem, kc, bump]) (by simp [go_sem, kc, bump])) (by omega) (by simp at zk ⊢ <;> omega) ?_; intro v2 wb o2 k2 _; have zk2 := k2.hsize) | (refine step_u (s := .tmp 102) (x := .tmp 103) rfl rfl _ rfl o2 rfl (sk_reads (by assumption) rr6) (by omega) (by simp at zk zk2 ⊢ <;> omega) ?_; intro v3 wd o3 k3 _))
                  refine hK.out _ _ ?_ (fun hHeld => ?_)
                  · (try dsimp only); (first | assumption | exact sk_mk (below_drew (Below.refl _ _)) | (refine sk_mk (Below.alloc (And.right (by assumption)) (sk_size (by assumption)) _)) | exact sk_app (by assumption) (by assumption) (sk_size (by assumption)))
                  clear hK K
                  try simp only [Act.put, List.setIfInBounds_toArray, List.set_cons_zero, List.set_cons_succ]
                  refine wpAnyH_ready (rs := [7]) (by kernel_rfl) (by simp) ?_
                  refine AllReadyH.cons (o := ⟨_, _, _, _, _, _⟩) rfl (fun K hK => ?_) AllReadyH.nil
                  (first | (refine step_u (s := .tmp 95) (x := .tmp 98) rfl rfl _ rfl (xs := []) Owns.nil rfl (sk_reads (by assumption) rp6) (by omega) (Nat.le_refl _) ?_; intro v1 wa o1 k1 _; have kc := k1.all; have zk := k1.hsize) | (refine step_u (s := .tmp 99) (x := .tmp 101) rfl rfl _ rfl (by first | exact o1 | exact o1.alloc _) rfl (reads1 (bump z x) (by simp [go_sem, kc, bump]) (by simp [go_sem, kc, bump]) (by simp [go_sem, kc, bump]) (by simp [go_sem, kc, bump])) (by omega) (by simp at zk ⊢ <;> omega) ?_; intro v2 wb o2 k2 _; have zk2 := k2.hsize) | (refine step_u (s := .tmp 102) (x := .tmp 103) rfl rfl _ rfl o2 rfl (sk_reads (by assumption) rr6) (by omega) (by simp at zk zk2 ⊢ <;> omega) ?_; intro v3 wd o3 k3 _))
                  refine hK.out _ _ ?_ (fun hHeld => ?_)
                  · (try dsimp only); (first | assumption | exact sk_mk (below_drew (Below.refl _ _)) | (refine sk_mk (Below.alloc (And.right (by assumption)) (sk_size (by assumption)) _)) | exact sk_app (by assumption) (by assumption) (sk_size (by assumption)))
                  clear hK K
                  try simp only [Act.put, List.setIfInBounds_toArray, List.set_cons_zero, List.set_cons_succ]
                  refine wpAnyH_ready (rs := [9]) (by kernel_rfl) (by simp) ?_
                  refine AllReadyH.cons (o := ⟨_, _, _, _, _, _⟩) rfl (fun K hK => ?_) AllReadyH.nil
                  (first | (refine step_u (s := .tmp 95) (x := .tmp 98) rfl rfl _ rfl (xs := []) Owns.nil rfl (sk_reads (by assumption) rp6) (by omega) (Nat.le_refl _) ?_; intro v1 wa o1 k1 _; have kc := k1.all; have zk := k1.hsize) | (refine step_u (s := .tmp 99) (x := .tmp 101) rfl rfl _ rfl (by first | exact o1 | exact o1.alloc _) rfl (reads1 (bump z x) (by simp [go_sem, kc, bump]) (by simp [go_sem, kc, bump]) (by simp [go_sem, kc, bump]) (by simp [go_sem, kc, bump])) (by omega) (by simp at zk ⊢ <;> omega) ?_; intro v2 wb o2 k2 _; have zk2 := k2.hsize) | (refine step_u (s := .tmp 102) (x := .tmp 103) rfl rfl _ rfl o2 rfl (sk_reads (by assumption) rr6) (by omega) (by simp at zk zk2 ⊢ <;> omega) ?_; intro v3 wd o3 k3 _))
                  refine hK.out _ _ ?_ (fun hHeld => ?_)
                  · (try dsimp only); (first | assumption | exact sk_mk (below_drew (Below.refl _ _)) | (refine sk_mk (Below.alloc (And.right (by assumption)) (sk_size (by assumption)) _)) | exact sk_app (by assumption) (by assumption) (sk_size (by assumption)))
                  clear hK K
                  try simp only [Act.put, List.setIfInBounds_toArray, List.set_cons_zero, List.set_cons_succ]
                  refine wpAnyH_take (i := 10) (oi := ⟨_, _, _, _, _, _⟩) (v := ?v_21) rfl (by kernel_rfl) (by kernel_rfl) (by kernel_rfl) (fun _ _ _ h => h) (Or.inl ⟨by rfl, ?hy_21⟩) (by assumption) ?r_21
                  case hy_21 => (intro w_ hS_; (try dsimp only at hS_); go_simp; try with_reducible rfl)
                  try simp only [Act.put, List.setIfInBounds_toArray, List.set_cons_zero, List.set_cons_succ]
                  refine wpAnyH_take (i := 11) (oi := ⟨_, _, _, _, _, _⟩) (v := ?v_22) rfl (by kernel_rfl) (by kernel_rfl) (by kernel_rfl) (fun _ _ _ h => h) (Or.inl ⟨by rfl, ?hy_22⟩) (by assumption) ?r_22
                  case hy_22 => (intro w_ hS_; (try dsimp only at hS_); go_simp; try with_reducible rfl)
                  try simp only [Act.put, List.setIfInBounds_toArray, List.set_cons_zero, List.set_cons_succ]
                  refine wpAnyH_done (by kernel_rfl) ?_ _
                  (have bf := And.right (by assumption : (∀ b o, b < w6.heap.size → World.cell? _ ⟨b, o, none⟩ = w6.cell? ⟨b, o, none⟩) ∧ Below w6.heap.size w6 _); go_wp2; go_ret2; rw [HCL.out, HCE.out]; exact rclose o3 (by simp <;> omega) (b6.trans (bf.mono z6)) hti.out (rr6.rec_len ucells_len (by omega)).out)
          · have k1 : (u.user.toList == user.toList) = true := by rw [beq_str]; simpa using e1
            have k2 : (u.acct.toList == acct.toList) = false := by rw [beq_str]; simpa using e2
            have hfo : foundU l (newU user acct) = false := by
              unfold foundU; rw [HI.out, hx.out]
              have : ordU u (newU user acct) ≠ 0 := fun h => e2 (ordU_zero.1 h).2
              simpa using this
            have hL0 : Hid (chargeL l user acct z = l.take i ++ bump z (newU user acct) :: l.drop i) := by
              show _ = _
              have hx0 : (l.take i ++ newU user acct :: l.drop i)[i]? = some (newU user acct) := by
                rw [List.getElem?_append_right (by rw [hti.out]; exact Nat.le_refl _), hti.out, Nat.sub_self]; rfl
              unfold chargeL baseL; rw [if_pos hE0.out, hfo, if_neg (by simp), HI.out, modify_set hx0, List.set_append_right _ _ (by rw [hti.out]; exact Nat.le_refl _), hti.out, Nat.sub_self]; rfl
            have hrc := hr5.cut (k := i) (by omega) hc
            rw [← recs_drop ucells_len] at hrc
            have h2 : ((n : Int) == 200) = false := by
              have : n ≠ 200 := fun h => hfull ⟨hfo, h⟩
              simp; omega
            have hck : ¬ c = i := by omega
            rw [if_neg hck] at hrc
            clear e1 e2
            clear hfull
            go_upto_if 71 with (fail)
            go_cut [12] (fun s wx => ∃ (A' : Option Addr) (n' c' : Nat) (x : U) (rs : List U), s = .slice A' n' c' ∧ AtX wx w1.heap.size B A' n' x rs ∧ Reads wx B 4 (some ⟨b, o, none⟩) n (recs ucells l) ∧ n' ≤ n ∧ Hid (chargeL l user acct z = l.take i ++ bump z x :: rs) ∧ Hid (chargeE l user acct z = 0) ∧ Below w.heap.size w wx)
            case first =>
              go_wp2_with (fail)
              go_meet
              refine ⟨_, _, _, newU user acct, l.drop i, rfl, ⟨?_, x0, x1, x2, x3, HFF.out, hw0⟩, hr5, by omega, hL0, hE0, bw5⟩
              simpa [add_plain] using hrc
            case rest =>
                obtain ⟨A', n', c', x, rs, rfl, ⟨rr, y0, y1, y2, y3, ff, hp⟩, rl, hn', HCL, HCE, b6⟩ := hcut
                obtain ⟨w4, hw4⟩ : ∃ w4 : World, w4 = wc := ⟨_, rfl⟩
                subst hw4
                have g2 := ff 2
                have g3 := ff 3
                have HF2 := Lib.hid ff
                clear ff
                go_wp2_with (fail)
                refine (rplus2 x.used z _ _ (by simp [go_sem]) (by simp [go_sem])).mono ?_
                rintro e w7 ⟨rfl, hw7⟩
                have z7 : w4.heap.size + 1 = w7.heap.size := by rw [← hw7]; simp
                have v0 : w7.cell? ⟨w1.heap.size, 0, none⟩ = some (.string x.user) := by rw [← hw7, World.cell?_alloc_past _ _ _ hp]; exact y0
                have v1 : w7.cell? ⟨w1.heap.size, 1, none⟩ = some (.string x.acct) := by rw [← hw7, World.cell?_alloc_past _ _ _ hp]; exact y1
                have v2 : w7.cell? ⟨w1.heap.size, 2, none⟩ = some (.int .i64 x.used) := by rw [← hw7, World.cell?_alloc_past _ _ _ hp]; exact y2
                have v3 : w7.cell? ⟨w1.heap.size, 3, none⟩ = some (.int .i64 x.share) := by rw [← hw7, World.cell?_alloc_past _ _ _ hp]; exact y3
                have t2 : w7.frozen? ⟨w1.heap.size, 2, none⟩ = false := by rw [← hw7, World.frozen?_alloc_past _ _ _ hp]; exact g2
                have t3 : w7.frozen? ⟨w1.heap.size, 3, none⟩ = false := by rw [← hw7, World.frozen?_alloc_past _ _ _ hp]; exact g3
                have b7 : Below w.heap.size w w7 := by rw [← hw7]; exact b6.alloc b6.size _
                have rr7 : Reads w7 B 4 A' n' (recs ucells rs) := by rw [← hw7]; exact rr.alloc (Nat.le_trans hB b6.size) _
                have rl7 : Reads w7 B 4 (some ⟨b, o, none⟩) n (recs ucells l) := by rw [← hw7]; exact rl.alloc (Nat.le_trans hB b6.size) _
                have hp7 : w1.heap.size < w7.heap.size := by omega
                clear hw7 y0 y1 y2 y3 g2 g3 HF2 b6 rr rl z7 hp
                go_wp2_with (fail)
                refine (rplus2 x.share z _ _ (by simp [go_sem]) (by simp [go_sem])).mono ?_
                rintro e w8 ⟨rfl, hw8⟩
                have v0' : w8.cell? ⟨w1.heap.size, 0, none⟩ = some (.string x.user) := by rw [← hw8, World.cell?_alloc_past _ _ _ (by simpa using hp7), World.cell?_setCell_other _ _ _ _ (by simp)]; exact v0
                have v1' : w8.cell? ⟨w1.heap.size, 1, none⟩ = some (.string x.acct) := by rw [← hw8, World.cell?_alloc_past _ _ _ (by simpa using hp7), World.cell?_setCell_other _ _ _ _ (by simp)]; exact v1
                have v2' : w8.cell? ⟨w1.heap.size, 2, none⟩ = some (.int .i64 (addV 1000000000000 [x.used, z])) := by rw [← hw8, World.cell?_alloc_past _ _ _ (by simpa using hp7)]; exact World.cell?_setCell_same _ _ _ v2
                have v3' : w8.cell? ⟨w1.heap.size, 3, none⟩ = some (.int .i64 x.share) := by rw [← hw8, World.cell?_alloc_past _ _ _ (by simpa using hp7), World.cell?_setCell_other _ _ _ _ (by simp)]; exact v3
                have t3' : w8.frozen? ⟨w1.heap.size, 3, none⟩ = false := by rw [← hw8, World.frozen?_alloc_past _ _ _ (by simpa using hp7)]; simpa using t3
                have b8 : Below w.heap.size w w8 := by rw [← hw8]; exact (b7.setCell hz1 _).alloc (by simpa using b7.size) _
                have rr8 : Reads w8 B 4 A' n' (recs ucells rs) := by rw [← hw8]; exact (rr7.setCell (by simp; omega) _).alloc (by simpa using Nat.le_trans hB b7.size) _
                have rl8 : Reads w8 B 4 (some ⟨b, o, none⟩) n (recs ucells l) := by rw [← hw8]; exact (rl7.setCell (by simp; omega) _).alloc (by simpa using Nat.le_trans hB b7.size) _
                have hp8 : w1.heap.size < w8.heap.size := by rw [← hw8]; simp; omega
                clear hw8 v0 v1 v2 v3 t2 t3 b7 rr7 rl7 hp7
                go_wp2_with (fail)
                refine wp_gen ?_
                intro w6 hw6
                have q0 : w6.cell? ⟨w1.heap.size, 0, none⟩ = some (.string x.user) := by rw [hw6, World.cell?_setCell_other _ _ _ _ (by simp)]; exact v0'
                have q1 : w6.cell? ⟨w1.heap.size, 1, none⟩ = some (.string x.acct) := by rw [hw6, World.cell?_setCell_other _ _ _ _ (by simp)]; exact v1'
                have q2 : w6.cell? ⟨w1.heap.size, 2, none⟩ = some (.int .i64 (addV 1000000000000 [x.used, z])) := by rw [hw6, World.cell?_setCell_other _ _ _ _ (by simp)]; exact v2'
                have q3 : w6.cell? ⟨w1.heap.size, 3, none⟩ = some (.int .i64 (addV 1000000000000 [x.share, z])) := by rw [hw6]; exact World.cell?_setCell_same _ _ _ v3'
                have b6 : Below w.heap.size w w6 := by rw [hw6]; exact b8.setCell hz1 _
                have z6 := b6.size
                have rr6 : Reads w6 w6.heap.size 4 A' n' (recs ucells rs) := by rw [hw6]; exact (rr8.setCell (by simp; omega) _).more (by simpa using Nat.le_trans hB b8.size)
                have rp6 : Reads w6 w6.heap.size 4 (some ⟨b, o, none⟩) i (recs ucells (l.take i)) := by rw [hw6]; exact ((rl8.setCell (by simp; omega) _).prefix_ hi).more (by simpa using Nat.le_trans hB b8.size)
                have hp6 : w1.heap.size < w6.heap.size := by rw [hw6]; simpa using hp8
                have hi0 : (0 : Int) ≤ (i : Int) := by omega
                have hi1 : (i : Int) ≤ (c : Int) := by omega
                have hi2 : (i : Int) ≤ (n : Int) := by omega
                clear hw6 v0' v1' v2' v3' t3' b8 rr8 rl8 hp8
                refine wp_region_held_drew (S := (fun w' => (∀ b o, b < w6.heap.size → w'.cell? ⟨b, o, none⟩ = w6.cell? ⟨b, o, none⟩) ∧ Below w6.heap.size w6 w')) (by kernel_rfl) ?_ (fun hHeld => ?_)
                · (try dsimp only); (first | assumption | exact sk_mk (below_drew (Below.refl _ _)) | (refine sk_mk (Below.alloc (And.right (by assumption)) (sk_size (by assumption)) _)) | exact sk_app (by assumption) (by assumption) (sk_size (by assumption)))
                refine wpAnyH_take (i := 1) (oi := ⟨_, _, _, _, _, _⟩) (v := ?v_23) rfl (by kernel_rfl) (by kernel_rfl) (by kernel_rfl) (fun _ _ _ h => h) (Or.inl ⟨by rfl, ?hy_23⟩) (by assumption) ?r_23
                case hy_23 => (intro w_ hS_; (try dsimp only at hS_); go_simp; try with_reducible rfl)
                try simp only [Act.put, List.setIfInBounds_toArray, List.set_cons_zero, List.set_cons_succ]
                refine wpAnyH_take (i := 2) (oi := ⟨_, _, _, _, _, _⟩) (v := ?v_24) rfl (by kernel_rfl) (by kernel_rfl) (by kernel_rfl) (fun _ _ _ h => h) (Or.inl ⟨by rfl, ?hy_24⟩) (by assumption) ?r_24
                case hy_24 => (intro w_ hS_; (try dsimp only at hS_); go_simp; try with_reducible rfl)
                try simp only [Act.put, List.setIfInBounds_toArray, List.set_cons_zero, List.set_cons_succ]
                refine wpAnyH_take (i := 3) (oi := ⟨_, _, _, _, _, _⟩) (v := ?v_25) rfl (by kernel_rfl) (by kernel_rfl) (by kernel_rfl) (fun _ _ _ h => h) (Or.inl ⟨by rfl, ?hy_25⟩) (by assumption) ?r_25
                case hy_25 => (intro w_ hS_; (try dsimp only at hS_); go_simp; try with_reducible rfl)
                try simp only [Act.put, List.setIfInBounds_toArray, List.set_cons_zero, List.set_cons_succ]
                refine wpAnyH_take (i := 5) (oi := ⟨_, _, _, _, _, _⟩) (v := ?v_26) rfl (by kernel_rfl) (by kernel_rfl) (by kernel_rfl) (fun _ _ _ h => h) (Or.inl ⟨by rfl, ?hy_26⟩) (by assumption) ?r_26
                case hy_26 => (intro w_ hS_; (try dsimp only at hS_); go_simp; try with_reducible rfl)
                try simp only [Act.put, List.setIfInBounds_toArray, List.set_cons_zero, List.set_cons_succ]
                refine wpAnyH_take (i := 8) (oi := ⟨_, _, _, _, _, _⟩) (v := ?v_27) rfl (by kernel_rfl) (by kernel_rfl) (by kernel_rfl) (fun _ _ _ h => h) (Or.inl ⟨by rfl, ?hy_27⟩) (by assumption) ?r_27
                case hy_27 => (intro w_ hS_; (try dsimp only at hS_); go_simp; try with_reducible rfl)
                try simp only [Act.put, List.setIfInBounds_toArray, List.set_cons_zero, List.set_cons_succ]
                refine wpAnyH_ready (rs := [0, 6]) (by kernel_rfl) (by simp) ?_
                refine AllReadyH.cons (o := ⟨_, _, _, _, _, _⟩) rfl (fun K hK => ?_) ?_
                · go_simp
                  refine hK.out _ _ ?_ (fun hHeld => ?_)
                  · (try dsimp only); (first | assumption | exact sk_mk (below_drew (Below.refl _ _)) | (refine sk_mk (Below.alloc (And.right (by assumption)) (sk_size (by assumption)) _)) | exact sk_app (by assumption) (by assumption) (sk_size (by assumption)))
                  clear hK K
                  try simp only [Act.put, List.setIfInBounds_toArray, List.set_cons_zero, List.set_cons_succ]
                  refine wpAnyH_ready (rs := [4, 6]) (by kernel_rfl) (by simp) ?_
                  refine AllReadyH.cons (o := ⟨_, _, _, _, _, _⟩) rfl (fun K hK => ?_) ?_
                  · (first | (refine step_u (s := .tmp 95) (x := .tmp 98) rfl rfl _ rfl (xs := []) Owns.nil rfl (sk_reads (by assumption) rp6) (by omega) (Nat.le_refl _) ?_; intro v1 wa o1 k1 _; have kc := k1.all; have zk := k1.hsize) | (refine step_u (s := .tmp 99) (x := .tmp 101) rfl rfl _ rfl (by first | exact o1 | exact o1.alloc _) rfl (reads1 (bump z x) (by simp [go_sem, kc, bump]) (by simp [go_sem, kc, bump]) (by simp [go_sem, kc, bump]) (by simp [go_sem, kc, bump])) (by omega) (by simp at zk ⊢ <;> omega) ?_; intro v2 wb o2 k2 _; have zk2 := k2.hsize) | (refine step_u (s := .tmp 102) (x := .tmp 103) rfl rfl _ rfl o2 rfl (sk_reads (by assumption) rr6) (by omega) (by simp at zk zk2 ⊢ <;> omega) ?_; intro v3 wd o3 k3 _))
                    refine hK.out _ _ ?_ (fun hHeld => ?_)
                    · (try dsimp only); (first | assumption | exact sk_mk (below_drew (Below.refl _ _)) | (refine sk_mk (Below.alloc (And.right (by assumption)) (sk_size (by assumption)) _)) | exact sk_app (by assumption) (by assumption) (sk_size (by assumption)))
                    clear hK K
                    try simp only [Act.put, List.setIfInBounds_toArray, List.set_cons_zero, List.set_cons_succ]
                    refine wpAnyH_ready (rs := [6]) (by kernel_rfl) (by simp) ?_
                    refine AllReadyH.cons (o := ⟨_, _, _, _, _, _⟩) rfl (fun K hK => ?_) AllReadyH.nil
                    go_simp
                    refine hK.out _ _ ?_ (fun hHeld => ?_)
                    · (try dsimp only); (first | assumption | exact sk_mk (below_drew (Below.refl _ _)) | (refine sk_mk (Below.alloc (And.right (by assumption)) (sk_size (by assumption)) _)) | exact sk_app (by assumption) (by assumption) (sk_size (by assumption)))
                    clear hK K
                    try simp only [Act.put, List.setIfInBounds_toArray, List.set_cons_zero, List.set_cons_succ]
                    refine wpAnyH_ready (rs := [7]) (by kernel_rfl) (by simp) ?_
                    refine AllReadyH.cons (o := ⟨_, _, _, _, _, _⟩) rfl (fun K hK => ?_) AllReadyH.nil
                    (first | (refine step_u (s := .tmp 95) (x := .tmp 98) rfl rfl _ rfl (xs := []) Owns.nil rfl (sk_reads (by assumption) rp6) (by omega) (Nat.le_refl _) ?_; intro v1 wa o1 k1 _; have kc := k1.all; have zk := k1.hsize) | (refine step_u (s := .tmp 99) (x := .tmp 101) rfl rfl _ rfl (by first | exact o1 | exact o1.alloc _) rfl (reads1 (bump z x) (by simp [go_sem, kc, bump]) (by simp [go_sem, kc, bump]) (by simp [go_sem, kc, bump]) (by simp [go_sem, kc, bump])) (by omega) (by simp at zk ⊢ <;> omega) ?_; intro v2 wb o2 k2 _; have zk2 := k2.hsize) | (refine step_u (s := .tmp 102) (x := .tmp 103) rfl rfl _ rfl o2 rfl (sk_reads (by assumption) rr6) (by omega) (by simp at zk zk2 ⊢ <;> omega) ?_; intro v3 wd o3 k3 _))
                    refine hK.out _ _ ?_ (fun hHeld => ?_)
                    · (try dsimp only); (first | assumption | exact sk_mk (below_drew (Below.refl _ _)) | (refine sk_mk (Below.alloc (And.right (by assumption)) (sk_size (by assumption)) _)) | exact sk_app (by assumption) (by assumption) (sk_size (by assumption)))
                    clear hK K
                    try simp only [Act.put, List.setIfInBounds_toArray, List.set_cons_zero, List.set_cons_succ]
                    refine wpAnyH_ready (rs := [9]) (by kernel_rfl) (by simp) ?_
                    refine AllReadyH.cons (o := ⟨_, _, _, _, _, _⟩) rfl (fun K hK => ?_) AllReadyH.nil
                    (first | (refine step_u (s := .tmp 95) (x := .tmp 98) rfl rfl _ rfl (xs := []) Owns.nil rfl (sk_reads (by assumption) rp6) (by omega) (Nat.le_refl _) ?_; intro v1 wa o1 k1 _; have kc := k1.all; have zk := k1.hsize) | (refine step_u (s := .tmp 99) (x := .tmp 101) rfl rfl _ rfl (by first | exact o1 | exact o1.alloc _) rfl (reads1 (bump z x) (by simp [go_sem, kc, bump]) (by simp [go_sem, kc, bump]) (by simp [go_sem, kc, bump]) (by simp [go_sem, kc, bump])) (by omega) (by simp at zk ⊢ <;> omega) ?_; intro v2 wb o2 k2 _; have zk2 := k2.hsize) | (refine step_u (s := .tmp 102) (x := .tmp 103) rfl rfl _ rfl o2 rfl (sk_reads (by assumption) rr6) (by omega) (by simp at zk zk2 ⊢ <;> omega) ?_; intro v3 wd o3 k3 _))
                    refine hK.out _ _ ?_ (fun hHeld => ?_)
                    · (try dsimp only); (first | assumption | exact sk_mk (below_drew (Below.refl _ _)) | (refine sk_mk (Below.alloc (And.right (by assumption)) (sk_size (by assumption)) _)) | exact sk_app (by assumption) (by assumption) (sk_size (by assumption)))
                    clear hK K
                    try simp only [Act.put, List.setIfInBounds_toArray, List.set_cons_zero, List.set_cons_succ]
                    refine wpAnyH_take (i := 10) (oi := ⟨_, _, _, _, _, _⟩) (v := ?v_28) rfl (by kernel_rfl) (by kernel_rfl) (by kernel_rfl) (fun _ _ _ h => h) (Or.inl ⟨by rfl, ?hy_28⟩) (by assumption) ?r_28
                    case hy_28 => (intro w_ hS_; (try dsimp only at hS_); go_simp; try with_reducible rfl)
                    try simp only [Act.put, List.setIfInBounds_toArray, List.set_cons_zero, List.set_cons_succ]
                    refine wpAnyH_take (i := 11) (oi := ⟨_, _, _, _, _, _⟩) (v := ?v_29) rfl (by kernel_rfl) (by kernel_rfl) (by kernel_rfl) (fun _ _ _ h => h) (Or.inl ⟨by rfl, ?hy_29⟩) (by assumption) ?r_29
                    case hy_29 => (intro w_ hS_; (try dsimp only at hS_); go_simp; try with_reducible rfl)
                    try simp only [Act.put, List.setIfInBounds_toArray, List.set_cons_zero, List.set_cons_succ]
                    refine wpAnyH_done (by kernel_rfl) ?_ _
                    (have bf := And.right (by assumption : (∀ b o, b < w6.heap.size → World.cell? _ ⟨b, o, none⟩ = w6.cell? ⟨b, o, none⟩) ∧ Below w6.heap.size w6 _); go_wp2; go_ret2; rw [HCL.out, HCE.out]; exact rclose o3 (by simp <;> omega) (b6.trans (bf.mono z6)) hti.out (rr6.rec_len ucells_len (by omega)).out)
                  refine AllReadyH.cons (o := ⟨_, _, _, _, _, _⟩) rfl (fun K hK => ?_) AllReadyH.nil
                  go_simp
                  refine hK.out _ _ ?_ (fun hHeld => ?_)
                  · (try dsimp only); (first | assumption | exact sk_mk (below_drew (Below.refl _ _)) | (refine sk_mk (Below.alloc (And.right (by assumption)) (sk_size (by assumption)) _)) | exact sk_app (by assumption) (by assumption) (sk_size (by assumption)))
                  clear hK K
                  try simp only [Act.put, List.setIfInBounds_toArray, List.set_cons_zero, List.set_cons_succ]
                  refine wpAnyH_ready (rs := [4]) (by kernel_rfl) (by simp) ?_
                  refine AllReadyH.cons (o := ⟨_, _, _, _, _, _⟩) rfl (fun K hK => ?_) AllReadyH.nil
                  (first | (refine step_u (s := .tmp 95) (x := .tmp 98) rfl rfl _ rfl (xs := []) Owns.nil rfl (sk_reads (by assumption) rp6) (by omega) (Nat.le_refl _) ?_; intro v1 wa o1 k1 _; have kc := k1.all; have zk := k1.hsize) | (refine step_u (s := .tmp 99) (x := .tmp 101) rfl rfl _ rfl (by first | exact o1 | exact o1.alloc _) rfl (reads1 (bump z x) (by simp [go_sem, kc, bump]) (by simp [go_sem, kc, bump]) (by simp [go_sem, kc, bump]) (by simp [go_sem, kc, bump])) (by omega) (by simp at zk ⊢ <;> omega) ?_; intro v2 wb o2 k2 _; have zk2 := k2.hsize) | (refine step_u (s := .tmp 102) (x := .tmp 103) rfl rfl _ rfl o2 rfl (sk_reads (by assumption) rr6) (by omega) (by simp at zk zk2 ⊢ <;> omega) ?_; intro v3 wd o3 k3 _))
                  refine hK.out _ _ ?_ (fun hHeld => ?_)
                  · (try dsimp only); (first | assumption | exact sk_mk (below_drew (Below.refl _ _)) | (refine sk_mk (Below.alloc (And.right (by assumption)) (sk_size (by assumption)) _)) | exact sk_app (by assumption) (by assumption) (sk_size (by assumption)))
                  clear hK K
                  try simp only [Act.put, List.setIfInBounds_toArray, List.set_cons_zero, List.set_cons_succ]
                  refine wpAnyH_ready (rs := [7]) (by kernel_rfl) (by simp) ?_
                  refine AllReadyH.cons (o := ⟨_, _, _, _, _, _⟩) rfl (fun K hK => ?_) AllReadyH.nil
                  (first | (refine step_u (s := .tmp 95) (x := .tmp 98) rfl rfl _ rfl (xs := []) Owns.nil rfl (sk_reads (by assumption) rp6) (by omega) (Nat.le_refl _) ?_; intro v1 wa o1 k1 _; have kc := k1.all; have zk := k1.hsize) | (refine step_u (s := .tmp 99) (x := .tmp 101) rfl rfl _ rfl (by first | exact o1 | exact o1.alloc _) rfl (reads1 (bump z x) (by simp [go_sem, kc, bump]) (by simp [go_sem, kc, bump]) (by simp [go_sem, kc, bump]) (by simp [go_sem, kc, bump])) (by omega) (by simp at zk ⊢ <;> omega) ?_; intro v2 wb o2 k2 _; have zk2 := k2.hsize) | (refine step_u (s := .tmp 102) (x := .tmp 103) rfl rfl _ rfl o2 rfl (sk_reads (by assumption) rr6) (by omega) (by simp at zk zk2 ⊢ <;> omega) ?_; intro v3 wd o3 k3 _))
                  refine hK.out _ _ ?_ (fun hHeld => ?_)
                  · (try dsimp only); (first | assumption | exact sk_mk (below_drew (Below.refl _ _)) | (refine sk_mk (Below.alloc (And.right (by assumption)) (sk_size (by assumption)) _)) | exact sk_app (by assumption) (by assumption) (sk_size (by assumption)))
                  clear hK K
                  try simp only [Act.put, List.setIfInBounds_toArray, List.set_cons_zero, List.set_cons_succ]
                  refine wpAnyH_ready (rs := [9]) (by kernel_rfl) (by simp) ?_
                  refine AllReadyH.cons (o := ⟨_, _, _, _, _, _⟩) rfl (fun K hK => ?_) AllReadyH.nil
                  (first | (refine step_u (s := .tmp 95) (x := .tmp 98) rfl rfl _ rfl (xs := []) Owns.nil rfl (sk_reads (by assumption) rp6) (by omega) (Nat.le_refl _) ?_; intro v1 wa o1 k1 _; have kc := k1.all; have zk := k1.hsize) | (refine step_u (s := .tmp 99) (x := .tmp 101) rfl rfl _ rfl (by first | exact o1 | exact o1.alloc _) rfl (reads1 (bump z x) (by simp [go_sem, kc, bump]) (by simp [go_sem, kc, bump]) (by simp [go_sem, kc, bump]) (by simp [go_sem, kc, bump])) (by omega) (by simp at zk ⊢ <;> omega) ?_; intro v2 wb o2 k2 _; have zk2 := k2.hsize) | (refine step_u (s := .tmp 102) (x := .tmp 103) rfl rfl _ rfl o2 rfl (sk_reads (by assumption) rr6) (by omega) (by simp at zk zk2 ⊢ <;> omega) ?_; intro v3 wd o3 k3 _))
                  refine hK.out _ _ ?_ (fun hHeld => ?_)
                  · (try dsimp only); (first | assumption | exact sk_mk (below_drew (Below.refl _ _)) | (refine sk_mk (Below.alloc (And.right (by assumption)) (sk_size (by assumption)) _)) | exact sk_app (by assumption) (by assumption) (sk_size (by assumption)))
                  clear hK K
                  try simp only [Act.put, List.setIfInBounds_toArray, List.set_cons_zero, List.set_cons_succ]
                  refine wpAnyH_take (i := 10) (oi := ⟨_, _, _, _, _, _⟩) (v := ?v_30) rfl (by kernel_rfl) (by kernel_rfl) (by kernel_rfl) (fun _ _ _ h => h) (Or.inl ⟨by rfl, ?hy_30⟩) (by assumption) ?r_30
                  case hy_30 => (intro w_ hS_; (try dsimp only at hS_); go_simp; try with_reducible rfl)
                  try simp only [Act.put, List.setIfInBounds_toArray, List.set_cons_zero, List.set_cons_succ]
                  refine wpAnyH_take (i := 11) (oi := ⟨_, _, _, _, _, _⟩) (v := ?v_31) rfl (by kernel_rfl) (by kernel_rfl) (by kernel_rfl) (fun _ _ _ h => h) (Or.inl ⟨by rfl, ?hy_31⟩) (by assumption) ?r_31
                  case hy_31 => (intro w_ hS_; (try dsimp only at hS_); go_simp; try with_reducible rfl)
                  try simp only [Act.put, List.setIfInBounds_toArray, List.set_cons_zero, List.set_cons_succ]
                  refine wpAnyH_done (by kernel_rfl) ?_ _
                  (have bf := And.right (by assumption : (∀ b o, b < w6.heap.size → World.cell? _ ⟨b, o, none⟩ = w6.cell? ⟨b, o, none⟩) ∧ Below w6.heap.size w6 _); go_wp2; go_ret2; rw [HCL.out, HCE.out]; exact rclose o3 (by simp <;> omega) (b6.trans (bf.mono z6)) hti.out (rr6.rec_len ucells_len (by omega)).out)
                refine AllReadyH.cons (o := ⟨_, _, _, _, _, _⟩) rfl (fun K hK => ?_) AllReadyH.nil
                go_simp
                refine hK.out _ _ ?_ (fun hHeld => ?_)
                · (try dsimp only); (first | assumption | exact sk_mk (below_drew (Below.refl _ _)) | (refine sk_mk (Below.alloc (And.right (by assumption)) (sk_size (by assumption)) _)) | exact sk_app (by assumption) (by assumption) (sk_size (by assumption)))
                clear hK K
                try simp only [Act.put, List.setIfInBounds_toArray, List.set_cons_zero, List.set_cons_succ]
                refine wpAnyH_ready (rs := [0]) (by kernel_rfl) (by simp) ?_
                refine AllReadyH.cons (o := ⟨_, _, _, _, _, _⟩) rfl (fun K hK => ?_) AllReadyH.nil
                go_simp
                refine hK.out _ _ ?_ (fun hHeld => ?_)
                · (try dsimp only); (first | assumption | exact sk_mk (below_drew (Below.refl _ _)) | (refine sk_mk (Below.alloc (And.right (by assumption)) (sk_size (by assumption)) _)) | exact sk_app (by assumption) (by assumption) (sk_size (by assumption)))
                clear hK K
                try simp only [Act.put, List.setIfInBounds_toArray, List.set_cons_zero, List.set_cons_succ]
                refine wpAnyH_ready (rs := [4]) (by kernel_rfl) (by simp) ?_
                refine AllReadyH.cons (o := ⟨_, _, _, _, _, _⟩) rfl (fun K hK => ?_) AllReadyH.nil
                (first | (refine step_u (s := .tmp 95) (x := .tmp 98) rfl rfl _ rfl (xs := []) Owns.nil rfl (sk_reads (by assumption) rp6) (by omega) (Nat.le_refl _) ?_; intro v1 wa o1 k1 _; have kc := k1.all; have zk := k1.hsize) | (refine step_u (s := .tmp 99) (x := .tmp 101) rfl rfl _ rfl (by first | exact o1 | exact o1.alloc _) rfl (reads1 (bump z x) (by simp [go_sem, kc, bump]) (by simp [go_sem, kc, bump]) (by simp [go_sem, kc, bump]) (by simp [go_sem, kc, bump])) (by omega) (by simp at zk ⊢ <;> omega) ?_; intro v2 wb o2 k2 _; have zk2 := k2.hsize) | (refine step_u (s := .tmp 102) (x := .tmp 103) rfl rfl _ rfl o2 rfl (sk_reads (by assumption) rr6) (by omega) (by simp at zk zk2 ⊢ <;> omega) ?_; intro v3 wd o3 k3 _))
                refine hK.out _ _ ?_ (fun hHeld => ?_)
                · (try dsimp only); (first | assumption | exact sk_mk (below_drew (Below.refl _ _)) | (refine sk_mk (Below.alloc (And.right (by assumption)) (sk_size (by assumption)) _)) | exact sk_app (by assumption) (by assumption) (sk_size (by assumption)))
                clear hK K
                try simp only [Act.put, List.setIfInBounds_toArray, List.set_cons_zero, List.set_cons_succ]
                refine wpAnyH_ready (rs := [7]) (by kernel_rfl) (by simp) ?_
                refine AllReadyH.cons (o := ⟨_, _, _, _, _, _⟩) rfl (fun K hK => ?_) AllReadyH.nil
                (first | (refine step_u (s := .tmp 95) (x := .tmp 98) rfl rfl _ rfl (xs := []) Owns.nil rfl (sk_reads (by assumption) rp6) (by omega) (Nat.le_refl _) ?_; intro v1 wa o1 k1 _; have kc := k1.all; have zk := k1.hsize) | (refine step_u (s := .tmp 99) (x := .tmp 101) rfl rfl _ rfl (by first | exact o1 | exact o1.alloc _) rfl (reads1 (bump z x) (by simp [go_sem, kc, bump]) (by simp [go_sem, kc, bump]) (by simp [go_sem, kc, bump]) (by simp [go_sem, kc, bump])) (by omega) (by simp at zk ⊢ <;> omega) ?_; intro v2 wb o2 k2 _; have zk2 := k2.hsize) | (refine step_u (s := .tmp 102) (x := .tmp 103) rfl rfl _ rfl o2 rfl (sk_reads (by assumption) rr6) (by omega) (by simp at zk zk2 ⊢ <;> omega) ?_; intro v3 wd o3 k3 _))
                refine hK.out _ _ ?_ (fun hHeld => ?_)
                · (try dsimp only); (first | assumption | exact sk_mk (below_drew (Below.refl _ _)) | (refine sk_mk (Below.alloc (And.right (by assumption)) (sk_size (by assumption)) _)) | exact sk_app (by assumption) (by assumption) (sk_size (by assumption)))
                clear hK K
                try simp only [Act.put, List.setIfInBounds_toArray, List.set_cons_zero, List.set_cons_succ]
                refine wpAnyH_ready (rs := [9]) (by kernel_rfl) (by simp) ?_
                refine AllReadyH.cons (o := ⟨_, _, _, _, _, _⟩) rfl (fun K hK => ?_) AllReadyH.nil
                (first | (refine step_u (s := .tmp 95) (x := .tmp 98) rfl rfl _ rfl (xs := []) Owns.nil rfl (sk_reads (by assumption) rp6) (by omega) (Nat.le_refl _) ?_; intro v1 wa o1 k1 _; have kc := k1.all; have zk := k1.hsize) | (refine step_u (s := .tmp 99) (x := .tmp 101) rfl rfl _ rfl (by first | exact o1 | exact o1.alloc _) rfl (reads1 (bump z x) (by simp [go_sem, kc, bump]) (by simp [go_sem, kc, bump]) (by simp [go_sem, kc, bump]) (by simp [go_sem, kc, bump])) (by omega) (by simp at zk ⊢ <;> omega) ?_; intro v2 wb o2 k2 _; have zk2 := k2.hsize) | (refine step_u (s := .tmp 102) (x := .tmp 103) rfl rfl _ rfl o2 rfl (sk_reads (by assumption) rr6) (by omega) (by simp at zk zk2 ⊢ <;> omega) ?_; intro v3 wd o3 k3 _))
                refine hK.out _ _ ?_ (fun hHeld => ?_)
                · (try dsimp only); (first | assumption | exact sk_mk (below_drew (Below.refl _ _)) | (refine sk_mk (Below.alloc (And.right (by assumption)) (sk_size (by assumption)) _)) | exact sk_app (by assumption) (by assumption) (sk_size (by assumption)))
                clear hK K
                try simp only [Act.put, List.setIfInBounds_toArray, List.set_cons_zero, List.set_cons_succ]
                refine wpAnyH_take (i := 10) (oi := ⟨_, _, _, _, _, _⟩) (v := ?v_32) rfl (by kernel_rfl) (by kernel_rfl) (by kernel_rfl) (fun _ _ _ h => h) (Or.inl ⟨by rfl, ?hy_32⟩) (by assumption) ?r_32
                case hy_32 => (intro w_ hS_; (try dsimp only at hS_); go_simp; try with_reducible rfl)
                try simp only [Act.put, List.setIfInBounds_toArray, List.set_cons_zero, List.set_cons_succ]
                refine wpAnyH_take (i := 11) (oi := ⟨_, _, _, _, _, _⟩) (v := ?v_33) rfl (by kernel_rfl) (by kernel_rfl) (by kernel_rfl) (fun _ _ _ h => h) (Or.inl ⟨by rfl, ?hy_33⟩) (by assumption) ?r_33
                case hy_33 => (intro w_ hS_; (try dsimp only at hS_); go_simp; try with_reducible rfl)
                try simp only [Act.put, List.setIfInBounds_toArray, List.set_cons_zero, List.set_cons_succ]
                refine wpAnyH_done (by kernel_rfl) ?_ _
                (have bf := And.right (by assumption : (∀ b o, b < w6.heap.size → World.cell? _ ⟨b, o, none⟩ = w6.cell? ⟨b, o, none⟩) ∧ Below w6.heap.size w6 _); go_wp2; go_ret2; rw [HCL.out, HCE.out]; exact rclose o3 (by simp <;> omega) (b6.trans (bf.mono z6)) hti.out (rr6.rec_len ucells_len (by omega)).out)
        · have k1 : (u.user.toList == user.toList) = false := by rw [beq_str]; simpa using e1
          have hfo : foundU l (newU user acct) = false := by
            unfold foundU; rw [HI.out, hx.out]
            have : ordU u (newU user acct) ≠ 0 := fun h => e1 (ordU_zero.1 h).1
            simpa using this
          have hL0 : Hid (chargeL l user acct z = l.take i ++ bump z (newU user acct) :: l.drop i) := by
            show _ = _
            have hx0 : (l.take i ++ newU user acct :: l.drop i)[i]? = some (newU user acct) := by
              rw [List.getElem?_append_right (by rw [hti.out]; exact Nat.le_refl _), hti.out, Nat.sub_self]; rfl
            unfold chargeL baseL; rw [if_pos hE0.out, hfo, if_neg (by simp), HI.out, modify_set hx0, List.set_append_right _ _ (by rw [hti.out]; exact Nat.le_refl _), hti.out, Nat.sub_self]; rfl
          have hrc := hr5.cut (k := i) (by omega) hc
          rw [← recs_drop ucells_len] at hrc
          have h2 : ((n : Int) == 200) = false := by
            have : n ≠ 200 := fun h => hfull ⟨hfo, h⟩
            simp; omega
          have hck : ¬ c = i := by omega
          rw [if_neg hck] at hrc
          clear e1
          clear hfull
          go_upto_if 71 with (fail)
          go_cut [12] (fun s wx => ∃ (A' : Option Addr) (n' c' : Nat) (x : U) (rs : List U), s = .slice A' n' c' ∧ AtX wx w1.heap.size B A' n' x rs ∧ Reads wx B 4 (some ⟨b, o, none⟩) n (recs ucells l) ∧ n' ≤ n ∧ Hid (chargeL l user acct z = l.take i ++ bump z x :: rs) ∧ Hid (chargeE l user acct z = 0) ∧ Below w.heap.size w wx)
          case first =>
            go_wp2_with (fail)
            go_meet
            refine ⟨_, _, _, newU user acct, l.drop i, rfl, ⟨?_, x0, x1, x2, x3, HFF.out, hw0⟩, hr5, by omega, hL0, hE0, bw5⟩
            simpa [add_plain] using hrc
          case rest =>
              obtain ⟨A', n', c', x, rs, rfl, ⟨rr, y0, y1, y2, y3, ff, hp⟩, rl, hn', HCL, HCE, b6⟩ := hcut
              obtain ⟨w4, hw4⟩ : ∃ w4 : World, w4 = wc := ⟨_, rfl⟩
              subst hw4
              have g2 := ff 2
              have g3 := ff 3
              have HF2 := Lib.hid ff
              clear ff
              go_wp2_with (fail)
              refine (rplus2 x.used z _ _ (by simp [go_sem]) (by simp [go_sem])).mono ?_
              rintro e w7 ⟨rfl, hw7⟩
              have z7 : w4.heap.size + 1 = w7.heap.size := by rw [← hw7]; simp
              have v0 : w7.cell? ⟨w1.heap.size, 0, none⟩ = some (.string x.user) := by rw [← hw7, World.cell?_alloc_past _ _ _ hp]; exact y0
              have v1 : w7.cell? ⟨w1.heap.size, 1, none⟩ = some (.string x.acct) := by rw [← hw7, World.cell?_alloc_past _ _ _ hp]; exact y1
              have v2 : w7.cell? ⟨w1.heap.size, 2, none⟩ = some (.int .i64 x.used) := by rw [← hw7, World.cell?_alloc_past _ _ _ hp]; exact y2
              have v3 : w7.cell? ⟨w1.heap.size, 3, none⟩ = some (.int .i64 x.share) := by rw [← hw7, World.cell?_alloc_past _ _ _ hp]; exact y3
              have t2 : w7.frozen? ⟨w1.heap.size, 2, none⟩ = false := by rw [← hw7, World.frozen?_alloc_past _ _ _ hp]; exact g2
              have t3 : w7.frozen? ⟨w1.heap.size, 3, none⟩ = false := by rw [← hw7, World.frozen?_alloc_past _ _ _ hp]; exact g3
              have b7 : Below w.heap.size w w7 := by rw [← hw7]; exact b6.alloc b6.size _
              have rr7 : Reads w7 B 4 A' n' (recs ucells rs) := by rw [← hw7]; exact rr.alloc (Nat.le_trans hB b6.size) _
              have rl7 : Reads w7 B 4 (some ⟨b, o, none⟩) n (recs ucells l) := by rw [← hw7]; exact rl.alloc (Nat.le_trans hB b6.size) _
              have hp7 : w1.heap.size < w7.heap.size := by omega
              clear hw7 y0 y1 y2 y3 g2 g3 HF2 b6 rr rl z7 hp
              go_wp2_with (fail)
              refine (rplus2 x.share z _ _ (by simp [go_sem]) (by simp [go_sem])).mono ?_
              rintro e w8 ⟨rfl, hw8⟩
              have v0' : w8.cell? ⟨w1.heap.size, 0, none⟩ = some (.string x.user) := by rw [← hw8, World.cell?_alloc_past _ _ _ (by simpa using hp7), World.cell?_setCell_other _ _ _ _ (by simp)]; exact v0
              have v1' : w8.cell? ⟨w1.heap.size, 1, none⟩ = some (.string x.acct) := by rw [← hw8, World.cell?_alloc_past _ _ _ (by simpa using hp7), World.cell?_setCell_other _ _ _ _ (by simp)]; exact v1
              have v2' : w8.cell? ⟨w1.heap.size, 2, none⟩ = some (.int .i64 (addV 1000000000000 [x.used, z])) := by rw [← hw8, World.cell?_alloc_past _ _ _ (by simpa using hp7)]; exact World.cell?_setCell_same _ _ _ v2
              have v3' : w8.cell? ⟨w1.heap.size, 3, none⟩ = some (.int .i64 x.share) := by rw [← hw8, World.cell?_alloc_past _ _ _ (by simpa using hp7), World.cell?_setCell_other _ _ _ _ (by simp)]; exact v3
              have t3' : w8.frozen? ⟨w1.heap.size, 3, none⟩ = false := by rw [← hw8, World.frozen?_alloc_past _ _ _ (by simpa using hp7)]; simpa using t3
              have b8 : Below w.heap.size w w8 := by rw [← hw8]; exact (b7.setCell hz1 _).alloc (by simpa using b7.size) _
              have rr8 : Reads w8 B 4 A' n' (recs ucells rs) := by rw [← hw8]; exact (rr7.setCell (by simp; omega) _).alloc (by simpa using Nat.le_trans hB b7.size) _
              have rl8 : Reads w8 B 4 (some ⟨b, o, none⟩) n (recs ucells l) := by rw [← hw8]; exact (rl7.setCell (by simp; omega) _).alloc (by simpa using Nat.le_trans hB b7.size) _
              have hp8 : w1.heap.size < w8.heap.size := by rw [← hw8]; simp; omega
              clear hw8 v0 v1 v2 v3 t2 t3 b7 rr7 rl7 hp7
              go_wp2_with (fail)
              refine wp_gen ?_
              intro w6 hw6
              have q0 : w6.cell? ⟨w1.heap.size, 0, none⟩ = some (.string x.user) := by rw [hw6, World.cell?_setCell_other _ _ _ _ (by simp)]; exact v0'
              have q1 : w6.cell? ⟨w1.heap.size, 1, none⟩ = some (.string x.acct) := by rw [hw6, World.cell?_setCell_other _ _ _ _ (by simp)]; exact v1'
              have q2 : w6.cell? ⟨w1.heap.size, 2, none⟩ = some (.int .i64 (addV 1000000000000 [x.used, z])) := by rw [hw6, World.cell?_setCell_other _ _ _ _ (by simp)]; exact v2'
              have q3 : w6.cell? ⟨w1.heap.size, 3, none⟩ = some (.int .i64 (addV 1000000000000 [x.share, z])) := by rw [hw6]; exact World.cell?_setCell_same _ _ _ v3'
              have b6 : Below w.heap.size w w6 := by rw [hw6]; exact b8.setCell hz1 _
              have z6 := b6.size
              have rr6 : Reads w6 w6.heap.size 4 A' n' (recs ucells rs) := by rw [hw6]; exact (rr8.setCell (by simp; omega) _).more (by simpa using Nat.le_trans hB b8.size)
              have rp6 : Reads w6 w6.heap.size 4 (some ⟨b, o, none⟩) i (recs ucells (l.take i)) := by rw [hw6]; exact ((rl8.setCell (by simp; omega) _).prefix_ hi).more (by simpa using Nat.le_trans hB b8.size)
              have hp6 : w1.heap.size < w6.heap.size := by rw [hw6]; simpa using hp8
              have hi0 : (0 : Int) ≤ (i : Int) := by omega
              have hi1 : (i : Int) ≤ (c : Int) := by omega
              have hi2 : (i : Int) ≤ (n : Int) := by omega
              clear hw6 v0' v1' v2' v3' t3' b8 rr8 rl8 hp8
              refine wp_region_held_drew (S := (fun w' => (∀ b o, b < w6.heap.size → w'.cell? ⟨b, o, none⟩ = w6.cell? ⟨b, o, none⟩) ∧ Below w6.heap.size w6 w')) (by kernel_rfl) ?_ (fun hHeld => ?_)
              · (try dsimp only); (first | assumption | exact sk_mk (below_drew (Below.refl _ _)) | (refine sk_mk (Below.alloc (And.right (by assumption)) (sk_size (by assumption)) _)) | exact sk_app (by assumption) (by assumption) (sk_size (by assumption)))
              refine wpAnyH_take (i := 1) (oi := ⟨_, _, _, _, _, _⟩) (v := ?v_34) rfl (by kernel_rfl) (by kernel_rfl) (by kernel_rfl) (fun _ _ _ h => h) (Or.inl ⟨by rfl, ?hy_34⟩) (by assumption) ?r_34
              case hy_34 => (intro w_ hS_; (try dsimp only at hS_); go_simp; try with_reducible rfl)
              try simp only [Act.put, List.setIfInBounds_toArray, List.set_cons_zero, List.set_cons_succ]
              refine wpAnyH_take (i := 2) (oi := ⟨_, _, _, _, _, _⟩) (v := ?v_35) rfl (by kernel_rfl) (by kernel_rfl) (by kernel_rfl) (fun _ _ _ h => h) (Or.inl ⟨by rfl, ?hy_35⟩) (by assumption) ?r_35
              case hy_35 => (intro w_ hS_; (try dsimp only at hS_); go_simp; try with_reducible rfl)
              try simp only [Act.put, List.setIfInBounds_toArray, List.set_cons_zero, List.set_cons_succ]
              refine wpAnyH_take (i := 3) (oi := ⟨_, _, _, _, _, _⟩) (v := ?v_36) rfl (by kernel_rfl) (by kernel_rfl) (by kernel_rfl) (fun _ _ _ h => h) (Or.inl ⟨by rfl, ?hy_36⟩) (by assumption) ?r_36
              case hy_36 => (intro w_ hS_; (try dsimp only at hS_); go_simp; try with_reducible rfl)
              try simp only [Act.put, List.setIfInBounds_toArray, List.set_cons_zero, List.set_cons_succ]
              refine wpAnyH_take (i := 5) (oi := ⟨_, _, _, _, _, _⟩) (v := ?v_37) rfl (by kernel_rfl) (by kernel_rfl) (by kernel_rfl) (fun _ _ _ h => h) (Or.inl ⟨by rfl, ?hy_37⟩) (by assumption) ?r_37
              case hy_37 => (intro w_ hS_; (try dsimp only at hS_); go_simp; try with_reducible rfl)
              try simp only [Act.put, List.setIfInBounds_toArray, List.set_cons_zero, List.set_cons_succ]
              refine wpAnyH_take (i := 8) (oi := ⟨_, _, _, _, _, _⟩) (v := ?v_38) rfl (by kernel_rfl) (by kernel_rfl) (by kernel_rfl) (fun _ _ _ h => h) (Or.inl ⟨by rfl, ?hy_38⟩) (by assumption) ?r_38
              case hy_38 => (intro w_ hS_; (try dsimp only at hS_); go_simp; try with_reducible rfl)
              try simp only [Act.put, List.setIfInBounds_toArray, List.set_cons_zero, List.set_cons_succ]
              refine wpAnyH_ready (rs := [0, 6]) (by kernel_rfl) (by simp) ?_
              refine AllReadyH.cons (o := ⟨_, _, _, _, _, _⟩) rfl (fun K hK => ?_) ?_
              · go_simp
                refine hK.out _ _ ?_ (fun hHeld => ?_)
                · (try dsimp only); (first | assumption | exact sk_mk (below_drew (Below.refl _ _)) | (refine sk_mk (Below.alloc (And.right (by assumption)) (sk_size (by assumption)) _)) | exact sk_app (by assumption) (by assumption) (sk_size (by assumption)))
                clear hK K
                try simp only [Act.put, List.setIfInBounds_toArray, List.set_cons_zero, List.set_cons_succ]
                refine wpAnyH_ready (rs := [4, 6]) (by kernel_rfl) (by simp) ?_
                refine AllReadyH.cons (o := ⟨_, _, _, _, _, _⟩) rfl (fun K hK => ?_) ?_
                · (first | (refine step_u (s := .tmp 95) (x := .tmp 98) rfl rfl _ rfl (xs := []) Owns.nil rfl (sk_reads (by assumption) rp6) (by omega) (Nat.le_refl _) ?_; intro v1 wa o1 k1 _; have kc := k1.all; have zk := k1.hsize) | (refine step_u (s := .tmp 99) (x := .tmp 101) rfl rfl _ rfl (by first | exact o1 | exact o1.alloc _) rfl (reads1 (bump z x) (by simp [go_sem, kc, bump]) (by simp [go_sem, kc, bump]) (by simp [go_sem, kc, bump]) (by simp [go_sem, kc, bump])) (by omega) (by simp at zk ⊢ <;> omega) ?_; intro v2 wb o2 k2 _; have zk2 := k2.hsize) | (refine step_u (s := .tmp 102) (x := .tmp 103) rfl rfl _ rfl o2 rfl (sk_reads (by assumption) rr6) (by omega) (by simp at zk zk2 ⊢ <;> omega) ?_; intro v3 wd o3 k3 _))
                  refine hK.out _ _ ?_ (fun hHeld => ?_)
                  · (try dsimp only); (first | assumption | exact sk_mk (below_drew (Below.refl _ _)) | (refine sk_mk (Below.alloc (And.right (by assumption)) (sk_size (by assumption)) _)) | exact sk_app (by assumption) (by assumption) (sk_size (by assumption)))
                  clear hK K
                  try simp only [Act.put, List.setIfInBounds_toArray, List.set_cons_zero, List.set_cons_succ]
                  refine wpAnyH_ready (rs := [6]) (by kernel_rfl) (by simp) ?_
                  refine AllReadyH.cons (o := ⟨_, _, _, _, _, _⟩) rfl (fun K hK => ?_) AllReadyH.nil
                  go_simp
                  refine hK.out _ _ ?_ (fun hHeld => ?_)
                  · (try dsimp only); (first | assumption | exact sk_mk (below_drew (Below.refl _ _)) | (refine sk_mk (Below.alloc (And.right (by assumption)) (sk_size (by assumption)) _)) | exact sk_app (by assumption) (by assumption) (sk_size (by assumption)))
                  clear hK K
                  try simp only [Act.put, List.setIfInBounds_toArray, List.set_cons_zero, List.set_cons_succ]
                  refine wpAnyH_ready (rs := [7]) (by kernel_rfl) (by simp) ?_
                  refine AllReadyH.cons (o := ⟨_, _, _, _, _, _⟩) rfl (fun K hK => ?_) AllReadyH.nil
                  (first | (refine step_u (s := .tmp 95) (x := .tmp 98) rfl rfl _ rfl (xs := []) Owns.nil rfl (sk_reads (by assumption) rp6) (by omega) (Nat.le_refl _) ?_; intro v1 wa o1 k1 _; have kc := k1.all; have zk := k1.hsize) | (refine step_u (s := .tmp 99) (x := .tmp 101) rfl rfl _ rfl (by first | exact o1 | exact o1.alloc _) rfl (reads1 (bump z x) (by simp [go_sem, kc, bump]) (by simp [go_sem, kc, bump]) (by simp [go_sem, kc, bump]) (by simp [go_sem, kc, bump])) (by omega) (by simp at zk ⊢ <;> omega) ?_; intro v2 wb o2 k2 _; have zk2 := k2.hsize) | (refine step_u (s := .tmp 102) (x := .tmp 103) rfl rfl _ rfl o2 rfl (sk_reads (by assumption) rr6) (by omega) (by simp at zk zk2 ⊢ <;> omega) ?_; intro v3 wd o3 k3 _))
                  refine hK.out _ _ ?_ (fun hHeld => ?_)
                  · (try dsimp only); (first | assumption | exact sk_mk (below_drew (Below.refl _ _)) | (refine sk_mk (Below.alloc (And.right (by assumption)) (sk_size (by assumption)) _)) | exact sk_app (by assumption) (by assumption) (sk_size (by assumption)))
                  clear hK K
                  try simp only [Act.put, List.setIfInBounds_toArray, List.set_cons_zero, List.set_cons_succ]
                  refine wpAnyH_ready (rs := [9]) (by kernel_rfl) (by simp) ?_
                  refine AllReadyH.cons (o := ⟨_, _, _, _, _, _⟩) rfl (fun K hK => ?_) AllReadyH.nil
                  (first | (refine step_u (s := .tmp 95) (x := .tmp 98) rfl rfl _ rfl (xs := []) Owns.nil rfl (sk_reads (by assumption) rp6) (by omega) (Nat.le_refl _) ?_; intro v1 wa o1 k1 _; have kc := k1.all; have zk := k1.hsize) | (refine step_u (s := .tmp 99) (x := .tmp 101) rfl rfl _ rfl (by first | exact o1 | exact o1.alloc _) rfl (reads1 (bump z x) (by simp [go_sem, kc, bump]) (by simp [go_sem, kc, bump]) (by simp [go_sem, kc, bump]) (by simp [go_sem, kc, bump])) (by omega) (by simp at zk ⊢ <;> omega) ?_; intro v2 wb o2 k2 _; have zk2 := k2.hsize) | (refine step_u (s := .tmp 102) (x := .tmp 103) rfl rfl _ rfl o2 rfl (sk_reads (by assumption) rr6) (by omega) (by simp at zk zk2 ⊢ <;> omega) ?_; intro v3 wd o3 k3 _))
                  refine hK.out _ _ ?_ (fun hHeld => ?_)
                  · (try dsimp only); (first | assumption | exact sk_mk (below_drew (Below.refl _ _)) | (refine sk_mk (Below.alloc (And.right (by assumption)) (sk_size (by assumption)) _)) | exact sk_app (by assumption) (by assumption) (sk_size (by assumption)))
                  clear hK K
                  try simp only [Act.put, List.setIfInBounds_toArray, List.set_cons_zero, List.set_cons_succ]
                  refine wpAnyH_take (i := 10) (oi := ⟨_, _, _, _, _, _⟩) (v := ?v_39) rfl (by kernel_rfl) (by kernel_rfl) (by kernel_rfl) (fun _ _ _ h => h) (Or.inl ⟨by rfl, ?hy_39⟩) (by assumption) ?r_39
                  case hy_39 => (intro w_ hS_; (try dsimp only at hS_); go_simp; try with_reducible rfl)
                  try simp only [Act.put, List.setIfInBounds_toArray, List.set_cons_zero, List.set_cons_succ]
                  refine wpAnyH_take (i := 11) (oi := ⟨_, _, _, _, _, _⟩) (v := ?v_40) rfl (by kernel_rfl) (by kernel_rfl) (by kernel_rfl) (fun _ _ _ h => h) (Or.inl ⟨by rfl, ?hy_40⟩) (by assumption) ?r_40
                  case hy_40 => (intro w_ hS_; (try dsimp only at hS_); go_simp; try with_reducible rfl)
                  try simp only [Act.put, List.setIfInBounds_toArray, List.set_cons_zero, List.set_cons_succ]
                  refine wpAnyH_done (by kernel_rfl) ?_ _
                  (have bf := And.right (by assumption : (∀ b o, b < w6.heap.size → World.cell? _ ⟨b, o, none⟩ = w6.cell? ⟨b, o, none⟩) ∧ Below w6.heap.size w6 _); go_wp2; go_ret2; rw [HCL.out, HCE.out]; exact rclose o3 (by simp <;> omega) (b6.trans (bf.mono z6)) hti.out (rr6.rec_len ucells_len (by omega)).out)
                refine AllReadyH.cons (o := ⟨_, _, _, _, _, _⟩) rfl (fun K hK => ?_) AllReadyH.nil
                go_simp
                refine hK.out _ _ ?_ (fun hHeld => ?_)
                · (try dsimp only); (first | assumption | exact sk_mk (below_drew (Below.refl _ _)) | (refine sk_mk (Below.alloc (And.right (by assumption)) (sk_size (by assumption)) _)) | exact sk_app (by assumption) (by assumption) (sk_size (by assumption)))
                clear hK K
                try simp only [Act.put, List.setIfInBounds_toArray, List.set_cons_zero, List.set_cons_succ]
                refine wpAnyH_ready (rs := [4]) (by kernel_rfl) (by simp) ?_
                refine AllReadyH.cons (o := ⟨_, _, _, _, _, _⟩) rfl (fun K hK => ?_) AllReadyH.nil
                (first | (refine step_u (s := .tmp 95) (x := .tmp 98) rfl rfl _ rfl (xs := []) Owns.nil rfl (sk_reads (by assumption) rp6) (by omega) (Nat.le_refl _) ?_; intro v1 wa o1 k1 _; have kc := k1.all; have zk := k1.hsize) | (refine step_u (s := .tmp 99) (x := .tmp 101) rfl rfl _ rfl (by first | exact o1 | exact o1.alloc _) rfl (reads1 (bump z x) (by simp [go_sem, kc, bump]) (by simp [go_sem, kc, bump]) (by simp [go_sem, kc, bump]) (by simp [go_sem, kc, bump])) (by omega) (by simp at zk ⊢ <;> omega) ?_; intro v2 wb o2 k2 _; have zk2 := k2.hsize) | (refine step_u (s := .tmp 102) (x := .tmp 103) rfl rfl _ rfl o2 rfl (sk_reads (by assumption) rr6) (by omega) (by simp at zk zk2 ⊢ <;> omega) ?_; intro v3 wd o3 k3 _))
                refine hK.out _ _ ?_ (fun hHeld => ?_)
                · (try dsimp only); (first | assumption | exact sk_mk (below_drew (Below.refl _ _)) | (refine sk_mk (Below.alloc (And.right (by assumption)) (sk_size (by assumption)) _)) | exact sk_app (by assumption) (by assumption) (sk_size (by assumption)))
                clear hK K
                try simp only [Act.put, List.setIfInBounds_toArray, List.set_cons_zero, List.set_cons_succ]
                refine wpAnyH_ready (rs := [7]) (by kernel_rfl) (by simp) ?_
                refine AllReadyH.cons (o := ⟨_, _, _, _, _, _⟩) rfl (fun K hK => ?_) AllReadyH.nil
                (first | (refine step_u (s := .tmp 95) (x := .tmp 98) rfl rfl _ rfl (xs := []) Owns.nil rfl (sk_reads (by assumption) rp6) (by omega) (Nat.le_refl _) ?_; intro v1 wa o1 k1 _; have kc := k1.all; have zk := k1.hsize) | (refine step_u (s := .tmp 99) (x := .tmp 101) rfl rfl _ rfl (by first | exact o1 | exact o1.alloc _) rfl (reads1 (bump z x) (by simp [go_sem, kc, bump]) (by simp [go_sem, kc, bump]) (by simp [go_sem, kc, bump]) (by simp [go_sem, kc, bump])) (by omega) (by simp at zk ⊢ <;> omega) ?_; intro v2 wb o2 k2 _; have zk2 := k2.hsize) | (refine step_u (s := .tmp 102) (x := .tmp 103) rfl rfl _ rfl o2 rfl (sk_reads (by assumption) rr6) (by omega) (by simp at zk zk2 ⊢ <;> omega) ?_; intro v3 wd o3 k3 _))
                refine hK.out _ _ ?_ (fun hHeld => ?_)
                · (try dsimp only); (first | assumption | exact sk_mk (below_drew (Below.refl _ _)) | (refine sk_mk (Below.alloc (And.right (by assumption)) (sk_size (by assumption)) _)) | exact sk_app (by assumption) (by assumption) (sk_size (by assumption)))
                clear hK K
                try simp only [Act.put, List.setIfInBounds_toArray, List.set_cons_zero, List.set_cons_succ]
                refine wpAnyH_ready (rs := [9]) (by kernel_rfl) (by simp) ?_
                refine AllReadyH.cons (o := ⟨_, _, _, _, _, _⟩) rfl (fun K hK => ?_) AllReadyH.nil
                (first | (refine step_u (s := .tmp 95) (x := .tmp 98) rfl rfl _ rfl (xs := []) Owns.nil rfl (sk_reads (by assumption) rp6) (by omega) (Nat.le_refl _) ?_; intro v1 wa o1 k1 _; have kc := k1.all; have zk := k1.hsize) | (refine step_u (s := .tmp 99) (x := .tmp 101) rfl rfl _ rfl (by first | exact o1 | exact o1.alloc _) rfl (reads1 (bump z x) (by simp [go_sem, kc, bump]) (by simp [go_sem, kc, bump]) (by simp [go_sem, kc, bump]) (by simp [go_sem, kc, bump])) (by omega) (by simp at zk ⊢ <;> omega) ?_; intro v2 wb o2 k2 _; have zk2 := k2.hsize) | (refine step_u (s := .tmp 102) (x := .tmp 103) rfl rfl _ rfl o2 rfl (sk_reads (by assumption) rr6) (by omega) (by simp at zk zk2 ⊢ <;> omega) ?_; intro v3 wd o3 k3 _))
                refine hK.out _ _ ?_ (fun hHeld => ?_)
                · (try dsimp only); (first | assumption | exact sk_mk (below_drew (Below.refl _ _)) | (refine sk_mk (Below.alloc (And.right (by assumption)) (sk_size (by assumption)) _)) | exact sk_app (by assumption) (by assumption) (sk_size (by assumption)))
                clear hK K
                try simp only [Act.put, List.setIfInBounds_toArray, List.set_cons_zero, List.set_cons_succ]
                refine wpAnyH_take (i := 10) (oi := ⟨_, _, _, _, _, _⟩) (v := ?v_41) rfl (by kernel_rfl) (by kernel_rfl) (by kernel_rfl) (fun _ _ _ h => h) (Or.inl ⟨by rfl, ?hy_41⟩) (by assumption) ?r_41
                case hy_41 => (intro w_ hS_; (try dsimp only at hS_); go_simp; try with_reducible rfl)
                try simp only [Act.put, List.setIfInBounds_toArray, List.set_cons_zero, List.set_cons_succ]
                refine wpAnyH_take (i := 11) (oi := ⟨_, _, _, _, _, _⟩) (v := ?v_42) rfl (by kernel_rfl) (by kernel_rfl) (by kernel_rfl) (fun _ _ _ h => h) (Or.inl ⟨by rfl, ?hy_42⟩) (by assumption) ?r_42
                case hy_42 => (intro w_ hS_; (try dsimp only at hS_); go_simp; try with_reducible rfl)
                try simp only [Act.put, List.setIfInBounds_toArray, List.set_cons_zero, List.set_cons_succ]
                refine wpAnyH_done (by kernel_rfl) ?_ _
                (have bf := And.right (by assumption : (∀ b o, b < w6.heap.size → World.cell? _ ⟨b, o, none⟩ = w6.cell? ⟨b, o, none⟩) ∧ Below w6.heap.size w6 _); go_wp2; go_ret2; rw [HCL.out, HCE.out]; exact rclose o3 (by simp <;> omega) (b6.trans (bf.mono z6)) hti.out (rr6.rec_len ucells_len (by omega)).out)
              refine AllReadyH.cons (o := ⟨_, _, _, _, _, _⟩) rfl (fun K hK => ?_) AllReadyH.nil
              go_simp
              refine hK.out _ _ ?_ (fun hHeld => ?_)
              · (try dsimp only); (first | assumption | exact sk_mk (below_drew (Below.refl _ _)) | (refine sk_mk (Below.alloc (And.right (by assumption)) (sk_size (by assumption)) _)) | exact sk_app (by assumption) (by assumption) (sk_size (by assumption)))
              clear hK K
              try simp only [Act.put, List.setIfInBounds_toArray, List.set_cons_zero, List.set_cons_succ]
              refine wpAnyH_ready (rs := [0]) (by kernel_rfl) (by simp) ?_
              refine AllReadyH.cons (o := ⟨_, _, _, _, _, _⟩) rfl (fun K hK => ?_) AllReadyH.nil
              go_simp
              refine hK.out _ _ ?_ (fun hHeld => ?_)
              · (try dsimp only); (first | assumption | exact sk_mk (below_drew (Below.refl _ _)) | (refine sk_mk (Below.alloc (And.right (by assumption)) (sk_size (by assumption)) _)) | exact sk_app (by assumption) (by assumption) (sk_size (by assumption)))
              clear hK K
              try simp only [Act.put, List.setIfInBounds_toArray, List.set_cons_zero, List.set_cons_succ]
              refine wpAnyH_ready (rs := [4]) (by kernel_rfl) (by simp) ?_
              refine AllReadyH.cons (o := ⟨_, _, _, _, _, _⟩) rfl (fun K hK => ?_) AllReadyH.nil
              (first | (refine step_u (s := .tmp 95) (x := .tmp 98) rfl rfl _ rfl (xs := []) Owns.nil rfl (sk_reads (by assumption) rp6) (by omega) (Nat.le_refl _) ?_; intro v1 wa o1 k1 _; have kc := k1.all; have zk := k1.hsize) | (refine step_u (s := .tmp 99) (x := .tmp 101) rfl rfl _ rfl (by first | exact o1 | exact o1.alloc _) rfl (reads1 (bump z x) (by simp [go_sem, kc, bump]) (by simp [go_sem, kc, bump]) (by simp [go_sem, kc, bump]) (by simp [go_sem, kc, bump])) (by omega) (by simp at zk ⊢ <;> omega) ?_; intro v2 wb o2 k2 _; have zk2 := k2.hsize) | (refine step_u (s := .tmp 102) (x := .tmp 103) rfl rfl _ rfl o2 rfl (sk_reads (by assumption) rr6) (by omega) (by simp at zk zk2 ⊢ <;> omega) ?_; intro v3 wd o3 k3 _))
              refine hK.out _ _ ?_ (fun hHeld => ?_)
              · (try dsimp only); (first | assumption | exact sk_mk (below_drew (Below.refl _ _)) | (refine sk_mk (Below.alloc (And.right (by assumption)) (sk_size (by assumption)) _)) | exact sk_app (by assumption) (by assumption) (sk_size (by assumption)))
              clear hK K
              try simp only [Act.put, List.setIfInBounds_toArray, List.set_cons_zero, List.set_cons_succ]
              refine wpAnyH_ready (rs := [7]) (by kernel_rfl) (by simp) ?_
              refine AllReadyH.cons (o := ⟨_, _, _, _, _, _⟩) rfl (fun K hK => ?_) AllReadyH.nil
              (first | (refine step_u (s := .tmp 95) (x := .tmp 98) rfl rfl _ rfl (xs := []) Owns.nil rfl (sk_reads (by assumption) rp6) (by omega) (Nat.le_refl _) ?_; intro v1 wa o1 k1 _; have kc := k1.all; have zk := k1.hsize) | (refine step_u (s := .tmp 99) (x := .tmp 101) rfl rfl _ rfl (by first | exact o1 | exact o1.alloc _) rfl (reads1 (bump z x) (by simp [go_sem, kc, bump]) (by simp [go_sem, kc, bump]) (by simp [go_sem, kc, bump]) (by simp [go_sem, kc, bump])) (by omega) (by simp at zk ⊢ <;> omega) ?_; intro v2 wb o2 k2 _; have zk2 := k2.hsize) | (refine step_u (s := .tmp 102) (x := .tmp 103) rfl rfl _ rfl o2 rfl (sk_reads (by assumption) rr6) (by omega) (by simp at zk zk2 ⊢ <;> omega) ?_; intro v3 wd o3 k3 _))
              refine hK.out _ _ ?_ (fun hHeld => ?_)
              · (try dsimp only); (first | assumption | exact sk_mk (below_drew (Below.refl _ _)) | (refine sk_mk (Below.alloc (And.right (by assumption)) (sk_size (by assumption)) _)) | exact sk_app (by assumption) (by assumption) (sk_size (by assumption)))
              clear hK K
              try simp only [Act.put, List.setIfInBounds_toArray, List.set_cons_zero, List.set_cons_succ]
              refine wpAnyH_ready (rs := [9]) (by kernel_rfl) (by simp) ?_
              refine AllReadyH.cons (o := ⟨_, _, _, _, _, _⟩) rfl (fun K hK => ?_) AllReadyH.nil
              (first | (refine step_u (s := .tmp 95) (x := .tmp 98) rfl rfl _ rfl (xs := []) Owns.nil rfl (sk_reads (by assumption) rp6) (by omega) (Nat.le_refl _) ?_; intro v1 wa o1 k1 _; have kc := k1.all; have zk := k1.hsize) | (refine step_u (s := .tmp 99) (x := .tmp 101) rfl rfl _ rfl (by first | exact o1 | exact o1.alloc _) rfl (reads1 (bump z x) (by simp [go_sem, kc, bump]) (by simp [go_sem, kc, bump]) (by simp [go_sem, kc, bump]) (by simp [go_sem, kc, bump])) (by omega) (by simp at zk ⊢ <;> omega) ?_; intro v2 wb o2 k2 _; have zk2 := k2.hsize) | (refine step_u (s := .tmp 102) (x := .tmp 103) rfl rfl _ rfl o2 rfl (sk_reads (by assumption) rr6) (by omega) (by simp at zk zk2 ⊢ <;> omega) ?_; intro v3 wd o3 k3 _))
              refine hK.out _ _ ?_ (fun hHeld => ?_)
              · (try dsimp only); (first | assumption | exact sk_mk (below_drew (Below.refl _ _)) | (refine sk_mk (Below.alloc (And.right (by assumption)) (sk_size (by assumption)) _)) | exact sk_app (by assumption) (by assumption) (sk_size (by assumption)))
              clear hK K
              try simp only [Act.put, List.setIfInBounds_toArray, List.set_cons_zero, List.set_cons_succ]
              refine wpAnyH_take (i := 10) (oi := ⟨_, _, _, _, _, _⟩) (v := ?v_43) rfl (by kernel_rfl) (by kernel_rfl) (by kernel_rfl) (fun _ _ _ h => h) (Or.inl ⟨by rfl, ?hy_43⟩) (by assumption) ?r_43
              case hy_43 => (intro w_ hS_; (try dsimp only at hS_); go_simp; try with_reducible rfl)
              try simp only [Act.put, List.setIfInBounds_toArray, List.set_cons_zero, List.set_cons_succ]
              refine wpAnyH_take (i := 11) (oi := ⟨_, _, _, _, _, _⟩) (v := ?v_44) rfl (by kernel_rfl) (by kernel_rfl) (by kernel_rfl) (fun _ _ _ h => h) (Or.inl ⟨by rfl, ?hy_44⟩) (by assumption) ?r_44
              case hy_44 => (intro w_ hS_; (try dsimp only at hS_); go_simp; try with_reducible rfl)
              try simp only [Act.put, List.setIfInBounds_toArray, List.set_cons_zero, List.set_cons_succ]
              refine wpAnyH_done (by kernel_rfl) ?_ _
              (have bf := And.right (by assumption : (∀ b o, b < w6.heap.size → World.cell? _ ⟨b, o, none⟩ = w6.cell? ⟨b, o, none⟩) ∧ Below w6.heap.size w6 _); go_wp2; go_ret2; rw [HCL.out, HCE.out]; exact rclose o3 (by simp <;> omega) (b6.trans (bf.mono z6)) hti.out (rr6.rec_len ucells_len (by omega)).out)
      · obtain rfl : n = i := by omega
        have hj2 : decide (n < n) = false := by simp
        have hfo : foundU l (newU user acct) = false := by unfold foundU; rw [HI.out, List.getElem?_eq_none (by have := hlen.out; omega)]
        have hL0 : Hid (chargeL l user acct z = l.take n ++ bump z (newU user acct) :: l.drop n) := by
          show _ = _
          have hx0 : (l.take n ++ newU user acct :: l.drop n)[n]? = some (newU user acct) := by
            rw [List.getElem?_append_right (by rw [hti.out]; exact Nat.le_refl _), hti.out, Nat.sub_self]; rfl
          unfold chargeL baseL; rw [if_pos hE0.out, hfo, if_neg (by simp), HI.out, modify_set hx0, List.set_append_right _ _ (by rw [hti.out]; exact Nat.le_refl _), hti.out, Nat.sub_self]; rfl
        have hrc := hr5.cut (k := n) (by omega) hc
        rw [← recs_drop ucells_len] at hrc
        have h2 : ((n : Int) == 200) = false := by
          have : n ≠ 200 := fun h => hfull ⟨hfo, h⟩
          simp; omega
        by_cases hck : c = n
        · subst hck
          rw [if_pos rfl] at hrc
          clear hfull
          go_upto_if 71 with (fail)
          go_cut [12] (fun s wx => ∃ (A' : Option Addr) (n' c' : Nat) (x : U) (rs : List U), s = .slice A' n' c' ∧ AtX wx w1.heap.size B A' n' x rs ∧ Reads wx B 4 A c (recs ucells l) ∧ n' ≤ c ∧ Hid (chargeL l user acct z = l.take c ++ bump z x :: rs) ∧ Hid (chargeE l user acct z = 0) ∧ Below w.heap.size w wx)
          case first =>
            go_wp2_with (fail)
            go_meet
            refine ⟨_, _, _, newU user acct, l.drop c, rfl, ⟨?_, x0, x1, x2, x3, HFF.out, hw0⟩, hr5, by omega, hL0, hE0, bw5⟩
            simpa [add_plain] using hrc
          case rest =>
              obtain ⟨A', n', c', x, rs, rfl, ⟨rr, y0, y1, y2, y3, ff, hp⟩, rl, hn', HCL, HCE, b6⟩ := hcut
              obtain ⟨w4, hw4⟩ : ∃ w4 : World, w4 = wc := ⟨_, rfl⟩
              subst hw4
              have g2 := ff 2
              have g3 := ff 3
              have HF2 := Lib.hid ff
              clear ff
              go_wp2_with (fail)
              refine (rplus2 x.used z _ _ (by simp [go_sem]) (by simp [go_sem])).mono ?_
              rintro e w7 ⟨rfl, hw7⟩
              have z7 : w4.heap.size + 1 = w7.heap.size := by rw [← hw7]; simp
              have v0 : w7.cell? ⟨w1.heap.size, 0, none⟩ = some (.string x.user) := by rw [← hw7, World.cell?_alloc_past _ _ _ hp]; exact y0
              have v1 : w7.cell? ⟨w1.heap.size, 1, none⟩ = some (.string x.acct) := by rw [← hw7, World.cell?_alloc_past _ _ _ hp]; exact y1
              have v2 : w7.cell? ⟨w1.heap.size, 2, none⟩ = some (.int .i64 x.used) := by rw [← hw7, World.cell?_alloc_past _ _ _ hp]; exact y2
              have v3 : w7.cell? ⟨w1.heap.size, 3, none⟩ = some (.int .i64 x.share) := by rw [← hw7, World.cell?_alloc_past _ _ _ hp]; exact y3
              have t2 : w7.frozen? ⟨w1.heap.size, 2, none⟩ = false := by rw [← hw7, World.frozen?_alloc_past _ _ _ hp]; exact g2
              have t3 : w7.frozen? ⟨w1.heap.size, 3, none⟩ = false := by rw [← hw7, World.frozen?_alloc_past _ _ _ hp]; exact g3
              have b7 : Below w.heap.size w w7 := by rw [← hw7]; exact b6.alloc b6.size _
              have rr7 : Reads w7 B 4 A' n' (recs ucells rs) := by rw [← hw7]; exact rr.alloc (Nat.le_trans hB b6.size) _
              have rl7 : Reads w7 B 4 A c (recs ucells l) := by rw [← hw7]; exact rl.alloc (Nat.le_trans hB b6.size) _
              have hp7 : w1.heap.size < w7.heap.size := by omega
              clear hw7 y0 y1 y2 y3 g2 g3 HF2 b6 rr rl z7 hp
              go_wp2_with (fail)
              refine (rplus2 x.share z _ _ (by simp [go_sem]) (by simp [go_sem])).mono ?_
              rintro e w8 ⟨rfl, hw8⟩
              have v0' : w8.cell? ⟨w1.heap.size, 0, none⟩ = some (.string x.user) := by rw [← hw8, World.cell?_alloc_past _ _ _ (by simpa using hp7), World.cell?_setCell_other _ _ _ _ (by simp)]; exact v0
              have v1' : w8.cell? ⟨w1.heap.size, 1, none⟩ = some (.string x.acct) := by rw [← hw8, World.cell?_alloc_past _ _ _ (by simpa using hp7), World.cell?_setCell_other _ _ _ _ (by simp)]; exact v1
              have v2' : w8.cell? ⟨w1.heap.size, 2, none⟩ = some (.int .i64 (addV 1000000000000 [x.used, z])) := by rw [← hw8, World.cell?_alloc_past _ _ _ (by simpa using hp7)]; exact World.cell?_setCell_same _ _ _ v2
              have v3' : w8.cell? ⟨w1.heap.size, 3, none⟩ = some (.int .i64 x.share) := by rw [← hw8, World.cell?_alloc_past _ _ _ (by simpa using hp7), World.cell?_setCell_other _ _ _ _ (by simp)]; exact v3
              have t3' : w8.frozen? ⟨w1.heap.size, 3, none⟩ = false := by rw [← hw8, World.frozen?_alloc_past _ _ _ (by simpa using hp7)]; simpa using t3
              have b8 : Below w.heap.size w w8 := by rw [← hw8]; exact (b7.setCell hz1 _).alloc (by simpa using b7.size) _
              have rr8 : Reads w8 B 4 A' n' (recs ucells rs) := by rw [← hw8]; exact (rr7.setCell (by simp; omega) _).alloc (by simpa using Nat.le_trans hB b7.size) _
              have rl8 : Reads w8 B 4 A c (recs ucells l) := by rw [← hw8]; exact (rl7.setCell (by simp; omega) _).alloc (by simpa using Nat.le_trans hB b7.size) _
              have hp8 : w1.heap.size < w8.heap.size := by rw [← hw8]; simp; omega
              clear hw8 v0 v1 v2 v3 t2 t3 b7 rr7 rl7 hp7
              go_wp2_with (fail)
              refine wp_gen ?_
              intro w6 hw6
              have q0 : w6.cell? ⟨w1.heap.size, 0, none⟩ = some (.string x.user) := by rw [hw6, World.cell?_setCell_other _ _ _ _ (by simp)]; exact v0'
              have q1 : w6.cell? ⟨w1.heap.size, 1, none⟩ = some (.string x.acct) := by rw [hw6, World.cell?_setCell_other _ _ _ _ (by simp)]; exact v1'
              have q2 : w6.cell? ⟨w1.heap.size, 2, none⟩ = some (.int .i64 (addV 1000000000000 [x.used, z])) := by rw [hw6, World.cell?_setCell_other _ _ _ _ (by simp)]; exact v2'
              have q3 : w6.cell? ⟨w1.heap.size, 3, none⟩ = some (.int .i64 (addV 1000000000000 [x.share, z])) := by rw [hw6]; exact World.cell?_setCell_same _ _ _ v3'
              have b6 : Below w.heap.size w w6 := by rw [hw6]; exact b8.setCell hz1 _
              have z6 := b6.size
              have rr6 : Reads w6 w6.heap.size 4 A' n' (recs ucells rs) := by rw [hw6]; exact (rr8.setCell (by simp; omega) _).more (by simpa using Nat.le_trans hB b8.size)
              have rp6 : Reads w6 w6.heap.size 4 A c (recs ucells (l.take c)) := by rw [hw6]; exact ((rl8.setCell (by simp; omega) _).prefix_ hi).more (by simpa using Nat.le_trans hB b8.size)
              have hp6 : w1.heap.size < w6.heap.size := by rw [hw6]; simpa using hp8
              have hi0 : (0 : Int) ≤ (c : Int) := by omega
              have hi1 : (c : Int) ≤ (c : Int) := by omega
              have hi2 : (c : Int) ≤ (c : Int) := by omega
              clear hw6 v0' v1' v2' v3' t3' b8 rr8 rl8 hp8
              refine wp_region_held_drew (S := (fun w' => (∀ b o, b < w6.heap.size → w'.cell? ⟨b, o, none⟩ = w6.cell? ⟨b, o, none⟩) ∧ Below w6.heap.size w6 w')) (by kernel_rfl) ?_ (fun hHeld => ?_)
              · (try dsimp only); (first | assumption | exact sk_mk (below_drew (Below.refl _ _)) | (refine sk_mk (Below.alloc (And.right (by assumption)) (sk_size (by assumption)) _)) | exact sk_app (by assumption) (by assumption) (sk_size (by assumption)))
              refine wpAnyH_take (i := 1) (oi := ⟨_, _, _, _, _, _⟩) (v := ?v_45) rfl (by kernel_rfl) (by kernel_rfl) (by kernel_rfl) (fun _ _ _ h => h) (Or.inl ⟨by rfl, ?hy_45⟩) (by assumption) ?r_45
              case hy_45 => (intro w_ hS_; (try dsimp only at hS_); go_simp; try with_reducible rfl)
              try simp only [Act.put, List.setIfInBounds_toArray, List.set_cons_zero, List.set_cons_succ]
              refine wpAnyH_take (i := 2) (oi := ⟨_, _, _, _, _, _⟩) (v := ?v_46) rfl (by kernel_rfl) (by kernel_rfl) (by kernel_rfl) (fun _ _ _ h => h) (Or.inl ⟨by rfl, ?hy_46⟩) (by assumption) ?r_46
              case hy_46 => (intro w_ hS_; (try dsimp only at hS_); go_simp; try with_reducible rfl)
              try simp only [Act.put, List.setIfInBounds_toArray, List.set_cons_zero, List.set_cons_succ]
              refine wpAnyH_take (i := 3) (oi := ⟨_, _, _, _, _, _⟩) (v := ?v_47) rfl (by kernel_rfl) (by kernel_rfl) (by kernel_rfl) (fun _ _ _ h => h) (Or.inl ⟨by rfl, ?hy_47⟩) (by assumption) ?r_47
              case hy_47 => (intro w_ hS_; (try dsimp only at hS_); go_simp; try with_reducible rfl)
              try simp only [Act.put, List.setIfInBounds_toArray, List.set_cons_zero, List.set_cons_succ]
              refine wpAnyH_take (i := 5) (oi := ⟨_, _, _, _, _, _⟩) (v := ?v_48) rfl (by kernel_rfl) (by kernel_rfl) (by kernel_rfl) (fun _ _ _ h => h) (Or.inl ⟨by rfl, ?hy_48⟩) (by assumption) ?r_48
              case hy_48 => (intro w_ hS_; (try dsimp only at hS_); go_simp; try with_reducible rfl)
              try simp only [Act.put, List.setIfInBounds_toArray, List.set_cons_zero, List.set_cons_succ]
              refine wpAnyH_take (i := 8) (oi := ⟨_, _, _, _, _, _⟩) (v := ?v_49) rfl (by kernel_rfl) (by kernel_rfl) (by kernel_rfl) (fun _ _ _ h => h) (Or.inl ⟨by rfl, ?hy_49⟩) (by assumption) ?r_49
              case hy_49 => (intro w_ hS_; (try dsimp only at hS_); go_simp; try with_reducible rfl)
              try simp only [Act.put, List.setIfInBounds_toArray, List.set_cons_zero, List.set_cons_succ]
              refine wpAnyH_ready (rs := [0, 6]) (by kernel_rfl) (by simp) ?_
              refine AllReadyH.cons (o := ⟨_, _, _, _, _, _⟩) rfl (fun K hK => ?_) ?_
              · go_simp
                refine hK.out _ _ ?_ (fun hHeld => ?_)
                · (try dsimp only); (first | assumption | exact sk_mk (below_drew (Below.refl _ _)) | (refine sk_mk (Below.alloc (And.right (by assumption)) (sk_size (by assumption)) _)) | exact sk_app (by assumption) (by assumption) (sk_size (by assumption)))
                clear hK K
                try simp only [Act.put, List.setIfInBounds_toArray, List.set_cons_zero, List.set_cons_succ]
                refine wpAnyH_ready (rs := [4, 6]) (by kernel_rfl) (by simp) ?_
                refine AllReadyH.cons (o := ⟨_, _, _, _, _, _⟩) rfl (fun K hK => ?_) ?_
                · (first | (refine step_u (s := .tmp 95) (x := .tmp 98) rfl rfl _ rfl (xs := []) Owns.nil rfl (sk_reads (by assumption) rp6) (by omega) (Nat.le_refl _) ?_; intro v1 wa o1 k1 _; have kc := k1.all; have zk := k1.hsize) | (refine step_u (s := .tmp 99) (x := .tmp 101) rfl rfl _ rfl (by first | exact o1 | exact o1.alloc _) rfl (reads1 (bump z x) (by simp [go_sem, kc, bump]) (by simp [go_sem, kc, bump]) (by simp [go_sem, kc, bump]) (by simp [go_sem, kc, bump])) (by omega) (by simp at zk ⊢ <;> omega) ?_; intro v2 wb o2 k2 _; have zk2 := k2.hsize) | (refine step_u (s := .tmp 102) (x := .tmp 103) rfl rfl _ rfl o2 rfl (sk_reads (by assumption) rr6) (by omega) (by simp at zk zk2 ⊢ <;> omega) ?_; intro v3 wd o3 k3 _))
                  refine hK.out _ _ ?_ (fun hHeld => ?_)
                  · (try dsimp only); (first | assumption | exact sk_mk (below_drew (Below.refl _ _)) | (refine sk_mk (Below.alloc (And.right (by assumption)) (sk_size (by assumption)) _)) | exact sk_app (by assumption) (by assumption) (sk_size (by assumption)))
                  clear hK K
                  try simp only [Act.put, List.setIfInBounds_toArray, List.set_cons_zero, List.set_cons_succ]
                  refine wpAnyH_ready (rs := [6]) (by kernel_rfl) (by simp) ?_
                  refine AllReadyH.cons (o := ⟨_, _, _, _, _, _⟩) rfl (fun K hK => ?_) AllReadyH.nil
                  go_simp
                  refine hK.out _ _ ?_ (fun hHeld => ?_)
                  · (try dsimp only); (first | assumption | exact sk_mk (below_drew (Below.refl _ _)) | (refine sk_mk (Below.alloc (And.right (by assumption)) (sk_size (by assumption)) _)) | exact sk_app (by assumption) (by assumption) (sk_size (by assumption)))
                  clear hK K
                  try simp only [Act.put, List.setIfInBounds_toArray, List.set_cons_zero, List.set_cons_succ]
                  refine wpAnyH_ready (rs := [7]) (by kernel_rfl) (by simp) ?_
                  refine AllReadyH.cons (o := ⟨_, _, _, _, _, _⟩) rfl (fun K hK => ?_) AllReadyH.nil
                  (first | (refine step_u (s := .tmp 95) (x := .tmp 98) rfl rfl _ rfl (xs := []) Owns.nil rfl (sk_reads (by assumption) rp6) (by omega) (Nat.le_refl _) ?_; intro v1 wa o1 k1 _; have kc := k1.all; have zk := k1.hsize) | (refine step_u (s := .tmp 99) (x := .tmp 101) rfl rfl _ rfl (by first | exact o1 | exact o1.alloc _) rfl (reads1 (bump z x) (by simp [go_sem, kc, bump]) (by simp [go_sem, kc, bump]) (by simp [go_sem, kc, bump]) (by simp [go_sem, kc, bump])) (by omega) (by simp at zk ⊢ <;> omega) ?_; intro v2 wb o2 k2 _; have zk2 := k2.hsize) | (refine step_u (s := .tmp 102) (x := .tmp 103) rfl rfl _ rfl o2 rfl (sk_reads (by assumption) rr6) (by omega) (by simp at zk zk2 ⊢ <;> omega) ?_; intro v3 wd o3 k3 _))
                  refine hK.out _ _ ?_ (fun hHeld => ?_)
                  · (try dsimp only); (first | assumption | exact sk_mk (below_drew (Below.refl _ _)) | (refine sk_mk (Below.alloc (And.right (by assumption)) (sk_size (by assumption)) _)) | exact sk_app (by assumption) (by assumption) (sk_size (by assumption)))
                  clear hK K
                  try simp only [Act.put, List.setIfInBounds_toArray, List.set_cons_zero, List.set_cons_succ]
                  refine wpAnyH_ready (rs := [9]) (by kernel_rfl) (by simp) ?_
                  refine AllReadyH.cons (o := ⟨_, _, _, _, _, _⟩) rfl (fun K hK => ?_) AllReadyH.nil
                  (first | (refine step_u (s := .tmp 95) (x := .tmp 98) rfl rfl _ rfl (xs := []) Owns.nil rfl (sk_reads (by assumption) rp6) (by omega) (Nat.le_refl _) ?_; intro v1 wa o1 k1 _; have kc := k1.all; have zk := k1.hsize) | (refine step_u (s := .tmp 99) (x := .tmp 101) rfl rfl _ rfl (by first | exact o1 | exact o1.alloc _) rfl (reads1 (bump z x) (by simp [go_sem, kc, bump]) (by simp [go_sem, kc, bump]) (by simp [go_sem, kc, bump]) (by simp [go_sem, kc, bump])) (by omega) (by simp at zk ⊢ <;> omega) ?_; intro v2 wb o2 k2 _; have zk2 := k2.hsize) | (refine step_u (s := .tmp 102) (x := .tmp 103) rfl rfl _ rfl o2 rfl (sk_reads (by assumption) rr6) (by omega) (by simp at zk zk2 ⊢ <;> omega) ?_; intro v3 wd o3 k3 _))
                  refine hK.out _ _ ?_ (fun hHeld => ?_)
                  · (try dsimp only); (first | assumption | exact sk_mk (below_drew (Below.refl _ _)) | (refine sk_mk (Below.alloc (And.right (by assumption)) (sk_size (by assumption)) _)) | exact sk_app (by assumption) (by assumption) (sk_size (by assumption)))
                  clear hK K
                  try simp only [Act.put, List.setIfInBounds_toArray, List.set_cons_zero, List.set_cons_succ]
                  refine wpAnyH_take (i := 10) (oi := ⟨_, _, _, _, _, _⟩) (v := ?v_50) rfl (by kernel_rfl) (by kernel_rfl) (by kernel_rfl) (fun _ _ _ h => h) (Or.inl ⟨by rfl, ?hy_50⟩) (by assumption) ?r_50
                  case hy_50 => (intro w_ hS_; (try dsimp only at hS_); go_simp; try with_reducible rfl)
                  try simp only [Act.put, List.setIfInBounds_toArray, List.set_cons_zero, List.set_cons_succ]
                  refine wpAnyH_take (i := 11) (oi := ⟨_, _, _, _, _, _⟩) (v := ?v_51) rfl (by kernel_rfl) (by kernel_rfl) (by kernel_rfl) (fun _ _ _ h => h) (Or.inl ⟨by rfl, ?hy_51⟩) (by assumption) ?r_51
                  case hy_51 => (intro w_ hS_; (try dsimp only at hS_); go_simp; try with_reducible rfl)
                  try simp only [Act.put, List.setIfInBounds_toArray, List.set_cons_zero, List.set_cons_succ]
                  refine wpAnyH_done (by kernel_rfl) ?_ _
                  (have bf := And.right (by assumption : (∀ b o, b < w6.heap.size → World.cell? _ ⟨b, o, none⟩ = w6.cell? ⟨b, o, none⟩) ∧ Below w6.heap.size w6 _); go_wp2; go_ret2; rw [HCL.out, HCE.out]; exact rclose o3 (by simp <;> omega) (b6.trans (bf.mono z6)) hti.out (rr6.rec_len ucells_len (by omega)).out)
                refine AllReadyH.cons (o := ⟨_, _, _, _, _, _⟩) rfl (fun K hK => ?_) AllReadyH.nil
                go_simp
                refine hK.out _ _ ?_ (fun hHeld => ?_)
                · (try dsimp only); (first | assumption | exact sk_mk (below_drew (Below.refl _ _)) | (refine sk_mk (Below.alloc (And.right (by assumption)) (sk_size (by assumption)) _)) | exact sk_app (by assumption) (by assumption) (sk_size (by assumption)))
                clear hK K
                try simp only [Act.put, List.setIfInBounds_toArray, List.set_cons_zero, List.set_cons_succ]
                refine wpAnyH_ready (rs := [4]) (by kernel_rfl) (by simp) ?_
                refine AllReadyH.cons (o := ⟨_, _, _, _, _, _⟩) rfl (fun K hK => ?_) AllReadyH.nil
                (first | (refine step_u (s := .tmp 95) (x := .tmp 98) rfl rfl _ rfl (xs := []) Owns.nil rfl (sk_reads (by assumption) rp6) (by omega) (Nat.le_refl _) ?_; intro v1 wa o1 k1 _; have kc := k1.all; have zk := k1.hsize) | (refine step_u (s := .tmp 99) (x := .tmp 101) rfl rfl _ rfl (by first | exact o1 | exact o1.alloc _) rfl (reads1 (bump z x) (by simp [go_sem, kc, bump]) (by simp [go_sem, kc, bump]) (by simp [go_sem, kc, bump]) (by simp [go_sem, kc, bump])) (by omega) (by simp at zk ⊢ <;> omega) ?_; intro v2 wb o2 k2 _; have zk2 := k2.hsize) | (refine step_u (s := .tmp 102) (x := .tmp 103) rfl rfl _ rfl o2 rfl (sk_reads (by assumption) rr6) (by omega) (by simp at zk zk2 ⊢ <;> omega) ?_; intro v3 wd o3 k3 _))
                refine hK.out _ _ ?_ (fun hHeld => ?_)
                · (try dsimp only); (first | assumption | exact sk_mk (below_drew (Below.refl _ _)) | (refine sk_mk (Below.alloc (And.right (by assumption)) (sk_size (by assumption)) _)) | exact sk_app (by assumption) (by assumption) (sk_size (by assumption)))
                clear hK K
                try simp only [Act.put, List.setIfInBounds_toArray, List.set_cons_zero, List.set_cons_succ]
                refine wpAnyH_ready (rs := [7]) (by kernel_rfl) (by simp) ?_
                refine AllReadyH.cons (o := ⟨_, _, _, _, _, _⟩) rfl (fun K hK => ?_) AllReadyH.nil
                (first | (refine step_u (s := .tmp 95) (x := .tmp 98) rfl rfl _ rfl (xs := []) Owns.nil rfl (sk_reads (by assumption) rp6) (by omega) (Nat.le_refl _) ?_; intro v1 wa o1 k1 _; have kc := k1.all; have zk := k1.hsize) | (refine step_u (s := .tmp 99) (x := .tmp 101) rfl rfl _ rfl (by first | exact o1 | exact o1.alloc _) rfl (reads1 (bump z x) (by simp [go_sem, kc, bump]) (by simp [go_sem, kc, bump]) (by simp [go_sem, kc, bump]) (by simp [go_sem, kc, bump])) (by omega) (by simp at zk ⊢ <;> omega) ?_; intro v2 wb o2 k2 _; have zk2 := k2.hsize) | (refine step_u (s := .tmp 102) (x := .tmp 103) rfl rfl _ rfl o2 rfl (sk_reads (by assumption) rr6) (by omega) (by simp at zk zk2 ⊢ <;> omega) ?_; intro v3 wd o3 k3 _))
                refine hK.out _ _ ?_ (fun hHeld => ?_)
                · (try dsimp only); (first | assumption | exact sk_mk (below_drew (Below.refl _ _)) | (refine sk_mk (Below.alloc (And.right (by assumption)) (sk_size (by assumption)) _)) | exact sk_app (by assumption) (by assumption) (sk_size (by assumption)))
                clear hK K
                try simp only [Act.put, List.setIfInBounds_toArray, List.set_cons_zero, List.set_cons_succ]
                refine wpAnyH_ready (rs := [9]) (by kernel_rfl) (by simp) ?_
                refine AllReadyH.cons (o := ⟨_, _, _, _, _, _⟩) rfl (fun K hK => ?_) AllReadyH.nil
                (first | (refine step_u (s := .tmp 95) (x := .tmp 98) rfl rfl _ rfl (xs := []) Owns.nil rfl (sk_reads (by assumption) rp6) (by omega) (Nat.le_refl _) ?_; intro v1 wa o1 k1 _; have kc := k1.all; have zk := k1.hsize) | (refine step_u (s := .tmp 99) (x := .tmp 101) rfl rfl _ rfl (by first | exact o1 | exact o1.alloc _) rfl (reads1 (bump z x) (by simp [go_sem, kc, bump]) (by simp [go_sem, kc, bump]) (by simp [go_sem, kc, bump]) (by simp [go_sem, kc, bump])) (by omega) (by simp at zk ⊢ <;> omega) ?_; intro v2 wb o2 k2 _; have zk2 := k2.hsize) | (refine step_u (s := .tmp 102) (x := .tmp 103) rfl rfl _ rfl o2 rfl (sk_reads (by assumption) rr6) (by omega) (by simp at zk zk2 ⊢ <;> omega) ?_; intro v3 wd o3 k3 _))
                refine hK.out _ _ ?_ (fun hHeld => ?_)
                · (try dsimp only); (first | assumption | exact sk_mk (below_drew (Below.refl _ _)) | (refine sk_mk (Below.alloc (And.right (by assumption)) (sk_size (by assumption)) _)) | exact sk_app (by assumption) (by assumption) (sk_size (by assumption)))
                clear hK K
                try simp only [Act.put, List.setIfInBounds_toArray, List.set_cons_zero, List.set_cons_succ]
                refine wpAnyH_take (i := 10) (oi := ⟨_, _, _, _, _, _⟩) (v := ?v_52) rfl (by kernel_rfl) (by kernel_rfl) (by kernel_rfl) (fun _ _ _ h => h) (Or.inl ⟨by rfl, ?hy_52⟩) (by assumption) ?r_52
                case hy_52 => (intro w_ hS_; (try dsimp only at hS_); go_simp; try with_reducible rfl)
                try simp only [Act.put, List.setIfInBounds_toArray, List.set_cons_zero, List.set_cons_succ]
                refine wpAnyH_take (i := 11) (oi := ⟨_, _, _, _, _, _⟩) (v := ?v_53) rfl (by kernel_rfl) (by kernel_rfl) (by kernel_rfl) (fun _ _ _ h => h) (Or.inl ⟨by rfl, ?hy_53⟩) (by assumption) ?r_53
                case hy_53 => (intro w_ hS_; (try dsimp only at hS_); go_simp; try with_reducible rfl)
                try simp only [Act.put, List.setIfInBounds_toArray, List.set_cons_zero, List.set_cons_succ]
                refine wpAnyH_done (by kernel_rfl) ?_ _
                (have bf := And.right (by assumption : (∀ b o, b < w6.heap.size → World.cell? _ ⟨b, o, none⟩ = w6.cell? ⟨b, o, none⟩) ∧ Below w6.heap.size w6 _); go_wp2; go_ret2; rw [HCL.out, HCE.out]; exact rclose o3 (by simp <;> omega) (b6.trans (bf.mono z6)) hti.out (rr6.rec_len ucells_len (by omega)).out)
              refine AllReadyH.cons (o := ⟨_, _, _, _, _, _⟩) rfl (fun K hK => ?_) AllReadyH.nil
              go_simp
              refine hK.out _ _ ?_ (fun hHeld => ?_)
              · (try dsimp only); (first | assumption | exact sk_mk (below_drew (Below.refl _ _)) | (refine sk_mk (Below.alloc (And.right (by assumption)) (sk_size (by assumption)) _)) | exact sk_app (by assumption) (by assumption) (sk_size (by assumption)))
              clear hK K
              try simp only [Act.put, List.setIfInBounds_toArray, List.set_cons_zero, List.set_cons_succ]
              refine wpAnyH_ready (rs := [0]) (by kernel_rfl) (by simp) ?_
              refine AllReadyH.cons (o := ⟨_, _, _, _, _, _⟩) rfl (fun K hK => ?_) AllReadyH.nil
              go_simp
              refine hK.out _ _ ?_ (fun hHeld => ?_)
              · (try dsimp only); (first | assumption | exact sk_mk (below_drew (Below.refl _ _)) | (refine sk_mk (Below.alloc (And.right (by assumption)) (sk_size (by assumption)) _)) | exact sk_app (by assumption) (by assumption) (sk_size (by assumption)))
              clear hK K
              try simp only [Act.put, List.setIfInBounds_toArray, List.set_cons_zero, List.set_cons_succ]
              refine wpAnyH_ready (rs := [4]) (by kernel_rfl) (by simp) ?_
              refine AllReadyH.cons (o := ⟨_, _, _, _, _, _⟩) rfl (fun K hK => ?_) AllReadyH.nil
              (first | (refine step_u (s := .tmp 95) (x := .tmp 98) rfl rfl _ rfl (xs := []) Owns.nil rfl (sk_reads (by assumption) rp6) (by omega) (Nat.le_refl _) ?_; intro v1 wa o1 k1 _; have kc := k1.all; have zk := k1.hsize) | (refine step_u (s := .tmp 99) (x := .tmp 101) rfl rfl _ rfl (by first | exact o1 | exact o1.alloc _) rfl (reads1 (bump z x) (by simp [go_sem, kc, bump]) (by simp [go_sem, kc, bump]) (by simp [go_sem, kc, bump]) (by simp [go_sem, kc, bump])) (by omega) (by simp at zk ⊢ <;> omega) ?_; intro v2 wb o2 k2 _; have zk2 := k2.hsize) | (refine step_u (s := .tmp 102) (x := .tmp 103) rfl rfl _ rfl o2 rfl (sk_reads (by assumption) rr6) (by omega) (by simp at zk zk2 ⊢ <;> omega) ?_; intro v3 wd o3 k3 _))
              refine hK.out _ _ ?_ (fun hHeld => ?_)
              · (try dsimp only); (first | assumption | exact sk_mk (below_drew (Below.refl _ _)) | (refine sk_mk (Below.alloc (And.right (by assumption)) (sk_size (by assumption)) _)) | exact sk_app (by assumption) (by assumption) (sk_size (by assumption)))
              clear hK K
              try simp only [Act.put, List.setIfInBounds_toArray, List.set_cons_zero, List.set_cons_succ]
              refine wpAnyH_ready (rs := [7]) (by kernel_rfl) (by simp) ?_
              refine AllReadyH.cons (o := ⟨_, _, _, _, _, _⟩) rfl (fun K hK => ?_) AllReadyH.nil
              (first | (refine step_u (s := .tmp 95) (x := .tmp 98) rfl rfl _ rfl (xs := []) Owns.nil rfl (sk_reads (by assumption) rp6) (by omega) (Nat.le_refl _) ?_; intro v1 wa o1 k1 _; have kc := k1.all; have zk := k1.hsize) | (refine step_u (s := .tmp 99) (x := .tmp 101) rfl rfl _ rfl (by first | exact o1 | exact o1.alloc _) rfl (reads1 (bump z x) (by simp [go_sem, kc, bump]) (by simp [go_sem, kc, bump]) (by simp [go_sem, kc, bump]) (by simp [go_sem, kc, bump])) (by omega) (by simp at zk ⊢ <;> omega) ?_; intro v2 wb o2 k2 _; have zk2 := k2.hsize) | (refine step_u (s := .tmp 102) (x := .tmp 103) rfl rfl _ rfl o2 rfl (sk_reads (by assumption) rr6) (by omega) (by simp at zk zk2 ⊢ <;> omega) ?_; intro v3 wd o3 k3 _))
              refine hK.out _ _ ?_ (fun hHeld => ?_)
              · (try dsimp only); (first | assumption | exact sk_mk (below_drew (Below.refl _ _)) | (refine sk_mk (Below.alloc (And.right (by assumption)) (sk_size (by assumption)) _)) | exact sk_app (by assumption) (by assumption) (sk_size (by assumption)))
              clear hK K
              try simp only [Act.put, List.setIfInBounds_toArray, List.set_cons_zero, List.set_cons_succ]
              refine wpAnyH_ready (rs := [9]) (by kernel_rfl) (by simp) ?_
              refine AllReadyH.cons (o := ⟨_, _, _, _, _, _⟩) rfl (fun K hK => ?_) AllReadyH.nil
              (first | (refine step_u (s := .tmp 95) (x := .tmp 98) rfl rfl _ rfl (xs := []) Owns.nil rfl (sk_reads (by assumption) rp6) (by omega) (Nat.le_refl _) ?_; intro v1 wa o1 k1 _; have kc := k1.all; have zk := k1.hsize) | (refine step_u (s := .tmp 99) (x := .tmp 101) rfl rfl _ rfl (by first | exact o1 | exact o1.alloc _) rfl (reads1 (bump z x) (by simp [go_sem, kc, bump]) (by simp [go_sem, kc, bump]) (by simp [go_sem, kc, bump]) (by simp [go_sem, kc, bump])) (by omega) (by simp at zk ⊢ <;> omega) ?_; intro v2 wb o2 k2 _; have zk2 := k2.hsize) | (refine step_u (s := .tmp 102) (x := .tmp 103) rfl rfl _ rfl o2 rfl (sk_reads (by assumption) rr6) (by omega) (by simp at zk zk2 ⊢ <;> omega) ?_; intro v3 wd o3 k3 _))
              refine hK.out _ _ ?_ (fun hHeld => ?_)
              · (try dsimp only); (first | assumption | exact sk_mk (below_drew (Below.refl _ _)) | (refine sk_mk (Below.alloc (And.right (by assumption)) (sk_size (by assumption)) _)) | exact sk_app (by assumption) (by assumption) (sk_size (by assumption)))
              clear hK K
              try simp only [Act.put, List.setIfInBounds_toArray, List.set_cons_zero, List.set_cons_succ]
              refine wpAnyH_take (i := 10) (oi := ⟨_, _, _, _, _, _⟩) (v := ?v_54) rfl (by kernel_rfl) (by kernel_rfl) (by kernel_rfl) (fun _ _ _ h => h) (Or.inl ⟨by rfl, ?hy_54⟩) (by assumption) ?r_54
              case hy_54 => (intro w_ hS_; (try dsimp only at hS_); go_simp; try with_reducible rfl)
              try simp only [Act.put, List.setIfInBounds_toArray, List.set_cons_zero, List.set_cons_succ]
              refine wpAnyH_take (i := 11) (oi := ⟨_, _, _, _, _, _⟩) (v := ?v_55) rfl (by kernel_rfl) (by kernel_rfl) (by kernel_rfl) (fun _ _ _ h => h) (Or.inl ⟨by rfl, ?hy_55⟩) (by assumption) ?r_55
              case hy_55 => (intro w_ hS_; (try dsimp only at hS_); go_simp; try with_reducible rfl)
              try simp only [Act.put, List.setIfInBounds_toArray, List.set_cons_zero, List.set_cons_succ]
              refine wpAnyH_done (by kernel_rfl) ?_ _
              (have bf := And.right (by assumption : (∀ b o, b < w6.heap.size → World.cell? _ ⟨b, o, none⟩ = w6.cell? ⟨b, o, none⟩) ∧ Below w6.heap.size w6 _); go_wp2; go_ret2; rw [HCL.out, HCE.out]; exact rclose o3 (by simp <;> omega) (b6.trans (bf.mono z6)) hti.out (rr6.rec_len ucells_len (by omega)).out)
        · rw [if_neg hck] at hrc
          clear hfull
          go_upto_if 71 with (fail)
          go_cut [12] (fun s wx => ∃ (A' : Option Addr) (n' c' : Nat) (x : U) (rs : List U), s = .slice A' n' c' ∧ AtX wx w1.heap.size B A' n' x rs ∧ Reads wx B 4 A n (recs ucells l) ∧ n' ≤ n ∧ Hid (chargeL l user acct z = l.take n ++ bump z x :: rs) ∧ Hid (chargeE l user acct z = 0) ∧ Below w.heap.size w wx)
          case first =>
            go_wp2_with (fail)
            go_meet
            refine ⟨_, _, _, newU user acct, l.drop n, rfl, ⟨?_, x0, x1, x2, x3, HFF.out, hw0⟩, hr5, by omega, hL0, hE0, bw5⟩
            simpa [add_plain] using hrc
          case rest =>
              obtain ⟨A', n', c', x, rs, rfl, ⟨rr, y0, y1, y2, y3, ff, hp⟩, rl, hn', HCL, HCE, b6⟩ := hcut
              obtain ⟨w4, hw4⟩ : ∃ w4 : World, w4 = wc := ⟨_, rfl⟩
              subst hw4
              have g2 := ff 2
              have g3 := ff 3
              have HF2 := Lib.hid ff
              clear ff
              go_wp2_with (fail)
              refine (rplus2 x.used z _ _ (by simp [go_sem]) (by simp [go_sem])).mono ?_
              rintro e w7 ⟨rfl, hw7⟩
              have z7 : w4.heap.size + 1 = w7.heap.size := by rw [← hw7]; simp
              have v0 : w7.cell? ⟨w1.heap.size, 0, none⟩ = some (.string x.user) := by rw [← hw7, World.cell?_alloc_past _ _ _ hp]; exact y0
              have v1 : w7.cell? ⟨w1.heap.size, 1, none⟩ = some (.string x.acct) := by rw [← hw7, World.cell?_alloc_past _ _ _ hp]; exact y1
              have v2 : w7.cell? ⟨w1.heap.size, 2, none⟩ = some (.int .i64 x.used) := by rw [← hw7, World.cell?_alloc_past _ _ _ hp]; exact y2
              have v3 : w7.cell? ⟨w1.heap.size, 3, none⟩ = some (.int .i64 x.share) := by rw [← hw7, World.cell?_alloc_past _ _ _ hp]; exact y3
              have t2 : w7.frozen? ⟨w1.heap.size, 2, none⟩ = false := by rw [← hw7, World.frozen?_alloc_past _ _ _ hp]; exact g2
              have t3 : w7.frozen? ⟨w1.heap.size, 3, none⟩ = false := by rw [← hw7, World.frozen?_alloc_past _ _ _ hp]; exact g3
              have b7 : Below w.heap.size w w7 := by rw [← hw7]; exact b6.alloc b6.size _
              have rr7 : Reads w7 B 4 A' n' (recs ucells rs) := by rw [← hw7]; exact rr.alloc (Nat.le_trans hB b6.size) _
              have rl7 : Reads w7 B 4 A n (recs ucells l) := by rw [← hw7]; exact rl.alloc (Nat.le_trans hB b6.size) _
              have hp7 : w1.heap.size < w7.heap.size := by omega
              clear hw7 y0 y1 y2 y3 g2 g3 HF2 b6 rr rl z7 hp
              go_wp2_with (fail)
              refine (rplus2 x.share z _ _ (by simp [go_sem]) (by simp [go_sem])).mono ?_
              rintro e w8 ⟨rfl, hw8⟩
              have v0' : w8.cell? ⟨w1.heap.size, 0, none⟩ = some (.string x.user) := by rw [← hw8, World.cell?_alloc_past _ _ _ (by simpa using hp7), World.cell?_setCell_other _ _ _ _ (by simp)]; exact v0
              have v1' : w8.cell? ⟨w1.heap.size, 1, none⟩ = some (.string x.acct) := by rw [← hw8, World.cell?_alloc_past _ _ _ (by simpa using hp7), World.cell?_setCell_other _ _ _ _ (by simp)]; exact v1
              have v2' : w8.cell? ⟨w1.heap.size, 2, none⟩ = some (.int .i64 (addV 1000000000000 [x.used, z])) := by rw [← hw8, World.cell?_alloc_past _ _ _ (by simpa using hp7)]; exact World.cell?_setCell_same _ _ _ v2
              have v3' : w8.cell? ⟨w1.heap.size, 3, none⟩ = some (.int .i64 x.share) := by rw [← hw8, World.cell?_alloc_past _ _ _ (by simpa using hp7), World.cell?_setCell_other _ _ _ _ (by simp)]; exact v3
              have t3' : w8.frozen? ⟨w1.heap.size, 3, none⟩ = false := by rw [← hw8, World.frozen?_alloc_past _ _ _ (by simpa using hp7)]; simpa using t3
              have b8 : Below w.heap.size w w8 := by rw [← hw8]; exact (b7.setCell hz1 _).alloc (by simpa using b7.size) _
              have rr8 : Reads w8 B 4 A' n' (recs ucells rs) := by rw [← hw8]; exact (rr7.setCell (by simp; omega) _).alloc (by simpa using Nat.le_trans hB b7.size) _
              have rl8 : Reads w8 B 4 A n (recs ucells l) := by rw [← hw8]; exact (rl7.setCell (by simp; omega) _).alloc (by simpa using Nat.le_trans hB b7.size) _
              have hp8 : w1.heap.size < w8.heap.size := by rw [← hw8]; simp; omega
              clear hw8 v0 v1 v2 v3 t2 t3 b7 rr7 rl7 hp7
              go_wp2_with (fail)
              refine wp_gen ?_
              intro w6 hw6
              have q0 : w6.cell? ⟨w1.heap.size, 0, none⟩ = some (.string x.user) := by rw [hw6, World.cell?_setCell_other _ _ _ _ (by simp)]; exact v0'
              have q1 : w6.cell? ⟨w1.heap.size, 1, none⟩ = some (.string x.acct) := by rw [hw6, World.cell?_setCell_other _ _ _ _ (by simp)]; exact v1'
              have q2 : w6.cell? ⟨w1.heap.size, 2, none⟩ = some (.int .i64 (addV 1000000000000 [x.used, z])) := by rw [hw6, World.cell?_setCell_other _ _ _ _ (by simp)]; exact v2'
              have q3 : w6.cell? ⟨w1.heap.size, 3, none⟩ = some (.int .i64 (addV 1000000000000 [x.share, z])) := by rw [hw6]; exact World.cell?_setCell_same _ _ _ v3'
              have b6 : Below w.heap.size w w6 := by rw [hw6]; exact b8.setCell hz1 _
              have z6 := b6.size
              have rr6 : Reads w6 w6.heap.size 4 A' n' (recs ucells rs) := by rw [hw6]; exact (rr8.setCell (by simp; omega) _).more (by simpa using Nat.le_trans hB b8.size)
              have rp6 : Reads w6 w6.heap.size 4 A n (recs ucells (l.take n)) := by rw [hw6]; exact ((rl8.setCell (by simp; omega) _).prefix_ hi).more (by simpa using Nat.le_trans hB b8.size)
              have hp6 : w1.heap.size < w6.heap.size := by rw [hw6]; simpa using hp8
              have hi0 : (0 : Int) ≤ (n : Int) := by omega
              have hi1 : (n : Int) ≤ (c : Int) := by omega
              have hi2 : (n : Int) ≤ (n : Int) := by omega
              clear hw6 v0' v1' v2' v3' t3' b8 rr8 rl8 hp8
              refine wp_region_held_drew (S := (fun w' => (∀ b o, b < w6.heap.size → w'.cell? ⟨b, o, none⟩ = w6.cell? ⟨b, o, none⟩) ∧ Below w6.heap.size w6 w')) (by kernel_rfl) ?_ (fun hHeld => ?_)
              · (try dsimp only); (first | assumption | exact sk_mk (below_drew (Below.refl _ _)) | (refine sk_mk (Below.alloc (And.right (by assumption)) (sk_size (by assumption)) _)) | exact sk_app (by assumption) (by assumption) (sk_size (by assumption)))
              refine wpAnyH_take (i := 1) (oi := ⟨_, _, _, _, _, _⟩) (v := ?v_56) rfl (by kernel_rfl) (by kernel_rfl) (by kernel_rfl) (fun _ _ _ h => h) (Or.inl ⟨by rfl, ?hy_56⟩) (by assumption) ?r_56
              case hy_56 => (intro w_ hS_; (try dsimp only at hS_); go_simp; try with_reducible rfl)
              try simp only [Act.put, List.setIfInBounds_toArray, List.set_cons_zero, List.set_cons_succ]
              refine wpAnyH_take (i := 2) (oi := ⟨_, _, _, _, _, _⟩) (v := ?v_57) rfl (by kernel_rfl) (by kernel_rfl) (by kernel_rfl) (fun _ _ _ h => h) (Or.inl ⟨by rfl, ?hy_57⟩) (by assumption) ?r_57
              case hy_57 => (intro w_ hS_; (try dsimp only at hS_); go_simp; try with_reducible rfl)
              try simp only [Act.put, List.setIfInBounds_toArray, List.set_cons_zero, List.set_cons_succ]
              refine wpAnyH_take (i := 3) (oi := ⟨_, _, _, _, _, _⟩) (v := ?v_58) rfl (by kernel_rfl) (by kernel_rfl) (by kernel_rfl) (fun _ _ _ h => h) (Or.inl ⟨by rfl, ?hy_58⟩) (by assumption) ?r_58
              case hy_58 => (intro w_ hS_; (try dsimp only at hS_); go_simp; try with_reducible rfl)
              try simp only [Act.put, List.setIfInBounds_toArray, List.set_cons_zero, List.set_cons_succ]
              refine wpAnyH_take (i := 5) (oi := ⟨_, _, _, _, _, _⟩) (v := ?v_59) rfl (by kernel_rfl) (by kernel_rfl) (by kernel_rfl) (fun _ _ _ h => h) (Or.inl ⟨by rfl, ?hy_59⟩) (by assumption) ?r_59
              case hy_59 => (intro w_ hS_; (try dsimp only at hS_); go_simp; try with_reducible rfl)
              try simp only [Act.put, List.setIfInBounds_toArray, List.set_cons_zero, List.set_cons_succ]
              refine wpAnyH_take (i := 8) (oi := ⟨_, _, _, _, _, _⟩) (v := ?v_60) rfl (by kernel_rfl) (by kernel_rfl) (by kernel_rfl) (fun _ _ _ h => h) (Or.inl ⟨by rfl, ?hy_60⟩) (by assumption) ?r_60
              case hy_60 => (intro w_ hS_; (try dsimp only at hS_); go_simp; try with_reducible rfl)
              try simp only [Act.put, List.setIfInBounds_toArray, List.set_cons_zero, List.set_cons_succ]
              refine wpAnyH_ready (rs := [0, 6]) (by kernel_rfl) (by simp) ?_
              refine AllReadyH.cons (o := ⟨_, _, _, _, _, _⟩) rfl (fun K hK => ?_) ?_
              · go_simp
                refine hK.out _ _ ?_ (fun hHeld => ?_)
                · (try dsimp only); (first | assumption | exact sk_mk (below_drew (Below.refl _ _)) | (refine sk_mk (Below.alloc (And.right (by assumption)) (sk_size (by assumption)) _)) | exact sk_app (by assumption) (by assumption) (sk_size (by assumption)))
                clear hK K
                try simp only [Act.put, List.setIfInBounds_toArray, List.set_cons_zero, List.set_cons_succ]
                refine wpAnyH_ready (rs := [4, 6]) (by kernel_rfl) (by simp) ?_
                refine AllReadyH.cons (o := ⟨_, _, _, _, _, _⟩) rfl (fun K hK => ?_) ?_
                · (first | (refine step_u (s := .tmp 95) (x := .tmp 98) rfl rfl _ rfl (xs := []) Owns.nil rfl (sk_reads (by assumption) rp6) (by omega) (Nat.le_refl _) ?_; intro v1 wa o1 k1 _; have kc := k1.all; have zk := k1.hsize) | (refine step_u (s := .tmp 99) (x := .tmp 101) rfl rfl _ rfl (by first | exact o1 | exact o1.alloc _) rfl (reads1 (bump z x) (by simp [go_sem, kc, bump]) (by simp [go_sem, kc, bump]) (by simp [go_sem, kc, bump]) (by simp [go_sem, kc, bump])) (by omega) (by simp at zk ⊢ <;> omega) ?_; intro v2 wb o2 k2 _; have zk2 := k2.hsize) | (refine step_u (s := .tmp 102) (x := .tmp 103) rfl rfl _ rfl o2 rfl (sk_reads (by assumption) rr6) (by omega) (by simp at zk zk2 ⊢ <;> omega) ?_; intro v3 wd o3 k3 _))
                  refine hK.out _ _ ?_ (fun hHeld => ?_)
                  · (try dsimp only); (first | assumption | exact sk_mk (below_drew (Below.refl _ _)) | (refine sk_mk (Below.alloc (And.right (by assumption)) (sk_size (by assumption)) _)) | exact sk_app (by assumption) (by assumption) (sk_size (by assumption)))
                  clear hK K
                  try simp only [Act.put, List.setIfInBounds_toArray, List.set_cons_zero, List.set_cons_succ]
                  refine wpAnyH_ready (rs := [6]) (by kernel_rfl) (by simp) ?_
                  refine AllReadyH.cons (o := ⟨_, _, _, _, _, _⟩) rfl (fun K hK => ?_) AllReadyH.nil
                  go_simp
                  refine hK.out _ _ ?_ (fun hHeld => ?_)
                  · (try dsimp only); (first | assumption | exact sk_mk (below_drew (Below.refl _ _)) | (refine sk_mk (Below.alloc (And.right (by assumption)) (sk_size (by assumption)) _)) | exact sk_app (by assumption) (by assumption) (sk_size (by assumption)))
                  clear hK K
                  try simp only [Act.put, List.setIfInBounds_toArray, List.set_cons_zero, List.set_cons_succ]
                  refine wpAnyH_ready (rs := [7]) (by kernel_rfl) (by simp) ?_
                  refine AllReadyH.cons (o := ⟨_, _, _, _, _, _⟩) rfl (fun K hK => ?_) AllReadyH.nil
                  (first | (refine step_u (s := .tmp 95) (x := .tmp 98) rfl rfl _ rfl (xs := []) Owns.nil rfl (sk_reads (by assumption) rp6) (by omega) (Nat.le_refl _) ?_; intro v1 wa o1 k1 _; have kc := k1.all; have zk := k1.hsize) | (refine step_u (s := .tmp 99) (x := .tmp 101) rfl rfl _ rfl (by first | exact o1 | exact o1.alloc _) rfl (reads1 (bump z x) (by simp [go_sem, kc, bump]) (by simp [go_sem, kc, bump]) (by simp [go_sem, kc, bump]) (by simp [go_sem, kc, bump])) (by omega) (by simp at zk ⊢ <;> omega) ?_; intro v2 wb o2 k2 _; have zk2 := k2.hsize) | (refine step_u (s := .tmp 102) (x := .tmp 103) rfl rfl _ rfl o2 rfl (sk_reads (by assumption) rr6) (by omega) (by simp at zk zk2 ⊢ <;> omega) ?_; intro v3 wd o3 k3 _))
                  refine hK.out _ _ ?_ (fun hHeld => ?_)
                  · (try dsimp only); (first | assumption | exact sk_mk (below_drew (Below.refl _ _)) | (refine sk_mk (Below.alloc (And.right (by assumption)) (sk_size (by assumption)) _)) | exact sk_app (by assumption) (by assumption) (sk_size (by assumption)))
                  clear hK K
                  try simp only [Act.put, List.setIfInBounds_toArray, List.set_cons_zero, List.set_cons_succ]
                  refine wpAnyH_ready (rs := [9]) (by kernel_rfl) (by simp) ?_
                  refine AllReadyH.cons (o := ⟨_, _, _, _, _, _⟩) rfl (fun K hK => ?_) AllReadyH.nil
                  (first | (refine step_u (s := .tmp 95) (x := .tmp 98) rfl rfl _ rfl (xs := []) Owns.nil rfl (sk_reads (by assumption) rp6) (by omega) (Nat.le_refl _) ?_; intro v1 wa o1 k1 _; have kc := k1.all; have zk := k1.hsize) | (refine step_u (s := .tmp 99) (x := .tmp 101) rfl rfl _ rfl (by first | exact o1 | exact o1.alloc _) rfl (reads1 (bump z x) (by simp [go_sem, kc, bump]) (by simp [go_sem, kc, bump]) (by simp [go_sem, kc, bump]) (by simp [go_sem, kc, bump])) (by omega) (by simp at zk ⊢ <;> omega) ?_; intro v2 wb o2 k2 _; have zk2 := k2.hsize) | (refine step_u (s := .tmp 102) (x := .tmp 103) rfl rfl _ rfl o2 rfl (sk_reads (by assumption) rr6) (by omega) (by simp at zk zk2 ⊢ <;> omega) ?_; intro v3 wd o3 k3 _))
                  refine hK.out _ _ ?_ (fun hHeld => ?_)
                  · (try dsimp only); (first | assumption | exact sk_mk (below_drew (Below.refl _ _)) | (refine sk_mk (Below.alloc (And.right (by assumption)) (sk_size (by assumption)) _)) | exact sk_app (by assumption) (by assumption) (sk_size (by assumption)))
                  clear hK K
                  try simp only [Act.put, List.setIfInBounds_toArray, List.set_cons_zero, List.set_cons_succ]
                  refine wpAnyH_take (i := 10) (oi := ⟨_, _, _, _, _, _⟩) (v := ?v_61) rfl (by kernel_rfl) (by kernel_rfl) (by kernel_rfl) (fun _ _ _ h => h) (Or.inl ⟨by rfl, ?hy_61⟩) (by assumption) ?r_61
                  case hy_61 => (intro w_ hS_; (try dsimp only at hS_); go_simp; try with_reducible rfl)
                  try simp only [Act.put, List.setIfInBounds_toArray, List.set_cons_zero, List.set_cons_succ]
                  refine wpAnyH_take (i := 11) (oi := ⟨_, _, _, _, _, _⟩) (v := ?v_62) rfl (by kernel_rfl) (by kernel_rfl) (by kernel_rfl) (fun _ _ _ h => h) (Or.inl ⟨by rfl, ?hy_62⟩) (by assumption) ?r_62
                  case hy_62 => (intro w_ hS_; (try dsimp only at hS_); go_simp; try with_reducible rfl)
                  try simp only [Act.put, List.setIfInBounds_toArray, List.set_cons_zero, List.set_cons_succ]
                  refine wpAnyH_done (by kernel_rfl) ?_ _
                  (have bf := And.right (by assumption : (∀ b o, b < w6.heap.size → World.cell? _ ⟨b, o, none⟩ = w6.cell? ⟨b, o, none⟩) ∧ Below w6.heap.size w6 _); go_wp2; go_ret2; rw [HCL.out, HCE.out]; exact rclose o3 (by simp <;> omega) (b6.trans (bf.mono z6)) hti.out (rr6.rec_len ucells_len (by omega)).out)
                refine AllReadyH.cons (o := ⟨_, _, _, _, _, _⟩) rfl (fun K hK => ?_) AllReadyH.nil
                go_simp
                refine hK.out _ _ ?_ (fun hHeld => ?_)
                · (try dsimp only); (first | assumption | exact sk_mk (below_drew (Below.refl _ _)) | (refine sk_mk (Below.alloc (And.right (by assumption)) (sk_size (by assumption)) _)) | exact sk_app (by assumption) (by assumption) (sk_size (by assumption)))
                clear hK K
                try simp only [Act.put, List.setIfInBounds_toArray, List.set_cons_zero, List.set_cons_succ]
                refine wpAnyH_ready (rs := [4]) (by kernel_rfl) (by simp) ?_
                refine AllReadyH.cons (o := ⟨_, _, _, _, _, _⟩) rfl (fun K hK => ?_) AllReadyH.nil
                (first | (refine step_u (s := .tmp 95) (x := .tmp 98) rfl rfl _ rfl (xs := []) Owns.nil rfl (sk_reads (by assumption) rp6) (by omega) (Nat.le_refl _) ?_; intro v1 wa o1 k1 _; have kc := k1.all; have zk := k1.hsize) | (refine step_u (s := .tmp 99) (x := .tmp 101) rfl rfl _ rfl (by first | exact o1 | exact o1.alloc _) rfl (reads1 (bump z x) (by simp [go_sem, kc, bump]) (by simp [go_sem, kc, bump]) (by simp [go_sem, kc, bump]) (by simp [go_sem, kc, bump])) (by omega) (by simp at zk ⊢ <;> omega) ?_; intro v2 wb o2 k2 _; have zk2 := k2.hsize) | (refine step_u (s := .tmp 102) (x := .tmp 103) rfl rfl _ rfl o2 rfl (sk_reads (by assumption) rr6) (by omega) (by simp at zk zk2 ⊢ <;> omega) ?_; intro v3 wd o3 k3 _))
                refine hK.out _ _ ?_ (fun hHeld => ?_)
                · (try dsimp only); (first | assumption | exact sk_mk (below_drew (Below.refl _ _)) | (refine sk_mk (Below.alloc (And.right (by assumption)) (sk_size (by assumption)) _)) | exact sk_app (by assumption) (by assumption) (sk_size (by assumption)))
                clear hK K
                try simp only [Act.put, List.setIfInBounds_toArray, List.set_cons_zero, List.set_cons_succ]
                refine wpAnyH_ready (rs := [7]) (by kernel_rfl) (by simp) ?_
                refine AllReadyH.cons (o := ⟨_, _, _, _, _, _⟩) rfl (fun K hK => ?_) AllReadyH.nil
                (first | (refine step_u (s := .tmp 95) (x := .tmp 98) rfl rfl _ rfl (xs := []) Owns.nil rfl (sk_reads (by assumption) rp6) (by omega) (Nat.le_refl _) ?_; intro v1 wa o1 k1 _; have kc := k1.all; have zk := k1.hsize) | (refine step_u (s := .tmp 99) (x := .tmp 101) rfl rfl _ rfl (by first | exact o1 | exact o1.alloc _) rfl (reads1 (bump z x) (by simp [go_sem, kc, bump]) (by simp [go_sem, kc, bump]) (by simp [go_sem, kc, bump]) (by simp [go_sem, kc, bump])) (by omega) (by simp at zk ⊢ <;> omega) ?_; intro v2 wb o2 k2 _; have zk2 := k2.hsize) | (refine step_u (s := .tmp 102) (x := .tmp 103) rfl rfl _ rfl o2 rfl (sk_reads (by assumption) rr6) (by omega) (by simp at zk zk2 ⊢ <;> omega) ?_; intro v3 wd o3 k3 _))
                refine hK.out _ _ ?_ (fun hHeld => ?_)
                · (try dsimp only); (first | assumption | exact sk_mk (below_drew (Below.refl _ _)) | (refine sk_mk (Below.alloc (And.right (by assumption)) (sk_size (by assumption)) _)) | exact sk_app (by assumption) (by assumption) (sk_size (by assumption)))
                clear hK K
                try simp only [Act.put, List.setIfInBounds_toArray, List.set_cons_zero, List.set_cons_succ]
                refine wpAnyH_ready (rs := [9]) (by kernel_rfl) (by simp) ?_
                refine AllReadyH.cons (o := ⟨_, _, _, _, _, _⟩) rfl (fun K hK => ?_) AllReadyH.nil
                (first | (refine step_u (s := .tmp 95) (x := .tmp 98) rfl rfl _ rfl (xs := []) Owns.nil rfl (sk_reads (by assumption) rp6) (by omega) (Nat.le_refl _) ?_; intro v1 wa o1 k1 _; have kc := k1.all; have zk := k1.hsize) | (refine step_u (s := .tmp 99) (x := .tmp 101) rfl rfl _ rfl (by first | exact o1 | exact o1.alloc _) rfl (reads1 (bump z x) (by simp [go_sem, kc, bump]) (by simp [go_sem, kc, bump]) (by simp [go_sem, kc, bump]) (by simp [go_sem, kc, bump])) (by omega) (by simp at zk ⊢ <;> omega) ?_; intro v2 wb o2 k2 _; have zk2 := k2.hsize) | (refine step_u (s := .tmp 102) (x := .tmp 103) rfl rfl _ rfl o2 rfl (sk_reads (by assumption) rr6) (by omega) (by simp at zk zk2 ⊢ <;> omega) ?_; intro v3 wd o3 k3 _))
                refine hK.out _ _ ?_ (fun hHeld => ?_)
                · (try dsimp only); (first | assumption | exact sk_mk (below_drew (Below.refl _ _)) | (refine sk_mk (Below.alloc (And.right (by assumption)) (sk_size (by assumption)) _)) | exact sk_app (by assumption) (by assumption) (sk_size (by assumption)))
                clear hK K
                try simp only [Act.put, List.setIfInBounds_toArray, List.set_cons_zero, List.set_cons_succ]
                refine wpAnyH_take (i := 10) (oi := ⟨_, _, _, _, _, _⟩) (v := ?v_63) rfl (by kernel_rfl) (by kernel_rfl) (by kernel_rfl) (fun _ _ _ h => h) (Or.inl ⟨by rfl, ?hy_63⟩) (by assumption) ?r_63
                case hy_63 => (intro w_ hS_; (try dsimp only at hS_); go_simp; try with_reducible rfl)
                try simp only [Act.put, List.setIfInBounds_toArray, List.set_cons_zero, List.set_cons_succ]
                refine wpAnyH_take (i := 11) (oi := ⟨_, _, _, _, _, _⟩) (v := ?v_64) rfl (by kernel_rfl) (by kernel_rfl) (by kernel_rfl) (fun _ _ _ h => h) (Or.inl ⟨by rfl, ?hy_64⟩) (by assumption) ?r_64
                case hy_64 => (intro w_ hS_; (try dsimp only at hS_); go_simp; try with_reducible rfl)
                try simp only [Act.put, List.setIfInBounds_toArray, List.set_cons_zero, List.set_cons_succ]
                refine wpAnyH_done (by kernel_rfl) ?_ _
                (have bf := And.right (by assumption : (∀ b o, b < w6.heap.size → World.cell? _ ⟨b, o, none⟩ = w6.cell? ⟨b, o, none⟩) ∧ Below w6.heap.size w6 _); go_wp2; go_ret2; rw [HCL.out, HCE.out]; exact rclose o3 (by simp <;> omega) (b6.trans (bf.mono z6)) hti.out (rr6.rec_len ucells_len (by omega)).out)
              refine AllReadyH.cons (o := ⟨_, _, _, _, _, _⟩) rfl (fun K hK => ?_) AllReadyH.nil
              go_simp
              refine hK.out _ _ ?_ (fun hHeld => ?_)
              · (try dsimp only); (first | assumption | exact sk_mk (below_drew (Below.refl _ _)) | (refine sk_mk (Below.alloc (And.right (by assumption)) (sk_size (by assumption)) _)) | exact sk_app (by assumption) (by assumption) (sk_size (by assumption)))
              clear hK K
              try simp only [Act.put, List.setIfInBounds_toArray, List.set_cons_zero, List.set_cons_succ]
              refine wpAnyH_ready (rs := [0]) (by kernel_rfl) (by simp) ?_
              refine AllReadyH.cons (o := ⟨_, _, _, _, _, _⟩) rfl (fun K hK => ?_) AllReadyH.nil
              go_simp
              refine hK.out _ _ ?_ (fun hHeld => ?_)
              · (try dsimp only); (first | assumption | exact sk_mk (below_drew (Below.refl _ _)) | (refine sk_mk (Below.alloc (And.right (by assumption)) (sk_size (by assumption)) _)) | exact sk_app (by assumption) (by assumption) (sk_size (by assumption)))
              clear hK K
              try simp only [Act.put, List.setIfInBounds_toArray, List.set_cons_zero, List.set_cons_succ]
              refine wpAnyH_ready (rs := [4]) (by kernel_rfl) (by simp) ?_
              refine AllReadyH.cons (o := ⟨_, _, _, _, _, _⟩) rfl (fun K hK => ?_) AllReadyH.nil
              (first | (refine step_u (s := .tmp 95) (x := .tmp 98) rfl rfl _ rfl (xs := []) Owns.nil rfl (sk_reads (by assumption) rp6) (by omega) (Nat.le_refl _) ?_; intro v1 wa o1 k1 _; have kc := k1.all; have zk := k1.hsize) | (refine step_u (s := .tmp 99) (x := .tmp 101) rfl rfl _ rfl (by first | exact o1 | exact o1.alloc _) rfl (reads1 (bump z x) (by simp [go_sem, kc, bump]) (by simp [go_sem, kc, bump]) (by simp [go_sem, kc, bump]) (by simp [go_sem, kc, bump])) (by omega) (by simp at zk ⊢ <;> omega) ?_; intro v2 wb o2 k2 _; have zk2 := k2.hsize) | (refine step_u (s := .tmp 102) (x := .tmp 103) rfl rfl _ rfl o2 rfl (sk_reads (by assumption) rr6) (by omega) (by simp at zk zk2 ⊢ <;> omega) ?_; intro v3 wd o3 k3 _))
              refine hK.out _ _ ?_ (fun hHeld => ?_)
              · (try dsimp only); (first | assumption | exact sk_mk (below_drew (Below.refl _ _)) | (refine sk_mk (Below.alloc (And.right (by assumption)) (sk_size (by assumption)) _)) | exact sk_app (by assumption) (by assumption) (sk_size (by assumption)))
              clear hK K
              try simp only [Act.put, List.setIfInBounds_toArray, List.set_cons_zero, List.set_cons_succ]
              refine wpAnyH_ready (rs := [7]) (by kernel_rfl) (by simp) ?_
              refine AllReadyH.cons (o := ⟨_, _, _, _, _, _⟩) rfl (fun K hK => ?_) AllReadyH.nil
              (first | (refine step_u (s := .tmp 95) (x := .tmp 98) rfl rfl _ rfl (xs := []) Owns.nil rfl (sk_reads (by assumption) rp6) (by omega) (Nat.le_refl _) ?_; intro v1 wa o1 k1 _; have kc := k1.all; have zk := k1.hsize) | (refine step_u (s := .tmp 99) (x := .tmp 101) rfl rfl _ rfl (by first | exact o1 | exact o1.alloc _) rfl (reads1 (bump z x) (by simp [go_sem, kc, bump]) (by simp [go_sem, kc, bump]) (by simp [go_sem, kc, bump]) (by simp [go_sem, kc, bump])) (by omega) (by simp at zk ⊢ <;> omega) ?_; intro v2 wb o2 k2 _; have zk2 := k2.hsize) | (refine step_u (s := .tmp 102) (x := .tmp 103) rfl rfl _ rfl o2 rfl (sk_reads (by assumption) rr6) (by omega) (by simp at zk zk2 ⊢ <;> omega) ?_; intro v3 wd o3 k3 _))
              refine hK.out _ _ ?_ (fun hHeld => ?_)
              · (try dsimp only); (first | assumption | exact sk_mk (below_drew (Below.refl _ _)) | (refine sk_mk (Below.alloc (And.right (by assumption)) (sk_size (by assumption)) _)) | exact sk_app (by assumption) (by assumption) (sk_size (by assumption)))
              clear hK K
              try simp only [Act.put, List.setIfInBounds_toArray, List.set_cons_zero, List.set_cons_succ]
              refine wpAnyH_ready (rs := [9]) (by kernel_rfl) (by simp) ?_
              refine AllReadyH.cons (o := ⟨_, _, _, _, _, _⟩) rfl (fun K hK => ?_) AllReadyH.nil
              (first | (refine step_u (s := .tmp 95) (x := .tmp 98) rfl rfl _ rfl (xs := []) Owns.nil rfl (sk_reads (by assumption) rp6) (by omega) (Nat.le_refl _) ?_; intro v1 wa o1 k1 _; have kc := k1.all; have zk := k1.hsize) | (refine step_u (s := .tmp 99) (x := .tmp 101) rfl rfl _ rfl (by first | exact o1 | exact o1.alloc _) rfl (reads1 (bump z x) (by simp [go_sem, kc, bump]) (by simp [go_sem, kc, bump]) (by simp [go_sem, kc, bump]) (by simp [go_sem, kc, bump])) (by omega) (by simp at zk ⊢ <;> omega) ?_; intro v2 wb o2 k2 _; have zk2 := k2.hsize) | (refine step_u (s := .tmp 102) (x := .tmp 103) rfl rfl _ rfl o2 rfl (sk_reads (by assumption) rr6) (by omega) (by simp at zk zk2 ⊢ <;> omega) ?_; intro v3 wd o3 k3 _))
              refine hK.out _ _ ?_ (fun hHeld => ?_)
              · (try dsimp only); (first | assumption | exact sk_mk (below_drew (Below.refl _ _)) | (refine sk_mk (Below.alloc (And.right (by assumption)) (sk_size (by assumption)) _)) | exact sk_app (by assumption) (by assumption) (sk_size (by assumption)))
              clear hK K
              try simp only [Act.put, List.setIfInBounds_toArray, List.set_cons_zero, List.set_cons_succ]
              refine wpAnyH_take (i := 10) (oi := ⟨_, _, _, _, _, _⟩) (v := ?v_65) rfl (by kernel_rfl) (by kernel_rfl) (by kernel_rfl) (fun _ _ _ h => h) (Or.inl ⟨by rfl, ?hy_65⟩) (by assumption) ?r_65
              case hy_65 => (intro w_ hS_; (try dsimp only at hS_); go_simp; try with_reducible rfl)
              try simp only [Act.put, List.setIfInBounds_toArray, List.set_cons_zero, List.set_cons_succ]
              refine wpAnyH_take (i := 11) (oi := ⟨_, _, _, _, _, _⟩) (v := ?v_66) rfl (by kernel_rfl) (by kernel_rfl) (by kernel_rfl) (fun _ _ _ h => h) (Or.inl ⟨by rfl, ?hy_66⟩) (by assumption) ?r_66
              case hy_66 => (intro w_ hS_; (try dsimp only at hS_); go_simp; try with_reducible rfl)
              try simp only [Act.put, List.setIfInBounds_toArray, List.set_cons_zero, List.set_cons_succ]
              refine wpAnyH_done (by kernel_rfl) ?_ _
              (have bf := And.right (by assumption : (∀ b o, b < w6.heap.size → World.cell? _ ⟨b, o, none⟩ = w6.cell? ⟨b, o, none⟩) ∧ Below w6.heap.size w6 _); go_wp2; go_ret2; rw [HCL.out, HCE.out]; exact rclose o3 (by simp <;> omega) (b6.trans (bf.mono z6)) hti.out (rr6.rec_len ucells_len (by omega)).out)
end Go.Proofs.Ytlhogedcokcmhaa
