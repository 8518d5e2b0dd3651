/- The statement LedgerTurns of layer 17, walked. -/
import Derived.Test.YtlhogedcokcmhaaLedR3
namespace Go.Proofs.Ytlhogedcokcmhaa
set_option linter.unusedVariables false
open Go.RowKit
theorem rcharge_any (A : Option Addr) (n c B : Nat) (l : List U) (user acct : ByteArray) (z : Int) (w : World) (hn : n ≤ maxLen) (hc : n ≤ c) (hr : Reads w B 4 A n (recs ucells l)) (hB : B ≤ w.heap.size) :
    Calls Try.prog 9 #[.slice A n c, .string user, .string acct, .int .i64 z] w (RetLE w (chargeL l user acct z) (chargeE l user acct z)) := by
  by_cases h1 : ledgerV l = true ∧ (nameV user && nameV acct && decide (0 ≤ z)) = true
  · obtain ⟨hg, h2⟩ := h1
    simp only [Bool.and_eq_true, decide_eq_true_eq] at h2
    obtain ⟨⟨n1, n2⟩, hz⟩ := h2
    exact rcharge_x A n c B l user acct z w hn hc hr hB hg n1 n2 hz _ rfl
  · have h2 : ledgerV l = false ∨ (nameV user && nameV acct && decide (0 ≤ z)) = false := by
      cases hg : ledgerV l
      · exact .inl rfl
      · right
        cases h3 : (nameV user && nameV acct && decide (0 ≤ z))
        · rfl
        · exact absurd ⟨hg, h3⟩ h1
    have hE : chargeE l user acct z = 2 := by
      unfold chargeE
      rcases h2 with h2 | h2
      · simp [h2]
      · cases hg : ledgerV l <;> simp
        cases n1 : nameV user <;> cases n2 : nameV acct <;> simp [n1, n2] at h2 ⊢
        intro h; omega
    have hL : chargeL l user acct z = [] := by unfold chargeL; rw [if_neg (by rw [hE]; omega)]
    rw [hE, hL]
    exact rcharge_bad A n c B l user acct z w hn hr hB h2
set_option maxRecDepth 100000 in
set_option maxHeartbeats 2000000 in
theorem ledgerTurns_walk (A : Option Addr) (n c : Nat) (l : List U) (xu xa : ByteArray) (xn : Int) (w : World) (hn : n ≤ maxLen) (hc : n ≤ c) (hr : Reads w w.heap.size 4 A n (recs ucells l)) :
    Calls Try.prog 3 #[.slice A n c, nv xu xa xn] w fun e w' => e = .returned (.bool true) ∧ Below w.heap.size w w' := by
  have hr1 := hr.alloc (Nat.le_refl _) (.cells #[.string xu, .string xa, .int .i64 xn] 24)
  have b1 := (Below.refl w.heap.size w).alloc (Nat.le_refl _) (.cells #[.string xu, .string xa, .int .i64 xn] 24)
  clear hr
  by_cases hf : fewV l = true
  · by_cases hsz : wrap64 ((xu.size : Int) + xa.size) ≤ 1000
    · have hd1 : decide ((1000 : Int) < wrap64 ((xu.size : Int) + xa.size)) = false := decide_eq_false (by omega)
      obtain ⟨M, HM⟩ : ∃ M, Hid (chargeL l xu xa xn = M) := ⟨_, rfl⟩
      obtain ⟨er, her⟩ : ∃ er, Hid (chargeE l xu xa xn = er) := ⟨_, rfl⟩
      obtain ⟨D, HD⟩ : ∃ D, Hid (decayL l = D) := ⟨_, rfl⟩
      have hlen := (hr1.rec_len ucells_len (by omega)).out
      have hMl : M.length ≤ maxLen := by
        rw [← HM.out]; unfold chargeL
        by_cases h0 : chargeE l xu xa xn = 0
        · have := (charge_chg h0).2.2.2.2.2
          unfold chargeL at this; rw [if_pos h0] at this ⊢
          exact Nat.le_trans this (by simp [maxLen])
        · rw [if_neg h0]; simp
      have hDl : D.length ≤ maxLen := by
        rw [← HD.out]; unfold decayL; split
        · simp; omega
        · simp
      clear hlen
      go_enter Try.func3, Try.ntmps3
      go_wp2_with (first
        | (go_at_call 6; refine (few_any A n c _ l _ hn hr1).mono ?_; rintro e w' ⟨rfl, rfl⟩)
        | (go_at_call 8; refine (charge_any A n c _ l xu xa xn _ hn hc hr1 (by simp)).mono ?_; rintro e w3 ⟨v3, rfl, o3, hb3⟩; rw [her.out]; rw [HM.out] at o3; simp only [World.size_alloc] at o3 hb3; obtain ⟨A3, c3, rfl, hc3, _⟩ := o3.slice
           have hz3 := hb3.size
           simp only [World.size_alloc] at hz3
           have b3 := b1.trans (hb3.mono (by omega))
           have rm3 := o3.reads
           have rl3 := (hr1.below (hb3.mono (by omega))).more (B' := w3.heap.size) (by omega)
           have x0 : w3.cell? ⟨w.heap.size, 0, none⟩ = some (.string xu) := (by rw [hb3.cell (by simp)]; simp [go_sem])
           have x1 : w3.cell? ⟨w.heap.size, 1, none⟩ = some (.string xa) := (by rw [hb3.cell (by simp)]; simp [go_sem])
           have x2 : w3.cell? ⟨w.heap.size, 2, none⟩ = some (.int .i64 xn) := (by rw [hb3.cell (by simp)]; simp [go_sem])
           clear hr1 hb3 o3 b1 hc3)
        | (go_at_call 9; refine (rcharge_any A n c _ l xu xa xn _ hn hc rl3 (Nat.le_refl _)).mono ?_; rintro e w4 ⟨v4, rfl, o4, hb4⟩; rw [her.out]; rw [HM.out] at o4; obtain ⟨A4, c4, rfl, hc4, _⟩ := o4.slice
           have b4 := b3.trans (hb4.mono b3.size)
           have rm4 := rm3.below hb4
           have rn4 := o4.reads
           have rl4 := (rl3.below hb4).more (B' := w4.heap.size) hb4.size
           clear rm3 rl3 o4 b3 x0 x1 x2 hb4 hc4)
        | (go_at_call_of 10 (Value.slice A3 M.length c3); refine (rsame_like A3 A4 M.length c3 c4 _ _ M _ hMl rm4 rn4).mono ?_; rintro e w5 ⟨rfl, k5, hw5⟩
           have b5 : Below w.heap.size w w5 := (by rw [hw5]; exact below_drewN b4 _)
           have rl5 : Reads w5 w5.heap.size 4 A n (recs ucells l) := (by rw [hw5]; exact rl4)
           clear hw5 rm4 rn4 rl4 b4)
        | (go_at_call 11; refine (decay_any A n c _ l _ hn rl5 (Nat.le_refl _)).mono ?_; rintro e w6 ⟨v6, rfl, o6, hb6⟩; rw [HD.out] at o6; obtain ⟨A6, c6, rfl, hc6, _⟩ := o6.slice
           have b6 := b5.trans (hb6.mono b5.size)
           have rd6 := o6.reads
           have rl6 := (rl5.below hb6).more (B' := w6.heap.size) hb6.size
           clear rl5 o6 b5 hb6 hc6)
        | (go_at_call 12; refine (rdecay_any A n c _ l _ hn rl6 (Nat.le_refl _)).mono ?_; rintro e w7 ⟨v7, rfl, o7, hb7⟩; rw [HD.out] at o7; obtain ⟨A7, c7, rfl, hc7, _⟩ := o7.slice
           have b7 := b6.trans (hb7.mono b6.size)
           have rd7 := rd6.below hb7
           have re7 := o7.reads
           have rl7 := (rl6.below hb7).more (B' := w7.heap.size) hb7.size
           clear rl6 o7 b6 hb7 hc7 rd6)
        | (go_at_call_of 10 (Value.slice A6 D.length c6); refine (rsame_like A6 A7 D.length c6 c7 _ _ D _ hDl rd7 re7).mono ?_; rintro e w8 ⟨rfl, k8, hw8⟩
           have b8 : Below w.heap.size w w8 := (by rw [hw8]; exact below_drewN b7 _)
           have rl8 : Reads w8 w8.heap.size 4 A n (recs ucells l) := (by rw [hw8]; exact rl7)
           clear hw8 rd7 re7 rl7 b7)
        | (go_at_call 13; refine (check_any A n c _ l _ hn rl8 (Nat.le_refl _)).mono ?_; rintro e w9 ⟨rfl, hb9⟩
           have b9 := b8.trans (hb9.mono b8.size)
           have rl9 := (rl8.below hb9).more (B' := w9.heap.size) hb9.size
           clear rl8 b8 hb9)
        | (go_at_call 14; refine (rcheck_any A n c _ l _ hn rl9 (Nat.le_refl _)).mono ?_; rintro e w10 ⟨rfl, hb10⟩
           have b10 := b9.trans (hb10.mono b9.size)
           clear rl9 b9 hb10)
        | (go_at_call 7; refine (awake_any _).mono ?_; rintro e w11 ⟨rfl, hb11⟩))
      go_ret
      exact ⟨rfl, bt b10 hb11⟩
    · have hd1 : decide ((1000 : Int) < wrap64 ((xu.size : Int) + xa.size)) = true := decide_eq_true (by omega)
      go_enter Try.func3, Try.ntmps3
      go_wp2_with (first
        | (go_at_call 6; refine (few_any A n c _ l _ hn hr1).mono ?_; rintro e w' ⟨rfl, rfl⟩)
        | (go_at_call 7; refine (awake_any _).mono ?_; rintro e w9 ⟨rfl, hb9⟩))
      go_ret
      exact ⟨rfl, b1.trans (hb9.mono (by simp))⟩
  · have hf' : fewV l = false := by simpa using hf
    clear hf
    go_enter Try.func3, Try.ntmps3
    go_wp2_with (first
      | (go_at_call 6; refine (few_any A n c _ l _ hn hr1).mono ?_; rintro e w' ⟨rfl, rfl⟩)
      | (go_at_call 7; refine (awake_any _).mono ?_; rintro e w9 ⟨rfl, hb9⟩))
    go_ret
    exact ⟨rfl, b1.trans (hb9.mono (by simp))⟩
end Go.Proofs.Ytlhogedcokcmhaa
