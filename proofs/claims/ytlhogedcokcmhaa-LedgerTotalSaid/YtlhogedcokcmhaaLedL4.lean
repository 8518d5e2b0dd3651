/- The statement LedgerTotal of layer 17, whole. -/
import Derived.Test.YtlhogedcokcmhaaLedL3
namespace Go.Proofs.Ytlhogedcokcmhaa
set_option linter.unusedVariables false
open Go.RowKit
set_option maxRecDepth 100000 in
set_option maxHeartbeats 1000000 in
theorem ledgerTotal_walk (A : Option Addr) (n c : Nat) (l : List U) (xu xa yu ya : ByteArray) (xn yn : Int) (w : World) (hn : n ≤ maxLen) (hc : n ≤ c) (hr : Reads w w.heap.size 4 A n (recs ucells l)) :
    Calls Try.prog 4 #[.slice A n c, nv xu xa xn, nv yu ya yn] w fun e w' => e = .returned (.bool true) ∧ Below w.heap.size w w' := by
  have hr1 := (hr.alloc (Nat.le_refl _) (.cells #[.string xu, .string xa, .int .i64 xn] 24)).alloc (by simp) (.cells #[.string yu, .string ya, .int .i64 yn] 24)
  have b1 := ((Below.refl w.heap.size w).alloc (Nat.le_refl _) (.cells #[.string xu, .string xa, .int .i64 xn] 24)).alloc (by simp) (.cells #[.string yu, .string ya, .int .i64 yn] 24)
  by_cases hf : fewV l = true
  · by_cases hsz : wrap64 (wrap64 (wrap64 ((xu.size : Int) + xa.size) + yu.size) + ya.size) ≤ 1000
    · by_cases hE : chargeE l xu xa xn = 0
      · exact ledgerTotal_good A n c l xu xa yu ya xn yn w hn hc hr hf hsz hE
      · have hd1 : decide ((1000 : Int) < wrap64 (wrap64 (wrap64 ((xu.size : Int) + xa.size) + yu.size) + ya.size)) = false := decide_eq_false (by omega)
        have hL : chargeL l xu xa xn = [] := by unfold chargeL; rw [if_neg hE]
        obtain ⟨er, her⟩ : ∃ er, Hid (chargeE l xu xa xn = er) := ⟨_, rfl⟩
        have h0 : (er != 0) = true := by rw [← her.out]; simpa using hE
        clear hr hE
        go_enter Try.func4, Try.ntmps4
        go_wp2_with (first
          | (go_at_call 6; refine (few_any A n c _ l _ hn hr1).mono ?_; rintro e w' ⟨rfl, rfl⟩)
          | (go_at_call 8; refine (charge_any A n c _ l xu xa xn _ hn hc hr1 (by simp; omega)).mono ?_; rintro e w3 ⟨v3, rfl, o3, hb3⟩; rw [her.out]; rw [hL] at o3; obtain ⟨A3, c3, rfl, hc3, _⟩ := o3.slice; clear hr1 o3)
          | (go_at_call 7; refine (awake_any _).mono ?_; rintro e w9 ⟨rfl, hb9⟩))
        go_ret
        exact ⟨rfl, b1.trans ((bt hb3 hb9).mono (by simp; omega))⟩
    · have hd1 : decide ((1000 : Int) < wrap64 (wrap64 (wrap64 ((xu.size : Int) + xa.size) + yu.size) + ya.size)) = true := decide_eq_true (by omega)
      clear hr
      go_enter Try.func4, Try.ntmps4
      go_wp2_with (first
        | (go_at_call 6; refine (few_any A n c _ l _ hn hr1).mono ?_; rintro e w' ⟨rfl, rfl⟩)
        | (go_at_call 7; refine (awake_any _).mono ?_; rintro e w9 ⟨rfl, hb9⟩))
      go_ret
      exact ⟨rfl, b1.trans (hb9.mono (by simp; omega))⟩
  · have hf' : fewV l = false := by simpa using hf
    clear hf hr
    go_enter Try.func4, Try.ntmps4
    go_wp2_with (first
      | (go_at_call 6; refine (few_any A n c _ l _ hn hr1).mono ?_; rintro e w' ⟨rfl, rfl⟩)
      | (go_at_call 7; refine (awake_any _).mono ?_; rintro e w9 ⟨rfl, hb9⟩))
    go_ret
    exact ⟨rfl, b1.trans (hb9.mono (by simp; omega))⟩
end Go.Proofs.Ytlhogedcokcmhaa
