/- Contracts of layer 17: what is told of a ledger. -/
import Derived.Test.YtmkmmggimokagaaGreatDoorLedW6
import Derived.Shelf.Abstract
namespace Go.Proofs.YtmkmmggimokagaaGreatDoor
set_option linter.unusedVariables false
open Go.RowKit
/-- what is told of entries: f of each, added up -/
def togV (l : List U) (f : U → Int) : Int := if ledgerV l then addV 1000000000000 (l.map f) else 0
theorem addV_bds (l : List Int) : 0 ≤ addV 1000000000000 l ∧ addV 1000000000000 l ≤ 1000000000000 := addV_bd _ (by omega) l
theorem addV_more (l : List Int) (x : Int) : addV 1000000000000 [addV 1000000000000 l, x] = addV 1000000000000 (l ++ [x]) := by
  have h := addV_bds l
  have hx := clamp_bd x (E := 1000000000000) (by omega)
  have ht := tot_nonneg 1000000000000 (by omega) l
  have e1 : tot 1000000000000 [addV 1000000000000 l, x] = addV 1000000000000 l + clamp x 0 1000000000000 := by
    simp only [tot, clamp_in (show ¬ addV 1000000000000 l < 0 by omega) (show ¬ 1000000000000 < addV 1000000000000 l by omega)]; omega
  have e2 : tot 1000000000000 (l ++ [x]) = tot 1000000000000 l + clamp x 0 1000000000000 := by rw [tot_append]; simp [tot]
  have e3 : ∀ l, addV 1000000000000 l = if tot 1000000000000 l ≤ 1000000000000 then tot 1000000000000 l else 1000000000000 := fun l => rfl
  rw [e3, e3 (l ++ [x]), e1, e2, e3 l]
  split <;> split <;> (try split) <;> omega
set_option maxHeartbeats 400000 in
theorem together_any (A : Option Addr) (n c B : Nat) (l : List U) (w : World) (F : FuncId) (cap : Array Value) (f : U → Int)
    (eg : ∀ args w, (callFunc F args).run Tryz.prog w = .ok (.enter F args) w)
    (hf : ∀ W u, Below w.heap.size w W → Calls Tryz.prog F (#[uv u] ++ cap) W fun e w' => e = .returned (.int .i64 (f u)) ∧ Below W.heap.size W w')
    (hn : n ≤ maxLen) (hr : Reads w B 4 A n (recs ucells l)) (hB : B ≤ w.heap.size) :
    Calls Tryz.prog 24 #[.slice A n c, .func (.func F) #[] cap] w fun e w' => e = .returned (.int .i64 (togV l f)) ∧ Below w.heap.size w w' := by
  have hlen := hr.rec_len ucells_len (by omega)
  by_cases hg : ledgerV l = true
  · have hle : n ≤ 200 := by have h := hlen.out; simp [ledgerV] at hg; omega
    have HE : Hid (togV l f = addV 1000000000000 (l.map f)) := by show _ = _; unfold togV; rw [if_pos hg]
    have hE : chkE l = 0 := by unfold chkE; rw [if_pos hg]
    have HF := Lib.hid hf
    clear hg hf
    go_enter Tryz.func24, Tryz.ntmps24
    go_wp2_with (go_at_call 44; refine (lcheck_any A n c B l _ hn hr hB).mono ?_; rintro e w1 ⟨rfl, hb1⟩; rw [hE]; have hz1 := hb1.size)
    go_loopw [5, 13] (fun t i wr => ∃ k : Nat, k ≤ n ∧ i = .int .i64 k ∧ t = .int .i64 (addV 1000000000000 ((l.take k).map f)) ∧ Below w.heap.size w wr) (fun _ i _ => n - (intOf i).toNat)
    case atStart => exact ⟨0, Nat.zero_le _, rfl, rfl, hb1⟩
    case round =>
      obtain ⟨k, hk, rfl, rfl, b4⟩ := hrel
      clear hE
      have hz4 := b4.size
      by_cases hlt : k < n
      · obtain ⟨b, o, u, rfl, hbb, hx, c0, c1, c2, c3⟩ := ((hr.below (b4.mono hB))).u_at hlt
        have hb1 : b < wr.heap.size := by omega
        have HT : Hid (addV 1000000000000 [addV 1000000000000 ((l.take k).map f), f u] = addV 1000000000000 ((l.take (k + 1)).map f)) := by
          show _ = _
          rw [addV_more, List.take_add_one, hx.out]; simp
        have hcall := HF.out _ u (b4.alloc hz4 (.cells #[.string u.user, .string u.acct, .int .i64 u.used, .int .i64 u.share] 48))
        obtain ⟨T, hT⟩ : ∃ T, Hid (addV 1000000000000 ((l.take k).map f) = T) := ⟨_, rfl⟩
        rw [hT.out] at HT ⊢
        clear hr HF
        go_wp2_with (first
          | (go_at_fn F; refine hcall.mono ?_; rintro e w5 ⟨rfl, hb5⟩; have b5 := (b4.alloc hz4 (.cells #[.string u.user, .string u.acct, .int .i64 u.used, .int .i64 u.share] 48)).trans (hb5.mono (by simp; omega)); have hz5 := b5.size; clear hcall)
          | (go_at_call 45; refine (plus2 T (f u) _ _ ?_ ?_).mono ?_; (focus simp [go_sem]); (focus simp [go_sem]); rintro e w' ⟨rfl, rfl⟩))
        go_roundw
        case rel => exact ⟨k + 1, by omega, by go_num, by rw [HT.out], b5.alloc hz5 _⟩
        case measure => simp [intOf]; omega
      · have HL : Hid (addV 1000000000000 ((l.take k).map f) = togV l f) := by
          show _ = _
          rw [HE.out, List.take_of_length_le (by have := hlen.out; omega)]
        clear hr HF
        go_wp2
        go_ret
        exact ⟨ret_int HL.out, b4⟩
  · have hE : chkE l = 2 := by unfold chkE; rw [if_neg hg]
    have HE : Hid (togV l f = 0) := by show _ = _; unfold togV; rw [if_neg hg]
    clear hg hf
    go_enter Tryz.func24, Tryz.ntmps24
    go_wp2_with (go_at_call 44; refine (lcheck_any A n c B l _ hn hr hB).mono ?_; rintro e w1 ⟨rfl, hb1⟩; rw [hE])
    go_ret
    exact ⟨ret_int HE.out.symm, hb1⟩
def usedF (user acct : ByteArray) (u : U) : Int := if u.user = user ∧ u.acct = acct then u.used else 0
def shareF (user : ByteArray) (u : U) : Int := if u.user = user then u.share else 0
end Go.Proofs.YtmkmmggimokagaaGreatDoor
