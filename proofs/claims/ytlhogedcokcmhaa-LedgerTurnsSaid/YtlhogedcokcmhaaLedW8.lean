/- Contracts of layer 17: Charge, of a new entry. -/
import Derived.Test.YtlhogedcokcmhaaLedW6
import Derived.Deep.RegionWith
namespace Go.Proofs.Ytlhogedcokcmhaa
set_option linter.unusedVariables false
open Go.RowKit
set_option maxHeartbeats 4000000 in
theorem charge_new (A : Option Addr) (n c B : Nat) (l : List U) (user acct : ByteArray) (z : Int) (w : World) (hn : n ≤ maxLen) (hc : n ≤ c) (hr : Reads w B 4 A n (recs ucells l)) (hB : B ≤ w.heap.size)
    (hg : ledgerV l = true) (n1 : nameV user = true) (n2 : nameV acct = true) (hz : 0 ≤ z) (hfo : foundU l (newU user acct) = false) (h200 : n < 200) (i : Nat) (HI : Hid (lowU l (newU user acct) = i)) (u : U) (HU : Hid ((l.take i ++ newU user acct :: l.drop i)[i]? = some u)) :
    Calls Try.prog 8 #[.slice A n c, .string user, .string acct, .int .i64 z] w (RetLE w ((l.take i ++ newU user acct :: l.drop i).set i (bump z u)) 0) := by
  have hE : chkE l = 0 := by unfold chkE; rw [if_pos hg]
  have HG : Hid (goodB l none = true) := by show _ = _; simp [ledgerV] at hg; exact hg.2
  have h4 : decide (z < 0) = false := by simp; omega
  have hn2 : ((n : Int) == 200) = false := by simp; omega
  have hlen := hr.rec_len ucells_len (by omega)
  have hle : n ≤ 200 := by have := hlen.out; simp [ledgerV] at hg; omega
  have hi : i ≤ n := by have := lowU_le l (newU user acct); rw [HI.out, hlen.out] at this; exact this
  have hlen2 : Hid ((l.take i ++ newU user acct :: l.drop i).length = n + 1) := by show _ = _; have := hlen.out; simp; omega
  have hlt : i < (n + 1) := by have h := (List.getElem?_eq_some_iff.1 HU.out).1; have := hlen.out; (try simp at h); omega
  clear hg
  go_enter Try.func8, Try.ntmps8
  go_wp2_with (first
    | (go_at_call 13; refine (check_any A n c B l _ hn hr hB).mono ?_; rintro e w1 ⟨rfl, hb1⟩; rw [hE]; have hr1 := hr.below (hb1.mono hB); have hz1 := hb1.size; clear hr)
    | (go_at_call 20; refine (name_any _ _).mono ?_; rintro e w' ⟨rfl, rfl⟩)
    | (go_at_call 21; refine (bsearch_any A n c B l (newU user acct) _ (by omega) (hr1.alloc (by omega) _) (by simp; omega) HG.out).mono ?_; rintro e w2 ⟨rfl, hb2⟩; rw [HI.out, hfo]
       simp only [World.size_alloc] at hb2
       have hz2 := hb2.size; simp only [World.size_alloc] at hz2; have hr2 := (hr1.alloc (by omega) (.cells #[.string user, .string acct, .int .i64 0, .int .i64 0] 42)).below (hb2.mono (by omega)); have b2 := (hb1.alloc hz1 (.cells #[.string user, .string acct, .int .i64 0, .int .i64 0] 42)).trans (hb2.mono (by omega)); clear hr1)
    | (go_at_call 23; refine (clone_any A n c B l _ (by omega) hr2 (by omega)).mono ?_; rintro e w3 ⟨v, rfl, o3, hb3⟩; obtain ⟨A3, c3, rfl, hc3, _⟩ := o3.slice
       have hz3 := hb3.size; have b3 := b2.trans (hb3.mono (by omega)); have o3' := o3.mono (B' := w.heap.size) (by omega); have hr3 := hr2.below (hb3.mono (by omega)); have y0 : w3.cell? ⟨w1.heap.size, 0, none⟩ = some (.string user) := (by rw [hb3.cell (by simp; omega), hb2.cell (by simp)]; simp [go_sem]); have y1 : w3.cell? ⟨w1.heap.size, 1, none⟩ = some (.string acct) := (by rw [hb3.cell (by simp; omega), hb2.cell (by simp)]; simp [go_sem]); have y2 : w3.cell? ⟨w1.heap.size, 2, none⟩ = some (.int .i64 0) := (by rw [hb3.cell (by simp; omega), hb2.cell (by simp)]; simp [go_sem]); have y3 : w3.cell? ⟨w1.heap.size, 3, none⟩ = some (.int .i64 0) := (by rw [hb3.cell (by simp; omega), hb2.cell (by simp)]; simp [go_sem]); clear hr2 o3)
    | (go_at_call 24; refine (insert_any A n c B i l (newU user acct) _ (by omega) hc hi hr3 (by omega)).mono ?_; rintro e w4 ⟨v, rfl, o4, hb4⟩; obtain ⟨A4, c4, rfl, hc4, _⟩ := o4.slice
       have b4 := b3.trans (hb4.mono (by omega)); have o4' := o4.mono (B' := w.heap.size) (by omega); clear hr3 o4))
  obtain ⟨g, c', e, _, _, _, _, _, _⟩ := Owns.at_ o4' (by omega)
  have e1 : A4 = some ⟨g, 0, none⟩ := by simpa using congrArg (fun v => match v with | .slice a _ _ => a | _ => none) e
  subst e1
  clear e
  obtain ⟨hBg, hgl, _, _, q2, q3, hf⟩ := Owns.u_at o4' hlt HU.out
  have HB := Lib.hid (And.intro b4 (And.intro o4' (And.intro hBg hgl)))
  have f2 := hf (i * 4 + 2)
  have f3 := hf (i * 4 + 3)
  have hj0 : (0 : Int) ≤ (i : Int) := by omega
  have hj1 : (i : Int) < (((n + 1) : Nat) : Int) := by omega
  have hfz := fun (w : World) (c : Array Value) (t : TypeId) (a : Addr) => frozen?_alloc_cells w c t a
  clear hf
  clear o4' b4 b3 hb1 hb2 hb3 hb4 b2 hz1 hz2 hz3 hE HG h4 hle hn hc hB n1 n2 hz hfo hBg
  go_region_with (first | (go_at_call 16; refine (plus2 u.used z _ _ ?_ ?_).mono ?_; (focus simp [go_sem]); (focus simp [go_sem]); rintro e w' ⟨rfl, rfl⟩) | (go_at_call 16; refine (plus2 u.share z _ _ ?_ ?_).mono ?_; (focus simp [go_sem]); (focus simp [go_sem]); rintro e w' ⟨rfl, rfl⟩))
  all_goals
    go_wp2
    go_ret2
    refine charge_close HB.out.1 HB.out.2.1 HB.out.2.2.1 hlen2.out HU.out ?_
    repeat (first | exact Below.refl _ _ | refine Below.alloc ?_ (by simp <;> omega) _ | refine below_drew ?_ | refine below_drewN ?_ _)
end Go.Proofs.Ytlhogedcokcmhaa
