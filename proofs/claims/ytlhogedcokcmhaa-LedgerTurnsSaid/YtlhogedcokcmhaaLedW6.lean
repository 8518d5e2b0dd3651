/- Contracts of layer 17: Charge. -/
import Derived.Test.YtlhogedcokcmhaaLedW5
namespace Go.Proofs.Ytlhogedcokcmhaa
set_option linter.unusedVariables false
open Go.RowKit
def bump (n : Int) (u : U) : U := { u with used := addV 1000000000000 [u.used, n], share := addV 1000000000000 [u.share, n] }
/-- the entries among which the one that is charged stands -/
def baseL (l : List U) (x : U) : List U := if foundU l x then l else l.take (lowU l x) ++ x :: l.drop (lowU l x)
def newU (user acct : ByteArray) : U := ⟨user, acct, 0, 0⟩
def chargeE (l : List U) (user acct : ByteArray) (n : Int) : Int :=
  if !ledgerV l then 2 else if !nameV user || !nameV acct || decide (n < 0) then 2 else if !foundU l (newU user acct) && decide (l.length = 200) then 3 else 0
def chargeL (l : List U) (user acct : ByteArray) (n : Int) : List U :=
  if chargeE l user acct n = 0 then (baseL l (newU user acct)).modify (lowU l (newU user acct)) (bump n) else []
def RetLE (w : World) (l : List U) (er : Int) (en : Ending) (w' : World) : Prop := RetOwnE w 42 4 l.length (recs ucells l) er en w'
theorem plus2 (x y : Int) (W : World) (g : Nat) (c0 : W.cell? ⟨g, 0, none⟩ = some (.int .i64 x)) (c1 : W.cell? ⟨g, 1, none⟩ = some (.int .i64 y)) :
    Calls Try.prog 16 #[.slice (some ⟨g, 0, none⟩) 2 2] W fun e w' => e = .returned (.int .i64 (addV 1000000000000 [x, y])) ∧ W = w' := by
  refine plus_any (some ⟨g, 0, none⟩) 2 2 (g + 1) [x, y] W (by simp [maxLen]) ⟨rfl, fun _ => ⟨_, rfl, by simp, fun j u hu => ?_⟩⟩
  have hj : j < 2 := by simpa [ints] using (List.getElem?_eq_some_iff.1 hu).1
  rcases j with _ | _ | j
  · simp [ints] at hu; subst hu; simpa [Addr.add] using c0
  · simp [ints] at hu; subst hu; simpa [Addr.add] using c1
  · omega
theorem charge_bad (A : Option Addr) (n c B : Nat) (l : List U) (user acct : ByteArray) (z : Int) (w : World) (hn : n ≤ maxLen) (hr : Reads w B 4 A n (recs ucells l)) (hB : B ≤ w.heap.size)
    (h : ledgerV l = false ∨ (nameV user && nameV acct && decide (0 ≤ z)) = false) :
    Calls Try.prog 8 #[.slice A n c, .string user, .string acct, .int .i64 z] w (RetLE w [] 2) := by
  by_cases hg : ledgerV l = true
  · have hE : chkE l = 0 := by unfold chkE; rw [if_pos hg]
    have h2 : (nameV user && nameV acct && decide (0 ≤ z)) = false := by
      rcases h with h | h
      · rw [hg] at h; cases h
      · exact h
    clear h hg
    by_cases n1 : nameV user = true
    · by_cases n2 : nameV acct = true
      · have h3 : z < 0 := by simpa [n1, n2] using h2
        have h4 : decide (z < 0) = true := by simpa using h3
        clear h2 h3
        go_enter Try.func8, Try.ntmps8
        go_wp2_with (first
          | (go_at_call 13; refine (check_any A n c B l _ hn hr hB).mono ?_; rintro e w1 ⟨rfl, hb1⟩; rw [hE]; clear hr)
          | (go_at_call 20; refine (name_any _ _).mono ?_; rintro e w1 ⟨rfl, rfl⟩))
        go_ret2
        exact ⟨_, rfl, Owns.nil, hb1⟩
      · have n2' : nameV acct = false := by simpa using n2
        clear h2 n2
        go_enter Try.func8, Try.ntmps8
        go_wp2_with (first
          | (go_at_call 13; refine (check_any A n c B l _ hn hr hB).mono ?_; rintro e w1 ⟨rfl, hb1⟩; rw [hE]; clear hr)
          | (go_at_call 20; refine (name_any _ _).mono ?_; rintro e w1 ⟨rfl, rfl⟩))
        go_ret2
        exact ⟨_, rfl, Owns.nil, hb1⟩
    · have n1' : nameV user = false := by simpa using n1
      clear h2 n1
      go_enter Try.func8, Try.ntmps8
      go_wp2_with (first
        | (go_at_call 13; refine (check_any A n c B l _ hn hr hB).mono ?_; rintro e w1 ⟨rfl, hb1⟩; rw [hE]; clear hr)
        | (go_at_call 20; refine (name_any _ _).mono ?_; rintro e w1 ⟨rfl, rfl⟩))
      go_ret2
      exact ⟨_, rfl, Owns.nil, hb1⟩
  · have hE : chkE l = 2 := by unfold chkE; rw [if_neg hg]
    clear h hg
    go_enter Try.func8, Try.ntmps8
    go_wp2_with (go_at_call 13; refine (check_any A n c B l _ hn hr hB).mono ?_; rintro e w1 ⟨rfl, hb1⟩; rw [hE])
    go_ret2
    exact ⟨_, rfl, Owns.nil, hb1⟩
theorem charge_full (A : Option Addr) (n c B : Nat) (l : List U) (user acct : ByteArray) (z : Int) (w : World) (hn : n ≤ maxLen) (hr : Reads w B 4 A n (recs ucells l)) (hB : B ≤ w.heap.size)
    (hg : ledgerV l = true) (n1 : nameV user = true) (n2 : nameV acct = true) (hz : 0 ≤ z) (hfo : foundU l (newU user acct) = false) (h200 : n = 200) :
    Calls Try.prog 8 #[.slice A n c, .string user, .string acct, .int .i64 z] w (RetLE w [] 3) := by
  have hE : chkE l = 0 := by unfold chkE; rw [if_pos hg]
  have HG : Hid (goodB l none = true) := by show _ = _; simp [ledgerV] at hg; exact hg.2
  have h4 : decide (z < 0) = false := by simp; omega
  have hn2 : ((n : Int) == 200) = true := by simp; omega
  obtain ⟨i, HI⟩ : ∃ i, Hid (lowU l (newU user acct) = i) := ⟨_, rfl⟩
  have hle : n ≤ 200 := by omega
  clear hg h200
  go_enter Try.func8, Try.ntmps8
  go_wp2_with (first
    | (go_at_call 13; refine (check_any A n c B l _ hn hr hB).mono ?_; rintro e w1 ⟨rfl, hb1⟩; rw [hE]; have hr1 := hr.below (hb1.mono hB); have hz1 := hb1.size; clear hr)
    | (go_at_call 20; refine (name_any _ _).mono ?_; rintro e w' ⟨rfl, rfl⟩)
    | (go_at_call 21; refine (bsearch_any A n c B l (newU user acct) _ (by omega) (hr1.alloc (by omega) _) (by simp; omega) HG.out).mono ?_; rintro e w2 ⟨rfl, hb2⟩; rw [HI.out, hfo]
       simp only [World.size_alloc] at hb2
       have hz2 := hb2.size; simp only [World.size_alloc] at hz2; have hr2 := (hr1.alloc (by omega) (.cells #[.string user, .string acct, .int .i64 0, .int .i64 0] 42)).below (hb2.mono (by omega)); have b2 := (hb1.alloc hz1 (.cells #[.string user, .string acct, .int .i64 0, .int .i64 0] 42)).trans (hb2.mono (by omega)); clear hr1)
    | (go_at_call 23; refine (clone_any A n c B l _ (by omega) hr2 (by omega)).mono ?_; rintro e w3 ⟨v, rfl, o3, hb3⟩; obtain ⟨A3, c3, rfl, hc3, _⟩ := o3.slice
       have hz3 := hb3.size; have b3 := b2.trans (hb3.mono (by omega)); have o3' := o3.mono (B' := w.heap.size) (by omega); have hr3 := hr2.below (hb3.mono (by omega)); clear hr2 o3))
  go_ret2
  exact ⟨_, rfl, Owns.nil, b3⟩
theorem charge_close {w w3 w' : World} {g n c i : Nat} {z : Int} {L : List U} {u : U} (hb : Below w.heap.size w w3) (ho : Owns w3 w.heap.size 42 4 (.slice (some ⟨g, 0, none⟩) n c) n (recs ucells L)) (hB : w.heap.size ≤ g) (hlen : L.length = n) (hx : L[i]? = some u)
    (hm : Below w3.heap.size ((w3.setCell ⟨g, i * 4 + 2, none⟩ (.int .i64 (addV 1000000000000 [u.used, z]))).setCell ⟨g, i * 4 + 3, none⟩ (.int .i64 (addV 1000000000000 [u.share, z]))) w') :
    RetLE w (L.set i (bump z u)) 0 (.returned (.tuple #[.slice (some ⟨g, 0, none⟩) n c, .int .i64 0])) w' := by
  have hi := (List.getElem?_eq_some_iff.1 hx).1
  have hz := hb.size
  refine ⟨_, rfl, ?_, ((hb.setCell hB _).setCell hB _).trans (hm.mono hz)⟩
  have o1 := (ho.stored (by omega) (i * 4 + 2) (.int .i64 (addV 1000000000000 [u.used, z]))).stored (by omega) (i * 4 + 3) (.int .i64 (addV 1000000000000 [u.share, z]))
  rw [recs_set ucells_len hx (by omega) (y := { u with used := addV 1000000000000 [u.used, z] }) rfl, recs_set ucells_len (x := { u with used := addV 1000000000000 [u.used, z] }) (y := bump z u) (by rw [List.getElem?_set_self hi]) (by omega) rfl, List.set_set] at o1
  rw [List.length_set, hlen]; exact o1.below (by simpa [World.setCell] using hm)
end Go.Proofs.Ytlhogedcokcmhaa
