/- Bundle P3. -/
import Derived.Test.YtjmhaoplablmnaaGreatDoorP2s
namespace Go.Proofs.YtjmhaoplablmnaaGreatDoor
set_option linter.unusedSimpArgs false
set_option maxRecDepth 100000
set_option linter.unusedVariables false
open Go.RowKit
theorem fz_of {w : World} {b o : Nat} {cs : Array Value} {t : TypeId} (h : w.heap[b]? = some (.cells cs t (0, 0))) : w.frozen? ⟨b, o, none⟩ = false := by simp [World.frozen?, h]
theorem length1_any (t : Tk) (N : Nat) (n0 : Int) (w : World) (hN : w.heap[N]? = some (.cells #[.int .i64 n0] 3 (0, 0))) (hs : t.text.size ≤ 100000) :
    Calls Tryz.prog 147 #[tkV t, .pointer (some ⟨N, 0, none⟩)] w fun e w' => e = .returned (.bool (timeP t)) ∧ Kb (· = N) w w' ∧ w'.heap[N]? = some (.cells #[.int .i64 (hrsN t.text.data.toList)] 3 (0, 0)) := by
  have hp := Lib.hid (fun v => parse_any t.text v (by unfold maxLen; omega))
  have HB : Hid (Below w.heap.size w (w.alloc (boxT t))) := (Below.refl _ _).alloc (Nat.le_refl _) _
  have hlt := lt_of_block hN
  have hN1 : (w.alloc (boxT t)).heap[N]? = some (.cells #[.int .i64 n0] 3 (0, 0)) := (Below.heap_alloc _ _ _ hlt).trans hN
  have HN := Lib.hid hN1
  have HT : Hid (timeP t = ((hrsE t.text.data.toList == 0) && lenB (hrsN t.text.data.toList))) := rfl
  have hl := Lib.hid (fun v => length_any (hrsN t.text.data.toList) v)
  unfold boxT at HB HN
  obtain ⟨k, hk⟩ : ∃ k, hrsN t.text.data.toList = k := ⟨_, rfl⟩
  obtain ⟨e0, he⟩ : ∃ k, hrsE t.text.data.toList = k := ⟨_, rfl⟩
  rw [hk, he] at hp HT
  rw [hk] at hl ⊢
  obtain ⟨q, hq⟩ : ∃ q, lenB k = q := ⟨_, rfl⟩
  rw [hq] at HT
  have hl2 : Hid (∀ v, Calls Tryz.prog 61 #[.int .i64 k] v fun e w' => e = .returned (.bool q) ∧ v = w') := by rw [← hq]; exact hl
  rw [HT.out]
  unfold tkV
  clear hN hN1 hl hk he hq HT hs
  have hbw : (w.alloc (.cells #[.int .i64 t.kind, .string t.text, .int .i64 t.num, .int .i64 t.at_] 96)).heap.size = w.heap.size + 1 := World.size_alloc _ _
  by_cases h0 : e0 = 0
  · have t1 : (e0 == 0) = true := by simpa using h0
    rw [t1]
    clear h0
    go_enter Tryz.func147, Tryz.ntmps147
    go_wp2_with (fail)
    refine (hp.out _).mono ?_; rintro e w1 ⟨rfl, hb1⟩
    have hn1 := (hb1.block N (by omega)).trans HN.out
    have c1 : w1.cell? ⟨N, 0, none⟩ = some (.int .i64 n0) := by simp [World.cell?, hn1]
    have f1 : w1.frozen? ⟨N, 0, none⟩ = false := by simp [World.frozen?, hn1]
    have hn2 : (w1.setCell ⟨N, 0, none⟩ (.int .i64 k)).heap[N]? = some (.cells #[.int .i64 k] 3 (0, 0)) := by simp [World.setCell, Array.getElem?_modify, hn1]
    have K2 := Lib.hid (((Kb.of_below (S := (· = N)) (bt HB.out hb1)).set_ (p := ⟨N, 0, none⟩) rfl (.int .i64 k)))
    have N2 := Lib.hid hn2
    clear hb1 hn1 hn2
    go_wp2_with (fail)
    refine (hl2.out _).mono ?_; rintro e w2 ⟨rfl, rfl⟩
    go_wp2
    go_ret
    exact ⟨by cases q <;> rfl, K2.out, N2.out⟩
  · have t1 : (e0 == 0) = false := by simpa using h0
    rw [t1]
    clear h0
    go_enter Tryz.func147, Tryz.ntmps147
    go_wp2_with (fail)
    refine (hp.out _).mono ?_; rintro e w1 ⟨rfl, hb1⟩
    have hn1 := (hb1.block N (by omega)).trans HN.out
    have c1 : w1.cell? ⟨N, 0, none⟩ = some (.int .i64 n0) := by simp [World.cell?, hn1]
    have f1 : w1.frozen? ⟨N, 0, none⟩ = false := by simp [World.frozen?, hn1]
    have hn2 : (w1.setCell ⟨N, 0, none⟩ (.int .i64 k)).heap[N]? = some (.cells #[.int .i64 k] 3 (0, 0)) := by simp [World.setCell, Array.getElem?_modify, hn1]
    have K2 := Lib.hid (((Kb.of_below (S := (· = N)) (bt HB.out hb1)).set_ (p := ⟨N, 0, none⟩) rfl (.int .i64 k)))
    have N2 := Lib.hid hn2
    clear hb1 hn1 hn2
    go_wp2
    go_ret
    exact ⟨rfl, K2.out, N2.out⟩
theorem mayP_some {ts : List Tk} {k : Int} {r : Rr} {t : Tk} (h : mayP ts k (fun _ => true) r = some t) : r.bad < 0 ∧ ts[r.at_]? = some t ∧ t.kind = k := by
  unfold mayP at h
  split at h
  · rename_i hb
    split at h
    · rename_i u hu
      split at h
      · rename_i hk
        injection h with h
        subst h
        exact ⟨hb, hu, hk.1⟩
      · cases h
    · cases h
  · cases h
theorem clength_any (R B n c : Nat) (A : Option Addr) (ts : List Tk) (en : Int) (r : Rr) (w : World) (h : Cd w R B A n c ts en r) :
    Calls Tryz.prog 121 #[.pointer (some ⟨R, 0, none⟩)] w fun e w' => e = .returned (.int .i64 (lengthP ts en r).1) ∧ Cd w' R B A n c ts en (lengthP ts en r).2 ∧ Kb (· = R) w w' := by
  have hse := Lib.hid (csees_any R B n c A ts en r 3 w h)
  have HL : Hid (lengthP ts en r = match mayP ts 3 (fun _ => true) r with | some t => (hrsN t.text.data.toList, (takeP ts en 3 timeP r).2.2) | none => numR ts en lenB r) := rfl
  cases hm : mayP ts 3 (fun _ => true) r with
  | none =>
    have hs : seesP ts 3 r = false := by unfold seesP; rw [hm]; rfl
    rw [hm] at HL
    dsimp only at HL
    rw [hs] at hse
    rw [HL.out]
    have hc := Lib.hid (fun q => cnumber_any R B n c A ts en r 61 ent_length #[] lenB (w.drewN q) (h.drewN q) (ask_length _))
    clear h hm hs HL
    go_enter Tryz.func121, Tryz.ntmps121
    go_wp2_with (fail)
    refine hse.out.mono ?_; rintro e w1 ⟨rfl, q, rfl⟩
    go_wp2_with (fail)
    refine (hc.out q).mono ?_; rintro e w2 ⟨rfl, h2, k2⟩
    go_wp2
    go_ret
    exact ⟨rfl, h2, ((Kb.refl (· = R) w).drewN q).trans k2⟩
  | some t =>
    have hs : seesP ts 3 r = true := by unfold seesP; rw [hm]; rfl
    rw [hm] at HL
    dsimp only at HL
    rw [hs] at hse
    rw [HL.out]
    obtain ⟨hb, ht, hk⟩ := mayP_some hm
    have hsz := h.sz t (List.mem_of_getElem? ht)
    have hlt := h.lt
    have hHB := h.hB
    have hc := Lib.hid (fun (v : World) (hv : Cd v R B A n c ts en r) (N : Nat) (hN : v.heap[N]? = some (.cells #[.int .i64 0] 3 (0, 0))) (hNR : N ≠ R) (hNB : B ≤ N) =>
      ctake_any R B n c A ts en r 3 147 #[.pointer (some ⟨N, 0, none⟩)] ent_len timeP (· = N) (fun v => v.heap[N]? = some (.cells #[.int .i64 (hrsN t.text.data.toList)] 3 (0, 0))) v (fun e => hNR e.symm) (fun b e => by omega) (fun b e => by have := lt_of_block hN; omega)
        (fun v v' h1 h2 => (h2 N rfl).trans h1)
        (fun t2 v2 _ ht2 _ hb2 => by
          have : t2 = t := by rw [ht] at ht2; exact (Option.some.inj ht2).symm
          subst this
          exact (length1_any t2 N 0 v2 ((hb2.block N (lt_of_block hN)).trans hN) hsz).mono (fun e w' ⟨h1, h2, h3⟩ => ⟨h1, h2, h3⟩)) hv)
    have H := Lib.hid h
    obtain ⟨x, hx⟩ : ∃ x, takeP ts en 3 timeP r = x := ⟨_, rfl⟩
    rw [hx] at hc ⊢
    obtain ⟨x1, x2, x3⟩ := x
    dsimp only at hc ⊢
    unfold tkV at hc
    have HTk := Lib.hid (⟨hb, ht, hk⟩ : r.bad < 0 ∧ ts[r.at_]? = some t ∧ t.kind = 3)
    clear h hm hs HL hb ht hk hx
    go_enter Tryz.func121, Tryz.ntmps121
    go_wp2_with (fail)
    refine hse.out.mono ?_; rintro e w1 ⟨rfl, q, rfl⟩
    have hN0 := heap_alloc_new (w.drewN q) (.cells #[.int .i64 0] 3)
    rw [show (w.drewN q).heap.size = w.heap.size from rfl] at hN0
    have c0 : ((w.drewN q).alloc (.cells #[.int .i64 0] 3)).cell? ⟨w.heap.size, 0, none⟩ = some (.int .i64 0) := (cell_of_row _ _ 0 _ _ _ hN0).trans rfl
    have f0 : ((w.drewN q).alloc (.cells #[.int .i64 0] 3)).frozen? ⟨w.heap.size, 0, none⟩ = false := fz_of hN0
    have hN : (((w.drewN q).alloc (.cells #[.int .i64 0] 3)).setCell ⟨w.heap.size, 0, none⟩ (.int .i64 0)).heap[w.heap.size]? = some (.cells #[.int .i64 0] 3 (0, 0)) := by simp only [World.setCell, Array.getElem?_modify, hN0]; rfl
    have h1 : Cd (((w.drewN q).alloc (.cells #[.int .i64 0] 3)).setCell ⟨w.heap.size, 0, none⟩ (.int .i64 0)) R B A n c ts en r := ((H.out.drewN q).alloc (.cells #[.int .i64 0] 3)).kb (S := (· = w.heap.size)) (Kb.set_ (S := (· = w.heap.size)) (Kb.refl _ _) (p := ⟨w.heap.size, 0, none⟩) rfl _) (by omega) (fun k hk => by omega)
    have K1 : Hid (Kb (· = R) w (((w.drewN q).alloc (.cells #[.int .i64 0] 3)).setCell ⟨w.heap.size, 0, none⟩ (.int .i64 0))) := Kb.fresh (Kb.set_ (S := fun b => b = R ∨ w.heap.size ≤ b) ((((Kb.refl _ w).drewN q).alloc _)) (p := ⟨w.heap.size, 0, none⟩) (Or.inr (Nat.le_refl _)) _)
    obtain ⟨W, hW⟩ : ∃ W, Hid (((w.drewN q).alloc (.cells #[.int .i64 0] 3)).setCell ⟨w.heap.size, 0, none⟩ (.int .i64 0) = W) := ⟨_, rfl⟩
    rw [hW.out] at hN h1 K1
    have hcc := Lib.hid (hc.out W h1 w.heap.size hN (by omega) (by omega))
    clear hN h1 hc hN0
    go_wp2_with (fail)
    rw [hW.out]
    refine hcc.out.mono ?_; rintro e w2 ⟨rfl, h2, k2, j2⟩
    have j3 := j2 t HTk.out.1 HTk.out.2.1 HTk.out.2.2
    have c3 : w2.cell? ⟨w.heap.size, 0, none⟩ = some (.int .i64 (hrsN t.text.data.toList)) := by simp [World.cell?, j3]
    clear j2 j3
    go_wp2
    go_ret
    refine ⟨rfl, h2, ?_⟩
    have := k2.size
    exact Kb.fresh ((K1.out.mono (fun _ x => Or.inl x)).trans (k2.mono (fun b x => x.elim Or.inl (fun y => Or.inr (by omega)))))
end Go.Proofs.YtjmhaoplablmnaaGreatDoor
namespace Go.Proofs.YtjmhaoplablmnaaGreatDoor
set_option linter.unusedSimpArgs false
set_option maxRecDepth 100000
set_option linter.unusedVariables false
set_option linter.unusedSimpArgs false
open Go.RowKit
def vlV : Vl → Value
  | .none => .nilIface | .text s => .iface 127 (.string s) | .count n => .iface 119 (.int .i64 n)
  | .pair a b => .iface 124 (.agg #[.int .i64 a, .int .i64 b]) | .rng a b => .iface 126 (.agg #[.int .i64 a, .int .i64 b])
theorem mkI_text (x : Value) (w : World) : (Instr.makeInterface 127 x).run Tryz.prog w = .ok (.iface 127 x) w := run_makeInterface w _ x (by kernel_rfl)
theorem mkI_count (x : Value) (w : World) : (Instr.makeInterface 119 x).run Tryz.prog w = .ok (.iface 119 x) w := run_makeInterface w _ x (by kernel_rfl)
theorem mkI_pair (x : Value) (w : World) : (Instr.makeInterface 124 x).run Tryz.prog w = .ok (.iface 124 x) w := run_makeInterface w _ x (by kernel_rfl)
theorem mkI_rng (x : Value) (w : World) : (Instr.makeInterface 126 x).run Tryz.prog w = .ok (.iface 126 x) w := run_makeInterface w _ x (by kernel_rfl)
def RetVl (R B n c : Nat) (A : Option Addr) (ts : List Tk) (en : Int) (w : World) (x : Vl × Rr) (e : Ending) (w' : World) : Prop := e = .returned (vlV x.1) ∧ Cd w' R B A n c ts en x.2 ∧ Kb (· = R) w w'
theorem cvalue_user (R B n c : Nat) (A : Option Addr) (ts : List Tk) (en : Int) (r : Rr) (f : ByteArray) (w : World) (h : Cd w R B A n c ts en r)
    (u0 : (f.toList == bU) = true) :
    Calls Tryz.prog 82 #[.pointer (some ⟨R, 0, none⟩), .string f] w (RetVl R B n c A ts en w (valueP ts en f.toList r)) := by
  have t0 : (f.toList == [117, 115, 101, 114]) = true := u0
  have HV : Hid (valueP ts en f.toList r = (.text (namedP ts en r).1, (namedP ts en r).2)) := by
    show _ = _; unfold valueP
    simp only [u0, Bool.false_or, Bool.true_or, Bool.or_true, Bool.or_false, Bool.false_eq_true, if_true, if_false]
  rw [HV.out]
  clear HV u0
  have mk := mkI_text
  go_enter Tryz.func82, Tryz.ntmps82
  go_wp2_with (fail)
  refine (cnamed_any R B n c A ts en r _ h).mono ?_; rintro e w1 ⟨rfl, h1, k1⟩
  go_wp2
  go_ret
  exact ⟨rfl, h1, k1⟩
theorem cvalue_account (R B n c : Nat) (A : Option Addr) (ts : List Tk) (en : Int) (r : Rr) (f : ByteArray) (w : World) (h : Cd w R B A n c ts en r)
    (u0 : (f.toList == bU) = false) (u1 : (f.toList == bA) = true) :
    Calls Tryz.prog 82 #[.pointer (some ⟨R, 0, none⟩), .string f] w (RetVl R B n c A ts en w (valueP ts en f.toList r)) := by
  have t0 : (f.toList == [117, 115, 101, 114]) = false := u0
  have t1 : (f.toList == [97, 99, 99, 111, 117, 110, 116]) = true := u1
  have HV : Hid (valueP ts en f.toList r = (.text (namedP ts en r).1, (namedP ts en r).2)) := by
    show _ = _; unfold valueP
    simp only [u0, u1, Bool.false_or, Bool.true_or, Bool.or_true, Bool.or_false, Bool.false_eq_true, if_true, if_false]
  rw [HV.out]
  clear HV u0 u1
  have mk := mkI_text
  go_enter Tryz.func82, Tryz.ntmps82
  go_wp2_with (fail)
  refine (cnamed_any R B n c A ts en r _ h).mono ?_; rintro e w1 ⟨rfl, h1, k1⟩
  go_wp2
  go_ret
  exact ⟨rfl, h1, k1⟩
theorem cvalue_prio (R B n c : Nat) (A : Option Addr) (ts : List Tk) (en : Int) (r : Rr) (f : ByteArray) (w : World) (h : Cd w R B A n c ts en r)
    (u0 : (f.toList == bU) = false) (u1 : (f.toList == bA) = false) (u2 : (f.toList == bPrio) = true) :
    Calls Tryz.prog 82 #[.pointer (some ⟨R, 0, none⟩), .string f] w (RetVl R B n c A ts en w (valueP ts en f.toList r)) := by
  have t0 : (f.toList == [117, 115, 101, 114]) = false := u0
  have t1 : (f.toList == [97, 99, 99, 111, 117, 110, 116]) = false := u1
  have t2 : (f.toList == [112, 114, 105, 111]) = true := u2
  have HV : Hid (valueP ts en f.toList r = (.count (numR ts en (fun n => inB n 0 100) r).1, (numR ts en (fun n => inB n 0 100) r).2)) := by
    show _ = _; unfold valueP
    simp only [u0, u1, u2, Bool.false_or, Bool.true_or, Bool.or_true, Bool.or_false, Bool.false_eq_true, if_true, if_false]
  rw [HV.out]
  clear HV u0 u1 u2
  have mk := mkI_count
  go_enter Tryz.func82, Tryz.ntmps82
  go_wp2_with (fail)
  refine (of8_any 0 100 _).mono ?_; rintro e o1 ⟨rfl, bo1, ao1⟩
  go_wp2_with (fail)
  refine (cnumber_any R B n c A ts en _ 115 ent_of1 _ (fun n => inB n 0 100) _ (h.below bo1) ao1).mono ?_; rintro e w1 ⟨rfl, h1, k1⟩
  go_wp2
  go_ret
  exact ⟨rfl, h1, (Kb.of_below bo1).trans k1⟩
theorem cvalue_wany (R B n c : Nat) (A : Option Addr) (ts : List Tk) (en : Int) (r : Rr) (f : ByteArray) (w : World) (h : Cd w R B A n c ts en r)
    (u0 : (f.toList == bU) = false) (u1 : (f.toList == bA) = false) (u2 : (f.toList == bPrio) = false) (u3 : (f.toList == bAny) = true) :
    Calls Tryz.prog 82 #[.pointer (some ⟨R, 0, none⟩), .string f] w (RetVl R B n c A ts en w (valueP ts en f.toList r)) := by
  have t0 : (f.toList == [117, 115, 101, 114]) = false := u0
  have t1 : (f.toList == [97, 99, 99, 111, 117, 110, 116]) = false := u1
  have t2 : (f.toList == [112, 114, 105, 111]) = false := u2
  have t3 : (f.toList == [97, 110, 121]) = true := u3
  have HV : Hid (valueP ts en f.toList r = (.count (numR ts en (fun n => inB n 1 99999) r).1, (numR ts en (fun n => inB n 1 99999) r).2)) := by
    show _ = _; unfold valueP
    simp only [u0, u1, u2, u3, Bool.false_or, Bool.true_or, Bool.or_true, Bool.or_false, Bool.false_eq_true, if_true, if_false]
  rw [HV.out]
  clear HV u0 u1 u2 u3
  have mk := mkI_count
  go_enter Tryz.func82, Tryz.ntmps82
  go_wp2_with (fail)
  refine (cnumber_any R B n c A ts en r 64 ent_id #[] (fun n => inB n 1 99999) _ h (ask_id _)).mono ?_; rintro e w1 ⟨rfl, h1, k1⟩
  go_wp2
  go_ret
  exact ⟨rfl, h1, k1⟩
theorem cvalue_good (R B n c : Nat) (A : Option Addr) (ts : List Tk) (en : Int) (r : Rr) (f : ByteArray) (w : World) (h : Cd w R B A n c ts en r)
    (u0 : (f.toList == bU) = false) (u1 : (f.toList == bA) = false) (u2 : (f.toList == bPrio) = false) (u3 : (f.toList == bAny) = false) (u4 : (f.toList == bGood) = true) :
    Calls Tryz.prog 82 #[.pointer (some ⟨R, 0, none⟩), .string f] w (RetVl R B n c A ts en w (valueP ts en f.toList r)) := by
  have t0 : (f.toList == [117, 115, 101, 114]) = false := u0
  have t1 : (f.toList == [97, 99, 99, 111, 117, 110, 116]) = false := u1
  have t2 : (f.toList == [112, 114, 105, 111]) = false := u2
  have t3 : (f.toList == [97, 110, 121]) = false := u3
  have t4 : (f.toList == [103, 111, 111, 100]) = true := u4
  have HV : Hid (valueP ts en f.toList r = (.count (numR ts en (fun n => inB n 1 99999) r).1, (numR ts en (fun n => inB n 1 99999) r).2)) := by
    show _ = _; unfold valueP
    simp only [u0, u1, u2, u3, u4, Bool.false_or, Bool.true_or, Bool.or_true, Bool.or_false, Bool.false_eq_true, if_true, if_false]
  rw [HV.out]
  clear HV u0 u1 u2 u3 u4
  have mk := mkI_count
  go_enter Tryz.func82, Tryz.ntmps82
  go_wp2_with (fail)
  refine (cnumber_any R B n c A ts en r 64 ent_id #[] (fun n => inB n 1 99999) _ h (ask_id _)).mono ?_; rintro e w1 ⟨rfl, h1, k1⟩
  go_wp2
  go_ret
  exact ⟨rfl, h1, k1⟩
theorem cvalue_bad (R B n c : Nat) (A : Option Addr) (ts : List Tk) (en : Int) (r : Rr) (f : ByteArray) (w : World) (h : Cd w R B A n c ts en r)
    (u0 : (f.toList == bU) = false) (u1 : (f.toList == bA) = false) (u2 : (f.toList == bPrio) = false) (u3 : (f.toList == bAny) = false) (u4 : (f.toList == bGood) = false) (u5 : (f.toList == bBad) = true) :
    Calls Tryz.prog 82 #[.pointer (some ⟨R, 0, none⟩), .string f] w (RetVl R B n c A ts en w (valueP ts en f.toList r)) := by
  have t0 : (f.toList == [117, 115, 101, 114]) = false := u0
  have t1 : (f.toList == [97, 99, 99, 111, 117, 110, 116]) = false := u1
  have t2 : (f.toList == [112, 114, 105, 111]) = false := u2
  have t3 : (f.toList == [97, 110, 121]) = false := u3
  have t4 : (f.toList == [103, 111, 111, 100]) = false := u4
  have t5 : (f.toList == [98, 97, 100]) = true := u5
  have HV : Hid (valueP ts en f.toList r = (.count (numR ts en (fun n => inB n 1 99999) r).1, (numR ts en (fun n => inB n 1 99999) r).2)) := by
    show _ = _; unfold valueP
    simp only [u0, u1, u2, u3, u4, u5, Bool.false_or, Bool.true_or, Bool.or_true, Bool.or_false, Bool.false_eq_true, if_true, if_false]
  rw [HV.out]
  clear HV u0 u1 u2 u3 u4 u5
  have mk := mkI_count
  go_enter Tryz.func82, Tryz.ntmps82
  go_wp2_with (fail)
  refine (cnumber_any R B n c A ts en r 64 ent_id #[] (fun n => inB n 1 99999) _ h (ask_id _)).mono ?_; rintro e w1 ⟨rfl, h1, k1⟩
  go_wp2
  go_ret
  exact ⟨rfl, h1, k1⟩
theorem cvalue_from (R B n c : Nat) (A : Option Addr) (ts : List Tk) (en : Int) (r : Rr) (f : ByteArray) (w : World) (h : Cd w R B A n c ts en r)
    (u0 : (f.toList == bU) = false) (u1 : (f.toList == bA) = false) (u2 : (f.toList == bPrio) = false) (u3 : (f.toList == bAny) = false) (u4 : (f.toList == bGood) = false) (u5 : (f.toList == bBad) = false) (u6 : (f.toList == bFrom) = true) :
    Calls Tryz.prog 82 #[.pointer (some ⟨R, 0, none⟩), .string f] w (RetVl R B n c A ts en w (valueP ts en f.toList r)) := by
  have t0 : (f.toList == [117, 115, 101, 114]) = false := u0
  have t1 : (f.toList == [97, 99, 99, 111, 117, 110, 116]) = false := u1
  have t2 : (f.toList == [112, 114, 105, 111]) = false := u2
  have t3 : (f.toList == [97, 110, 121]) = false := u3
  have t4 : (f.toList == [103, 111, 111, 100]) = false := u4
  have t5 : (f.toList == [98, 97, 100]) = false := u5
  have t6 : (f.toList == [102, 114, 111, 109]) = true := u6
  have HV : Hid (valueP ts en f.toList r = (.count (numR ts en (fun n => inB n 0 1000000) r).1, (numR ts en (fun n => inB n 0 1000000) r).2)) := by
    show _ = _; unfold valueP
    simp only [u0, u1, u2, u3, u4, u5, u6, Bool.false_or, Bool.true_or, Bool.or_true, Bool.or_false, Bool.false_eq_true, if_true, if_false]
  rw [HV.out]
  clear HV u0 u1 u2 u3 u4 u5 u6
  have mk := mkI_count
  go_enter Tryz.func82, Tryz.ntmps82
  go_wp2_with (fail)
  refine (of8_any 0 1000000 _).mono ?_; rintro e o1 ⟨rfl, bo1, ao1⟩
  go_wp2_with (fail)
  refine (cnumber_any R B n c A ts en _ 115 ent_of1 _ (fun n => inB n 0 1000000) _ (h.below bo1) ao1).mono ?_; rintro e w1 ⟨rfl, h1, k1⟩
  go_wp2
  go_ret
  exact ⟨rfl, h1, (Kb.of_below bo1).trans k1⟩
theorem cvalue_nodes (R B n c : Nat) (A : Option Addr) (ts : List Tk) (en : Int) (r : Rr) (f : ByteArray) (w : World) (h : Cd w R B A n c ts en r)
    (u0 : (f.toList == bU) = false) (u1 : (f.toList == bA) = false) (u2 : (f.toList == bPrio) = false) (u3 : (f.toList == bAny) = false) (u4 : (f.toList == bGood) = false) (u5 : (f.toList == bBad) = false) (u6 : (f.toList == bFrom) = false) (u7 : (f.toList == bNodes) = true) :
    Calls Tryz.prog 82 #[.pointer (some ⟨R, 0, none⟩), .string f] w (RetVl R B n c A ts en w (valueP ts en f.toList r)) := by
  have t0 : (f.toList == [117, 115, 101, 114]) = false := u0
  have t1 : (f.toList == [97, 99, 99, 111, 117, 110, 116]) = false := u1
  have t2 : (f.toList == [112, 114, 105, 111]) = false := u2
  have t3 : (f.toList == [97, 110, 121]) = false := u3
  have t4 : (f.toList == [103, 111, 111, 100]) = false := u4
  have t5 : (f.toList == [98, 97, 100]) = false := u5
  have t6 : (f.toList == [102, 114, 111, 109]) = false := u6
  have t7 : (f.toList == [110, 111, 100, 101, 115]) = true := u7
  have HV : Hid (valueP ts en f.toList r = (.count (numR ts en (fun n => inB n 1 48) r).1, (numR ts en (fun n => inB n 1 48) r).2)) := by
    show _ = _; unfold valueP
    simp only [u0, u1, u2, u3, u4, u5, u6, u7, Bool.false_or, Bool.true_or, Bool.or_true, Bool.or_false, Bool.false_eq_true, if_true, if_false]
  rw [HV.out]
  clear HV u0 u1 u2 u3 u4 u5 u6 u7
  have mk := mkI_count
  go_enter Tryz.func82, Tryz.ntmps82
  go_wp2_with (fail)
  refine (of8_any 1 48 _).mono ?_; rintro e o1 ⟨rfl, bo1, ao1⟩
  go_wp2_with (fail)
  refine (cnumber_any R B n c A ts en _ 115 ent_of1 _ (fun n => inB n 1 48) _ (h.below bo1) ao1).mono ?_; rintro e w1 ⟨rfl, h1, k1⟩
  go_wp2
  go_ret
  exact ⟨rfl, h1, (Kb.of_below bo1).trans k1⟩
theorem cvalue_alt (R B n c : Nat) (A : Option Addr) (ts : List Tk) (en : Int) (r : Rr) (f : ByteArray) (w : World) (h : Cd w R B A n c ts en r)
    (u0 : (f.toList == bU) = false) (u1 : (f.toList == bA) = false) (u2 : (f.toList == bPrio) = false) (u3 : (f.toList == bAny) = false) (u4 : (f.toList == bGood) = false) (u5 : (f.toList == bBad) = false) (u6 : (f.toList == bFrom) = false) (u7 : (f.toList == bNodes) = false) (u8 : (f.toList == bAlt) = true) :
    Calls Tryz.prog 82 #[.pointer (some ⟨R, 0, none⟩), .string f] w (RetVl R B n c A ts en w (valueP ts en f.toList r)) := by
  have t0 : (f.toList == [117, 115, 101, 114]) = false := u0
  have t1 : (f.toList == [97, 99, 99, 111, 117, 110, 116]) = false := u1
  have t2 : (f.toList == [112, 114, 105, 111]) = false := u2
  have t3 : (f.toList == [97, 110, 121]) = false := u3
  have t4 : (f.toList == [103, 111, 111, 100]) = false := u4
  have t5 : (f.toList == [98, 97, 100]) = false := u5
  have t6 : (f.toList == [102, 114, 111, 109]) = false := u6
  have t7 : (f.toList == [110, 111, 100, 101, 115]) = false := u7
  have t8 : (f.toList == [97, 108, 116]) = true := u8
  have HV : Hid (valueP ts en f.toList r = (.pair (numR ts en (fun n => inB n 1 48) r).1 (lengthP ts en (signP ts en [58] (numR ts en (fun n => inB n 1 48) r).2)).1, (lengthP ts en (signP ts en [58] (numR ts en (fun n => inB n 1 48) r).2)).2)) := by
    show _ = _; unfold valueP
    simp only [u0, u1, u2, u3, u4, u5, u6, u7, u8, Bool.false_or, Bool.true_or, Bool.or_true, Bool.or_false, Bool.false_eq_true, if_true, if_false]
  rw [HV.out]
  clear HV u0 u1 u2 u3 u4 u5 u6 u7 u8
  have mk := mkI_pair
  go_enter Tryz.func82, Tryz.ntmps82
  go_wp2_with (fail)
  refine (of8_any 1 48 _).mono ?_; rintro e o1 ⟨rfl, bo1, ao1⟩
  go_wp2_with (fail)
  refine (cnumber_any R B n c A ts en _ 115 ent_of1 _ (fun n => inB n 1 48) _ (h.below bo1) ao1).mono ?_; rintro e w1 ⟨rfl, h1, k1⟩
  go_wp2_with (fail)
  refine (csign_any R B n c A ts en _ ⟨#[58]⟩ _ h1).mono ?_; rintro e w2 ⟨rfl, h2, k2⟩
  rw [show (⟨#[58]⟩ : ByteArray).toList = [58] from mkT _] at h2
  go_wp2_with (fail)
  refine (clength_any R B n c A ts en _ _ h2).mono ?_; rintro e w3 ⟨rfl, h3, k3⟩
  go_wp2
  go_ret
  exact ⟨rfl, h3, (((Kb.of_below bo1).trans k1).trans k2).trans k3⟩
theorem cvalue_range (R B n c : Nat) (A : Option Addr) (ts : List Tk) (en : Int) (r : Rr) (f : ByteArray) (w : World) (h : Cd w R B A n c ts en r)
    (u0 : (f.toList == bU) = false) (u1 : (f.toList == bA) = false) (u2 : (f.toList == bPrio) = false) (u3 : (f.toList == bAny) = false) (u4 : (f.toList == bGood) = false) (u5 : (f.toList == bBad) = false) (u6 : (f.toList == bFrom) = false) (u7 : (f.toList == bNodes) = false) (u8 : (f.toList == bAlt) = false) (u9 : (f.toList == bRange) = true) :
    Calls Tryz.prog 82 #[.pointer (some ⟨R, 0, none⟩), .string f] w (RetVl R B n c A ts en w (valueP ts en f.toList r)) := by
  have t0 : (f.toList == [117, 115, 101, 114]) = false := u0
  have t1 : (f.toList == [97, 99, 99, 111, 117, 110, 116]) = false := u1
  have t2 : (f.toList == [112, 114, 105, 111]) = false := u2
  have t3 : (f.toList == [97, 110, 121]) = false := u3
  have t4 : (f.toList == [103, 111, 111, 100]) = false := u4
  have t5 : (f.toList == [98, 97, 100]) = false := u5
  have t6 : (f.toList == [102, 114, 111, 109]) = false := u6
  have t7 : (f.toList == [110, 111, 100, 101, 115]) = false := u7
  have t8 : (f.toList == [97, 108, 116]) = false := u8
  have t9 : (f.toList == [114, 97, 110, 103, 101]) = true := u9
  have HV : Hid (valueP ts en f.toList r = (.rng (numR ts en (fun n => inB n 1 48) r).1 (numR ts en (fun n => inB n 1 48) (signP ts en [45] (numR ts en (fun n => inB n 1 48) r).2)).1, (numR ts en (fun n => inB n 1 48) (signP ts en [45] (numR ts en (fun n => inB n 1 48) r).2)).2)) := by
    show _ = _; unfold valueP
    simp only [u0, u1, u2, u3, u4, u5, u6, u7, u8, u9, Bool.false_or, Bool.true_or, Bool.or_true, Bool.or_false, Bool.false_eq_true, if_true, if_false]
  rw [HV.out]
  clear HV u0 u1 u2 u3 u4 u5 u6 u7 u8 u9
  have mk := mkI_rng
  go_enter Tryz.func82, Tryz.ntmps82
  go_wp2_with (fail)
  refine (of8_any 1 48 _).mono ?_; rintro e o1 ⟨rfl, bo1, ao1⟩
  go_wp2_with (fail)
  refine (cnumber_any R B n c A ts en _ 115 ent_of1 _ (fun n => inB n 1 48) _ (h.below bo1) ao1).mono ?_; rintro e w1 ⟨rfl, h1, k1⟩
  go_wp2_with (fail)
  refine (csign_any R B n c A ts en _ ⟨#[45]⟩ _ h1).mono ?_; rintro e w2 ⟨rfl, h2, k2⟩
  rw [show (⟨#[45]⟩ : ByteArray).toList = [45] from mkT _] at h2
  go_wp2_with (fail)
  refine (of8_any 1 48 _).mono ?_; rintro e o3 ⟨rfl, bo3, ao3⟩
  go_wp2_with (fail)
  refine (cnumber_any R B n c A ts en _ 115 ent_of1 _ (fun n => inB n 1 48) _ (h2.below bo3) ao3).mono ?_; rintro e w3 ⟨rfl, h3, k3⟩
  go_wp2
  go_ret
  exact ⟨rfl, h3, ((((Kb.of_below bo1).trans k1).trans k2).trans (Kb.of_below bo3)).trans k3⟩
theorem cvalue_time (R B n c : Nat) (A : Option Addr) (ts : List Tk) (en : Int) (r : Rr) (f : ByteArray) (w : World) (h : Cd w R B A n c ts en r)
    (u0 : (f.toList == bU) = false) (u1 : (f.toList == bA) = false) (u2 : (f.toList == bPrio) = false) (u3 : (f.toList == bAny) = false) (u4 : (f.toList == bGood) = false) (u5 : (f.toList == bBad) = false) (u6 : (f.toList == bFrom) = false) (u7 : (f.toList == bNodes) = false) (u8 : (f.toList == bAlt) = false) (u9 : (f.toList == bRange) = false) :
    Calls Tryz.prog 82 #[.pointer (some ⟨R, 0, none⟩), .string f] w (RetVl R B n c A ts en w (valueP ts en f.toList r)) := by
  have t0 : (f.toList == [117, 115, 101, 114]) = false := u0
  have t1 : (f.toList == [97, 99, 99, 111, 117, 110, 116]) = false := u1
  have t2 : (f.toList == [112, 114, 105, 111]) = false := u2
  have t3 : (f.toList == [97, 110, 121]) = false := u3
  have t4 : (f.toList == [103, 111, 111, 100]) = false := u4
  have t5 : (f.toList == [98, 97, 100]) = false := u5
  have t6 : (f.toList == [102, 114, 111, 109]) = false := u6
  have t7 : (f.toList == [110, 111, 100, 101, 115]) = false := u7
  have t8 : (f.toList == [97, 108, 116]) = false := u8
  have t9 : (f.toList == [114, 97, 110, 103, 101]) = false := u9
  have HV : Hid (valueP ts en f.toList r = (.count (lengthP ts en r).1, (lengthP ts en r).2)) := by
    show _ = _; unfold valueP
    simp only [u0, u1, u2, u3, u4, u5, u6, u7, u8, u9, Bool.false_or, Bool.true_or, Bool.or_true, Bool.or_false, Bool.false_eq_true, if_true, if_false]
  rw [HV.out]
  clear HV u0 u1 u2 u3 u4 u5 u6 u7 u8 u9
  have mk := mkI_count
  go_enter Tryz.func82, Tryz.ntmps82
  go_wp2_with (fail)
  refine (clength_any R B n c A ts en r _ h).mono ?_; rintro e w1 ⟨rfl, h1, k1⟩
  go_wp2
  go_ret
  exact ⟨rfl, h1, k1⟩
theorem cvalue_any (R B n c : Nat) (A : Option Addr) (ts : List Tk) (en : Int) (r : Rr) (f : ByteArray) (w : World) (h : Cd w R B A n c ts en r) :
    Calls Tryz.prog 82 #[.pointer (some ⟨R, 0, none⟩), .string f] w (RetVl R B n c A ts en w (valueP ts en f.toList r)) := by
  cases u0 : f.toList == bU
  case true => exact cvalue_user R B n c A ts en r f w h u0
  cases u1 : f.toList == bA
  case true => exact cvalue_account R B n c A ts en r f w h u0 u1
  cases u2 : f.toList == bPrio
  case true => exact cvalue_prio R B n c A ts en r f w h u0 u1 u2
  cases u3 : f.toList == bAny
  case true => exact cvalue_wany R B n c A ts en r f w h u0 u1 u2 u3
  cases u4 : f.toList == bGood
  case true => exact cvalue_good R B n c A ts en r f w h u0 u1 u2 u3 u4
  cases u5 : f.toList == bBad
  case true => exact cvalue_bad R B n c A ts en r f w h u0 u1 u2 u3 u4 u5
  cases u6 : f.toList == bFrom
  case true => exact cvalue_from R B n c A ts en r f w h u0 u1 u2 u3 u4 u5 u6
  cases u7 : f.toList == bNodes
  case true => exact cvalue_nodes R B n c A ts en r f w h u0 u1 u2 u3 u4 u5 u6 u7
  cases u8 : f.toList == bAlt
  case true => exact cvalue_alt R B n c A ts en r f w h u0 u1 u2 u3 u4 u5 u6 u7 u8
  cases u9 : f.toList == bRange
  case true => exact cvalue_range R B n c A ts en r f w h u0 u1 u2 u3 u4 u5 u6 u7 u8 u9
  exact cvalue_time R B n c A ts en r f w h u0 u1 u2 u3 u4 u5 u6 u7 u8 u9
end Go.Proofs.YtjmhaoplablmnaaGreatDoor
