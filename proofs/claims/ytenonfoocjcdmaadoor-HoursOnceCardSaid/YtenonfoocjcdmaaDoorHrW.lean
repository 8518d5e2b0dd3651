/- Contracts of layer 6: units, Show. -/
import Derived.Test.YtenonfoocjcdmaaDoorHrP
import Derived.Test.YtenonfoocjcdmaaDoorSatW
import Derived.Test.YtenonfoocjcdmaaDoorBld
namespace Go.Proofs.YtenonfoocjcdmaaDoor
set_option linter.unusedVariables false
open Go.RowKit
def unitsV : Value := .agg #[.int .u8 100, .int .i64 86400, .int .u8 104, .int .i64 3600, .int .u8 109, .int .i64 60, .int .u8 115, .int .i64 1]
theorem units_any (w : World) : Calls Tryd.prog 38 #[] w fun e w' => e = .returned unitsV ∧ Below w.heap.size w w' := by
  go_enter Tryd.func38, Tryd.ntmps38
  go_wp2
  exact bodyPost_ret (v := unitsV) (by simp [results, Tryd.results38, go_sem, unitsV]) rfl ⟨rfl, (Below.refl _ _).alloc (Nat.le_refl _) _⟩
theorem bc_app (a b : List UInt8) : Lib.byteCells (a ++ b) = Lib.byteCells a ++ Lib.byteCells b := by simp [Lib.byteCells]
theorem sc_bc (l : List UInt8) : Lib.strCells ⟨l.toArray⟩ = Lib.byteCells l := by simp [Lib.strCells, Lib.byteCells]
theorem show_bad (n : Int) (w : World) (h : n < 0 ∨ 1000000 < n) :
    Calls Tryd.prog 12 #[.int .i64 n] w fun e w' => e = .returned (.tuple #[.string ⟨#[]⟩, .int .i64 153]) ∧ w = w' := by
  have h1 : (n != clamp n 0 1000000) = true := by
    rcases clamp_cases n (E := 1000000) (by omega) with hc | hc | hc
    · rw [hc.2]; simp; omega
    · omega
    · rw [hc.2]; simp; omega
  clear h
  go_enter Tryd.func12, Tryd.ntmps12
  go_wp2_with (go_at_call 15; refine (time_any _ _).mono ?_; rintro e w' ⟨rfl, rfl⟩)
  go_ret2
  exact ⟨rfl, rfl⟩
theorem bld_below {T e : TypeId} {B b : Nat} {bs : List Value} {w w' : World} (h : Lib.IsBuilderF T e B b bs w) (hb : Below w.heap.size w w') : Lib.IsBuilderF T e B b bs w' := by
  have key : ∀ {p : Value}, Lib.BuilderAtF T e B b p bs w → Lib.BuilderAtF T e B b p bs w' := by
    intro p hp
    have hlt := hp.lt
    obtain ⟨h1, v, h2, h3, h4⟩ := hp
    refine ⟨h1, v, (hb.block b hlt).trans h2, ⟨h3.1, ?_⟩, h4⟩
    rcases h3.2 with h5 | ⟨g, cap, cur, fz, hv, hbg, hg, rest⟩
    · exact .inl h5
    · have hgl : g < w.heap.size := by
        rcases Nat.lt_or_ge g w.heap.size with h' | h'
        · exact h'
        · rw [Array.getElem?_eq_none h'] at hg; cases hg
      exact .inr ⟨g, cap, cur, fz, hv, hbg, (hb.block g hgl).trans hg, rest⟩
  exact h.elim (fun x => .inl (key x)) (fun x => .inr (key x))
set_option maxRecDepth 100000 in
set_option maxHeartbeats 4000000 in
theorem show_ok (n : Nat) (w : World) (h : n ≤ 1000000) :
    Calls Tryd.prog 12 #[.int .i64 n] w fun e w' => e = .returned (.tuple #[.string ⟨(showL n).toArray⟩, .int .i64 0]) ∧ Below w.heap.size w w' := by
  have h1 : ((n : Int) != clamp n 0 1000000) = false := by rw [clamp_in (by omega) (by omega)]; simp
  have hI0 := Lib.IsBuilderF.of (Lib.fresh_isBuilder 70 5 w)
  go_enter Tryd.func12, Tryd.ntmps12
  go_wp2_with (first
    | (go_at_call 15; refine (time_any _ _).mono ?_; rintro e w' ⟨rfl, rfl⟩)
    | (go_at_call 38; refine (units_any _).mono ?_; rintro e w1 ⟨rfl, hb1⟩))
  have hI1 := bld_below hI0 hb1
  have b1 : Below w.heap.size w w1 := ((Below.refl w.heap.size w).alloc (Nat.le_refl _) _).trans (hb1.mono (by simp))
  clear hI0 hb1 h1
  have i0 : ∀ w' : World, (Instr.index 73 unitsV (.int .i64 0)).run Tryd.prog w' = .ok (.agg #[.int .u8 100, .int .i64 86400]) w' := fun _ => by kernel_rfl
  have i1 : ∀ w' : World, (Instr.index 73 unitsV (.int .i64 1)).run Tryd.prog w' = .ok (.agg #[.int .u8 104, .int .i64 3600]) w' := fun _ => by kernel_rfl
  have i2 : ∀ w' : World, (Instr.index 73 unitsV (.int .i64 2)).run Tryd.prog w' = .ok (.agg #[.int .u8 109, .int .i64 60]) w' := fun _ => by kernel_rfl
  have i3 : ∀ w' : World, (Instr.index 73 unitsV (.int .i64 3)).run Tryd.prog w' = .ok (.agg #[.int .u8 115, .int .i64 1]) w' := fun _ => by kernel_rfl
  go_loopw [0, 13] (fun s i wr => ∃ k : Nat, k ≤ 4 ∧ i = .int .i64 k ∧ s = .int .i64 (rm k n) ∧ Lib.IsBuilderF 70 5 w.heap.size w.heap.size (Lib.byteCells (pts k n)) wr ∧ Below w.heap.size w wr) (fun _ i _ => 4 - (intOf i).toNat)
  case atStart => exact ⟨0, by omega, rfl, rfl, hI1, b1⟩
  case round =>
    obtain ⟨k, hk, rfl, rfl, hI, hb⟩ := hrel
    have hz : w.heap.size < wr.heap.size := hI.elim (fun x => x.lt) (fun x => x.lt)
    clear hI1 b1
    by_cases hk4 : k < 4
    · rcases k with _ | _ | _ | _ | k
      · obtain ⟨r, hr⟩ : ∃ r : Nat, Hid (rm 0 n = r) := ⟨_, rfl⟩
        have hrn : r ≤ 1000000 := by rw [← hr.out]; exact Nat.le_trans (rm_le n _) h
        have hrm : Hid (rm (0 + 1) n = r % 86400) := by show rm 0 n % tk 0 = _; rw [hr.out]; rfl
        have hct : Hid (ct 0 n = r / 86400) := by show rm 0 n / tk 0 = _; rw [hr.out]; rfl
        have hcl : r / 86400 < 100 := by rw [← hct.out]; exact ct_lt h _ (by omega)
        have hpl := pts_len h 0 (by omega)
        have HP : Hid (pts (0 + 1) n = pts 0 n ++ pt 0 n) := rfl
        have hpt : Hid (pt 0 n = if 0 < r / 86400 then Lib.decDigits (r / 86400) ++ [100] else []) := by show pt _ _ = _; unfold pt; rw [hct.out]; rfl
        obtain ⟨L, hL⟩ : ∃ L, Hid (pts 0 n = L) := ⟨_, rfl⟩
        rw [hL.out] at hI hpl
        rw [hr.out]
        clear hr hct
        obtain ⟨q, hq2⟩ : ∃ q : Nat, Hid (r / 86400 = q) := ⟨_, rfl⟩
        have e1 : (r : Int) / 86400 = (q : Int) := by rw [← hq2.out]; rfl
        rw [hq2.out] at hcl hpt
        by_cases hq : 0 < q
        · have hd : decide ((0 : Int) < (q : Int)) = true := by simp; omega
          have hdl := decDigits_len hcl
          have hl1 : (Lib.byteCells L).length + (⟨(Lib.decDigits q).toArray⟩ : ByteArray).size ≤ 140737488355328 := by simp [Lib.byteCells, ByteArray.size]; omega
          have hl2 : (Lib.byteCells L ++ Lib.strCells ⟨(Lib.decDigits q).toArray⟩).length + 1 ≤ 140737488355328 := by rw [sc_bc]; simp [Lib.byteCells]; omega
          go_wp2_with (first
            | (go_at_call 40; refine (Tryd.strconv_Itoa_small q hcl _).mono ?_; rintro e w' ⟨rfl, rfl⟩)
            | (go_at_call 39; refine (writeString_any w.heap.size w.heap.size _ ⟨(Lib.decDigits q).toArray⟩ _ (hI.alloc _) hl1 (by simp; omega)).mono ?_; rintro e w3 ⟨rfl, hI3, hb3, hk3⟩
               have hz3 := hb3.size
               simp only [World.size_alloc] at hz3
               have hu := hk3 wr.heap.size _ (heap_alloc_new wr _) (by simp; omega) (fun _ _ e1 => by cases e1)
               have u0 : w3.cell? ⟨wr.heap.size, 0, none⟩ = some (.int .u8 100) := (by rw [Lib.cell_of_heap hu]; rfl)
               have u1 : w3.cell? ⟨wr.heap.size, 1, none⟩ = some (.int .i64 86400) := (by rw [Lib.cell_of_heap hu]; rfl))
            | (go_at_call 41; refine (writeByte_any w.heap.size w.heap.size _ _ _ hI3 hl2 (by omega)).mono ?_; rintro e w4 ⟨rfl, hI4, hb4, hk4⟩
               have hu4 := hk4 wr.heap.size _ hu (by simp; omega) (fun _ _ e1 => by cases e1)
               have t1 : w4.cell? ⟨wr.heap.size, 1, none⟩ = some (.int .i64 86400) := (by rw [Lib.cell_of_heap hu4]; rfl)))
          have bb4 := (hb.alloc (by omega) _).trans (hb3.trans hb4)
          go_roundw
          case rel =>
            refine ⟨0 + 1, by omega, rfl, by rw [hrm.out]; rfl, ?_, bb4⟩
            rw [HP.out, hpt.out, if_pos hq, hL.out, bc_app, bc_app]
            rw [sc_bc, List.append_assoc] at hI4
            exact hI4
          case measure => simp [intOf]
        · have hd : decide ((0 : Int) < (q : Int)) = false := by simp; omega
          go_wp2
          go_roundw
          case rel =>
            refine ⟨0 + 1, by omega, rfl, by rw [hrm.out]; rfl, ?_, hb.alloc (by omega) _⟩
            rw [HP.out, hpt.out, if_neg hq, hL.out, List.append_nil]
            exact hI.alloc _
          case measure => simp [intOf]
      · obtain ⟨r, hr⟩ : ∃ r : Nat, Hid (rm 1 n = r) := ⟨_, rfl⟩
        have hrn : r ≤ 1000000 := by rw [← hr.out]; exact Nat.le_trans (rm_le n _) h
        have hrm : Hid (rm (1 + 1) n = r % 3600) := by show rm 1 n % tk 1 = _; rw [hr.out]; rfl
        have hct : Hid (ct 1 n = r / 3600) := by show rm 1 n / tk 1 = _; rw [hr.out]; rfl
        have hcl : r / 3600 < 100 := by rw [← hct.out]; exact ct_lt h _ (by omega)
        have hpl := pts_len h 1 (by omega)
        have HP : Hid (pts (1 + 1) n = pts 1 n ++ pt 1 n) := rfl
        have hpt : Hid (pt 1 n = if 0 < r / 3600 then Lib.decDigits (r / 3600) ++ [104] else []) := by show pt _ _ = _; unfold pt; rw [hct.out]; rfl
        obtain ⟨L, hL⟩ : ∃ L, Hid (pts 1 n = L) := ⟨_, rfl⟩
        rw [hL.out] at hI hpl
        rw [hr.out]
        clear hr hct
        obtain ⟨q, hq2⟩ : ∃ q : Nat, Hid (r / 3600 = q) := ⟨_, rfl⟩
        have e1 : (r : Int) / 3600 = (q : Int) := by rw [← hq2.out]; rfl
        rw [hq2.out] at hcl hpt
        by_cases hq : 0 < q
        · have hd : decide ((0 : Int) < (q : Int)) = true := by simp; omega
          have hdl := decDigits_len hcl
          have hl1 : (Lib.byteCells L).length + (⟨(Lib.decDigits q).toArray⟩ : ByteArray).size ≤ 140737488355328 := by simp [Lib.byteCells, ByteArray.size]; omega
          have hl2 : (Lib.byteCells L ++ Lib.strCells ⟨(Lib.decDigits q).toArray⟩).length + 1 ≤ 140737488355328 := by rw [sc_bc]; simp [Lib.byteCells]; omega
          go_wp2_with (first
            | (go_at_call 40; refine (Tryd.strconv_Itoa_small q hcl _).mono ?_; rintro e w' ⟨rfl, rfl⟩)
            | (go_at_call 39; refine (writeString_any w.heap.size w.heap.size _ ⟨(Lib.decDigits q).toArray⟩ _ (hI.alloc _) hl1 (by simp; omega)).mono ?_; rintro e w3 ⟨rfl, hI3, hb3, hk3⟩
               have hz3 := hb3.size
               simp only [World.size_alloc] at hz3
               have hu := hk3 wr.heap.size _ (heap_alloc_new wr _) (by simp; omega) (fun _ _ e1 => by cases e1)
               have u0 : w3.cell? ⟨wr.heap.size, 0, none⟩ = some (.int .u8 104) := (by rw [Lib.cell_of_heap hu]; rfl)
               have u1 : w3.cell? ⟨wr.heap.size, 1, none⟩ = some (.int .i64 3600) := (by rw [Lib.cell_of_heap hu]; rfl))
            | (go_at_call 41; refine (writeByte_any w.heap.size w.heap.size _ _ _ hI3 hl2 (by omega)).mono ?_; rintro e w4 ⟨rfl, hI4, hb4, hk4⟩
               have hu4 := hk4 wr.heap.size _ hu (by simp; omega) (fun _ _ e1 => by cases e1)
               have t1 : w4.cell? ⟨wr.heap.size, 1, none⟩ = some (.int .i64 3600) := (by rw [Lib.cell_of_heap hu4]; rfl)))
          have bb4 := (hb.alloc (by omega) _).trans (hb3.trans hb4)
          go_roundw
          case rel =>
            refine ⟨1 + 1, by omega, rfl, by rw [hrm.out]; rfl, ?_, bb4⟩
            rw [HP.out, hpt.out, if_pos hq, hL.out, bc_app, bc_app]
            rw [sc_bc, List.append_assoc] at hI4
            exact hI4
          case measure => simp [intOf]
        · have hd : decide ((0 : Int) < (q : Int)) = false := by simp; omega
          go_wp2
          go_roundw
          case rel =>
            refine ⟨1 + 1, by omega, rfl, by rw [hrm.out]; rfl, ?_, hb.alloc (by omega) _⟩
            rw [HP.out, hpt.out, if_neg hq, hL.out, List.append_nil]
            exact hI.alloc _
          case measure => simp [intOf]
      · obtain ⟨r, hr⟩ : ∃ r : Nat, Hid (rm 2 n = r) := ⟨_, rfl⟩
        have hrn : r ≤ 1000000 := by rw [← hr.out]; exact Nat.le_trans (rm_le n _) h
        have hrm : Hid (rm (2 + 1) n = r % 60) := by show rm 2 n % tk 2 = _; rw [hr.out]; rfl
        have hct : Hid (ct 2 n = r / 60) := by show rm 2 n / tk 2 = _; rw [hr.out]; rfl
        have hcl : r / 60 < 100 := by rw [← hct.out]; exact ct_lt h _ (by omega)
        have hpl := pts_len h 2 (by omega)
        have HP : Hid (pts (2 + 1) n = pts 2 n ++ pt 2 n) := rfl
        have hpt : Hid (pt 2 n = if 0 < r / 60 then Lib.decDigits (r / 60) ++ [109] else []) := by show pt _ _ = _; unfold pt; rw [hct.out]; rfl
        obtain ⟨L, hL⟩ : ∃ L, Hid (pts 2 n = L) := ⟨_, rfl⟩
        rw [hL.out] at hI hpl
        rw [hr.out]
        clear hr hct
        obtain ⟨q, hq2⟩ : ∃ q : Nat, Hid (r / 60 = q) := ⟨_, rfl⟩
        have e1 : (r : Int) / 60 = (q : Int) := by rw [← hq2.out]; rfl
        rw [hq2.out] at hcl hpt
        by_cases hq : 0 < q
        · have hd : decide ((0 : Int) < (q : Int)) = true := by simp; omega
          have hdl := decDigits_len hcl
          have hl1 : (Lib.byteCells L).length + (⟨(Lib.decDigits q).toArray⟩ : ByteArray).size ≤ 140737488355328 := by simp [Lib.byteCells, ByteArray.size]; omega
          have hl2 : (Lib.byteCells L ++ Lib.strCells ⟨(Lib.decDigits q).toArray⟩).length + 1 ≤ 140737488355328 := by rw [sc_bc]; simp [Lib.byteCells]; omega
          go_wp2_with (first
            | (go_at_call 40; refine (Tryd.strconv_Itoa_small q hcl _).mono ?_; rintro e w' ⟨rfl, rfl⟩)
            | (go_at_call 39; refine (writeString_any w.heap.size w.heap.size _ ⟨(Lib.decDigits q).toArray⟩ _ (hI.alloc _) hl1 (by simp; omega)).mono ?_; rintro e w3 ⟨rfl, hI3, hb3, hk3⟩
               have hz3 := hb3.size
               simp only [World.size_alloc] at hz3
               have hu := hk3 wr.heap.size _ (heap_alloc_new wr _) (by simp; omega) (fun _ _ e1 => by cases e1)
               have u0 : w3.cell? ⟨wr.heap.size, 0, none⟩ = some (.int .u8 109) := (by rw [Lib.cell_of_heap hu]; rfl)
               have u1 : w3.cell? ⟨wr.heap.size, 1, none⟩ = some (.int .i64 60) := (by rw [Lib.cell_of_heap hu]; rfl))
            | (go_at_call 41; refine (writeByte_any w.heap.size w.heap.size _ _ _ hI3 hl2 (by omega)).mono ?_; rintro e w4 ⟨rfl, hI4, hb4, hk4⟩
               have hu4 := hk4 wr.heap.size _ hu (by simp; omega) (fun _ _ e1 => by cases e1)
               have t1 : w4.cell? ⟨wr.heap.size, 1, none⟩ = some (.int .i64 60) := (by rw [Lib.cell_of_heap hu4]; rfl)))
          have bb4 := (hb.alloc (by omega) _).trans (hb3.trans hb4)
          go_roundw
          case rel =>
            refine ⟨2 + 1, by omega, rfl, by rw [hrm.out]; rfl, ?_, bb4⟩
            rw [HP.out, hpt.out, if_pos hq, hL.out, bc_app, bc_app]
            rw [sc_bc, List.append_assoc] at hI4
            exact hI4
          case measure => simp [intOf]
        · have hd : decide ((0 : Int) < (q : Int)) = false := by simp; omega
          go_wp2
          go_roundw
          case rel =>
            refine ⟨2 + 1, by omega, rfl, by rw [hrm.out]; rfl, ?_, hb.alloc (by omega) _⟩
            rw [HP.out, hpt.out, if_neg hq, hL.out, List.append_nil]
            exact hI.alloc _
          case measure => simp [intOf]
      · obtain ⟨r, hr⟩ : ∃ r : Nat, Hid (rm 3 n = r) := ⟨_, rfl⟩
        have hrn : r ≤ 1000000 := by rw [← hr.out]; exact Nat.le_trans (rm_le n _) h
        have hrm : Hid (rm (3 + 1) n = 0) := by show rm 3 n % tk 3 = _; rw [hr.out]; exact Nat.mod_one r
        have hct : Hid (ct 3 n = r) := by show rm 3 n / tk 3 = _; rw [hr.out]; exact Nat.div_one r
        have hcl : r < 100 := by rw [← hct.out]; exact ct_lt h _ (by omega)
        have hpl := pts_len h 3 (by omega)
        have HP : Hid (pts (3 + 1) n = pts 3 n ++ pt 3 n) := rfl
        have hpt : Hid (pt 3 n = if 0 < r then Lib.decDigits (r) ++ [115] else []) := by show pt _ _ = _; unfold pt; rw [hct.out]; rfl
        obtain ⟨L, hL⟩ : ∃ L, Hid (pts 3 n = L) := ⟨_, rfl⟩
        rw [hL.out] at hI hpl
        rw [hr.out]
        clear hr hct
        obtain ⟨q, hq2⟩ : ∃ q : Nat, q = r := ⟨_, rfl⟩
        subst hq2
        by_cases hq : 0 < q
        · have hd : decide ((0 : Int) < (q : Int)) = true := by simp; omega
          have hdl := decDigits_len hcl
          have hl1 : (Lib.byteCells L).length + (⟨(Lib.decDigits q).toArray⟩ : ByteArray).size ≤ 140737488355328 := by simp [Lib.byteCells, ByteArray.size]; omega
          have hl2 : (Lib.byteCells L ++ Lib.strCells ⟨(Lib.decDigits q).toArray⟩).length + 1 ≤ 140737488355328 := by rw [sc_bc]; simp [Lib.byteCells]; omega
          go_wp2_with (first
            | (go_at_call 40; refine (Tryd.strconv_Itoa_small q hcl _).mono ?_; rintro e w' ⟨rfl, rfl⟩)
            | (go_at_call 39; refine (writeString_any w.heap.size w.heap.size _ ⟨(Lib.decDigits q).toArray⟩ _ (hI.alloc _) hl1 (by simp; omega)).mono ?_; rintro e w3 ⟨rfl, hI3, hb3, hk3⟩
               have hz3 := hb3.size
               simp only [World.size_alloc] at hz3
               have hu := hk3 wr.heap.size _ (heap_alloc_new wr _) (by simp; omega) (fun _ _ e1 => by cases e1)
               have u0 : w3.cell? ⟨wr.heap.size, 0, none⟩ = some (.int .u8 115) := (by rw [Lib.cell_of_heap hu]; rfl)
               have u1 : w3.cell? ⟨wr.heap.size, 1, none⟩ = some (.int .i64 1) := (by rw [Lib.cell_of_heap hu]; rfl))
            | (go_at_call 41; refine (writeByte_any w.heap.size w.heap.size _ _ _ hI3 hl2 (by omega)).mono ?_; rintro e w4 ⟨rfl, hI4, hb4, hk4⟩
               have hu4 := hk4 wr.heap.size _ hu (by simp; omega) (fun _ _ e1 => by cases e1)
               have t1 : w4.cell? ⟨wr.heap.size, 1, none⟩ = some (.int .i64 1) := (by rw [Lib.cell_of_heap hu4]; rfl)))
          have bb4 := (hb.alloc (by omega) _).trans (hb3.trans hb4)
          go_roundw
          case rel =>
            refine ⟨3 + 1, by omega, rfl, by rw [hrm.out]; rfl, ?_, bb4⟩
            rw [HP.out, hpt.out, if_pos hq, hL.out, bc_app, bc_app]
            rw [sc_bc, List.append_assoc] at hI4
            exact hI4
          case measure => simp [intOf]
        · have hd : decide ((0 : Int) < (q : Int)) = false := by simp; omega
          go_wp2
          go_roundw
          case rel =>
            refine ⟨3 + 1, by omega, rfl, by rw [hrm.out]; rfl, ?_, hb.alloc (by omega) _⟩
            rw [HP.out, hpt.out, if_neg hq, hL.out, List.append_nil]
            exact hI.alloc _
          case measure => simp [intOf]
      · omega
    · obtain rfl : k = 4 := by omega
      by_cases hn0 : n = 0
      · have hp : Hid (pts 4 n = []) := pts_nil.2 hn0
        have hs : Hid (showL n = [48, 115]) := by show showL n = _; unfold showL; rw [if_pos hn0]
        rw [hp.out] at hI
        clear hn0 i0 i1 i2 i3
        go_wp2_with (go_at_call 42; refine (Tryd.Builder_Len_f _ _ _ _ hI).mono ?_; rintro e w' ⟨rfl, rfl⟩)
        go_ret2
        exact ⟨by rw [hs.out]; rfl, hb⟩
      · have hp : Hid (pts 4 n ≠ []) := fun e => hn0 (pts_nil.1 e)
        have hs : Hid (showL n = pts 4 n) := by show showL n = _; unfold showL; rw [if_neg hn0]
        obtain ⟨L, hL⟩ : ∃ L, Hid (pts 4 n = L) := ⟨_, rfl⟩
        rw [hL.out] at hI hs hp
        have hd : ((L.length : Int) == 0) = false := by
          have := hp.out
          simp; intro e; exact this e
        have hd2 : (((Lib.byteCells L).length : Int) == 0) = false := by simpa [Lib.byteCells] using hd
        clear hn0 i0 i1 i2 i3
        go_wp2_with (first
          | (go_at_call 42; refine (Tryd.Builder_Len_f _ _ _ _ hI).mono ?_; rintro e w' ⟨rfl, rfl⟩)
          | (go_at_call 43; refine (Tryd.Builder_String_any_f w.heap.size w.heap.size L _ hI (by omega)).mono ?_; rintro e w5 ⟨rfl, _, hb5⟩))
        go_ret2
        exact ⟨by rw [hs.out]; rfl, hb.trans hb5⟩
end Go.Proofs.YtenonfoocjcdmaaDoor
