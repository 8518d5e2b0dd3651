/- Bundle K5. -/
import Derived.Test.YtjmhaoplablmnaaGreatDoorK2s
import Derived.Test.YtjmhaoplablmnaaGreatDoorK1s
import Derived.Test.YtjmhaoplablmnaaGreatDoorK3s
import Derived.Deep.DeepCutAuto
import Derived.Deep.CutBlock
import Derived.Deep.Cut
import Derived.Deep.LoopGhost
import Derived.WalkMore
import Derived.Lib.AtoiErrMem
import Derived.Deep.RegionWith
import Derived.LoopTactic
namespace Go.Proofs.YtjmhaoplablmnaaGreatDoor
set_option linter.unusedSimpArgs false
set_option maxRecDepth 100000
set_option linter.unusedVariables false
open Go.RowKit
def unitsV : Value := .agg #[.int .u8 100, .int .i64 86400, .int .u8 104, .int .i64 3600, .int .u8 109, .int .i64 60, .int .u8 115, .int .i64 1]
theorem units_any (w : World) : Calls Tryz.prog 96 #[] w fun e w' => e = .returned unitsV ∧ Below w.heap.size w w' := by
  go_enter Tryz.func96, Tryz.ntmps96
  go_wp2
  exact bodyPost_ret (v := unitsV) (by simp [results, Tryz.results96, go_sem, unitsV]) rfl ⟨rfl, (Below.refl _ _).alloc (Nat.le_refl _) _⟩
theorem bc_app (a b : List UInt8) : Lib.byteCells (a ++ b) = Lib.byteCells a ++ Lib.byteCells b := by simp [Lib.byteCells]
theorem sc_bc (l : List UInt8) : Lib.strCells ⟨l.toArray⟩ = Lib.byteCells l := by simp [Lib.strCells, Lib.byteCells]
theorem bld_below {T e : TypeId} {B b : Nat} {bs : List Value} {w w' : World} (h : Lib.IsBuilderF T e B b bs w) (hb : Below w.heap.size w w') : Lib.IsBuilderF T e B b bs w' := by
  have key : ∀ {p : Value}, Lib.BuilderAtF T e B b p bs w → Lib.BuilderAtF T e B b p bs w' := by
    intro p hp
    have hlt := hp.lt
    obtain ⟨h1, v, h2, h3, h4⟩ := hp
    refine ⟨h1, v, (hb.block b hlt).trans h2, ⟨h3.1, ?_⟩, h4⟩
    rcases h3.2 with h5 | ⟨g, cap, cur, fz, hv, hbg, hg, rest⟩
    · exact .inl h5
    · have hgl : g < w.heap.size := by
        rcases Nat.lt_or_ge g w.heap.size with h' | h'
        · exact h'
        · rw [Array.getElem?_eq_none h'] at hg; cases hg
      exact .inr ⟨g, cap, cur, fz, hv, hbg, (hb.block g hgl).trans hg, rest⟩
  exact h.elim (fun x => .inl (key x)) (fun x => .inr (key x))
set_option maxHeartbeats 4000000 in
theorem show_ok (n : Nat) (w : World) (h : n ≤ 1000000) :
    Calls Tryz.prog 53 #[.int .i64 n] w fun e w' => e = .returned (.tuple #[.string ⟨(showL n).toArray⟩, .int .i64 0]) ∧ Below w.heap.size w w' := by
  have h1 : ((n : Int) != clamp n 0 1000000) = false := by rw [clamp_in (by omega) (by omega)]; simp
  have hI0 := Lib.IsBuilderF.of (Lib.fresh_isBuilder 87 5 w)
  go_enter Tryz.func53, Tryz.ntmps53
  go_wp2_with (first
    | (go_at_call 95; refine (time_any _ _).mono ?_; rintro e w' ⟨rfl, rfl⟩)
    | (go_at_call 96; refine (units_any _).mono ?_; rintro e w1 ⟨rfl, hb1⟩))
  have hI1 := bld_below hI0 hb1
  have b1 : Below w.heap.size w w1 := ((Below.refl w.heap.size w).alloc (Nat.le_refl _) _).trans (hb1.mono (by simp))
  clear hI0 hb1 h1
  have i0 : ∀ w' : World, (Instr.index 140 unitsV (.int .i64 0)).run Tryz.prog w' = .ok (.agg #[.int .u8 100, .int .i64 86400]) w' := fun _ => by kernel_rfl
  have i1 : ∀ w' : World, (Instr.index 140 unitsV (.int .i64 1)).run Tryz.prog w' = .ok (.agg #[.int .u8 104, .int .i64 3600]) w' := fun _ => by kernel_rfl
  have i2 : ∀ w' : World, (Instr.index 140 unitsV (.int .i64 2)).run Tryz.prog w' = .ok (.agg #[.int .u8 109, .int .i64 60]) w' := fun _ => by kernel_rfl
  have i3 : ∀ w' : World, (Instr.index 140 unitsV (.int .i64 3)).run Tryz.prog w' = .ok (.agg #[.int .u8 115, .int .i64 1]) w' := fun _ => by kernel_rfl
  go_loopw [0, 13] (fun s i wr => ∃ k : Nat, k ≤ 4 ∧ i = .int .i64 k ∧ s = .int .i64 (rm k n) ∧ Lib.IsBuilderF 87 5 w.heap.size w.heap.size (Lib.byteCells (pts k n)) wr ∧ Below w.heap.size w wr) (fun _ i _ => 4 - (intOf i).toNat)
  case atStart => exact ⟨0, by omega, rfl, rfl, hI1, b1⟩
  case round =>
    obtain ⟨k, hk, rfl, rfl, hI, hb⟩ := hrel
    have hz : w.heap.size < wr.heap.size := hI.elim (fun x => x.lt) (fun x => x.lt)
    clear hI1 b1
    by_cases hk4 : k < 4
    · rcases k with _ | _ | _ | _ | k
      · obtain ⟨r, hr⟩ : ∃ r : Nat, Hid (rm 0 n = r) := ⟨_, rfl⟩
        have hrn : r ≤ 1000000 := by rw [← hr.out]; exact Nat.le_trans (rm_le n _) h
        have hrm : Hid (rm (0 + 1) n = r % 86400) := by show rm 0 n % tk 0 = _; rw [hr.out]; rfl
        have hct : Hid (ct 0 n = r / 86400) := by show rm 0 n / tk 0 = _; rw [hr.out]; rfl
        have hcl : r / 86400 < 100 := by rw [← hct.out]; exact ct_lt h _ (by omega)
        have hpl := pts_len h 0 (by omega)
        have HP : Hid (pts (0 + 1) n = pts 0 n ++ pt 0 n) := rfl
        have hpt : Hid (pt 0 n = if 0 < r / 86400 then Lib.decDigits (r / 86400) ++ [100] else []) := by show pt _ _ = _; unfold pt; rw [hct.out]; rfl
        obtain ⟨L, hL⟩ : ∃ L, Hid (pts 0 n = L) := ⟨_, rfl⟩
        rw [hL.out] at hI hpl
        rw [hr.out]
        clear hr hct
        obtain ⟨q, hq2⟩ : ∃ q : Nat, Hid (r / 86400 = q) := ⟨_, rfl⟩
        have e1 : (r : Int) / 86400 = (q : Int) := by rw [← hq2.out]; rfl
        rw [hq2.out] at hcl hpt
        by_cases hq : 0 < q
        · have hd : decide ((0 : Int) < (q : Int)) = true := by simp; omega
          have hdl := decDigits_len hcl
          have hl1 : (Lib.byteCells L).length + (⟨(Lib.decDigits q).toArray⟩ : ByteArray).size ≤ 140737488355328 := by simp [Lib.byteCells, ByteArray.size]; omega
          have hl2 : (Lib.byteCells L ++ Lib.strCells ⟨(Lib.decDigits q).toArray⟩).length + 1 ≤ 140737488355328 := by rw [sc_bc]; simp [Lib.byteCells]; omega
          go_wp2_with (first
            | (go_at_call 21; refine (Tryz.strconv_Itoa_small q hcl _).mono ?_; rintro e w' ⟨rfl, rfl⟩)
            | (go_at_call 55; refine (writeString_any w.heap.size w.heap.size _ ⟨(Lib.decDigits q).toArray⟩ _ (hI.alloc _) hl1 (by simp; omega)).mono ?_; rintro e w3 ⟨rfl, hI3, hb3, hk3⟩
               have hz3 := hb3.size
               simp only [World.size_alloc] at hz3
               have hu := hk3 wr.heap.size _ (heap_alloc_new wr _) (by simp; omega) (fun _ _ e1 => by cases e1)
               have u0 : w3.cell? ⟨wr.heap.size, 0, none⟩ = some (.int .u8 100) := (by rw [Lib.cell_of_heap hu]; rfl)
               have u1 : w3.cell? ⟨wr.heap.size, 1, none⟩ = some (.int .i64 86400) := (by rw [Lib.cell_of_heap hu]; rfl))
            | (go_at_call 92; refine (writeByte_any w.heap.size w.heap.size _ _ _ hI3 hl2 (by omega)).mono ?_; rintro e w4 ⟨rfl, hI4, hb4, hk4⟩
               have hu4 := hk4 wr.heap.size _ hu (by simp; omega) (fun _ _ e1 => by cases e1)
               have t1 : w4.cell? ⟨wr.heap.size, 1, none⟩ = some (.int .i64 86400) := (by rw [Lib.cell_of_heap hu4]; rfl)))
          have bb4 := (hb.alloc (by omega) _).trans (hb3.trans hb4)
          go_roundw
          case rel =>
            refine ⟨0 + 1, by omega, rfl, by rw [hrm.out]; rfl, ?_, bb4⟩
            rw [HP.out, hpt.out, if_pos hq, hL.out, bc_app, bc_app]
            rw [sc_bc, List.append_assoc] at hI4
            exact hI4
          case measure => simp [intOf]
        · have hd : decide ((0 : Int) < (q : Int)) = false := by simp; omega
          go_wp2
          go_roundw
          case rel =>
            refine ⟨0 + 1, by omega, rfl, by rw [hrm.out]; rfl, ?_, hb.alloc (by omega) _⟩
            rw [HP.out, hpt.out, if_neg hq, hL.out, List.append_nil]
            exact hI.alloc _
          case measure => simp [intOf]
      · obtain ⟨r, hr⟩ : ∃ r : Nat, Hid (rm 1 n = r) := ⟨_, rfl⟩
        have hrn : r ≤ 1000000 := by rw [← hr.out]; exact Nat.le_trans (rm_le n _) h
        have hrm : Hid (rm (1 + 1) n = r % 3600) := by show rm 1 n % tk 1 = _; rw [hr.out]; rfl
        have hct : Hid (ct 1 n = r / 3600) := by show rm 1 n / tk 1 = _; rw [hr.out]; rfl
        have hcl : r / 3600 < 100 := by rw [← hct.out]; exact ct_lt h _ (by omega)
        have hpl := pts_len h 1 (by omega)
        have HP : Hid (pts (1 + 1) n = pts 1 n ++ pt 1 n) := rfl
        have hpt : Hid (pt 1 n = if 0 < r / 3600 then Lib.decDigits (r / 3600) ++ [104] else []) := by show pt _ _ = _; unfold pt; rw [hct.out]; rfl
        obtain ⟨L, hL⟩ : ∃ L, Hid (pts 1 n = L) := ⟨_, rfl⟩
        rw [hL.out] at hI hpl
        rw [hr.out]
        clear hr hct
        obtain ⟨q, hq2⟩ : ∃ q : Nat, Hid (r / 3600 = q) := ⟨_, rfl⟩
        have e1 : (r : Int) / 3600 = (q : Int) := by rw [← hq2.out]; rfl
        rw [hq2.out] at hcl hpt
        by_cases hq : 0 < q
        · have hd : decide ((0 : Int) < (q : Int)) = true := by simp; omega
          have hdl := decDigits_len hcl
          have hl1 : (Lib.byteCells L).length + (⟨(Lib.decDigits q).toArray⟩ : ByteArray).size ≤ 140737488355328 := by simp [Lib.byteCells, ByteArray.size]; omega
          have hl2 : (Lib.byteCells L ++ Lib.strCells ⟨(Lib.decDigits q).toArray⟩).length + 1 ≤ 140737488355328 := by rw [sc_bc]; simp [Lib.byteCells]; omega
          go_wp2_with (first
            | (go_at_call 21; refine (Tryz.strconv_Itoa_small q hcl _).mono ?_; rintro e w' ⟨rfl, rfl⟩)
            | (go_at_call 55; refine (writeString_any w.heap.size w.heap.size _ ⟨(Lib.decDigits q).toArray⟩ _ (hI.alloc _) hl1 (by simp; omega)).mono ?_; rintro e w3 ⟨rfl, hI3, hb3, hk3⟩
               have hz3 := hb3.size
               simp only [World.size_alloc] at hz3
               have hu := hk3 wr.heap.size _ (heap_alloc_new wr _) (by simp; omega) (fun _ _ e1 => by cases e1)
               have u0 : w3.cell? ⟨wr.heap.size, 0, none⟩ = some (.int .u8 104) := (by rw [Lib.cell_of_heap hu]; rfl)
               have u1 : w3.cell? ⟨wr.heap.size, 1, none⟩ = some (.int .i64 3600) := (by rw [Lib.cell_of_heap hu]; rfl))
            | (go_at_call 92; refine (writeByte_any w.heap.size w.heap.size _ _ _ hI3 hl2 (by omega)).mono ?_; rintro e w4 ⟨rfl, hI4, hb4, hk4⟩
               have hu4 := hk4 wr.heap.size _ hu (by simp; omega) (fun _ _ e1 => by cases e1)
               have t1 : w4.cell? ⟨wr.heap.size, 1, none⟩ = some (.int .i64 3600) := (by rw [Lib.cell_of_heap hu4]; rfl)))
          have bb4 := (hb.alloc (by omega) _).trans (hb3.trans hb4)
          go_roundw
          case rel =>
            refine ⟨1 + 1, by omega, rfl, by rw [hrm.out]; rfl, ?_, bb4⟩
            rw [HP.out, hpt.out, if_pos hq, hL.out, bc_app, bc_app]
            rw [sc_bc, List.append_assoc] at hI4
            exact hI4
          case measure => simp [intOf]
        · have hd : decide ((0 : Int) < (q : Int)) = false := by simp; omega
          go_wp2
          go_roundw
          case rel =>
            refine ⟨1 + 1, by omega, rfl, by rw [hrm.out]; rfl, ?_, hb.alloc (by omega) _⟩
            rw [HP.out, hpt.out, if_neg hq, hL.out, List.append_nil]
            exact hI.alloc _
          case measure => simp [intOf]
      · obtain ⟨r, hr⟩ : ∃ r : Nat, Hid (rm 2 n = r) := ⟨_, rfl⟩
        have hrn : r ≤ 1000000 := by rw [← hr.out]; exact Nat.le_trans (rm_le n _) h
        have hrm : Hid (rm (2 + 1) n = r % 60) := by show rm 2 n % tk 2 = _; rw [hr.out]; rfl
        have hct : Hid (ct 2 n = r / 60) := by show rm 2 n / tk 2 = _; rw [hr.out]; rfl
        have hcl : r / 60 < 100 := by rw [← hct.out]; exact ct_lt h _ (by omega)
        have hpl := pts_len h 2 (by omega)
        have HP : Hid (pts (2 + 1) n = pts 2 n ++ pt 2 n) := rfl
        have hpt : Hid (pt 2 n = if 0 < r / 60 then Lib.decDigits (r / 60) ++ [109] else []) := by show pt _ _ = _; unfold pt; rw [hct.out]; rfl
        obtain ⟨L, hL⟩ : ∃ L, Hid (pts 2 n = L) := ⟨_, rfl⟩
        rw [hL.out] at hI hpl
        rw [hr.out]
        clear hr hct
        obtain ⟨q, hq2⟩ : ∃ q : Nat, Hid (r / 60 = q) := ⟨_, rfl⟩
        have e1 : (r : Int) / 60 = (q : Int) := by rw [← hq2.out]; rfl
        rw [hq2.out] at hcl hpt
        by_cases hq : 0 < q
        · have hd : decide ((0 : Int) < (q : Int)) = true := by simp; omega
          have hdl := decDigits_len hcl
          have hl1 : (Lib.byteCells L).length + (⟨(Lib.decDigits q).toArray⟩ : ByteArray).size ≤ 140737488355328 := by simp [Lib.byteCells, ByteArray.size]; omega
          have hl2 : (Lib.byteCells L ++ Lib.strCells ⟨(Lib.decDigits q).toArray⟩).length + 1 ≤ 140737488355328 := by rw [sc_bc]; simp [Lib.byteCells]; omega
          go_wp2_with (first
            | (go_at_call 21; refine (Tryz.strconv_Itoa_small q hcl _).mono ?_; rintro e w' ⟨rfl, rfl⟩)
            | (go_at_call 55; refine (writeString_any w.heap.size w.heap.size _ ⟨(Lib.decDigits q).toArray⟩ _ (hI.alloc _) hl1 (by simp; omega)).mono ?_; rintro e w3 ⟨rfl, hI3, hb3, hk3⟩
               have hz3 := hb3.size
               simp only [World.size_alloc] at hz3
               have hu := hk3 wr.heap.size _ (heap_alloc_new wr _) (by simp; omega) (fun _ _ e1 => by cases e1)
               have u0 : w3.cell? ⟨wr.heap.size, 0, none⟩ = some (.int .u8 109) := (by rw [Lib.cell_of_heap hu]; rfl)
               have u1 : w3.cell? ⟨wr.heap.size, 1, none⟩ = some (.int .i64 60) := (by rw [Lib.cell_of_heap hu]; rfl))
            | (go_at_call 92; refine (writeByte_any w.heap.size w.heap.size _ _ _ hI3 hl2 (by omega)).mono ?_; rintro e w4 ⟨rfl, hI4, hb4, hk4⟩
               have hu4 := hk4 wr.heap.size _ hu (by simp; omega) (fun _ _ e1 => by cases e1)
               have t1 : w4.cell? ⟨wr.heap.size, 1, none⟩ = some (.int .i64 60) := (by rw [Lib.cell_of_heap hu4]; rfl)))
          have bb4 := (hb.alloc (by omega) _).trans (hb3.trans hb4)
          go_roundw
          case rel =>
            refine ⟨2 + 1, by omega, rfl, by rw [hrm.out]; rfl, ?_, bb4⟩
            rw [HP.out, hpt.out, if_pos hq, hL.out, bc_app, bc_app]
            rw [sc_bc, List.append_assoc] at hI4
            exact hI4
          case measure => simp [intOf]
        · have hd : decide ((0 : Int) < (q : Int)) = false := by simp; omega
          go_wp2
          go_roundw
          case rel =>
            refine ⟨2 + 1, by omega, rfl, by rw [hrm.out]; rfl, ?_, hb.alloc (by omega) _⟩
            rw [HP.out, hpt.out, if_neg hq, hL.out, List.append_nil]
            exact hI.alloc _
          case measure => simp [intOf]
      · obtain ⟨r, hr⟩ : ∃ r : Nat, Hid (rm 3 n = r) := ⟨_, rfl⟩
        have hrn : r ≤ 1000000 := by rw [← hr.out]; exact Nat.le_trans (rm_le n _) h
        have hrm : Hid (rm (3 + 1) n = 0) := by show rm 3 n % tk 3 = _; rw [hr.out]; exact Nat.mod_one r
        have hct : Hid (ct 3 n = r) := by show rm 3 n / tk 3 = _; rw [hr.out]; exact Nat.div_one r
        have hcl : r < 100 := by rw [← hct.out]; exact ct_lt h _ (by omega)
        have hpl := pts_len h 3 (by omega)
        have HP : Hid (pts (3 + 1) n = pts 3 n ++ pt 3 n) := rfl
        have hpt : Hid (pt 3 n = if 0 < r then Lib.decDigits (r) ++ [115] else []) := by show pt _ _ = _; unfold pt; rw [hct.out]; rfl
        obtain ⟨L, hL⟩ : ∃ L, Hid (pts 3 n = L) := ⟨_, rfl⟩
        rw [hL.out] at hI hpl
        rw [hr.out]
        clear hr hct
        obtain ⟨q, hq2⟩ : ∃ q : Nat, q = r := ⟨_, rfl⟩
        subst hq2
        by_cases hq : 0 < q
        · have hd : decide ((0 : Int) < (q : Int)) = true := by simp; omega
          have hdl := decDigits_len hcl
          have hl1 : (Lib.byteCells L).length + (⟨(Lib.decDigits q).toArray⟩ : ByteArray).size ≤ 140737488355328 := by simp [Lib.byteCells, ByteArray.size]; omega
          have hl2 : (Lib.byteCells L ++ Lib.strCells ⟨(Lib.decDigits q).toArray⟩).length + 1 ≤ 140737488355328 := by rw [sc_bc]; simp [Lib.byteCells]; omega
          go_wp2_with (first
            | (go_at_call 21; refine (Tryz.strconv_Itoa_small q hcl _).mono ?_; rintro e w' ⟨rfl, rfl⟩)
            | (go_at_call 55; refine (writeString_any w.heap.size w.heap.size _ ⟨(Lib.decDigits q).toArray⟩ _ (hI.alloc _) hl1 (by simp; omega)).mono ?_; rintro e w3 ⟨rfl, hI3, hb3, hk3⟩
               have hz3 := hb3.size
               simp only [World.size_alloc] at hz3
               have hu := hk3 wr.heap.size _ (heap_alloc_new wr _) (by simp; omega) (fun _ _ e1 => by cases e1)
               have u0 : w3.cell? ⟨wr.heap.size, 0, none⟩ = some (.int .u8 115) := (by rw [Lib.cell_of_heap hu]; rfl)
               have u1 : w3.cell? ⟨wr.heap.size, 1, none⟩ = some (.int .i64 1) := (by rw [Lib.cell_of_heap hu]; rfl))
            | (go_at_call 92; refine (writeByte_any w.heap.size w.heap.size _ _ _ hI3 hl2 (by omega)).mono ?_; rintro e w4 ⟨rfl, hI4, hb4, hk4⟩
               have hu4 := hk4 wr.heap.size _ hu (by simp; omega) (fun _ _ e1 => by cases e1)
               have t1 : w4.cell? ⟨wr.heap.size, 1, none⟩ = some (.int .i64 1) := (by rw [Lib.cell_of_heap hu4]; rfl)))
          have bb4 := (hb.alloc (by omega) _).trans (hb3.trans hb4)
          go_roundw
          case rel =>
            refine ⟨3 + 1, by omega, rfl, by rw [hrm.out]; rfl, ?_, bb4⟩
            rw [HP.out, hpt.out, if_pos hq, hL.out, bc_app, bc_app]
            rw [sc_bc, List.append_assoc] at hI4
            exact hI4
          case measure => simp [intOf]
        · have hd : decide ((0 : Int) < (q : Int)) = false := by simp; omega
          go_wp2
          go_roundw
          case rel =>
            refine ⟨3 + 1, by omega, rfl, by rw [hrm.out]; rfl, ?_, hb.alloc (by omega) _⟩
            rw [HP.out, hpt.out, if_neg hq, hL.out, List.append_nil]
            exact hI.alloc _
          case measure => simp [intOf]
      · omega
    · obtain rfl : k = 4 := by omega
      by_cases hn0 : n = 0
      · have hp : Hid (pts 4 n = []) := pts_nil.2 hn0
        have hs : Hid (showL n = [48, 115]) := by show showL n = _; unfold showL; rw [if_pos hn0]
        rw [hp.out] at hI
        clear hn0 i0 i1 i2 i3
        go_wp2_with (go_at_call 97; refine (Tryz.Builder_Len_f _ _ _ _ hI).mono ?_; rintro e w' ⟨rfl, rfl⟩)
        go_ret2
        exact ⟨by rw [hs.out]; rfl, hb⟩
      · have hp : Hid (pts 4 n ≠ []) := fun e => hn0 (pts_nil.1 e)
        have hs : Hid (showL n = pts 4 n) := by show showL n = _; unfold showL; rw [if_neg hn0]
        obtain ⟨L, hL⟩ : ∃ L, Hid (pts 4 n = L) := ⟨_, rfl⟩
        rw [hL.out] at hI hs hp
        have hd : ((L.length : Int) == 0) = false := by
          have := hp.out
          simp; intro e; exact this e
        have hd2 : (((Lib.byteCells L).length : Int) == 0) = false := by simpa [Lib.byteCells] using hd
        clear hn0 i0 i1 i2 i3
        go_wp2_with (first
          | (go_at_call 97; refine (Tryz.Builder_Len_f _ _ _ _ hI).mono ?_; rintro e w' ⟨rfl, rfl⟩)
          | (go_at_call 56; refine (Tryz.Builder_String_any_f w.heap.size w.heap.size L _ hI (by omega)).mono ?_; rintro e w5 ⟨rfl, _, hb5⟩))
        go_ret2
        exact ⟨by rw [hs.out]; rfl, hb.trans hb5⟩
theorem sum_le {l : List Nat} {B : Nat} (h : ∀ p ∈ l, p ≤ B) : l.sum ≤ B * l.length := by
  induction l with
  | nil => simp
  | cons a t ih =>
    have h1 := h a (by simp)
    have h2 := ih (fun p hp => h p (by simp [hp]))
    simp only [List.sum_cons, List.length_cons, Nat.mul_succ]; omega
theorem sum_take_le (l : List Nat) (k : Nat) : (l.take k).sum ≤ l.sum := by
  conv => rhs; rw [← List.take_append_drop k l, List.sum_append]
  omega
theorem head_at {t : ByteArray} (h : 0 < t.size) : t.data.toList.head? = some t[0] := by
  rw [List.head?_eq_getElem?, List.getElem?_eq_getElem (by simpa using h)]; rfl
theorem atoi_pref {t : ByteArray} {d : Nat} (hd : dgs t.data.toList = d) (q0 : d ≠ 0) : Lib.atoi (t.extract 0 d).data.toList = some ((valD (t.data.toList.take d) : Nat) : Int) := by
  have e : (t.extract 0 d).data.toList = t.data.toList.take d := by simp [ByteArray.data_extract]
  rw [e]
  have h1 : t.data.toList.take d = t.data.toList.takeWhile isD := by rw [← hd]; exact dgs_take _
  refine atoi_all ?_ ?_
  · intro b hb; rw [h1] at hb; exact (List.all_eq_true.1 (List.all_takeWhile)) b hb
  · intro hn
    have := congrArg List.length hn
    rw [h1] at this
    have h2 : (t.data.toList.takeWhile isD).length = d := hd
    rw [h2] at this
    exact q0 (by simpa using this)
theorem findU_skip {k : Nat} {b : UInt8} (hk : k < 4) (h : ¬ sg k = b) : findU 4 k b = findU 4 (k + 1) b := by
  have h' : (sg k == b) = false := by simpa using h
  rcases k with _ | _ | _ | _ | k
  · simp [findU, h']
  · simp [findU, h']
  · simp [findU, h']
  · simp [findU, h']
  · omega
theorem get_at {t : ByteArray} {d : Nat} (h : d < t.size) : t.data.toList.getD d 0 = t[d] := by
  rw [List.getD_eq_getElem?_getD, List.getElem?_eq_getElem (by simpa using h)]; rfl
theorem Reads.made_one {w : World} {x : Value} {t : TypeId} {b : Nat} (h : b = w.heap.size) : Reads (w.alloc (.cells #[x] t)) (b + 1) 1 (some ⟨b, 0, none⟩) 1 [x] := by
  subst h; exact Reads.made w [x] t
theorem parse_step {nx u d V : Nat} {s : List UInt8} {t : ByteArray} {parts : List Nat} (hn : nx ≤ 4) (hne : t.data.toList ≠ []) (hb : badP t.data.toList = false) (hd : dgs t.data.toList = d) (hV : valD (t.data.toList.take d) = V)
    (hf : findU 4 nx (t.data.toList.getD d 0) = some u) (hsp : parseQ 0 s = (parseQ nx t.data.toList).map (parts.sum + ·)) :
    parseQ 0 s = (parseQ (u + 1) (t.extract (d + 1) t.size).data.toList).map ((parts ++ [V * tk u]).sum + ·) := by
  have e : (t.extract (d + 1) t.size).data.toList = t.data.toList.drop (d + 1) := by
    rw [ByteArray.data_extract, Array.toList_extract, List.extract_eq_take_drop, List.take_of_length_le (by simp)]
  rw [hsp, e, parseQ_yes hn hne hb (by rw [hd]; exact hf), hd, hV, Option.map_map]
  congr 1
  funext x
  simp [List.sum_append]; omega
theorem ints_snoc {parts : List Nat} {V k : Nat} : ints ((parts ++ [V * k]).map (fun (x : Nat) => (x : Int))) = ints (parts.map (fun (x : Nat) => (x : Int))) ++ ints [(V : Int) * (k : Int)] := by
  simp [ints]
set_option maxHeartbeats 4000000 in
theorem parse_any (s : ByteArray) (w : World) (hs : s.size ≤ maxLen) :
    Calls Tryz.prog 148 #[.string s] w fun e w' => e = .returned (.tuple #[.int .i64 (hrsN s.data.toList), .int .i64 (hrsE s.data.toList)]) ∧ Below w.heap.size w w' := by
  unfold maxLen at hs
  by_cases h0 : s.toList = []
  · have h1 : s.toList.isEmpty = true := by simpa using h0
    have e1 : hrsN s.data.toList = 0 := by unfold hrsN hrsV; rw [if_pos (by rw [← Lib.toList_data]; exact h0)]
    have e2 : hrsE s.data.toList = 60 := by unfold hrsE hrsV; rw [if_pos (by rw [← Lib.toList_data]; exact h0)]
    rw [e1, e2]
    clear h0 e1 e2
    go_enter Tryz.func148, Tryz.ntmps148
    go_wp2
    go_step3
    go_wp2_with (fail)
    rw [Exit.noGoto_ret]
    go_ret2
    exact ⟨rfl, Below.refl _ _⟩
  · have h1 : s.toList.isEmpty = false := by simpa using h0
    go_enter Tryz.func148, Tryz.ntmps148
    go_wp2
    go_step3
    go_wp2_with (go_at_call 96; refine (units_any _).mono ?_; rintro e w1 ⟨rfl, hb1⟩; unfold unitsV)
    go_step3
    go_wp2
    obtain ⟨W1, HW1⟩ : ∃ W1 : World, Hid (W1 = w1.alloc (.cells #[.int .u8 100, .int .i64 86400, .int .u8 104, .int .i64 3600, .int .u8 109, .int .i64 60, .int .u8 115, .int .i64 1] 140)) := ⟨_, rfl⟩
    rw [← HW1.out]
    have hz1 : W1.heap.size = w1.heap.size + 1 := by rw [HW1.out]; simp
    have bW : Below w.heap.size w W1 := by rw [HW1.out]; exact hb1.alloc hb1.size _
    have hww := hb1.size
    go_loopg [0, 5, 6] s.size (fun g a b c wr => ∃ (t : ByteArray) (nx : Nat) (parts : List Nat), a = .string t ∧ b = .int .i64 nx ∧ nx ≤ 4 ∧ t.size ≤ g ∧ t.size ≤ s.size ∧ Owns wr (w1.heap.size + 1) 3 1 c parts.length (ints (parts.map (fun (x : Nat) => (x : Int)))) ∧ parts.length ≤ nx ∧ Hid (∀ p ∈ parts, p ≤ 863999913600) ∧ Hid (parseQ 0 s.data.toList = (parseQ nx t.data.toList).map (parts.sum + ·)) ∧ Below (w1.heap.size + 1) W1 wr)
    case atStart => exact ⟨s, 0, [], rfl, rfl, by omega, Nat.le_refl _, Nat.le_refl _, Owns.nil, Nat.zero_le _, (fun p hp => by cases hp), by show parseQ 0 _ = _; cases parseQ 0 s.data.toList <;> simp, Below.refl _ _⟩
    case round =>
      obtain ⟨t, nx, parts, rfl, rfl, hnx, htg, hts, ho, hpn, hpb, hsp, hb⟩ := hrel
      have hz := hb.size
      obtain ⟨A6, c6, rfl, hc6, _⟩ := ho.slice
      have hTL : Hid (t.toList = t.data.toList) := Lib.toList_data t
      by_cases ht : t.toList = []
      · have h2 : t.toList.isEmpty = true := by simpa using ht
        have hte : Hid (t.data.toList = []) := by show _ = _; rw [← hTL.out]; exact ht
        have hres : Hid (hrsV s.data.toList = some parts.sum) := by
          show hrsV _ = _
          unfold hrsV
          rw [if_neg (by rw [← Lib.toList_data]; exact h0)]
          have := hsp.out
          rw [hte.out] at this
          exact this.trans (by unfold parseQ; rw [parse_nil]; simp)
        have hsum : parts.sum ≤ 863999913600 * parts.length := sum_le hpb.out
        have hrd := ho.reads
        clear ht
        go_wp2
        go_loop [12, 93] (fun a b => ∃ k : Nat, k ≤ parts.length ∧ b = .int .i64 k ∧ a = .int .i64 ((parts.take k).sum : Nat)) (fun _ b => parts.length - (intOf b).toNat)
        case atStart => exact ⟨0, Nat.zero_le _, rfl, rfl⟩
        case round =>
          obtain ⟨k, hk, rfl, rfl⟩ := hrel
          by_cases hlt : k < parts.length
          · obtain ⟨ad, x, rfl, had, hx, hcell⟩ := hrd.int_at hlt
            have hxk : ∃ q : Nat, Hid (parts[k]? = some q) ∧ x = (q : Int) := by
              have h := hx.out
              simp only [List.getElem?_map, Option.map_eq_some_iff] at h
              obtain ⟨q, h1, h2⟩ := h
              exact ⟨q, h1, h2.symm⟩
            obtain ⟨q, hq, rfl⟩ := hxk
            have hts : Hid ((parts.take (k + 1)).sum = (parts.take k).sum + q) := by
              show _ = _
              rw [List.take_add_one, hq.out]; simp
            have hle : (parts.take k).sum + q ≤ 863999913600 * 4 := by
              rw [← hts.out]; exact Nat.le_trans (sum_take_le parts _) (Nat.le_trans hsum (by omega))
            obtain ⟨T, hT⟩ : ∃ T, Hid ((parts.take k).sum = T) := ⟨_, rfl⟩
            rw [hT.out] at hle hts ⊢
            clear hrd
            go_wp2
            go_round
            case rel => exact ⟨k + 1, by omega, by go_num, by rw [hts.out]; go_num⟩
            case measure => simp [intOf]; omega
          · have hkl : Hid ((parts.take k).sum = parts.sum) := by show _ = _; rw [List.take_of_length_le (by omega)]
            rw [hkl.out]
            clear hrd
            by_cases hbig : parts.sum ≤ 1000000
            · have k1 : ((parts.sum : Int) != clamp (parts.sum : Int) 0 1000000) = false := by rw [clamp_in (by omega) (by omega)]; simp
              go_wp2_with (go_at_call 95; refine (time_any _ _).mono ?_; rintro e w' ⟨rfl, rfl⟩)
              rw [Exit.noGoto_ret]
              go_ret2
              have e1 : hrsN s.data.toList = (parts.sum : Int) := by unfold hrsN; rw [hres.out]; simp [hbig]
              have e2 : hrsE s.data.toList = 0 := by unfold hrsE; rw [hres.out]; simp [hbig]
              exact ⟨ret_v (by rw [e1, e2]; rfl), bW.trans (hb.mono (by omega))⟩
            · have k1 : ((parts.sum : Int) != clamp (parts.sum : Int) 0 1000000) = true := by rw [clamp_hi (by omega) (by omega)]; simp; omega
              go_wp2_with (go_at_call 95; refine (time_any _ _).mono ?_; rintro e w' ⟨rfl, rfl⟩)
              rw [Exit.noGoto_ret]
              go_ret2
              have e1 : hrsN s.data.toList = 0 := by unfold hrsN; rw [hres.out]; simp [hbig]
              have e2 : hrsE s.data.toList = 153 := by unfold hrsE; rw [hres.out]; simp [hbig]
              exact ⟨ret_v (by rw [e1, e2]; rfl), bW.trans (hb.mono (by omega))⟩
      · have h2 : t.toList.isEmpty = false := by simpa using ht
        have hne : Hid (t.data.toList ≠ []) := by show _ ≠ _; rw [← hTL.out]; exact ht
        clear ht
        obtain ⟨d, hd⟩ : ∃ d, Hid (dgs t.data.toList = d) := ⟨_, rfl⟩
        have hdl : d ≤ t.size := by rw [← hd.out]; exact dgs_le _
        go_upto_block 2 with (fail)
        go_cut [7] (fun a wx => a = .int .i64 d ∧ wx = wr)
        case first =>
          go_wp2_with (fail)
          go_loop [7] (fun a => ∃ k : Nat, k ≤ d ∧ a = .int .i64 k) (fun a => d - (intOf a).toNat)
          case atStart => exact ⟨0, Nat.zero_le _, rfl⟩
          case round =>
            obtain ⟨k, hk, rfl⟩ := hrel
            by_cases hkd : k < d
            · have hks : k < t.size := by omega
              have hb8 : isD t[k] = true := dgs_at (l := t.data.toList) (k := k) (by rw [hd.out]; exact hkd) (List.getElem?_eq_getElem (by simpa using hks))
              unfold isD at hb8
              simp only [Bool.and_eq_true, decide_eq_true_eq] at hb8
              obtain ⟨g1, g2⟩ := hb8
              go_wp2
              go_round
              case rel => exact ⟨k + 1, by omega, by go_num⟩
              case measure => simp [intOf]; omega
            · obtain rfl : k = d := by omega
              by_cases hks : k < t.size
              · have hb8 : isD t[k] = false := dgs_stop (l := t.data.toList) (by rw [hd.out]; exact List.getElem?_eq_getElem (by simpa using hks))
                unfold isD at hb8
                by_cases g1 : 48 ≤ t[k].toNat
                · have g2 : ¬ t[k].toNat ≤ 57 := by simpa [g1] using hb8
                  go_wp2_with (fail)
                  go_meet
                  exact ⟨rfl, rfl⟩
                · go_wp2_with (fail)
                  go_meet
                  exact ⟨rfl, rfl⟩
              · go_wp2_with (fail)
                go_meet
                exact ⟨rfl, rfl⟩
        case rest =>
          obtain ⟨rfl, hwc⟩ := hcut
          subst hwc
          by_cases hbad : badP t.data.toList = true
          · have hres : Hid (hrsV s.data.toList = none) := by
              show hrsV _ = _
              unfold hrsV
              rw [if_neg (by rw [← Lib.toList_data]; exact h0)]
              exact hsp.out.trans (by rw [parseQ_bad hnx hne.out hbad]; rfl)
            have e1 : hrsN s.data.toList = 0 := by unfold hrsN; rw [hres.out]
            have e2 : hrsE s.data.toList = 60 := by unfold hrsE; rw [hres.out]
            have hcs : d = 0 ∨ (d ≠ 0 ∧ 7 < d) ∨ (d ≠ 0 ∧ ¬ 7 < d ∧ 1 < d ∧ ∃ h : 0 < t.size, t[0].toNat = 48) ∨ (d ≠ 0 ∧ ¬ 7 < d ∧ 1 < d ∧ (∃ h : 0 < t.size, ¬ t[0].toNat = 48) ∧ d = t.size) ∨ (d ≠ 0 ∧ ¬ 7 < d ∧ ¬ 1 < d ∧ d = t.size) := by
              have hb2 := hbad
              unfold badP at hb2
              rw [hd.out] at hb2
              simp only [Bool.or_eq_true, Bool.and_eq_true, decide_eq_true_eq, beq_iff_eq] at hb2
              by_cases q0 : d = 0
              · exact .inl q0
              · have hsz : 0 < t.size := by omega
                have hh := head_at hsz
                have hln : t.data.toList.length = t.size := by simp
                rw [hh, hln, Option.some.injEq] at hb2
                by_cases q1 : 7 < d
                · exact .inr (.inl ⟨q0, q1⟩)
                · by_cases q2 : 1 < d
                  · by_cases q3 : t[0].toNat = 48
                    · exact .inr (.inr (.inl ⟨q0, q1, q2, hsz, q3⟩))
                    · refine .inr (.inr (.inr (.inl ⟨q0, q1, q2, ⟨hsz, q3⟩, ?_⟩)))
                      rcases hb2 with ((h | h) | h) | h
                      · exact absurd h q0
                      · exact absurd h q1
                      · exact absurd (by rw [h.2]; rfl) q3
                      · exact h
                  · refine .inr (.inr (.inr (.inr ⟨q0, q1, q2, ?_⟩)))
                    rcases hb2 with ((h | h) | h) | h
                    · exact absurd h q0
                    · exact absurd h q1
                    · exact absurd h.1 q2
                    · exact h
            have bE := bW.trans (hb.mono (by omega))
            clear hbad hsp hpb ho hd
            rcases hcs with q0 | ⟨q0, q1⟩ | ⟨q0, q1, q2, hsz, q3⟩ | ⟨q0, q1, q2, ⟨hsz, q3⟩, q4⟩ | ⟨q0, q1, q2, q4⟩
            all_goals go_wp2_with (fail)
            all_goals (try rw [Exit.noGoto_ret])
            all_goals go_ret2
            all_goals exact ⟨ret_v (by rw [e1, e2]; rfl), bE⟩
          · have hsz : 0 < t.size := by
              rcases Nat.eq_zero_or_pos t.size with h | h
              · exact absurd (List.eq_nil_of_length_eq_zero (by simpa using h)) hne.out
              · exact h
            have hgd : d ≠ 0 ∧ ¬ 7 < d ∧ (1 < d → ¬ t[0].toNat = 48) ∧ d ≠ t.size := by
              have hb2 := hbad
              unfold badP at hb2
              have hh := head_at hsz
              have hln : t.data.toList.length = t.size := by simp
              rw [hd.out, hh, hln] at hb2
              simp only [Bool.or_eq_true, Bool.and_eq_true, decide_eq_true_eq, beq_iff_eq, not_or, not_and, Option.some.injEq] at hb2
              refine ⟨hb2.1.1.1, hb2.1.1.2, fun q h => hb2.1.2 q ?_, hb2.2⟩
              exact UInt8.toNat_inj.1 h
            obtain ⟨q0, q1, q2, q4⟩ := hgd
            go_upto_region 10 with (fail)
            go_cut [58] (fun a wx => a = .bool false ∧ wx = wc)
            case first =>
              by_cases q3 : 1 < d
              · have q5 := q2 q3
                go_wp2_with (fail)
                go_meet
                exact ⟨by first | rfl | (simp; omega), rfl⟩
              · go_wp2_with (fail)
                go_meet
                exact ⟨by first | rfl | (simp; omega), rfl⟩
            case rest =>
              obtain ⟨rfl, hwc⟩ := hcut
              subst hwc
              have q5 : d < t.size := by omega
              have hA := atoi_pref hd.out q0
              obtain ⟨V, hV⟩ : ∃ V, Hid (valD (t.data.toList.take d) = V) := ⟨_, rfl⟩
              rw [hV.out] at hA
              have hl18 : (t.extract 0 d).size ≤ 18 := by simp [ByteArray.size_extract]; omega
              clear q2
              go_upto_block 4 with (go_at_call 160; refine (Tryz.strconv_Atoi _ _ hl18 hA _).mono ?_; rintro e w2 ⟨rfl, hw2⟩)
              have b2 : Below wc.heap.size wc w2 := by
                obtain ⟨x, rfl⟩ := hw2
                exact Lib.bytesWorld_below _ _ _
              have hz2 := b2.size
              have ho2 := ho.below b2
              have hb2 : Below (w1.heap.size + 1) W1 w2 := hb.trans (b2.mono (by omega))
              obtain ⟨b, hbv⟩ : ∃ b : UInt8, Hid (t[d] = b) := ⟨t[d], Lib.hid rfl⟩
              rw [hbv.out]
              go_wp2
              obtain ⟨gO, hgO⟩ : ∃ gO : Nat, Hid (gO = gk) := ⟨_, rfl⟩
              go_loopg [5, 6] 4 (fun g a c wr => ∃ m : Nat, a = .int .i64 m ∧ c = .slice A6 parts.length c6 ∧ nx ≤ m ∧ m ≤ 4 ∧ 4 - m ≤ g ∧ Hid (findU 4 nx b = findU 4 m b) ∧ Below w2.heap.size w2 wr)
              case atStart => exact ⟨nx, rfl, rfl, Nat.le_refl _, hnx, by omega, rfl, Below.refl _ _⟩
              case round =>
                obtain ⟨m, rfl, rfl, hm1, hm2, hmg, hfu, hbr⟩ := hrel
                have hzr := hbr.size
                by_cases hm4 : m < 4
                · have hU : wr.heap[w1.heap.size]? = some (.cells #[.int .u8 100, .int .i64 86400, .int .u8 104, .int .i64 3600, .int .u8 109, .int .i64 60, .int .u8 115, .int .i64 1] 140) := by
                    rw [hbr.block _ (by omega), hb2.block _ (by omega), HW1.out]
                    exact heap_alloc_new _ _
                  have c0 : wr.cell? ⟨w1.heap.size, m * 2, none⟩ = some (.int .u8 (sg m).toNat) := by
                    rw [Lib.cell_of_heap hU]
                    rcases m with _ | _ | _ | _ | m
                    · rfl
                    · rfl
                    · rfl
                    · rfl
                    · omega
                  have c1 : wr.cell? ⟨w1.heap.size, m * 2 + 1, none⟩ = some (.int .i64 (tk m)) := by
                    rw [Lib.cell_of_heap hU]
                    rcases m with _ | _ | _ | _ | m
                    · rfl
                    · rfl
                    · rfl
                    · rfl
                    · omega
                  clear hU
                  by_cases hsg : sg m = b
                  · have he8 : (sg m).toNat = b.toNat := by rw [hsg]
                    have hfs : Hid (findU 4 nx b = some m) := by
                      show _ = _
                      rw [hfu.out]
                      unfold findU
                      rw [if_pos hm4, if_pos (by simpa using hsg)]
                    have ho3 := ho2.below hbr
                    have hVb : V < 10000000 := by
                      have h1 := valD_lt (l := t.data.toList.takeWhile isD) (fun b hb => (List.all_eq_true.1 (List.all_takeWhile)) b hb) 0
                      have h2 : (t.data.toList.takeWhile isD).length = d := hd.out
                      have h3 : t.data.toList.take d = t.data.toList.takeWhile isD := by rw [← hd.out]; exact dgs_take _
                      rw [← h3] at h1
                      have h4 : valD (t.data.toList.take d) < (0 + 1) * 10 ^ (t.data.toList.take d).length := h1
                      rw [hV.out, h3, h2] at h4
                      have h5 : 10 ^ d ≤ 10 ^ 7 := Nat.pow_le_pow_right (by omega) (by omega)
                      omega
                    have htk : tk m ≤ 86400 := by
                      rcases m with _ | _ | _ | _ | m
                      · decide
                      · decide
                      · decide
                      · decide
                      · omega
                    have hprod : V * tk m ≤ 863999913600 := by
                      have := Nat.mul_le_mul (show V ≤ 9999999 by omega) htk
                      omega
                    go_upto_region 19 with (fail)
                    have b3 : Below (w1.heap.size + 1) W1 wr := hb2.trans (hbr.mono (by omega))
                    go_wp2_with (at_builtin; refine wp_app (news := ints [((V : Int) * (tk m : Int))]) (n := parts.length) (m := 1) rfl rfl Tryz.underlying151 Tryz.info_int rfl (by omega) (w1.heap.size + 1) rfl ((ho3.alloc _).alloc _) rfl (Reads.made_one (by simp)) (ints_one _) ?_ ?_ ?_ ?_; rotate_left 3; intro v4 w4 o4 k4 _)
                    · go_roundg (gO - 1)
                      case measure => have hq_ := hgO.out; omega
                      case rel =>
                        have hbf : badP t.data.toList = false := by simpa using hbad
                        have hst := parse_step hnx hne.out hbf hd.out hV.out (by rw [get_at q5, hbv.out]; exact hfs.out) hsp.out
                        refine ⟨t.extract (d + 1) t.size, m + 1, parts ++ [V * tk m], rfl, by go_num, by omega, ?_, ?_, ?_, ?_, ?_, Lib.hid hst, ?_⟩
                        · rw [hgO.out]; simp [ByteArray.size_extract]; omega
                        · simp [ByteArray.size_extract]; omega
                        · rw [ints_snoc, List.length_append]; exact o4
                        · simp; omega
                        · show ∀ p ∈ parts ++ [V * tk m], p ≤ 863999913600
                          intro p hp
                          rcases List.mem_append.1 hp with h | h
                          · exact hpb.out p h
                          · rw [List.mem_singleton] at h; rw [h]; exact hprod
                        · exact k4.below ((b3.alloc (by omega) _).alloc (by simp; omega) _) (Nat.le_refl _) (by simp; omega)
                    · unfold maxLen; omega
                    · omega
                    · simp; omega
                  · have hne8 : ¬ (sg m).toNat = b.toNat := fun h => hsg (UInt8.toNat_inj.1 h)
                    go_wp2_with (fail)
                    go_roundg (gk - 1)
                    case measure => omega
                    case rel => exact ⟨m + 1, by go_num, rfl, by omega, by omega, by omega, hfu.out.trans (findU_skip hm4 hsg), hbr.alloc (Nat.le_trans hzr (Nat.le_refl _)) _⟩
                · obtain rfl : m = 4 := by omega
                  have hres : Hid (hrsV s.data.toList = none) := by
                    show hrsV _ = _
                    unfold hrsV
                    rw [if_neg (by rw [← Lib.toList_data]; exact h0)]
                    have hno : findU 4 nx (t.data.toList.getD (dgs t.data.toList) 0) = none := by rw [hd.out, get_at q5, hbv.out, hfu.out]; rfl
                    exact hsp.out.trans (by rw [parseQ_no hnx hne.out hno]; rfl)
                  have e1 : hrsN s.data.toList = 0 := by unfold hrsN; rw [hres.out]
                  have e2 : hrsE s.data.toList = 60 := by unfold hrsE; rw [hres.out]
                  have bE : Below w.heap.size w wr := bW.trans ((hb2.mono (by omega)).trans (hbr.mono (by omega)))
                  clear hsp hpb ho ho2 hd hres
                  go_wp2_with (fail)
                  try rw [Exit.noGoto_ret]
                  go_ret2
                  exact ⟨ret_v (by rw [e1, e2]; rfl), bE⟩
theorem ticks_any (k : Nat) (w : World) (hk : k < 4) : Calls Tryz.prog 103 #[.int .u8 (sg k).toNat] w fun e w' => e = .returned (.tuple #[.int .i64 (tk k), .int .i64 (k + 1 : Nat)]) ∧ w = w' := by
  rcases (show k = 0 ∨ k = 1 ∨ k = 2 ∨ k = 3 by omega) with rfl | rfl | rfl | rfl
  all_goals
    go_enter Tryz.func103, Tryz.ntmps103
    simp only [sg]
    go_wp2
    go_ret2
    exact ⟨rfl, rfl⟩
theorem conv_one (w : World) (x : Int) (n : UInt8) (b cap : Nat) (hb : b = w.heap.size) (h : x = (n.toNat : Int)) : (convert 85 9 (.slice (some ⟨b, 0, none⟩) 1 cap)).run Tryz.prog (w.alloc (.cells #[.int .u8 x] 5)) = .ok (.string ⟨#[n]⟩) (w.alloc (.cells #[.int .u8 x] 5)) := by
  subst hb h
  exact str_of_reads (l := [n]) (Reads.made_one rfl)
theorem conv_cell {w : World} {x : Int} {n : UInt8} {b cap : Nat} (h : x = (n.toNat : Int)) (hc : w.cell? ⟨b, 0, none⟩ = some (.int .u8 x)) : (convert 85 9 (.slice (some ⟨b, 0, none⟩) 1 cap)).run Tryz.prog w = .ok (.string ⟨#[n]⟩) w := by
  subst h
  refine str_of_reads (B := b + 1) (l := [n]) ⟨rfl, fun _ => ⟨_, rfl, by simp, fun j u hu => ?_⟩⟩
  rcases j with _ | j
  · obtain rfl : Value.int .u8 n.toNat = u := by simpa [Lib.byteCells] using hu
    exact hc
  · simp [Lib.byteCells] at hu
theorem byte_of {n : Nat} (h : n < 256) : ∃ b : UInt8, Hid (UInt8.ofNat n = b) ∧ b.toNat = n := ⟨_, rfl, by rw [UInt8.toNat_ofNat', Nat.mod_eq_of_lt h]⟩
set_option maxRecDepth 10000 in
theorem digits06_lt (n : Nat) (w : World) (hn : n < 10) : Calls Tryz.prog 104 #[.int .i64 n] w fun e w' => e = .returned (.string ⟨(Lib.decDigits n).toArray⟩) ∧ Below w.heap.size w w' := by
  have H := Lib.hid (dd_lt hn)
  obtain ⟨b, h1, h2⟩ := byte_of (n := 48 + n) (by omega)
  have hc := conv_one w (48 + (n : Int)) b _ 1 rfl (by omega)
  clear h2
  go_enter Tryz.func104, Tryz.ntmps104
  go_wp2_with fail
  go_ret
  exact ⟨by rw [H.out, h1.out]; rfl, (Below.refl _ _).alloc (Nat.le_refl _) _⟩
set_option maxRecDepth 10000 in
theorem digits06_any (n : Nat) (w : World) (hn : n < 100) : Calls Tryz.prog 104 #[.int .i64 n] w fun e w' => e = .returned (.string ⟨(Lib.decDigits n).toArray⟩) ∧ Below w.heap.size w w' := by
  by_cases h : n < 10
  · exact digits06_lt n w h
  · have H := Lib.hid (dd_ge h)
    obtain ⟨q, hq⟩ : ∃ q, Hid (n / 10 = q) := ⟨_, rfl⟩
    obtain ⟨r, hr⟩ : ∃ r, Hid (n % 10 = r) := ⟨_, rfl⟩
    have hq1 : q < 10 := by have := hq.out; omega
    have hr1 : r < 10 := by have := hr.out; omega
    have k1 : IntKind.i64.wrap ((n : Int) / 10) = (q : Int) := by rw [IntWalk.i64_in _ (by omega)]; have := hq.out; omega
    have k2 : (n : Int).tmod 10 = (r : Int) := by rw [Int.tmod_eq_emod_of_nonneg (by omega)]; have := hr.out; omega
    have k3 : IntKind.i64.wrap (48 + (r : Int)) = 48 + (r : Int) := IntWalk.i64_in _ (by omega)
    have k4 : IntKind.u8.wrap (48 + (r : Int)) = 48 + (r : Int) := IntWalk.u8_in _ (by omega)
    obtain ⟨b, h1, h2⟩ := byte_of (n := 48 + r) (by omega)
    have hc := fun (W : World) (g : Nat) => conv_cell (w := W) (b := g) (cap := 1) (x := 48 + (r : Int)) (n := b) (by omega)
    obtain ⟨c, h3, _⟩ := byte_of (n := 48 + q) (by omega)
    have H2 := Lib.hid (dd_lt hq1)
    have HF : Hid (Lib.decDigits n = [c, b]) := by show _ = _; rw [H.out, hq.out, hr.out, H2.out, h3.out, h1.out]; rfl
    clear h2
    go_enter Tryz.func104, Tryz.ntmps104
    go_wp2_with fail
    go_region_with (go_at_call 104; refine (digits06_lt q _ hq1).mono ?_; rintro e w1 ⟨rfl, hb1⟩; rw [H2.out, h3.out]; have hcc := fun b o h => hb1.cell (p := ⟨b, o, none⟩) h)
    all_goals
      go_wp2_with fail
      go_ret
      refine ⟨by rw [HF.out]; rfl, ?_⟩
      have hz1 := hb1.size
      (try simp only [World.size_alloc, World.size_drew] at hz1)
      first
      | exact ((below_drew (Below.refl _ _)).trans (hb1.mono (by simp))).alloc (by omega) _
      | exact (below_drew ((Below.refl _ _).alloc (Nat.le_refl _) _)).trans (hb1.mono (by simp))
theorem show06_zero (w : World) :
    Calls Tryz.prog 59 #[.int .i64 0] w fun e w' => e = .returned (.tuple #[.string ⟨#[48, 115]⟩, .int .i64 0]) ∧ w = w' := by
  go_enter Tryz.func59, Tryz.ntmps59
  go_wp2
  go_ret2
  exact ⟨rfl, rfl⟩
theorem ba_of (l : List UInt8) : ∃ b : ByteArray, Hid (b.data.toList = l) ∧ Hid (⟨l.toArray⟩ = b) ∧ b.size = l.length := ⟨⟨l.toArray⟩, (by show _ = _; simp), rfl, by simp [ByteArray.size]⟩
theorem ba_ext6 {a b : ByteArray} (h : a.data.toList = b.data.toList) : a = b := by
  cases a; cases b; simp only [ByteArray.mk.injEq]; exact Array.toList_inj.1 h
theorem out_step {O D T : ByteArray} {k N c : Nat} (h1 : O.data.toList = pts k N) (h2 : D.data.toList = Lib.decDigits c) (h3 : T.data.toList = [sg k]) (hc : ct k N = c) (hp : 0 < c) : (O ++ D ++ T).data.toList = pts (k + 1) N := by
  have e : (O ++ D ++ T).data.toList = O.data.toList ++ D.data.toList ++ T.data.toList := by simp
  rw [e, h1, h2, h3]
  simp only [pts, pt]
  rw [hc, if_pos hp]; simp
theorem div_of {R t c r : Nat} (ht : 0 < t) (h : c * t + r = R) (hr : r < t) : R / t = c ∧ R % t = r := by
  refine (Nat.div_mod_unique ht).2 ⟨?_, hr⟩
  rw [← h, Nat.mul_comm]; omega
theorem step_of {R t c r : Nat} (h : c * t + r = R) (hr : t ≤ r) : (c + 1) * t + (r - t) = R := by
  rw [Nat.succ_mul]; omega
theorem cnt_le {R t c r : Nat} (ht : 0 < t) (h : c * t + r = R) : c ≤ R := by
  have := Nat.le_mul_of_pos_right c ht; omega
theorem out_same {k N : Nat} (hc : ct k N = 0) : pts (k + 1) N = pts k N := by
  simp only [pts, pt]; rw [hc]; simp
theorem digits06_at (c : Nat) (D : ByteArray) (w : World) (hc : c < 100) (hD : ⟨(Lib.decDigits c).toArray⟩ = D) : Calls Tryz.prog 104 #[.int .i64 c] w fun e w' => e = .returned (.string D) ∧ Below w.heap.size w w' := by
  subst hD; exact digits06_any c w hc
def Sh06 (w : World) (N : Nat) (a b c : Value) (wr : World) : Prop := ∃ (k R : Nat) (O : ByteArray), k ≤ 4 ∧ a = .int .i64 R ∧ R ≤ 1000000 ∧ b = .string O ∧ c = .int .i64 k ∧ Hid (rm k N = R) ∧ Hid (O.data.toList = pts k N) ∧ O.size ≤ 3 * k ∧ Below w.heap.size w wr
set_option maxRecDepth 10000 in
set_option maxHeartbeats 2000000 in
theorem show06_ok (N : Nat) (w : World) (h : N ≤ 1000000) (h0 : 0 < N) :
    Calls Tryz.prog 59 #[.int .i64 N] w fun e w' => e = .returned (.tuple #[.string ⟨(pts 4 N).toArray⟩, .int .i64 0]) ∧ Below w.heap.size w w' := by
  have z1 : ((N : Int) == 0) = false := by simp; omega
  have z2 : decide ((N : Int) < 0) = false := by simp
  have z3 : decide (1000000 < (N : Int)) = false := by simp; omega
  go_enter Tryz.func59, Tryz.ntmps59
  go_wp2_with fail
  go_loopw [0, 4, 6] (Sh06 w N) (fun _ _ c _ => 4 - (intOf c).toNat)
  case atStart => exact ⟨0, N, ⟨#[]⟩, by omega, rfl, h, rfl, rfl, rfl, rfl, by simp [ByteArray.size], Below.refl _ _⟩
  case round =>
    obtain ⟨k, R, O, hk, rfl, hR, rfl, rfl, hrm, hO, hOs, hb⟩ := hrel
    by_cases hlt : k < 4
    · rcases (show k = 0 ∨ k = 1 ∨ k = 2 ∨ k = 3 by omega) with rfl | rfl | rfl | rfl
      · simp only [Int.natCast_zero]
        obtain ⟨t, ht⟩ : ∃ t, Hid (tk 0 = t) := ⟨_, rfl⟩
        have ht1 : 0 < t := by rw [← ht.out]; decide
        have ht2 : t ≤ 100000 := by rw [← ht.out]; decide
        go_wp2_with (go_at_call 103; refine (ticks_any 0 _ (by omega)).mono ?_; rintro e w' ⟨rfl, rfl⟩; rw [ht.out])
        go_loop [0, 9] (fun a b => ∃ c r : Nat, b = .int .i64 c ∧ a = .int .i64 r ∧ r ≤ R ∧ c ≤ R ∧ Hid (c * t + r = R)) (fun a _ => (intOf a).toNat)
        case atStart => exact ⟨0, R, rfl, rfl, Nat.le_refl _, Nat.zero_le _, (by show _ = _; omega)⟩
        case round =>
          obtain ⟨c, r, rfl, rfl, hr1, hc1, HC⟩ := hrel
          by_cases hge : t ≤ r
          · have HC2 := Lib.hid (step_of HC.out hge)
            have hc3 := cnt_le ht1 HC2.out
            go_wp2_with fail
            go_round
            case rel => exact ⟨c + 1, r - t, by go_num, by go_num, by omega, hc3, HC2⟩
            case measure => simp [intOf]; omega
          · obtain ⟨hd1, hd2⟩ := div_of ht1 HC.out (by omega)
            have hct : Hid (ct 0 N = c) := by show rm 0 N / tk 0 = c; rw [hrm.out, ht.out]; exact hd1
            have hrm2 : Hid (rm 1 N = r) := by show rm 0 N % tk 0 = r; rw [hrm.out, ht.out]; exact hd2
            have hr2 : r ≤ 1000000 := by omega
            have hc2 : c < 100 := by rw [← hct.out]; exact ct_lt h 0 (by omega)
            have hOs2 : O.size ≤ 3 * 1 := by omega
            have h4 : 1 ≤ 4 := by omega
            clear hd1 hd2
            by_cases hc0 : c = 0
            · subst hc0
              have hO2 : Hid (O.data.toList = pts 1 N) := by show _ = _; rw [hO.out]; exact (out_same hct.out).symm
              simp only [Int.natCast_zero]
              go_wp2_with fail
              go_roundw
              case rel => exact ⟨1, r, O, h4, rfl, hr2, rfl, rfl, hrm2, hO2, hOs2, hb⟩
              case measure => simp [intOf]
            · have hc3 : 0 < c := by omega
              obtain ⟨D, hD1, hD2, hD3⟩ := ba_of (Lib.decDigits c)
              have hD4 : D.size ≤ 2 := by rw [hD3]; exact decDigits_len hc2
              have HO := fun T h3 => out_step hO.out hD1.out (T := T) h3 hct.out hc3
              have HO2 := Lib.hid HO
              have k1 : IntKind.i64.wrap 1 = 1 := by decide
              clear HO hD3 hc0
              go_wp2_with fail
              refine wp_region_later (by kernel_rfl) (by kernel_rfl) ?_
              have hl_ := later_cell (wr)
              repeat (first | go_big_quiet_step (((go_at_call 104; exact later_of (digits06_at c D _ hc2 hD2.out)))) | quiet_step (((go_at_call 104; exact later_of (digits06_at c D _ hc2 hD2.out)))))
              refine wpQuiet_nil ?_
              intro w9 hx_
              obtain ⟨⟨w_, hb9⟩, e_⟩ := hx_
              have e2_ : w9 = w_ := e_
              clear e_
              subst e2_
              clear hl_
              go_wp2_with fail
              go_roundw
              case rel =>
                have hO3 := HO2.out ((⟨#[100, 104, 109, 115]⟩ : ByteArray).extract 0 1) (by decide)
                have hs3 : (O ++ D ++ (⟨#[100, 104, 109, 115]⟩ : ByteArray).extract 0 1).size ≤ 3 * 1 := by
                  have e : ((⟨#[100, 104, 109, 115]⟩ : ByteArray).extract 0 1).size = 1 := by decide
                  rw [ByteArray.size_append, ByteArray.size_append, e]; omega
                exact ⟨1, r, _, h4, rfl, hr2, rfl, rfl, hrm2, Lib.hid hO3, hs3, bt hb hb9⟩
              case measure => simp [intOf]
      · rw [show ((1 : Nat) : Int) = 1 from rfl]
        obtain ⟨t, ht⟩ : ∃ t, Hid (tk 1 = t) := ⟨_, rfl⟩
        have ht1 : 0 < t := by rw [← ht.out]; decide
        have ht2 : t ≤ 100000 := by rw [← ht.out]; decide
        go_wp2_with (go_at_call 103; refine (ticks_any 1 _ (by omega)).mono ?_; rintro e w' ⟨rfl, rfl⟩; rw [ht.out])
        go_loop [0, 9] (fun a b => ∃ c r : Nat, b = .int .i64 c ∧ a = .int .i64 r ∧ r ≤ R ∧ c ≤ R ∧ Hid (c * t + r = R)) (fun a _ => (intOf a).toNat)
        case atStart => exact ⟨0, R, rfl, rfl, Nat.le_refl _, Nat.zero_le _, (by show _ = _; omega)⟩
        case round =>
          obtain ⟨c, r, rfl, rfl, hr1, hc1, HC⟩ := hrel
          by_cases hge : t ≤ r
          · have HC2 := Lib.hid (step_of HC.out hge)
            have hc3 := cnt_le ht1 HC2.out
            go_wp2_with fail
            go_round
            case rel => exact ⟨c + 1, r - t, by go_num, by go_num, by omega, hc3, HC2⟩
            case measure => simp [intOf]; omega
          · obtain ⟨hd1, hd2⟩ := div_of ht1 HC.out (by omega)
            have hct : Hid (ct 1 N = c) := by show rm 1 N / tk 1 = c; rw [hrm.out, ht.out]; exact hd1
            have hrm2 : Hid (rm 2 N = r) := by show rm 1 N % tk 1 = r; rw [hrm.out, ht.out]; exact hd2
            have hr2 : r ≤ 1000000 := by omega
            have hc2 : c < 100 := by rw [← hct.out]; exact ct_lt h 1 (by omega)
            have hOs2 : O.size ≤ 3 * 2 := by omega
            have h4 : 2 ≤ 4 := by omega
            clear hd1 hd2
            by_cases hc0 : c = 0
            · subst hc0
              have hO2 : Hid (O.data.toList = pts 2 N) := by show _ = _; rw [hO.out]; exact (out_same hct.out).symm
              simp only [Int.natCast_zero]
              go_wp2_with fail
              go_roundw
              case rel => exact ⟨2, r, O, h4, rfl, hr2, rfl, rfl, hrm2, hO2, hOs2, hb⟩
              case measure => simp [intOf]
            · have hc3 : 0 < c := by omega
              obtain ⟨D, hD1, hD2, hD3⟩ := ba_of (Lib.decDigits c)
              have hD4 : D.size ≤ 2 := by rw [hD3]; exact decDigits_len hc2
              have HO := fun T h3 => out_step hO.out hD1.out (T := T) h3 hct.out hc3
              have HO2 := Lib.hid HO
              have k1 : IntKind.i64.wrap 2 = 2 := by decide
              clear HO hD3 hc0
              go_wp2_with fail
              refine wp_region_later (by kernel_rfl) (by kernel_rfl) ?_
              have hl_ := later_cell (wr)
              repeat (first | go_big_quiet_step (((go_at_call 104; exact later_of (digits06_at c D _ hc2 hD2.out)))) | quiet_step (((go_at_call 104; exact later_of (digits06_at c D _ hc2 hD2.out)))))
              refine wpQuiet_nil ?_
              intro w9 hx_
              obtain ⟨⟨w_, hb9⟩, e_⟩ := hx_
              have e2_ : w9 = w_ := e_
              clear e_
              subst e2_
              clear hl_
              go_wp2_with fail
              go_roundw
              case rel =>
                have hO3 := HO2.out ((⟨#[100, 104, 109, 115]⟩ : ByteArray).extract 1 2) (by decide)
                have hs3 : (O ++ D ++ (⟨#[100, 104, 109, 115]⟩ : ByteArray).extract 1 2).size ≤ 3 * 2 := by
                  have e : ((⟨#[100, 104, 109, 115]⟩ : ByteArray).extract 1 2).size = 1 := by decide
                  rw [ByteArray.size_append, ByteArray.size_append, e]; omega
                exact ⟨2, r, _, h4, rfl, hr2, rfl, rfl, hrm2, Lib.hid hO3, hs3, bt hb hb9⟩
              case measure => simp [intOf]
      · rw [show ((2 : Nat) : Int) = 2 from rfl]
        obtain ⟨t, ht⟩ : ∃ t, Hid (tk 2 = t) := ⟨_, rfl⟩
        have ht1 : 0 < t := by rw [← ht.out]; decide
        have ht2 : t ≤ 100000 := by rw [← ht.out]; decide
        go_wp2_with (go_at_call 103; refine (ticks_any 2 _ (by omega)).mono ?_; rintro e w' ⟨rfl, rfl⟩; rw [ht.out])
        go_loop [0, 9] (fun a b => ∃ c r : Nat, b = .int .i64 c ∧ a = .int .i64 r ∧ r ≤ R ∧ c ≤ R ∧ Hid (c * t + r = R)) (fun a _ => (intOf a).toNat)
        case atStart => exact ⟨0, R, rfl, rfl, Nat.le_refl _, Nat.zero_le _, (by show _ = _; omega)⟩
        case round =>
          obtain ⟨c, r, rfl, rfl, hr1, hc1, HC⟩ := hrel
          by_cases hge : t ≤ r
          · have HC2 := Lib.hid (step_of HC.out hge)
            have hc3 := cnt_le ht1 HC2.out
            go_wp2_with fail
            go_round
            case rel => exact ⟨c + 1, r - t, by go_num, by go_num, by omega, hc3, HC2⟩
            case measure => simp [intOf]; omega
          · obtain ⟨hd1, hd2⟩ := div_of ht1 HC.out (by omega)
            have hct : Hid (ct 2 N = c) := by show rm 2 N / tk 2 = c; rw [hrm.out, ht.out]; exact hd1
            have hrm2 : Hid (rm 3 N = r) := by show rm 2 N % tk 2 = r; rw [hrm.out, ht.out]; exact hd2
            have hr2 : r ≤ 1000000 := by omega
            have hc2 : c < 100 := by rw [← hct.out]; exact ct_lt h 2 (by omega)
            have hOs2 : O.size ≤ 3 * 3 := by omega
            have h4 : 3 ≤ 4 := by omega
            clear hd1 hd2
            by_cases hc0 : c = 0
            · subst hc0
              have hO2 : Hid (O.data.toList = pts 3 N) := by show _ = _; rw [hO.out]; exact (out_same hct.out).symm
              simp only [Int.natCast_zero]
              go_wp2_with fail
              go_roundw
              case rel => exact ⟨3, r, O, h4, rfl, hr2, rfl, rfl, hrm2, hO2, hOs2, hb⟩
              case measure => simp [intOf]
            · have hc3 : 0 < c := by omega
              obtain ⟨D, hD1, hD2, hD3⟩ := ba_of (Lib.decDigits c)
              have hD4 : D.size ≤ 2 := by rw [hD3]; exact decDigits_len hc2
              have HO := fun T h3 => out_step hO.out hD1.out (T := T) h3 hct.out hc3
              have HO2 := Lib.hid HO
              have k1 : IntKind.i64.wrap 3 = 3 := by decide
              clear HO hD3 hc0
              go_wp2_with fail
              refine wp_region_later (by kernel_rfl) (by kernel_rfl) ?_
              have hl_ := later_cell (wr)
              repeat (first | go_big_quiet_step (((go_at_call 104; exact later_of (digits06_at c D _ hc2 hD2.out)))) | quiet_step (((go_at_call 104; exact later_of (digits06_at c D _ hc2 hD2.out)))))
              refine wpQuiet_nil ?_
              intro w9 hx_
              obtain ⟨⟨w_, hb9⟩, e_⟩ := hx_
              have e2_ : w9 = w_ := e_
              clear e_
              subst e2_
              clear hl_
              go_wp2_with fail
              go_roundw
              case rel =>
                have hO3 := HO2.out ((⟨#[100, 104, 109, 115]⟩ : ByteArray).extract 2 3) (by decide)
                have hs3 : (O ++ D ++ (⟨#[100, 104, 109, 115]⟩ : ByteArray).extract 2 3).size ≤ 3 * 3 := by
                  have e : ((⟨#[100, 104, 109, 115]⟩ : ByteArray).extract 2 3).size = 1 := by decide
                  rw [ByteArray.size_append, ByteArray.size_append, e]; omega
                exact ⟨3, r, _, h4, rfl, hr2, rfl, rfl, hrm2, Lib.hid hO3, hs3, bt hb hb9⟩
              case measure => simp [intOf]
      · rw [show ((3 : Nat) : Int) = 3 from rfl]
        obtain ⟨t, ht⟩ : ∃ t, Hid (tk 3 = t) := ⟨_, rfl⟩
        have ht1 : 0 < t := by rw [← ht.out]; decide
        have ht2 : t ≤ 100000 := by rw [← ht.out]; decide
        go_wp2_with (go_at_call 103; refine (ticks_any 3 _ (by omega)).mono ?_; rintro e w' ⟨rfl, rfl⟩; rw [ht.out])
        go_loop [0, 9] (fun a b => ∃ c r : Nat, b = .int .i64 c ∧ a = .int .i64 r ∧ r ≤ R ∧ c ≤ R ∧ Hid (c * t + r = R)) (fun a _ => (intOf a).toNat)
        case atStart => exact ⟨0, R, rfl, rfl, Nat.le_refl _, Nat.zero_le _, (by show _ = _; omega)⟩
        case round =>
          obtain ⟨c, r, rfl, rfl, hr1, hc1, HC⟩ := hrel
          by_cases hge : t ≤ r
          · have HC2 := Lib.hid (step_of HC.out hge)
            have hc3 := cnt_le ht1 HC2.out
            go_wp2_with fail
            go_round
            case rel => exact ⟨c + 1, r - t, by go_num, by go_num, by omega, hc3, HC2⟩
            case measure => simp [intOf]; omega
          · obtain ⟨hd1, hd2⟩ := div_of ht1 HC.out (by omega)
            have hct : Hid (ct 3 N = c) := by show rm 3 N / tk 3 = c; rw [hrm.out, ht.out]; exact hd1
            have hrm2 : Hid (rm 4 N = r) := by show rm 3 N % tk 3 = r; rw [hrm.out, ht.out]; exact hd2
            have hr2 : r ≤ 1000000 := by omega
            have hc2 : c < 100 := by rw [← hct.out]; exact ct_lt h 3 (by omega)
            have hOs2 : O.size ≤ 3 * 4 := by omega
            have h4 : 4 ≤ 4 := by omega
            clear hd1 hd2
            by_cases hc0 : c = 0
            · subst hc0
              have hO2 : Hid (O.data.toList = pts 4 N) := by show _ = _; rw [hO.out]; exact (out_same hct.out).symm
              simp only [Int.natCast_zero]
              go_wp2_with fail
              go_roundw
              case rel => exact ⟨4, r, O, h4, rfl, hr2, rfl, rfl, hrm2, hO2, hOs2, hb⟩
              case measure => simp [intOf]
            · have hc3 : 0 < c := by omega
              obtain ⟨D, hD1, hD2, hD3⟩ := ba_of (Lib.decDigits c)
              have hD4 : D.size ≤ 2 := by rw [hD3]; exact decDigits_len hc2
              have HO := fun T h3 => out_step hO.out hD1.out (T := T) h3 hct.out hc3
              have HO2 := Lib.hid HO
              have k1 : IntKind.i64.wrap 4 = 4 := by decide
              clear HO hD3 hc0
              go_wp2_with fail
              refine wp_region_later (by kernel_rfl) (by kernel_rfl) ?_
              have hl_ := later_cell (wr)
              repeat (first | go_big_quiet_step (((go_at_call 104; exact later_of (digits06_at c D _ hc2 hD2.out)))) | quiet_step (((go_at_call 104; exact later_of (digits06_at c D _ hc2 hD2.out)))))
              refine wpQuiet_nil ?_
              intro w9 hx_
              obtain ⟨⟨w_, hb9⟩, e_⟩ := hx_
              have e2_ : w9 = w_ := e_
              clear e_
              subst e2_
              clear hl_
              go_wp2_with fail
              go_roundw
              case rel =>
                have hO3 := HO2.out ((⟨#[100, 104, 109, 115]⟩ : ByteArray).extract 3 4) (by decide)
                have hs3 : (O ++ D ++ (⟨#[100, 104, 109, 115]⟩ : ByteArray).extract 3 4).size ≤ 3 * 4 := by
                  have e : ((⟨#[100, 104, 109, 115]⟩ : ByteArray).extract 3 4).size = 1 := by decide
                  rw [ByteArray.size_append, ByteArray.size_append, e]; omega
                exact ⟨4, r, _, h4, rfl, hr2, rfl, rfl, hrm2, Lib.hid hO3, hs3, bt hb hb9⟩
              case measure => simp [intOf]
    · obtain rfl : k = 4 := by omega
      go_wp2_with fail
      go_ret2
      refine ⟨?_, hb⟩
      have e : (⟨(pts 4 N).toArray⟩ : ByteArray) = O := ba_ext6 (by rw [hO.out])
      rw [e]; rfl
end Go.Proofs.YtjmhaoplablmnaaGreatDoor
