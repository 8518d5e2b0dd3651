/- Layer 8: the reference's shape. -/
import Derived.Test.YtjmhaoplablmnaaGreatDoorCpR4s
import Derived.Test.YtjmhaoplablmnaaGreatDoorK1s
namespace Go.Proofs.YtjmhaoplablmnaaGreatDoor
set_option linter.unusedVariables false
set_option linter.unusedSimpArgs false
open Go.RowKit
def spF (l : List Fl) : List UInt8 := l.flatMap fun f => 32 :: fText f
theorem spF_app (a b : List Fl) : spF (a ++ b) = spF a ++ spF b := by simp [spF]
theorem row_cell {W : World} {b : Nat} {cs : Array Value} {T : TypeId} (h : W.heap[b]? = some (.cells cs T (0, 0))) {v : World} (hv : Below W.heap.size W v) (k : Nat) : v.cell? ⟨b, k, none⟩ = cs[k]? := (hv.cell (p := ⟨b, k, none⟩) (lt_of_block h)).trans (cell_of_row W b k cs T (0, 0) h)
set_option maxHeartbeats 4000000 in
set_option maxRecDepth 100000 in
theorem rform_mal (mn mx wl : Int) (A : Option Addr) (n c : Nat) (w : World) (hmn : 0 ≤ mn ∧ mn ≤ 48) (hmx : 0 ≤ mx ∧ mx ≤ 48) (hwl : 0 ≤ wl ∧ wl ≤ 100000) (D1 D2 D3 : ByteArray) (e1 : (⟨(Lib.itoa mn).toArray⟩ : ByteArray) = D1) (e2 : (⟨(Lib.itoa mx).toArray⟩ : ByteArray) = D2) (e3 : (⟨(showL wl.toNat).toArray⟩ : ByteArray) = D3) (s1 : D1.size ≤ 100) (s2 : D2.size ≤ 100) (s3 : D3.size ≤ 100) :
    Calls Tryz.prog 30 #[.agg #[.int .i64 3, .slice A n c, .int .i64 mn, .int .i64 mx, .int .i64 wl]] w fun e w' => e = .returned (.string (⟨#[32, 114, 97, 110, 103, 101, 61]⟩ ++ D1 ++ ⟨#[45]⟩ ++ D2 ++ ⟨#[32, 116, 105, 109, 101, 61]⟩ ++ D3)) ∧ Below w.heap.size w w' := by
  have q1 := Lib.hid (fun v => digits8_any mn v hmn.1 (by omega))
  have q2 := Lib.hid (fun v => digits8_any mx v hmx.1 (by omega))
  have q3 := Lib.hid (fun v => span8_any wl v hwl.1 (by omega))
  rw [e1] at q1
  rw [e2] at q2
  rw [e3] at q3
  obtain ⟨X, hX⟩ : ∃ q, ⟨#[32, 114, 97, 110, 103, 101, 61]⟩ ++ D1 ++ ⟨#[45]⟩ ++ D2 ++ ⟨#[32, 116, 105, 109, 101, 61]⟩ ++ D3 = q := ⟨_, rfl⟩
  rw [hX]
  replace hX := Lib.hid hX
  obtain ⟨Wb, hW⟩ : ∃ x, w.alloc (.cells #[.int .i64 3, .slice A n c, .int .i64 mn, .int .i64 mx, .int .i64 wl] 24) = x := ⟨_, rfl⟩
  have hr : Wb.heap[w.heap.size]? = some (.cells #[.int .i64 3, .slice A n c, .int .i64 mn, .int .i64 mx, .int .i64 wl] 24 (0, 0)) := by rw [← hW]; exact heap_alloc_new w _
  have hb : Hid (Below w.heap.size w Wb) := by rw [← hW]; exact (Below.refl _ _).alloc (Nat.le_refl _) _
  have hl : w.heap.size < Wb.heap.size := lt_of_block hr
  have y0 : Wb.cell? ⟨w.heap.size, 0, none⟩ = some (.int .i64 3) := row_cell hr (Below.refl _ _) 0
  have y2 : Wb.cell? ⟨w.heap.size, 2, none⟩ = some (.int .i64 mn) := row_cell hr (Below.refl _ _) 2
  have y3 : Wb.cell? ⟨w.heap.size, 3, none⟩ = some (.int .i64 mx) := row_cell hr (Below.refl _ _) 3
  have y4 : Wb.cell? ⟨w.heap.size, 4, none⟩ = some (.int .i64 wl) := row_cell hr (Below.refl _ _) 4
  have k1 : ¬ (9223372036854775807 < 7 + D1.size) := by omega
  have k2 : ¬ (9223372036854775807 < 7 + D1.size + 1) := by omega
  have k3 : ¬ (9223372036854775807 < 7 + D1.size + 1 + D2.size) := by omega
  have k4 : ¬ (9223372036854775807 < 7 + D1.size + 1 + D2.size + 6) := by omega
  have k5 : ¬ (9223372036854775807 < 7 + D1.size + 1 + D2.size + 6 + D3.size) := by omega
  clear e1 e2 e3 hr
  go_enter Tryz.func30, Tryz.ntmps30
  go_upto_region 6 with (fail)
  refine wp_region_later (by kernel_rfl) (by kernel_rfl) ?_
  have hl_ := later_cell (Wb)
  repeat (first | go_big_quiet_step (((first | (go_at_call 29; first | (with_reducible exact later_of (q1.out _)) | (with_reducible exact later_of (q2.out _))) | (go_at_call 31; with_reducible exact later_of (q3.out _))))) | quiet_step (((first | (go_at_call 29; first | (with_reducible exact later_of (q1.out _)) | (with_reducible exact later_of (q2.out _))) | (go_at_call 31; with_reducible exact later_of (q3.out _))))))
  refine wpQuiet_nil ?_
  intro w9 hx_
  obtain ⟨⟨w_, hb9⟩, e_⟩ := hx_
  have e2_ : w9 = w_ := e_
  clear e_
  subst e2_
  clear hl_
  go_wp2
  go_ret
  exact ⟨by rw [← hX.out]; rfl, bt hb.out hb9⟩
set_option maxHeartbeats 4000000 in
set_option maxRecDepth 100000 in
theorem rform_rig (x : Pr) (b o : Nat) (mn mx wl : Int) (n c : Nat) (w : World) (hx : 0 ≤ x.1 ∧ x.1 ≤ 48) (hy : 0 ≤ x.2 ∧ x.2 ≤ 100000) (D1 D3 : ByteArray) (e1 : (⟨(Lib.itoa x.1).toArray⟩ : ByteArray) = D1) (e3 : (⟨(showL x.2.toNat).toArray⟩ : ByteArray) = D3) (s1 : D1.size ≤ 100) (s3 : D3.size ≤ 100)
    (hn : 0 < n) (hb : b < w.heap.size) (c0 : w.cell? ⟨b, o, none⟩ = some (.int .i64 x.1)) (c1 : w.cell? ⟨b, o + 1, none⟩ = some (.int .i64 x.2)) :
    Calls Tryz.prog 30 #[.agg #[.int .i64 1, .slice (some ⟨b, o, none⟩) n c, .int .i64 mn, .int .i64 mx, .int .i64 wl]] w fun e w' => e = .returned (.string (⟨#[32, 110, 111, 100, 101, 115, 61]⟩ ++ D1 ++ ⟨#[32, 116, 105, 109, 101, 61]⟩ ++ D3)) ∧ Below w.heap.size w w' := by
  have q1 := Lib.hid (fun v => digits8_any x.1 v hx.1 (by omega))
  have q3 := Lib.hid (fun v => span8_any x.2 v hy.1 (by omega))
  rw [e1] at q1
  rw [e3] at q3
  obtain ⟨X, hX⟩ : ∃ q, ⟨#[32, 110, 111, 100, 101, 115, 61]⟩ ++ D1 ++ ⟨#[32, 116, 105, 109, 101, 61]⟩ ++ D3 = q := ⟨_, rfl⟩
  rw [hX]
  replace hX := Lib.hid hX
  obtain ⟨Wb, hW⟩ : ∃ y, w.alloc (.cells #[.int .i64 1, .slice (some ⟨b, o, none⟩) n c, .int .i64 mn, .int .i64 mx, .int .i64 wl] 24) = y := ⟨_, rfl⟩
  have hr : Wb.heap[w.heap.size]? = some (.cells #[.int .i64 1, .slice (some ⟨b, o, none⟩) n c, .int .i64 mn, .int .i64 mx, .int .i64 wl] 24 (0, 0)) := by rw [← hW]; exact heap_alloc_new w _
  have hbl : Below w.heap.size w Wb := by rw [← hW]; exact (Below.refl _ _).alloc (Nat.le_refl _) _
  have hl : w.heap.size < Wb.heap.size := lt_of_block hr
  have y0 : Wb.cell? ⟨w.heap.size, 0, none⟩ = some (.int .i64 1) := row_cell hr (Below.refl _ _) 0
  have y1 : Wb.cell? ⟨w.heap.size, 1, none⟩ = some (.slice (some ⟨b, o, none⟩) n c) := row_cell hr (Below.refl _ _) 1
  have d0 := (hbl.cell (p := ⟨b, o, none⟩) hb).trans c0
  have d1 := (hbl.cell (p := ⟨b, o + 1, none⟩) hb).trans c1
  have hb2 : b < Wb.heap.size := by omega
  have HB := Lib.hid hbl
  have k1 : ¬ (9223372036854775807 < 7 + D1.size) := by omega
  have k2 : ¬ (9223372036854775807 < 7 + D1.size + 6) := by omega
  have k3 : ¬ (9223372036854775807 < 7 + D1.size + 6 + D3.size) := by omega
  clear e1 e3 hr hbl c0 c1
  go_enter Tryz.func30, Tryz.ntmps30
  go_upto_region 4 with (fail)
  refine wp_region_later (by kernel_rfl) (by kernel_rfl) ?_
  have hl_ := later_cell (Wb)
  repeat (first | go_big_quiet_step (((first | (go_at_call 29; with_reducible exact later_of (q1.out _)) | (go_at_call 31; with_reducible exact later_of (q3.out _))))) | quiet_step (((first | (go_at_call 29; with_reducible exact later_of (q1.out _)) | (go_at_call 31; with_reducible exact later_of (q3.out _))))))
  refine wpQuiet_nil ?_
  intro w9 hx_
  obtain ⟨⟨w_, hb9⟩, e_⟩ := hx_
  have e2_ : w9 = w_ := e_
  clear e_
  subst e2_
  clear hl_
  go_wp2
  go_ret
  exact ⟨by rw [← hX.out]; rfl, bt HB.out hb9⟩
def altF (l : List Pr) : List Fl := l.map fun a => (bAlt, .alt a.1 a.2)
theorem altF_next {a : List Pr} {k : Nat} {x : Pr} (h : a[k]? = some x) (T : ByteArray) (hT : T = ⟨(spF (altF (a.take k))).toArray⟩) : T ++ ⟨#[32, 97, 108, 116, 61]⟩ ++ ⟨(Lib.itoa x.1).toArray⟩ ++ ⟨#[58]⟩ ++ ⟨(showL x.2.toNat).toArray⟩ = ⟨(spF (altF (a.take (k + 1)))).toArray⟩ := by
  obtain ⟨hlt, rfl⟩ := List.getElem?_eq_some_iff.1 h
  subst hT
  unfold altF
  rw [List.take_succ_eq_append_getElem hlt, List.map_append, spF_app]
  apply ByteArray.ext
  simp [ByteArray.data_append, spF, fText, vtT, bAlt]
set_option maxHeartbeats 4000000 in
set_option maxRecDepth 100000 in
theorem rform_many (a : List Pr) (kd mn mx wl : Int) (A : Option Addr) (n c B : Nat) (w : World) (k1 : (kd == 1) = false) (k3 : (kd == 3) = false) (hr : Reads w B 2 A n (recs prC a)) (hB : B ≤ w.heap.size) (hn : n ≤ 100) (hal : a.length = n) (hF : ∀ x ∈ a, (0 ≤ x.1 ∧ x.1 ≤ 48) ∧ 0 ≤ x.2 ∧ x.2 ≤ 100000) :
    Calls Tryz.prog 30 #[.agg #[.int .i64 kd, .slice A n c, .int .i64 mn, .int .i64 mx, .int .i64 wl]] w fun e w' => e = .returned (.string ⟨(spF (altF a)).toArray⟩) ∧ Below w.heap.size w w' := by
  obtain ⟨X, hX⟩ : ∃ q : ByteArray, ⟨(spF (altF a)).toArray⟩ = q := ⟨_, rfl⟩
  rw [hX]
  replace hX := Lib.hid hX
  have HF := Lib.hid hF
  have HAL := Lib.hid hal
  obtain ⟨Wb, hW⟩ : ∃ y, Hid (w.alloc (.cells #[.int .i64 kd, .slice A n c, .int .i64 mn, .int .i64 mx, .int .i64 wl] 24) = y) := ⟨_, Lib.hid rfl⟩
  have hrw : Wb.heap[w.heap.size]? = some (.cells #[.int .i64 kd, .slice A n c, .int .i64 mn, .int .i64 mx, .int .i64 wl] 24 (0, 0)) := by rw [← hW.out]; exact heap_alloc_new w _
  have HB : Hid (Below w.heap.size w Wb) := by rw [← hW.out]; exact (Below.refl _ _).alloc (Nat.le_refl _) _
  have HR := Lib.hid hrw
  have hl : w.heap.size < Wb.heap.size := lt_of_block hrw
  have hsl : B ≤ Wb.heap.size := by omega
  have HRd := Lib.hid (hr.below (HB.out.mono hB))
  have y0 : Wb.cell? ⟨w.heap.size, 0, none⟩ = some (.int .i64 kd) := row_cell hrw (Below.refl _ _) 0
  have y1 : Wb.cell? ⟨w.heap.size, 1, none⟩ = some (.slice A n c) := row_cell hrw (Below.refl _ _) 1
  clear hF hal hr hrw
  go_enter Tryz.func30, Tryz.ntmps30
  go_upto_region 1 with (fail)
  rw [hW.out]
  go_wp2
  go_loopw [3, 4] (fun t i wr => ∃ (k : Nat) (T : ByteArray), k ≤ n ∧ i = .int .i64 k ∧ t = .string T ∧ Hid (T = ⟨(spF (altF (a.take k))).toArray⟩) ∧ T.size ≤ 300 * k ∧ Hid (Below Wb.heap.size Wb wr)) (fun _ i _ => n - (intOf i).toNat)
  case atStart => exact ⟨0, ⟨#[]⟩, Nat.zero_le _, rfl, rfl, Lib.hid rfl, by decide, Lib.hid (Below.refl _ _)⟩
  case round =>
    obtain ⟨k, T, hk, rfl, rfl, hTE, hTs, hBr⟩ := hrel
    have z1 : wr.cell? ⟨w.heap.size, 1, none⟩ = some (.slice A n c) := row_cell HR.out hBr.out 1
    have zl : w.heap.size < wr.heap.size := by have := hBr.out.size; omega
    clear y0 y1
    by_cases hlt : k < n
    · obtain ⟨b, o, x, rfl, hbb, hx, c0, c1⟩ := (HRd.out.below (hBr.out.mono hsl)).pr_at hlt
      have t0 : decide ((k : Int) < (n : Int)) = true := by simp; omega
      have hj0 : (0 : Int) ≤ (k : Int) := by omega
      have hj1 : (k : Int) < (n : Int) := by omega
      have hbw : b < wr.heap.size := by have := hBr.out.size; omega
      obtain ⟨hx1, hx2⟩ := HF.out x (List.mem_of_getElem? hx.out)
      have HN := Lib.hid (altF_next hx.out T hTE.out)
      obtain ⟨D1, e1⟩ : ∃ D, (⟨(Lib.itoa x.1).toArray⟩ : ByteArray) = D := ⟨_, rfl⟩
      obtain ⟨D3, e3⟩ : ∃ D, (⟨(showL x.2.toNat).toArray⟩ : ByteArray) = D := ⟨_, rfl⟩
      have s1 : D1.size ≤ 100 := by rw [← e1]; exact itoa_size _ hx1.1 (by omega)
      have s3 : D3.size ≤ 100 := by rw [← e3]; exact show_size _ (by omega)
      have q1 := Lib.hid (fun v => digits8_any x.1 v hx1.1 (by omega))
      have q3 := Lib.hid (fun v => span8_any x.2 v hx2.1 (by omega))
      rw [e1] at q1 HN
      rw [e3] at q3 HN
      have g1 : ¬ (9223372036854775807 < T.size + 5) := by omega
      have g2 : ¬ (9223372036854775807 < T.size + 5 + D1.size) := by omega
      have g3 : ¬ (9223372036854775807 < T.size + 5 + D1.size + 1) := by omega
      have g4 : ¬ (9223372036854775807 < T.size + 5 + D1.size + 1 + D3.size) := by omega
      have HZ : Hid ((T ++ ⟨#[32, 97, 108, 116, 61]⟩ ++ D1 ++ ⟨#[58]⟩ ++ D3).size ≤ 300 * (k + 1)) := by
        show _ ≤ _
        simp only [ByteArray.size_append]
        have e5 : (⟨#[32, 97, 108, 116, 61]⟩ : ByteArray).size = 5 := rfl
        have e6 : (⟨#[58]⟩ : ByteArray).size = 1 := rfl
        omega
      clear e1 e3 hx hx1 hx2 hTE
      go_upto_region 10 with (fail)
      refine wp_region_later (by kernel_rfl) (by kernel_rfl) ?_
      have hl_ := later_cell (wr)
      repeat (first | go_big_quiet_step (((first | (go_at_call 29; with_reducible exact later_of (q1.out _)) | (go_at_call 31; with_reducible exact later_of (q3.out _))))) | quiet_step (((first | (go_at_call 29; with_reducible exact later_of (q1.out _)) | (go_at_call 31; with_reducible exact later_of (q3.out _))))))
      refine wpQuiet_nil ?_
      intro w9 hx_
      obtain ⟨⟨w_, hb9⟩, e_⟩ := hx_
      have e2_ : w9 = w_ := e_
      clear e_
      subst e2_
      clear hl_
      go_wp2
      go_roundw
      case rel => exact ⟨k + 1, _, by omega, by simp, rfl, HN, HZ.out, Lib.hid (bt hBr.out hb9)⟩
      case measure => simp [intOf]; omega
    · obtain rfl : k = n := by omega
      have t0 : decide ((k : Int) < (k : Int)) = false := by simp
      have HT : Hid (T = X) := by show _ = _; rw [hTE.out, ← hX.out, List.take_of_length_le (by rw [HAL.out]; omega)]
      go_wp2
      go_ret
      exact ⟨by rw [← HT.out]; rfl, bt HB.out hBr.out⟩
theorem rform_any (s : Sh) (A : Option Addr) (c B : Nat) (w : World) (hs : FormOk s) (h0 : s.kind ≠ 1 → s.kind ≠ 2 → s.kind ≠ 3 → s.alts = []) (hr : Reads w B 2 A s.alts.length (recs prC s.alts)) (hB : B ≤ w.heap.size) :
    Calls Tryz.prog 30 #[.agg #[.int .i64 s.kind, .slice A s.alts.length c, .int .i64 s.mn, .int .i64 s.mx, .int .i64 s.wall]] w fun e w' => e = .returned (.string ⟨(spF (formF s)).toArray⟩) ∧ Below w.heap.size w w' := by
  obtain ⟨h1, h2, h3, h4⟩ := hs
  unfold formF
  by_cases k1 : s.kind = 1
  · rw [if_pos k1, k1]
    have hn := h1 k1
    obtain ⟨b, o, x, rfl, hbb, hx, c0, c1⟩ := hr.pr_at hn
    rw [Nat.zero_mul, Nat.add_zero] at c0 c1
    obtain ⟨q1, q2⟩ := h3 x (List.mem_of_getElem? hx.out)
    have e : s.alts.getD 0 (0, 0) = x := by rw [List.getD_eq_getElem?_getD, hx.out]; rfl
    rw [e]
    have := rform_rig x b o s.mn s.mx s.wall s.alts.length c w q1 q2 _ _ rfl rfl (itoa_size _ q1.1 (by omega)) (show_size _ (by omega)) hn (by omega) c0 c1
    have e2 : (⟨#[32, 110, 111, 100, 101, 115, 61]⟩ ++ ⟨(Lib.itoa x.1).toArray⟩ ++ ⟨#[32, 116, 105, 109, 101, 61]⟩ ++ ⟨(showL x.2.toNat).toArray⟩ : ByteArray) = ⟨(spF [(bNodes, .num x.1), (bTime, .time x.2)]).toArray⟩ := by
      apply ByteArray.ext
      simp [ByteArray.data_append, spF, fText, vtT, bNodes, bTime]
    rw [e2] at this
    exact this
  rw [if_neg k1]
  by_cases k3 : s.kind = 3
  · rw [if_neg (by omega), if_pos k3, k3]
    obtain ⟨q1, q2, q3⟩ := h4 k3
    have := rform_mal s.mn s.mx s.wall A s.alts.length c w q1 q2 q3 _ _ _ rfl rfl rfl (itoa_size _ q1.1 (by omega)) (itoa_size _ q2.1 (by omega)) (show_size _ (by omega))
    have e2 : (⟨#[32, 114, 97, 110, 103, 101, 61]⟩ ++ ⟨(Lib.itoa s.mn).toArray⟩ ++ ⟨#[45]⟩ ++ ⟨(Lib.itoa s.mx).toArray⟩ ++ ⟨#[32, 116, 105, 109, 101, 61]⟩ ++ ⟨(showL s.wall.toNat).toArray⟩ : ByteArray) = ⟨(spF [(bRange, .rng s.mn s.mx), (bTime, .time s.wall)]).toArray⟩ := by
      apply ByteArray.ext
      simp [ByteArray.data_append, spF, fText, vtT, bRange, bTime]
    rw [e2] at this
    exact this
  have := rform_many s.alts s.kind s.mn s.mx s.wall A s.alts.length c B w (by simpa using k1) (by simpa using k3) hr hB h2 rfl h3
  by_cases k2 : s.kind = 2
  · rw [if_pos k2]
    exact this
  · rw [if_neg k2, if_neg k3]
    rw [h0 k1 k2 k3] at this ⊢
    exact this
end Go.Proofs.YtjmhaoplablmnaaGreatDoor
