/- Contract of slices.BinarySearchFunc at ledgers. -/
import Derived.Test.YtlhogedcokcmhaaLedW2
import Derived.Test.YtlhogedcokcmhaaLedP2
import Derived.Test.YtlhogedcokcmhaaLat
namespace Go.Proofs.Ytlhogedcokcmhaa
set_option linter.unusedVariables false
open Go.RowKit

def foundU (l : List U) (x : U) : Bool := match l[lowU l x]? with | some u => ordU u x == 0 | none => false
def BsRel (l : List U) (x : U) (i j : Nat) : Prop := i ≤ j ∧ j ≤ l.length ∧ (∀ m u, m < i → l[m]? = some u → ordU u x < 0) ∧ (∀ m u, j ≤ m → l[m]? = some u → ¬ ordU u x < 0)
theorem BsRel.low {l : List U} {x : U} {i j h : Nat} {u : U} (hg : goodB l none = true) (r : BsRel l x i j) (h1 : i ≤ h) (h2 : h < j) (hu : l[h]? = some u) (ho : ordU u x < 0) : BsRel l x (h + 1) j := by
  refine ⟨by omega, r.2.1, fun m v hm hv => ?_, r.2.2.2⟩
  rcases Nat.lt_or_ge m h with hlt | hge
  · exact ordU_trans (good_sorted hg hlt hv hu) ho
  · obtain rfl : m = h := by omega
    rw [hu] at hv; obtain rfl := Option.some.inj hv; exact ho
theorem BsRel.high {l : List U} {x : U} {i j h : Nat} {u : U} (hg : goodB l none = true) (r : BsRel l x i j) (h1 : i ≤ h) (h2 : h < j) (hu : l[h]? = some u) (ho : ¬ ordU u x < 0) : BsRel l x i h := by
  refine ⟨by omega, by have := r.2.1; omega, r.2.2.1, fun m v hm hv hc => ?_⟩
  rcases Nat.lt_or_ge h m with hlt | hge
  · exact ho (ordU_trans (good_sorted hg hlt hu hv) hc)
  · obtain rfl : m = h := by omega
    rw [hu] at hv; obtain rfl := Option.some.inj hv; exact ho hc
theorem BsRel.done {l : List U} {x : U} {i : Nat} (r : BsRel l x i i) : lowU l x = i :=
  lowU_is r.2.1 r.2.2.1 (fun u hu => r.2.2.2 i u (Nat.le_refl _) hu)

set_option maxHeartbeats 600000 in
theorem bsearch_any (A : Option Addr) (n c B : Nat) (l : List U) (x : U) (w : World) (hn : n ≤ 200) (hr : Reads w B 4 A n (recs ucells l)) (hB : B ≤ w.heap.size) (hg : goodB l none = true) :
    Calls Try.prog 21 #[.slice A n c, uv x, .func (.func 22) #[] #[]] w fun e w' => e = .returned (.tuple #[.int .i64 (lowU l x), .bool (foundU l x)]) ∧ Below w.heap.size w w' := by
  have hlen := hr.rec_len ucells_len (by omega)
  have HG := Lib.hid hg
  clear hg
  go_enter Try.func21, Try.ntmps21
  go_wp2
  go_loopw [9, 10] (fun i j wr => ∃ a b : Nat, i = .int .i64 a ∧ j = .int .i64 b ∧ a ≤ b ∧ b ≤ n ∧ Hid (BsRel l x a b) ∧ Below (w.heap.size + 1) (w.alloc (.cells #[.string x.user, .string x.acct, .int .i64 x.used, .int .i64 x.share] 42)) wr) (fun i j _ => (intOf j).toNat - (intOf i).toNat)
  case atStart => exact ⟨0, n, rfl, rfl, Nat.zero_le _, Nat.le_refl _, ⟨Nat.zero_le _, by have := hlen.out; omega, fun m u hm => absurd hm (by omega), fun m u hm hu => by
      have := (List.getElem?_eq_some_iff.1 hu).1
      have := hlen.out; omega⟩, Below.refl _ _⟩
  case round =>
    obtain ⟨a, b, rfl, rfl, hab, hbn, hR, hb⟩ := hrel
    have hz := hb.size
    simp only [World.size_alloc] at hz
    have hr2 := (hr.alloc hB (.cells #[.string x.user, .string x.acct, .int .i64 x.used, .int .i64 x.share] 42)).below (hb.mono (by omega))
    by_cases hlt : a < b
    · obtain ⟨h, hh⟩ : ∃ h : Nat, ((a : Int) + (b : Int)) / 2 = (h : Int) := ⟨(a + b) / 2, by omega⟩
      have ha1 : a ≤ h := by omega
      have hb1 : h < b := by omega
      obtain ⟨bb, o, u, rfl, hbb, hx, c0, c1, c2, c3⟩ := hr2.u_at (k := h) (by omega)
      have x0 : wr.cell? ⟨w.heap.size, 0, none⟩ = some (.string x.user) := by rw [hb.cell (by simp)]; simp [go_sem]
      have x1 : wr.cell? ⟨w.heap.size, 1, none⟩ = some (.string x.acct) := by rw [hb.cell (by simp)]; simp [go_sem]
      have x2 : wr.cell? ⟨w.heap.size, 2, none⟩ = some (.int .i64 x.used) := by rw [hb.cell (by simp)]; simp [go_sem]
      have x3 : wr.cell? ⟨w.heap.size, 3, none⟩ = some (.int .i64 x.share) := by rw [hb.cell (by simp)]; simp [go_sem]
      have hj0 : (0 : Int) ≤ (h : Int) := by omega
      have hj1 : (h : Int) < (n : Int) := by omega
      have hub : bb < wr.heap.size := by omega
      clear hr hr2
      by_cases ho : ordU u x < 0
      · have hR2 := Lib.hid (hR.out.low HG.out ha1 hb1 hx.out ho)
        have ho2 : decide (ordU u x < 0) = true := by simpa using ho
        go_wp2
        refine wp_region_later (by kernel_rfl) (by kernel_rfl) ?_
        have hw0 : w.heap.size < wr.heap.size := by omega
        have hl := later_cell wr
        repeat (first | go_big_quiet_step ((go_at_call 22; exact later_of (order_any u x _))) | quiet_step ((go_at_call 22; exact later_of (order_any u x _))))
        refine wpQuiet_nil ?_
        rintro _ ⟨⟨w9, hb8⟩, rfl⟩
        clear hl
        go_wp2
        have hb9 := hb.trans (hb8.mono (by omega))
        go_roundw
        case rel => exact ⟨h + 1, b, by go_num, rfl, by omega, hbn, hR2, by first | exact hb9 | exact below_drew hb9 | exact below_drewN hb9 _⟩
        case measure => simp [intOf]; omega
      · have hR2 := Lib.hid (hR.out.high HG.out ha1 hb1 hx.out ho)
        have ho2 : decide (ordU u x < 0) = false := by simpa using ho
        go_wp2
        refine wp_region_later (by kernel_rfl) (by kernel_rfl) ?_
        have hw0 : w.heap.size < wr.heap.size := by omega
        have hl := later_cell wr
        repeat (first | go_big_quiet_step ((go_at_call 22; exact later_of (order_any u x _))) | quiet_step ((go_at_call 22; exact later_of (order_any u x _))))
        refine wpQuiet_nil ?_
        rintro _ ⟨⟨w9, hb8⟩, rfl⟩
        clear hl
        go_wp2
        have hb9 := hb.trans (hb8.mono (by omega))
        go_roundw
        case rel => exact ⟨a, h, rfl, rfl, by omega, by omega, hR2, by first | exact hb9 | exact below_drew hb9 | exact below_drewN hb9 _⟩
        case measure => simp [intOf]; omega
    · obtain rfl : b = a := by omega
      have hlo := Lib.hid hR.out.done
      have hbw : Below w.heap.size w wr := ((Below.refl w.heap.size w).alloc (Nat.le_refl _) _).trans (hb.mono (by omega))
      by_cases hbn2 : b < n
      · obtain ⟨bb, o, u, rfl, hbb, hx, c0, c1, c2, c3⟩ := hr2.u_at (k := b) hbn2
        have x0 : wr.cell? ⟨w.heap.size, 0, none⟩ = some (.string x.user) := by rw [hb.cell (by simp)]; simp [go_sem]
        have x1 : wr.cell? ⟨w.heap.size, 1, none⟩ = some (.string x.acct) := by rw [hb.cell (by simp)]; simp [go_sem]
        have x2 : wr.cell? ⟨w.heap.size, 2, none⟩ = some (.int .i64 x.used) := by rw [hb.cell (by simp)]; simp [go_sem]
        have x3 : wr.cell? ⟨w.heap.size, 3, none⟩ = some (.int .i64 x.share) := by rw [hb.cell (by simp)]; simp [go_sem]
        have hj0 : (0 : Int) ≤ (b : Int) := by omega
        have hj1 : (b : Int) < (n : Int) := by omega
        have hj2 : decide (b < n) = true := by simpa using hbn2
        have hub : bb < wr.heap.size := by omega
        have HF : Hid (foundU l x = (ordU u x == 0)) := by show _ = _; unfold foundU; rw [hlo.out, hx.out]
        clear hr hr2
        go_wp2
        refine wp_region_later (by kernel_rfl) (by kernel_rfl) ?_
        have hw0 : w.heap.size < wr.heap.size := by omega
        have hl := later_cell wr
        repeat (first | go_big_quiet_step ((go_at_call 22; exact later_of (order_any u x _))) | quiet_step ((go_at_call 22; exact later_of (order_any u x _))))
        refine wpQuiet_nil ?_
        rintro _ ⟨⟨w9, hb8⟩, rfl⟩
        clear hl
        go_wp2
        have hb9 := hbw.trans (hb8.mono (by omega))
        go_ret2
        refine ⟨ret_v ?_, by first | exact hb9 | exact below_drew hb9 | exact below_drewN hb9 _⟩
        rw [hlo.out, HF.out]; rfl
      · have HF : Hid (foundU l x = false) := by
          show _ = _
          unfold foundU; rw [hlo.out, List.getElem?_eq_none (by have := hlen.out; omega)]
        have hj2 : decide (b < n) = false := by simpa using hbn2
        clear hr hr2
        go_wp2
        go_quiet (fail)
        go_wp2
        go_ret2
        exact ⟨ret_v (by rw [hlo.out, HF.out]; rfl), below_drewN hbw _⟩
end Go.Proofs.Ytlhogedcokcmhaa
