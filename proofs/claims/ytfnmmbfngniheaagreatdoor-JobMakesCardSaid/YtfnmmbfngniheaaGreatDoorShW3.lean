/- Layer 7: apart walked. -/
import Derived.Test.YtfnmmbfngniheaaGreatDoorShW2
namespace Go.Proofs.YtfnmmbfngniheaaGreatDoor
set_option linter.unusedVariables false
open Go.RowKit
theorem Reads.preR {α : Type} {enc : α → List Value} {m : Nat} (he : ∀ x, (enc x).length = m) {w : World} {B n : Nat} {A : Option Addr} {l : List α} (h : Reads w B m A n (recs enc l)) {k : Nat} (hk : k ≤ n) : Reads w B m A k (recs enc (l.take k)) := by
  have h1 := h.1
  refine ⟨?_, fun h0 => ?_⟩
  · rw [recs_take he, List.length_take, h1]
    exact Nat.min_eq_left (Nat.mul_le_mul_right m hk)
  · obtain ⟨ad, e, hb, hc⟩ := h.2 (by omega)
    refine ⟨ad, e, hb, fun j u hu => hc j u ?_⟩
    rw [recs_take he, List.getElem?_take] at hu
    split at hu
    · exact hu
    · cases hu
theorem elemA : Tryz.prog.elem 22 = 114 := by kernel_rfl
theorem sizeA (v : World) : (sizeOf (Tryz.prog.elem 22)).run Tryz.prog v = .ok 2 v := by rw [elemA]; exact Tryz.sizeOf114 v
set_option maxRecDepth 1000000 in
theorem cutA_hi {b o n c : Nat} {i : Nat} (hi : i ≤ n) (hc : n ≤ c) (h0 : 0 < n) :
    (∀ v : World, (Instr.slice 22 (.slice (some ⟨b, o, none⟩) n c) none (some (.int .i64 (i : Int))) none).run Tryz.prog v = .ok (.slice (some ⟨b, o, none⟩) i c) v) ∧
      (∀ v : World, (Instr.sliceAt 22 (.slice (some ⟨b, o, none⟩) n c) none (some (.int .i64 (i : Int))) none).run Tryz.prog v = .ok (.slice (some ⟨b, o, none⟩) i c) v) := by
  have h1 : ∀ v : World, (Instr.slice 22 (.slice (some ⟨b, o, none⟩) n c) none (some (.int .i64 (i : Int))) none).run Tryz.prog v = .ok (.slice (some ⟨b, o, none⟩) i c) v := by
    intro v
    rw [run_slice_h v 22 _ n c Tryz.underlying22 .i64 (i : Int) (by omega) (by omega), sizeA v]
    have hne : ¬ c = 0 := by omega
    simp [Result.andThen, sliced, hne, Addr.add]
  exact ⟨h1, fun v => by rw [run_sliceAt_slice v _ _ _ _ _ Tryz.underlying22]; exact h1 v⟩
def ApartTo (l : List Pr) (i : Nat) : Prop := ∀ j k (a b : Pr), j < k → k < i → l[j]? = some a → l[k]? = some b → a.1 ≠ b.1
theorem apartTo_next {l : List Pr} {i : Nat} {x : Pr} (h : ApartTo l i) (hx : l[i]? = some x) (hn : (l.take i).any (fun y => x.1 == y.1) = false) : ApartTo l (i + 1) := by
  intro j k a b hjk hk ha hb
  by_cases e : k = i
  · subst e
    rw [hx] at hb
    obtain rfl := Option.some.inj hb
    rw [List.any_eq_false] at hn
    have hm : a ∈ l.take k := List.mem_of_getElem? (i := j) (by rw [List.getElem?_take, if_pos hjk]; exact ha)
    have := hn a hm
    intro e
    exact this (by simp [e])
  · exact h j k a b hjk (by omega) ha hb
theorem apartTo_no {l : List Pr} {i : Nat} {x : Pr} (hx : l[i]? = some x) (hn : (l.take i).any (fun y => x.1 == y.1) = true) : apartL l = false := by
  cases hq : apartL l with
  | false => rfl
  | true =>
    rw [apart_iff] at hq
    obtain ⟨y, hy, e⟩ := List.any_eq_true.1 hn
    obtain ⟨j, hj, hj2⟩ := List.mem_iff_getElem.1 hy
    rw [List.length_take] at hj
    have h1 : l[j]? = some y := by
      rw [← hj2, List.getElem_take]
      exact List.getElem?_eq_getElem (by omega)
    exact absurd (by simpa using e : x.1 = y.1) (Ne.symm (hq j i y x (by omega) h1 hx))
theorem apartTo_all {l : List Pr} (h : ApartTo l l.length) : apartL l = true := by
  rw [apart_iff]
  intro i j a b hij ha hb
  exact h i j a b hij (List.getElem?_eq_some_iff.1 hb).1 ha hb
set_option maxHeartbeats 1000000 in
theorem apart_any (A : Option Addr) (n c B : Nat) (l : List Pr) (w : World) (hr : Reads w B 2 A n (recs prC l)) (hB : B ≤ w.heap.size) (hn : n ≤ 1000000) (hcap : n ≤ c) :
    Calls Tryz.prog 190 #[.slice A n c] w fun e w' => e = .returned (.bool (apartL l)) ∧ Below w.heap.size w w' := by
  have hlen := hr.rec_len prC_len (by omega)
  have hmf : ∀ (fn : Fn) (first cap : Array Value) (w : World), (Instr.makeFunc fn first cap).run Tryz.prog w = .ok (.func fn first cap) w := fun _ _ _ _ => rfl
  go_enter Tryz.func190, Tryz.ntmps190
  go_wp2
  go_loopw [3, 4, 7] (fun _ _ i wr => ∃ k : Nat, k ≤ n ∧ i = .int .i64 k ∧ Below w.heap.size w wr ∧ Hid (ApartTo l k)) (fun _ _ i _ => n - (intOf i).toNat)
  case atStart => exact ⟨0, Nat.zero_le _, rfl, Below.refl _ _, Lib.hid (fun j k a b h1 h2 => by omega)⟩
  case round =>
    obtain ⟨k, hk, rfl, hbr, HN⟩ := hrel
    by_cases hlt : k < n
    · have hr1 := hr.below (hbr.mono hB)
      obtain ⟨b, o, x, rfl, hbb, hx, c0, c1⟩ := hr1.pr_at hlt
      have hj0 : (0 : Int) ≤ (k : Int) := by omega
      have hj1 : (k : Int) < (n : Int) := by omega
      have t0 : decide ((k : Int) < (n : Int)) = true := by simp; omega
      obtain ⟨s1, s2⟩ := cutA_hi (b := b) (o := o) hk hcap (by omega)
      have hszr := hbr.size
      have hRP := Lib.hid (hr1.preR prC_len hk)
      have eg : ∀ args w, (callFunc 201 args).run Tryz.prog w = .ok (.enter 201 args) w := enters_of Tryz.func201 (by kernel_rfl) rfl
      have hbx : Below wr.heap.size wr (wr.alloc (.cells #[.int .i64 x.1, .int .i64 x.2] 114)) := (Below.refl _ _).alloc (Nat.le_refl _) _
      have hpa := pred_apart x wr.heap.size (wr.alloc (.cells #[.int .i64 x.1, .int .i64 x.2] 114)) (by simp) (cell_of_row (wr.alloc (.cells #[.int .i64 x.1, .int .i64 x.2] 114)) wr.heap.size 0 #[.int .i64 x.1, .int .i64 x.2] 114 (0, 0) (heap_alloc_new wr _))
      have hcall := Lib.hid (hasA_any (fun y => x.1 == y.1) 201 #[.pointer (some ⟨wr.heap.size, 0, none⟩)] eg (some ⟨b, o, none⟩) k c B (l.take k) (wr.alloc (.cells #[.int .i64 x.1, .int .i64 x.2] 114)) (hRP.out.below (hbx.mono (by omega))) (by simp; omega) (by omega) hpa)
      have HBX := Lib.hid (hbr.trans (hbx.mono hszr))
      clear hpa hbx hr hr1 eg
      cases hq : (l.take k).any (fun y => x.1 == y.1) with
      | true =>
        rw [hq] at hcall
        have HR : Hid (apartL l = false) := by show _ = _; exact apartTo_no hx.out hq
        clear hq
        go_wp2_with (fail)
        refine hcall.out.mono ?_; rintro e w2 ⟨rfl, hb2⟩
        go_wp2
        go_ret
        exact ⟨by rw [HR.out]; rfl, HBX.out.trans (hb2.mono (by simp; omega))⟩
      | false =>
        rw [hq] at hcall
        have HN2 : Hid (ApartTo l (k + 1)) := by show ApartTo _ _; exact apartTo_next HN.out hx.out hq
        clear hq
        go_wp2_with (fail)
        refine hcall.out.mono ?_; rintro e w2 ⟨rfl, hb2⟩
        go_wp2
        go_roundw
        case rel => exact ⟨k + 1, by omega, by simp, HBX.out.trans (hb2.mono (by simp; omega)), HN2⟩
        case measure => simp [intOf]; omega
    · obtain rfl : k = n := by omega
      have t0 : decide ((k : Int) < (k : Int)) = false := by simp
      have HR : Hid (apartL l = true) := by show _ = _; exact apartTo_all (by rw [hlen.out]; exact HN.out)
      go_wp2
      go_ret
      exact ⟨by rw [HR.out]; rfl, hbr⟩
end Go.Proofs.YtfnmmbfngniheaaGreatDoor
