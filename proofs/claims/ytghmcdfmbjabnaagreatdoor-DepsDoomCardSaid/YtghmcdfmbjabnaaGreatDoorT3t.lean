/- Bundle T3. -/
import Derived.Test.YtghmcdfmbjabnaaGreatDoorT2t
import Derived.Test.YtghmcdfmbjabnaaGreatDoorC1t
import Derived.Lib.SliceRun
import Derived.Deep.RegionLaw
import Derived.Test.YtghmcdfmbjabnaaGreatDoorT1t
import Derived.Test.YtghmcdfmbjabnaaGreatDoorS1t
import Derived.Test.YtghmcdfmbjabnaaGreatDoorQ9t
import Derived.Test.YtghmcdfmbjabnaaGreatDoorQ4t
import Derived.Test.YtghmcdfmbjabnaaGreatDoorQ0t
import Derived.Great.BuildSlice
namespace Go.Proofs.YtghmcdfmbjabnaaGreatDoor
set_option linter.unusedSimpArgs false
set_option maxRecDepth 100000
set_option linter.unusedVariables false
open Go.RowKit
def PredJ (g : Nat) (lb : Array Value) (p : Jb → Bool) (l : List JR) (w : World) : Prop :=
  ∀ (W : World) (r : JR), Below w.heap.size w W → r ∈ l → Calls Tryz.prog g (#[.agg (jrC r).toArray] ++ lb) W fun e w' => e = .returned (.bool (p r.x)) ∧ Below w.heap.size w w'
set_option maxHeartbeats 4000000 in
theorem idxJ_any (p : Jb → Bool) (g : Nat) (lb : Array Value) (eg : ∀ args w, (callFunc g args).run Tryz.prog w = .ok (.enter g args) w) (A : Option Addr) (n c B : Nat) (l : List JR) (w : World)
    (ht : TbAt w B A n l) (hB : B ≤ w.heap.size) (hp : PredJ g lb p l w) :
    Calls Tryz.prog 79 #[.slice A n c, .func (.func g) #[] lb] w fun e w' => e = .returned (.int .i64 (idxG p (jobs l))) ∧ Below w.heap.size w w' := by
  have hlj : Hid ((jobs l).length = n) := (jobs_len l).trans ht.len
  have HT := Lib.hid ht
  have HBW := Lib.hid hB
  have HP := Lib.hid hp
  have hn1 : n ≤ 1000 := ht.2.2
  clear hp ht hB
  go_enter Tryz.func79, Tryz.ntmps79
  go_wp2
  go_loopw [5, 8] (fun _ i wr => ∃ k : Nat, k ≤ n ∧ i = .int .i64 k ∧ Hid (Below w.heap.size w wr) ∧ Hid (∀ j y, j < k → (jobs l)[j]? = some y → p y = false)) (fun _ i _ => n - (intOf i).toNat)
  case atStart => exact ⟨0, Nat.zero_le _, rfl, Below.refl _ _, fun j y h => by omega⟩
  case round =>
    obtain ⟨k, hk, rfl, hbw, HN⟩ := hrel
    by_cases hlt : k < n
    · obtain ⟨b, o, r, rfl, hbb, hx, KR, JR⟩ := (HT.out.below (hbw.out.mono HBW.out)).elem hlt
      have hi0 : (0 : Int) ≤ (k : Int) := by omega
      have hi1 : (k : Int) < (n : Int) := by omega
      have t0 : decide ((k : Int) < (n : Int)) = true := by simp; omega
      have BW := Nat.le_trans HBW.out hbw.out.size
      have hbl : b < wr.heap.size := Nat.lt_of_lt_of_le hbb BW
      have CSZ := Lib.hid (jrC_info (r := r))
      have CSA := Lib.hid (jrA_info r)
      have C1 := Lib.hid (jrA_all r)
      have CS2 := Lib.hid (jrA_20 r)
      have hcall := Lib.hid (HP.out wr r hbw.out (List.mem_of_getElem? hx.out))
      have HJX := Lib.hid (jobs_at hx.out)
      obtain ⟨x, hxx⟩ : ∃ x, r.x = x := ⟨_, rfl⟩
      rw [hxx] at hcall HJX
      obtain ⟨cs, hcs⟩ : ∃ cs, Hid (jrC r = cs) := ⟨_, rfl⟩
      rw [hcs.out] at KR CSZ hcall
      clear CSA C1 CS2 hcs hx JR hxx
      cases hq : p x with
      | true =>
        rw [hq] at hcall
        have HR : Hid (idxG p (jobs l) = (k : Int)) := by show _ = _; exact idxG_hit HJX.out hq HN.out
        go_wp2_with (first | (refine wpList_load_mid rfl 28 _ rfl b (o + k * 20) rfl cs _ KR.out Tryz.underlying28 rfl CSZ.out ?_) | (go_at_fn g; refine hcall.out.mono ?_; rintro e w1 ⟨rfl, hw1⟩))
        go_ret
        exact ⟨by rw [HR.out] <;> rfl, hw1⟩
      | false =>
        rw [hq] at hcall
        have HN2 : Hid (∀ j y, j < k + 1 → (jobs l)[j]? = some y → p y = false) := Lib.hid (fun j y hj hy => by
          by_cases e : j = k
          · subst e; rw [HJX.out] at hy; rw [← Option.some.inj hy]; exact hq
          · exact HN.out j y (by omega) hy)
        go_wp2_with (first | (refine wpList_load_mid rfl 28 _ rfl b (o + k * 20) rfl cs _ KR.out Tryz.underlying28 rfl CSZ.out ?_) | (go_at_fn g; refine hcall.out.mono ?_; rintro e w1 ⟨rfl, hw1⟩))
        go_roundw
        case rel => exact ⟨k + 1, by omega, by simp, hw1, HN2⟩
        case measure => simp [intOf]; omega
    · obtain rfl : k = n := by omega
      have t0 : decide ((k : Int) < (k : Int)) = false := by simp
      have HR : Hid (idxG p (jobs l) = -1) := by show _ = _; exact idxG_miss (fun j y hj hy => HN.out j y (by rw [← hlj.out]; exact hj) hy)
      go_wp2
      go_ret
      exact ⟨by rw [HR.out] <;> rfl, hbw.out⟩
theorem hasJ_any (p : Jb → Bool) (g : Nat) (lb : Array Value) (eg : ∀ args w, (callFunc g args).run Tryz.prog w = .ok (.enter g args) w) (A : Option Addr) (n c B : Nat) (l : List JR) (w : World)
    (ht : TbAt w B A n l) (hB : B ≤ w.heap.size) (hp : PredJ g lb p l w) :
    Calls Tryz.prog 144 #[.slice A n c, .func (.func g) #[] lb] w fun e w' => e = .returned (.bool ((jobs l).any p)) ∧ Below w.heap.size w w' := by
  have hc := Lib.hid (idxJ_any p g lb eg A n c B l w ht hB hp)
  have HR := Lib.hid (idxG_any p (jobs l))
  obtain ⟨i, hi⟩ : ∃ i, Hid (idxG p (jobs l) = i) := ⟨_, rfl⟩
  rw [hi.out] at hc HR
  clear ht hp
  go_enter Tryz.func144, Tryz.ntmps144
  go_wp2_with (fail)
  refine hc.out.mono ?_; rintro e w' ⟨rfl, hb'⟩
  go_wp2
  go_ret
  exact ⟨by rw [← HR.out]; rfl, hb'⟩
theorem pred_dep15 (id : Int) (g : Nat) (w : World) (hg : g < w.heap.size) (hc : w.cell? ⟨g, 0, none⟩ = some (.int .i64 id)) : PredB 146 #[.pointer (some ⟨g, 0, none⟩)] (fun d => d.2 == id) w := by
  intro W x hb
  obtain ⟨x, y⟩ := x
  have hc2 : W.cell? ⟨g, 0, none⟩ = some (.int .i64 id) := by rw [(bcell hb).1 _ _ hg]; exact hc
  have hg2 : g < W.heap.size := Nat.lt_of_lt_of_le hg hb.size
  have hB := Lib.hid hb
  clear hc hb hg
  show Calls Tryz.prog 146 #[.agg #[.int .i64 x, .int .i64 y], .pointer (some ⟨g, 0, none⟩)] W _
  go_enter Tryz.func146, Tryz.ntmps146
  go_wp2
  go_ret
  exact ⟨rfl, hB.out.alloc hB.out.size _⟩
set_option maxHeartbeats 1000000 in
theorem waited1_r (r : JR) (id : Int) (g B : Nat) (w : World) (hr : JrAt w B r) (hB : B ≤ w.heap.size) (hg : g < w.heap.size) (hc : w.cell? ⟨g, 0, none⟩ = some (.int .i64 id)) :
    Calls Tryz.prog 145 #[.agg (jrC r).toArray, .pointer (some ⟨g, 0, none⟩)] w fun e w' => e = .returned (.bool (waitQ id r.x)) ∧ Below w.heap.size w w' := by
  have eg : ∀ args w, (callFunc 146 args).run Tryz.prog w = .ok (.enter 146 args) w := enters_of Tryz.func146 (by kernel_rfl) rfl
  have q1 := Lib.hid (fun v => over_r r v)
  have q2 := Lib.hid (fun v (hv : Below w.heap.size w v) => hasD_any (fun d => d.2 == id) 146 #[.pointer (some ⟨g, 0, none⟩)] eg r.A2 r.x.after.length r.c2 B r.x.after v (hr.1.2.1.below (hv.mono hB)) (Nat.le_trans hB hv.size) (by have := hr.1.2.2.2.1; omega) (pred_dep15 id g v (Nat.lt_of_lt_of_le hg hv.size) ((hv.cell (p := ⟨g, 0, none⟩) hg).trans hc)))
  have e10 : (jrC r)[10]? = some (.slice r.A2 r.x.after.length r.c2) := rfl
  have HQ : Hid (waitQ id r.x = (!overS r.x && r.x.after.any (fun d => d.2 == id))) := rfl
  have CSA := Lib.hid (jrA_info r)
  obtain ⟨Q, hQ⟩ : ∃ Q, waitQ id r.x = Q := ⟨_, rfl⟩
  obtain ⟨z1, hz1⟩ : ∃ z, overS r.x = z := ⟨_, rfl⟩
  obtain ⟨z2, hz2⟩ : ∃ z, r.x.after.any (fun d => d.2 == id) = z := ⟨_, rfl⟩
  obtain ⟨m, hm⟩ : ∃ m, r.x.after.length = m := ⟨_, rfl⟩
  rw [hQ] at HQ ⊢
  rw [hz1] at q1 HQ
  rw [hz2] at q2 HQ
  rw [hm] at q2 e10
  obtain ⟨cs, hcs⟩ : ∃ cs, Hid (jrC r = cs) := ⟨_, rfl⟩
  rw [hcs.out] at q1 e10 CSA ⊢
  clear hr hB hc hQ hz1 hz2 hm hcs eg
  have J0 : Hid ((w.alloc (.cells cs.toArray 28)).heap[w.heap.size]? = some (.cells cs.toArray 28 (0, 0))) := heap_alloc_new w _
  cases z1
  case true =>
    go_enter Tryz.func145, Tryz.ntmps145
    go_wp2_with (first | (refine wpList_load_row rfl 28 _ rfl (w.heap.size) rfl 28 _ (0, 0) _ J0.out Tryz.underlying28 rfl CSA.out ?_) | (go_at_call 75; refine (q1.out _).mono ?_; rintro e w1 ⟨rfl, hw1⟩))
    go_ret
    exact ⟨by rw [HQ.out] <;> rfl, bt bx0 hw1⟩
  go_enter Tryz.func145, Tryz.ntmps145
  go_wp2_with (refine wpList_load_row rfl 28 _ rfl (w.heap.size) rfl 28 _ (0, 0) _ J0.out Tryz.underlying28 rfl CSA.out ?_)
  refine (q1.out _).mono ?_; rintro e w1 ⟨rfl, hw1⟩
  obtain ⟨g1, hb1, s1⟩ := box_row hw1
  have u10 : w1.cell? ⟨w.heap.size, 10, none⟩ = some (.slice r.A2 m r.c2) := (cell_of_row w1 _ 10 _ _ _ g1).trans (at_arr e10)
  have B1 := Lib.hid hb1
  clear hw1 g1 hb1
  go_wp2_with (fail)
  refine (q2.out _ B1.out).mono ?_; rintro e w2 ⟨rfl, hw2⟩
  go_wp2
  go_ret
  exact ⟨by rw [HQ.out] <;> rfl, bt B1.out hw2⟩
set_option maxHeartbeats 1000000 in
theorem waited_any (l : List JR) (A : Option Addr) (n c B : Nat) (id : Int) (w : World) (ht : TbAt w B A n l) (hB : B ≤ w.heap.size) :
    Calls Tryz.prog 81 #[.slice A n c, .int .i64 id] w fun e w' => e = .returned (.bool (waitP (jobs l) id)) ∧ Below w.heap.size w w' := by
  have eg : ∀ args w, (callFunc 145 args).run Tryz.prog w = .ok (.enter 145 args) w := enters_of Tryz.func145 (by kernel_rfl) rfl
  have hbx : Below w.heap.size w (w.alloc (.cells #[.int .i64 id] 3)) := bx0
  have hcl : (w.alloc (.cells #[.int .i64 id] 3)).cell? ⟨w.heap.size, 0, none⟩ = some (.int .i64 id) := (cell_of_row _ _ 0 _ _ _ (heap_alloc_new w _)).trans rfl
  have hc := Lib.hid (hasJ_any (waitQ id) 145 #[.pointer (some ⟨w.heap.size, 0, none⟩)] eg A n c B l (w.alloc (.cells #[.int .i64 id] 3)) (ht.below (hbx.mono hB)) (Nat.le_trans hB hbx.size)
    (fun W r hv hr => (waited1_r r id w.heap.size B W (((ht.2.1 r hr).below (hbx.mono hB)).below (hv.mono (Nat.le_trans hB hbx.size))) (Nat.le_trans hB (Nat.le_trans hbx.size hv.size)) (Nat.lt_of_lt_of_le (by simp) hv.size) ((hv.cell (p := ⟨w.heap.size, 0, none⟩) (by simp)).trans hcl)).mono fun e w' ⟨he, hb⟩ => ⟨he, bt hv hb⟩))
  have HR : Hid (waitP (jobs l) id = (jobs l).any (waitQ id)) := rfl
  obtain ⟨R, hR⟩ : ∃ R, waitP (jobs l) id = R := ⟨_, rfl⟩
  rw [hR] at HR ⊢
  rw [← HR.out] at hc
  clear ht hR eg hbx hcl
  go_enter Tryz.func81, Tryz.ntmps81
  go_wp2_with (fail)
  refine hc.out.mono ?_; rintro e w1 ⟨rfl, hw1⟩
  go_wp2
  go_ret
  exact ⟨rfl, bt bx0 hw1⟩
theorem add1_r (r : JR) (L : List JR) (A : Option Addr) (n c g B : Nat) (w : World) (hr : JrAt w B r) (ht : TbAt w B A n L) (hB : B ≤ w.heap.size) (hg : g < w.heap.size) (hc : w.cell? ⟨g, 0, none⟩ = some (.slice A n c)) :
    Calls Tryz.prog 80 #[.agg (jrC r).toArray, .pointer (some ⟨g, 0, none⟩)] w fun e w' => e = .returned (.bool (goneQ (jobs L) r.x)) ∧ Below w.heap.size w w' := by
  have q1 := Lib.hid (fun v => over_r r v)
  have q2 := Lib.hid (fun v (hv : Below w.heap.size w v) => waited_any L A n c B r.x.id v (ht.below (hv.mono hB)) (Nat.le_trans hB hv.size))
  have e0 : (jrC r)[0]? = some (.int .i64 r.x.id) := rfl
  have HQ : Hid (goneQ (jobs L) r.x = (overS r.x && !waitP (jobs L) r.x.id)) := rfl
  have CSA := Lib.hid (jrA_info r)
  obtain ⟨Q, hQ⟩ : ∃ Q, goneQ (jobs L) r.x = Q := ⟨_, rfl⟩
  obtain ⟨z1, hz1⟩ : ∃ z, overS r.x = z := ⟨_, rfl⟩
  obtain ⟨z2, hz2⟩ : ∃ z, waitP (jobs L) r.x.id = z := ⟨_, rfl⟩
  obtain ⟨id, hid⟩ : ∃ i, r.x.id = i := ⟨_, rfl⟩
  rw [hQ] at HQ ⊢
  rw [hz1] at q1 HQ
  rw [hz2] at q2 HQ
  rw [hid] at q2 e0
  obtain ⟨cs, hcs⟩ : ∃ cs, Hid (jrC r = cs) := ⟨_, rfl⟩
  rw [hcs.out] at q1 e0 CSA ⊢
  clear hr ht hB hQ hz1 hz2 hid hcs
  have J0 : Hid ((w.alloc (.cells cs.toArray 28)).heap[w.heap.size]? = some (.cells cs.toArray 28 (0, 0))) := heap_alloc_new w _
  cases z1
  case false =>
    go_enter Tryz.func80, Tryz.ntmps80
    go_wp2_with (first | (refine wpList_load_row rfl 28 _ rfl (w.heap.size) rfl 28 _ (0, 0) _ J0.out Tryz.underlying28 rfl CSA.out ?_) | (go_at_call 75; refine (q1.out _).mono ?_; rintro e w1 ⟨rfl, hw1⟩))
    go_ret
    exact ⟨by rw [HQ.out] <;> rfl, bt bx0 hw1⟩
  go_enter Tryz.func80, Tryz.ntmps80
  go_wp2_with (refine wpList_load_row rfl 28 _ rfl (w.heap.size) rfl 28 _ (0, 0) _ J0.out Tryz.underlying28 rfl CSA.out ?_)
  refine (q1.out _).mono ?_; rintro e w1 ⟨rfl, hw1⟩
  obtain ⟨g1, hb1, s1⟩ := box_row hw1
  have u0 : w1.cell? ⟨w.heap.size, 0, none⟩ = some (.int .i64 id) := (cell_of_row w1 _ 0 _ _ _ g1).trans (at_arr e0)
  have ug : w1.cell? ⟨g, 0, none⟩ = some (.slice A n c) := (hb1.cell (p := ⟨g, 0, none⟩) hg).trans hc
  have B1 := Lib.hid hb1
  clear hw1 g1 hb1
  go_wp2_with (fail)
  refine (q2.out _ B1.out).mono ?_; rintro e w2 ⟨rfl, hw2⟩
  cases z2
  all_goals
    go_wp2
    go_ret
    exact ⟨by rw [HQ.out] <;> rfl, bt B1.out hw2⟩
theorem run_clear_one {P : Program} (w : World) (t e ty : TypeId) (z : Value) (ht : P.underlying t = some (.slice e)) (hv : ∀ w, (zeroValue e).run P w = .ok z w) (b o c m : Nat) (hm : z.cells.size = m) (h1 : ∀ v ∈ z.cells.toList, v.oneCell' = true) (hth : w.there b o m) :
    (Builtin.clear_ #[t] ty #[.slice (some ⟨b, o, none⟩) 1 c]).run P w = .ok (.tuple #[]) (w.setCells b o z.cells.toList) := by
  have hzc : (Builtin.zeroCells z.cells 1).toList = z.cells.toList := by
    apply List.ext_getElem
    · simp [Builtin.zeroCells]
    · intro i h1 h2
      have h3 : i < z.cells.size := by simpa using h2
      simp [Builtin.zeroCells, Nat.mod_eq_of_lt h3, getElem!_pos z.cells i h3]
  have hst := run_storeCells_cells (P := P) b o z.cells.toList 0 w (fun j hj => (hth j (by rw [← hm]; simpa using hj)).1) (fun j hj => (hth j (by rw [← hm]; simpa using hj)).2) h1
  simp only [Nat.add_zero] at hst
  simp [Builtin.clear_, run_underlying ht, hv, hzc, hst]
theorem Owns.prefix_ {w : World} {B size n m g c : Nat} {e : TypeId} {xs : List Value} (h : Owns w B e size (.slice (some ⟨g, 0, none⟩) n c) n xs) (hn : 0 < n) (hm : m ≤ n) : Owns w B e size (.slice (some ⟨g, 0, none⟩) m c) m (xs.take (m * size)) := by
  have hmm : m * size ≤ n * size := Nat.mul_le_mul_right size hm
  rcases h with h | ⟨A, _, h0, _⟩
  · rcases h.2 with ⟨h0, _⟩ | ⟨g2, cap, cur, e1, hB, hg, hc, hl, hs, hx⟩
    · cases h0
    · simp only [Value.slice.injEq, Option.some.injEq, Addr.mk.injEq, and_true, true_and] at e1
      obtain ⟨rfl, rfl⟩ := e1
      refine .inl ⟨by rw [List.length_take, h.1]; omega, .inr ⟨_, _, cur, rfl, hB, hg, by omega, hl, hs, ?_⟩⟩
      rw [← hx, List.take_take, Nat.min_eq_left hmm]
  · omega
theorem deleted_cells (l : List JR) (i n : Nat) (zs : List Value) (hl : l.length = n) (hi : i < n) :
    (putL (putL (recs jrC l) (i * 20) (recs jrC (l.drop (i + 1)))) ((i + (n - (i + 1))) * 20) zs).take ((i + (n - (i + 1))) * 20) = recs jrC (l.eraseIdx i) := by
  have h1 : (l.drop (i + 1)).length = n - (i + 1) := by rw [List.length_drop, hl]
  have hN : i + (n - (i + 1)) = n - 1 := by omega
  rw [hN]
  have hle : (l.eraseIdx i).length = n - 1 := by rw [List.length_eraseIdx, if_pos (by omega), hl]
  apply List.ext_getElem?
  intro t
  by_cases ht : t < (n - 1) * 20
  · have htn : t < n * 20 := by have : (n - 1) * 20 ≤ n * 20 := Nat.mul_le_mul_right 20 (by omega); omega
    rw [List.getElem?_take_of_lt ht, putL_get, if_neg (by omega), putL_get, recs_len jrC_len, recs_len jrC_len, h1, hl]
    have e := recs_at jrC_len (l := l.eraseIdx i) (k := t / 20) (j := t % 20) (x := (l.eraseIdx i)[t / 20]'(by omega)) (List.getElem?_eq_getElem _) (by omega)
    rw [show t / 20 * 20 + t % 20 = t by omega] at e
    rw [e]
    have hget := List.getElem?_eraseIdx (l := l) (i := i) (j := t / 20)
    rw [List.getElem?_eq_getElem (by omega)] at hget
    by_cases hc : i * 20 ≤ t
    · rw [if_pos (by constructor <;> omega), if_pos htn]
      rw [if_neg (by omega)] at hget
      have e2 := recs_at jrC_len (l := l.drop (i + 1)) (k := t / 20 - i) (j := t % 20) (x := (l.eraseIdx i)[t / 20]'(by omega)) (by rw [List.getElem?_drop, hget]; congr 1; omega) (by omega)
      rw [show (t / 20 - i) * 20 + t % 20 = t - i * 20 by rw [Nat.sub_mul]; omega] at e2
      exact e2
    · rw [if_neg (by omega)]
      rw [if_pos (by omega)] at hget
      have e2 := recs_at jrC_len (l := l) (k := t / 20) (j := t % 20) (x := (l.eraseIdx i)[t / 20]'(by omega)) hget.symm (by omega)
      rw [show t / 20 * 20 + t % 20 = t by omega] at e2
      exact e2
  · rw [List.getElem?_eq_none (l := recs jrC _) (by rw [recs_len jrC_len, hle]; omega), List.getElem?_eq_none (by rw [List.length_take]; omega)]
theorem Owns.there_ {w : World} {e : TypeId} {B n g c o m : Nat} {xs : List Value} (h : Owns w B e 20 (.slice (some ⟨g, 0, none⟩) n c) n xs) (hn : 0 < n) (ho : o + m ≤ n * 20) : w.there g o m := by
  obtain ⟨g2, c2, ev, _, _, _, _, hc, hz⟩ := h.at_ hn
  simp only [Value.slice.injEq, Option.some.injEq, Addr.mk.injEq, and_true, true_and] at ev
  obtain ⟨rfl, _⟩ := ev
  intro j hj
  have hl := h.len
  refine ⟨?_, hz _⟩
  rw [hc (o + j) (xs[o + j]'(by omega)) (List.getElem?_eq_getElem _)]
  rfl
set_option maxHeartbeats 4000000 in
theorem delete_any (l : List JR) (g n c i B : Nat) (w : World) (ho : Owns w B 28 20 (.slice (some ⟨g, 0, none⟩) n c) n (recs jrC l)) (hi : i < n) (hn : n ≤ 1000) :
    Calls Tryz.prog 82 #[.slice (some ⟨g, 0, none⟩) n c, .int .i64 i, .int .i64 ((i + 1 : Nat) : Int)] w fun e w' => e = .returned (.slice (some ⟨g, 0, none⟩) (i + (n - (i + 1))) c) ∧ Owns w' B 28 20 (.slice (some ⟨g, 0, none⟩) (i + (n - (i + 1))) c) (i + (n - (i + 1))) (recs jrC (l.eraseIdx i)) ∧ Kp w.heap.size (some g) w w' := by
  have hl : l.length = n := by have h := ho.len; rw [recs_len jrC_len] at h; omega
  obtain ⟨g2, c2, ev, hgB, hgw, hnc, hcm, hcell, hfz⟩ := ho.at_ (by omega)
  simp only [Value.slice.injEq, Option.some.injEq, Addr.mk.injEq, and_true, true_and] at ev
  obtain ⟨rfl, rfl⟩ := ev
  have HDC := Lib.hid (fun zs => deleted_cells l i n zs hl hi)
  obtain ⟨j, hj⟩ : ∃ j, Hid (i + 1 = j) := ⟨_, rfl⟩
  obtain ⟨news, hnews⟩ : ∃ news, Hid (recs jrC (l.drop (i + 1)) = news) := ⟨_, rfl⟩
  rw [hnews.out, hj.out] at HDC
  have hj1 := hj.out
  have s1 : Hid (news.length = (n - j) * 20) := by show _ = _; rw [← hnews.out, recs_len jrC_len, List.length_drop, hl, hj.out]
  have s2 : Hid (∀ u ∈ news, u.oneCell' = true) := by show ∀ _, _; rw [← hnews.out]; exact recs_one jrC_one _
  have HO1 := Lib.hid ((ho.drew).storedN (by omega) news (i * 20))
  have HO := Lib.hid ho
  have s3 : Hid (∀ t, t < news.length → (w.drew.cell? ⟨g, 0 + i * 20 + t, none⟩).isSome = true ∧ w.drew.frozen? ⟨g, 0 + i * 20 + t, none⟩ = false) := by
    show ∀ _, _
    intro t ht
    rw [s1.out] at ht
    have h := (HO.out.there_ (o := i * 20) (m := (n - j) * 20) (by omega) (by rw [← Nat.add_mul]; exact Nat.mul_le_mul_right 20 (by omega))) t ht
    rw [Nat.zero_add]
    exact h
  obtain ⟨ad, hA, hsrc⟩ : ∃ A : Addr, (if c = j then (some ⟨g, 0, none⟩ : Option Addr) else some ⟨g, j * 20, none⟩) = some A ∧ Hid (∀ t u, news[t]? = some u → w.drew.cell? (A.add t) = some u) := by
    by_cases h : c = j
    · refine ⟨⟨g, 0, none⟩, by simp [h], ?_⟩
      show ∀ _, _
      intro t u hu
      have h0 : news.length = 0 := by
        have h1 := s1.out
        have h2 : n - j = 0 := by omega
        rw [h2] at h1
        omega
      rw [List.length_eq_zero_iff.1 h0] at hu
      simp at hu
    · refine ⟨⟨g, j * 20, none⟩, by simp [h], ?_⟩
      show ∀ _, _
      intro t u hu
      rw [add_plain]
      refine hcell _ u ?_
      rw [← hnews.out, recs_drop jrC_len, List.getElem?_drop, hj.out] at hu
      exact hu
  obtain ⟨W1, hW1⟩ : ∃ W1, Hid (W1 = w.drew.setCells g (0 + i * 20) news) := ⟨_, rfl⟩
  have HW1 : Hid (W1 = w.drew.setCells g (i * 20) news) := by show _ = _; rw [hW1.out, Nat.zero_add]
  rw [← HW1.out] at HO1
  have hN1 : n - (i + (n - j)) = 1 := by omega
  have hv := Tryz.zeroValue28
  have HTH := Lib.hid (HO1.out.there_ (o := (i + (n - j)) * 20) (m := 20) (by omega) (by rw [← Nat.succ_mul]; exact Nat.mul_le_mul_right 20 (by omega)))
  have hcl : ∀ ty, (Builtin.clear_ #[43] ty #[.slice (some ⟨g, (i + (n - j)) * 20, none⟩) (n - (i + (n - j))) (c - (i + (n - j)))]).run Tryz.prog W1 = .ok (.tuple #[]) (W1.setCells g ((i + (n - j)) * 20) (jbC noJ none 0 none 0)) := by
    intro ty
    rw [hN1]
    exact run_clear_one W1 _ _ ty _ Tryz.underlying43 hv g _ _ 20 rfl (jrC_one ⟨noJ, none, 0, none, 0⟩) HTH.out
  have i0 := Tryz.infoJ
  obtain ⟨inf, hi0, hz0, hz1, hz2⟩ := info_parts i0
  have HEND : Hid (Owns (W1.setCells g ((i + (n - j)) * 20) (jbC noJ none 0 none 0)) B 28 20 (.slice (some ⟨g, 0, none⟩) (i + (n - j)) c) (i + (n - j)) (recs jrC (l.eraseIdx i))) := by
    show Owns _ _ _ _ _ _ _
    rw [← HDC.out (jbC noJ none 0 none 0)]
    exact (HO1.out.storedN (by omega) (jbC noJ none 0 none 0) ((i + (n - j)) * 20)).prefix_ (by omega) (by omega)
  have HKP : Hid (Kp w.heap.size (some g) w (W1.setCells g ((i + (n - j)) * 20) (jbC noJ none 0 none 0))) := by
    show Kp _ _ _ _
    refine setCells_kp _ _ _ _ ?_
    rw [HW1.out]
    exact setCells_kp _ _ _ _ ⟨rfl, rfl, rfl, Nat.le_refl _, fun _ _ _ => rfl⟩
  have b0 : (0 : Int) ≤ (i : Int) := by omega
  have b1 : (i : Int) ≤ (j : Int) := by omega
  have b2 : (j : Int) ≤ (n : Int) := by omega
  have b3 : (n : Int) ≤ (c : Int) := by omega
  have b4 : i ≤ j := by omega
  have b5 : j ≤ n := by omega
  have b6 : i ≤ c := by omega
  have b7 : j ≤ c := by omega
  have b8 : i ≤ n := by omega
  have b9 : i + (n - j) ≤ n := by omega
  have b10 : i + (n - j) ≤ c := by omega
  have b11 : ¬ c = i + (n - j) := by omega
  have b12 : ¬ n = i := by omega
  have t1 : ((i : Int) == (j : Int)) = false := by simp; omega
  have t2 : (i == j) = false := by simp; omega
  rw [hj.out]
  clear hj hj1 hnews ho HO HO1 HTH hcell hfz hN1 HDC hv hi hl i0 hz0 hz2
  go_enter Tryz.func82, Tryz.ntmps82
  go_wp2_with fail
  go_region_law (refine step_append_room rfl (.tmp 22) (.tmp 25) 43 rfl 28 inf 20 Tryz.underlying43 hi0 hz1 g 0 i c (by simp [Act.eval, Act.put]) ad (n - j) (c - j) news (by simp [Act.eval, Act.put, hA]) s1.out hsrc.out s2.out (by omega) s3.out ?_; rw [← hW1.out])
  go_wp2
  go_ret
  exact ⟨rfl, HEND.out, HKP.out⟩
theorem wait_no {id : Int} {x : Jb} (h : ∀ (t : Nat) y, x.after[t]? = some y → (y.2 == id) = false) : waitQ id x = false := by
  unfold waitQ
  rw [show x.after.any (fun d => d.2 == id) = false from List.any_eq_false.2 (fun y hy => by obtain ⟨t, ht⟩ := List.getElem?_of_mem hy; rw [h t y ht]; decide)]
  simp
theorem wait_over {id : Int} {x : Jb} (h : overS x = true) : waitQ id x = false := by unfold waitQ; rw [h]; rfl
theorem wait_yes {id : Int} {x : Jb} {t : Nat} {y : Pr} (h : overS x = false) (ht : x.after[t]? = some y) (hy : (y.2 == id) = true) : waitQ id x = true := by
  unfold waitQ
  rw [h, List.any_eq_true.2 ⟨y, List.mem_of_getElem? ht, hy⟩]; rfl
set_option maxHeartbeats 4000000 in
theorem rwaited_any (l : List JR) (A : Option Addr) (n c B : Nat) (id : Int) (w : World) (ht : TbAt w B A n l) (hB : B ≤ w.heap.size) (hok : ∀ x ∈ jobs l, okJ x = true) :
    Calls Tryz.prog 36 #[.slice A n c, .int .i64 id] w fun e w' => e = .returned (.bool (waitP (jobs l) id)) ∧ Below w.heap.size w w' := by
  have hlj : Hid ((jobs l).length = n) := (jobs_len l).trans ht.len
  have HT := Lib.hid ht
  have HBW := Lib.hid hB
  have HOK := Lib.hid hok
  have hn1 : n ≤ 1000 := ht.2.2
  have HWP : Hid (waitP (jobs l) id = (jobs l).any (waitQ id)) := rfl
  obtain ⟨R, hR⟩ : ∃ R, waitP (jobs l) id = R := ⟨_, rfl⟩
  rw [hR] at HWP ⊢
  clear ht hB hok hR
  go_enter Tryz.func36, Tryz.ntmps36
  go_wp2
  go_loopw [5, 6] (fun i _ wr => ∃ k : Nat, k ≤ n ∧ i = .int .i64 k ∧ Hid (Below w.heap.size w wr) ∧ Hid (∀ j y, j < k → (jobs l)[j]? = some y → waitQ id y = false)) (fun i _ _ => n - (intOf i).toNat)
  case atStart => exact ⟨0, Nat.zero_le _, rfl, Below.refl _ _, fun j y h => by omega⟩
  case round =>
    obtain ⟨k, hk, rfl, hbw, HN⟩ := hrel
    by_cases hlt : k < n
    · obtain ⟨b, o, r, rfl, hbb, hx, KR0, JR0⟩ := HT.out.elem hlt
      have hi0 : (0 : Int) ≤ (k : Int) := by omega
      have hi1 : (k : Int) < (n : Int) := by omega
      have t0 : decide ((k : Int) < (n : Int)) = true := by simp; omega
      have HJX := Lib.hid (jobs_at hx.out)
      have CSZ := Lib.hid (jrC_info (r := r))
      have e10 : (jrC r)[10]? = some (.slice r.A2 r.x.after.length r.c2) := rfl
      have q1 := Lib.hid (fun v => rover_r r v)
      rw [ended_over (HOK.out _ (List.mem_of_getElem? HJX.out))] at q1
      have HAF := Lib.hid (fun v (hv : Below w.heap.size w v) => (JR0.out.1.2.1.below (hv.mono HBW.out) : Reads v B 2 r.A2 r.x.after.length (recs prC r.x.after)))
      have hml : r.x.after.length ≤ 100000 := JR0.out.1.2.2.2.1
      have HRG := Lib.hid (fun v (hv : Below w.heap.size w v) => range_lower KR0.out hbb (hv.mono HBW.out))
      have HN2 : Hid (waitQ id r.x = false → ∀ j y, j < k + 1 → (jobs l)[j]? = some y → waitQ id y = false) := Lib.hid (fun hw j y hj hy => by
        by_cases e : j = k
        · subst e; rw [HJX.out] at hy; rw [← Option.some.inj hy]; exact hw
        · exact HN.out j y (by omega) hy)
      have HYES : Hid (waitQ id r.x = true → R = true) := Lib.hid (fun hw => by rw [HWP.out]; exact List.any_eq_true.2 ⟨r.x, List.mem_of_getElem? HJX.out, hw⟩)
      obtain ⟨AF, hAF⟩ : ∃ a, r.A2 = a := ⟨_, rfl⟩
      obtain ⟨x, hxx⟩ : ∃ x, r.x = x := ⟨_, rfl⟩
      rw [hAF] at e10 HAF
      rw [hxx] at e10 HAF q1 hml HN2 HYES
      obtain ⟨m, hm⟩ : ∃ m, x.after.length = m := ⟨_, rfl⟩
      have HML := Lib.hid hm
      rw [hm] at e10 HAF hml
      obtain ⟨cs, hcs⟩ : ∃ cs, Hid (jrC r = cs) := ⟨_, rfl⟩
      rw [hcs.out] at HRG CSZ q1 e10
      clear hcs hx hxx hAF hm KR0 JR0 HN
      cases zo : overS x
      case true =>
        rw [zo] at q1
        have HW := Lib.hid (HN2.out (wait_over zo))
        clear HN2 HYES
        go_wp2
        go_loopw [6] (fun i wr => ∃ j : Nat, j ≤ m ∧ i = .int .i64 j ∧ Hid (Below w.heap.size w wr)) (fun i _ => m - (intOf i).toNat)
        case atStart => exact ⟨0, Nat.zero_le _, rfl, hbw⟩
        case round =>
          obtain ⟨j, hj, rfl, hbi⟩ := hrel
          have KR := Lib.hid (HRG.out _ hbi.out)
          have k10 := range_cell KR.out e10
          by_cases hjm : j < m
          · have t1 : decide ((j : Int) < (m : Int)) = true := by simp; omega
            go_wp2_with (first | (refine wpList_load_mid_h (by kernel_rfl) 28 _ rfl b (o + k * 20) rfl cs _ KR.out Tryz.underlying28 rfl CSZ.out ?_) | (go_at_call 76; refine (q1.out _).mono ?_; rintro e w1 ⟨rfl, hw1⟩))
            go_roundw
            case rel => exact ⟨k + 1, by omega, by simp, bt hbi.out hw1, HW.out⟩
            case measure => simp [intOf]; omega
          · have t1 : decide ((j : Int) < (m : Int)) = false := by simp; omega
            go_wp2
            go_roundw
            case rel => exact ⟨k + 1, by omega, by simp, hbi, HW.out⟩
            case measure => simp [intOf]; omega
      rw [zo] at q1
      go_wp2
      go_loopw [6] (fun i wr => ∃ j : Nat, j ≤ m ∧ i = .int .i64 j ∧ Hid (Below w.heap.size w wr) ∧ Hid (∀ (t : Nat) y, t < j → x.after[t]? = some y → (y.2 == id) = false)) (fun i _ => m - (intOf i).toNat)
      case atStart => exact ⟨0, Nat.zero_le _, rfl, hbw, fun t y h => by omega⟩
      case round =>
        obtain ⟨j, hj, rfl, hbi, HJ⟩ := hrel
        have KR := Lib.hid (HRG.out _ hbi.out)
        have k10 := range_cell KR.out e10
        by_cases hjm : j < m
        · have t1 : decide ((j : Int) < (m : Int)) = true := by simp; omega
          have hj0 : (0 : Int) ≤ (j : Int) := by omega
          have hj1 : (j : Int) < (m : Int) := by omega
          go_wp2_with (refine wpList_load_mid_h (by kernel_rfl) 28 _ rfl b (o + k * 20) rfl cs _ KR.out Tryz.underlying28 rfl CSZ.out ?_)
          refine (q1.out _).mono ?_; rintro e w1 ⟨rfl, hw1⟩
          have B1 := Lib.hid (bt hbi.out hw1)
          obtain ⟨b2, o2, y, rfl, hb2, hy, c0, c1⟩ := (HAF.out _ B1.out).pr_at hjm
          have k10' := range_cell (HRG.out _ B1.out) e10
          clear k10
          cases zy : y.2 == id
          case true =>
            have HR : Hid (R = true) := HYES.out (wait_yes zo hy.out zy)
            clear HN2 HYES hy
            go_wp2
            go_ret
            exact ⟨by rw [HR.out] <;> rfl, B1.out⟩
          have HJ2 : Hid (∀ (t : Nat) y, t < j + 1 → x.after[t]? = some y → (y.2 == id) = false) := Lib.hid (fun t u ht hu => by
            by_cases e : t = j
            · subst e; rw [hy.out] at hu; rw [← Option.some.inj hu]; exact zy
            · exact HJ.out t u (by omega) hu)
          clear hy
          go_wp2
          go_roundw
          case rel => exact ⟨j + 1, by omega, by simp, B1, HJ2⟩
          case measure => simp [intOf]; omega
        · have t1 : decide ((j : Int) < (m : Int)) = false := by simp; omega
          have HW := Lib.hid (HN2.out (wait_no (fun t y hy => HJ.out t y (by have := (List.getElem?_eq_some_iff.1 hy).1; have := HML.out; omega) hy)))
          clear HN2 HYES
          go_wp2
          go_roundw
          case rel => exact ⟨k + 1, by omega, by simp, hbi, HW.out⟩
          case measure => simp [intOf]; omega
    · obtain rfl : k = n := by omega
      have t0 : decide ((k : Int) < (k : Int)) = false := by simp
      have HR : Hid (R = false) := by
        show _ = _
        rw [HWP.out]
        refine List.any_eq_false.2 (fun y hy => ?_)
        obtain ⟨j, hj⟩ := List.getElem?_of_mem hy
        rw [HN.out j y (by have := (List.getElem?_eq_some_iff.1 hj).1; rw [hlj.out] at this; exact this) hj]
        decide
      go_wp2
      go_ret
      exact ⟨by rw [HR.out] <;> rfl, hbw.out⟩
def oneJ (id : Int) : Jb := ⟨id, ⟨#[97]⟩, ⟨#[117]⟩, ⟨#[120]⟩, ⟨1, [(2, 60)], 0, 0, 0⟩, 0, [], 1, false, 0, -1, 0, 0, 0, 0, 0⟩
set_option maxHeartbeats 4000000 in
theorem one15_any (id : Int) (w : World) : Calls Tryz.prog 69 #[.int .i64 id] w fun e w' => ∃ r : JR, e = .returned (.agg (jrC r).toArray) ∧ r.x = oneJ id ∧ Hid (JrAt w' w'.heap.size r) ∧ Below w.heap.size w w' := by
  go_enter Tryz.func69, Tryz.ntmps69
  go_wp2_with (refine wpList_store_row rfl 28 _ _ rfl (w.heap.size) _ rfl rfl 28 _ (three_two w _ _).1 (by kernel_rfl) rfl (by rw [List.all_toArray]; rfl) ?_)
  (try simp only [Exit.inBlock, Exit.then])
  refine bodyPost_ret (results_cell_row rfl _ _ (w.heap.size) _ _ _ _ rfl (setRow_heap _ _ _ _ _ _ (three_two w _ _).1) Tryz.underlying28 rfl (by kernel_rfl)) rfl ?_
  refine ⟨⟨oneJ id, some ⟨w.heap.size + 1, 0, none⟩, 1, none, 0⟩, rfl, rfl, ⟨⟨?_, Reads.none_, by show 1 ≤ 100000; decide, by show 0 ≤ 100000; decide, by show 1 ≤ 1; decide, by show 0 ≤ 0; decide⟩, ⟨⟨by show 1 ≤ 1000000; decide, by show 1 ≤ 1000000; decide, by show 1 ≤ 1000000; decide⟩, by rw [M64_is]; show (0 : Nat) < _; decide⟩⟩, below_row (((Below.refl _ _).alloc (Nat.le_refl _) _).alloc (by simp) _) (Nat.le_refl _) _⟩
  have h := Reads.madeRec (enc := prC) (w.alloc (.cells #[.int .i64 0, .string ⟨#[]⟩, .string ⟨#[]⟩, .string ⟨#[]⟩, .int .i64 0, .slice none 0 0, .int .i64 0, .int .i64 0, .int .i64 0, .int .i64 0, .slice none 0 0, .int .i64 0, .bool false, .int .i64 0, .int .i64 0, .int .i64 0, .int .i64 0, .int .i64 0, .int .u64 0, .int .i64 0] 28)) ((2, 60) : Pr) 103 rfl
  rw [World.size_alloc] at h
  refine (Reads.only_ h ?_ row_only).more (by simp)
  intro _ ad he
  cases he
  exact Nat.le_refl _
theorem bs_fill {cs : Array Value} (h : 20 = cs.size) : Instr.fill (fun i => some (i * 20, 20)) ((Array.range (1 * 20)).map ((Value.agg (jbA noJ none 0 none 0)).cells[· % (Value.agg (jbA noJ none 0 none 0)).cells.size]!)) [(0, .agg cs)] = some cs := by
  obtain ⟨l⟩ := cs
  obtain ⟨a0, a1, a2, a3, a4, a5, a6, a7, a8, a9, b0, b1, b2, b3, b4, b5, b6, b7, b8, b9, rfl⟩ := twenty (by simpa using h.symm)
  kernel_rfl
theorem step_bs {w : World} {ops : Array Oper} {o : Oper} {a : Act} {K : Act → World → Prop} {Q : Exit → Act → World → Prop} {E : Prop} {x : Operand} {cs : Array Value}
    (hgd : o.guard = none) (ho : o.op = .buildSlice 43 1 #[(0, x)]) (hx : a.eval x = .agg cs) (hcs : 20 = cs.size)
    (h : K (a.put o.dst (.slice (some ⟨w.heap.size, 0, none⟩) 1 1)) (w.alloc (.cells cs 28))) : if Region.wanted o (yielded ops a.tmps) = true then Oper.wp Tryz.prog o a w K Q else E := by
  have hw : Region.wanted o (yielded ops a.tmps) = true := by simp [Region.wanted, hgd]
  rw [if_pos hw]
  obtain ⟨i0, hi0, hz0, hz1, hz2⟩ := info_parts Tryz.infoJ
  refine wp_buildSlice 43 28 1 #[(0, x)] ho cs i0 _ Tryz.underlying43 hi0 hz0 (by rw [hz1]; decide) (by rw [hz1]; decide) ?_ h
  rw [hz1]
  simp only [List.map_toArray, List.map_cons, List.map_nil, hx]
  exact bs_fill hcs
def AppRow (base : Nat) (w w' : World) : Prop := ∃ row, w.grownBy w' row ∧ ∀ g, row = some g → base ≤ g ∧ ∃ cur, w.heap[g]? = some (.cells cur 28 (0, 0))
theorem step_j {w : World} {ops : Array Oper} {o : Oper} {a : Act} {K : Act → World → Prop} {Q : Exit → Act → World → Prop} {E : Prop} {s x : Operand}
    (hgd : o.guard = none) (ho : o.op = .call { callee := .builtin .append, args := #[s, x], argTypes := #[43, 43] })
    (base : Nat) {v : Value} {n : Nat} {xs : List JR} (hs : a.eval s = v) (hown : Owns w base 28 20 v n (recs jrC xs))
    {B : Nat} {A : Option Addr} {m c : Nat} {news : List JR} (hx : a.eval x = .slice A m c) (hr : Reads w B 20 A m (recs jrC news)) (hm : 0 < m)
    (hlen : n + m ≤ 1000000) (hbase : base ≤ w.heap.size)
    (h : ∀ v' w', Owns w' base 28 20 v' (n + m) (recs jrC (xs ++ news)) → AppRow base w w' → K (a.put o.dst v') w') :
    if Region.wanted o (yielded ops a.tmps) = true then Oper.wp Tryz.prog o a w K Q else E := by
  have hw : Region.wanted o (yielded ops a.tmps) = true := by simp [Region.wanted, hgd]
  rw [if_pos hw]
  obtain ⟨i, hi, hz, hsize, hby⟩ := info_parts Tryz.infoJ
  have ht := Tryz.underlying43
  have key : ∃ v' w', (Builtin.append_ #[43, 43] o.type #[v, .slice A m c]).run Tryz.prog w = .ok v' w' ∧ Owns w' base 28 20 v' (n + m) (recs jrC (xs ++ news)) ∧ AppRow base w w' := by
    rw [recs_append]
    rcases hown with hown | ⟨A0, rfl, rfl, h0⟩
    · obtain ⟨v', w', h2, h3, h4, h5⟩ := run_append_any (P := Tryz.prog) w base 43 o.type 28 i _ 20 216 ht hi hz hsize hby rfl (by omega) v n _ hown B A m c _ hr (recs_one jrC_one _) (by simp only [maxLen]; omega) (by omega) hbase
      refine ⟨v', w', h2, .inl h3, ⟨_, h4, fun g hg => ⟨(hown.lt g hg).1, ?_⟩⟩⟩
      rcases hown.2 with ⟨rfl, _⟩ | ⟨g2, cap, cur, rfl, _, hcur, _⟩
      · cases hg
      · obtain rfl : g2 = g := Option.some.inj hg
        exact ⟨cur, hcur⟩
    · obtain ⟨ad, rfl, hb, hc⟩ := hr.2 hm
      rw [h0]
      rcases A0 with _ | a0
      · obtain ⟨v', w', h2, h3, h4, h5⟩ := run_append_any (P := Tryz.prog) w base 43 o.type 28 i _ 20 216 ht hi hz hsize hby rfl (by omega) (.slice none 0 0) 0 [] ⟨by simp, .inl ⟨rfl, rfl⟩⟩ B (some ad) m c _ hr (recs_one jrC_one _) (by simp only [maxLen]; omega) (by omega) hbase
        exact ⟨v', w', h2, .inl h3, ⟨_, h4, fun g hg => by cases hg⟩⟩
      · have hr2 := run_append_grow (P := Tryz.prog) w 43 o.type 28 i _ ht hi hz a0 0 0 [] (by simp) (by simp) ad m c _ (by rw [hsize]; exact hr.1) hc (by omega) (by omega) (growslice_fits (by omega) (by rw [hby]; omega))
        refine ⟨_, _, hr2, .inl ⟨by simp [hr.1], .inr ⟨w.heap.size, _, _, rfl, hbase, heap_alloc_new w.drew _, grownCap_ge w (0 + m) 0 28, grownCap_le_maxLen w (0 + m) 0 28 (by simp only [maxLen]; omega), ?_, ?_⟩⟩, ⟨none, ⟨rfl, rfl, rfl, by simp, fun k hk _ => Below.heap_alloc w.drew _ k hk⟩, fun g hg => by cases hg⟩⟩
        · have hge := grownCap_ge w (0 + m) 0 28
          simp only [Array.size_append, List.size_toArray, size_zeroCells, show (Value.agg (jbA noJ none 0 none 0)).cells.size = 20 from rfl, hr.1, List.length_nil, Nat.zero_add, ← Nat.add_mul]
          congr 1
          simp only [Nat.zero_add] at hge
          omega
        · simp only [Array.toList_append, List.nil_append]
          rw [Nat.zero_add, ← hr.1]
          exact List.take_left
  obtain ⟨v', w', hrun, h2, h3⟩ := key
  unfold Oper.wp execOp
  simp only [ho, resolve, invoke, builtin, Sem.run_bind, Sem.run_pure, Result.andThen_ok, List.map_toArray, List.map_cons, List.map_nil, hs, hx, hrun]
  exact h v' w' h2 h3
theorem AppRow.below {base : Nat} {w0 w w' : World} (h : AppRow base w w') (hb : Below w0.heap.size w0 w) (h1 : w0.heap.size ≤ base) : Below w0.heap.size w0 w' := by
  obtain ⟨row, hg, hr⟩ := h
  exact hb.grown hg hb.size (fun k hk => Nat.le_trans h1 (hr k hk).1)
theorem AppRow.block {base p : Nat} {w w' : World} {z : Array Value} {fr : Nat × Nat} (h : AppRow base w w') (hp : w.heap[p]? = some (.cells z 43 fr)) : w'.heap[p]? = some (.cells z 43 fr) := by
  obtain ⟨row, hg, hr⟩ := h
  have hlt : p < w.heap.size := (Array.getElem?_eq_some_iff.1 hp).1
  rw [hg.block p hlt (fun e => by
    obtain ⟨_, cur, hc⟩ := hr p e.symm
    rw [hp] at hc
    simp at hc)]
  exact hp
theorem Owns.ne_var {w : World} {B n p : Nat} {v : Value} {xs : List Value} {z : Array Value} {fr : Nat × Nat} (h : Owns w B 28 20 v n xs) (hn : 0 < n) (hp : w.heap[p]? = some (.cells z 43 fr)) : v.ownBlock ≠ some p := by
  rcases h with h | ⟨_, _, h0, _⟩
  · rcases h.2 with ⟨_, h0⟩ | ⟨g, cap, cur, rfl, _, hg, _⟩
    · omega
    · intro e
      obtain rfl : g = p := Option.some.inj e
      rw [hp] at hg
      simp at hg
  · omega
def AddRel (w3 : World) (n : Nat) (L : List JR) (p : Value) (w' : World) : Prop :=
  ∃ (g : Nat) (R : Option Addr) (c : Nat), p = .pointer (some ⟨g, 0, none⟩) ∧ Hid (w'.heap[g]? = some (.cells #[.slice R (n + 1) c] 43 (0, 0))) ∧ Hid (Owns w' w3.heap.size 28 20 (.slice R (n + 1) c) (n + 1) (recs jrC L)) ∧ Hid (w3.heap.size ≤ g ∧ n + 1 ≤ c ∧ c ≤ maxLen) ∧ Hid (Below w3.heap.size w3 w')
theorem wp_store_one {P : Program} {o : Oper} {a : Act} {w : World} {K : Act → World → Prop} {Q : Exit → Act → World → Prop} (ty : TypeId) (x y : Operand) (ho : o.op = .store ty x y)
    (g : Nat) (v : Value) (hx : a.eval x = .pointer (some ⟨g, 0, none⟩)) (hy : a.eval y = v) (h1 : v.oneCell' = true)
    (t : TypeId) (old : Value) (hg : w.heap[g]? = some (.cells #[old] t (0, 0))) (hi : (P.info? ty).map (·.size) = some 1)
    (h : K (a.put o.dst undef) (w.setRow g #[v])) : o.wp P a w K Q := by
  subst hy
  unfold Oper.wp execOp
  simp only [ho, hx, Instr.storeAt, Instr.sureAddr, Sem.run_bind, Sem.run_pure, Result.andThen_ok, run_storeVar_one w g t ty old _ hg hi h1]
  exact h
theorem add_rel {w3 wa : World} {n g c : Nat} {L : List JR} {R : Option Addr} {z : Array Value} (hb : Below w3.heap.size w3 wa) (ho : Owns wa w3.heap.size 28 20 (.slice R (n + 1) c) (n + 1) (recs jrC L)) (hp : wa.heap[g]? = some (.cells z 43 (0, 0))) (hg : w3.heap.size ≤ g) :
    AddRel w3 n L (.pointer (some ⟨g, 0, none⟩)) (wa.setRow g #[.slice R (n + 1) c]) := by
  have hne := ho.ne_var (by omega) hp
  obtain ⟨R2, c2, ev, hc, hm⟩ := ho.slice
  simp only [Value.slice.injEq, true_and] at ev
  obtain ⟨rfl, rfl⟩ := ev
  exact ⟨g, R, c, rfl, setRow_heap _ _ _ _ _ _ hp, ho.keep (fun k hk _ _ => Go.setRow_other wa g k _ (fun e => hne (by rw [hk, e]))), ⟨hg, hc, hm⟩, below_row hb hg _⟩
theorem add_late {w3 wa : World} {n c : Nat} {L : List JR} {R : Option Addr} {z : Array Value} (hb : Below w3.heap.size w3 wa) (ho : Owns wa w3.heap.size 28 20 (.slice R (n + 1) c) (n + 1) (recs jrC L)) :
    AddRel w3 n L (.pointer (some ⟨wa.heap.size, 0, none⟩)) ((wa.alloc (.cells z 43)).setRow wa.heap.size #[.slice R (n + 1) c]) :=
  add_rel (hb.alloc hb.size _) (ho.alloc _) (heap_alloc_new wa _) hb.size
theorem hnew {w : World} {o : Obj} {i : Nat} (h : i = w.heap.size) : (w.alloc o).heap[i]? = some o := by subst h; exact heap_alloc_new w o
theorem hold {w : World} {o : Obj} {i : Nat} (h : i < w.heap.size) : (w.alloc o).heap[i]? = w.heap[i]? := Below.heap_alloc _ _ _ h
theorem hcallb {w w' : World} {i : Nat} (hb : Below w.heap.size w w') (h : i < w.heap.size) : w'.heap[i]? = w.heap[i]? := hb.block _ h
theorem row_reads {w : World} {g : Nat} {r : JR} (h : w.heap[g]? = some (.cells (jrC r).toArray 28 (0, 0))) : Reads w w.heap.size 20 (some ⟨g, 0, none⟩) 1 (recs jrC [r]) := by
  refine ⟨rfl, fun _ => ⟨_, rfl, (Array.getElem?_eq_some_iff.1 h).1, fun j u hu => ?_⟩⟩
  rw [recs_single] at hu
  rw [add_plain, Nat.zero_add]
  exact (cell_of_row w g j _ _ _ h).trans (at_arr hu)
end Go.Proofs.YtghmcdfmbjabnaaGreatDoor
