/- Layer 18, plain: ranks, and a row of them put in order. Layer 18: two ranks compared; the sort. Layer 18: the library's sort, at ranks. Layer 18: slices.SortFunc at ranks; a row put in order. Layer 18: a row, sorted: what it is of. -/
import Derived.Test.YtmkmmggimokagaaGreatDoorK1
import Derived.Test.YtmkmmggimokagaaGreatDoorLedW
import Derived.Test.YtmkmmggimokagaaGreatDoorSortShelf
import Derived.Deep.RegionHeld3
import Derived.Test.YtmkmmggimokagaaGreatDoorK6
import Derived.Test.YtmkmmggimokagaaGreatDoorQ3
namespace Go.Proofs.YtmkmmggimokagaaGreatDoor
set_option linter.unusedVariables false
set_option linter.unusedSimpArgs false
open Go.RowKit
/-- what a job is ordered by -/
structure Rk where
  prio : Int
  share : Int
  id : Int
instance : Inhabited Rk := ⟨⟨0, 0, 0⟩⟩
def rkLt (x y : Rk) : Bool := decide (y.prio < x.prio ∨ (x.prio = y.prio ∧ (x.share < y.share ∨ (x.share = y.share ∧ x.id < y.id))))
theorem rk_irr (x : Rk) : rkLt x x = false := by unfold rkLt; simp
theorem rk_asym {x y : Rk} (h : rkLt x y = true) : rkLt y x = false := by unfold rkLt at *; simp at *; omega
theorem rk_trans {x y z : Rk} (h1 : rkLt x y = true) (h2 : rkLt y z = true) : rkLt x z = true := by unfold rkLt at *; simp at *; omega
theorem rk_total {x y : Rk} (h : x.id ≠ y.id) : rkLt x y = true ∨ rkLt y x = true := by unfold rkLt; simp; omega
theorem rk_eq {x y : Rk} (h1 : rkLt x y = false) (h2 : rkLt y x = false) : x = y := by
  unfold rkLt at *
  simp at h1 h2
  cases x; cases y
  simp at *
  omega
theorem rk_ntrans {x y z : Rk} (h1 : rkLt x y = false) (h2 : rkLt y z = false) : rkLt x z = false := by unfold rkLt at *; simp at *; omega
/-- a row put in order -/
def insR (x : Rk) : List Rk → List Rk
  | [] => [x]
  | y :: t => if rkLt y x = true then y :: insR x t else x :: y :: t
def sortR (l : List Rk) : List Rk := l.foldr insR []
theorem insR_perm (x : Rk) : ∀ l, (insR x l).Perm (x :: l)
  | [] => List.Perm.refl _
  | y :: t => by
    unfold insR
    split
    · exact ((insR_perm x t).cons y).trans (List.Perm.swap x y t)
    · exact List.Perm.refl _
theorem sortR_perm : ∀ l, (sortR l).Perm l
  | [] => List.Perm.refl _
  | x :: t => (insR_perm x _).trans ((sortR_perm t).cons x)
/-- ascending: no later one stands ahead of an earlier one -/
def Asc (l : List Rk) : Prop := l.Pairwise fun a b => rkLt b a = false
theorem insR_asc (x : Rk) : ∀ {l}, Asc l → Asc (insR x l)
  | [], _ => by unfold insR Asc; simp
  | y :: t, h => by
    unfold Asc at h ⊢
    rw [List.pairwise_cons] at h
    unfold insR
    split
    · rename_i hl
      rw [List.pairwise_cons]
      refine ⟨fun z hz => ?_, insR_asc x h.2⟩
      rcases List.mem_cons.1 ((insR_perm x t).mem_iff.1 hz) with rfl | hz
      · exact rk_asym hl
      · exact h.1 z hz
    · rename_i hl
      have hl2 : rkLt y x = false := by simpa using hl
      rw [List.pairwise_cons]
      refine ⟨fun z hz => ?_, List.pairwise_cons.2 h⟩
      rcases List.mem_cons.1 hz with rfl | hz
      · exact hl2
      · exact rk_ntrans (h.1 z hz) hl2
theorem sortR_asc : ∀ l, Asc (sortR l)
  | [] => List.Pairwise.nil
  | x :: t => insR_asc x (sortR_asc t)
theorem asc_one {l m : List Rk} (h1 : Asc l) (h2 : Asc m) (hp : l.Perm m) : l = m :=
  List.Perm.eq_of_pairwise (le := fun a b => rkLt b a = false) (fun a b _ _ x y => rk_eq y x) h1 h2 hp
end Go.Proofs.YtmkmmggimokagaaGreatDoor
namespace Go.Proofs.YtmkmmggimokagaaGreatDoor
set_option linter.unusedVariables false
set_option linter.unusedSimpArgs false
open Go.RowKit
theorem cmpi_any (x y : Int) (w : World) : Calls Tryz.prog 58 #[.int .i64 x, .int .i64 y] w fun e w' => e = .returned (.int .i64 (Lib.compareInt x y)) ∧ w = w' := by
  obtain ⟨R, hR⟩ : ∃ q, Hid (Lib.compareInt x y = q) := ⟨_, Lib.hid rfl⟩
  rw [hR.out]
  have hne : ∀ (z : Int) (v : World), Calls Tryz.prog 84 #[.int .i64 z] v fun e w' => e = .returned (.bool false) ∧ v = w' := by
    intro z v
    go_enter Tryz.func84, Tryz.ntmps84
    go_wp2
    go_ret
    exact ⟨by simp, rfl⟩
  rcases Int.lt_trichotomy x y with h | h | h
  · have t1 : decide (x < y) = true := by simpa using h
    have HQ : Hid (R = -1) := by show _ = _; rw [← hR.out]; unfold Lib.compareInt; rw [if_pos h]
    clear hR h
    go_enter Tryz.func58, Tryz.ntmps58
    go_wp2_with (go_at_call 84; refine (hne _ _).mono ?_; rintro e w' ⟨rfl, rfl⟩)
    go_ret
    exact ⟨by rw [HQ.out] <;> rfl, rfl⟩
  · have t1 : decide (x < y) = false := by simp; omega
    have t2 : decide (x > y) = false := by simp; omega
    have t3 : decide (y < x) = false := by simp; omega
    have HQ : Hid (R = 0) := by show _ = _; rw [← hR.out]; unfold Lib.compareInt; rw [if_neg (by omega), if_neg (by omega)]
    clear hR h
    go_enter Tryz.func58, Tryz.ntmps58
    go_wp2_with (go_at_call 84; refine (hne _ _).mono ?_; rintro e w' ⟨rfl, rfl⟩)
    go_ret
    exact ⟨by rw [HQ.out] <;> rfl, rfl⟩
  · have t1 : decide (x < y) = false := by simp; omega
    have t2 : decide (x > y) = true := by simp; omega
    have t3 : decide (y < x) = true := by simp; omega
    have HQ : Hid (R = 1) := by show _ = _; rw [← hR.out]; unfold Lib.compareInt; rw [if_neg (by omega), if_pos (by omega)]
    clear hR h
    go_enter Tryz.func58, Tryz.ntmps58
    go_wp2_with (go_at_call 84; refine (hne _ _).mono ?_; rintro e w' ⟨rfl, rfl⟩)
    go_ret
    exact ⟨by rw [HQ.out] <;> rfl, rfl⟩
def orI3 (a b c : Int) : Int := if a = 0 then (if b = 0 then c else b) else a
set_option maxHeartbeats 400000 in
theorem or3_cells (x y z : Int) (W : World) (g : Nat) (c0 : W.cell? ⟨g, 0, none⟩ = some (.int .i64 x)) (c1 : W.cell? ⟨g, 1, none⟩ = some (.int .i64 y)) (c2 : W.cell? ⟨g, 2, none⟩ = some (.int .i64 z)) :
    Calls Tryz.prog 57 #[.slice (some ⟨g, 0, none⟩) 3 3] W fun e w' => e = .returned (.int .i64 (orI3 x y z)) ∧ W = w' := by
  go_enter Tryz.func57, Tryz.ntmps57
  go_wp2
  go_loop [8] (fun i => (i = .int .i64 0) ∨ (i = .int .i64 1 ∧ Hid (x = 0)) ∨ (i = .int .i64 2 ∧ Hid (x = 0) ∧ Hid (y = 0)) ∨ (i = .int .i64 3 ∧ Hid (x = 0) ∧ Hid (y = 0) ∧ Hid (z = 0))) (fun i => 3 - (intOf i).toNat)
  case atStart => exact .inl rfl
  case round =>
    rcases hrel with rfl | ⟨rfl, hx⟩ | ⟨rfl, hx, hy⟩ | ⟨rfl, hx, hy, hz⟩
    · by_cases h : (x != 0) = true
      · go_wp2
        go_ret
        exact ⟨ret_int (by unfold orI3; rw [if_neg (by simpa using h)]), rfl⟩
      · have h' : (x != 0) = false := by simpa using h
        go_wp2
        go_round
        case rel => exact .inr (.inl ⟨rfl, (show x = 0 by simpa using h)⟩)
        case measure => simp [intOf]
    · by_cases h : (y != 0) = true
      · go_wp2
        go_ret
        exact ⟨ret_int (by unfold orI3; rw [if_pos hx.out, if_neg (by simpa using h)]), rfl⟩
      · have h' : (y != 0) = false := by simpa using h
        go_wp2
        go_round
        case rel => exact .inr (.inr (.inl ⟨rfl, hx, (show y = 0 by simpa using h)⟩))
        case measure => simp [intOf]
    · by_cases h : (z != 0) = true
      · go_wp2
        go_ret
        exact ⟨ret_int (by unfold orI3; rw [if_pos hx.out, if_pos hy.out]), rfl⟩
      · have h' : (z != 0) = false := by simpa using h
        go_wp2
        go_round
        case rel => exact .inr (.inr (.inr ⟨rfl, hx, hy, (show z = 0 by simpa using h)⟩))
        case measure => simp [intOf]
    · go_wp2
      go_ret
      exact ⟨ret_int (by unfold orI3; rw [if_pos hx.out, if_pos hy.out, hz.out]), rfl⟩
/-- a rank as cells: what, prio, share, id -/
def rkC (x : Rk) : List Value := [.int .i64 x.id, .int .i64 x.prio, .int .i64 x.share, .int .i64 x.id]
def cfR (x y : Rk) : Int := orI3 (Lib.compareInt y.prio x.prio) (Lib.compareInt x.share y.share) (Lib.compareInt x.id y.id)
theorem cf_lt (x y : Rk) : ltOf cfR x y = rkLt x y := by
  unfold ltOf cfR orI3 Lib.compareInt rkLt
  congr 1
  apply propext
  repeat' split
  all_goals first | omega | simp_all <;> omega
theorem cf_swo : Go.Sort.SWO (ltOf cfR) where
  irrefl x := by rw [cf_lt]; exact rk_irr x
  trans x y z h1 h2 := by rw [cf_lt] at *; exact rk_trans h1 h2
  ntrans x y z h1 h2 := by rw [cf_lt] at *; exact rk_ntrans h1 h2
set_option maxHeartbeats 4000000 in
theorem against_any (x y : Rk) (w : World) : Calls Tryz.prog 38 #[.agg (rkC x).toArray, .agg (rkC y).toArray] w fun e w' => e = .returned (.int .i64 (cfR x y)) ∧ ∃ q os', w' = Go.Sort.grow (w.drewN q) os' := by
  unfold cfR rkC
  obtain ⟨c1, h1⟩ : ∃ q, Lib.compareInt y.prio x.prio = q := ⟨_, rfl⟩
  obtain ⟨c2, h2⟩ : ∃ q, Lib.compareInt x.share y.share = q := ⟨_, rfl⟩
  obtain ⟨c3, h3⟩ : ∃ q, Lib.compareInt x.id y.id = q := ⟨_, rfl⟩
  have q1 := Lib.hid (fun v => cmpi_any y.prio x.prio v)
  have q2 := Lib.hid (fun v => cmpi_any x.share y.share v)
  have q3 := Lib.hid (fun v => cmpi_any x.id y.id v)
  rw [h1] at q1 ⊢
  rw [h2] at q2 ⊢
  rw [h3] at q3 ⊢
  obtain ⟨xp, xs, xi⟩ := x
  obtain ⟨yp, ys, yi⟩ := y
  dsimp only at q1 q2 q3 ⊢
  clear h1 h2 h3
  go_enter Tryz.func38, Tryz.ntmps38
  go_wp2
  go_region_held3 (fun w' => w'.cell? ⟨w.heap.size, 1, none⟩ = some (.int .i64 xp) ∧ w'.cell? ⟨w.heap.size, 2, none⟩ = some (.int .i64 xs) ∧ w'.cell? ⟨w.heap.size, 3, none⟩ = some (.int .i64 xi) ∧ w'.cell? ⟨w.heap.size + 1, 1, none⟩ = some (.int .i64 yp) ∧ w'.cell? ⟨w.heap.size + 1, 2, none⟩ = some (.int .i64 ys) ∧ w'.cell? ⟨w.heap.size + 1, 3, none⟩ = some (.int .i64 yi)) (go_keep)
    (first | (go_at_call 58; (first | (with_reducible refine (q1.out _).mono ?_) | (with_reducible refine (q2.out _).mono ?_) | (with_reducible refine (q3.out _).mono ?_)); rintro e w' ⟨rfl, rfl⟩) | (go_at_call 57; refine (or3_cells c1 c2 c3 _ _ ?_ ?_ ?_).mono ?_; (focus simp [go_sem]); (focus simp [go_sem]); (focus simp [go_sem]); rintro e w' ⟨rfl, rfl⟩))
  go_wp2
  go_ret
  exact ⟨rfl, 1, _, by simp only [Go.Sort.alloc_eq_grow, Go.Sort.grow_grow, Go.Sort.drew_grow]; rfl⟩
theorem ent_against : Enters Tryz.prog 38 := enters_of Tryz.func38 (by kernel_rfl) rfl
theorem cmp_lays (blk off size : Nat) (w : World) : CmpLays Tryz.prog 38 #[] rkC 4 cfR blk off size w := fun _ _ _ _ x y => against_any x y _
end Go.Proofs.YtmkmmggimokagaaGreatDoor
namespace Go.Proofs.YtmkmmggimokagaaGreatDoor
set_option linter.unusedVariables false
set_option linter.unusedSimpArgs false
open Go.RowKit
theorem rkC_len (x : Rk) : (rkC x).length = 4 := rfl
theorem rkC_one (x : Rk) : ∀ v ∈ rkC x, v.oneCell' = true := by
  intro v hv
  simp only [rkC, List.mem_cons, List.not_mem_nil, or_false] at hv
  rcases hv with rfl | rfl | rfl | rfl <;> rfl
theorem rk_get {l : List Rk} {t : Nat} (h : t < l.length * 4) : (recs rkC l)[t]? = some ((rkC (l.toArray[t / 4]!))[t % 4]!) := by
  have hk : t / 4 < l.length := by omega
  have h1 := recs_at rkC_len (l := l) (k := t / 4) (j := t % 4) (x := l[t / 4]) (List.getElem?_eq_getElem hk) (by omega)
  have h2 : t / 4 * 4 + t % 4 = t := by omega
  rw [h2] at h1
  rw [h1]
  have h3 : l.toArray[t / 4]! = l[t / 4] := by rw [getElem!_pos l.toArray (t / 4) (by simpa using hk)]; simp
  rw [h3]
  have h4 : t % 4 < (rkC l[t / 4]).length := by rw [rkC_len]; omega
  rw [getElem!_pos (rkC l[t / 4]) (t % 4) h4]
  exact List.getElem?_eq_getElem h4
theorem holds_rk {w : World} {g : Nat} {l : List Rk} (hc : ∀ (j : Nat) (u : Value), (recs rkC l)[j]? = some u → w.cell? ⟨g, j, none⟩ = some u) (hf : ∀ j, w.frozen? ⟨g, j, none⟩ = false) : Go.Sort.HoldsK rkC 4 w g 0 l.toArray := by
  intro j hj
  rw [Go.Sort.size_flatK, List.size_toArray] at hj
  rw [Nat.zero_add, Go.Sort.get_flatK _ _ _ _ (by simpa using hj)]
  exact ⟨hc j _ (rk_get hj), hf j⟩
theorem reads_rk {w : World} {g : Nat} {d : Array Rk} (h : Go.Sort.HoldsK rkC 4 w g 0 d) : Reads w (g + 1) 4 (some ⟨g, 0, none⟩) d.size (recs rkC d.toList) := by
  refine ⟨by rw [recs_len rkC_len]; simp, fun _ => ⟨_, rfl, by simp, fun j u hu => ?_⟩⟩
  have hj : j < d.toList.length * 4 := by
    have := (List.getElem?_eq_some_iff.1 hu).1
    rwa [recs_len rkC_len] at this
  have h1 := rk_get hj
  rw [h1] at hu
  have h2 := (h j (by rw [Go.Sort.size_flatK]; simpa using hj)).1
  rw [Nat.zero_add, Go.Sort.get_flatK _ _ _ _ (by simpa using hj)] at h2
  have e : (Addr.add ⟨g, 0, none⟩ j) = ⟨g, j, none⟩ := by unfold Addr.add; split <;> simp_all
  rw [e, h2]
  simpa using hu
theorem sorted_world {w W : World} {g : Nat} {l : List Rk} {d : Array Rk} (h0 : Go.Sort.HoldsK rkC 4 w g 0 l.toArray) (hg : g < w.heap.size) (hs : d.size = l.length) (n : Nat) (os : Array Obj) (hW : W = sortWorldK rkC 4 w g 0 n d os) :
    Go.Sort.HoldsK rkC 4 W g 0 d ∧ W.heap.size = w.heap.size + os.size ∧ (∀ b, b < w.heap.size → b ≠ g → W.heap[b]? = w.heap[b]?) ∧ W.os = w.os ∧ W.tape = w.tape ∧ W.output = w.output := by
  subst hW
  unfold sortWorldK Go.Sort.putRowK
  have h1 : Go.Sort.Holds id (Go.Sort.ahead w n) g 0 (Go.Sort.flatK rkC 4 l.toArray) := h0
  have h2 : (Go.Sort.flatK rkC 4 d).size = (Go.Sort.flatK rkC 4 l.toArray).size := by simp [hs]
  have h3 := Go.Sort.holds_putRow id (Go.Sort.ahead w n) g 0 _ (Go.Sort.flatK rkC 4 d) h1 h2
  refine ⟨Go.Sort.holds_grow id _ os g 0 _ (by simpa using hg) h3, by simp [Go.Sort.ahead], fun b hb hne => ?_, rfl, rfl, rfl⟩
  rw [Go.Sort.heap_grow_old _ _ (by simpa using hb)]
  show (Go.Sort.putRow id (Go.Sort.ahead w n) g 0 (Go.Sort.flatK rkC 4 d)).heap[b]? = w.heap[b]?
  unfold Go.Sort.putRow Go.Sort.mapBlock
  simp [Array.getElem?_modify, Ne.symm hne, Go.Sort.ahead]
theorem agg_rk (w : World) : (isAgg (Tryz.pdqF_ren.t 24)).run Tryz.prog w = .ok true w := by kernel_rfl
theorem size_rk (w : World) : (Go.sizeOf (Tryz.pdqF_ren.t 24)).run Tryz.prog w = .ok 4 w := by kernel_rfl
theorem asc_of {d : Array Rk} (h : Go.Sort.SortedIn (ltOf cfR) 0 d.size d) : Asc d.toList := by
  unfold Asc
  rw [List.pairwise_iff_getElem]
  intro i j hi hj hij
  have := h i j (Nat.zero_le _) hij (by simpa using hj)
  rw [cf_lt, getElem!_pos d i (by simpa using hi), getElem!_pos d j (by simpa using hj)] at this
  simpa using this
/-- what the sort leaves -/
def RetSo (w : World) (g n : Nat) (l : List Rk) (e : Ending) (w' : World) : Prop :=
  e = .returned (.tuple #[]) ∧ ∃ d : Array Rk, d.toList = sortR l ∧ Reads w' (g + 1) 4 (some ⟨g, 0, none⟩) n (recs rkC d.toList) ∧ Kb (· = g) w w'
theorem pdq_any (l : List Rk) (g c lim : Nat) (w : World) (hH : Go.Sort.HoldsK rkC 4 w g 0 l.toArray) (hg : g < w.heap.size) (hn : l.length ≤ 100000) (hl : lim < 4611686018427387904) :
    Calls Tryz.prog 55 #[.slice (some ⟨g, 0, none⟩) l.length c, .int .i64 (0 : Nat), .int .i64 l.length, .int .i64 lim, .func (.func 38) #[] #[]] w (RetSo w g l.length l) := by
  have h := AnyQ.pdqsortCmpFunc_all (P := Tryz.prog) Tryz.pdqF 4 agg_rk size_rk rkC cfR 38 #[] cf_swo g 0 c l.toArray w ent_against (cmp_lays g 0 _ w) ⟨rkC_len, rkC_one, hH, hg⟩ (l.length + 1) 0 l.length lim l.toArray w (by omega) rfl (SWK.start hH) (Nat.zero_le _) (by simp) (by simp; omega) hl (Or.inl rfl)
  have h2 := Go.Sort.pdq_sorts (ltOf cfR) cf_swo l.toArray 0 l.length lim true true (Nat.zero_le _) (by simp) (Or.inl rfl)
  obtain ⟨⟨hs, _, hp⟩, ha⟩ := h2
  generalize Go.Sort.pdq (ltOf cfR) l.toArray 0 l.length lim true true = d at h hs hp ha
  have hsz : d.size = l.length := by simpa using hs
  refine h.mono ?_
  rintro e w' ⟨he, n, os, hW⟩
  obtain ⟨q1, q2, q3, q4, q5, q6⟩ := sorted_world hH hg hsz n os hW
  have hperm : d.toList.Perm l := by
    have e1 : d.extract 0 l.length = d := by rw [← hsz]; simp
    have e2 : l.toArray.extract 0 l.length = l.toArray := by simp
    rw [e1, e2] at hp
    simpa using hp
  have hasc : Asc d.toList := asc_of (by rw [hsz]; exact ha)
  refine ⟨he, d, asc_one hasc (sortR_asc l) (hperm.trans (sortR_perm l).symm), ?_, ⟨q4, q5, q6, by omega, fun b hb hne => q3 b hb hne⟩⟩
  have := reads_rk q1
  rwa [hsz] at this
end Go.Proofs.YtmkmmggimokagaaGreatDoor
namespace Go.Proofs.YtmkmmggimokagaaGreatDoor
set_option linter.unusedVariables false
set_option linter.unusedSimpArgs false
open Go.RowKit
theorem len8_any (n : Nat) (w : World) (h : n ≤ 100000) : Calls Tryz.prog 56 #[.int .u64 n] w fun e w' => e = .returned (.int .i64 (Lib.bitLen n : Nat)) ∧ w' = w := by
  have := Any.bits_Len Tryz.bitsLen8 (n : Int) w (by omega) (by omega)
  rwa [Int.toNat_natCast] at this
set_option maxHeartbeats 1000000 in
theorem ins_none (A : Option Addr) (c : Nat) (cf : Value) (w : World) : Calls Tryz.prog 74 #[.slice A 0 c, .int .i64 0, .int .i64 0, cf] w fun e w' => e = .returned (.tuple #[]) ∧ w' = w := by
  go_enter Tryz.func74, Tryz.ntmps74
  go_wp2
  go_loop [8] (fun i => i = .int .i64 1) (fun _ => 0)
  case atStart => rfl
  case round =>
    subst hrel
    go_wp2
    go_end0
    exact ⟨rfl, rfl⟩
set_option maxHeartbeats 1000000 in
set_option maxRecDepth 100000 in
theorem pdq_none (A : Option Addr) (c lim : Nat) (cf : Value) (w : World) : Calls Tryz.prog 55 #[.slice A 0 c, .int .i64 0, .int .i64 0, .int .i64 lim, cf] w fun e w' => e = .returned (.tuple #[]) ∧ w' = w := by
  have hi := Lib.hid (fun v => ins_none A c cf v)
  go_enter Tryz.func55, Tryz.ntmps55
  go_wp2
  go_loop [1, 2] (fun a b => a = .int .i64 0 ∧ b = .int .i64 0) (fun _ _ => 0)
  case atStart => exact ⟨rfl, rfl⟩
  case round =>
    obtain ⟨rfl, rfl⟩ := hrel
    go_wp2_with (go_at_call 74; refine (hi.out _).mono ?_; rintro e w' ⟨rfl, rfl⟩)
    refine bodyPost_ret (results_none rfl _ _ _) rfl ?_
    exact ⟨rfl, rfl⟩
set_option maxHeartbeats 1000000 in
theorem sortf_any (l : List Rk) (g c : Nat) (w : World) (hH : Go.Sort.HoldsK rkC 4 w g 0 l.toArray) (hg : g < w.heap.size) (hn : l.length ≤ 100000) :
    Calls Tryz.prog 37 #[.slice (some ⟨g, 0, none⟩) l.length c, .func (.func 38) #[] #[]] w (RetSo w g l.length l) := by
  have hlim : Lib.bitLen l.length < 4611686018427387904 := Nat.lt_of_le_of_lt (Lib.bitLen_le l.length 62 (by omega) (by omega)) (by omega)
  have hp := Lib.hid (pdq_any l g c (Lib.bitLen l.length) w hH hg hn hlim)
  have hl := Lib.hid (len8_any l.length w hn)
  have wr : IntKind.u64.wrap (l.length : Int) = l.length := by simp [IntKind.wrap, IntKind.bits, IntKind.signed]; omega
  obtain ⟨n, hnn⟩ : ∃ q, l.length = q := ⟨_, rfl⟩
  rw [hnn] at hp hl wr ⊢
  obtain ⟨m, hm⟩ : ∃ q, Lib.bitLen n = q := ⟨_, rfl⟩
  rw [hm] at hp hl
  clear hH hg hn hlim hnn hm
  go_enter Tryz.func37, Tryz.ntmps37
  go_wp2_with (first | (go_at_call 56; refine hl.out.mono ?_; rintro e w' ⟨rfl, rfl⟩) | (go_at_call 55; refine hp.out.mono ?_; rintro e w' ⟨rfl, d, h1, h2, h3⟩))
  go_end0
  exact ⟨rfl, d, h1, h2, h3⟩
end Go.Proofs.YtmkmmggimokagaaGreatDoor
namespace Go.Proofs.YtmkmmggimokagaaGreatDoor
set_option linter.unusedVariables false
set_option linter.unusedSimpArgs false
open Go.RowKit
theorem sortf_none (A : Option Addr) (c : Nat) (cf : Value) (w : World) : Calls Tryz.prog 37 #[.slice A 0 c, cf] w fun e w' => e = .returned (.tuple #[]) ∧ w' = w := by
  have hl := Lib.hid (len8_any 0 w (by omega))
  have hp := Lib.hid (fun m => pdq_none A c m cf w)
  obtain ⟨m, hm⟩ : ∃ q, Lib.bitLen 0 = q := ⟨_, rfl⟩
  rw [hm] at hl
  clear hm
  go_enter Tryz.func37, Tryz.ntmps37
  go_wp2_with (first | (go_at_call 56; refine hl.out.mono ?_; rintro e w' ⟨rfl, rfl⟩) | (go_at_call 55; refine (hp.out m).mono ?_; rintro e w' ⟨rfl, rfl⟩))
  go_end0
  exact ⟨rfl, rfl⟩
/-- a row's ids, in order, in memory of their own -/
def RetSd (w : World) (v : Value) (n : Nat) (l : List Rk) (e : Ending) (w' : World) : Prop :=
  ∃ r, e = .returned r ∧ Owns w' w.heap.size 3 1 r n (ints ((sortR l).map Rk.id)) ∧ Kb (fun b => v.ownBlock = some b) w w'
theorem rk_at {w : World} {g B n k : Nat} {l : List Rk} (h : Reads w B 4 (some ⟨g, 0, none⟩) n (recs rkC l)) (hk : k < n) :
    ∃ x, Hid (l[k]? = some x) ∧ w.cell? ⟨g, k * 4, none⟩ = some (.int .i64 x.id) ∧ w.cell? ⟨g, k * 4 + 1, none⟩ = some (.int .i64 x.prio) ∧ w.cell? ⟨g, k * 4 + 2, none⟩ = some (.int .i64 x.share) ∧ w.cell? ⟨g, k * 4 + 3, none⟩ = some (.int .i64 x.id) := by
  obtain ⟨b, o, x, e, hb, hx, hc⟩ := h.rec_at rkC_len (by omega) hk
  have e2 := Option.some.inj e
  have e3 : g = b := congrArg Addr.block e2
  have e4 : 0 = o := congrArg Addr.off e2
  subst e3 e4
  have h0 := hc 0 _ rfl
  have h1 := hc 1 _ rfl
  have h2 := hc 2 _ rfl
  have h3 := hc 3 _ rfl
  simp only [Nat.zero_add, Nat.add_zero] at h0 h1 h2 h3
  exact ⟨x, hx, h0, h1, h2, h3⟩
theorem made2 (w : World) (ob : Obj) (v : Int) : Reads ((w.alloc ob).alloc (.cells #[.int .i64 v] 3)) (w.heap.size + 2) 1 (some ⟨w.heap.size + 1, 0, none⟩) 1 (ints [v]) := by
  have h := Reads.made (w.alloc ob) [Value.int .i64 v] 3
  rw [World.size_alloc] at h
  exact h
set_option maxHeartbeats 2000000 in
set_option maxRecDepth 100000 in
theorem sorted_some (l : List Rk) (g c n : Nat) (w : World) (hown : Owns w 0 60 4 (.slice (some ⟨g, 0, none⟩) n c) n (recs rkC l)) (h0 : 0 < n) (hl : l.length = n) (hn : n ≤ 100000) :
    Calls Tryz.prog 20 #[.slice (some ⟨g, 0, none⟩) n c] w (RetSd w (.slice (some ⟨g, 0, none⟩) n c) n l) := by
  obtain ⟨g', c', hv, _, hg, _, _, hc, hf⟩ := hown.at_ h0
  have hv1 : g = g' := by have := congrArg Value.ownBlock hv; simpa [Value.ownBlock] using this
  subst hv1
  have hs := Lib.hid (sortf_any l g c w (holds_rk hc hf) hg (by omega))
  rw [hl] at hs
  have hls : Hid ((sortR l).length = n) := by show _ = _; rw [(sortR_perm l).length_eq, hl]
  have hG := hg
  clear hown hv hc hf hl
  go_enter Tryz.func20, Tryz.ntmps20
  go_wp2_with (go_at_call 37; refine hs.out.mono ?_; rintro e w1 ⟨rfl, d, hd, hr, hk⟩)
  rw [hd] at hr
  have HR := Lib.hid hr
  have HK := Lib.hid hk
  have hgw : g < w1.heap.size := Nat.lt_of_lt_of_le hG hk.size
  have hww := hk.size
  clear hd hr hk hs
  go_loopw [3, 5, 10] (fun t _ i wr => ∃ k : Nat, k ≤ n ∧ i = .int .i64 k ∧ Owns wr w1.heap.size 3 1 t k (ints (((sortR l).map Rk.id).take k)) ∧ Below w1.heap.size w1 wr) (fun _ _ i _ => n - (intOf i).toNat)
  case atStart => exact ⟨0, Nat.zero_le _, rfl, Owns.nil, Below.refl _ _⟩
  case round =>
    obtain ⟨k, hk, rfl, hO, hb⟩ := hrel
    have HO := Lib.hid hO
    clear hO
    by_cases hlt : k < n
    · obtain ⟨x, hx, c0, c1, c2, c3⟩ := rk_at (HR.out.below (hb.mono (by omega))) hlt
      have t0 : decide ((k : Int) < (n : Int)) = true := by simp; omega
      have hj0 : (0 : Int) ≤ (k : Int) := by omega
      have hj1 : (k : Int) < (n : Int) := by omega
      have hT : Hid (((sortR l).map Rk.id).take (k + 1) = ((sortR l).map Rk.id).take k ++ [x.id]) := by
        show _ = _
        rw [List.take_add_one, List.getElem?_map, hx.out]; rfl
      have hzb := hb.size
      have HB := Lib.hid hb
      clear hx hb
      go_wp2_with (at_builtin; refine app_i rfl rfl w1.heap.size rfl ((HO.out.alloc _).alloc _) (news := [x.id]) rfl (made2 wr _ x.id) (by omega) (by simp only [World.size_alloc]; omega) ?_)
      intro v4 w4 o4 k4 _
      have kb4 := Lib.hid (k4.below ((HB.out.alloc hzb _).alloc (by simp only [World.size_alloc]; omega) _) (Nat.le_refl _) (by simp only [World.size_alloc]; omega))
      have O5 : Hid (Owns w4 w1.heap.size 3 1 v4 (k + 1) (ints (((sortR l).map Rk.id).take (k + 1)))) := by
        show Owns _ _ _ _ _ _ _
        rw [hT.out]; exact o4
      clear k4 o4
      go_wp2
      go_roundw
      case rel => exact ⟨k + 1, by omega, by simp, O5.out, kb4.out⟩
      case measure => simp [intOf]; omega
    · obtain rfl : k = n := by omega
      have t0 : decide ((k : Int) < (k : Int)) = false := by simp
      go_wp2
      go_ret
      refine ⟨_, rfl, ?_, ?_⟩
      · have h1 := HO.out
        rw [List.take_of_length_le (by rw [List.length_map, hls.out]; exact Nat.le_refl _)] at h1
        exact h1.mono hww
      · exact (HK.out.mono (fun b e => by rw [e]; rfl)).trans (Kb.of_below hb)
set_option maxRecDepth 100000 in
theorem sorted_none (A : Option Addr) (c : Nat) (w : World) : Calls Tryz.prog 20 #[.slice A 0 c] w (RetSd w (.slice A 0 c) 0 []) := by
  have hs := Lib.hid (fun cf => sortf_none A c cf w)
  go_enter Tryz.func20, Tryz.ntmps20
  go_wp2_with (go_at_call 37; refine (hs.out _).mono ?_; rintro e w1 ⟨rfl, rfl⟩)
  go_loopw [3, 5, 10] (fun t _ i wr => t = .slice none 0 0 ∧ i = .int .i64 0 ∧ w1 = wr) (fun _ _ _ _ => 0)
  case atStart => exact ⟨rfl, rfl, rfl⟩
  case round =>
    obtain ⟨rfl, rfl, rfl⟩ := hrel
    go_wp2
    go_ret
    exact ⟨_, rfl, Owns.nil, Kb.refl _ _⟩
theorem sorted_any (l : List Rk) (v : Value) (n : Nat) (w : World) (hown : Owns w 0 60 4 v n (recs rkC l)) (hn : n ≤ 100000) : Calls Tryz.prog 20 #[v] w (RetSd w v n l) := by
  have hl : l.length = n := by have := hown.len; rw [recs_len rkC_len] at this; omega
  rcases Nat.eq_zero_or_pos n with h0 | h0
  · subst h0
    have hl0 : l = [] := List.length_eq_zero_iff.1 hl
    subst hl0
    obtain ⟨A, c, rfl, _, _⟩ := hown.slice
    exact sorted_none A c w
  · obtain ⟨g, c, rfl, _, _, _, _, _, _⟩ := hown.at_ h0
    exact sorted_some l g c n w hown h0 hl hn
end Go.Proofs.YtmkmmggimokagaaGreatDoor
