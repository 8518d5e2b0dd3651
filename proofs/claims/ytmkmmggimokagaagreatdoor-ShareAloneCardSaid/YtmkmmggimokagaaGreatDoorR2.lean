/- Layer 18, plain: whose turn it is. Layer 18: who stands ahead. Layer 18: the map of what the users have of late, owned by a call. Layer 18: whether a number is one of some. Layer 18: the order of the turns, walked. -/
import Derived.Test.YtmkmmggimokagaaGreatDoorR1
import Derived.Test.YtmkmmggimokagaaGreatDoorQ0
import Derived.Test.YtmkmmggimokagaaGreatDoorLedP2
import Derived.Test.YtmkmmggimokagaaGreatDoorT1
import Derived.Test.YtmkmmggimokagaaGreatDoorLedW10
import Derived.Test.YtmkmmggimokagaaGreatDoorK1
import Derived.Test.YtmkmmggimokagaaGreatDoorQ6
import Derived.Maps.OwnSet
import Derived.Maps.OwnOps
import Derived.StringKeys
import Derived.WalkSpells
namespace Go.Proofs.YtmkmmggimokagaaGreatDoor
set_option linter.unusedVariables false
set_option linter.unusedSimpArgs false
open Go.RowKit
/-- a job's rank, by what its user has of late -/
def rkOf (sh : ByteArray → Int) (x : Jb) : Rk := ⟨x.prio, sh x.user, x.id⟩
/-- as the program asks -/
def aheadP (sh : ByteArray → Int) (a b : Jb) : Bool :=
  if a.prio ≠ b.prio then decide (b.prio < a.prio) else if a.user ≠ b.user ∧ sh a.user ≠ sh b.user then decide (sh a.user < sh b.user) else decide (a.id < b.id)
theorem ahead_rk (sh : ByteArray → Int) (a b : Jb) : aheadP sh a b = rkLt (rkOf sh a) (rkOf sh b) := by
  unfold aheadP rkLt rkOf
  by_cases h1 : a.prio = b.prio
  · rw [if_neg (by simpa using h1)]
    by_cases h2 : a.user = b.user
    · rw [if_neg (by rintro ⟨h, _⟩; exact h h2)]
      congr 1
      apply propext
      dsimp only
      rw [h2]
      omega
    · by_cases h3 : sh a.user = sh b.user
      · rw [if_neg (by rintro ⟨_, h⟩; exact h h3)]
        congr 1
        apply propext
        dsimp only
        omega
      · rw [if_pos ⟨h2, h3⟩]
        congr 1
        apply propext
        dsimp only
        omega
  · rw [if_pos h1]
    congr 1
    apply propext
    dsimp only
    omega
/-- those that are named, by rank -/
def namedR (sh : ByteArray → Int) (jobs : List Jb) (ids : List Int) : List Rk := (jobs.filter fun j => ids.contains j.id).map (rkOf sh)
def orderP (sh : ByteArray → Int) (jobs : List Jb) (ids : List Int) : List Int := (sortR (namedR sh jobs ids)).map Rk.id
theorem order_turned (sh : ByteArray → Int) (jobs : List Jb) (ids : List Int) : orderP sh jobs ids.reverse = orderP sh jobs ids := by
  unfold orderP namedR
  have e : (fun j : Jb => ids.reverse.contains j.id) = fun j => ids.contains j.id := by
    funext j
    rw [Bool.eq_iff_iff]
    simp
  rw [e]
theorem named_mem {sh : ByteArray → Int} {jobs : List Jb} {ids : List Int} {r : Rk} (h : r ∈ namedR sh jobs ids) : ∃ j ∈ jobs, rkOf sh j = r ∧ j.id = r.id := by
  unfold namedR at h
  obtain ⟨j, hj, rfl⟩ := List.mem_map.1 h
  exact ⟨j, (List.mem_filter.1 hj).1, rfl, rfl⟩
theorem named_nodup {sh : ByteArray → Int} {jobs : List Jb} {ids : List Int} (h : (jobs.map (·.id)).Nodup) : ((namedR sh jobs ids).map Rk.id).Nodup := by
  unfold namedR
  rw [List.map_map]
  have e : (Rk.id ∘ rkOf sh) = fun j : Jb => j.id := rfl
  rw [e]
  exact List.Nodup.sublist (List.Sublist.map _ List.filter_sublist) h
/-- what is found, in order, one by one -/
theorem order_pair {sh : ByteArray → Int} {jobs : List Jb} {ids : List Int} (h : (jobs.map (·.id)).Nodup) {i : Nat} {x y : Rk} (hy : (sortR (namedR sh jobs ids))[i]? = some y) (hx : (sortR (namedR sh jobs ids))[i + 1]? = some x) : rkLt y x = true := by
  have hn : ((sortR (namedR sh jobs ids)).map Rk.id).Nodup := ((sortR_perm _).map Rk.id).nodup_iff.2 (named_nodup h)
  obtain ⟨h1, rfl⟩ := List.getElem?_eq_some_iff.1 hy
  obtain ⟨h2, rfl⟩ := List.getElem?_eq_some_iff.1 hx
  have ha : rkLt (sortR (namedR sh jobs ids))[i + 1] (sortR (namedR sh jobs ids))[i] = false := List.pairwise_iff_getElem.1 (sortR_asc _) i (i + 1) h1 h2 (by omega)
  have hne : ((sortR (namedR sh jobs ids))[i]).id ≠ ((sortR (namedR sh jobs ids))[i + 1]).id := by
    intro e
    have h4 := List.pairwise_iff_getElem.1 hn i (i + 1) (by simpa using h1) (by simpa using h2) (by omega)
    simp only [List.getElem_map] at h4
    exact h4 e
  rcases rk_total hne with h3 | h3
  · exact h3
  · rw [ha] at h3; cases h3
/-- who is left out changes nothing of the order of the others -/
theorem order_tail {sh : ByteArray → Int} {jobs : List Jb} {ids : List Int} (h : (jobs.map (·.id)).Nodup) : orderP sh jobs (orderP sh jobs ids).tail = (orderP sh jobs ids).tail := by
  have hn : ((sortR (namedR sh jobs ids)).map Rk.id).Nodup := ((sortR_perm _).map Rk.id).nodup_iff.2 (named_nodup h)
  have hp := sortR_perm (namedR sh jobs ids)
  have ha := sortR_asc (namedR sh jobs ids)
  unfold orderP at *
  generalize hS : sortR (namedR sh jobs ids) = S at *
  cases S with
  | nil =>
    have : namedR sh jobs ([] : List Int) = [] := by unfold namedR; simp
    show (sortR (namedR sh jobs [])).map Rk.id = []
    rw [this]; rfl
  | cons x t =>
    show (sortR (namedR sh jobs (t.map Rk.id))).map Rk.id = t.map Rk.id
    rw [List.map_cons, List.nodup_cons] at hn
    have hat : Asc t := (List.pairwise_cons.1 ha).2
    have hk : namedR sh jobs (t.map Rk.id) = (namedR sh jobs ids).filter fun r => (t.map Rk.id).contains r.id := by
      unfold namedR
      rw [List.filter_map, List.filter_filter]
      congr 1
      apply List.filter_congr
      intro j hj
      show (t.map Rk.id).contains j.id = ((t.map Rk.id).contains j.id && ids.contains j.id)
      cases hc : (t.map Rk.id).contains j.id
      · rfl
      · have hm : j.id ∈ t.map Rk.id := by simpa using hc
        obtain ⟨r, hr, hrj⟩ := List.mem_map.1 hm
        have hr2 : r ∈ namedR sh jobs ids := hp.mem_iff.1 (List.mem_cons_of_mem _ hr)
        unfold namedR at hr2
        obtain ⟨j2, hj2, rfl⟩ := List.mem_map.1 hr2
        have h5 := (List.mem_filter.1 hj2).2
        have : j2.id = j.id := hrj
        rw [this] at h5
        rw [h5]; rfl
    have hperm : (sortR (namedR sh jobs (t.map Rk.id))).Perm t := by
      refine (sortR_perm _).trans ?_
      rw [hk]
      refine (hp.symm.filter _).trans ?_
      rw [List.filter_cons, if_neg (by simpa using fun y hy => fun e => hn.1 (List.mem_map.2 ⟨y, hy, e⟩))]
      rw [List.filter_eq_self.2 (fun r hr => by simpa using ⟨r, hr, rfl⟩)]
    rw [asc_one (sortR_asc _) hat hperm]
end Go.Proofs.YtmkmmggimokagaaGreatDoor
namespace Go.Proofs.YtmkmmggimokagaaGreatDoor
set_option linter.unusedVariables false
set_option linter.unusedSimpArgs false
open Go.RowKit
/-- what a user has of late -/
def shU (l : List U) (u : ByteArray) : Int := togV l (shareF u)
theorem ba_list {a b : ByteArray} : (a.toList == b.toList) = decide (a = b) := by
  rw [Bool.eq_iff_iff, beq_iff_eq, decide_eq_true_eq, ByteArray.toList_eq, ByteArray.toList_eq]
  constructor
  · intro h; exact Go.WideShapes.bytes_inj h
  · intro h; rw [h]
set_option maxHeartbeats 2000000 in
set_option maxRecDepth 100000 in
theorem ahead_any (A : Option Addr) (n c B : Nat) (l : List U) (a b : JR) (w : World) (hn : n ≤ maxLen) (hr : Reads w B 4 A n (recs ucells l)) (hB : B ≤ w.heap.size) :
    Calls Tryz.prog 8 #[.slice A n c, .agg (jrC a).toArray, .agg (jrC b).toArray] w fun e w' => e = .returned (.bool (aheadP (shU l) a.x b.x)) ∧ Below w.heap.size w w' := by
  obtain ⟨R, hR⟩ : ∃ q, Hid (aheadP (shU l) a.x b.x = q) := ⟨_, Lib.hid rfl⟩
  rw [hR.out]
  have q1 := Lib.hid (fun v (hv : Below w.heap.size w v) => share_any A n c B l a.x.user v hn (hr.below (hv.mono hB)) (Nat.le_trans hB hv.size))
  have q2 := Lib.hid (fun v (hv : Below w.heap.size w v) => share_any A n c B l b.x.user v hn (hr.below (hv.mono hB)) (Nat.le_trans hB hv.size))
  have e0 : (jrC a)[0]? = some (.int .i64 a.x.id) := rfl
  have e2 : (jrC a)[2]? = some (.string a.x.user) := rfl
  have e9 : (jrC a)[9]? = some (.int .i64 a.x.prio) := rfl
  have f0 : (jrC b)[0]? = some (.int .i64 b.x.id) := rfl
  have f2 : (jrC b)[2]? = some (.string b.x.user) := rfl
  have f9 : (jrC b)[9]? = some (.int .i64 b.x.prio) := rfl
  obtain ⟨cs, hcs⟩ : ∃ q, jrC a = q := ⟨_, rfl⟩
  obtain ⟨ds, hds⟩ : ∃ q, jrC b = q := ⟨_, rfl⟩
  rw [hcs] at e0 e2 e9 ⊢
  rw [hds] at f0 f2 f9 ⊢
  clear hcs hds hr hB hn
  obtain ⟨x, hx⟩ : ∃ q, shU l a.x.user = q := ⟨_, rfl⟩
  obtain ⟨y, hy⟩ : ∃ q, shU l b.x.user = q := ⟨_, rfl⟩
  have HP : Hid (R = if a.x.prio ≠ b.x.prio then decide (b.x.prio < a.x.prio) else if a.x.user ≠ b.x.user ∧ x ≠ y then decide (x < y) else decide (a.x.id < b.x.id)) := by show _ = _; rw [← hR.out, ← hx, ← hy]; rfl
  have hx2 : togV l (shareF a.x.user) = x := hx
  have hy2 : togV l (shareF b.x.user) = y := hy
  rw [hx2] at q1
  rw [hy2] at q2
  clear hx hy hx2 hy2 hR
  obtain ⟨W0, hW0⟩ : ∃ W0, Hid ((w.alloc (.cells cs.toArray 29)).alloc (.cells ds.toArray 29) = W0) := ⟨_, Lib.hid rfl⟩
  have hz0 : W0.heap.size = w.heap.size + 2 := by rw [← hW0.out]; simp
  have HBX : Hid (Below w.heap.size w W0) := by rw [← hW0.out]; exact ((Below.refl _ _).alloc (Nat.le_refl _) _).alloc (by simp) _
  have hcx : W0.heap[w.heap.size]? = some (.cells cs.toArray 29 (0, 0)) := by rw [← hW0.out]; exact (Below.heap_alloc _ _ _ (by simp)).trans (heap_alloc_new w _)
  have hcy : W0.heap[w.heap.size + 1]? = some (.cells ds.toArray 29 (0, 0)) := by
    rw [← hW0.out]
    have h := heap_alloc_new (w.alloc (.cells cs.toArray 29)) (.cells ds.toArray 29)
    rwa [World.size_alloc] at h
  have x0 : W0.cell? ⟨w.heap.size, 0, none⟩ = some (.int .i64 a.x.id) := (cell_of_row W0 _ 0 _ _ _ hcx).trans (at_arr e0)
  have x2 : W0.cell? ⟨w.heap.size, 2, none⟩ = some (.string a.x.user) := (cell_of_row W0 _ 2 _ _ _ hcx).trans (at_arr e2)
  have x9 : W0.cell? ⟨w.heap.size, 9, none⟩ = some (.int .i64 a.x.prio) := (cell_of_row W0 _ 9 _ _ _ hcx).trans (at_arr e9)
  have y0 : W0.cell? ⟨w.heap.size + 1, 0, none⟩ = some (.int .i64 b.x.id) := (cell_of_row W0 _ 0 _ _ _ hcy).trans (at_arr f0)
  have y2 : W0.cell? ⟨w.heap.size + 1, 2, none⟩ = some (.string b.x.user) := (cell_of_row W0 _ 2 _ _ _ hcy).trans (at_arr f2)
  have y9 : W0.cell? ⟨w.heap.size + 1, 9, none⟩ = some (.int .i64 b.x.prio) := (cell_of_row W0 _ 9 _ _ _ hcy).trans (at_arr f9)
  have b0 : w.heap.size < W0.heap.size := by omega
  have b1 : w.heap.size + 1 < W0.heap.size := by omega
  have HBe : Hid ((a.x.user.toList == b.x.user.toList) = decide (a.x.user = b.x.user)) := Lib.hid ba_list
  obtain ⟨⟨ai, an, au, ac, ash, ap, aaf, ast, ah, abo, apr, ach, asta, ali, ano, aus⟩, aA, ac1, aA2, ac2⟩ := a
  obtain ⟨⟨bi, bn, bu, bc, bsh, bp, baf, bst, bh, bbo, bpr, bch, bsta, bli, bno, bus⟩, bA, bc1, bA2, bc2⟩ := b
  dsimp only at q1 q2 HP x0 x2 x9 y0 y2 y9 HBe
  clear e0 e2 e9 f0 f2 f9 hcx hcy
  by_cases hp : ap = bp
  case neg =>
    have t1 : (ap != bp) = true := by simpa using hp
    have HR : Hid (R = decide (bp < ap)) := Lib.hid (HP.out.trans (if_pos hp))
    obtain ⟨z, hz⟩ : ∃ q, decide (bp < ap) = q := ⟨_, rfl⟩
    have hz2 : decide (ap > bp) = z := hz
    rw [hz] at HR
    clear hp HP
    go_enter Tryz.func8, Tryz.ntmps8
    go_upto_region 1 with (fail)
    rw [hW0.out]
    go_wp2
    go_ret
    exact ⟨by rw [HR.out]; rfl, HBX.out⟩
  have t1 : (ap != bp) = false := by simpa using hp
  by_cases hu : au = bu
  case pos =>
    have t2 : (au.toList == bu.toList) = true := by rw [HBe.out]; simpa using hu
    have t3 : (au.toList != bu.toList) = false := by show (!(au.toList == bu.toList)) = false; rw [t2]; rfl
    have HR : Hid (R = decide (ai < bi)) := Lib.hid (HP.out.trans ((if_neg (by simpa using hp)).trans (if_neg (fun h => h.1 hu))))
    obtain ⟨z, hz⟩ : ∃ q, decide (ai < bi) = q := ⟨_, rfl⟩
    rw [hz] at HR
    clear hp HP hu
    go_enter Tryz.func8, Tryz.ntmps8
    go_upto_region 1 with (fail)
    rw [hW0.out]
    go_wp2
    go_ret
    exact ⟨by rw [HR.out]; rfl, HBX.out⟩
  have t2 : (au.toList == bu.toList) = false := by rw [HBe.out]; simpa using hu
  have t3 : (au.toList != bu.toList) = true := by show (!(au.toList == bu.toList)) = true; rw [t2]; rfl
  by_cases hs : x = y
  case pos =>
    have t4 : (x != y) = false := by simpa using hs
    have HR : Hid (R = decide (ai < bi)) := Lib.hid (HP.out.trans ((if_neg (by simpa using hp)).trans (if_neg (fun h => h.2 hs))))
    obtain ⟨z, hz⟩ : ∃ q, decide (ai < bi) = q := ⟨_, rfl⟩
    rw [hz] at HR
    clear hp HP hu hs
    go_enter Tryz.func8, Tryz.ntmps8
    go_upto_region 1 with (fail)
    rw [hW0.out]
    go_upto_region 4 with (fail)
    refine wp_region_later (by kernel_rfl) (by kernel_rfl) ?_
    have hl_ := later_cell (W0)
    repeat (first | go_big_quiet_step (((go_at_call 16; first | (with_reducible exact later_of (q1.out _ (HBX.out.trans ((Later.below _).mono HBX.out.size)))) | (with_reducible exact later_of (q2.out _ (HBX.out.trans ((Later.below _).mono HBX.out.size))))))) | quiet_step (((go_at_call 16; first | (with_reducible exact later_of (q1.out _ (HBX.out.trans ((Later.below _).mono HBX.out.size)))) | (with_reducible exact later_of (q2.out _ (HBX.out.trans ((Later.below _).mono HBX.out.size))))))))
    refine wpQuiet_nil ?_
    intro w9 hx_
    obtain ⟨⟨w_, hb9⟩, e_⟩ := hx_
    have e2_ : w9 = w_ := e_
    clear e_
    subst e2_
    clear hl_
    have g0 := (hb9.cell (p := ⟨w.heap.size, 0, none⟩) b0).trans x0
    have g1 := (hb9.cell (p := ⟨w.heap.size + 1, 0, none⟩) b1).trans y0
    have B9 := Lib.hid (bt HBX.out hb9)
    clear hb9
    go_wp2
    go_ret
    exact ⟨by rw [HR.out]; rfl, B9.out⟩
  have t4 : (x != y) = true := by simpa using hs
  have HR : Hid (R = decide (x < y)) := Lib.hid (HP.out.trans ((if_neg (by simpa using hp)).trans (if_pos ⟨hu, hs⟩)))
  obtain ⟨z, hz⟩ : ∃ q, decide (x < y) = q := ⟨_, rfl⟩
  rw [hz] at HR
  clear hp HP hu hs
  go_enter Tryz.func8, Tryz.ntmps8
  go_upto_region 1 with (fail)
  rw [hW0.out]
  go_upto_region 4 with (fail)
  refine wp_region_later (by kernel_rfl) (by kernel_rfl) ?_
  have hl_ := later_cell (W0)
  repeat (first | go_big_quiet_step (((go_at_call 16; first | (with_reducible exact later_of (q1.out _ (HBX.out.trans ((Later.below _).mono HBX.out.size)))) | (with_reducible exact later_of (q2.out _ (HBX.out.trans ((Later.below _).mono HBX.out.size))))))) | quiet_step (((go_at_call 16; first | (with_reducible exact later_of (q1.out _ (HBX.out.trans ((Later.below _).mono HBX.out.size)))) | (with_reducible exact later_of (q2.out _ (HBX.out.trans ((Later.below _).mono HBX.out.size))))))))
  refine wpQuiet_nil ?_
  intro w9 hx_
  obtain ⟨⟨w_, hb9⟩, e_⟩ := hx_
  have e2_ : w9 = w_ := e_
  clear e_
  subst e2_
  clear hl_
  have B9 := Lib.hid (bt HBX.out hb9)
  clear hb9
  go_wp2
  go_ret
  exact ⟨by rw [HR.out]; rfl, B9.out⟩
end Go.Proofs.YtmkmmggimokagaaGreatDoor
namespace Go.Proofs.YtmkmmggimokagaaGreatDoor
set_option linter.unusedVariables false
open Go.RowKit
theorem lawS : Go.Maps.Keyed Tryz.prog 9 := Go.Maps.string_keyed Tryz.underlying9
theorem zeroS (w : World) : (zeroValue 3).run Tryz.prog w = .ok (.int .i64 0) w := by kernel_rfl
theorem keyS {k : ByteArray} (h : k.size ≤ maxLen) : keyOf Tryz.prog 9 (.string k) = some (.string k.data.toList) := Go.WideMaps.keyOf_string_mk Tryz.underlying9 h
theorem dt_inj {a b : ByteArray} (h : a.data.toList = b.data.toList) : a = b := by
  cases a; cases b
  congr 1
  exact Array.toList_inj.1 h
/-- block b is a map of at most n shares that reads as f -/
def StS (w : World) (b n : Nat) (f : ByteArray → Option Int) : Prop :=
  ∃ D : DataW Unit, w.ownsMap Tryz.prog 9 (plainElem Tryz.prog 3) b n D ∧ ∀ k : ByteArray, k.size ≤ maxLen → Maps.has D (.string k.data.toList) = (f k).isSome ∧ D.atKey (.string k.data.toList) (.lit (.int .i64 0)) = .lit (.int .i64 ((f k).getD 0))
theorem StS.lt {w : World} {b n : Nat} {f : ByteArray → Option Int} (h : StS w b n f) : b < w.heap.size := by
  obtain ⟨D, h1, _⟩ := h
  exact h1.lt
theorem StS.blk {w w' : World} {b n : Nat} {f : ByteArray → Option Int} (h : StS w b n f) (hb : w'.heap[b]? = w.heap[b]?) : StS w' b n f := by
  obtain ⟨D, ⟨es, clock, h1, h2⟩, h3⟩ := h
  exact ⟨D, ⟨es, clock, hb.trans h1, h2⟩, h3⟩
theorem StS.below {w w' : World} {b n B : Nat} {f : ByteArray → Option Int} (h : StS w b n f) (hb : Below B w w') (hB : b < B) : StS w' b n f := h.blk (hb.block b hB)
theorem StS.up {w w' : World} {b n : Nat} {f : ByteArray → Option Int} (h : StS w b n f) (hb : Below w.heap.size w w') : StS w' b n f := h.below hb h.lt
theorem StS.made (w : World) : StS (w.alloc (.map #[] 0)) w.heap.size 0 (fun _ => none) :=
  ⟨.map [], World.ownsMap_made _ _ _ _, fun k _ => ⟨rfl, rfl⟩⟩
theorem StS.congr {w : World} {b n : Nat} {f g : ByteArray → Option Int} (h : StS w b n f) (e : ∀ k, f k = g k) : StS w b n g := by
  obtain ⟨D, h1, h2⟩ := h
  exact ⟨D, h1, fun k hk => by rw [← e k]; exact h2 k hk⟩
section
variable {w : World} {ops : Array Oper} {rest : List Oper} {o : Oper} {a : Act} {Q : Exit → Act → World → Prop}
theorem ss_look (hg : o.guard = none) (m x : Operand) (hop : o.op = Op.lookup 56 m x true) (b n : Nat) (f : ByteArray → Option Int) (hm : a.eval m = .map (some b)) (h : StS w b n f) (key : ByteArray) (hx : a.eval x = .string key) (hk : key.size ≤ maxLen)
    (hK : wpList Tryz.prog ops Q rest (a.put o.dst (.tuple #[.int .i64 ((f key).getD 0), .bool (f key).isSome])) w) : wpList Tryz.prog ops Q (o :: rest) a w := by
  obtain ⟨D, h1, h2⟩ := h
  refine wpList_lookup_own_ok_int w hg m x 56 hop 9 3 .i64 lawS Tryz.underlying56 Tryz.underlying3 (zeroS w) b n D hm h1 _ _ hx (keyS hk) ?_
  intro c hat _
  obtain ⟨e1, e2⟩ := h2 key hk
  rw [e2] at hat
  have : c = (f key).getD 0 := by
    injection hat with h5
    injection h5 with _ h6
    exact h6.symm
  rw [this, e1]
  exact hK
theorem ss_get (hg : o.guard = none) (m x : Operand) (hop : o.op = Op.lookup 56 m x false) (b n : Nat) (f : ByteArray → Option Int) (hm : a.eval m = .map (some b)) (h : StS w b n f) (key : ByteArray) (hx : a.eval x = .string key) (hk : key.size ≤ maxLen)
    (hK : wpList Tryz.prog ops Q rest (a.put o.dst (.int .i64 ((f key).getD 0))) w) : wpList Tryz.prog ops Q (o :: rest) a w := by
  obtain ⟨D, h1, h2⟩ := h
  refine wpList_lookup_own_int w hg m x 56 hop 9 3 .i64 lawS Tryz.underlying56 Tryz.underlying3 (zeroS w) b n D hm h1 _ _ hx (keyS hk) ?_
  intro c hat _
  obtain ⟨e1, e2⟩ := h2 key hk
  rw [e2] at hat
  have : c = (f key).getD 0 := by
    injection hat with h5
    injection h5 with _ h6
    exact h6.symm
  rw [this]
  exact hK
theorem ss_put (hg : o.guard = none) (m x v : Operand) (hop : o.op = Op.mapUpdate 56 m x v) (b n : Nat) (f : ByteArray → Option Int) (hm : a.eval m = .map (some b)) (h : StS w b n f) (hn : n ≤ 1000000) (key : ByteArray) (s : Int) (hx : a.eval x = .string key) (hv : a.eval v = .int .i64 s) (hk : key.size ≤ maxLen) (hs : (Lit.int .i64 s).wf = true)
    (hK : ∀ w', StS w' b (n + 1) (fun k => if k = key then some s else f k) → Kp w.heap.size (some b) w w' → wpList Tryz.prog ops Q rest (a.put o.dst undef) w') : wpList Tryz.prog ops Q (o :: rest) a w := by
  obtain ⟨D, h1, h2⟩ := h
  refine wpList_mapUpdate_in w hg m x v 56 hop 9 3 lawS Tryz.underlying56 _ b n D hm h1 (by unfold maxLen; omega) _ _ _ hx hv (keyS hk) _ [] (plainElem_int Tryz.underlying3 hs) ?_
  intro w' h3 h4
  refine hK w' ⟨_, h3, fun k hwk => ?_⟩ ?_
  · by_cases e : k = key
    · subst e
      simp only [if_true]
      exact ⟨Maps.has_put_same h1.isMap (k := .string k.data.toList) (show True from trivial) _, Maps.atKey_put_same h1.isMap (k := .string k.data.toList) (show True from trivial) _ _⟩
    · simp only [if_neg e]
      have e2 : ¬ k.data.toList = key.data.toList := fun h => e (dt_inj h)
      rw [Maps.has_put_other (by simpa using e2), Maps.atKey_put_other (by simpa using e2)]
      exact h2 k hwk
  · exact Kp.of_grown h4.grown (Nat.le_refl _)
end
/-- the store's own equation, for regions that draw their order -/
theorem ss_run {w : World} {b n : Nat} {f : ByteArray → Option Int} (h : StS w b n f) (hn : n ≤ 1000000) (key : ByteArray) (s : Int) (hk : key.size ≤ maxLen) (hs : (Lit.int .i64 s).wf = true) :
    ∃ w', (Instr.mapUpdate 56 (.map (some b)) (.string key) (.int .i64 s)).run Tryz.prog w = .ok () w' ∧ StS w' b (n + 1) (fun k => if k = key then some s else f k) ∧ Kp w.heap.size (some b) w w' := by
  obtain ⟨D, h1, h2⟩ := h
  obtain ⟨w', hrun, h3, h4⟩ := h1.store lawS Tryz.underlying56 (by unfold maxLen; omega) (keyS hk) (plainElem_int Tryz.underlying3 hs)
  refine ⟨w', hrun, ⟨_, h3, fun k hwk => ?_⟩, Kp.of_grown h4.grown (Nat.le_refl _)⟩
  by_cases e : k = key
  · subst e
    simp only [if_true]
    exact ⟨Maps.has_put_same h1.isMap (k := .string k.data.toList) (show True from trivial) _, Maps.atKey_put_same h1.isMap (k := .string k.data.toList) (show True from trivial) _ _⟩
  · simp only [if_neg e]
    have e2 : ¬ k.data.toList = key.data.toList := fun h => e (dt_inj h)
    rw [Maps.has_put_other (by simpa using e2), Maps.atKey_put_other (by simpa using e2)]
    exact h2 k hwk
theorem sfind_first {α : Type} {p : α → Bool} {l : List α} {k : Nat} {x : α} (hx : l[k]? = some x) (hp : p x = true) (h : ∀ y ∈ l.take k, p y = false) : l.findIdx? p = some k := by
  rw [List.findIdx?_eq_some_iff_getElem]
  obtain ⟨h1, rfl⟩ := List.getElem?_eq_some_iff.1 hx
  refine ⟨h1, hp, fun j hj => ?_⟩
  have := h l[j] (List.mem_take_iff_getElem.2 ⟨j, by omega, rfl⟩)
  rw [this]; decide
theorem sfind_none {α : Type} {p : α → Bool} {l : List α} (h : ∀ y ∈ l, p y = false) : l.findIdx? p = none := by
  rw [List.findIdx?_eq_none_iff]
  exact h
def sidx (l : List Int) (x : Int) : Int := match l.findIdx? (fun y => x == y) with | some k => (k : Int) | none => -1
theorem sidx_any (l : List Int) (x : Int) : decide (0 ≤ sidx l x) = l.contains x := by
  unfold sidx
  cases h : l.findIdx? (fun y => x == y) with
  | none =>
    rw [List.findIdx?_eq_none_iff] at h
    have : ¬ x ∈ l := fun hm => by have := h x hm; simp at this
    have e : l.contains x = false := by simpa using this
    rw [e]; rfl
  | some i =>
    rw [List.findIdx?_eq_some_iff_getElem] at h
    obtain ⟨h1, h2, _⟩ := h
    have h3 : x = l[i] := by simpa using h2
    have e : l.contains x = true := by rw [h3]; simp
    rw [e]; simp
theorem sindex_any (A : Option Addr) (n c B : Nat) (l : List Int) (x : Int) (w : World) (hr : Reads w B 1 A n (ints l)) (hn : n ≤ 1000000) :
    Calls Tryz.prog 36 #[.slice A n c, .int .i64 x] w fun e w' => e = .returned (.int .i64 (sidx l x)) ∧ w = w' := by
  have hlen := hr.len
  go_enter Tryz.func36, Tryz.ntmps36
  go_wp2
  go_loop [8] (fun i => ∃ k : Nat, k ≤ n ∧ i = .int .i64 k ∧ Hid (∀ y ∈ l.take k, (x == y) = false)) (fun i => n - (intOf i).toNat)
  case atStart => exact ⟨0, Nat.zero_le _, rfl, (by show ∀ y ∈ _, _; simp)⟩
  case round =>
    obtain ⟨k, hk, rfl, HA⟩ := hrel
    by_cases hlt : k < n
    · obtain ⟨b, o, rfl, hb, hc⟩ := hr.plain (by omega) (by omega)
      obtain ⟨y, hy⟩ : ∃ y, Hid (l[k]? = some y) := ⟨_, List.getElem?_eq_getElem (by rw [hlen.out]; exact hlt)⟩
      have c0 := hc k (.int .i64 y) (by rw [ints, List.getElem?_map, hy.out]; rfl)
      have hj0 : (0 : Int) ≤ (k : Int) := by omega
      have hj1 : (k : Int) < (n : Int) := by omega
      clear hc hr
      by_cases he : x = y
      · have t1 : (x == y) = true := by simpa using he
        have hf : Hid (sidx l x = (k : Int)) := by show _ = _; unfold sidx; rw [sfind_first (p := fun y => x == y) hy.out t1 HA.out]
        clear he
        go_wp2
        go_ret
        exact ⟨by rw [hf.out]; rfl, rfl⟩
      · have t1 : (x == y) = false := by simpa using he
        have HB : Hid (∀ y ∈ l.take (k + 1), (x == y) = false) := by
          show ∀ y ∈ _, _
          intro z hz
          rw [List.take_add_one, hy.out, List.mem_append] at hz
          rcases hz with hz | hz
          · exact HA.out z hz
          · simp only [Option.toList_some, List.mem_singleton] at hz; subst hz; exact t1
        clear he
        go_wp2
        go_round
        case rel => exact ⟨k + 1, by omega, by go_num, HB⟩
        case measure => simp [intOf]; omega
    · have hf : Hid (sidx l x = -1) := by
        show _ = _; unfold sidx
        rw [sfind_none (p := fun y => x == y)]
        have := HA.out
        rw [List.take_of_length_le (by rw [hlen.out]; omega)] at this
        exact this
      clear hr
      go_wp2
      go_ret
      exact ⟨by rw [hf.out]; rfl, rfl⟩
theorem scontains_any (A : Option Addr) (n c B : Nat) (l : List Int) (x : Int) (w : World) (hr : Reads w B 1 A n (ints l)) (hn : n ≤ 1000000) :
    Calls Tryz.prog 19 #[.slice A n c, .int .i64 x] w fun e w' => e = .returned (.bool (l.contains x)) ∧ w = w' := by
  have h := Lib.hid (sindex_any A n c B l x w hr hn)
  have HA := Lib.hid (sidx_any l x)
  obtain ⟨q, hq⟩ : ∃ q, sidx l x = q := ⟨_, rfl⟩
  rw [hq] at h HA
  rw [← HA.out]
  clear hr hq HA
  go_enter Tryz.func19, Tryz.ntmps19
  go_wp2_with (go_at_call 36; refine Calls.mono h.out ?_; rintro e w1 ⟨rfl, rfl⟩)
  go_ret
  exact ⟨rfl, rfl⟩
end Go.Proofs.YtmkmmggimokagaaGreatDoor
namespace Go.Proofs.YtmkmmggimokagaaGreatDoor
set_option linter.unusedVariables false
set_option linter.unusedSimpArgs false
open Go.RowKit
theorem Tryz.infoRk : (Tryz.prog.info? 60).map (fun i => (i.zero, i.size, i.bytes)) = some (some (.agg #[.int .i64 0, .int .i64 0, .int .i64 0, .int .i64 0]), 4, 32) := by kernel_rfl
theorem app_rk {w : World} {ops : Array Oper} {rest : List Oper} {o : Oper} {a : Act} {Q : Exit → Act → World → Prop} {s x : Operand}
    (hgd : o.guard = none) (ho : o.op = .call { callee := .builtin .append, args := #[s, x], argTypes := #[55, 55] })
    (base : Nat) {v : Value} {n : Nat} {xs : List Rk} (hs : a.eval s = v) (hown : Owns w base 60 4 v n (recs rkC xs))
    {B : Nat} {A : Option Addr} {m c : Nat} {news : List Rk} (hx : a.eval x = .slice A m c) (hr : Reads w B 4 A m (recs rkC news))
    (hlen : n + m ≤ 1000000) (hbase : base ≤ w.heap.size)
    (h : ∀ v' w', Owns w' base 60 4 v' (n + m) (recs rkC (xs ++ news)) → AppKeeps base v w w' → (v'.ownBlock = v.ownBlock ∨ v'.ownBlock = some w.heap.size) → wpList Tryz.prog ops Q rest (a.put o.dst v') w') : wpList Tryz.prog ops Q (o :: rest) a w :=
  wp_app hgd ho Tryz.underlying55 Tryz.infoRk rfl (by omega) base hs hown hx hr (recs_one rkC_one _) (by simp only [maxLen]; omega) (by omega) hbase (fun v' w' h1 => h v' w' (by rw [recs_append]; exact h1))
/-- numbers in memory of a call's own -/
def RetOr (w : World) (l : List Int) (e : Ending) (w' : World) : Prop :=
  ∃ v, e = .returned v ∧ Owns w' w.heap.size 3 1 v l.length (ints l) ∧ Below w.heap.size w w'
theorem named_yes {sh : ByteArray → Int} {jobs : List Jb} {ids : List Int} {k : Nat} {x : Jb} (h : jobs[k]? = some x) (hc : ids.contains x.id = true) : namedR sh (jobs.take (k + 1)) ids = namedR sh (jobs.take k) ids ++ [rkOf sh x] := by
  unfold namedR
  rw [List.take_add_one, h, Option.toList_some, List.filter_append, List.map_append]
  have : ([x].filter fun j => ids.contains j.id) = [x] := by rw [List.filter_cons, if_pos hc]; rfl
  rw [this]; rfl
theorem named_no {sh : ByteArray → Int} {jobs : List Jb} {ids : List Int} {k : Nat} {x : Jb} (h : jobs[k]? = some x) (hc : ids.contains x.id = false) : namedR sh (jobs.take (k + 1)) ids = namedR sh (jobs.take k) ids := by
  unfold namedR
  rw [List.take_add_one, h, Option.toList_some, List.filter_append, List.map_append]
  have : ([x].filter fun j => ids.contains j.id) = [] := by rw [List.filter_cons, if_neg (by rw [hc]; decide)]; rfl
  rw [this, List.map_nil, List.append_nil]
theorem named_len (sh : ByteArray → Int) (jobs : List Jb) (ids : List Int) : (namedR sh jobs ids).length ≤ jobs.length := by
  unfold namedR
  rw [List.length_map]
  exact List.length_filter_le _ _
theorem order_len (sh : ByteArray → Int) (jobs : List Jb) (ids : List Int) : (orderP sh jobs ids).length = (namedR sh jobs ids).length := by
  unfold orderP
  rw [List.length_map, (sortR_perm _).length_eq]
set_option maxHeartbeats 4000000 in
set_option maxRecDepth 100000 in
theorem order_no (U : Option Addr) (nu cu : Nat) (l : List JR) (A : Option Addr) (n c B : Nat) (I : Value) (w : World) (ht : TbAt w B A n l) (hB : B ≤ w.heap.size) (hz : tabB (jobs l) = false) :
    Calls Tryz.prog 11 #[.slice A n c, .slice U nu cu, I] w (RetOr w []) := by
  have q1 := Lib.hid (tcheck_any l A n c B w ht hB)
  rw [tabE_f hz] at q1
  clear ht hB
  go_enter Tryz.func11, Tryz.ntmps11
  go_wp2_with (fail)
  refine q1.out.mono ?_; rintro e w1 ⟨rfl, hw1⟩
  go_wp2
  go_ret
  exact ⟨_, rfl, Owns.nil, hw1⟩
theorem sh_wf (l : List U) (u : ByteArray) : (Lit.int .i64 (shU l u)).wf = true := by
  refine WalkArith.wf_i64 ?_
  unfold shU togV
  split
  · have := addV_bds (l.map (shareF u))
    omega
  · omega
set_option maxHeartbeats 8000000 in
set_option maxRecDepth 100000 in
theorem order_yes (us : List U) (U : Option Addr) (nu cu : Nat) (l : List JR) (A : Option Addr) (n c B : Nat) (ids : List Int) (I : Option Addr) (ni ci : Nat) (w : World) (ht : TbAt w B A n l) (hB : B ≤ w.heap.size) (hz : tabB (jobs l) = true)
    (hu : Reads w B 4 U nu (recs ucells us)) (hnu : nu ≤ maxLen) (hi : Reads w B 1 I ni (ints ids)) (hni : ni ≤ 1000000) :
    Calls Tryz.prog 11 #[.slice A n c, .slice U nu cu, .slice I ni ci] w (RetOr w (orderP (shU us) (jobs l) ids)) := by
  have hlj : Hid ((jobs l).length = n) := (jobs_len l).trans ht.len
  have q1 := Lib.hid (tcheck_any l A n c B w ht hB)
  rw [tabE_t hz] at q1
  have q2 := Lib.hid (fun (x : Int) v (hv : Below w.heap.size w v) => scontains_any I ni ci B ids x v (hi.below (hv.mono hB)) hni)
  have q3 := Lib.hid (fun (u : ByteArray) v (hv : Below w.heap.size w v) => share_any U nu cu B us u v hnu (hu.below (hv.mono hB)) (Nat.le_trans hB hv.size))
  have HT := Lib.hid ht
  have HBW := Lib.hid hB
  have HZ := Lib.hid (tab_iff.1 hz)
  have hn1 : n ≤ 1000 := ht.2.2
  obtain ⟨sh, hsh⟩ : ∃ s, shU us = s := ⟨_, rfl⟩
  have HSW := Lib.hid (fun u => sh_wf us u)
  have q4 : Hid (∀ (u : ByteArray) v (hv : Below w.heap.size w v), Calls Tryz.prog 16 #[.slice U nu cu, .string u] v fun e w' => e = .returned (.int .i64 (sh u)) ∧ Below v.heap.size v w') := by
    show ∀ _ _ _, _
    intro u v hv
    rw [← hsh]
    exact q3.out u v hv
  rw [hsh] at HSW ⊢
  clear ht hB hz hu hi hsh q3
  have hmm := @run_makeMap Tryz.prog
  go_enter Tryz.func11, Tryz.ntmps11
  go_wp2_with (fail)
  refine q1.out.mono ?_; rintro e w0 ⟨rfl, hw0⟩
  have B0 := Lib.hid hw0
  have s0 := hw0.size
  clear hw0 q1
  go_wp2
  go_loopw [7, 20] (fun t i wr => ∃ k : Nat, k ≤ n ∧ i = .int .i64 k ∧ Hid (Below w.heap.size w wr) ∧ w0.heap.size + 1 ≤ wr.heap.size ∧ Hid (∀ g, t.ownBlock = some g → w0.heap.size + 1 ≤ g) ∧ Hid (Owns wr (w0.heap.size + 1) 60 4 t (namedR sh ((jobs l).take k) ids).length (recs rkC (namedR sh ((jobs l).take k) ids))) ∧ Hid (∃ (f : ByteArray → Option Int) (m : Nat), m ≤ k ∧ StS wr w0.heap.size m f ∧ ∀ u s, f u = some s → s = sh u)) (fun _ i _ => n - (intOf i).toNat)
  case atStart => exact ⟨0, Nat.zero_le _, rfl, B0.out.alloc s0 _, by simp, (by show ∀ g, _ → _; intro g h; cases h), Owns.nil, ⟨fun _ => none, 0, Nat.le_refl _, StS.made w0, fun u s h => by cases h⟩⟩
  case round =>
    obtain ⟨k, hk, rfl, hbw, hsz, HBK, HO, HS⟩ := hrel
    by_cases hlt : k < n
    · obtain ⟨b, o, r, rfl, hbb, hx, KR, JR⟩ := (HT.out.below (hbw.out.mono HBW.out)).elem hlt
      have hi0 : (0 : Int) ≤ (k : Int) := by omega
      have hi1 : (k : Int) < (n : Int) := by omega
      have t0 : decide ((k : Int) < (n : Int)) = true := by simp; omega
      have BW := Nat.le_trans HBW.out hbw.out.size
      have hbl : b < wr.heap.size := Nat.lt_of_lt_of_le hbb BW
      have CSZ := Lib.hid (jrC_info (r := r))
      have CSA := Lib.hid (jrA_info r)
      have C1 := Lib.hid (jrA_all r)
      have CS2 := Lib.hid (jrA_20 r)
      have HJX := Lib.hid (jobs_at hx.out)
      have e0 : (jrC r)[0]? = some (.int .i64 r.x.id) := rfl
      have e2 : (jrC r)[2]? = some (.string r.x.user) := rfl
      have e9 : (jrC r)[9]? = some (.int .i64 r.x.prio) := rfl
      have HUS : Hid (r.x.user.size ≤ maxLen) := Nat.le_trans JR.out.2.1.2.1 (by decide)
      obtain ⟨x, hxx⟩ : ∃ x, r.x = x := ⟨_, rfl⟩
      rw [hxx] at e0 e2 e9 HUS HJX
      have HNY := Lib.hid (fun h => named_yes (sh := sh) (ids := ids) HJX.out h)
      have HNN := Lib.hid (fun h => named_no (sh := sh) (ids := ids) HJX.out h)
      have HNL : Hid ((namedR sh ((jobs l).take k) ids).length ≤ 1000) := by
        show _ ≤ _
        refine Nat.le_trans (named_len _ _ _) ?_
        rw [List.length_take]; omega
      have hrk : rkOf sh x = ⟨x.prio, sh x.user, x.id⟩ := rfl
      rw [hrk] at HNY
      obtain ⟨id, hid⟩ : ∃ u, x.id = u := ⟨_, rfl⟩
      rw [hid] at e0 HNY HNN
      obtain ⟨user, hus⟩ : ∃ u, x.user = u := ⟨_, rfl⟩
      rw [hus] at e2 HUS HNY
      obtain ⟨prio, hpr⟩ : ∃ u, x.prio = u := ⟨_, rfl⟩
      rw [hpr] at e9 HNY
      obtain ⟨cs, hcs⟩ : ∃ cs, Hid (jrC r = cs) := ⟨_, rfl⟩
      rw [hcs.out] at KR CSZ CSA C1 CS2 e0 e2 e9
      obtain ⟨W1, hs1, j1, b1, z1w⟩ := boxed wr cs.toArray
      have hstore := Lib.hid hs1
      have J1 := Lib.hid j1
      have B1 := Lib.hid b1
      clear hs1 j1 b1
      clear hcs hxx hid hus hpr hx HJX JR hrk
      have u0 : W1.cell? ⟨wr.heap.size, 0, none⟩ = some (.int .i64 id) := box_cell J1.out (Below.refl _ _) z1w e0
      have u2 : W1.cell? ⟨wr.heap.size, 2, none⟩ = some (.string user) := box_cell J1.out (Below.refl _ _) z1w e2
      have u9 : W1.cell? ⟨wr.heap.size, 9, none⟩ = some (.int .i64 prio) := box_cell J1.out (Below.refl _ _) z1w e9
      have HB1 : Hid (Below w.heap.size w W1) := bt hbw.out B1.out
      have HO1 := Lib.hid (HO.out.below B1.out)
      have qc := Lib.hid (q2.out id W1 HB1.out)
      have hsw := hbw.out.size
      have hsw1 := HB1.out.size
      have hz1 : w0.heap.size + 1 ≤ W1.heap.size := Nat.le_trans hsz B1.out.size
      obtain ⟨f, m, hm, hf, hfs⟩ := HS.out
      have HF1 := Lib.hid (hf.up B1.out)
      have HFS := Lib.hid hfs
      clear hf hfs e0 e2 e9
      obtain ⟨z, hzc⟩ : ∃ z, ids.contains id = z := ⟨_, rfl⟩
      rw [hzc] at qc HNY HNN
      clear hzc
      cases z with
      | false =>
        have HN := Lib.hid (HNN.out rfl)
        clear HNY HNN
        go_wp2_with (first | (refine wpList_load_mid rfl 29 _ rfl b (o + k * 20) rfl cs _ KR.out Tryz.underlying29 rfl CSZ.out ?_) | (refine wpList_store_row rfl 29 _ _ rfl (wr.heap.size) cs.toArray rfl rfl 29 _ (heap_alloc_new wr _) CSA.out (by show 20 = _; exact CS2.out) C1.out ?_; rw [hstore.out]) | (go_at_call 19; refine qc.out.mono ?_; rintro e w5 ⟨rfl, rfl⟩))
        go_roundw
        case rel => exact ⟨k + 1, by omega, by simp, HB1.out, hz1, HBK.out, by rw [HN.out]; exact HO1.out, ⟨f, m, by omega, HF1.out, HFS.out⟩⟩
        case measure => simp [intOf]; omega
      | true =>
        have HN := Lib.hid (HNY.out rfl)
        clear HNY HNN
        obtain ⟨q, hq⟩ : ∃ q, f user = q := ⟨_, rfl⟩
        cases q with
        | some y =>
          have hy : y = sh user := HFS.out user y hq
          subst hy
          have G1 : Hid ((f user).getD 0 = sh user) := by show _ = _; rw [hq]; rfl
          have G2 : Hid ((f user).isSome = true) := by show _ = _; rw [hq]; rfl
          clear hq
          go_upto_region 12 with (first | (refine wpList_load_mid rfl 29 _ rfl b (o + k * 20) rfl cs _ KR.out Tryz.underlying29 rfl CSZ.out ?_) | (refine wpList_store_row rfl 29 _ _ rfl (wr.heap.size) cs.toArray rfl rfl 29 _ (heap_alloc_new wr _) CSA.out (by show 20 = _; exact CS2.out) C1.out ?_; rw [hstore.out]) | (go_at_call 19; refine qc.out.mono ?_; rintro e w5 ⟨rfl, rfl⟩) | (refine ss_look rfl _ _ rfl w0.heap.size m f rfl HF1.out user rfl HUS.out ?_; rw [G1.out, G2.out]))
          go_wp2_with (first | (refine ss_get rfl _ _ rfl w0.heap.size m f rfl HF1.out user rfl HUS.out ?_; rw [G1.out]) | (at_builtin; refine app_rk rfl rfl (w0.heap.size + 1) rfl (HO1.out.alloc _) (news := [⟨prio, sh user, id⟩]) rfl (Reads.madeRec W1 (⟨prio, sh user, id⟩ : Rk) _ rfl) (by have := HNL.out; omega) (by simp only [World.size_alloc]; omega) ?_))
          intro v4 w4 o4 k4 hob
          have HB4 : Hid (Below w.heap.size w w4) := k4.below (HB1.out.alloc (by omega) _) (by omega) (by simp only [World.size_alloc]; omega)
          have HL4 : Hid (Below (w0.heap.size + 1) W1 w4) := k4.below ((Below.refl (w0.heap.size + 1) W1).alloc (by omega) _) (Nat.le_refl _) (by simp only [World.size_alloc]; omega)
          have HO4 : Hid (Owns w4 (w0.heap.size + 1) 60 4 v4 (namedR sh ((jobs l).take (k + 1)) ids).length (recs rkC (namedR sh ((jobs l).take (k + 1)) ids))) := by
            show Owns _ _ _ _ _ _ _
            rw [HN.out, List.length_append]; exact o4
          have HF4 := Lib.hid (HF1.out.below HL4.out (by omega))
          have hz4 : w0.heap.size + 1 ≤ w4.heap.size := Nat.le_trans (by omega) HL4.out.size
          have HBK4 : Hid (∀ g, v4.ownBlock = some g → w0.heap.size + 1 ≤ g) := by
            show ∀ _ _, _
            intro g hg
            rcases hob with h | h
            · exact HBK.out g (h.symm.trans hg)
            · rw [hg] at h; have h9 := Option.some.inj h; (try simp only [World.size_alloc] at h9); omega
          clear k4 o4 hob
          go_wp2
          go_roundw
          case rel => exact ⟨k + 1, by omega, by simp, HB4.out, hz4, HBK4, HO4.out, ⟨f, m, by omega, HF4.out, HFS.out⟩⟩
          case measure => simp [intOf]; omega
        | none =>
          have G1 : Hid ((f user).getD 0 = 0) := by show _ = _; rw [hq]; rfl
          have G2 : Hid ((f user).isSome = false) := by show _ = _; rw [hq]; rfl
          clear hq
          have GI := Lib.hid (HSW.out user)
          obtain ⟨su, hsu⟩ : ∃ q, sh user = q := ⟨_, rfl⟩
          have q5 := Lib.hid (q4.out user)
          rw [hsu] at q5 GI HN
          go_upto_region 11 with (first | (refine wpList_load_mid rfl 29 _ rfl b (o + k * 20) rfl cs _ KR.out Tryz.underlying29 rfl CSZ.out ?_) | (refine wpList_store_row rfl 29 _ _ rfl (wr.heap.size) cs.toArray rfl rfl 29 _ (heap_alloc_new wr _) CSA.out (by show 20 = _; exact CS2.out) C1.out ?_; rw [hstore.out]) | (go_at_call 19; refine qc.out.mono ?_; rintro e w5 ⟨rfl, rfl⟩) | (refine ss_look rfl _ _ rfl w0.heap.size m f rfl HF1.out user rfl HUS.out ?_; rw [G1.out, G2.out]))
          go_region_held3 (fun w' => w'.cell? ⟨wr.heap.size, 2, none⟩ = some (.string user)) (go_keep) (first | (go_at_call 16; refine (q5.out _ (HB1.out.trans (below_drew (Below.refl _ _)))).mono ?_; rintro e w9 ⟨rfl, hw9⟩; have HB9 : Hid (Below W1.heap.size W1 w9) := bt (below_drew (Below.refl _ _)) hw9; obtain ⟨w10, hrun, h10, k10⟩ := ss_run (HF1.out.up HB9.out) (by omega) user su HUS.out GI.out; have u29 : w9.cell? ⟨wr.heap.size, 2, none⟩ = some (.string user) := (HB9.out.cell (p := ⟨wr.heap.size, 2, none⟩) z1w).trans u2; have v2 : w10.cell? ⟨wr.heap.size, 2, none⟩ = some (.string user) := (World.cell?_of_block (show w10.heap[(⟨wr.heap.size, 2, none⟩ : Addr).block]? = w9.heap[(⟨wr.heap.size, 2, none⟩ : Addr).block]? from k10.block wr.heap.size (Nat.lt_of_lt_of_le z1w HB9.out.size) (fun e => by have := Option.some.inj e; omega))).trans u29; clear hw9))
          have HKP := Lib.hid k10
          have HF6 := Lib.hid h10
          have hs9 := HB9.out.size
          have hs10 := k10.size
          clear hrun h10 k10 u29
          have v0 : w10.cell? ⟨wr.heap.size, 0, none⟩ = some (.int .i64 id) := (World.cell?_of_block (show w10.heap[(⟨wr.heap.size, 0, none⟩ : Addr).block]? = w9.heap[(⟨wr.heap.size, 0, none⟩ : Addr).block]? from HKP.out.block wr.heap.size (by omega) (fun e => by have := Option.some.inj e; omega))).trans ((HB9.out.cell (p := ⟨wr.heap.size, 0, none⟩) z1w).trans u0)
          have v9 : w10.cell? ⟨wr.heap.size, 9, none⟩ = some (.int .i64 prio) := (World.cell?_of_block (show w10.heap[(⟨wr.heap.size, 9, none⟩ : Addr).block]? = w9.heap[(⟨wr.heap.size, 9, none⟩ : Addr).block]? from HKP.out.block wr.heap.size (by omega) (fun e => by have := Option.some.inj e; omega))).trans ((HB9.out.cell (p := ⟨wr.heap.size, 9, none⟩) z1w).trans u9)
          have HB6 : Hid (Below w.heap.size w w10) := (bt HB1.out HB9.out).trans (HKP.out.below (by omega) (fun j h => by have := Option.some.inj h; omega))
          have HO6 : Hid (Owns w10 (w0.heap.size + 1) 60 4 _ (namedR sh ((jobs l).take k) ids).length (recs rkC (namedR sh ((jobs l).take k) ids))) := (HO1.out.below HB9.out).keep fun g _ hg hl => HKP.out.block g hl (fun e => by have := Option.some.inj e; omega)
          have HFS6 : Hid (∀ u y, (fun k => if k = user then some su else f k) u = some y → y = sh u) := by
            show ∀ _ _ _, _
            intro u y h
            by_cases e : u = user
            · rw [e, hsu]; simp [e] at h; exact h.symm
            · simp only [if_neg e] at h; exact HFS.out u y h
          have G6 : Hid (((fun k => if k = user then some su else f k) user).getD 0 = su) := by show _ = _; simp
          clear u0 u2 u9
          go_wp2_with (first | (refine ss_get rfl _ _ rfl w0.heap.size (m + 1) _ rfl HF6.out user rfl HUS.out ?_; rw [G6.out]) | (at_builtin; refine app_rk rfl rfl (w0.heap.size + 1) rfl (HO6.out.alloc _) (news := [⟨prio, su, id⟩]) rfl (Reads.madeRec w10 (⟨prio, su, id⟩ : Rk) _ rfl) (by have := HNL.out; omega) (by simp only [World.size_alloc]; omega) ?_))
          intro v4 w4 o4 k4 hob
          have HB4 : Hid (Below w.heap.size w w4) := k4.below (HB6.out.alloc (by omega) _) (by omega) (by simp only [World.size_alloc]; omega)
          have HL4 : Hid (Below (w0.heap.size + 1) w10 w4) := k4.below ((Below.refl (w0.heap.size + 1) w10).alloc (by omega) _) (Nat.le_refl _) (by simp only [World.size_alloc]; omega)
          have HO4 : Hid (Owns w4 (w0.heap.size + 1) 60 4 v4 (namedR sh ((jobs l).take (k + 1)) ids).length (recs rkC (namedR sh ((jobs l).take (k + 1)) ids))) := by
            show Owns _ _ _ _ _ _ _
            rw [HN.out, List.length_append]; exact o4
          have HF4 := Lib.hid (HF6.out.below HL4.out (by omega))
          have hz4 : w0.heap.size + 1 ≤ w4.heap.size := Nat.le_trans (by omega) HL4.out.size
          have HBK4 : Hid (∀ g, v4.ownBlock = some g → w0.heap.size + 1 ≤ g) := by
            show ∀ _ _, _
            intro g hg
            rcases hob with h | h
            · exact HBK.out g (h.symm.trans hg)
            · rw [hg] at h; have h9 := Option.some.inj h; (try simp only [World.size_alloc] at h9); omega
          clear k4 o4 hob
          go_wp2
          go_roundw
          case rel => exact ⟨k + 1, by omega, by simp, HB4.out, hz4, HBK4, HO4.out, ⟨_, m + 1, by omega, HF4.out, HFS6.out⟩⟩
          case measure => simp [intOf]; omega
    · obtain rfl : k = n := by omega
      have t0 : decide ((k : Int) < (k : Int)) = false := by simp
      have HT2 : Hid ((jobs l).take k = jobs l) := List.take_of_length_le (Nat.le_of_eq hlj.out)
      rw [HT2.out] at HO
      have HNL : Hid ((namedR sh (jobs l) ids).length ≤ 1000) := Nat.le_trans (named_len _ _ _) (by rw [hlj.out]; omega)
      have HOL := Lib.hid (order_len sh (jobs l) ids)
      have hs := Lib.hid (sorted_any _ _ _ wr (HO.out.mono (Nat.zero_le _)) (by have := HNL.out; omega))
      go_wp2_with (go_at_call 20; refine hs.out.mono ?_; rintro e w5 ⟨r5, rfl, ho5, hk5⟩)
      go_ret
      refine ⟨_, rfl, ?_, ?_⟩
      · rw [HOL.out]; exact ho5.mono hbw.out.size
      · exact hbw.out.trans (hk5.below (fun g hg => by have := HBK.out g hg; omega) hbw.out.size)
end Go.Proofs.YtmkmmggimokagaaGreatDoor
