/- Bundle T6. -/
import Derived.Test.YtghmcdfmbjabnaaGreatDoorT4t
import Derived.Test.YtghmcdfmbjabnaaGreatDoorT3t
import Derived.Test.YtghmcdfmbjabnaaGreatDoorT1t
import Derived.Test.YtghmcdfmbjabnaaGreatDoorT5t
import Derived.Deep.DeepCutAuto
import Derived.Deep.CutBlock
import Derived.Deep.RegionWith
import Derived.Test.YtghmcdfmbjabnaaGreatDoorT2t
namespace Go.Proofs.YtghmcdfmbjabnaaGreatDoor
set_option linter.unusedSimpArgs false
set_option maxRecDepth 100000
set_option linter.unusedVariables false
open Go.RowKit
theorem Reads.take_ {w : World} {B size n k : Nat} {A : Option Addr} {xs : List Value} (h : Reads w B size A n xs) (hk : k ≤ n) : Reads w B size A k (xs.take (k * size)) := by
  have hm : k * size ≤ n * size := Nat.mul_le_mul_right size hk
  refine ⟨by rw [List.length_take, h.1]; omega, fun h0 => ?_⟩
  obtain ⟨ad, e, hlt, hc⟩ := h.2 (by omega)
  refine ⟨ad, e, hlt, fun j u hu => hc j u ?_⟩
  rw [List.getElem?_take] at hu
  split at hu
  · exact hu
  · cases hu
theorem step_ja {w : World} {ops : Array Oper} {o : Oper} {a : Act} {K : Act → World → Prop} {Q : Exit → Act → World → Prop} {E : Prop} {s x : Operand}
    (hgd : o.guard = none) (ho : o.op = .call { callee := .builtin .append, args := #[s, x], argTypes := #[43, 43] })
    (base : Nat) {v : Value} {n : Nat} {xs : List JR} (hs : a.eval s = v) (hown : Owns w base 28 20 v n (recs jrC xs))
    {B : Nat} {A : Option Addr} {m c : Nat} {news : List JR} (hx : a.eval x = .slice A m c) (hr : Reads w B 20 A m (recs jrC news))
    (hlen : n + m ≤ 1000000) (hbase : base ≤ w.heap.size)
    (h : ∀ v' w', Owns w' base 28 20 v' (n + m) (recs jrC (xs ++ news)) → AppKeeps base v w w' → (v'.ownBlock = v.ownBlock ∨ v'.ownBlock = some w.heap.size) → K (a.put o.dst v') w') :
    if Region.wanted o (yielded ops a.tmps) = true then Oper.wp Tryz.prog o a w K Q else E :=
  step_app hgd ho Tryz.underlying43 Tryz.infoJ rfl (by omega) base hs hown hx hr (recs_one jrC_one _) (by simp only [maxLen]; omega) (by omega) hbase (fun v' w' h1 => h v' w' (by rw [recs_append]; exact h1))
theorem own0 {w : World} {p B : Nat} (h : w.heap[p]? = some (.cells #[] 28 (0, 0))) (hB : B ≤ p) : Owns w B 28 20 (.slice (some ⟨p, 0, none⟩) 0 0) 0 (recs jrC []) :=
  .inl ⟨rfl, .inr ⟨p, 0, #[], rfl, hB, h, Nat.le_refl _, by simp [maxLen], rfl, rfl⟩⟩
theorem AppKeeps.blk {w w' : World} {base p : Nat} {v : Value} (hk : AppKeeps base v w w') (h1 : p < w.heap.size) (h2 : v.ownBlock ≠ some p) : w'.heap[p]? = w.heap[p]? := by
  obtain ⟨row, hg, hrow⟩ := hk
  exact hg.block p h1 (fun e => h2 (hrow _ e.symm).1)
theorem first_late {l : List Jb} {id : Int} {k : Nat} {y : Jb} (hk : l[k]? = some y) (h : id ≤ y.id) : l.any (fun y => decide (id ≤ y.id)) = true := List.any_eq_true.2 ⟨y, List.mem_of_getElem? hk, decide_eq_true h⟩
theorem all_early {l : List Jb} {id : Int} (h : ∀ (j : Nat) y, l[j]? = some y → y.id < id) : l.any (fun y => decide (id ≤ y.id)) = false := List.any_eq_false.2 (fun y hy => by obtain ⟨j, hj⟩ := List.getElem?_of_mem hy; have := h j y hj; simp; omega)
set_option maxHeartbeats 8000000 in
theorem raddT_any (l : List JR) (r0 : JR) (A : Option Addr) (n c B : Nat) (w : World) (ht : TbAt w B A n l) (hr : JrAt w B r0) (hB : B ≤ w.heap.size) :
    Calls Tryz.prog 34 #[.slice A n c, .agg (jrC r0).toArray] w (RetTr w (addP (jobs l) r0.x)) := by
  have hlj : Hid ((jobs l).length = n) := (jobs_len l).trans ht.len
  have q1 := Lib.hid (fun v (hv : Below w.heap.size w v) => rcheck15_any l A n c B v (ht.below (hv.mono hB)) (Nat.le_trans hB hv.size))
  have q2 := Lib.hid (fun v (hv : Below w.heap.size w v) => rcheck_r (hr.below (hv.mono hB)) (Nat.le_trans hB hv.size))
  have q3 := Lib.hid (fun v => rover_r r0 v)
  have q4 := Lib.hid (fun v (hv : Below w.heap.size w v) => ractive_any l A n c B r0.x.user v (ht.below (hv.mono hB)) (Nat.le_trans hB hv.size))
  have HTR := Lib.hid (fun v (hv : Below w.heap.size w v) => (ht.1.below (hv.mono hB) : Reads v B 20 A n (recs jrC l)))
  have HT := Lib.hid ht
  have HR0 := Lib.hid hr
  have HBW := Lib.hid hB
  have hn1 : n ≤ 1000 := ht.2.2
  have e0 : (jrC r0)[0]? = some (.int .i64 r0.x.id) := rfl
  have e2 : (jrC r0)[2]? = some (.string r0.x.user) := rfl
  have CSA := Lib.hid (jrA_info r0)
  have CS2 := Lib.hid (jrA_20 r0)
  obtain ⟨P, hP⟩ : ∃ P, Hid (addP (jobs l) r0.x = P) := ⟨_, rfl⟩
  rw [hP.out]
  obtain ⟨E, hE⟩ : ∃ E, Hid (jobE r0.x = E) := ⟨_, rfl⟩
  have t1 := Lib.hid (fun z (h : okJ r0.x = z) => (by rw [← hE.out]; exact jobE_ne h : (E != 0) = !z))
  rw [hE.out] at q2
  obtain ⟨x, hx⟩ : ∃ x, r0.x = x := ⟨_, rfl⟩
  obtain ⟨id, hid⟩ : ∃ i, x.id = i := ⟨_, rfl⟩
  obtain ⟨us, hus⟩ : ∃ i, x.user = i := ⟨_, rfl⟩
  have HX := Lib.hid hx
  have HID := Lib.hid hid
  have HUS := Lib.hid hus
  rw [hx] at q3 q4 e0 e2 t1 hP
  rw [hus] at q4 e2
  rw [hid] at e0
  obtain ⟨cs, hcs⟩ : ∃ cs, Hid (jrC r0 = cs) := ⟨_, rfl⟩
  rw [hcs.out] at q2 q3 e0 e2 CSA CS2 ⊢
  have J0 : Hid ((w.alloc (.cells cs.toArray 28)).heap[w.heap.size]? = some (.cells cs.toArray 28 (0, 0))) := heap_alloc_new w _
  clear ht hr hB hE hx hid hus
  cases zt : tabB (jobs l)
  case false =>
    have HR : Hid (P = ([], 140)) := hP.out.symm.trans (addP_tab zt)
    rw [tabE_f zt] at q1
    clear q2 q3 q4 HTR t1 hP
    go_enter Tryz.func34, Tryz.ntmps34
    go_wp2_with (fail)
    refine (q1.out _ bx0).mono ?_; rintro e w1 ⟨rfl, hw1⟩
    have B1 := Lib.hid (bt bx0 hw1)
    clear hw1
    go_wp2
    go_ret2
    rw [HR.out]
    exact retTr_no B1.out
  have HTB := Lib.hid zt
  have h40 : n ≤ 40 := by rw [← hlj.out]; exact (tab_iff.1 zt).1
  rw [tabE_t zt] at q1
  cases zj : okJ x
  case false =>
    have HR : Hid (P = ([], 140)) := hP.out.symm.trans (addP_job zj)
    have t2 := t1.out false zj
    clear q3 q4 HTR t1 hP
    go_enter Tryz.func34, Tryz.ntmps34
    go_wp2_with (fail)
    refine (q1.out _ bx0).mono ?_; rintro e w1 ⟨rfl, hw1⟩
    obtain ⟨g1, hb1, s1⟩ := box_row hw1
    have G1 := Lib.hid g1
    have B1 := Lib.hid hb1
    clear hw1 g1 hb1
    go_wp2_with (refine wpList_load_row_g (by kernel_rfl) 28 _ rfl (w.heap.size) rfl 28 _ (0, 0) _ G1.out Tryz.underlying28 rfl CSA.out ?_)
    refine (q2.out _ B1.out).mono ?_; rintro e w2 ⟨rfl, hw2⟩
    have G2 := Lib.hid ((hw2.block _ s1).trans G1.out)
    have s2 : w.heap.size < w2.heap.size := Nat.lt_of_lt_of_le s1 hw2.size
    have B2 := Lib.hid (bt B1.out hw2)
    clear hw2 G1 B1 s1
    go_wp2
    go_ret2
    rw [HR.out]
    exact retTr_no B2.out
  have t2 := t1.out true zj
  have HOJ := Lib.hid zj
  rw [ended_over zj] at q3
  clear t1 zt zj
  go_enter Tryz.func34, Tryz.ntmps34
  go_wp2_with (fail)
  refine (q1.out _ bx0).mono ?_; rintro e w1 ⟨rfl, hw1⟩
  obtain ⟨g1, hb1, s1⟩ := box_row hw1
  have G1 := Lib.hid g1
  have B1 := Lib.hid hb1
  clear hw1 g1 hb1
  go_wp2_with (refine wpList_load_row_g (by kernel_rfl) 28 _ rfl (w.heap.size) rfl 28 _ (0, 0) _ G1.out Tryz.underlying28 rfl CSA.out ?_)
  refine (q2.out _ B1.out).mono ?_; rintro e w2 ⟨rfl, hw2⟩
  have G2 := Lib.hid ((hw2.block _ s1).trans G1.out)
  have s2 : w.heap.size < w2.heap.size := Nat.lt_of_lt_of_le s1 hw2.size
  have B2 := Lib.hid (bt B1.out hw2)
  clear hw2 G1 B1 s1
  go_wp2
  go_loopw [6] (fun i wr => ∃ k : Nat, k ≤ n ∧ i = .int .i64 k ∧ Hid (Below w.heap.size w wr) ∧ Hid (wr.heap[w.heap.size]? = some (.cells cs.toArray 28 (0, 0))) ∧ Hid (∀ (j : Nat) y, j < k → (jobs l)[j]? = some y → y.id < id)) (fun i _ => n - (intOf i).toNat)
  case atStart => exact ⟨0, Nat.zero_le _, rfl, B2.out, G2, fun j y h => by omega⟩
  case round =>
    obtain ⟨k, hk, rfl, hbw, GR, HN⟩ := hrel
    have sr : w.heap.size < wr.heap.size := (Array.getElem?_eq_some_iff.1 GR.out).1
    clear G2 B2 s2
    by_cases hlt : k < n
    · obtain ⟨b, o, r, rfl, hbb, hx2, KR, JQ⟩ := (HT.out.below (hbw.out.mono HBW.out)).elem hlt
      have hi0 : (0 : Int) ≤ (k : Int) := by omega
      have hi1 : (k : Int) < (n : Int) := by omega
      have t0 : decide ((k : Int) < (n : Int)) = true := by simp; omega
      have HJX := Lib.hid (jobs_at hx2.out)
      have k0 : wr.cell? ⟨b, o + k * 20, none⟩ = some (.int .i64 r.x.id) := range_cell (j := 0) KR.out rfl
      have u0 : wr.cell? ⟨w.heap.size, 0, none⟩ = some (.int .i64 id) := (cell_of_row wr _ 0 _ _ _ GR.out).trans (at_arr e0)
      obtain ⟨yi, hyi⟩ : ∃ i, Hid (r.x.id = i) := ⟨_, rfl⟩
      rw [hyi.out] at k0
      clear KR JQ hx2
      cases zl : decide (id ≤ yi)
      case true =>
        have HR : Hid (P = ([], 140)) := hP.out.symm.trans (addP_late (by rw [HID.out]; exact first_late HJX.out (by rw [hyi.out]; exact of_decide_eq_true zl)))
        clear hyi HJX
        go_wp2
        go_quiet (fail)
        go_wp2
        go_ret2
        rw [HR.out]
        exact retTr_no (below_drewN hbw.out _)
      have HN2 : Hid (∀ (j : Nat) y, j < k + 1 → (jobs l)[j]? = some y → y.id < id) := Lib.hid (fun j y hj hy => by
        by_cases e : j = k
        · subst e; rw [HJX.out] at hy; rw [← Option.some.inj hy, hyi.out]; simpa using zl
        · exact HN.out j y (by omega) hy)
      clear hyi HJX
      go_wp2
      go_quiet (fail)
      go_wp2
      go_roundw
      case rel => exact ⟨k + 1, by omega, by simp, below_drewN hbw.out _, (by rw [World.heap_drewN]; exact GR.out), HN2⟩
      case measure => simp [intOf]; omega
    · obtain rfl : k = n := by omega
      have t0 : decide ((k : Int) < (k : Int)) = false := by simp
      have HLA : Hid ((jobs l).any (fun y => decide (x.id ≤ y.id)) = false) := by
        show _ = _
        rw [HID.out]
        exact all_early (fun j y hy => HN.out j y (by have := (List.getElem?_eq_some_iff.1 hy).1; rw [hlj.out] at this; exact this) hy)
      clear HN q1 q2
      cases zo : overS x
      case true =>
        rw [zo] at q3
        go_wp2_with (first | (refine wpList_load_row rfl 28 _ rfl (w.heap.size) rfl 28 _ (0, 0) _ GR.out Tryz.underlying28 rfl CSA.out ?_) | (go_at_call 76; refine (q3.out _).mono ?_; rintro e W5 ⟨rfl, hw5⟩; have G5 := Lib.hid ((hw5.block _ sr).trans GR.out); have B5 := Lib.hid (bt hbw.out hw5)))
        have HNT := Lib.hid (And.intro (fun h5 : k < 40 => hP.out.symm.trans (addP_room HTB.out HOJ.out HLA.out (.inl zo) (by rw [hlj.out]; exact h5))) (fun h5 : ¬ k < 40 => hP.out.symm.trans (addP_full HTB.out HOJ.out HLA.out (.inl zo) (by rw [hlj.out]; exact h5))))
        clear hP zo hw5 q3 q4
        obtain ⟨n, hnk⟩ : ∃ n, n = k := ⟨_, rfl⟩
        subst hnk
        go_upto_region 10 with (fail)
        go_cut [7] (fun v wx => ∃ R c8, v = .slice R (n + 1) c8 ∧ Hid (Owns wx W5.heap.size 28 20 (.slice R (n + 1) c8) (n + 1) (recs jrC (l ++ [r0]))) ∧ n + 1 ≤ c8 ∧ c8 ≤ maxLen ∧ Hid (Below W5.heap.size W5 wx))
        case first =>
          refine wp_region_held_drew (S := (fun w' => (∀ b o, b < W5.heap.size → w'.cell? ⟨b, o, none⟩ = W5.cell? ⟨b, o, none⟩) ∧ Below W5.heap.size W5 w')) (by kernel_rfl) ?_ (fun hHeld => ?_)
          · (try dsimp only); (first | assumption | exact hk_drew | exact hk_call (by assumption) (by assumption) | exact hk_mk (by assumption) | (refine hk_alloc (by assumption) _) | (refine hk_row (by assumption) (by first | exact Nat.le_refl _ | exact hk_size (by assumption) | omega | (simp; done) | (simp; omega)) _) | (refine hk_set (by assumption) (by first | exact Nat.le_refl _ | exact hk_size (by assumption) | omega | (simp; done) | (simp; omega)) _))
          refine wpAnyH_take (i := 1) (oi := ⟨_, _, _, _, _, _⟩) (v := ?v_49) rfl (by kernel_rfl) (by kernel_rfl) (by kernel_rfl) (fun _ _ _ h => h) (Or.inl ⟨by rfl, ?hy_49⟩) (by assumption) ?r_49
          case hy_49 => (intro w_ hS_; (try dsimp only at hS_); go_simp; try with_reducible rfl)
          try simp only [Act.put, List.setIfInBounds_toArray, List.set_cons_zero, List.set_cons_succ]
          first
            | (refine wpAnyH_take (i := 3) (oi := ⟨_, _, _, _, _, _⟩) (v := (.agg cs.toArray)) rfl (by kernel_rfl) (by kernel_rfl) (by kernel_rfl) (fun _ _ _ h => h) (Or.inl ⟨by rfl, yl_row 28 _ (by rfl) (w.heap.size) (by rfl) 28 _ (0, 0) _ (fun w_ h_ => hk_block h_ G5.out) Tryz.underlying28 rfl (CSA.out)⟩) (by assumption) ?_)
            | (refine wpAnyH_take (i := 3) (oi := ⟨_, _, _, _, _, _⟩) (v := ?v_50) rfl (by kernel_rfl) (by kernel_rfl) (by kernel_rfl) (fun _ _ _ h => h) (Or.inl ⟨by rfl, ?hy_50⟩) (by assumption) ?r_50; case hy_50 => (intro w_ hS_; (try dsimp only at hS_); go_simp; try with_reducible rfl))
          try simp only [Act.put, List.setIfInBounds_toArray, List.set_cons_zero, List.set_cons_succ]
          refine wpAnyH_ready (rs := [0, 4]) (by kernel_rfl) (by simp) ?_
          refine AllReadyH.cons (o := ⟨_, _, _, _, _, _⟩) rfl (fun K hK => ?_) ?_
          · (first | (refine step_bs rfl rfl (cs := cs.toArray) rfl CS2.out ?_) | go_simp)
            refine hK.out _ _ ?_ (fun hHeld => ?_)
            · (try dsimp only); (first | assumption | (refine hk_alloc (by assumption) _))
            clear hK K
            try simp only [Act.put, List.setIfInBounds_toArray, List.set_cons_zero, List.set_cons_succ]
            refine wpAnyH_ready (rs := [2, 4]) (by kernel_rfl) (by simp) ?_
            refine AllReadyH.cons (o := ⟨_, _, _, _, _, _⟩) rfl (fun K hK => ?_) ?_
            · (first | (refine step_ja (v := .slice (some ⟨_, 0, none⟩) 0 0) rfl rfl W5.heap.size rfl (own0 (by first | exact hnew (by first | rfl | (simp; done) | (simp; omega) | (have hz_ : ∀ v : World, v.drew.heap.size = v.heap.size := fun _ => rfl; simp only [hz_, World.size_alloc]; first | done | omega)) | exact (hold (by first | (simp; done) | (simp; omega) | omega | (show _ < (_ : World).heap.size; simp; omega) | (have hz_ : ∀ v : World, v.drew.heap.size = v.heap.size := fun _ => rfl; simp only [hz_, World.size_alloc]; omega))).trans (hnew (by first | rfl | (simp; done) | (simp; omega) | (have hz_ : ∀ v : World, v.drew.heap.size = v.heap.size := fun _ => rfl; simp only [hz_, World.size_alloc]; first | done | omega)))) (by first | (simp; done) | (simp; omega) | omega | (show _ < (_ : World).heap.size; simp; omega) | (have hz_ : ∀ v : World, v.drew.heap.size = v.heap.size := fun _ => rfl; simp only [hz_, World.size_alloc]; omega))) rfl (HTR.out _ (bt B5.out (And.right (by assumption)))) (by omega) (hk_size (by assumption)) ?_; intro v9 wa o9 k9 _; rw [Nat.zero_add, List.nil_append] at o9; obtain ⟨R9, c9, rfl, hc9, hm9⟩ := o9.slice; have B9 := k9.below (And.right (by assumption)) (Nat.le_refl _) (hk_size (by assumption))) | (refine step_ja rfl rfl W5.heap.size rfl (by first | exact o9 | exact o9.alloc _) rfl (row_reads (r := r0) (by rw [hcs.out]; exact (by first | exact hnew (by first | rfl | (simp; done) | (simp; omega) | (have hz_ : ∀ v : World, v.drew.heap.size = v.heap.size := fun _ => rfl; simp only [hz_, World.size_alloc]; first | done | omega)) | exact (k9.blk (by first | (simp; done) | (simp; omega) | omega | (show _ < (_ : World).heap.size; simp; omega) | (have hz_ : ∀ v : World, v.drew.heap.size = v.heap.size := fun _ => rfl; simp only [hz_, World.size_alloc]; omega)) (by first | (simp [Value.ownBlock]; done) | (simp [Value.ownBlock]; omega) | (have hz_ : ∀ v : World, v.drew.heap.size = v.heap.size := fun _ => rfl; simp only [hz_, World.size_alloc]; simp [Value.ownBlock]; first | done | omega))).trans (hnew (by first | rfl | (simp; done) | (simp; omega) | (have hz_ : ∀ v : World, v.drew.heap.size = v.heap.size := fun _ => rfl; simp only [hz_, World.size_alloc]; first | done | omega))) | exact (k9.blk (by first | (simp; done) | (simp; omega) | omega | (show _ < (_ : World).heap.size; simp; omega) | (have hz_ : ∀ v : World, v.drew.heap.size = v.heap.size := fun _ => rfl; simp only [hz_, World.size_alloc]; omega)) (by first | (simp [Value.ownBlock]; done) | (simp [Value.ownBlock]; omega) | (have hz_ : ∀ v : World, v.drew.heap.size = v.heap.size := fun _ => rfl; simp only [hz_, World.size_alloc]; simp [Value.ownBlock]; first | done | omega))).trans ((hold (by first | (simp; done) | (simp; omega) | omega | (show _ < (_ : World).heap.size; simp; omega) | (have hz_ : ∀ v : World, v.drew.heap.size = v.heap.size := fun _ => rfl; simp only [hz_, World.size_alloc]; omega))).trans (hnew (by first | rfl | (simp; done) | (simp; omega) | (have hz_ : ∀ v : World, v.drew.heap.size = v.heap.size := fun _ => rfl; simp only [hz_, World.size_alloc]; first | done | omega))))))) (by omega) (hk_size (by assumption)) ?_; intro v8 wb o8 k8 _; obtain ⟨R8, c8, rfl, hc8, hm8⟩ := o8.slice; have B8 := k8.below (And.right (by assumption)) (Nat.le_refl _) (hk_size (by assumption))))
              refine hK.out _ _ ?_ (fun hHeld => ?_)
              · (try dsimp only); (first | exact hk_mk (by assumption) | assumption)
              clear hK K
              try simp only [Act.put, List.setIfInBounds_toArray, List.set_cons_zero, List.set_cons_succ]
              refine wpAnyH_ready (rs := [4]) (by kernel_rfl) (by simp) ?_
              refine AllReadyH.cons (o := ⟨_, _, _, _, _, _⟩) rfl (fun K hK => ?_) AllReadyH.nil
              (first | (refine step_bs rfl rfl (cs := cs.toArray) rfl CS2.out ?_) | go_simp)
              refine hK.out _ _ ?_ (fun hHeld => ?_)
              · (try dsimp only); (first | assumption | (refine hk_alloc (by assumption) _))
              clear hK K
              try simp only [Act.put, List.setIfInBounds_toArray, List.set_cons_zero, List.set_cons_succ]
              refine wpAnyH_ready (rs := [5]) (by kernel_rfl) (by simp) ?_
              refine AllReadyH.cons (o := ⟨_, _, _, _, _, _⟩) rfl (fun K hK => ?_) AllReadyH.nil
              (first | (refine step_ja (v := .slice (some ⟨_, 0, none⟩) 0 0) rfl rfl W5.heap.size rfl (own0 (by first | exact hnew (by first | rfl | (simp; done) | (simp; omega) | (have hz_ : ∀ v : World, v.drew.heap.size = v.heap.size := fun _ => rfl; simp only [hz_, World.size_alloc]; first | done | omega)) | exact (hold (by first | (simp; done) | (simp; omega) | omega | (show _ < (_ : World).heap.size; simp; omega) | (have hz_ : ∀ v : World, v.drew.heap.size = v.heap.size := fun _ => rfl; simp only [hz_, World.size_alloc]; omega))).trans (hnew (by first | rfl | (simp; done) | (simp; omega) | (have hz_ : ∀ v : World, v.drew.heap.size = v.heap.size := fun _ => rfl; simp only [hz_, World.size_alloc]; first | done | omega)))) (by first | (simp; done) | (simp; omega) | omega | (show _ < (_ : World).heap.size; simp; omega) | (have hz_ : ∀ v : World, v.drew.heap.size = v.heap.size := fun _ => rfl; simp only [hz_, World.size_alloc]; omega))) rfl (HTR.out _ (bt B5.out (And.right (by assumption)))) (by omega) (hk_size (by assumption)) ?_; intro v9 wa o9 k9 _; rw [Nat.zero_add, List.nil_append] at o9; obtain ⟨R9, c9, rfl, hc9, hm9⟩ := o9.slice; have B9 := k9.below (And.right (by assumption)) (Nat.le_refl _) (hk_size (by assumption))) | (refine step_ja rfl rfl W5.heap.size rfl (by first | exact o9 | exact o9.alloc _) rfl (row_reads (r := r0) (by rw [hcs.out]; exact (by first | exact hnew (by first | rfl | (simp; done) | (simp; omega) | (have hz_ : ∀ v : World, v.drew.heap.size = v.heap.size := fun _ => rfl; simp only [hz_, World.size_alloc]; first | done | omega)) | exact (k9.blk (by first | (simp; done) | (simp; omega) | omega | (show _ < (_ : World).heap.size; simp; omega) | (have hz_ : ∀ v : World, v.drew.heap.size = v.heap.size := fun _ => rfl; simp only [hz_, World.size_alloc]; omega)) (by first | (simp [Value.ownBlock]; done) | (simp [Value.ownBlock]; omega) | (have hz_ : ∀ v : World, v.drew.heap.size = v.heap.size := fun _ => rfl; simp only [hz_, World.size_alloc]; simp [Value.ownBlock]; first | done | omega))).trans (hnew (by first | rfl | (simp; done) | (simp; omega) | (have hz_ : ∀ v : World, v.drew.heap.size = v.heap.size := fun _ => rfl; simp only [hz_, World.size_alloc]; first | done | omega))) | exact (k9.blk (by first | (simp; done) | (simp; omega) | omega | (show _ < (_ : World).heap.size; simp; omega) | (have hz_ : ∀ v : World, v.drew.heap.size = v.heap.size := fun _ => rfl; simp only [hz_, World.size_alloc]; omega)) (by first | (simp [Value.ownBlock]; done) | (simp [Value.ownBlock]; omega) | (have hz_ : ∀ v : World, v.drew.heap.size = v.heap.size := fun _ => rfl; simp only [hz_, World.size_alloc]; simp [Value.ownBlock]; first | done | omega))).trans ((hold (by first | (simp; done) | (simp; omega) | omega | (show _ < (_ : World).heap.size; simp; omega) | (have hz_ : ∀ v : World, v.drew.heap.size = v.heap.size := fun _ => rfl; simp only [hz_, World.size_alloc]; omega))).trans (hnew (by first | rfl | (simp; done) | (simp; omega) | (have hz_ : ∀ v : World, v.drew.heap.size = v.heap.size := fun _ => rfl; simp only [hz_, World.size_alloc]; first | done | omega))))))) (by omega) (hk_size (by assumption)) ?_; intro v8 wb o8 k8 _; obtain ⟨R8, c8, rfl, hc8, hm8⟩ := o8.slice; have B8 := k8.below (And.right (by assumption)) (Nat.le_refl _) (hk_size (by assumption))))
              refine hK.out _ _ ?_ (fun hHeld => ?_)
              · (try dsimp only); (first | exact hk_mk (by assumption) | assumption)
              clear hK K
              try simp only [Act.put, List.setIfInBounds_toArray, List.set_cons_zero, List.set_cons_succ]
              refine wpAnyH_take (i := 6) (oi := ⟨_, _, _, _, _, _⟩) (v := ?v_51) rfl (by kernel_rfl) (by kernel_rfl) (by kernel_rfl) (fun _ _ _ h => h) (Or.inl ⟨by rfl, ?hy_51⟩) (by assumption) ?r_51
              case hy_51 => (intro w_ hS_; (try dsimp only at hS_); go_simp; try with_reducible rfl)
              try simp only [Act.put, List.setIfInBounds_toArray, List.set_cons_zero, List.set_cons_succ]
              refine wpAnyH_done (by kernel_rfl) ?_ _
              (go_wp2_with (fail); go_meet; exact ⟨R8, c8, rfl, o8, hc8, hm8, B8⟩)
            refine AllReadyH.cons (o := ⟨_, _, _, _, _, _⟩) rfl (fun K hK => ?_) AllReadyH.nil
            (first | (refine step_bs rfl rfl (cs := cs.toArray) rfl CS2.out ?_) | go_simp)
            refine hK.out _ _ ?_ (fun hHeld => ?_)
            · (try dsimp only); (first | assumption | (refine hk_alloc (by assumption) _))
            clear hK K
            try simp only [Act.put, List.setIfInBounds_toArray, List.set_cons_zero, List.set_cons_succ]
            refine wpAnyH_ready (rs := [2]) (by kernel_rfl) (by simp) ?_
            refine AllReadyH.cons (o := ⟨_, _, _, _, _, _⟩) rfl (fun K hK => ?_) AllReadyH.nil
            (first | (refine step_ja (v := .slice (some ⟨_, 0, none⟩) 0 0) rfl rfl W5.heap.size rfl (own0 (by first | exact hnew (by first | rfl | (simp; done) | (simp; omega) | (have hz_ : ∀ v : World, v.drew.heap.size = v.heap.size := fun _ => rfl; simp only [hz_, World.size_alloc]; first | done | omega)) | exact (hold (by first | (simp; done) | (simp; omega) | omega | (show _ < (_ : World).heap.size; simp; omega) | (have hz_ : ∀ v : World, v.drew.heap.size = v.heap.size := fun _ => rfl; simp only [hz_, World.size_alloc]; omega))).trans (hnew (by first | rfl | (simp; done) | (simp; omega) | (have hz_ : ∀ v : World, v.drew.heap.size = v.heap.size := fun _ => rfl; simp only [hz_, World.size_alloc]; first | done | omega)))) (by first | (simp; done) | (simp; omega) | omega | (show _ < (_ : World).heap.size; simp; omega) | (have hz_ : ∀ v : World, v.drew.heap.size = v.heap.size := fun _ => rfl; simp only [hz_, World.size_alloc]; omega))) rfl (HTR.out _ (bt B5.out (And.right (by assumption)))) (by omega) (hk_size (by assumption)) ?_; intro v9 wa o9 k9 _; rw [Nat.zero_add, List.nil_append] at o9; obtain ⟨R9, c9, rfl, hc9, hm9⟩ := o9.slice; have B9 := k9.below (And.right (by assumption)) (Nat.le_refl _) (hk_size (by assumption))) | (refine step_ja rfl rfl W5.heap.size rfl (by first | exact o9 | exact o9.alloc _) rfl (row_reads (r := r0) (by rw [hcs.out]; exact (by first | exact hnew (by first | rfl | (simp; done) | (simp; omega) | (have hz_ : ∀ v : World, v.drew.heap.size = v.heap.size := fun _ => rfl; simp only [hz_, World.size_alloc]; first | done | omega)) | exact (k9.blk (by first | (simp; done) | (simp; omega) | omega | (show _ < (_ : World).heap.size; simp; omega) | (have hz_ : ∀ v : World, v.drew.heap.size = v.heap.size := fun _ => rfl; simp only [hz_, World.size_alloc]; omega)) (by first | (simp [Value.ownBlock]; done) | (simp [Value.ownBlock]; omega) | (have hz_ : ∀ v : World, v.drew.heap.size = v.heap.size := fun _ => rfl; simp only [hz_, World.size_alloc]; simp [Value.ownBlock]; first | done | omega))).trans (hnew (by first | rfl | (simp; done) | (simp; omega) | (have hz_ : ∀ v : World, v.drew.heap.size = v.heap.size := fun _ => rfl; simp only [hz_, World.size_alloc]; first | done | omega))) | exact (k9.blk (by first | (simp; done) | (simp; omega) | omega | (show _ < (_ : World).heap.size; simp; omega) | (have hz_ : ∀ v : World, v.drew.heap.size = v.heap.size := fun _ => rfl; simp only [hz_, World.size_alloc]; omega)) (by first | (simp [Value.ownBlock]; done) | (simp [Value.ownBlock]; omega) | (have hz_ : ∀ v : World, v.drew.heap.size = v.heap.size := fun _ => rfl; simp only [hz_, World.size_alloc]; simp [Value.ownBlock]; first | done | omega))).trans ((hold (by first | (simp; done) | (simp; omega) | omega | (show _ < (_ : World).heap.size; simp; omega) | (have hz_ : ∀ v : World, v.drew.heap.size = v.heap.size := fun _ => rfl; simp only [hz_, World.size_alloc]; omega))).trans (hnew (by first | rfl | (simp; done) | (simp; omega) | (have hz_ : ∀ v : World, v.drew.heap.size = v.heap.size := fun _ => rfl; simp only [hz_, World.size_alloc]; first | done | omega))))))) (by omega) (hk_size (by assumption)) ?_; intro v8 wb o8 k8 _; obtain ⟨R8, c8, rfl, hc8, hm8⟩ := o8.slice; have B8 := k8.below (And.right (by assumption)) (Nat.le_refl _) (hk_size (by assumption))))
            refine hK.out _ _ ?_ (fun hHeld => ?_)
            · (try dsimp only); (first | exact hk_mk (by assumption) | assumption)
            clear hK K
            try simp only [Act.put, List.setIfInBounds_toArray, List.set_cons_zero, List.set_cons_succ]
            refine wpAnyH_ready (rs := [5]) (by kernel_rfl) (by simp) ?_
            refine AllReadyH.cons (o := ⟨_, _, _, _, _, _⟩) rfl (fun K hK => ?_) AllReadyH.nil
            (first | (refine step_ja (v := .slice (some ⟨_, 0, none⟩) 0 0) rfl rfl W5.heap.size rfl (own0 (by first | exact hnew (by first | rfl | (simp; done) | (simp; omega) | (have hz_ : ∀ v : World, v.drew.heap.size = v.heap.size := fun _ => rfl; simp only [hz_, World.size_alloc]; first | done | omega)) | exact (hold (by first | (simp; done) | (simp; omega) | omega | (show _ < (_ : World).heap.size; simp; omega) | (have hz_ : ∀ v : World, v.drew.heap.size = v.heap.size := fun _ => rfl; simp only [hz_, World.size_alloc]; omega))).trans (hnew (by first | rfl | (simp; done) | (simp; omega) | (have hz_ : ∀ v : World, v.drew.heap.size = v.heap.size := fun _ => rfl; simp only [hz_, World.size_alloc]; first | done | omega)))) (by first | (simp; done) | (simp; omega) | omega | (show _ < (_ : World).heap.size; simp; omega) | (have hz_ : ∀ v : World, v.drew.heap.size = v.heap.size := fun _ => rfl; simp only [hz_, World.size_alloc]; omega))) rfl (HTR.out _ (bt B5.out (And.right (by assumption)))) (by omega) (hk_size (by assumption)) ?_; intro v9 wa o9 k9 _; rw [Nat.zero_add, List.nil_append] at o9; obtain ⟨R9, c9, rfl, hc9, hm9⟩ := o9.slice; have B9 := k9.below (And.right (by assumption)) (Nat.le_refl _) (hk_size (by assumption))) | (refine step_ja rfl rfl W5.heap.size rfl (by first | exact o9 | exact o9.alloc _) rfl (row_reads (r := r0) (by rw [hcs.out]; exact (by first | exact hnew (by first | rfl | (simp; done) | (simp; omega) | (have hz_ : ∀ v : World, v.drew.heap.size = v.heap.size := fun _ => rfl; simp only [hz_, World.size_alloc]; first | done | omega)) | exact (k9.blk (by first | (simp; done) | (simp; omega) | omega | (show _ < (_ : World).heap.size; simp; omega) | (have hz_ : ∀ v : World, v.drew.heap.size = v.heap.size := fun _ => rfl; simp only [hz_, World.size_alloc]; omega)) (by first | (simp [Value.ownBlock]; done) | (simp [Value.ownBlock]; omega) | (have hz_ : ∀ v : World, v.drew.heap.size = v.heap.size := fun _ => rfl; simp only [hz_, World.size_alloc]; simp [Value.ownBlock]; first | done | omega))).trans (hnew (by first | rfl | (simp; done) | (simp; omega) | (have hz_ : ∀ v : World, v.drew.heap.size = v.heap.size := fun _ => rfl; simp only [hz_, World.size_alloc]; first | done | omega))) | exact (k9.blk (by first | (simp; done) | (simp; omega) | omega | (show _ < (_ : World).heap.size; simp; omega) | (have hz_ : ∀ v : World, v.drew.heap.size = v.heap.size := fun _ => rfl; simp only [hz_, World.size_alloc]; omega)) (by first | (simp [Value.ownBlock]; done) | (simp [Value.ownBlock]; omega) | (have hz_ : ∀ v : World, v.drew.heap.size = v.heap.size := fun _ => rfl; simp only [hz_, World.size_alloc]; simp [Value.ownBlock]; first | done | omega))).trans ((hold (by first | (simp; done) | (simp; omega) | omega | (show _ < (_ : World).heap.size; simp; omega) | (have hz_ : ∀ v : World, v.drew.heap.size = v.heap.size := fun _ => rfl; simp only [hz_, World.size_alloc]; omega))).trans (hnew (by first | rfl | (simp; done) | (simp; omega) | (have hz_ : ∀ v : World, v.drew.heap.size = v.heap.size := fun _ => rfl; simp only [hz_, World.size_alloc]; first | done | omega))))))) (by omega) (hk_size (by assumption)) ?_; intro v8 wb o8 k8 _; obtain ⟨R8, c8, rfl, hc8, hm8⟩ := o8.slice; have B8 := k8.below (And.right (by assumption)) (Nat.le_refl _) (hk_size (by assumption))))
            refine hK.out _ _ ?_ (fun hHeld => ?_)
            · (try dsimp only); (first | exact hk_mk (by assumption) | assumption)
            clear hK K
            try simp only [Act.put, List.setIfInBounds_toArray, List.set_cons_zero, List.set_cons_succ]
            refine wpAnyH_take (i := 6) (oi := ⟨_, _, _, _, _, _⟩) (v := ?v_52) rfl (by kernel_rfl) (by kernel_rfl) (by kernel_rfl) (fun _ _ _ h => h) (Or.inl ⟨by rfl, ?hy_52⟩) (by assumption) ?r_52
            case hy_52 => (intro w_ hS_; (try dsimp only at hS_); go_simp; try with_reducible rfl)
            try simp only [Act.put, List.setIfInBounds_toArray, List.set_cons_zero, List.set_cons_succ]
            refine wpAnyH_done (by kernel_rfl) ?_ _
            (go_wp2_with (fail); go_meet; exact ⟨R8, c8, rfl, o8, hc8, hm8, B8⟩)
          refine AllReadyH.cons (o := ⟨_, _, _, _, _, _⟩) rfl (fun K hK => ?_) AllReadyH.nil
          (first | (refine step_bs rfl rfl (cs := cs.toArray) rfl CS2.out ?_) | go_simp)
          refine hK.out _ _ ?_ (fun hHeld => ?_)
          · (try dsimp only); (first | assumption | (refine hk_alloc (by assumption) _))
          clear hK K
          try simp only [Act.put, List.setIfInBounds_toArray, List.set_cons_zero, List.set_cons_succ]
          refine wpAnyH_ready (rs := [0]) (by kernel_rfl) (by simp) ?_
          refine AllReadyH.cons (o := ⟨_, _, _, _, _, _⟩) rfl (fun K hK => ?_) AllReadyH.nil
          (first | (refine step_bs rfl rfl (cs := cs.toArray) rfl CS2.out ?_) | go_simp)
          refine hK.out _ _ ?_ (fun hHeld => ?_)
          · (try dsimp only); (first | assumption | (refine hk_alloc (by assumption) _))
          clear hK K
          try simp only [Act.put, List.setIfInBounds_toArray, List.set_cons_zero, List.set_cons_succ]
          refine wpAnyH_ready (rs := [2]) (by kernel_rfl) (by simp) ?_
          refine AllReadyH.cons (o := ⟨_, _, _, _, _, _⟩) rfl (fun K hK => ?_) AllReadyH.nil
          (first | (refine step_ja (v := .slice (some ⟨_, 0, none⟩) 0 0) rfl rfl W5.heap.size rfl (own0 (by first | exact hnew (by first | rfl | (simp; done) | (simp; omega) | (have hz_ : ∀ v : World, v.drew.heap.size = v.heap.size := fun _ => rfl; simp only [hz_, World.size_alloc]; first | done | omega)) | exact (hold (by first | (simp; done) | (simp; omega) | omega | (show _ < (_ : World).heap.size; simp; omega) | (have hz_ : ∀ v : World, v.drew.heap.size = v.heap.size := fun _ => rfl; simp only [hz_, World.size_alloc]; omega))).trans (hnew (by first | rfl | (simp; done) | (simp; omega) | (have hz_ : ∀ v : World, v.drew.heap.size = v.heap.size := fun _ => rfl; simp only [hz_, World.size_alloc]; first | done | omega)))) (by first | (simp; done) | (simp; omega) | omega | (show _ < (_ : World).heap.size; simp; omega) | (have hz_ : ∀ v : World, v.drew.heap.size = v.heap.size := fun _ => rfl; simp only [hz_, World.size_alloc]; omega))) rfl (HTR.out _ (bt B5.out (And.right (by assumption)))) (by omega) (hk_size (by assumption)) ?_; intro v9 wa o9 k9 _; rw [Nat.zero_add, List.nil_append] at o9; obtain ⟨R9, c9, rfl, hc9, hm9⟩ := o9.slice; have B9 := k9.below (And.right (by assumption)) (Nat.le_refl _) (hk_size (by assumption))) | (refine step_ja rfl rfl W5.heap.size rfl (by first | exact o9 | exact o9.alloc _) rfl (row_reads (r := r0) (by rw [hcs.out]; exact (by first | exact hnew (by first | rfl | (simp; done) | (simp; omega) | (have hz_ : ∀ v : World, v.drew.heap.size = v.heap.size := fun _ => rfl; simp only [hz_, World.size_alloc]; first | done | omega)) | exact (k9.blk (by first | (simp; done) | (simp; omega) | omega | (show _ < (_ : World).heap.size; simp; omega) | (have hz_ : ∀ v : World, v.drew.heap.size = v.heap.size := fun _ => rfl; simp only [hz_, World.size_alloc]; omega)) (by first | (simp [Value.ownBlock]; done) | (simp [Value.ownBlock]; omega) | (have hz_ : ∀ v : World, v.drew.heap.size = v.heap.size := fun _ => rfl; simp only [hz_, World.size_alloc]; simp [Value.ownBlock]; first | done | omega))).trans (hnew (by first | rfl | (simp; done) | (simp; omega) | (have hz_ : ∀ v : World, v.drew.heap.size = v.heap.size := fun _ => rfl; simp only [hz_, World.size_alloc]; first | done | omega))) | exact (k9.blk (by first | (simp; done) | (simp; omega) | omega | (show _ < (_ : World).heap.size; simp; omega) | (have hz_ : ∀ v : World, v.drew.heap.size = v.heap.size := fun _ => rfl; simp only [hz_, World.size_alloc]; omega)) (by first | (simp [Value.ownBlock]; done) | (simp [Value.ownBlock]; omega) | (have hz_ : ∀ v : World, v.drew.heap.size = v.heap.size := fun _ => rfl; simp only [hz_, World.size_alloc]; simp [Value.ownBlock]; first | done | omega))).trans ((hold (by first | (simp; done) | (simp; omega) | omega | (show _ < (_ : World).heap.size; simp; omega) | (have hz_ : ∀ v : World, v.drew.heap.size = v.heap.size := fun _ => rfl; simp only [hz_, World.size_alloc]; omega))).trans (hnew (by first | rfl | (simp; done) | (simp; omega) | (have hz_ : ∀ v : World, v.drew.heap.size = v.heap.size := fun _ => rfl; simp only [hz_, World.size_alloc]; first | done | omega))))))) (by omega) (hk_size (by assumption)) ?_; intro v8 wb o8 k8 _; obtain ⟨R8, c8, rfl, hc8, hm8⟩ := o8.slice; have B8 := k8.below (And.right (by assumption)) (Nat.le_refl _) (hk_size (by assumption))))
          refine hK.out _ _ ?_ (fun hHeld => ?_)
          · (try dsimp only); (first | exact hk_mk (by assumption) | assumption)
          clear hK K
          try simp only [Act.put, List.setIfInBounds_toArray, List.set_cons_zero, List.set_cons_succ]
          refine wpAnyH_ready (rs := [5]) (by kernel_rfl) (by simp) ?_
          refine AllReadyH.cons (o := ⟨_, _, _, _, _, _⟩) rfl (fun K hK => ?_) AllReadyH.nil
          (first | (refine step_ja (v := .slice (some ⟨_, 0, none⟩) 0 0) rfl rfl W5.heap.size rfl (own0 (by first | exact hnew (by first | rfl | (simp; done) | (simp; omega) | (have hz_ : ∀ v : World, v.drew.heap.size = v.heap.size := fun _ => rfl; simp only [hz_, World.size_alloc]; first | done | omega)) | exact (hold (by first | (simp; done) | (simp; omega) | omega | (show _ < (_ : World).heap.size; simp; omega) | (have hz_ : ∀ v : World, v.drew.heap.size = v.heap.size := fun _ => rfl; simp only [hz_, World.size_alloc]; omega))).trans (hnew (by first | rfl | (simp; done) | (simp; omega) | (have hz_ : ∀ v : World, v.drew.heap.size = v.heap.size := fun _ => rfl; simp only [hz_, World.size_alloc]; first | done | omega)))) (by first | (simp; done) | (simp; omega) | omega | (show _ < (_ : World).heap.size; simp; omega) | (have hz_ : ∀ v : World, v.drew.heap.size = v.heap.size := fun _ => rfl; simp only [hz_, World.size_alloc]; omega))) rfl (HTR.out _ (bt B5.out (And.right (by assumption)))) (by omega) (hk_size (by assumption)) ?_; intro v9 wa o9 k9 _; rw [Nat.zero_add, List.nil_append] at o9; obtain ⟨R9, c9, rfl, hc9, hm9⟩ := o9.slice; have B9 := k9.below (And.right (by assumption)) (Nat.le_refl _) (hk_size (by assumption))) | (refine step_ja rfl rfl W5.heap.size rfl (by first | exact o9 | exact o9.alloc _) rfl (row_reads (r := r0) (by rw [hcs.out]; exact (by first | exact hnew (by first | rfl | (simp; done) | (simp; omega) | (have hz_ : ∀ v : World, v.drew.heap.size = v.heap.size := fun _ => rfl; simp only [hz_, World.size_alloc]; first | done | omega)) | exact (k9.blk (by first | (simp; done) | (simp; omega) | omega | (show _ < (_ : World).heap.size; simp; omega) | (have hz_ : ∀ v : World, v.drew.heap.size = v.heap.size := fun _ => rfl; simp only [hz_, World.size_alloc]; omega)) (by first | (simp [Value.ownBlock]; done) | (simp [Value.ownBlock]; omega) | (have hz_ : ∀ v : World, v.drew.heap.size = v.heap.size := fun _ => rfl; simp only [hz_, World.size_alloc]; simp [Value.ownBlock]; first | done | omega))).trans (hnew (by first | rfl | (simp; done) | (simp; omega) | (have hz_ : ∀ v : World, v.drew.heap.size = v.heap.size := fun _ => rfl; simp only [hz_, World.size_alloc]; first | done | omega))) | exact (k9.blk (by first | (simp; done) | (simp; omega) | omega | (show _ < (_ : World).heap.size; simp; omega) | (have hz_ : ∀ v : World, v.drew.heap.size = v.heap.size := fun _ => rfl; simp only [hz_, World.size_alloc]; omega)) (by first | (simp [Value.ownBlock]; done) | (simp [Value.ownBlock]; omega) | (have hz_ : ∀ v : World, v.drew.heap.size = v.heap.size := fun _ => rfl; simp only [hz_, World.size_alloc]; simp [Value.ownBlock]; first | done | omega))).trans ((hold (by first | (simp; done) | (simp; omega) | omega | (show _ < (_ : World).heap.size; simp; omega) | (have hz_ : ∀ v : World, v.drew.heap.size = v.heap.size := fun _ => rfl; simp only [hz_, World.size_alloc]; omega))).trans (hnew (by first | rfl | (simp; done) | (simp; omega) | (have hz_ : ∀ v : World, v.drew.heap.size = v.heap.size := fun _ => rfl; simp only [hz_, World.size_alloc]; first | done | omega))))))) (by omega) (hk_size (by assumption)) ?_; intro v8 wb o8 k8 _; obtain ⟨R8, c8, rfl, hc8, hm8⟩ := o8.slice; have B8 := k8.below (And.right (by assumption)) (Nat.le_refl _) (hk_size (by assumption))))
          refine hK.out _ _ ?_ (fun hHeld => ?_)
          · (try dsimp only); (first | exact hk_mk (by assumption) | assumption)
          clear hK K
          try simp only [Act.put, List.setIfInBounds_toArray, List.set_cons_zero, List.set_cons_succ]
          refine wpAnyH_take (i := 6) (oi := ⟨_, _, _, _, _, _⟩) (v := ?v_53) rfl (by kernel_rfl) (by kernel_rfl) (by kernel_rfl) (fun _ _ _ h => h) (Or.inl ⟨by rfl, ?hy_53⟩) (by assumption) ?r_53
          case hy_53 => (intro w_ hS_; (try dsimp only at hS_); go_simp; try with_reducible rfl)
          try simp only [Act.put, List.setIfInBounds_toArray, List.set_cons_zero, List.set_cons_succ]
          refine wpAnyH_done (by kernel_rfl) ?_ _
          (go_wp2_with (fail); go_meet; exact ⟨R8, c8, rfl, o8, hc8, hm8, B8⟩)
        case rest =>
          obtain ⟨R, c8, rfl, HO8, hc8, hm8, B8⟩ := hcut
          obtain ⟨w8, hw8⟩ : ∃ w8 : World, w8 = wc := ⟨_, rfl⟩
          subst hw8
          have BW8 := Lib.hid (bt B5.out B8.out)
          have HT8 : Hid (TbAt w8 w8.heap.size R (n + 1) (l ++ [r0])) := by
            refine ⟨HO8.out.reads, fun q hq => ?_, by omega⟩
            rcases List.mem_append.1 hq with h | h
            · exact ((HT.out.2.1 q h).below (BW8.out.mono HBW.out)).more (Nat.le_trans HBW.out BW8.out.size)
            · rw [List.mem_singleton.1 h]; exact (HR0.out.below (BW8.out.mono HBW.out)).more (Nat.le_trans HBW.out BW8.out.size)
          have HJ8 : Hid (jobs (l ++ [r0]) = jobs l ++ [x]) := by show _ = _; rw [jobs_append, ← HX.out]; rfl
          by_cases hlt40 : n < 40
          · have t9 : decide ((n : Int) < 40) = true := by simp; omega
            have t9' : decide (n < 40) = true := by simp; omega
            have HR := Lib.hid (HNT.out.1 hlt40)
            clear HNT hlt40
            go_wp2
            go_ret2
            rw [HR.out]
            exact ⟨R, _, c8, l ++ [r0], rfl, HJ8.out, HT8, hc8, hm8, BW8.out⟩
          have t9 : decide ((n : Int) < 40) = false := by simp; omega
          have t9' : decide (n < 40) = false := by simp; omega
          have HPF := Lib.hid (HNT.out.2 hlt40)
          have h40n : Hid (n = 40) := by show n = 40; omega
          clear HNT hlt40
          have HOK8 : Hid (∀ y ∈ jobs (l ++ [r0]), okJ y = true) := by
            show ∀ y ∈ _, _
            rw [HJ8.out]
            intro y hy
            rcases List.mem_append.1 hy with h | h
            · exact ((tab_iff.1 HTB.out).2.1 y h).1
            · rw [List.mem_singleton.1 h]; exact HOJ.out
          have q9 := Lib.hid (fun i v (hv : Below w8.heap.size w8 v) => rwaited_any (l ++ [r0]) R (n + 1) c8 w8.heap.size i v (HT8.out.below hv) hv.size HOK8.out)
          rw [HJ8.out] at q9
          have HTW := Lib.hid (fun v (hv : Below w8.heap.size w8 v) => (HT.out.below ((bt BW8.out hv).mono HBW.out)))
          have HOKL := Lib.hid (fun y (hy : y ∈ jobs l) => ((tab_iff.1 HTB.out).2.1 y hy).1)
          go_wp2
          go_loopw [8] (fun i wr => ∃ j : Nat, j ≤ n ∧ i = .int .i64 j ∧ Hid (Below w8.heap.size w8 wr) ∧ Hid (∀ t y, t < j → (jobs l)[t]? = some y → goneQ (jobs l ++ [x]) y = false)) (fun i _ => n - (intOf i).toNat)
          case atStart => exact ⟨0, Nat.zero_le _, rfl, Below.refl _ _, fun t y h => by omega⟩
          case round =>
            obtain ⟨j, hj, rfl, hbj, HG⟩ := hrel
            by_cases hjl : j < n
            · obtain ⟨b, o, r, rfl, hbb, hx3, KR, JQ⟩ := (HTW.out _ hbj.out).elem hjl
              have hbl : b < wr.heap.size := Nat.lt_of_lt_of_le hbb (Nat.le_trans HBW.out (bt BW8.out hbj.out).size)
              have hj0 : (0 : Int) ≤ (j : Int) := by omega
              have hj1 : (j : Int) < (n : Int) := by omega
              have tj : decide ((j : Int) < (n : Int)) = true := by simp; omega
              have HJX := Lib.hid (jobs_at hx3.out)
              have CSZ := Lib.hid (jrC_info (r := r))
              have qo := Lib.hid (fun v => rover_r r v)
              rw [ended_over (HOKL.out _ (List.mem_of_getElem? HJX.out))] at qo
              have qw := Lib.hid (q9.out r.x.id)
              have e0r : (jrC r)[0]? = some (.int .i64 r.x.id) := rfl
              have HGQ : Hid (goneQ (jobs l ++ [x]) r.x = (overS r.x && !waitP (jobs l ++ [x]) r.x.id)) := rfl
              have HG2 : Hid (goneQ (jobs l ++ [x]) r.x = false → ∀ t y, t < j + 1 → (jobs l)[t]? = some y → goneQ (jobs l ++ [x]) y = false) := Lib.hid (fun hw t y ht hy => by
                by_cases e : t = j
                · subst e; rw [HJX.out] at hy; rw [← Option.some.inj hy]; exact hw
                · exact HG.out t y (by omega) hy)
              have HHIT : Hid (goneQ (jobs l ++ [x]) r.x = true → idxG (goneQ (jobs l ++ [x])) (jobs l) = (j : Int)) := Lib.hid (fun hw => idxG_hit HJX.out hw HG.out)
              obtain ⟨gq, hgq⟩ : ∃ q, goneQ (jobs l ++ [x]) r.x = q := ⟨_, rfl⟩
              obtain ⟨zo2, hzo2⟩ : ∃ q, overS r.x = q := ⟨_, rfl⟩
              obtain ⟨zw, hzw⟩ : ∃ q, waitP (jobs l ++ [x]) r.x.id = q := ⟨_, rfl⟩
              obtain ⟨yi, hyi⟩ : ∃ q, r.x.id = q := ⟨_, rfl⟩
              rw [hgq, hzo2, hzw] at HGQ
              rw [hgq] at HG2 HHIT
              rw [hzo2] at qo
              rw [hzw, hyi] at qw
              rw [hyi] at e0r
              obtain ⟨ds, hds⟩ : ∃ ds, Hid (jrC r = ds) := ⟨_, rfl⟩
              rw [hds.out] at KR CSZ qo e0r
              clear hgq hzo2 hzw hyi hds hx3 JQ HG HJX
              cases zo2
              case false =>
                have HG3 := Lib.hid (HG2.out HGQ.out)
                clear HG2 HHIT
                go_wp2_with (first | (refine wpList_load_mid rfl 28 _ rfl b (o + j * 20) rfl ds _ KR.out Tryz.underlying28 rfl CSZ.out ?_) | (go_at_call 76; refine (qo.out _).mono ?_; rintro e w9 ⟨rfl, hw9⟩))
                go_roundw
                case rel => exact ⟨j + 1, by omega, by simp, bt hbj.out hw9, HG3.out⟩
                case measure => simp [intOf]; omega
              go_wp2_with (refine wpList_load_mid rfl 28 _ rfl b (o + j * 20) rfl ds _ KR.out Tryz.underlying28 rfl CSZ.out ?_)
              refine (qo.out _).mono ?_; rintro e w9 ⟨rfl, hw9⟩
              have k9c : w9.cell? ⟨b, o + j * 20, none⟩ = some (.int .i64 yi) := range_cell (j := 0) (range_lower KR.out hbl hw9) e0r
              have B9w := Lib.hid (bt hbj.out hw9)
              clear hw9
              go_wp2_with (fail)
              refine (qw.out _ B9w.out).mono ?_; rintro e W6 ⟨rfl, hw10⟩
              have BW6 := Lib.hid (bt B9w.out hw10)
              clear hw10 k9c
              cases zw
              case true =>
                have HG3 := Lib.hid (HG2.out HGQ.out)
                clear HG2 HHIT
                go_wp2
                go_roundw
                case rel => exact ⟨j + 1, by omega, by simp, BW6, HG3.out⟩
                case measure => simp [intOf]; omega
              have hit := HHIT.out HGQ.out
              have HR : Hid (P = ((jobs l ++ [x]).eraseIdx j, 0)) := by show _ = _; rw [HPF.out, hit, if_pos (by omega)]; rfl
              clear HG2 HHIT hit HPF
              have BW5 := Lib.hid (bt BW8.out BW6.out)
              obtain ⟨gb, cb, ev, _⟩ := HO8.out.at_ (by omega)
              simp only [Value.slice.injEq, true_and] at ev
              obtain ⟨rfl, rfl⟩ := ev
              have HL8 : Hid ((l ++ [r0]).length = n + 1) := HT8.out.len
              have HRP := Lib.hid (fun v (hv : Below W6.heap.size W6 v) => (by
                have h := ((HT8.out.1.below (bt BW6.out hv)).take_ (k := j) (by omega))
                rw [← recs_take jrC_len] at h
                exact h : Reads v w8.heap.size 20 (some ⟨gb, 0, none⟩) j (recs jrC ((l ++ [r0]).take j))))
              have HRD := Lib.hid (fun v (hv : Below W6.heap.size W6 v) => (by
                have h := (HT8.out.1.below (bt BW6.out hv)).cut (k := j + 1) (cap := c8) (by omega) hc8
                rw [← recs_drop jrC_len, show n + 1 - (j + 1) = n - j by omega, show (if c8 = j + 1 then (some ⟨gb, 0, none⟩ : Option Addr) else (some (⟨gb, 0, none⟩ : Addr)).map (·.add ((j + 1) * 20))) = (if c8 = j + 1 then (some ⟨gb, 0, none⟩ : Option Addr) else some ⟨gb, (j + 1) * 20, none⟩) by split <;> simp [add_plain]] at h
                exact h : Reads v w8.heap.size 20 (if c8 = j + 1 then (some ⟨gb, 0, none⟩ : Option Addr) else some ⟨gb, (j + 1) * 20, none⟩) (n - j) (recs jrC ((l ++ [r0]).drop (j + 1)))))
              have HJE : Hid (jobs (((l ++ [r0]).take j) ++ ((l ++ [r0]).drop (j + 1))) = (jobs l ++ [x]).eraseIdx j) := by
                show _ = _
                rw [← HJ8.out, ← jobs_erase, List.eraseIdx_eq_take_drop_succ]
              have TE : Hid (∀ R8 c9 v, Owns v W6.heap.size 28 20 (.slice R8 n c9) n (recs jrC (((l ++ [r0]).take j) ++ ((l ++ [r0]).drop (j + 1)))) → Below W6.heap.size W6 v → Hid (TbAt v v.heap.size R8 n (((l ++ [r0]).take j) ++ ((l ++ [r0]).drop (j + 1))))) := by
                show ∀ _, _
                intro R8 c9 v ho hv
                refine ⟨ho.reads, fun q hq => ?_, by omega⟩
                have hq2 : q ∈ l ++ [r0] := by
                  rcases List.mem_append.1 hq with h | h
                  · exact List.mem_of_mem_take h
                  · exact List.mem_of_mem_drop h
                exact ((HT8.out.2.1 q hq2).below (bt BW6.out hv)).more (bt BW6.out hv).size
              have hw : IntKind.i64.wrap ((j : Int) + 1) = (j : Int) + 1 := wrap_small (by omega) (by omega)
              have hw2 : ((j : Int) + 1).toNat = j + 1 := by omega
              have b0 : (0 : Int) ≤ (j : Int) + 1 := by omega
              have b1 : (j : Int) ≤ (c8 : Int) := by omega
              have b2 : (j : Int) + 1 ≤ (n : Int) + 1 := by omega
              have b3 : (j : Int) + 1 ≤ (c8 : Int) := by omega
              have b4 : j ≤ c8 := by omega
              have b5 : j + 1 ≤ n + 1 := by omega
              have b6 : j + 1 ≤ c8 := by omega
              go_upto_region 17 with (fail)
              refine wp_region_held_drew (S := (fun w' => (∀ b o, b < W6.heap.size → w'.cell? ⟨b, o, none⟩ = W6.cell? ⟨b, o, none⟩) ∧ Below W6.heap.size W6 w')) (by kernel_rfl) ?_ (fun hHeld => ?_)
              · (try dsimp only); (first | assumption | exact hk_drew | exact hk_call (by assumption) (by assumption) | exact hk_mk (by assumption) | (refine hk_alloc (by assumption) _) | (refine hk_row (by assumption) (by first | exact Nat.le_refl _ | exact hk_size (by assumption) | omega | (simp; done) | (simp; omega)) _) | (refine hk_set (by assumption) (by first | exact Nat.le_refl _ | exact hk_size (by assumption) | omega | (simp; done) | (simp; omega)) _))
              refine wpAnyH_take (i := 1) (oi := ⟨_, _, _, _, _, _⟩) (v := ?v_54) rfl (by kernel_rfl) (by kernel_rfl) (by kernel_rfl) (fun _ _ _ h => h) (Or.inl ⟨by rfl, ?hy_54⟩) (by assumption) ?r_54
              case hy_54 => (intro w_ hS_; (try dsimp only at hS_); go_simp; try with_reducible rfl)
              try simp only [Act.put, List.setIfInBounds_toArray, List.set_cons_zero, List.set_cons_succ]
              refine wpAnyH_take (i := 2) (oi := ⟨_, _, _, _, _, _⟩) (v := ?v_55) rfl (by kernel_rfl) (by kernel_rfl) (by kernel_rfl) (fun _ _ _ h => h) (Or.inl ⟨by rfl, ?hy_55⟩) (by assumption) ?r_55
              case hy_55 => (intro w_ hS_; (try dsimp only at hS_); go_simp; try with_reducible rfl)
              try simp only [Act.put, List.setIfInBounds_toArray, List.set_cons_zero, List.set_cons_succ]
              refine wpAnyH_take (i := 3) (oi := ⟨_, _, _, _, _, _⟩) (v := ?v_56) rfl (by kernel_rfl) (by kernel_rfl) (by kernel_rfl) (fun _ _ _ h => h) (Or.inl ⟨by rfl, ?hy_56⟩) (by assumption) ?r_56
              case hy_56 => (intro w_ hS_; (try dsimp only at hS_); go_simp; try with_reducible rfl)
              try simp only [Act.put, List.setIfInBounds_toArray, List.set_cons_zero, List.set_cons_succ]
              refine wpAnyH_take (i := 5) (oi := ⟨_, _, _, _, _, _⟩) (v := ?v_57) rfl (by kernel_rfl) (by kernel_rfl) (by kernel_rfl) (fun _ _ _ h => h) (Or.inl ⟨by rfl, ?hy_57⟩) (by assumption) ?r_57
              case hy_57 => (intro w_ hS_; (try dsimp only at hS_); go_simp; try with_reducible rfl)
              try simp only [Act.put, List.setIfInBounds_toArray, List.set_cons_zero, List.set_cons_succ]
              refine wpAnyH_take (i := 6) (oi := ⟨_, _, _, _, _, _⟩) (v := ?v_58) rfl (by kernel_rfl) (by kernel_rfl) (by kernel_rfl) (fun _ _ _ h => h) (Or.inl ⟨by rfl, ?hy_58⟩) (by assumption) ?r_58
              case hy_58 => (intro w_ hS_; (try dsimp only at hS_); go_simp; try with_reducible rfl)
              try simp only [Act.put, List.setIfInBounds_toArray, List.set_cons_zero, List.set_cons_succ]
              refine wpAnyH_take (i := 7) (oi := ⟨_, _, _, _, _, _⟩) (v := ?v_59) rfl (by kernel_rfl) (by kernel_rfl) (by kernel_rfl) (fun _ _ _ h => h) (Or.inl ⟨by rfl, ?hy_59⟩) (by assumption) ?r_59
              case hy_59 => (intro w_ hS_; (try dsimp only at hS_); go_simp; try with_reducible rfl)
              try simp only [Act.put, List.setIfInBounds_toArray, List.set_cons_zero, List.set_cons_succ]
              refine wpAnyH_take (i := 8) (oi := ⟨_, _, _, _, _, _⟩) (v := ?v_60) rfl (by kernel_rfl) (by kernel_rfl) (by kernel_rfl) (fun _ _ _ h => h) (Or.inl ⟨by rfl, ?hy_60⟩) (by assumption) ?r_60
              case hy_60 => (intro w_ hS_; (try dsimp only at hS_); go_simp; try with_reducible rfl)
              try simp only [Act.put, List.setIfInBounds_toArray, List.set_cons_zero, List.set_cons_succ]
              refine wpAnyH_ready (rs := [0]) (by kernel_rfl) (by simp) ?_
              refine AllReadyH.cons (o := ⟨_, _, _, _, _, _⟩) rfl (fun K hK => ?_) AllReadyH.nil
              (first | (refine step_bs rfl rfl (cs := cs.toArray) rfl CS2.out ?_) | go_simp)
              refine hK.out _ _ ?_ (fun hHeld => ?_)
              · (try dsimp only); (first | assumption | (refine hk_alloc (by assumption) _))
              clear hK K
              try simp only [Act.put, List.setIfInBounds_toArray, List.set_cons_zero, List.set_cons_succ]
              refine wpAnyH_ready (rs := [4]) (by kernel_rfl) (by simp) ?_
              refine AllReadyH.cons (o := ⟨_, _, _, _, _, _⟩) rfl (fun K hK => ?_) AllReadyH.nil
              (first | (refine step_ja (v := .slice (some ⟨_, 0, none⟩) 0 0) rfl rfl W6.heap.size rfl (own0 (by first | exact hnew (by first | rfl | (simp; done) | (simp; omega) | (have hz_ : ∀ v : World, v.drew.heap.size = v.heap.size := fun _ => rfl; simp only [hz_, World.size_alloc]; first | done | omega)) | exact (hold (by first | (simp; done) | (simp; omega) | omega | (show _ < (_ : World).heap.size; simp; omega) | (have hz_ : ∀ v : World, v.drew.heap.size = v.heap.size := fun _ => rfl; simp only [hz_, World.size_alloc]; omega))).trans (hnew (by first | rfl | (simp; done) | (simp; omega) | (have hz_ : ∀ v : World, v.drew.heap.size = v.heap.size := fun _ => rfl; simp only [hz_, World.size_alloc]; first | done | omega)))) (by first | (simp; done) | (simp; omega) | omega | (show _ < (_ : World).heap.size; simp; omega) | (have hz_ : ∀ v : World, v.drew.heap.size = v.heap.size := fun _ => rfl; simp only [hz_, World.size_alloc]; omega))) rfl (HRP.out _ (And.right (by assumption))) (by omega) (hk_size (by assumption)) ?_; intro v9 wa o9 k9 _; rw [Nat.zero_add, List.nil_append] at o9; obtain ⟨R9, c9, rfl, hc9, hm9⟩ := o9.slice; have B9 := k9.below (And.right (by assumption)) (Nat.le_refl _) (hk_size (by assumption))) | (refine step_ja rfl rfl W6.heap.size rfl (by first | exact o9 | exact o9.alloc _) rfl (HRD.out _ (And.right (by assumption))) (by omega) (hk_size (by assumption)) ?_; intro v8 wb o8 k8 _; obtain ⟨R8, c8, rfl, hc8, hm8⟩ := o8.slice; have B8 := k8.below (And.right (by assumption)) (Nat.le_refl _) (hk_size (by assumption))))
              refine hK.out _ _ ?_ (fun hHeld => ?_)
              · (try dsimp only); (first | exact hk_mk (by assumption) | assumption)
              clear hK K
              try simp only [Act.put, List.setIfInBounds_toArray, List.set_cons_zero, List.set_cons_succ]
              refine wpAnyH_ready (rs := [9]) (by kernel_rfl) (by simp) ?_
              refine AllReadyH.cons (o := ⟨_, _, _, _, _, _⟩) rfl (fun K hK => ?_) AllReadyH.nil
              (first | (refine step_ja (v := .slice (some ⟨_, 0, none⟩) 0 0) rfl rfl W6.heap.size rfl (own0 (by first | exact hnew (by first | rfl | (simp; done) | (simp; omega) | (have hz_ : ∀ v : World, v.drew.heap.size = v.heap.size := fun _ => rfl; simp only [hz_, World.size_alloc]; first | done | omega)) | exact (hold (by first | (simp; done) | (simp; omega) | omega | (show _ < (_ : World).heap.size; simp; omega) | (have hz_ : ∀ v : World, v.drew.heap.size = v.heap.size := fun _ => rfl; simp only [hz_, World.size_alloc]; omega))).trans (hnew (by first | rfl | (simp; done) | (simp; omega) | (have hz_ : ∀ v : World, v.drew.heap.size = v.heap.size := fun _ => rfl; simp only [hz_, World.size_alloc]; first | done | omega)))) (by first | (simp; done) | (simp; omega) | omega | (show _ < (_ : World).heap.size; simp; omega) | (have hz_ : ∀ v : World, v.drew.heap.size = v.heap.size := fun _ => rfl; simp only [hz_, World.size_alloc]; omega))) rfl (HRP.out _ (And.right (by assumption))) (by omega) (hk_size (by assumption)) ?_; intro v9 wa o9 k9 _; rw [Nat.zero_add, List.nil_append] at o9; obtain ⟨R9, c9, rfl, hc9, hm9⟩ := o9.slice; have B9 := k9.below (And.right (by assumption)) (Nat.le_refl _) (hk_size (by assumption))) | (refine step_ja rfl rfl W6.heap.size rfl (by first | exact o9 | exact o9.alloc _) rfl (HRD.out _ (And.right (by assumption))) (by omega) (hk_size (by assumption)) ?_; intro v8 wb o8 k8 _; obtain ⟨R8, c8, rfl, hc8, hm8⟩ := o8.slice; have B8 := k8.below (And.right (by assumption)) (Nat.le_refl _) (hk_size (by assumption))))
              refine hK.out _ _ ?_ (fun hHeld => ?_)
              · (try dsimp only); (first | exact hk_mk (by assumption) | assumption)
              clear hK K
              try simp only [Act.put, List.setIfInBounds_toArray, List.set_cons_zero, List.set_cons_succ]
              refine wpAnyH_take (i := 10) (oi := ⟨_, _, _, _, _, _⟩) (v := ?v_61) rfl (by kernel_rfl) (by kernel_rfl) (by kernel_rfl) (fun _ _ _ h => h) (Or.inl ⟨by rfl, ?hy_61⟩) (by assumption) ?r_61
              case hy_61 => (intro w_ hS_; (try dsimp only at hS_); go_simp; try with_reducible rfl)
              try simp only [Act.put, List.setIfInBounds_toArray, List.set_cons_zero, List.set_cons_succ]
              refine wpAnyH_take (i := 11) (oi := ⟨_, _, _, _, _, _⟩) (v := ?v_62) rfl (by kernel_rfl) (by kernel_rfl) (by kernel_rfl) (fun _ _ _ h => h) (Or.inl ⟨by rfl, ?hy_62⟩) (by assumption) ?r_62
              case hy_62 => (intro w_ hS_; (try dsimp only at hS_); go_simp; try with_reducible rfl)
              try simp only [Act.put, List.setIfInBounds_toArray, List.set_cons_zero, List.set_cons_succ]
              refine wpAnyH_done (by kernel_rfl) ?_ _
              (go_wp2_with (fail); go_ret2; rw [HR.out]; have ej : j + (n - j) = n := (by omega); rw [ej] at o8 hc8; exact ⟨R8, _, c8, _, rfl, HJE.out, TE.out _ _ _ o8 B8, hc8, hm8, bt BW5.out B8⟩)
            · obtain rfl : j = n := by omega
              have tj : decide ((j : Int) < (j : Int)) = false := by simp
              have HM : Hid (idxG (goneQ (jobs l ++ [x])) (jobs l) = -1) := by show _ = _; exact idxG_miss (fun t y ht hy => HG.out t y (by rw [← hlj.out]; exact ht) hy)
              have HR : Hid (P = ([], 150)) := by show _ = _; rw [HPF.out, HM.out]; rfl
              go_wp2
              go_ret2
              rw [HR.out]
              exact retTr_no (bt BW8.out hbj.out)
      rw [zo] at q3
      go_wp2_with (refine wpList_load_row rfl 28 _ rfl (w.heap.size) rfl 28 _ (0, 0) _ GR.out Tryz.underlying28 rfl CSA.out ?_)
      refine (q3.out _).mono ?_; rintro e w4 ⟨rfl, hw4⟩
      have s4 : w.heap.size < w4.heap.size := Nat.lt_of_lt_of_le sr hw4.size
      have G4 := Lib.hid ((hw4.block _ sr).trans GR.out)
      have B4 := Lib.hid (bt hbw.out hw4)
      have u2 : w4.cell? ⟨w.heap.size, 2, none⟩ = some (.string us) := (cell_of_row w4 _ 2 _ _ _ G4.out).trans (at_arr e2)
      clear hw4
      obtain ⟨na, hna⟩ : ∃ na, Hid (activeP (jobs l) us = na) := ⟨_, rfl⟩
      rw [hna.out] at q4
      have HNA : Hid (activeP (jobs l) x.user = na) := by show _ = _; rw [HUS.out]; exact hna.out
      cases z8 : decide (8 ≤ na)
      case true =>
        have HR : Hid (P = ([], 151)) := hP.out.symm.trans (addP_user HTB.out HOJ.out HLA.out zo (by rw [HNA.out]; exact of_decide_eq_true z8))
        clear hP zo
        go_wp2_with (fail)
        refine (q4.out _ B4.out).mono ?_; rintro e w6 ⟨rfl, hw6⟩
        have B6 := Lib.hid (bt B4.out hw6)
        clear hw6 u2
        go_wp2
        go_ret2
        rw [HR.out]
        exact retTr_no B6.out
      go_wp2_with (fail)
      refine (q4.out _ B4.out).mono ?_; rintro e W5 ⟨rfl, hw5⟩
      have G5 := Lib.hid ((hw5.block _ s4).trans G4.out)
      have B5 := Lib.hid (bt B4.out hw5)
      have HNT := Lib.hid (And.intro (fun h5 : k < 40 => hP.out.symm.trans (addP_room HTB.out HOJ.out HLA.out (.inr (by rw [HNA.out]; simpa using z8)) (by rw [hlj.out]; exact h5))) (fun h5 : ¬ k < 40 => hP.out.symm.trans (addP_full HTB.out HOJ.out HLA.out (.inr (by rw [HNA.out]; simpa using z8)) (by rw [hlj.out]; exact h5))))
      clear hP zo hw5 u2 q3 q4
      obtain ⟨n, hnk⟩ : ∃ n, n = k := ⟨_, rfl⟩
      subst hnk
      go_upto_region 10 with (fail)
      go_cut [7] (fun v wx => ∃ R c8, v = .slice R (n + 1) c8 ∧ Hid (Owns wx W5.heap.size 28 20 (.slice R (n + 1) c8) (n + 1) (recs jrC (l ++ [r0]))) ∧ n + 1 ≤ c8 ∧ c8 ≤ maxLen ∧ Hid (Below W5.heap.size W5 wx))
      case first =>
        refine wp_region_held_drew (S := (fun w' => (∀ b o, b < W5.heap.size → w'.cell? ⟨b, o, none⟩ = W5.cell? ⟨b, o, none⟩) ∧ Below W5.heap.size W5 w')) (by kernel_rfl) ?_ (fun hHeld => ?_)
        · (try dsimp only); (first | assumption | exact hk_drew | exact hk_call (by assumption) (by assumption) | exact hk_mk (by assumption) | (refine hk_alloc (by assumption) _) | (refine hk_row (by assumption) (by first | exact Nat.le_refl _ | exact hk_size (by assumption) | omega | (simp; done) | (simp; omega)) _) | (refine hk_set (by assumption) (by first | exact Nat.le_refl _ | exact hk_size (by assumption) | omega | (simp; done) | (simp; omega)) _))
        refine wpAnyH_take (i := 1) (oi := ⟨_, _, _, _, _, _⟩) (v := ?v_63) rfl (by kernel_rfl) (by kernel_rfl) (by kernel_rfl) (fun _ _ _ h => h) (Or.inl ⟨by rfl, ?hy_63⟩) (by assumption) ?r_63
        case hy_63 => (intro w_ hS_; (try dsimp only at hS_); go_simp; try with_reducible rfl)
        try simp only [Act.put, List.setIfInBounds_toArray, List.set_cons_zero, List.set_cons_succ]
        first
          | (refine wpAnyH_take (i := 3) (oi := ⟨_, _, _, _, _, _⟩) (v := (.agg cs.toArray)) rfl (by kernel_rfl) (by kernel_rfl) (by kernel_rfl) (fun _ _ _ h => h) (Or.inl ⟨by rfl, yl_row 28 _ (by rfl) (w.heap.size) (by rfl) 28 _ (0, 0) _ (fun w_ h_ => hk_block h_ G5.out) Tryz.underlying28 rfl (CSA.out)⟩) (by assumption) ?_)
          | (refine wpAnyH_take (i := 3) (oi := ⟨_, _, _, _, _, _⟩) (v := ?v_64) rfl (by kernel_rfl) (by kernel_rfl) (by kernel_rfl) (fun _ _ _ h => h) (Or.inl ⟨by rfl, ?hy_64⟩) (by assumption) ?r_64; case hy_64 => (intro w_ hS_; (try dsimp only at hS_); go_simp; try with_reducible rfl))
        try simp only [Act.put, List.setIfInBounds_toArray, List.set_cons_zero, List.set_cons_succ]
        refine wpAnyH_ready (rs := [0, 4]) (by kernel_rfl) (by simp) ?_
        refine AllReadyH.cons (o := ⟨_, _, _, _, _, _⟩) rfl (fun K hK => ?_) ?_
        · (first | (refine step_bs rfl rfl (cs := cs.toArray) rfl CS2.out ?_) | go_simp)
          refine hK.out _ _ ?_ (fun hHeld => ?_)
          · (try dsimp only); (first | assumption | (refine hk_alloc (by assumption) _))
          clear hK K
          try simp only [Act.put, List.setIfInBounds_toArray, List.set_cons_zero, List.set_cons_succ]
          refine wpAnyH_ready (rs := [2, 4]) (by kernel_rfl) (by simp) ?_
          refine AllReadyH.cons (o := ⟨_, _, _, _, _, _⟩) rfl (fun K hK => ?_) ?_
          · (first | (refine step_ja (v := .slice (some ⟨_, 0, none⟩) 0 0) rfl rfl W5.heap.size rfl (own0 (by first | exact hnew (by first | rfl | (simp; done) | (simp; omega) | (have hz_ : ∀ v : World, v.drew.heap.size = v.heap.size := fun _ => rfl; simp only [hz_, World.size_alloc]; first | done | omega)) | exact (hold (by first | (simp; done) | (simp; omega) | omega | (show _ < (_ : World).heap.size; simp; omega) | (have hz_ : ∀ v : World, v.drew.heap.size = v.heap.size := fun _ => rfl; simp only [hz_, World.size_alloc]; omega))).trans (hnew (by first | rfl | (simp; done) | (simp; omega) | (have hz_ : ∀ v : World, v.drew.heap.size = v.heap.size := fun _ => rfl; simp only [hz_, World.size_alloc]; first | done | omega)))) (by first | (simp; done) | (simp; omega) | omega | (show _ < (_ : World).heap.size; simp; omega) | (have hz_ : ∀ v : World, v.drew.heap.size = v.heap.size := fun _ => rfl; simp only [hz_, World.size_alloc]; omega))) rfl (HTR.out _ (bt B5.out (And.right (by assumption)))) (by omega) (hk_size (by assumption)) ?_; intro v9 wa o9 k9 _; rw [Nat.zero_add, List.nil_append] at o9; obtain ⟨R9, c9, rfl, hc9, hm9⟩ := o9.slice; have B9 := k9.below (And.right (by assumption)) (Nat.le_refl _) (hk_size (by assumption))) | (refine step_ja rfl rfl W5.heap.size rfl (by first | exact o9 | exact o9.alloc _) rfl (row_reads (r := r0) (by rw [hcs.out]; exact (by first | exact hnew (by first | rfl | (simp; done) | (simp; omega) | (have hz_ : ∀ v : World, v.drew.heap.size = v.heap.size := fun _ => rfl; simp only [hz_, World.size_alloc]; first | done | omega)) | exact (k9.blk (by first | (simp; done) | (simp; omega) | omega | (show _ < (_ : World).heap.size; simp; omega) | (have hz_ : ∀ v : World, v.drew.heap.size = v.heap.size := fun _ => rfl; simp only [hz_, World.size_alloc]; omega)) (by first | (simp [Value.ownBlock]; done) | (simp [Value.ownBlock]; omega) | (have hz_ : ∀ v : World, v.drew.heap.size = v.heap.size := fun _ => rfl; simp only [hz_, World.size_alloc]; simp [Value.ownBlock]; first | done | omega))).trans (hnew (by first | rfl | (simp; done) | (simp; omega) | (have hz_ : ∀ v : World, v.drew.heap.size = v.heap.size := fun _ => rfl; simp only [hz_, World.size_alloc]; first | done | omega))) | exact (k9.blk (by first | (simp; done) | (simp; omega) | omega | (show _ < (_ : World).heap.size; simp; omega) | (have hz_ : ∀ v : World, v.drew.heap.size = v.heap.size := fun _ => rfl; simp only [hz_, World.size_alloc]; omega)) (by first | (simp [Value.ownBlock]; done) | (simp [Value.ownBlock]; omega) | (have hz_ : ∀ v : World, v.drew.heap.size = v.heap.size := fun _ => rfl; simp only [hz_, World.size_alloc]; simp [Value.ownBlock]; first | done | omega))).trans ((hold (by first | (simp; done) | (simp; omega) | omega | (show _ < (_ : World).heap.size; simp; omega) | (have hz_ : ∀ v : World, v.drew.heap.size = v.heap.size := fun _ => rfl; simp only [hz_, World.size_alloc]; omega))).trans (hnew (by first | rfl | (simp; done) | (simp; omega) | (have hz_ : ∀ v : World, v.drew.heap.size = v.heap.size := fun _ => rfl; simp only [hz_, World.size_alloc]; first | done | omega))))))) (by omega) (hk_size (by assumption)) ?_; intro v8 wb o8 k8 _; obtain ⟨R8, c8, rfl, hc8, hm8⟩ := o8.slice; have B8 := k8.below (And.right (by assumption)) (Nat.le_refl _) (hk_size (by assumption))))
            refine hK.out _ _ ?_ (fun hHeld => ?_)
            · (try dsimp only); (first | exact hk_mk (by assumption) | assumption)
            clear hK K
            try simp only [Act.put, List.setIfInBounds_toArray, List.set_cons_zero, List.set_cons_succ]
            refine wpAnyH_ready (rs := [4]) (by kernel_rfl) (by simp) ?_
            refine AllReadyH.cons (o := ⟨_, _, _, _, _, _⟩) rfl (fun K hK => ?_) AllReadyH.nil
            (first | (refine step_bs rfl rfl (cs := cs.toArray) rfl CS2.out ?_) | go_simp)
            refine hK.out _ _ ?_ (fun hHeld => ?_)
            · (try dsimp only); (first | assumption | (refine hk_alloc (by assumption) _))
            clear hK K
            try simp only [Act.put, List.setIfInBounds_toArray, List.set_cons_zero, List.set_cons_succ]
            refine wpAnyH_ready (rs := [5]) (by kernel_rfl) (by simp) ?_
            refine AllReadyH.cons (o := ⟨_, _, _, _, _, _⟩) rfl (fun K hK => ?_) AllReadyH.nil
            (first | (refine step_ja (v := .slice (some ⟨_, 0, none⟩) 0 0) rfl rfl W5.heap.size rfl (own0 (by first | exact hnew (by first | rfl | (simp; done) | (simp; omega) | (have hz_ : ∀ v : World, v.drew.heap.size = v.heap.size := fun _ => rfl; simp only [hz_, World.size_alloc]; first | done | omega)) | exact (hold (by first | (simp; done) | (simp; omega) | omega | (show _ < (_ : World).heap.size; simp; omega) | (have hz_ : ∀ v : World, v.drew.heap.size = v.heap.size := fun _ => rfl; simp only [hz_, World.size_alloc]; omega))).trans (hnew (by first | rfl | (simp; done) | (simp; omega) | (have hz_ : ∀ v : World, v.drew.heap.size = v.heap.size := fun _ => rfl; simp only [hz_, World.size_alloc]; first | done | omega)))) (by first | (simp; done) | (simp; omega) | omega | (show _ < (_ : World).heap.size; simp; omega) | (have hz_ : ∀ v : World, v.drew.heap.size = v.heap.size := fun _ => rfl; simp only [hz_, World.size_alloc]; omega))) rfl (HTR.out _ (bt B5.out (And.right (by assumption)))) (by omega) (hk_size (by assumption)) ?_; intro v9 wa o9 k9 _; rw [Nat.zero_add, List.nil_append] at o9; obtain ⟨R9, c9, rfl, hc9, hm9⟩ := o9.slice; have B9 := k9.below (And.right (by assumption)) (Nat.le_refl _) (hk_size (by assumption))) | (refine step_ja rfl rfl W5.heap.size rfl (by first | exact o9 | exact o9.alloc _) rfl (row_reads (r := r0) (by rw [hcs.out]; exact (by first | exact hnew (by first | rfl | (simp; done) | (simp; omega) | (have hz_ : ∀ v : World, v.drew.heap.size = v.heap.size := fun _ => rfl; simp only [hz_, World.size_alloc]; first | done | omega)) | exact (k9.blk (by first | (simp; done) | (simp; omega) | omega | (show _ < (_ : World).heap.size; simp; omega) | (have hz_ : ∀ v : World, v.drew.heap.size = v.heap.size := fun _ => rfl; simp only [hz_, World.size_alloc]; omega)) (by first | (simp [Value.ownBlock]; done) | (simp [Value.ownBlock]; omega) | (have hz_ : ∀ v : World, v.drew.heap.size = v.heap.size := fun _ => rfl; simp only [hz_, World.size_alloc]; simp [Value.ownBlock]; first | done | omega))).trans (hnew (by first | rfl | (simp; done) | (simp; omega) | (have hz_ : ∀ v : World, v.drew.heap.size = v.heap.size := fun _ => rfl; simp only [hz_, World.size_alloc]; first | done | omega))) | exact (k9.blk (by first | (simp; done) | (simp; omega) | omega | (show _ < (_ : World).heap.size; simp; omega) | (have hz_ : ∀ v : World, v.drew.heap.size = v.heap.size := fun _ => rfl; simp only [hz_, World.size_alloc]; omega)) (by first | (simp [Value.ownBlock]; done) | (simp [Value.ownBlock]; omega) | (have hz_ : ∀ v : World, v.drew.heap.size = v.heap.size := fun _ => rfl; simp only [hz_, World.size_alloc]; simp [Value.ownBlock]; first | done | omega))).trans ((hold (by first | (simp; done) | (simp; omega) | omega | (show _ < (_ : World).heap.size; simp; omega) | (have hz_ : ∀ v : World, v.drew.heap.size = v.heap.size := fun _ => rfl; simp only [hz_, World.size_alloc]; omega))).trans (hnew (by first | rfl | (simp; done) | (simp; omega) | (have hz_ : ∀ v : World, v.drew.heap.size = v.heap.size := fun _ => rfl; simp only [hz_, World.size_alloc]; first | done | omega))))))) (by omega) (hk_size (by assumption)) ?_; intro v8 wb o8 k8 _; obtain ⟨R8, c8, rfl, hc8, hm8⟩ := o8.slice; have B8 := k8.below (And.right (by assumption)) (Nat.le_refl _) (hk_size (by assumption))))
            refine hK.out _ _ ?_ (fun hHeld => ?_)
            · (try dsimp only); (first | exact hk_mk (by assumption) | assumption)
            clear hK K
            try simp only [Act.put, List.setIfInBounds_toArray, List.set_cons_zero, List.set_cons_succ]
            refine wpAnyH_take (i := 6) (oi := ⟨_, _, _, _, _, _⟩) (v := ?v_65) rfl (by kernel_rfl) (by kernel_rfl) (by kernel_rfl) (fun _ _ _ h => h) (Or.inl ⟨by rfl, ?hy_65⟩) (by assumption) ?r_65
            case hy_65 => (intro w_ hS_; (try dsimp only at hS_); go_simp; try with_reducible rfl)
            try simp only [Act.put, List.setIfInBounds_toArray, List.set_cons_zero, List.set_cons_succ]
            refine wpAnyH_done (by kernel_rfl) ?_ _
            (go_wp2_with (fail); go_meet; exact ⟨R8, c8, rfl, o8, hc8, hm8, B8⟩)
          refine AllReadyH.cons (o := ⟨_, _, _, _, _, _⟩) rfl (fun K hK => ?_) AllReadyH.nil
          (first | (refine step_bs rfl rfl (cs := cs.toArray) rfl CS2.out ?_) | go_simp)
          refine hK.out _ _ ?_ (fun hHeld => ?_)
          · (try dsimp only); (first | assumption | (refine hk_alloc (by assumption) _))
          clear hK K
          try simp only [Act.put, List.setIfInBounds_toArray, List.set_cons_zero, List.set_cons_succ]
          refine wpAnyH_ready (rs := [2]) (by kernel_rfl) (by simp) ?_
          refine AllReadyH.cons (o := ⟨_, _, _, _, _, _⟩) rfl (fun K hK => ?_) AllReadyH.nil
          (first | (refine step_ja (v := .slice (some ⟨_, 0, none⟩) 0 0) rfl rfl W5.heap.size rfl (own0 (by first | exact hnew (by first | rfl | (simp; done) | (simp; omega) | (have hz_ : ∀ v : World, v.drew.heap.size = v.heap.size := fun _ => rfl; simp only [hz_, World.size_alloc]; first | done | omega)) | exact (hold (by first | (simp; done) | (simp; omega) | omega | (show _ < (_ : World).heap.size; simp; omega) | (have hz_ : ∀ v : World, v.drew.heap.size = v.heap.size := fun _ => rfl; simp only [hz_, World.size_alloc]; omega))).trans (hnew (by first | rfl | (simp; done) | (simp; omega) | (have hz_ : ∀ v : World, v.drew.heap.size = v.heap.size := fun _ => rfl; simp only [hz_, World.size_alloc]; first | done | omega)))) (by first | (simp; done) | (simp; omega) | omega | (show _ < (_ : World).heap.size; simp; omega) | (have hz_ : ∀ v : World, v.drew.heap.size = v.heap.size := fun _ => rfl; simp only [hz_, World.size_alloc]; omega))) rfl (HTR.out _ (bt B5.out (And.right (by assumption)))) (by omega) (hk_size (by assumption)) ?_; intro v9 wa o9 k9 _; rw [Nat.zero_add, List.nil_append] at o9; obtain ⟨R9, c9, rfl, hc9, hm9⟩ := o9.slice; have B9 := k9.below (And.right (by assumption)) (Nat.le_refl _) (hk_size (by assumption))) | (refine step_ja rfl rfl W5.heap.size rfl (by first | exact o9 | exact o9.alloc _) rfl (row_reads (r := r0) (by rw [hcs.out]; exact (by first | exact hnew (by first | rfl | (simp; done) | (simp; omega) | (have hz_ : ∀ v : World, v.drew.heap.size = v.heap.size := fun _ => rfl; simp only [hz_, World.size_alloc]; first | done | omega)) | exact (k9.blk (by first | (simp; done) | (simp; omega) | omega | (show _ < (_ : World).heap.size; simp; omega) | (have hz_ : ∀ v : World, v.drew.heap.size = v.heap.size := fun _ => rfl; simp only [hz_, World.size_alloc]; omega)) (by first | (simp [Value.ownBlock]; done) | (simp [Value.ownBlock]; omega) | (have hz_ : ∀ v : World, v.drew.heap.size = v.heap.size := fun _ => rfl; simp only [hz_, World.size_alloc]; simp [Value.ownBlock]; first | done | omega))).trans (hnew (by first | rfl | (simp; done) | (simp; omega) | (have hz_ : ∀ v : World, v.drew.heap.size = v.heap.size := fun _ => rfl; simp only [hz_, World.size_alloc]; first | done | omega))) | exact (k9.blk (by first | (simp; done) | (simp; omega) | omega | (show _ < (_ : World).heap.size; simp; omega) | (have hz_ : ∀ v : World, v.drew.heap.size = v.heap.size := fun _ => rfl; simp only [hz_, World.size_alloc]; omega)) (by first | (simp [Value.ownBlock]; done) | (simp [Value.ownBlock]; omega) | (have hz_ : ∀ v : World, v.drew.heap.size = v.heap.size := fun _ => rfl; simp only [hz_, World.size_alloc]; simp [Value.ownBlock]; first | done | omega))).trans ((hold (by first | (simp; done) | (simp; omega) | omega | (show _ < (_ : World).heap.size; simp; omega) | (have hz_ : ∀ v : World, v.drew.heap.size = v.heap.size := fun _ => rfl; simp only [hz_, World.size_alloc]; omega))).trans (hnew (by first | rfl | (simp; done) | (simp; omega) | (have hz_ : ∀ v : World, v.drew.heap.size = v.heap.size := fun _ => rfl; simp only [hz_, World.size_alloc]; first | done | omega))))))) (by omega) (hk_size (by assumption)) ?_; intro v8 wb o8 k8 _; obtain ⟨R8, c8, rfl, hc8, hm8⟩ := o8.slice; have B8 := k8.below (And.right (by assumption)) (Nat.le_refl _) (hk_size (by assumption))))
          refine hK.out _ _ ?_ (fun hHeld => ?_)
          · (try dsimp only); (first | exact hk_mk (by assumption) | assumption)
          clear hK K
          try simp only [Act.put, List.setIfInBounds_toArray, List.set_cons_zero, List.set_cons_succ]
          refine wpAnyH_ready (rs := [5]) (by kernel_rfl) (by simp) ?_
          refine AllReadyH.cons (o := ⟨_, _, _, _, _, _⟩) rfl (fun K hK => ?_) AllReadyH.nil
          (first | (refine step_ja (v := .slice (some ⟨_, 0, none⟩) 0 0) rfl rfl W5.heap.size rfl (own0 (by first | exact hnew (by first | rfl | (simp; done) | (simp; omega) | (have hz_ : ∀ v : World, v.drew.heap.size = v.heap.size := fun _ => rfl; simp only [hz_, World.size_alloc]; first | done | omega)) | exact (hold (by first | (simp; done) | (simp; omega) | omega | (show _ < (_ : World).heap.size; simp; omega) | (have hz_ : ∀ v : World, v.drew.heap.size = v.heap.size := fun _ => rfl; simp only [hz_, World.size_alloc]; omega))).trans (hnew (by first | rfl | (simp; done) | (simp; omega) | (have hz_ : ∀ v : World, v.drew.heap.size = v.heap.size := fun _ => rfl; simp only [hz_, World.size_alloc]; first | done | omega)))) (by first | (simp; done) | (simp; omega) | omega | (show _ < (_ : World).heap.size; simp; omega) | (have hz_ : ∀ v : World, v.drew.heap.size = v.heap.size := fun _ => rfl; simp only [hz_, World.size_alloc]; omega))) rfl (HTR.out _ (bt B5.out (And.right (by assumption)))) (by omega) (hk_size (by assumption)) ?_; intro v9 wa o9 k9 _; rw [Nat.zero_add, List.nil_append] at o9; obtain ⟨R9, c9, rfl, hc9, hm9⟩ := o9.slice; have B9 := k9.below (And.right (by assumption)) (Nat.le_refl _) (hk_size (by assumption))) | (refine step_ja rfl rfl W5.heap.size rfl (by first | exact o9 | exact o9.alloc _) rfl (row_reads (r := r0) (by rw [hcs.out]; exact (by first | exact hnew (by first | rfl | (simp; done) | (simp; omega) | (have hz_ : ∀ v : World, v.drew.heap.size = v.heap.size := fun _ => rfl; simp only [hz_, World.size_alloc]; first | done | omega)) | exact (k9.blk (by first | (simp; done) | (simp; omega) | omega | (show _ < (_ : World).heap.size; simp; omega) | (have hz_ : ∀ v : World, v.drew.heap.size = v.heap.size := fun _ => rfl; simp only [hz_, World.size_alloc]; omega)) (by first | (simp [Value.ownBlock]; done) | (simp [Value.ownBlock]; omega) | (have hz_ : ∀ v : World, v.drew.heap.size = v.heap.size := fun _ => rfl; simp only [hz_, World.size_alloc]; simp [Value.ownBlock]; first | done | omega))).trans (hnew (by first | rfl | (simp; done) | (simp; omega) | (have hz_ : ∀ v : World, v.drew.heap.size = v.heap.size := fun _ => rfl; simp only [hz_, World.size_alloc]; first | done | omega))) | exact (k9.blk (by first | (simp; done) | (simp; omega) | omega | (show _ < (_ : World).heap.size; simp; omega) | (have hz_ : ∀ v : World, v.drew.heap.size = v.heap.size := fun _ => rfl; simp only [hz_, World.size_alloc]; omega)) (by first | (simp [Value.ownBlock]; done) | (simp [Value.ownBlock]; omega) | (have hz_ : ∀ v : World, v.drew.heap.size = v.heap.size := fun _ => rfl; simp only [hz_, World.size_alloc]; simp [Value.ownBlock]; first | done | omega))).trans ((hold (by first | (simp; done) | (simp; omega) | omega | (show _ < (_ : World).heap.size; simp; omega) | (have hz_ : ∀ v : World, v.drew.heap.size = v.heap.size := fun _ => rfl; simp only [hz_, World.size_alloc]; omega))).trans (hnew (by first | rfl | (simp; done) | (simp; omega) | (have hz_ : ∀ v : World, v.drew.heap.size = v.heap.size := fun _ => rfl; simp only [hz_, World.size_alloc]; first | done | omega))))))) (by omega) (hk_size (by assumption)) ?_; intro v8 wb o8 k8 _; obtain ⟨R8, c8, rfl, hc8, hm8⟩ := o8.slice; have B8 := k8.below (And.right (by assumption)) (Nat.le_refl _) (hk_size (by assumption))))
          refine hK.out _ _ ?_ (fun hHeld => ?_)
          · (try dsimp only); (first | exact hk_mk (by assumption) | assumption)
          clear hK K
          try simp only [Act.put, List.setIfInBounds_toArray, List.set_cons_zero, List.set_cons_succ]
          refine wpAnyH_take (i := 6) (oi := ⟨_, _, _, _, _, _⟩) (v := ?v_66) rfl (by kernel_rfl) (by kernel_rfl) (by kernel_rfl) (fun _ _ _ h => h) (Or.inl ⟨by rfl, ?hy_66⟩) (by assumption) ?r_66
          case hy_66 => (intro w_ hS_; (try dsimp only at hS_); go_simp; try with_reducible rfl)
          try simp only [Act.put, List.setIfInBounds_toArray, List.set_cons_zero, List.set_cons_succ]
          refine wpAnyH_done (by kernel_rfl) ?_ _
          (go_wp2_with (fail); go_meet; exact ⟨R8, c8, rfl, o8, hc8, hm8, B8⟩)
        refine AllReadyH.cons (o := ⟨_, _, _, _, _, _⟩) rfl (fun K hK => ?_) AllReadyH.nil
        (first | (refine step_bs rfl rfl (cs := cs.toArray) rfl CS2.out ?_) | go_simp)
        refine hK.out _ _ ?_ (fun hHeld => ?_)
        · (try dsimp only); (first | assumption | (refine hk_alloc (by assumption) _))
        clear hK K
        try simp only [Act.put, List.setIfInBounds_toArray, List.set_cons_zero, List.set_cons_succ]
        refine wpAnyH_ready (rs := [0]) (by kernel_rfl) (by simp) ?_
        refine AllReadyH.cons (o := ⟨_, _, _, _, _, _⟩) rfl (fun K hK => ?_) AllReadyH.nil
        (first | (refine step_bs rfl rfl (cs := cs.toArray) rfl CS2.out ?_) | go_simp)
        refine hK.out _ _ ?_ (fun hHeld => ?_)
        · (try dsimp only); (first | assumption | (refine hk_alloc (by assumption) _))
        clear hK K
        try simp only [Act.put, List.setIfInBounds_toArray, List.set_cons_zero, List.set_cons_succ]
        refine wpAnyH_ready (rs := [2]) (by kernel_rfl) (by simp) ?_
        refine AllReadyH.cons (o := ⟨_, _, _, _, _, _⟩) rfl (fun K hK => ?_) AllReadyH.nil
        (first | (refine step_ja (v := .slice (some ⟨_, 0, none⟩) 0 0) rfl rfl W5.heap.size rfl (own0 (by first | exact hnew (by first | rfl | (simp; done) | (simp; omega) | (have hz_ : ∀ v : World, v.drew.heap.size = v.heap.size := fun _ => rfl; simp only [hz_, World.size_alloc]; first | done | omega)) | exact (hold (by first | (simp; done) | (simp; omega) | omega | (show _ < (_ : World).heap.size; simp; omega) | (have hz_ : ∀ v : World, v.drew.heap.size = v.heap.size := fun _ => rfl; simp only [hz_, World.size_alloc]; omega))).trans (hnew (by first | rfl | (simp; done) | (simp; omega) | (have hz_ : ∀ v : World, v.drew.heap.size = v.heap.size := fun _ => rfl; simp only [hz_, World.size_alloc]; first | done | omega)))) (by first | (simp; done) | (simp; omega) | omega | (show _ < (_ : World).heap.size; simp; omega) | (have hz_ : ∀ v : World, v.drew.heap.size = v.heap.size := fun _ => rfl; simp only [hz_, World.size_alloc]; omega))) rfl (HTR.out _ (bt B5.out (And.right (by assumption)))) (by omega) (hk_size (by assumption)) ?_; intro v9 wa o9 k9 _; rw [Nat.zero_add, List.nil_append] at o9; obtain ⟨R9, c9, rfl, hc9, hm9⟩ := o9.slice; have B9 := k9.below (And.right (by assumption)) (Nat.le_refl _) (hk_size (by assumption))) | (refine step_ja rfl rfl W5.heap.size rfl (by first | exact o9 | exact o9.alloc _) rfl (row_reads (r := r0) (by rw [hcs.out]; exact (by first | exact hnew (by first | rfl | (simp; done) | (simp; omega) | (have hz_ : ∀ v : World, v.drew.heap.size = v.heap.size := fun _ => rfl; simp only [hz_, World.size_alloc]; first | done | omega)) | exact (k9.blk (by first | (simp; done) | (simp; omega) | omega | (show _ < (_ : World).heap.size; simp; omega) | (have hz_ : ∀ v : World, v.drew.heap.size = v.heap.size := fun _ => rfl; simp only [hz_, World.size_alloc]; omega)) (by first | (simp [Value.ownBlock]; done) | (simp [Value.ownBlock]; omega) | (have hz_ : ∀ v : World, v.drew.heap.size = v.heap.size := fun _ => rfl; simp only [hz_, World.size_alloc]; simp [Value.ownBlock]; first | done | omega))).trans (hnew (by first | rfl | (simp; done) | (simp; omega) | (have hz_ : ∀ v : World, v.drew.heap.size = v.heap.size := fun _ => rfl; simp only [hz_, World.size_alloc]; first | done | omega))) | exact (k9.blk (by first | (simp; done) | (simp; omega) | omega | (show _ < (_ : World).heap.size; simp; omega) | (have hz_ : ∀ v : World, v.drew.heap.size = v.heap.size := fun _ => rfl; simp only [hz_, World.size_alloc]; omega)) (by first | (simp [Value.ownBlock]; done) | (simp [Value.ownBlock]; omega) | (have hz_ : ∀ v : World, v.drew.heap.size = v.heap.size := fun _ => rfl; simp only [hz_, World.size_alloc]; simp [Value.ownBlock]; first | done | omega))).trans ((hold (by first | (simp; done) | (simp; omega) | omega | (show _ < (_ : World).heap.size; simp; omega) | (have hz_ : ∀ v : World, v.drew.heap.size = v.heap.size := fun _ => rfl; simp only [hz_, World.size_alloc]; omega))).trans (hnew (by first | rfl | (simp; done) | (simp; omega) | (have hz_ : ∀ v : World, v.drew.heap.size = v.heap.size := fun _ => rfl; simp only [hz_, World.size_alloc]; first | done | omega))))))) (by omega) (hk_size (by assumption)) ?_; intro v8 wb o8 k8 _; obtain ⟨R8, c8, rfl, hc8, hm8⟩ := o8.slice; have B8 := k8.below (And.right (by assumption)) (Nat.le_refl _) (hk_size (by assumption))))
        refine hK.out _ _ ?_ (fun hHeld => ?_)
        · (try dsimp only); (first | exact hk_mk (by assumption) | assumption)
        clear hK K
        try simp only [Act.put, List.setIfInBounds_toArray, List.set_cons_zero, List.set_cons_succ]
        refine wpAnyH_ready (rs := [5]) (by kernel_rfl) (by simp) ?_
        refine AllReadyH.cons (o := ⟨_, _, _, _, _, _⟩) rfl (fun K hK => ?_) AllReadyH.nil
        (first | (refine step_ja (v := .slice (some ⟨_, 0, none⟩) 0 0) rfl rfl W5.heap.size rfl (own0 (by first | exact hnew (by first | rfl | (simp; done) | (simp; omega) | (have hz_ : ∀ v : World, v.drew.heap.size = v.heap.size := fun _ => rfl; simp only [hz_, World.size_alloc]; first | done | omega)) | exact (hold (by first | (simp; done) | (simp; omega) | omega | (show _ < (_ : World).heap.size; simp; omega) | (have hz_ : ∀ v : World, v.drew.heap.size = v.heap.size := fun _ => rfl; simp only [hz_, World.size_alloc]; omega))).trans (hnew (by first | rfl | (simp; done) | (simp; omega) | (have hz_ : ∀ v : World, v.drew.heap.size = v.heap.size := fun _ => rfl; simp only [hz_, World.size_alloc]; first | done | omega)))) (by first | (simp; done) | (simp; omega) | omega | (show _ < (_ : World).heap.size; simp; omega) | (have hz_ : ∀ v : World, v.drew.heap.size = v.heap.size := fun _ => rfl; simp only [hz_, World.size_alloc]; omega))) rfl (HTR.out _ (bt B5.out (And.right (by assumption)))) (by omega) (hk_size (by assumption)) ?_; intro v9 wa o9 k9 _; rw [Nat.zero_add, List.nil_append] at o9; obtain ⟨R9, c9, rfl, hc9, hm9⟩ := o9.slice; have B9 := k9.below (And.right (by assumption)) (Nat.le_refl _) (hk_size (by assumption))) | (refine step_ja rfl rfl W5.heap.size rfl (by first | exact o9 | exact o9.alloc _) rfl (row_reads (r := r0) (by rw [hcs.out]; exact (by first | exact hnew (by first | rfl | (simp; done) | (simp; omega) | (have hz_ : ∀ v : World, v.drew.heap.size = v.heap.size := fun _ => rfl; simp only [hz_, World.size_alloc]; first | done | omega)) | exact (k9.blk (by first | (simp; done) | (simp; omega) | omega | (show _ < (_ : World).heap.size; simp; omega) | (have hz_ : ∀ v : World, v.drew.heap.size = v.heap.size := fun _ => rfl; simp only [hz_, World.size_alloc]; omega)) (by first | (simp [Value.ownBlock]; done) | (simp [Value.ownBlock]; omega) | (have hz_ : ∀ v : World, v.drew.heap.size = v.heap.size := fun _ => rfl; simp only [hz_, World.size_alloc]; simp [Value.ownBlock]; first | done | omega))).trans (hnew (by first | rfl | (simp; done) | (simp; omega) | (have hz_ : ∀ v : World, v.drew.heap.size = v.heap.size := fun _ => rfl; simp only [hz_, World.size_alloc]; first | done | omega))) | exact (k9.blk (by first | (simp; done) | (simp; omega) | omega | (show _ < (_ : World).heap.size; simp; omega) | (have hz_ : ∀ v : World, v.drew.heap.size = v.heap.size := fun _ => rfl; simp only [hz_, World.size_alloc]; omega)) (by first | (simp [Value.ownBlock]; done) | (simp [Value.ownBlock]; omega) | (have hz_ : ∀ v : World, v.drew.heap.size = v.heap.size := fun _ => rfl; simp only [hz_, World.size_alloc]; simp [Value.ownBlock]; first | done | omega))).trans ((hold (by first | (simp; done) | (simp; omega) | omega | (show _ < (_ : World).heap.size; simp; omega) | (have hz_ : ∀ v : World, v.drew.heap.size = v.heap.size := fun _ => rfl; simp only [hz_, World.size_alloc]; omega))).trans (hnew (by first | rfl | (simp; done) | (simp; omega) | (have hz_ : ∀ v : World, v.drew.heap.size = v.heap.size := fun _ => rfl; simp only [hz_, World.size_alloc]; first | done | omega))))))) (by omega) (hk_size (by assumption)) ?_; intro v8 wb o8 k8 _; obtain ⟨R8, c8, rfl, hc8, hm8⟩ := o8.slice; have B8 := k8.below (And.right (by assumption)) (Nat.le_refl _) (hk_size (by assumption))))
        refine hK.out _ _ ?_ (fun hHeld => ?_)
        · (try dsimp only); (first | exact hk_mk (by assumption) | assumption)
        clear hK K
        try simp only [Act.put, List.setIfInBounds_toArray, List.set_cons_zero, List.set_cons_succ]
        refine wpAnyH_take (i := 6) (oi := ⟨_, _, _, _, _, _⟩) (v := ?v_67) rfl (by kernel_rfl) (by kernel_rfl) (by kernel_rfl) (fun _ _ _ h => h) (Or.inl ⟨by rfl, ?hy_67⟩) (by assumption) ?r_67
        case hy_67 => (intro w_ hS_; (try dsimp only at hS_); go_simp; try with_reducible rfl)
        try simp only [Act.put, List.setIfInBounds_toArray, List.set_cons_zero, List.set_cons_succ]
        refine wpAnyH_done (by kernel_rfl) ?_ _
        (go_wp2_with (fail); go_meet; exact ⟨R8, c8, rfl, o8, hc8, hm8, B8⟩)
      case rest =>
        obtain ⟨R, c8, rfl, HO8, hc8, hm8, B8⟩ := hcut
        obtain ⟨w8, hw8⟩ : ∃ w8 : World, w8 = wc := ⟨_, rfl⟩
        subst hw8
        have BW8 := Lib.hid (bt B5.out B8.out)
        have HT8 : Hid (TbAt w8 w8.heap.size R (n + 1) (l ++ [r0])) := by
          refine ⟨HO8.out.reads, fun q hq => ?_, by omega⟩
          rcases List.mem_append.1 hq with h | h
          · exact ((HT.out.2.1 q h).below (BW8.out.mono HBW.out)).more (Nat.le_trans HBW.out BW8.out.size)
          · rw [List.mem_singleton.1 h]; exact (HR0.out.below (BW8.out.mono HBW.out)).more (Nat.le_trans HBW.out BW8.out.size)
        have HJ8 : Hid (jobs (l ++ [r0]) = jobs l ++ [x]) := by show _ = _; rw [jobs_append, ← HX.out]; rfl
        by_cases hlt40 : n < 40
        · have t9 : decide ((n : Int) < 40) = true := by simp; omega
          have t9' : decide (n < 40) = true := by simp; omega
          have HR := Lib.hid (HNT.out.1 hlt40)
          clear HNT hlt40
          go_wp2
          go_ret2
          rw [HR.out]
          exact ⟨R, _, c8, l ++ [r0], rfl, HJ8.out, HT8, hc8, hm8, BW8.out⟩
        have t9 : decide ((n : Int) < 40) = false := by simp; omega
        have t9' : decide (n < 40) = false := by simp; omega
        have HPF := Lib.hid (HNT.out.2 hlt40)
        have h40n : Hid (n = 40) := by show n = 40; omega
        clear HNT hlt40
        have HOK8 : Hid (∀ y ∈ jobs (l ++ [r0]), okJ y = true) := by
          show ∀ y ∈ _, _
          rw [HJ8.out]
          intro y hy
          rcases List.mem_append.1 hy with h | h
          · exact ((tab_iff.1 HTB.out).2.1 y h).1
          · rw [List.mem_singleton.1 h]; exact HOJ.out
        have q9 := Lib.hid (fun i v (hv : Below w8.heap.size w8 v) => rwaited_any (l ++ [r0]) R (n + 1) c8 w8.heap.size i v (HT8.out.below hv) hv.size HOK8.out)
        rw [HJ8.out] at q9
        have HTW := Lib.hid (fun v (hv : Below w8.heap.size w8 v) => (HT.out.below ((bt BW8.out hv).mono HBW.out)))
        have HOKL := Lib.hid (fun y (hy : y ∈ jobs l) => ((tab_iff.1 HTB.out).2.1 y hy).1)
        go_wp2
        go_loopw [8] (fun i wr => ∃ j : Nat, j ≤ n ∧ i = .int .i64 j ∧ Hid (Below w8.heap.size w8 wr) ∧ Hid (∀ t y, t < j → (jobs l)[t]? = some y → goneQ (jobs l ++ [x]) y = false)) (fun i _ => n - (intOf i).toNat)
        case atStart => exact ⟨0, Nat.zero_le _, rfl, Below.refl _ _, fun t y h => by omega⟩
        case round =>
          obtain ⟨j, hj, rfl, hbj, HG⟩ := hrel
          by_cases hjl : j < n
          · obtain ⟨b, o, r, rfl, hbb, hx3, KR, JQ⟩ := (HTW.out _ hbj.out).elem hjl
            have hbl : b < wr.heap.size := Nat.lt_of_lt_of_le hbb (Nat.le_trans HBW.out (bt BW8.out hbj.out).size)
            have hj0 : (0 : Int) ≤ (j : Int) := by omega
            have hj1 : (j : Int) < (n : Int) := by omega
            have tj : decide ((j : Int) < (n : Int)) = true := by simp; omega
            have HJX := Lib.hid (jobs_at hx3.out)
            have CSZ := Lib.hid (jrC_info (r := r))
            have qo := Lib.hid (fun v => rover_r r v)
            rw [ended_over (HOKL.out _ (List.mem_of_getElem? HJX.out))] at qo
            have qw := Lib.hid (q9.out r.x.id)
            have e0r : (jrC r)[0]? = some (.int .i64 r.x.id) := rfl
            have HGQ : Hid (goneQ (jobs l ++ [x]) r.x = (overS r.x && !waitP (jobs l ++ [x]) r.x.id)) := rfl
            have HG2 : Hid (goneQ (jobs l ++ [x]) r.x = false → ∀ t y, t < j + 1 → (jobs l)[t]? = some y → goneQ (jobs l ++ [x]) y = false) := Lib.hid (fun hw t y ht hy => by
              by_cases e : t = j
              · subst e; rw [HJX.out] at hy; rw [← Option.some.inj hy]; exact hw
              · exact HG.out t y (by omega) hy)
            have HHIT : Hid (goneQ (jobs l ++ [x]) r.x = true → idxG (goneQ (jobs l ++ [x])) (jobs l) = (j : Int)) := Lib.hid (fun hw => idxG_hit HJX.out hw HG.out)
            obtain ⟨gq, hgq⟩ : ∃ q, goneQ (jobs l ++ [x]) r.x = q := ⟨_, rfl⟩
            obtain ⟨zo2, hzo2⟩ : ∃ q, overS r.x = q := ⟨_, rfl⟩
            obtain ⟨zw, hzw⟩ : ∃ q, waitP (jobs l ++ [x]) r.x.id = q := ⟨_, rfl⟩
            obtain ⟨yi, hyi⟩ : ∃ q, r.x.id = q := ⟨_, rfl⟩
            rw [hgq, hzo2, hzw] at HGQ
            rw [hgq] at HG2 HHIT
            rw [hzo2] at qo
            rw [hzw, hyi] at qw
            rw [hyi] at e0r
            obtain ⟨ds, hds⟩ : ∃ ds, Hid (jrC r = ds) := ⟨_, rfl⟩
            rw [hds.out] at KR CSZ qo e0r
            clear hgq hzo2 hzw hyi hds hx3 JQ HG HJX
            cases zo2
            case false =>
              have HG3 := Lib.hid (HG2.out HGQ.out)
              clear HG2 HHIT
              go_wp2_with (first | (refine wpList_load_mid rfl 28 _ rfl b (o + j * 20) rfl ds _ KR.out Tryz.underlying28 rfl CSZ.out ?_) | (go_at_call 76; refine (qo.out _).mono ?_; rintro e w9 ⟨rfl, hw9⟩))
              go_roundw
              case rel => exact ⟨j + 1, by omega, by simp, bt hbj.out hw9, HG3.out⟩
              case measure => simp [intOf]; omega
            go_wp2_with (refine wpList_load_mid rfl 28 _ rfl b (o + j * 20) rfl ds _ KR.out Tryz.underlying28 rfl CSZ.out ?_)
            refine (qo.out _).mono ?_; rintro e w9 ⟨rfl, hw9⟩
            have k9c : w9.cell? ⟨b, o + j * 20, none⟩ = some (.int .i64 yi) := range_cell (j := 0) (range_lower KR.out hbl hw9) e0r
            have B9w := Lib.hid (bt hbj.out hw9)
            clear hw9
            go_wp2_with (fail)
            refine (qw.out _ B9w.out).mono ?_; rintro e W6 ⟨rfl, hw10⟩
            have BW6 := Lib.hid (bt B9w.out hw10)
            clear hw10 k9c
            cases zw
            case true =>
              have HG3 := Lib.hid (HG2.out HGQ.out)
              clear HG2 HHIT
              go_wp2
              go_roundw
              case rel => exact ⟨j + 1, by omega, by simp, BW6, HG3.out⟩
              case measure => simp [intOf]; omega
            have hit := HHIT.out HGQ.out
            have HR : Hid (P = ((jobs l ++ [x]).eraseIdx j, 0)) := by show _ = _; rw [HPF.out, hit, if_pos (by omega)]; rfl
            clear HG2 HHIT hit HPF
            have BW5 := Lib.hid (bt BW8.out BW6.out)
            obtain ⟨gb, cb, ev, _⟩ := HO8.out.at_ (by omega)
            simp only [Value.slice.injEq, true_and] at ev
            obtain ⟨rfl, rfl⟩ := ev
            have HL8 : Hid ((l ++ [r0]).length = n + 1) := HT8.out.len
            have HRP := Lib.hid (fun v (hv : Below W6.heap.size W6 v) => (by
              have h := ((HT8.out.1.below (bt BW6.out hv)).take_ (k := j) (by omega))
              rw [← recs_take jrC_len] at h
              exact h : Reads v w8.heap.size 20 (some ⟨gb, 0, none⟩) j (recs jrC ((l ++ [r0]).take j))))
            have HRD := Lib.hid (fun v (hv : Below W6.heap.size W6 v) => (by
              have h := (HT8.out.1.below (bt BW6.out hv)).cut (k := j + 1) (cap := c8) (by omega) hc8
              rw [← recs_drop jrC_len, show n + 1 - (j + 1) = n - j by omega, show (if c8 = j + 1 then (some ⟨gb, 0, none⟩ : Option Addr) else (some (⟨gb, 0, none⟩ : Addr)).map (·.add ((j + 1) * 20))) = (if c8 = j + 1 then (some ⟨gb, 0, none⟩ : Option Addr) else some ⟨gb, (j + 1) * 20, none⟩) by split <;> simp [add_plain]] at h
              exact h : Reads v w8.heap.size 20 (if c8 = j + 1 then (some ⟨gb, 0, none⟩ : Option Addr) else some ⟨gb, (j + 1) * 20, none⟩) (n - j) (recs jrC ((l ++ [r0]).drop (j + 1)))))
            have HJE : Hid (jobs (((l ++ [r0]).take j) ++ ((l ++ [r0]).drop (j + 1))) = (jobs l ++ [x]).eraseIdx j) := by
              show _ = _
              rw [← HJ8.out, ← jobs_erase, List.eraseIdx_eq_take_drop_succ]
            have TE : Hid (∀ R8 c9 v, Owns v W6.heap.size 28 20 (.slice R8 n c9) n (recs jrC (((l ++ [r0]).take j) ++ ((l ++ [r0]).drop (j + 1)))) → Below W6.heap.size W6 v → Hid (TbAt v v.heap.size R8 n (((l ++ [r0]).take j) ++ ((l ++ [r0]).drop (j + 1))))) := by
              show ∀ _, _
              intro R8 c9 v ho hv
              refine ⟨ho.reads, fun q hq => ?_, by omega⟩
              have hq2 : q ∈ l ++ [r0] := by
                rcases List.mem_append.1 hq with h | h
                · exact List.mem_of_mem_take h
                · exact List.mem_of_mem_drop h
              exact ((HT8.out.2.1 q hq2).below (bt BW6.out hv)).more (bt BW6.out hv).size
            have hw : IntKind.i64.wrap ((j : Int) + 1) = (j : Int) + 1 := wrap_small (by omega) (by omega)
            have hw2 : ((j : Int) + 1).toNat = j + 1 := by omega
            have b0 : (0 : Int) ≤ (j : Int) + 1 := by omega
            have b1 : (j : Int) ≤ (c8 : Int) := by omega
            have b2 : (j : Int) + 1 ≤ (n : Int) + 1 := by omega
            have b3 : (j : Int) + 1 ≤ (c8 : Int) := by omega
            have b4 : j ≤ c8 := by omega
            have b5 : j + 1 ≤ n + 1 := by omega
            have b6 : j + 1 ≤ c8 := by omega
            go_upto_region 17 with (fail)
            refine wp_region_held_drew (S := (fun w' => (∀ b o, b < W6.heap.size → w'.cell? ⟨b, o, none⟩ = W6.cell? ⟨b, o, none⟩) ∧ Below W6.heap.size W6 w')) (by kernel_rfl) ?_ (fun hHeld => ?_)
            · (try dsimp only); (first | assumption | exact hk_drew | exact hk_call (by assumption) (by assumption) | exact hk_mk (by assumption) | (refine hk_alloc (by assumption) _) | (refine hk_row (by assumption) (by first | exact Nat.le_refl _ | exact hk_size (by assumption) | omega | (simp; done) | (simp; omega)) _) | (refine hk_set (by assumption) (by first | exact Nat.le_refl _ | exact hk_size (by assumption) | omega | (simp; done) | (simp; omega)) _))
            refine wpAnyH_take (i := 1) (oi := ⟨_, _, _, _, _, _⟩) (v := ?v_68) rfl (by kernel_rfl) (by kernel_rfl) (by kernel_rfl) (fun _ _ _ h => h) (Or.inl ⟨by rfl, ?hy_68⟩) (by assumption) ?r_68
            case hy_68 => (intro w_ hS_; (try dsimp only at hS_); go_simp; try with_reducible rfl)
            try simp only [Act.put, List.setIfInBounds_toArray, List.set_cons_zero, List.set_cons_succ]
            refine wpAnyH_take (i := 2) (oi := ⟨_, _, _, _, _, _⟩) (v := ?v_69) rfl (by kernel_rfl) (by kernel_rfl) (by kernel_rfl) (fun _ _ _ h => h) (Or.inl ⟨by rfl, ?hy_69⟩) (by assumption) ?r_69
            case hy_69 => (intro w_ hS_; (try dsimp only at hS_); go_simp; try with_reducible rfl)
            try simp only [Act.put, List.setIfInBounds_toArray, List.set_cons_zero, List.set_cons_succ]
            refine wpAnyH_take (i := 3) (oi := ⟨_, _, _, _, _, _⟩) (v := ?v_70) rfl (by kernel_rfl) (by kernel_rfl) (by kernel_rfl) (fun _ _ _ h => h) (Or.inl ⟨by rfl, ?hy_70⟩) (by assumption) ?r_70
            case hy_70 => (intro w_ hS_; (try dsimp only at hS_); go_simp; try with_reducible rfl)
            try simp only [Act.put, List.setIfInBounds_toArray, List.set_cons_zero, List.set_cons_succ]
            refine wpAnyH_take (i := 5) (oi := ⟨_, _, _, _, _, _⟩) (v := ?v_71) rfl (by kernel_rfl) (by kernel_rfl) (by kernel_rfl) (fun _ _ _ h => h) (Or.inl ⟨by rfl, ?hy_71⟩) (by assumption) ?r_71
            case hy_71 => (intro w_ hS_; (try dsimp only at hS_); go_simp; try with_reducible rfl)
            try simp only [Act.put, List.setIfInBounds_toArray, List.set_cons_zero, List.set_cons_succ]
            refine wpAnyH_take (i := 6) (oi := ⟨_, _, _, _, _, _⟩) (v := ?v_72) rfl (by kernel_rfl) (by kernel_rfl) (by kernel_rfl) (fun _ _ _ h => h) (Or.inl ⟨by rfl, ?hy_72⟩) (by assumption) ?r_72
            case hy_72 => (intro w_ hS_; (try dsimp only at hS_); go_simp; try with_reducible rfl)
            try simp only [Act.put, List.setIfInBounds_toArray, List.set_cons_zero, List.set_cons_succ]
            refine wpAnyH_take (i := 7) (oi := ⟨_, _, _, _, _, _⟩) (v := ?v_73) rfl (by kernel_rfl) (by kernel_rfl) (by kernel_rfl) (fun _ _ _ h => h) (Or.inl ⟨by rfl, ?hy_73⟩) (by assumption) ?r_73
            case hy_73 => (intro w_ hS_; (try dsimp only at hS_); go_simp; try with_reducible rfl)
            try simp only [Act.put, List.setIfInBounds_toArray, List.set_cons_zero, List.set_cons_succ]
            refine wpAnyH_take (i := 8) (oi := ⟨_, _, _, _, _, _⟩) (v := ?v_74) rfl (by kernel_rfl) (by kernel_rfl) (by kernel_rfl) (fun _ _ _ h => h) (Or.inl ⟨by rfl, ?hy_74⟩) (by assumption) ?r_74
            case hy_74 => (intro w_ hS_; (try dsimp only at hS_); go_simp; try with_reducible rfl)
            try simp only [Act.put, List.setIfInBounds_toArray, List.set_cons_zero, List.set_cons_succ]
            refine wpAnyH_ready (rs := [0]) (by kernel_rfl) (by simp) ?_
            refine AllReadyH.cons (o := ⟨_, _, _, _, _, _⟩) rfl (fun K hK => ?_) AllReadyH.nil
            (first | (refine step_bs rfl rfl (cs := cs.toArray) rfl CS2.out ?_) | go_simp)
            refine hK.out _ _ ?_ (fun hHeld => ?_)
            · (try dsimp only); (first | assumption | (refine hk_alloc (by assumption) _))
            clear hK K
            try simp only [Act.put, List.setIfInBounds_toArray, List.set_cons_zero, List.set_cons_succ]
            refine wpAnyH_ready (rs := [4]) (by kernel_rfl) (by simp) ?_
            refine AllReadyH.cons (o := ⟨_, _, _, _, _, _⟩) rfl (fun K hK => ?_) AllReadyH.nil
            (first | (refine step_ja (v := .slice (some ⟨_, 0, none⟩) 0 0) rfl rfl W6.heap.size rfl (own0 (by first | exact hnew (by first | rfl | (simp; done) | (simp; omega) | (have hz_ : ∀ v : World, v.drew.heap.size = v.heap.size := fun _ => rfl; simp only [hz_, World.size_alloc]; first | done | omega)) | exact (hold (by first | (simp; done) | (simp; omega) | omega | (show _ < (_ : World).heap.size; simp; omega) | (have hz_ : ∀ v : World, v.drew.heap.size = v.heap.size := fun _ => rfl; simp only [hz_, World.size_alloc]; omega))).trans (hnew (by first | rfl | (simp; done) | (simp; omega) | (have hz_ : ∀ v : World, v.drew.heap.size = v.heap.size := fun _ => rfl; simp only [hz_, World.size_alloc]; first | done | omega)))) (by first | (simp; done) | (simp; omega) | omega | (show _ < (_ : World).heap.size; simp; omega) | (have hz_ : ∀ v : World, v.drew.heap.size = v.heap.size := fun _ => rfl; simp only [hz_, World.size_alloc]; omega))) rfl (HRP.out _ (And.right (by assumption))) (by omega) (hk_size (by assumption)) ?_; intro v9 wa o9 k9 _; rw [Nat.zero_add, List.nil_append] at o9; obtain ⟨R9, c9, rfl, hc9, hm9⟩ := o9.slice; have B9 := k9.below (And.right (by assumption)) (Nat.le_refl _) (hk_size (by assumption))) | (refine step_ja rfl rfl W6.heap.size rfl (by first | exact o9 | exact o9.alloc _) rfl (HRD.out _ (And.right (by assumption))) (by omega) (hk_size (by assumption)) ?_; intro v8 wb o8 k8 _; obtain ⟨R8, c8, rfl, hc8, hm8⟩ := o8.slice; have B8 := k8.below (And.right (by assumption)) (Nat.le_refl _) (hk_size (by assumption))))
            refine hK.out _ _ ?_ (fun hHeld => ?_)
            · (try dsimp only); (first | exact hk_mk (by assumption) | assumption)
            clear hK K
            try simp only [Act.put, List.setIfInBounds_toArray, List.set_cons_zero, List.set_cons_succ]
            refine wpAnyH_ready (rs := [9]) (by kernel_rfl) (by simp) ?_
            refine AllReadyH.cons (o := ⟨_, _, _, _, _, _⟩) rfl (fun K hK => ?_) AllReadyH.nil
            (first | (refine step_ja (v := .slice (some ⟨_, 0, none⟩) 0 0) rfl rfl W6.heap.size rfl (own0 (by first | exact hnew (by first | rfl | (simp; done) | (simp; omega) | (have hz_ : ∀ v : World, v.drew.heap.size = v.heap.size := fun _ => rfl; simp only [hz_, World.size_alloc]; first | done | omega)) | exact (hold (by first | (simp; done) | (simp; omega) | omega | (show _ < (_ : World).heap.size; simp; omega) | (have hz_ : ∀ v : World, v.drew.heap.size = v.heap.size := fun _ => rfl; simp only [hz_, World.size_alloc]; omega))).trans (hnew (by first | rfl | (simp; done) | (simp; omega) | (have hz_ : ∀ v : World, v.drew.heap.size = v.heap.size := fun _ => rfl; simp only [hz_, World.size_alloc]; first | done | omega)))) (by first | (simp; done) | (simp; omega) | omega | (show _ < (_ : World).heap.size; simp; omega) | (have hz_ : ∀ v : World, v.drew.heap.size = v.heap.size := fun _ => rfl; simp only [hz_, World.size_alloc]; omega))) rfl (HRP.out _ (And.right (by assumption))) (by omega) (hk_size (by assumption)) ?_; intro v9 wa o9 k9 _; rw [Nat.zero_add, List.nil_append] at o9; obtain ⟨R9, c9, rfl, hc9, hm9⟩ := o9.slice; have B9 := k9.below (And.right (by assumption)) (Nat.le_refl _) (hk_size (by assumption))) | (refine step_ja rfl rfl W6.heap.size rfl (by first | exact o9 | exact o9.alloc _) rfl (HRD.out _ (And.right (by assumption))) (by omega) (hk_size (by assumption)) ?_; intro v8 wb o8 k8 _; obtain ⟨R8, c8, rfl, hc8, hm8⟩ := o8.slice; have B8 := k8.below (And.right (by assumption)) (Nat.le_refl _) (hk_size (by assumption))))
            refine hK.out _ _ ?_ (fun hHeld => ?_)
            · (try dsimp only); (first | exact hk_mk (by assumption) | assumption)
            clear hK K
            try simp only [Act.put, List.setIfInBounds_toArray, List.set_cons_zero, List.set_cons_succ]
            refine wpAnyH_take (i := 10) (oi := ⟨_, _, _, _, _, _⟩) (v := ?v_75) rfl (by kernel_rfl) (by kernel_rfl) (by kernel_rfl) (fun _ _ _ h => h) (Or.inl ⟨by rfl, ?hy_75⟩) (by assumption) ?r_75
            case hy_75 => (intro w_ hS_; (try dsimp only at hS_); go_simp; try with_reducible rfl)
            try simp only [Act.put, List.setIfInBounds_toArray, List.set_cons_zero, List.set_cons_succ]
            refine wpAnyH_take (i := 11) (oi := ⟨_, _, _, _, _, _⟩) (v := ?v_76) rfl (by kernel_rfl) (by kernel_rfl) (by kernel_rfl) (fun _ _ _ h => h) (Or.inl ⟨by rfl, ?hy_76⟩) (by assumption) ?r_76
            case hy_76 => (intro w_ hS_; (try dsimp only at hS_); go_simp; try with_reducible rfl)
            try simp only [Act.put, List.setIfInBounds_toArray, List.set_cons_zero, List.set_cons_succ]
            refine wpAnyH_done (by kernel_rfl) ?_ _
            (go_wp2_with (fail); go_ret2; rw [HR.out]; have ej : j + (n - j) = n := (by omega); rw [ej] at o8 hc8; exact ⟨R8, _, c8, _, rfl, HJE.out, TE.out _ _ _ o8 B8, hc8, hm8, bt BW5.out B8⟩)
          · obtain rfl : j = n := by omega
            have tj : decide ((j : Int) < (j : Int)) = false := by simp
            have HM : Hid (idxG (goneQ (jobs l ++ [x])) (jobs l) = -1) := by show _ = _; exact idxG_miss (fun t y ht hy => HG.out t y (by rw [← hlj.out]; exact ht) hy)
            have HR : Hid (P = ([], 150)) := by show _ = _; rw [HPF.out, HM.out]; rfl
            go_wp2
            go_ret2
            rw [HR.out]
            exact retTr_no (bt BW8.out hbj.out)
set_option maxHeartbeats 4000000 in
theorem tableTurns_walk (l : List JR) (r0 : JR) (A : Option Addr) (n c : Nat) (w : World) (hr : Reads w w.heap.size 20 A n (recs jrC l)) (hl : ∀ r ∈ l, JbIn w r.x r.A r.c r.A2 r.c2) (h0 : JbIn w r0.x r0.A r0.c r0.A2 r0.c2) :
    Calls Tryz.prog 5 #[.slice A n c, .agg (jrC r0).toArray] w fun e w' => e = .returned (.bool true) ∧ Below w.heap.size w w' := by
  have f1 := Lib.hid (fun v (hv : Below w.heap.size w v) => few15_any l A n c w.heap.size v (hr.below hv) hv.size)
  have f2 := Lib.hid (fun v => few_r r0 v)
  have HQ := Lib.hid (fun (h1 : fewT15 (jobs l) = true) (h2 : fewJ r0.x = true) v (hv : Below w.heap.size w v) => And.intro (put_any l r0 A n c w.heap.size v ((tab_in hr hl h1).below hv) ((jr_in h0 h2).below hv) hv.size) (And.intro (rput_any l r0 A n c w.heap.size v ((tab_in hr hl h1).below hv) ((jr_in h0 h2).below hv) hv.size) (And.intro (addT_any l r0 A n c w.heap.size v ((tab_in hr hl h1).below hv) ((jr_in h0 h2).below hv) hv.size) (raddT_any l r0 A n c w.heap.size v ((tab_in hr hl h1).below hv) ((jr_in h0 h2).below hv) hv.size))))
  have CSA := Lib.hid (jrA_info r0)
  obtain ⟨x, hx⟩ : ∃ x, r0.x = x := ⟨_, rfl⟩
  rw [hx] at f2 HQ
  obtain ⟨cs, hcs⟩ : ∃ cs, Hid (jrC r0 = cs) := ⟨_, rfl⟩
  rw [hcs.out] at f2 CSA HQ ⊢
  have J0 : Hid ((w.alloc (.cells cs.toArray 28)).heap[w.heap.size]? = some (.cells cs.toArray 28 (0, 0))) := heap_alloc_new w _
  clear hr hl h0 hx
  cases z1 : fewT15 (jobs l)
  case false =>
    rw [z1] at f1
    clear f2 HQ
    go_enter Tryz.func5, Tryz.ntmps5
    go_wp2_with (fail)
    refine (f1.out _ bx0).mono ?_; rintro e w1 ⟨rfl, hw1⟩
    go_wp2_with (fail)
    refine (awake15_any _).mono ?_; rintro e wz ⟨rfl, hwz⟩
    go_wp2
    go_ret
    exact ⟨rfl, bt (bt bx0 hw1) hwz⟩
  rw [z1] at f1
  cases z2 : fewJ x
  case false =>
    rw [z2] at f2
    clear HQ
    go_enter Tryz.func5, Tryz.ntmps5
    go_wp2_with (fail)
    refine (f1.out _ bx0).mono ?_; rintro e w1 ⟨rfl, hw1⟩
    obtain ⟨g1, hb1, s1⟩ := box_row hw1
    have G1 := Lib.hid g1
    clear g1 hw1
    go_wp2_with (refine wpList_load_row_g (by kernel_rfl) 28 _ rfl (w.heap.size) rfl 28 _ (0, 0) _ G1.out Tryz.underlying28 rfl CSA.out ?_)
    refine (f2.out _).mono ?_; rintro e w2 ⟨rfl, hw2⟩
    go_wp2_with (fail)
    refine (awake15_any _).mono ?_; rintro e wz ⟨rfl, hwz⟩
    go_wp2
    go_ret
    exact ⟨rfl, bt (bt hb1 hw2) hwz⟩
  rw [z2] at f2
  have q := Lib.hid (HQ.out z1 z2)
  clear HQ z1 z2
  obtain ⟨P, hP⟩ : ∃ P, Hid (putP (jobs l) x = P) := ⟨_, rfl⟩
  obtain ⟨D, hD⟩ : ∃ P, Hid (addP (jobs l) x = P) := ⟨_, rfl⟩
  rw [hP.out, hD.out] at q
  obtain ⟨pl, pe⟩ := P
  obtain ⟨dl, de⟩ := D
  go_enter Tryz.func5, Tryz.ntmps5
  go_wp2_with (fail)
  refine (f1.out _ bx0).mono ?_; rintro e w1 ⟨rfl, hw1⟩
  obtain ⟨g1, hb1, s1⟩ := box_row hw1
  have G1 := Lib.hid g1
  clear g1 hw1
  go_wp2_with (refine wpList_load_row_g (by kernel_rfl) 28 _ rfl (w.heap.size) rfl 28 _ (0, 0) _ G1.out Tryz.underlying28 rfl CSA.out ?_)
  refine (f2.out _).mono ?_; rintro e w2 ⟨rfl, hw2⟩
  have G2 := Lib.hid ((hw2.block _ s1).trans G1.out)
  have s2 : w.heap.size < w2.heap.size := Nat.lt_of_lt_of_le s1 hw2.size
  have B2 := Lib.hid (bt hb1 hw2)
  clear hb1 hw2 f1 f2 G1 s1
  go_wp2_with (refine wpList_load_row rfl 28 _ rfl (w.heap.size) rfl 28 _ (0, 0) _ G2.out Tryz.underlying28 rfl CSA.out ?_)
  refine (q.out _ B2.out).1.mono ?_; rintro e w3 ⟨R3, m3, c3, l3, rfl, j3, T3, _, _, _, hw3⟩
  have G3 := Lib.hid ((hw3.block _ s2).trans G2.out)
  have s3 : w.heap.size < w3.heap.size := Nat.lt_of_lt_of_le s2 hw3.size
  have B3 := Lib.hid (bt B2.out hw3)
  have J3 : Hid (jobs l3 = pl) := j3
  clear hw3 j3
  go_wp2_with (refine wpList_load_row rfl 28 _ rfl (w.heap.size) rfl 28 _ (0, 0) _ G3.out Tryz.underlying28 rfl CSA.out ?_)
  refine (q.out _ B3.out).2.1.mono ?_; rintro e w4 ⟨R4, m4, c4, l4, rfl, j4, T4, _, _, hw4⟩
  have G4 := Lib.hid ((hw4.block _ s3).trans G3.out)
  have s4 : w.heap.size < w4.heap.size := Nat.lt_of_lt_of_le s3 hw4.size
  have B4 := Lib.hid (bt B3.out hw4)
  have T3' := Lib.hid (T3.out.up hw4)
  have J4 : Hid (jobs l4 = pl) := j4
  clear hw4 j4 T3
  go_wp2_with (refine wpList_load_row rfl 28 _ rfl (w.heap.size) rfl 28 _ (0, 0) _ G4.out Tryz.underlying28 rfl CSA.out ?_)
  refine (q.out _ B4.out).2.2.1.mono ?_; rintro e w5 ⟨R5, m5, c5, l5, rfl, j5, T5, _, _, _, hw5⟩
  have G5 := Lib.hid ((hw5.block _ s4).trans G4.out)
  have s5 : w.heap.size < w5.heap.size := Nat.lt_of_lt_of_le s4 hw5.size
  have B5 := Lib.hid (bt B4.out hw5)
  have E5 := Lib.hid hw5
  have J5 : Hid (jobs l5 = dl) := j5
  clear hw5 j5
  go_wp2_with (refine wpList_load_row rfl 28 _ rfl (w.heap.size) rfl 28 _ (0, 0) _ G5.out Tryz.underlying28 rfl CSA.out ?_)
  refine (q.out _ B5.out).2.2.2.mono ?_; rintro e w6 ⟨R6, m6, c6, l6, rfl, j6, T6, _, _, hw6⟩
  have B6 := Lib.hid (bt B5.out hw6)
  have E6 := Lib.hid (bt E5.out hw6)
  have T5' := Lib.hid (T5.out.up hw6)
  have J6 : Hid (jobs l6 = dl) := j6
  clear hw6 j6 T5 q
  have qa := rsameT_any l3 l4 R3 R4 m3 m4 c3 c4 w4.heap.size w6 (T3'.out.below E6.out) (T4.out.below E6.out) E6.out.size
  rw [J3.out, J4.out, sameLL_refl] at qa
  have QA := Lib.hid qa
  have qb := Lib.hid (fun v (hv : Below w6.heap.size w6 v) => rsameT_any l5 l6 R5 R6 m5 m6 c5 c6 w6.heap.size v (T5'.out.below hv) (T6.out.below hv) hv.size)
  rw [J5.out, J6.out, sameLL_refl] at qb
  have ep : (pe == pe) = true := by simp
  have ed : (de == de) = true := by simp
  clear qa
  go_wp2_with (fail)
  refine QA.out.mono ?_; rintro e w7 ⟨rfl, hw7⟩
  have B7 := Lib.hid hw7
  clear hw7
  go_wp2_with (fail)
  refine (qb.out _ B7.out).mono ?_; rintro e w8 ⟨rfl, hw8⟩
  have B8 := Lib.hid (bt (bt B6.out B7.out) hw8)
  go_wp2_with (fail)
  refine (awake15_any _).mono ?_; rintro e wz ⟨rfl, hwz⟩
  go_wp2
  go_ret
  exact ⟨rfl, bt B8.out hwz⟩
end Go.Proofs.YtghmcdfmbjabnaaGreatDoor
