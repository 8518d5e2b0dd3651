/- Layer 16: the reference's Doom walked (printed by a program of my own). Layer 16: two walked (printed by a program of my own). Layer 16: awake walked (printed by a program of my own). -/
import Derived.Test.YtghmcdfmbjabnaaGreatDoorDp2x
import Derived.Test.YtghmcdfmbjabnaaGreatDoorT3t
import Derived.Test.YtghmcdfmbjabnaaGreatDoorQ9t
import Derived.Great.BuildSlice
import Derived.Test.YtghmcdfmbjabnaaGreatDoorDp1x
namespace Go.Proofs.YtghmcdfmbjabnaaGreatDoor
set_option linter.unusedVariables false
open Go.RowKit
theorem step_i {w : World} {ops : Array Oper} {o : Oper} {a : Act} {K : Act → World → Prop} {Q : Exit → Act → World → Prop} {E : Prop} {s x : Operand}
    (hgd : o.guard = none) (ho : o.op = .call { callee := .builtin .append, args := #[s, x], argTypes := #[51, 51] })
    (base : Nat) {v : Value} {n : Nat} {xs : List Int} (hs : a.eval s = v) (hown : Owns w base 3 1 v n (ints xs))
    {B : Nat} {A : Option Addr} {m c : Nat} {news : List Int} (hx : a.eval x = .slice A m c) (hr : Reads w B 1 A m (ints news))
    (hlen : n + m ≤ 1000000) (hbase : base ≤ w.heap.size)
    (h : ∀ v' w', Owns w' base 3 1 v' (n + m) (ints (xs ++ news)) → AppKeeps base v w w' → (v'.ownBlock = v.ownBlock ∨ v'.ownBlock = some w.heap.size) → K (a.put o.dst v') w') :
    if Region.wanted o (yielded ops a.tmps) = true then Oper.wp Tryz.prog o a w K Q else E :=
  step_app hgd ho Tryz.underlying51 Tryz.infoI rfl (by omega) base hs hown hx hr (ints_1 _) (by simp only [maxLen]; omega) (by omega) hbase (fun v' w' h1 => h v' w' (by rw [ints_app]; exact h1))
theorem AppKeeps.all {w w' : World} {v : Value} (hk : AppKeeps w.heap.size v w w') : ∀ b o, b < w.heap.size → w'.cell? ⟨b, o, none⟩ = w.cell? ⟨b, o, none⟩ := fun b o h => hk.cell_low (p := ⟨b, o, none⟩) h h
theorem sk_mk {w3 w' : World} (h : Below w3.heap.size w3 w') : (∀ b o, b < w3.heap.size → w'.cell? ⟨b, o, none⟩ = w3.cell? ⟨b, o, none⟩) ∧ Below w3.heap.size w3 w' := ⟨(bcell h).1, h⟩
theorem sk_reads {w3 w' : World} {A : Option Addr} {n m : Nat} {xs : List Value} (h : (∀ b o, b < w3.heap.size → w'.cell? ⟨b, o, none⟩ = w3.cell? ⟨b, o, none⟩) ∧ Below w3.heap.size w3 w') (r : Reads w3 w3.heap.size m A n xs) : Reads w' w3.heap.size m A n xs := r.below h.2
theorem sk_size {w3 w' : World} (h : (∀ b o, b < w3.heap.size → w'.cell? ⟨b, o, none⟩ = w3.cell? ⟨b, o, none⟩) ∧ Below w3.heap.size w3 w') : w3.heap.size ≤ w'.heap.size := h.2.size
theorem sk_app {w3 w' w'' : World} {base : Nat} {v : Value} (h : (∀ b o, b < w3.heap.size → w'.cell? ⟨b, o, none⟩ = w3.cell? ⟨b, o, none⟩) ∧ Below w3.heap.size w3 w') (k : AppKeeps base v w' w'') (hb : w3.heap.size ≤ base) : (∀ b o, b < w3.heap.size → w''.cell? ⟨b, o, none⟩ = w3.cell? ⟨b, o, none⟩) ∧ Below w3.heap.size w3 w'' := sk_mk (k.below h.2 hb h.2.size)
theorem readsI1 {w : World} {g : Nat} {x : Int} (h : w.cell? ⟨g, 0, none⟩ = some (.int .i64 x)) : Reads w (g + 1) 1 (some ⟨g, 0, none⟩) 1 (ints [x]) := by
  refine ⟨rfl, fun _ => ⟨_, rfl, by simp, fun j u hu => ?_⟩⟩
  rw [add_plain, Nat.zero_add]
  rcases j with _ | j
  · simp [ints] at hu; subst hu; exact h
  · simp [ints] at hu
theorem JrAt.ne_kp {w w' : World} {q : JR} {g : Nat} (h : JrAt w w.heap.size q) (hn : OffG g q.A q.x.shape.alts.length ∧ OffG g q.A2 q.x.after.length) (hk : Kp w.heap.size (some g) w w') : JrAt w' w'.heap.size q :=
  JrAt.more ⟨⟨h.1.1.kpg (fun p e => by rw [← Option.some.inj e]; exact hn.1) (Nat.le_refl _) hk, h.1.2.1.kpg (fun p e => by rw [← Option.some.inj e]; exact hn.2) (Nat.le_refl _) hk, h.1.2.2⟩, h.2⟩ hk.size
def fuelD (n : Nat) (i : Int) : Nat := if i < 0 then 0 else n - i.toNat
theorem fuelD_neg (n : Nat) : fuelD n (-1) = 0 := rfl
theorem fuelD_nat (n j : Nat) : fuelD n (j : Int) = n - j := by unfold fuelD; rw [if_neg (by omega), Int.toNat_natCast]
theorem Owns.own_ge {w : World} {B size n : Nat} {e : TypeId} {v : Value} {xs : List Value} (h : Owns w B e size v n xs) (hn : 0 < n) : ∀ q, v.ownBlock = some q → B ≤ q := by
  obtain ⟨g, c, rfl, hg, _⟩ := h.at_ hn
  intro q hq
  have : g = q := Option.some.inj hq
  omega
theorem owns_range {w : World} {B g n c k : Nat} {rs : List JR} {r : JR} (ho : Owns w B 28 20 (.slice (some ⟨g, 0, none⟩) n c) n (recs jrC rs)) (hn : 0 < n) (hx : rs[k]? = some r) : w.rangeAt g (k * 20) (jrC r) := by
  obtain ⟨g2, c2, e, _, _, _, _, hc, hz⟩ := ho.at_ hn
  simp only [Value.slice.injEq, Option.some.injEq, Addr.mk.injEq, and_true, true_and] at e
  obtain ⟨rfl, _⟩ := e
  intro j u hu
  have hj : j < 20 := by rw [← jrC_len r]; exact (List.getElem?_eq_some_iff.1 hu).1
  exact hc _ _ (by rw [recs_at jrC_len hx hj, hu])
set_option linter.unusedSimpArgs false in
set_option maxHeartbeats 8000000 in
set_option maxRecDepth 100000 in
theorem rdoom_any (l : List JR) (A : Option Addr) (n c B : Nat) (w : World) (ht0 : TbAt w B A n l) (hB0 : B ≤ w.heap.size) :
    Calls Tryz.prog 45 #[.slice A n c] w (RetDm w (doomP (jobs l))) := by
  have hlj : Hid ((jobs l).length = n) := (jobs_len l).trans ht0.len
  have q0 := Lib.hid (rcheck15_any l A n c B w ht0 hB0)
  have HT := Lib.hid ht0
  have HBW := Lib.hid hB0
  have hn1 : n ≤ 1000 := ht0.2.2
  cases zt : tabB (jobs l)
  case false =>
    have HR : Hid (doomP (jobs l) = ([], [])) := by show _ = _; unfold doomP; rw [zt]; rfl
    rw [tabE_f zt] at q0
    clear ht0 hB0
    go_enter Tryz.func45, Tryz.ntmps45
    go_wp2_with (fail)
    refine q0.out.mono ?_; rintro e w0 ⟨rfl, hw0⟩
    go_wp2
    go_ret2
    rw [HR.out]
    exact retDm_no hw0
  have HR : Hid (doomP (jobs l) = (dmC (jobs l) n, dmI (jobs l) n)) := by show _ = _; unfold doomP; rw [zt, hlj.out]; rfl
  have HZ := Lib.hid zt
  rw [tabE_t zt] at q0
  clear zt ht0 hB0
  go_enter Tryz.func45, Tryz.ntmps45
  go_wp2_with (fail)
  refine q0.out.mono ?_; rintro e w1 ⟨rfl, hw1⟩
  have B1 := Lib.hid hw1
  have T1 := Lib.hid ((HT.out.below (hw1.mono HBW.out)).more (Nat.le_trans HBW.out hw1.size))
  clear hw1 q0
  go_wp2_with (at_builtin; refine app_j (xs := []) rfl rfl w1.heap.size rfl Owns.nil rfl (T1.out.1.below bx0) (by omega) (by simp) ?_)
  intro v4 w4 o4 k4 _
  have kb4 := k4.below (bx0 (w := w1) (o := .cells #[] 28)) (Nat.le_refl _) (by simp)
  obtain ⟨A5, c5, rfl, hc5, hm5⟩ := o4.slice
  have O4 := Lib.hid o4
  have B4 := Lib.hid (bt B1.out kb4)
  have T4 : Hid (TbAt w4 w4.heap.size A5 n l) := Lib.hid ⟨o4.reads, fun r hr => (T1.out.2.1 r hr).up kb4, hn1⟩
  have NE4 : Hid (∀ g, A5 = some ⟨g, 0, none⟩ → TbNe g none 0 l) := Lib.hid (fun g e => by
    subst e
    refine ⟨fun h => absurd h (by omega), ?_⟩
    rcases Nat.eq_zero_or_pos n with h0 | h0
    · have := HT.out.len
      intro r hr
      rw [List.length_eq_zero_iff.1 (this.trans h0)] at hr
      cases hr
    · obtain ⟨g2, _, e2, hge, _⟩ := o4.at_ h0
      simp only [Value.slice.injEq, Option.some.injEq, Addr.mk.injEq, and_true, true_and] at e2
      obtain ⟨rfl, _⟩ := e2
      exact (HT.out.ne (Nat.le_trans HBW.out (Nat.le_trans B1.out.size hge))).2)
  have qf := Lib.hid (fun (rs : List JR) (k : Nat) (e : jobs rs = dmC (jobs l) k) v (hT : TbAt v v.heap.size A5 n rs) => rfirst_any rs A5 n c5 v.heap.size v hT (Nat.le_refl _) (fun x hx => by rw [e] at hx; exact ((tab_iff.1 (dmC_tab HZ.out k)).2.1 x hx).1))
  have q4 := Lib.hid (qf.out l 0 rfl w4 T4.out)
  clear k4 o4 kb4 T1
  go_wp2_with (fail)
  refine q4.out.mono ?_; rintro e w5 ⟨rfl, hw5⟩
  have B5 := Lib.hid (bt B4.out hw5)
  have T5 := Lib.hid (T4.out.up hw5)
  have O5 := Lib.hid (O4.out.below hw5)
  have W15 := Lib.hid B1.out.size
  clear hw5 q4 T4 O4 B4
  go_wp2
  go_loopw [5, 6] (fun v i wr => ∃ (k : Nat) (rs : List JR), k ≤ n ∧ i = .int .i64 (firstV (dmC (jobs l) k)) ∧ Hid (jobs rs = dmC (jobs l) k) ∧ Hid (∀ (j : Nat) (r : JR), k ≤ j → rs[j]? = some r → l[j]? = some r) ∧ Hid (Owns wr w1.heap.size 28 20 (.slice A5 n c5) n (recs jrC rs)) ∧ Hid ((∀ r ∈ rs, JrAt wr wr.heap.size r) ∧ ∀ g, A5 = some ⟨g, 0, none⟩ → TbNe g none 0 rs) ∧ Hid (Owns wr w.heap.size 3 1 v (dmI (jobs l) k).length (ints (dmI (jobs l) k)) ∧ ∀ g, A5 = some ⟨g, 0, none⟩ → v.ownBlock ≠ some g) ∧ Hid (Below w.heap.size w wr)) (fun _ i _ => fuelD n (intOf i))
  case atStart => exact ⟨0, l, Nat.zero_le _, rfl, rfl, fun j r _ h => h, O5.out, ⟨T5.out.2.1, NE4.out⟩, ⟨Owns.nil, fun g _ h => by cases h⟩, B5.out⟩
  case round =>
    obtain ⟨k, rs, hk, rfl, HJ, HSAME, HO, HA, hI, hbw⟩ := hrel
    have hsz := hbw.out.size
    rcases first_at HZ.out k (by rw [hlj.out]; exact hk) with ⟨f1, f2, f3⟩ | ⟨i, x, f1, f2, f3, f4, f5, f6, f7, f8, f9, f10⟩
    · rw [f1]
      have HR2 : Hid (doomP (jobs l) = (dmC (jobs l) k, dmI (jobs l) k)) := by show _ = _; rw [HR.out, ← f2, ← f3, hlj.out]
      clear f1 f2 f3
      go_wp2
      go_ret2
      rw [HR2.out]
      exact ⟨A5, n, c5, rs, _, rfl, HJ.out, Lib.hid ⟨HO.out.reads, HA.out.1, hn1⟩, hc5, hm5, hI.out.1, hbw.out⟩
    · rw [f1]
      obtain ⟨r, hri, hrx⟩ := jobs_get (l := rs) (k := i) (x := x) (by rw [HJ.out]; exact f4)
      have hin : i < n := by rw [← hlj.out]; exact f3
      have hrl := HSAME.out i r f2 hri
      obtain ⟨g5, c6, e5, hg5, hg5w, _⟩ := HO.out.at_ (by omega)
      simp only [Value.slice.injEq, true_and] at e5
      obtain ⟨rfl, rfl⟩ := e5
      have KR := Lib.hid (owns_range HO.out (by omega) hri)
      have KT := Lib.hid (HO.out.there hin)
      have hi0 : (0 : Int) ≤ (i : Int) := by omega
      have hi1 : (i : Int) < (n : Int) := by omega
      have tge : decide ((0 : Int) ≤ (i : Int)) = true := by simp
      have CSZ := Lib.hid (jrC_info (r := r))
      have hBw : w.heap.size ≤ wr.heap.size := hsz
      have JRW : Hid (JrAt wr w.heap.size r) := ((HT.out.2.1 r (List.mem_of_getElem? hrl)).below (hbw.out.mono HBW.out)).more HBW.out
      have qe := Lib.hid (rend_any r.x 6 r.A r.A2 r.c r.c2 w.heap.size wr JRW.out.1 hBw JRW.out.2)
      rw [hrx, end_vain f6 f7] at qe
      have HFS : Hid (JbSz (finD x 6)) := by show JbSz _; rw [← hrx]; exact fin_sz JRW.out.2 6
      have HYI := Lib.hid (fin_id x 6)
      obtain ⟨y, hy⟩ : ∃ y, finD x 6 = y := ⟨_, rfl⟩
      rw [hy] at qe f8 HFS HYI
      have e0x : r.x.id = x.id := by rw [hrx]
      obtain ⟨id, hid⟩ : ∃ id, x.id = id := ⟨_, rfl⟩
      rw [hid] at f9 f10 HYI e0x
      have F8 := Lib.hid f8
      have F9 := Lib.hid f9
      have F10 := Lib.hid f10
      have HRI := Lib.hid hri
      rw [← hrx, show jbV r.x r.A r.c r.A2 r.c2 = .agg (jrC r).toArray from rfl] at qe
      obtain ⟨cs, hcs⟩ : ∃ cs, Hid (jrC r = cs) := ⟨_, rfl⟩
      rw [hcs.out] at KR CSZ qe
      clear f1 f4 f5 f6 f7 f8 f9 f10 hy hid e0x hrx hrl hri hcs JRW
      go_wp2_with (refine wpList_load_mid rfl 28 _ rfl g5 (i * 20) rfl cs _ KR.out Tryz.underlying28 rfl CSZ.out ?_)
      refine qe.out.mono ?_; rintro e w2 ⟨A6, c6, A7, c7, rfl, hat3, haw3, hw2⟩
      have B2 := Lib.hid hw2
      obtain ⟨r3, hr3⟩ : ∃ r3 : JR, Hid (r3 = ⟨y, A6, c6, A7, c7⟩) := ⟨_, rfl⟩
      have HR3 : Hid (JrAt w2 w2.heap.size r3) := by show JrAt _ _ _; rw [hr3.out]; exact ⟨hat3, HFS.out⟩
      have HX3 : Hid (r3.x = y) := by show _ = _; rw [hr3.out]
      have hv3 : jbV y A6 c6 A7 c7 = .agg (jrC r3).toArray := by rw [hr3.out]; rfl
      have NE3 : Hid (OffG g5 r3.A r3.x.shape.alts.length ∧ OffG g5 r3.A2 r3.x.after.length) := by
        show _ ∧ _
        rw [hr3.out]
        exact haw3 g5 (by have := W15.out; omega) hg5w
      have d0 : (jrC r3)[0]? = some (.int .i64 id) := by rw [← HYI.out, hr3.out]; rfl
      have DSA := Lib.hid (jrA_info r3)
      have D1 := Lib.hid (jrA_all r3)
      have DS2 := Lib.hid (jrA_20 r3)
      rw [show ((y, (0 : Int)).1) = y from rfl, show ((y, (0 : Int)).2) = 0 from rfl, hv3]
      have O2 := Lib.hid (HO.out.below hw2)
      have KT2 := Lib.hid (O2.out.there hin)
      have g2w : g5 < w2.heap.size := Nat.lt_of_lt_of_le hg5w hw2.size
      obtain ⟨W3, hW3⟩ : ∃ W, W = w2.setCells g5 (i * 20) (jrC r3) := ⟨_, rfl⟩
      have KP3 : Hid (Kp w2.heap.size (some g5) w2 W3) := by show Kp _ _ _ _; rw [hW3]; exact setCells_kp _ _ _ _ ⟨rfl, rfl, rfl, Nat.le_refl _, fun _ _ _ => rfl⟩
      have hlr : rs.length = n := by have := HO.out.len; rw [recs_len jrC_len] at this; omega
      have O3 : Hid (Owns W3 w1.heap.size 28 20 (.slice (some ⟨g5, 0, none⟩) n c5) n (recs jrC (rs.set i r3))) := by
        show Owns _ _ _ _ _ _ _
        have := O2.out.storedN (by omega) (jrC r3) (i * 20)
        rw [recs_put r3 (by omega), ← hW3] at this
        exact this
      have N5 := Lib.hid (HA.out.2 g5 rfl)
      have A3 : Hid ((∀ q ∈ rs.set i r3, JrAt W3 W3.heap.size q) ∧ ∀ g, (some ⟨g5, 0, none⟩ : Option Addr) = some ⟨g, 0, none⟩ → TbNe g none 0 (rs.set i r3)) := by
        show _ ∧ _
        refine ⟨fun q hq => ?_, fun g e => ?_⟩
        · rcases List.mem_or_eq_of_mem_set hq with h | h
          · exact JrAt.ne_kp ((HA.out.1 q h).up hw2) (N5.out.2 q h) KP3.out
          · subst h; exact JrAt.ne_kp HR3.out NE3.out KP3.out
        · simp only [Option.some.injEq, Addr.mk.injEq, and_true] at e
          subst e
          refine ⟨fun h => absurd h (by omega), fun q hq => ?_⟩
          rcases List.mem_or_eq_of_mem_set hq with h | h
          · exact N5.out.2 q h
          · subst h; exact NE3.out
      have J3 : Hid (jobs (rs.set i r3) = dmC (jobs l) (i + 1)) := by show _ = _; rw [jobs_set, HX3.out, HJ.out, F8.out]
      have SAME3 : Hid (∀ (j : Nat) (q : JR), i + 1 ≤ j → (rs.set i r3)[j]? = some q → l[j]? = some q) := Lib.hid (fun j q hj hq => HSAME.out j q (by omega) (by rw [List.getElem?_set_ne (by omega)] at hq; exact hq))
      obtain ⟨m, hm⟩ : ∃ m, Hid ((dmI (jobs l) k).length = m) := ⟨_, rfl⟩
      obtain ⟨L, hL⟩ : ∃ L, Hid (dmI (jobs l) k = L) := ⟨_, rfl⟩
      have hml : m ≤ n := by rw [← hm.out]; exact Nat.le_trans (dmI_len _ _) hk
      have HNE := Lib.hid (hI.out.2 g5 rfl)
      have hLm : Hid (L.length = m) := by show _ = _; rw [← hL.out]; exact hm.out
      have I3 : Hid (Owns W3 w.heap.size 3 1 u5 m (ints L)) := by
        have h := (hI.out.1.below hw2).keep (w' := W3) (fun q hq1 _ hq2 => KP3.out.block q hq2 (by intro e; exact HNE.out (by rw [hq1, e])))
        rw [hm.out, hL.out] at h
        exact h
      have B3 : Hid (Below w.heap.size w W3) := (bt hbw.out hw2).trans (KP3.out.below (Nat.le_trans hsz hw2.size) (fun j h => by rw [← Option.some.inj h]; have := W15.out; omega))
      have u0 : W3.cell? ⟨g5, i * 20, none⟩ = some (.int .i64 id) := range_cell (j := 0) (owns_range O3.out (by omega) (by rw [List.getElem?_set_self (by omega)])) d0
      rw [hL.out] at F9 F10
      obtain ⟨Av, cv, hv, hmc, hcm⟩ := I3.out.slice
      subst hv
      obtain ⟨ds, hds⟩ : ∃ ds, Hid (jrC r3 = ds) := ⟨_, rfl⟩
      rw [hds.out] at d0 DSA D1 DS2 hW3 ⊢
      have HW3 := Lib.hid hW3
      have MS : Hid (firstV (dmC (jobs l) (i + 1)) = -1 ∨ ∃ j : Nat, firstV (dmC (jobs l) (i + 1)) = (j : Int) ∧ i < j ∧ j < n) := by
        show _ ∨ _
        rcases first_at HZ.out (i + 1) (by rw [hlj.out]; omega) with ⟨p1, _, _⟩ | ⟨j, _, p1, p2, p3, _⟩
        · exact .inl p1
        · rw [hlj.out] at p3
          exact .inr ⟨j, p1, by omega, p3⟩
      clear hv3 hat3 haw3 hw2 qe hr3 hds HO HA hI HJ HSAME KP3 hbw HR3 HX3 NE3 N5 hm hL hW3 HNE
      go_wp2_with (refine wpList_store_mid rfl 28 _ _ rfl g5 (i * 20) ds.toArray rfl rfl (by rw [← DS2.out]; exact KT2.out) DSA.out D1.out ?_; rw [show ds.toArray.toList = ds from rfl, ← HW3.out])
      go_loopw [7] (fun j wx => ∃ t : Nat, t ≤ m ∧ j = .int .i64 t ∧ Hid (Below W3.heap.size W3 wx)) (fun j _ => m - (intOf j).toNat)
      case atStart => exact ⟨0, Nat.zero_le _, rfl, Below.refl _ _⟩
      case round =>
        obtain ⟨t, ht, rfl, hbx⟩ := hrel
        have hgw3 : g5 < W3.heap.size := (O3.out.at_ (by omega)) |> fun ⟨_, _, e, _, h, _⟩ => by simp only [Value.slice.injEq, Option.some.injEq, Addr.mk.injEq, and_true, true_and] at e; omega
        have hgwr : g5 < wr.heap.size := Nat.lt_of_lt_of_le hgw3 hbx.out.size
        have x0 : wr.cell? ⟨g5, i * 20, none⟩ = some (.int .i64 id) := (hbx.out.cell (p := ⟨g5, i * 20, none⟩) hgw3).trans u0
        by_cases htm : t < m
        · obtain ⟨g6, c6, e6, _, hg6, _, _, hc6, _⟩ := (I3.out.below hbx.out).at_ (by omega)
          simp only [Value.slice.injEq, true_and] at e6
          obtain ⟨rfl, rfl⟩ := e6
          have hz1 : L[t]? = some (L[t]'(by rw [hLm.out]; exact htm)) := List.getElem?_eq_getElem _
          obtain ⟨z, hz⟩ : ∃ z, L[t]'(by rw [hLm.out]; exact htm) = z := ⟨_, rfl⟩
          rw [hz] at hz1
          have hzi : z < id := F10.out z (List.mem_of_getElem? hz1)
          have y0 := hc6 t (.int .i64 z) (by unfold ints; rw [List.getElem?_map, hz1]; rfl)
          have t1 : decide ((t : Int) < (m : Int)) = true := by simp; omega
          have t2 : decide (z < id) = true := decide_eq_true hzi
          have tj0 : (0 : Int) ≤ (t : Int) := by omega
          have tj1 : (t : Int) < (m : Int) := by omega
          clear hc6 hz1 hz hzi
          go_upto_region 10 with (fail)
          refine wp_region_later (by kernel_rfl) (by kernel_rfl) ?_
          have hl_ := later_cell (wr)
          repeat (first | go_big_quiet_step ((fail)) | quiet_step ((fail)))
          refine wpQuiet_nil ?_
          intro wy hx_
          obtain ⟨⟨w_, hby⟩, e_⟩ := hx_
          have e2_ : wy = w_ := e_
          clear e_
          subst e2_
          clear hl_
          go_wp2
          go_roundw
          case rel => exact ⟨t + 1, by omega, by simp, Lib.hid (hbx.out.trans (hby.mono hbx.out.size))⟩
          case measure => simp [intOf]; omega
        · obtain rfl : t = m := by omega
          have t1 : decide ((t : Int) < (t : Int)) = false := by simp
          go_upto_region 10 with (fail)
          refine wp_region_later (by kernel_rfl) (by kernel_rfl) ?_
          have hl_ := later_cell (wr)
          repeat (first | go_big_quiet_step ((fail)) | quiet_step ((fail)))
          refine wpQuiet_nil ?_
          intro wy hx_
          obtain ⟨⟨w_, hby⟩, e_⟩ := hx_
          have e2_ : wy = w_ := e_
          clear e_
          subst e2_
          clear hl_
          go_upto_region 12 with (fail)
          have BY := Lib.hid (hbx.out.trans (hby.mono hbx.out.size))
          have rI : Reads wy wy.heap.size 1 Av t (ints L) := (I3.out.below BY.out).reads
          have z0 : wy.cell? ⟨g5, i * 20, none⟩ = some (.int .i64 id) := (BY.out.cell (p := ⟨g5, i * 20, none⟩) hgw3).trans u0
          have hgy : g5 < wy.heap.size := Nat.lt_of_lt_of_le hgw3 BY.out.size
          have ht0 : (0 : Int) ≤ (t : Int) := by omega
          have ht1 : (t : Int) ≤ (cv : Int) := by omega
          have ht2 : t ≤ cv := hmc
          have hcv : (cv : Int) ≤ (cv : Int) := by omega
          clear x0 hby hbx hgw3 hgwr
          by_cases hct : cv = t
          case pos =>
            subst hct
            refine wp_region_held_drew (S := (fun w' => (∀ b o, b < wy.heap.size → w'.cell? ⟨b, o, none⟩ = wy.cell? ⟨b, o, none⟩) ∧ Below wy.heap.size wy w')) (by kernel_rfl) ?_ (fun hHeld => ?_)
            · (try dsimp only); (first | assumption | exact sk_mk (below_drew (Below.refl _ _)) | (refine sk_mk (Below.alloc (And.right (by assumption)) (sk_size (by assumption)) _)) | exact sk_app (by assumption) (by assumption) (sk_size (by assumption)))
            refine wpAnyH_take (i := 1) (oi := ⟨_, _, _, _, _, _⟩) (v := ?v_1) rfl (by kernel_rfl) (by kernel_rfl) (by kernel_rfl) (fun _ _ _ h => h) (Or.inl ⟨by rfl, ?hy_1⟩) (by assumption) ?r_1
            case hy_1 => (intro w_ hS_; (try dsimp only at hS_); go_simp; try with_reducible rfl)
            try simp only [Act.put, List.setIfInBounds_toArray, List.set_cons_zero, List.set_cons_succ]
            refine wpAnyH_take (i := 2) (oi := ⟨_, _, _, _, _, _⟩) (v := ?v_2) rfl (by kernel_rfl) (by kernel_rfl) (by kernel_rfl) (fun _ _ _ h => h) (Or.inl ⟨by rfl, ?hy_2⟩) (by assumption) ?r_2
            case hy_2 => (intro w_ hS_; (try dsimp only at hS_); go_simp; try with_reducible rfl)
            try simp only [Act.put, List.setIfInBounds_toArray, List.set_cons_zero, List.set_cons_succ]
            refine wpAnyH_take (i := 3) (oi := ⟨_, _, _, _, _, _⟩) (v := ?v_3) rfl (by kernel_rfl) (by kernel_rfl) (by kernel_rfl) (fun _ _ _ h => h) (Or.inl ⟨by rfl, ?hy_3⟩) (by assumption) ?r_3
            case hy_3 => (intro w_ hS_; (try dsimp only at hS_); go_simp; try with_reducible rfl)
            try simp only [Act.put, List.setIfInBounds_toArray, List.set_cons_zero, List.set_cons_succ]
            refine wpAnyH_take (i := 5) (oi := ⟨_, _, _, _, _, _⟩) (v := ?v_4) rfl (by kernel_rfl) (by kernel_rfl) (by kernel_rfl) (fun _ _ _ h => h) (Or.inl ⟨by rfl, ?hy_4⟩) (by assumption) ?r_4
            case hy_4 => (intro w_ hS_; (try dsimp only at hS_); go_simp; try with_reducible rfl)
            try simp only [Act.put, List.setIfInBounds_toArray, List.set_cons_zero, List.set_cons_succ]
            refine wpAnyH_take (i := 6) (oi := ⟨_, _, _, _, _, _⟩) (v := ?v_5) rfl (by kernel_rfl) (by kernel_rfl) (by kernel_rfl) (fun _ _ _ h => h) (Or.inl ⟨by rfl, ?hy_5⟩) (by assumption) ?r_5
            case hy_5 => (intro w_ hS_; (try dsimp only at hS_); go_simp; try with_reducible rfl)
            try simp only [Act.put, List.setIfInBounds_toArray, List.set_cons_zero, List.set_cons_succ]
            refine wpAnyH_take (i := 7) (oi := ⟨_, _, _, _, _, _⟩) (v := ?v_6) rfl (by kernel_rfl) (by kernel_rfl) (by kernel_rfl) (fun _ _ _ h => h) (Or.inl ⟨by rfl, ?hy_6⟩) (by assumption) ?r_6
            case hy_6 => (intro w_ hS_; (try dsimp only at hS_); go_simp; try with_reducible rfl)
            try simp only [Act.put, List.setIfInBounds_toArray, List.set_cons_zero, List.set_cons_succ]
            refine wpAnyH_take (i := 8) (oi := ⟨_, _, _, _, _, _⟩) (v := ?v_7) rfl (by kernel_rfl) (by kernel_rfl) (by kernel_rfl) (fun _ _ _ h => h) (Or.inl ⟨by rfl, ?hy_7⟩) (by assumption) ?r_7
            case hy_7 => (intro w_ hS_; (try dsimp only at hS_); go_simp; try with_reducible rfl)
            try simp only [Act.put, List.setIfInBounds_toArray, List.set_cons_zero, List.set_cons_succ]
            refine wpAnyH_take (i := 9) (oi := ⟨_, _, _, _, _, _⟩) (v := ?v_8) rfl (by kernel_rfl) (by kernel_rfl) (by kernel_rfl) (fun _ _ _ h => h) (Or.inl ⟨by rfl, ?hy_8⟩) (by assumption) ?r_8
            case hy_8 => (intro w_ hS_; (try dsimp only at hS_); go_simp; try with_reducible rfl)
            try simp only [Act.put, List.setIfInBounds_toArray, List.set_cons_zero, List.set_cons_succ]
            refine wpAnyH_take (i := 12) (oi := ⟨_, _, _, _, _, _⟩) (v := ?v_9) rfl (by kernel_rfl) (by kernel_rfl) (by kernel_rfl) (fun _ _ _ h => h) (Or.inl ⟨by rfl, ?hy_9⟩) (by assumption) ?r_9
            case hy_9 => (intro w_ hS_; (try dsimp only at hS_); go_simp; try with_reducible rfl)
            try simp only [Act.put, List.setIfInBounds_toArray, List.set_cons_zero, List.set_cons_succ]
            refine wpAnyH_take (i := 13) (oi := ⟨_, _, _, _, _, _⟩) (v := ?v_10) rfl (by kernel_rfl) (by kernel_rfl) (by kernel_rfl) (fun _ _ _ h => h) (Or.inl ⟨by rfl, ?hy_10⟩) (by assumption) ?r_10
            case hy_10 => (intro w_ hS_; (try dsimp only at hS_); go_simp; try with_reducible rfl)
            try simp only [Act.put, List.setIfInBounds_toArray, List.set_cons_zero, List.set_cons_succ]
            refine wpAnyH_take (i := 14) (oi := ⟨_, _, _, _, _, _⟩) (v := ?v_11) rfl (by kernel_rfl) (by kernel_rfl) (by kernel_rfl) (fun _ _ _ h => h) (Or.inl ⟨by rfl, ?hy_11⟩) (by assumption) ?r_11
            case hy_11 => (intro w_ hS_; (try dsimp only at hS_); go_simp; try with_reducible rfl)
            try simp only [Act.put, List.setIfInBounds_toArray, List.set_cons_zero, List.set_cons_succ]
            refine wpAnyH_ready (rs := [0, 10]) (by kernel_rfl) (by simp) ?_
            refine AllReadyH.cons (o := ⟨_, _, _, _, _, _⟩) rfl (fun K hK => ?_) ?_
            · go_simp
              refine hK.out _ _ ?_ (fun hHeld => ?_)
              · (try dsimp only); (first | assumption | exact sk_mk (below_drew (Below.refl _ _)) | (refine sk_mk (Below.alloc (And.right (by assumption)) (sk_size (by assumption)) _)) | exact sk_app (by assumption) (by assumption) (sk_size (by assumption)))
              clear hK K
              try simp only [Act.put, List.setIfInBounds_toArray, List.set_cons_zero, List.set_cons_succ]
              refine wpAnyH_ready (rs := [4, 10]) (by kernel_rfl) (by simp) ?_
              refine AllReadyH.cons (o := ⟨_, _, _, _, _, _⟩) rfl (fun K hK => ?_) ?_
              · (first | (refine step_i (s := .tmp 49) (x := .tmp 52) rfl rfl _ rfl (xs := []) Owns.nil rfl (sk_reads (by assumption) rI) (by omega) (Nat.le_refl _) ?_; intro v1 wa o1 k1 _; have kc := k1.all; have zk := k1.hsize) | (refine step_i (s := .tmp 53) (x := .tmp 59) rfl rfl _ rfl (by first | exact o1 | exact o1.alloc _) rfl (readsI1 (x := id) (by simp [go_sem, kc])) (by omega) (by simp at zk ⊢ <;> omega) ?_; intro v2 wb o2 k2 _; have zk2 := k2.hsize) | (refine step_i (B := 0) (s := .tmp 60) (x := .tmp 63) rfl rfl _ rfl o2 rfl (news := []) Reads.none_ (by omega) (by simp at zk zk2 ⊢ <;> omega) ?_; intro v3 wd o3 k3 _))
                refine hK.out _ _ ?_ (fun hHeld => ?_)
                · (try dsimp only); (first | assumption | exact sk_mk (below_drew (Below.refl _ _)) | (refine sk_mk (Below.alloc (And.right (by assumption)) (sk_size (by assumption)) _)) | exact sk_app (by assumption) (by assumption) (sk_size (by assumption)))
                clear hK K
                try simp only [Act.put, List.setIfInBounds_toArray, List.set_cons_zero, List.set_cons_succ]
                refine wpAnyH_ready (rs := [10]) (by kernel_rfl) (by simp) ?_
                refine AllReadyH.cons (o := ⟨_, _, _, _, _, _⟩) rfl (fun K hK => ?_) AllReadyH.nil
                go_simp
                refine hK.out _ _ ?_ (fun hHeld => ?_)
                · (try dsimp only); (first | assumption | exact sk_mk (below_drew (Below.refl _ _)) | (refine sk_mk (Below.alloc (And.right (by assumption)) (sk_size (by assumption)) _)) | exact sk_app (by assumption) (by assumption) (sk_size (by assumption)))
                clear hK K
                try simp only [Act.put, List.setIfInBounds_toArray, List.set_cons_zero, List.set_cons_succ]
                refine wpAnyH_ready (rs := [11]) (by kernel_rfl) (by simp) ?_
                refine AllReadyH.cons (o := ⟨_, _, _, _, _, _⟩) rfl (fun K hK => ?_) AllReadyH.nil
                (first | (refine step_i (s := .tmp 49) (x := .tmp 52) rfl rfl _ rfl (xs := []) Owns.nil rfl (sk_reads (by assumption) rI) (by omega) (Nat.le_refl _) ?_; intro v1 wa o1 k1 _; have kc := k1.all; have zk := k1.hsize) | (refine step_i (s := .tmp 53) (x := .tmp 59) rfl rfl _ rfl (by first | exact o1 | exact o1.alloc _) rfl (readsI1 (x := id) (by simp [go_sem, kc])) (by omega) (by simp at zk ⊢ <;> omega) ?_; intro v2 wb o2 k2 _; have zk2 := k2.hsize) | (refine step_i (B := 0) (s := .tmp 60) (x := .tmp 63) rfl rfl _ rfl o2 rfl (news := []) Reads.none_ (by omega) (by simp at zk zk2 ⊢ <;> omega) ?_; intro v3 wd o3 k3 _))
                refine hK.out _ _ ?_ (fun hHeld => ?_)
                · (try dsimp only); (first | assumption | exact sk_mk (below_drew (Below.refl _ _)) | (refine sk_mk (Below.alloc (And.right (by assumption)) (sk_size (by assumption)) _)) | exact sk_app (by assumption) (by assumption) (sk_size (by assumption)))
                clear hK K
                try simp only [Act.put, List.setIfInBounds_toArray, List.set_cons_zero, List.set_cons_succ]
                refine wpAnyH_ready (rs := [15]) (by kernel_rfl) (by simp) ?_
                refine AllReadyH.cons (o := ⟨_, _, _, _, _, _⟩) rfl (fun K hK => ?_) AllReadyH.nil
                (first | (refine step_i (s := .tmp 49) (x := .tmp 52) rfl rfl _ rfl (xs := []) Owns.nil rfl (sk_reads (by assumption) rI) (by omega) (Nat.le_refl _) ?_; intro v1 wa o1 k1 _; have kc := k1.all; have zk := k1.hsize) | (refine step_i (s := .tmp 53) (x := .tmp 59) rfl rfl _ rfl (by first | exact o1 | exact o1.alloc _) rfl (readsI1 (x := id) (by simp [go_sem, kc])) (by omega) (by simp at zk ⊢ <;> omega) ?_; intro v2 wb o2 k2 _; have zk2 := k2.hsize) | (refine step_i (B := 0) (s := .tmp 60) (x := .tmp 63) rfl rfl _ rfl o2 rfl (news := []) Reads.none_ (by omega) (by simp at zk zk2 ⊢ <;> omega) ?_; intro v3 wd o3 k3 _))
                refine hK.out _ _ ?_ (fun hHeld => ?_)
                · (try dsimp only); (first | assumption | exact sk_mk (below_drew (Below.refl _ _)) | (refine sk_mk (Below.alloc (And.right (by assumption)) (sk_size (by assumption)) _)) | exact sk_app (by assumption) (by assumption) (sk_size (by assumption)))
                clear hK K
                try simp only [Act.put, List.setIfInBounds_toArray, List.set_cons_zero, List.set_cons_succ]
                refine wpAnyH_take (i := 16) (oi := ⟨_, _, _, _, _, _⟩) (v := ?v_12) rfl (by kernel_rfl) (by kernel_rfl) (by kernel_rfl) (fun _ _ _ h => h) (Or.inl ⟨by rfl, ?hy_12⟩) (by assumption) ?r_12
                case hy_12 => (intro w_ hS_; (try dsimp only at hS_); go_simp; try with_reducible rfl)
                try simp only [Act.put, List.setIfInBounds_toArray, List.set_cons_zero, List.set_cons_succ]
                refine wpAnyH_done (by kernel_rfl) ?_ _
                (have bf := And.right (by assumption : (∀ b o, b < wy.heap.size → World.cell? _ ⟨b, o, none⟩ = wy.cell? ⟨b, o, none⟩) ∧ Below wy.heap.size wy _) ; have o4 := o3.mono (B' := wy.heap.size) (by first | exact Nat.le_refl _ | exact sk_size (by assumption) | (simp; done) | (simp at *; omega) | (have hz_ : ∀ v : World, v.drew.heap.size = v.heap.size := fun _ => rfl; simp only [hz_, World.size_alloc] at *; omega)) ; have BZ := Lib.hid (BY.out.trans (bf.mono BY.out.size)) ; have OZ : Hid (Owns _ wy.heap.size 3 1 v3 (L ++ [id]).length (ints (L ++ [id]))) := Lib.hid (by simpa [hLm.out] using o4) ; clear bf o1 o2 o3 o4 k1 k2 k3 kc zk zk2 ; go_wp2_with (fail) ; refine (qf.out (rs.set i r3) (i + 1) J3.out _ ⟨(O3.out.below BZ.out).reads, fun q hq => (A3.out.1 q hq).up BZ.out, hn1⟩).mono ?_ ; rintro e w9 ⟨rfl, hw9⟩ ; have B9 := Lib.hid (BZ.out.trans (hw9.mono BZ.out.size)) ; have I9 := Lib.hid (OZ.out.below hw9) ; clear hw9 BZ OZ ; rw [J3.out] ; go_wp2 ; go_roundw ; (case rel => (exact ⟨i + 1, rs.set i r3, by omega, rfl, J3, SAME3, Lib.hid (O3.out.below B9.out), ⟨fun q hq => (A3.out.1 q hq).up B9.out, A3.out.2⟩, ⟨by rw [F9.out]; exact I9.out.mono (Nat.le_trans B3.out.size BY.out.size), fun g e1 e2 => by simp only [Option.some.injEq, Addr.mk.injEq, and_true] at e1; have := I9.out.own_ge (by simp) _ e2; omega⟩, Lib.hid (B3.out.trans (B9.out.mono B3.out.size))⟩)) ; (case measure => rcases MS.out with h | ⟨j, h, h1, h2⟩ <;> rw [h] <;> (first | (show fuelD n (-1) < fuelD n (i : Int); rw [fuelD_neg, fuelD_nat]; omega) | (show fuelD n ((j : Nat) : Int) < fuelD n (i : Int); rw [fuelD_nat, fuelD_nat]; omega))))
              refine AllReadyH.cons (o := ⟨_, _, _, _, _, _⟩) rfl (fun K hK => ?_) AllReadyH.nil
              go_simp
              refine hK.out _ _ ?_ (fun hHeld => ?_)
              · (try dsimp only); (first | assumption | exact sk_mk (below_drew (Below.refl _ _)) | (refine sk_mk (Below.alloc (And.right (by assumption)) (sk_size (by assumption)) _)) | exact sk_app (by assumption) (by assumption) (sk_size (by assumption)))
              clear hK K
              try simp only [Act.put, List.setIfInBounds_toArray, List.set_cons_zero, List.set_cons_succ]
              refine wpAnyH_ready (rs := [4]) (by kernel_rfl) (by simp) ?_
              refine AllReadyH.cons (o := ⟨_, _, _, _, _, _⟩) rfl (fun K hK => ?_) AllReadyH.nil
              (first | (refine step_i (s := .tmp 49) (x := .tmp 52) rfl rfl _ rfl (xs := []) Owns.nil rfl (sk_reads (by assumption) rI) (by omega) (Nat.le_refl _) ?_; intro v1 wa o1 k1 _; have kc := k1.all; have zk := k1.hsize) | (refine step_i (s := .tmp 53) (x := .tmp 59) rfl rfl _ rfl (by first | exact o1 | exact o1.alloc _) rfl (readsI1 (x := id) (by simp [go_sem, kc])) (by omega) (by simp at zk ⊢ <;> omega) ?_; intro v2 wb o2 k2 _; have zk2 := k2.hsize) | (refine step_i (B := 0) (s := .tmp 60) (x := .tmp 63) rfl rfl _ rfl o2 rfl (news := []) Reads.none_ (by omega) (by simp at zk zk2 ⊢ <;> omega) ?_; intro v3 wd o3 k3 _))
              refine hK.out _ _ ?_ (fun hHeld => ?_)
              · (try dsimp only); (first | assumption | exact sk_mk (below_drew (Below.refl _ _)) | (refine sk_mk (Below.alloc (And.right (by assumption)) (sk_size (by assumption)) _)) | exact sk_app (by assumption) (by assumption) (sk_size (by assumption)))
              clear hK K
              try simp only [Act.put, List.setIfInBounds_toArray, List.set_cons_zero, List.set_cons_succ]
              refine wpAnyH_ready (rs := [11]) (by kernel_rfl) (by simp) ?_
              refine AllReadyH.cons (o := ⟨_, _, _, _, _, _⟩) rfl (fun K hK => ?_) AllReadyH.nil
              (first | (refine step_i (s := .tmp 49) (x := .tmp 52) rfl rfl _ rfl (xs := []) Owns.nil rfl (sk_reads (by assumption) rI) (by omega) (Nat.le_refl _) ?_; intro v1 wa o1 k1 _; have kc := k1.all; have zk := k1.hsize) | (refine step_i (s := .tmp 53) (x := .tmp 59) rfl rfl _ rfl (by first | exact o1 | exact o1.alloc _) rfl (readsI1 (x := id) (by simp [go_sem, kc])) (by omega) (by simp at zk ⊢ <;> omega) ?_; intro v2 wb o2 k2 _; have zk2 := k2.hsize) | (refine step_i (B := 0) (s := .tmp 60) (x := .tmp 63) rfl rfl _ rfl o2 rfl (news := []) Reads.none_ (by omega) (by simp at zk zk2 ⊢ <;> omega) ?_; intro v3 wd o3 k3 _))
              refine hK.out _ _ ?_ (fun hHeld => ?_)
              · (try dsimp only); (first | assumption | exact sk_mk (below_drew (Below.refl _ _)) | (refine sk_mk (Below.alloc (And.right (by assumption)) (sk_size (by assumption)) _)) | exact sk_app (by assumption) (by assumption) (sk_size (by assumption)))
              clear hK K
              try simp only [Act.put, List.setIfInBounds_toArray, List.set_cons_zero, List.set_cons_succ]
              refine wpAnyH_ready (rs := [15]) (by kernel_rfl) (by simp) ?_
              refine AllReadyH.cons (o := ⟨_, _, _, _, _, _⟩) rfl (fun K hK => ?_) AllReadyH.nil
              (first | (refine step_i (s := .tmp 49) (x := .tmp 52) rfl rfl _ rfl (xs := []) Owns.nil rfl (sk_reads (by assumption) rI) (by omega) (Nat.le_refl _) ?_; intro v1 wa o1 k1 _; have kc := k1.all; have zk := k1.hsize) | (refine step_i (s := .tmp 53) (x := .tmp 59) rfl rfl _ rfl (by first | exact o1 | exact o1.alloc _) rfl (readsI1 (x := id) (by simp [go_sem, kc])) (by omega) (by simp at zk ⊢ <;> omega) ?_; intro v2 wb o2 k2 _; have zk2 := k2.hsize) | (refine step_i (B := 0) (s := .tmp 60) (x := .tmp 63) rfl rfl _ rfl o2 rfl (news := []) Reads.none_ (by omega) (by simp at zk zk2 ⊢ <;> omega) ?_; intro v3 wd o3 k3 _))
              refine hK.out _ _ ?_ (fun hHeld => ?_)
              · (try dsimp only); (first | assumption | exact sk_mk (below_drew (Below.refl _ _)) | (refine sk_mk (Below.alloc (And.right (by assumption)) (sk_size (by assumption)) _)) | exact sk_app (by assumption) (by assumption) (sk_size (by assumption)))
              clear hK K
              try simp only [Act.put, List.setIfInBounds_toArray, List.set_cons_zero, List.set_cons_succ]
              refine wpAnyH_take (i := 16) (oi := ⟨_, _, _, _, _, _⟩) (v := ?v_13) rfl (by kernel_rfl) (by kernel_rfl) (by kernel_rfl) (fun _ _ _ h => h) (Or.inl ⟨by rfl, ?hy_13⟩) (by assumption) ?r_13
              case hy_13 => (intro w_ hS_; (try dsimp only at hS_); go_simp; try with_reducible rfl)
              try simp only [Act.put, List.setIfInBounds_toArray, List.set_cons_zero, List.set_cons_succ]
              refine wpAnyH_done (by kernel_rfl) ?_ _
              (have bf := And.right (by assumption : (∀ b o, b < wy.heap.size → World.cell? _ ⟨b, o, none⟩ = wy.cell? ⟨b, o, none⟩) ∧ Below wy.heap.size wy _) ; have o4 := o3.mono (B' := wy.heap.size) (by first | exact Nat.le_refl _ | exact sk_size (by assumption) | (simp; done) | (simp at *; omega) | (have hz_ : ∀ v : World, v.drew.heap.size = v.heap.size := fun _ => rfl; simp only [hz_, World.size_alloc] at *; omega)) ; have BZ := Lib.hid (BY.out.trans (bf.mono BY.out.size)) ; have OZ : Hid (Owns _ wy.heap.size 3 1 v3 (L ++ [id]).length (ints (L ++ [id]))) := Lib.hid (by simpa [hLm.out] using o4) ; clear bf o1 o2 o3 o4 k1 k2 k3 kc zk zk2 ; go_wp2_with (fail) ; refine (qf.out (rs.set i r3) (i + 1) J3.out _ ⟨(O3.out.below BZ.out).reads, fun q hq => (A3.out.1 q hq).up BZ.out, hn1⟩).mono ?_ ; rintro e w9 ⟨rfl, hw9⟩ ; have B9 := Lib.hid (BZ.out.trans (hw9.mono BZ.out.size)) ; have I9 := Lib.hid (OZ.out.below hw9) ; clear hw9 BZ OZ ; rw [J3.out] ; go_wp2 ; go_roundw ; (case rel => (exact ⟨i + 1, rs.set i r3, by omega, rfl, J3, SAME3, Lib.hid (O3.out.below B9.out), ⟨fun q hq => (A3.out.1 q hq).up B9.out, A3.out.2⟩, ⟨by rw [F9.out]; exact I9.out.mono (Nat.le_trans B3.out.size BY.out.size), fun g e1 e2 => by simp only [Option.some.injEq, Addr.mk.injEq, and_true] at e1; have := I9.out.own_ge (by simp) _ e2; omega⟩, Lib.hid (B3.out.trans (B9.out.mono B3.out.size))⟩)) ; (case measure => rcases MS.out with h | ⟨j, h, h1, h2⟩ <;> rw [h] <;> (first | (show fuelD n (-1) < fuelD n (i : Int); rw [fuelD_neg, fuelD_nat]; omega) | (show fuelD n ((j : Nat) : Int) < fuelD n (i : Int); rw [fuelD_nat, fuelD_nat]; omega))))
            refine AllReadyH.cons (o := ⟨_, _, _, _, _, _⟩) rfl (fun K hK => ?_) AllReadyH.nil
            go_simp
            refine hK.out _ _ ?_ (fun hHeld => ?_)
            · (try dsimp only); (first | assumption | exact sk_mk (below_drew (Below.refl _ _)) | (refine sk_mk (Below.alloc (And.right (by assumption)) (sk_size (by assumption)) _)) | exact sk_app (by assumption) (by assumption) (sk_size (by assumption)))
            clear hK K
            try simp only [Act.put, List.setIfInBounds_toArray, List.set_cons_zero, List.set_cons_succ]
            refine wpAnyH_ready (rs := [0]) (by kernel_rfl) (by simp) ?_
            refine AllReadyH.cons (o := ⟨_, _, _, _, _, _⟩) rfl (fun K hK => ?_) AllReadyH.nil
            go_simp
            refine hK.out _ _ ?_ (fun hHeld => ?_)
            · (try dsimp only); (first | assumption | exact sk_mk (below_drew (Below.refl _ _)) | (refine sk_mk (Below.alloc (And.right (by assumption)) (sk_size (by assumption)) _)) | exact sk_app (by assumption) (by assumption) (sk_size (by assumption)))
            clear hK K
            try simp only [Act.put, List.setIfInBounds_toArray, List.set_cons_zero, List.set_cons_succ]
            refine wpAnyH_ready (rs := [4]) (by kernel_rfl) (by simp) ?_
            refine AllReadyH.cons (o := ⟨_, _, _, _, _, _⟩) rfl (fun K hK => ?_) AllReadyH.nil
            (first | (refine step_i (s := .tmp 49) (x := .tmp 52) rfl rfl _ rfl (xs := []) Owns.nil rfl (sk_reads (by assumption) rI) (by omega) (Nat.le_refl _) ?_; intro v1 wa o1 k1 _; have kc := k1.all; have zk := k1.hsize) | (refine step_i (s := .tmp 53) (x := .tmp 59) rfl rfl _ rfl (by first | exact o1 | exact o1.alloc _) rfl (readsI1 (x := id) (by simp [go_sem, kc])) (by omega) (by simp at zk ⊢ <;> omega) ?_; intro v2 wb o2 k2 _; have zk2 := k2.hsize) | (refine step_i (B := 0) (s := .tmp 60) (x := .tmp 63) rfl rfl _ rfl o2 rfl (news := []) Reads.none_ (by omega) (by simp at zk zk2 ⊢ <;> omega) ?_; intro v3 wd o3 k3 _))
            refine hK.out _ _ ?_ (fun hHeld => ?_)
            · (try dsimp only); (first | assumption | exact sk_mk (below_drew (Below.refl _ _)) | (refine sk_mk (Below.alloc (And.right (by assumption)) (sk_size (by assumption)) _)) | exact sk_app (by assumption) (by assumption) (sk_size (by assumption)))
            clear hK K
            try simp only [Act.put, List.setIfInBounds_toArray, List.set_cons_zero, List.set_cons_succ]
            refine wpAnyH_ready (rs := [11]) (by kernel_rfl) (by simp) ?_
            refine AllReadyH.cons (o := ⟨_, _, _, _, _, _⟩) rfl (fun K hK => ?_) AllReadyH.nil
            (first | (refine step_i (s := .tmp 49) (x := .tmp 52) rfl rfl _ rfl (xs := []) Owns.nil rfl (sk_reads (by assumption) rI) (by omega) (Nat.le_refl _) ?_; intro v1 wa o1 k1 _; have kc := k1.all; have zk := k1.hsize) | (refine step_i (s := .tmp 53) (x := .tmp 59) rfl rfl _ rfl (by first | exact o1 | exact o1.alloc _) rfl (readsI1 (x := id) (by simp [go_sem, kc])) (by omega) (by simp at zk ⊢ <;> omega) ?_; intro v2 wb o2 k2 _; have zk2 := k2.hsize) | (refine step_i (B := 0) (s := .tmp 60) (x := .tmp 63) rfl rfl _ rfl o2 rfl (news := []) Reads.none_ (by omega) (by simp at zk zk2 ⊢ <;> omega) ?_; intro v3 wd o3 k3 _))
            refine hK.out _ _ ?_ (fun hHeld => ?_)
            · (try dsimp only); (first | assumption | exact sk_mk (below_drew (Below.refl _ _)) | (refine sk_mk (Below.alloc (And.right (by assumption)) (sk_size (by assumption)) _)) | exact sk_app (by assumption) (by assumption) (sk_size (by assumption)))
            clear hK K
            try simp only [Act.put, List.setIfInBounds_toArray, List.set_cons_zero, List.set_cons_succ]
            refine wpAnyH_ready (rs := [15]) (by kernel_rfl) (by simp) ?_
            refine AllReadyH.cons (o := ⟨_, _, _, _, _, _⟩) rfl (fun K hK => ?_) AllReadyH.nil
            (first | (refine step_i (s := .tmp 49) (x := .tmp 52) rfl rfl _ rfl (xs := []) Owns.nil rfl (sk_reads (by assumption) rI) (by omega) (Nat.le_refl _) ?_; intro v1 wa o1 k1 _; have kc := k1.all; have zk := k1.hsize) | (refine step_i (s := .tmp 53) (x := .tmp 59) rfl rfl _ rfl (by first | exact o1 | exact o1.alloc _) rfl (readsI1 (x := id) (by simp [go_sem, kc])) (by omega) (by simp at zk ⊢ <;> omega) ?_; intro v2 wb o2 k2 _; have zk2 := k2.hsize) | (refine step_i (B := 0) (s := .tmp 60) (x := .tmp 63) rfl rfl _ rfl o2 rfl (news := []) Reads.none_ (by omega) (by simp at zk zk2 ⊢ <;> omega) ?_; intro v3 wd o3 k3 _))
            refine hK.out _ _ ?_ (fun hHeld => ?_)
            · (try dsimp only); (first | assumption | exact sk_mk (below_drew (Below.refl _ _)) | (refine sk_mk (Below.alloc (And.right (by assumption)) (sk_size (by assumption)) _)) | exact sk_app (by assumption) (by assumption) (sk_size (by assumption)))
            clear hK K
            try simp only [Act.put, List.setIfInBounds_toArray, List.set_cons_zero, List.set_cons_succ]
            refine wpAnyH_take (i := 16) (oi := ⟨_, _, _, _, _, _⟩) (v := ?v_14) rfl (by kernel_rfl) (by kernel_rfl) (by kernel_rfl) (fun _ _ _ h => h) (Or.inl ⟨by rfl, ?hy_14⟩) (by assumption) ?r_14
            case hy_14 => (intro w_ hS_; (try dsimp only at hS_); go_simp; try with_reducible rfl)
            try simp only [Act.put, List.setIfInBounds_toArray, List.set_cons_zero, List.set_cons_succ]
            refine wpAnyH_done (by kernel_rfl) ?_ _
            (have bf := And.right (by assumption : (∀ b o, b < wy.heap.size → World.cell? _ ⟨b, o, none⟩ = wy.cell? ⟨b, o, none⟩) ∧ Below wy.heap.size wy _) ; have o4 := o3.mono (B' := wy.heap.size) (by first | exact Nat.le_refl _ | exact sk_size (by assumption) | (simp; done) | (simp at *; omega) | (have hz_ : ∀ v : World, v.drew.heap.size = v.heap.size := fun _ => rfl; simp only [hz_, World.size_alloc] at *; omega)) ; have BZ := Lib.hid (BY.out.trans (bf.mono BY.out.size)) ; have OZ : Hid (Owns _ wy.heap.size 3 1 v3 (L ++ [id]).length (ints (L ++ [id]))) := Lib.hid (by simpa [hLm.out] using o4) ; clear bf o1 o2 o3 o4 k1 k2 k3 kc zk zk2 ; go_wp2_with (fail) ; refine (qf.out (rs.set i r3) (i + 1) J3.out _ ⟨(O3.out.below BZ.out).reads, fun q hq => (A3.out.1 q hq).up BZ.out, hn1⟩).mono ?_ ; rintro e w9 ⟨rfl, hw9⟩ ; have B9 := Lib.hid (BZ.out.trans (hw9.mono BZ.out.size)) ; have I9 := Lib.hid (OZ.out.below hw9) ; clear hw9 BZ OZ ; rw [J3.out] ; go_wp2 ; go_roundw ; (case rel => (exact ⟨i + 1, rs.set i r3, by omega, rfl, J3, SAME3, Lib.hid (O3.out.below B9.out), ⟨fun q hq => (A3.out.1 q hq).up B9.out, A3.out.2⟩, ⟨by rw [F9.out]; exact I9.out.mono (Nat.le_trans B3.out.size BY.out.size), fun g e1 e2 => by simp only [Option.some.injEq, Addr.mk.injEq, and_true] at e1; have := I9.out.own_ge (by simp) _ e2; omega⟩, Lib.hid (B3.out.trans (B9.out.mono B3.out.size))⟩)) ; (case measure => rcases MS.out with h | ⟨j, h, h1, h2⟩ <;> rw [h] <;> (first | (show fuelD n (-1) < fuelD n (i : Int); rw [fuelD_neg, fuelD_nat]; omega) | (show fuelD n ((j : Nat) : Int) < fuelD n (i : Int); rw [fuelD_nat, fuelD_nat]; omega))))
          case neg =>
            have hct' : ¬ t = cv := fun e => hct e.symm
            refine wp_region_held_drew (S := (fun w' => (∀ b o, b < wy.heap.size → w'.cell? ⟨b, o, none⟩ = wy.cell? ⟨b, o, none⟩) ∧ Below wy.heap.size wy w')) (by kernel_rfl) ?_ (fun hHeld => ?_)
            · (try dsimp only); (first | assumption | exact sk_mk (below_drew (Below.refl _ _)) | (refine sk_mk (Below.alloc (And.right (by assumption)) (sk_size (by assumption)) _)) | exact sk_app (by assumption) (by assumption) (sk_size (by assumption)))
            refine wpAnyH_take (i := 1) (oi := ⟨_, _, _, _, _, _⟩) (v := ?v_15) rfl (by kernel_rfl) (by kernel_rfl) (by kernel_rfl) (fun _ _ _ h => h) (Or.inl ⟨by rfl, ?hy_15⟩) (by assumption) ?r_15
            case hy_15 => (intro w_ hS_; (try dsimp only at hS_); go_simp; try with_reducible rfl)
            try simp only [Act.put, List.setIfInBounds_toArray, List.set_cons_zero, List.set_cons_succ]
            refine wpAnyH_take (i := 2) (oi := ⟨_, _, _, _, _, _⟩) (v := ?v_16) rfl (by kernel_rfl) (by kernel_rfl) (by kernel_rfl) (fun _ _ _ h => h) (Or.inl ⟨by rfl, ?hy_16⟩) (by assumption) ?r_16
            case hy_16 => (intro w_ hS_; (try dsimp only at hS_); go_simp; try with_reducible rfl)
            try simp only [Act.put, List.setIfInBounds_toArray, List.set_cons_zero, List.set_cons_succ]
            refine wpAnyH_take (i := 3) (oi := ⟨_, _, _, _, _, _⟩) (v := ?v_17) rfl (by kernel_rfl) (by kernel_rfl) (by kernel_rfl) (fun _ _ _ h => h) (Or.inl ⟨by rfl, ?hy_17⟩) (by assumption) ?r_17
            case hy_17 => (intro w_ hS_; (try dsimp only at hS_); go_simp; try with_reducible rfl)
            try simp only [Act.put, List.setIfInBounds_toArray, List.set_cons_zero, List.set_cons_succ]
            refine wpAnyH_take (i := 5) (oi := ⟨_, _, _, _, _, _⟩) (v := ?v_18) rfl (by kernel_rfl) (by kernel_rfl) (by kernel_rfl) (fun _ _ _ h => h) (Or.inl ⟨by rfl, ?hy_18⟩) (by assumption) ?r_18
            case hy_18 => (intro w_ hS_; (try dsimp only at hS_); go_simp; try with_reducible rfl)
            try simp only [Act.put, List.setIfInBounds_toArray, List.set_cons_zero, List.set_cons_succ]
            refine wpAnyH_take (i := 6) (oi := ⟨_, _, _, _, _, _⟩) (v := ?v_19) rfl (by kernel_rfl) (by kernel_rfl) (by kernel_rfl) (fun _ _ _ h => h) (Or.inl ⟨by rfl, ?hy_19⟩) (by assumption) ?r_19
            case hy_19 => (intro w_ hS_; (try dsimp only at hS_); go_simp; try with_reducible rfl)
            try simp only [Act.put, List.setIfInBounds_toArray, List.set_cons_zero, List.set_cons_succ]
            refine wpAnyH_take (i := 7) (oi := ⟨_, _, _, _, _, _⟩) (v := ?v_20) rfl (by kernel_rfl) (by kernel_rfl) (by kernel_rfl) (fun _ _ _ h => h) (Or.inl ⟨by rfl, ?hy_20⟩) (by assumption) ?r_20
            case hy_20 => (intro w_ hS_; (try dsimp only at hS_); go_simp; try with_reducible rfl)
            try simp only [Act.put, List.setIfInBounds_toArray, List.set_cons_zero, List.set_cons_succ]
            refine wpAnyH_take (i := 8) (oi := ⟨_, _, _, _, _, _⟩) (v := ?v_21) rfl (by kernel_rfl) (by kernel_rfl) (by kernel_rfl) (fun _ _ _ h => h) (Or.inl ⟨by rfl, ?hy_21⟩) (by assumption) ?r_21
            case hy_21 => (intro w_ hS_; (try dsimp only at hS_); go_simp; try with_reducible rfl)
            try simp only [Act.put, List.setIfInBounds_toArray, List.set_cons_zero, List.set_cons_succ]
            refine wpAnyH_take (i := 9) (oi := ⟨_, _, _, _, _, _⟩) (v := ?v_22) rfl (by kernel_rfl) (by kernel_rfl) (by kernel_rfl) (fun _ _ _ h => h) (Or.inl ⟨by rfl, ?hy_22⟩) (by assumption) ?r_22
            case hy_22 => (intro w_ hS_; (try dsimp only at hS_); go_simp; try with_reducible rfl)
            try simp only [Act.put, List.setIfInBounds_toArray, List.set_cons_zero, List.set_cons_succ]
            refine wpAnyH_take (i := 12) (oi := ⟨_, _, _, _, _, _⟩) (v := ?v_23) rfl (by kernel_rfl) (by kernel_rfl) (by kernel_rfl) (fun _ _ _ h => h) (Or.inl ⟨by rfl, ?hy_23⟩) (by assumption) ?r_23
            case hy_23 => (intro w_ hS_; (try dsimp only at hS_); go_simp; try with_reducible rfl)
            try simp only [Act.put, List.setIfInBounds_toArray, List.set_cons_zero, List.set_cons_succ]
            refine wpAnyH_take (i := 13) (oi := ⟨_, _, _, _, _, _⟩) (v := ?v_24) rfl (by kernel_rfl) (by kernel_rfl) (by kernel_rfl) (fun _ _ _ h => h) (Or.inl ⟨by rfl, ?hy_24⟩) (by assumption) ?r_24
            case hy_24 => (intro w_ hS_; (try dsimp only at hS_); go_simp; try with_reducible rfl)
            try simp only [Act.put, List.setIfInBounds_toArray, List.set_cons_zero, List.set_cons_succ]
            refine wpAnyH_take (i := 14) (oi := ⟨_, _, _, _, _, _⟩) (v := ?v_25) rfl (by kernel_rfl) (by kernel_rfl) (by kernel_rfl) (fun _ _ _ h => h) (Or.inl ⟨by rfl, ?hy_25⟩) (by assumption) ?r_25
            case hy_25 => (intro w_ hS_; (try dsimp only at hS_); go_simp; try with_reducible rfl)
            try simp only [Act.put, List.setIfInBounds_toArray, List.set_cons_zero, List.set_cons_succ]
            refine wpAnyH_ready (rs := [0, 10]) (by kernel_rfl) (by simp) ?_
            refine AllReadyH.cons (o := ⟨_, _, _, _, _, _⟩) rfl (fun K hK => ?_) ?_
            · go_simp
              refine hK.out _ _ ?_ (fun hHeld => ?_)
              · (try dsimp only); (first | assumption | exact sk_mk (below_drew (Below.refl _ _)) | (refine sk_mk (Below.alloc (And.right (by assumption)) (sk_size (by assumption)) _)) | exact sk_app (by assumption) (by assumption) (sk_size (by assumption)))
              clear hK K
              try simp only [Act.put, List.setIfInBounds_toArray, List.set_cons_zero, List.set_cons_succ]
              refine wpAnyH_ready (rs := [4, 10]) (by kernel_rfl) (by simp) ?_
              refine AllReadyH.cons (o := ⟨_, _, _, _, _, _⟩) rfl (fun K hK => ?_) ?_
              · (first | (refine step_i (s := .tmp 49) (x := .tmp 52) rfl rfl _ rfl (xs := []) Owns.nil rfl (sk_reads (by assumption) rI) (by omega) (Nat.le_refl _) ?_; intro v1 wa o1 k1 _; have kc := k1.all; have zk := k1.hsize) | (refine step_i (s := .tmp 53) (x := .tmp 59) rfl rfl _ rfl (by first | exact o1 | exact o1.alloc _) rfl (readsI1 (x := id) (by simp [go_sem, kc])) (by omega) (by simp at zk ⊢ <;> omega) ?_; intro v2 wb o2 k2 _; have zk2 := k2.hsize) | (refine step_i (B := 0) (s := .tmp 60) (x := .tmp 63) rfl rfl _ rfl o2 rfl (news := []) Reads.none_ (by omega) (by simp at zk zk2 ⊢ <;> omega) ?_; intro v3 wd o3 k3 _))
                refine hK.out _ _ ?_ (fun hHeld => ?_)
                · (try dsimp only); (first | assumption | exact sk_mk (below_drew (Below.refl _ _)) | (refine sk_mk (Below.alloc (And.right (by assumption)) (sk_size (by assumption)) _)) | exact sk_app (by assumption) (by assumption) (sk_size (by assumption)))
                clear hK K
                try simp only [Act.put, List.setIfInBounds_toArray, List.set_cons_zero, List.set_cons_succ]
                refine wpAnyH_ready (rs := [10]) (by kernel_rfl) (by simp) ?_
                refine AllReadyH.cons (o := ⟨_, _, _, _, _, _⟩) rfl (fun K hK => ?_) AllReadyH.nil
                go_simp
                refine hK.out _ _ ?_ (fun hHeld => ?_)
                · (try dsimp only); (first | assumption | exact sk_mk (below_drew (Below.refl _ _)) | (refine sk_mk (Below.alloc (And.right (by assumption)) (sk_size (by assumption)) _)) | exact sk_app (by assumption) (by assumption) (sk_size (by assumption)))
                clear hK K
                try simp only [Act.put, List.setIfInBounds_toArray, List.set_cons_zero, List.set_cons_succ]
                refine wpAnyH_ready (rs := [11]) (by kernel_rfl) (by simp) ?_
                refine AllReadyH.cons (o := ⟨_, _, _, _, _, _⟩) rfl (fun K hK => ?_) AllReadyH.nil
                (first | (refine step_i (s := .tmp 49) (x := .tmp 52) rfl rfl _ rfl (xs := []) Owns.nil rfl (sk_reads (by assumption) rI) (by omega) (Nat.le_refl _) ?_; intro v1 wa o1 k1 _; have kc := k1.all; have zk := k1.hsize) | (refine step_i (s := .tmp 53) (x := .tmp 59) rfl rfl _ rfl (by first | exact o1 | exact o1.alloc _) rfl (readsI1 (x := id) (by simp [go_sem, kc])) (by omega) (by simp at zk ⊢ <;> omega) ?_; intro v2 wb o2 k2 _; have zk2 := k2.hsize) | (refine step_i (B := 0) (s := .tmp 60) (x := .tmp 63) rfl rfl _ rfl o2 rfl (news := []) Reads.none_ (by omega) (by simp at zk zk2 ⊢ <;> omega) ?_; intro v3 wd o3 k3 _))
                refine hK.out _ _ ?_ (fun hHeld => ?_)
                · (try dsimp only); (first | assumption | exact sk_mk (below_drew (Below.refl _ _)) | (refine sk_mk (Below.alloc (And.right (by assumption)) (sk_size (by assumption)) _)) | exact sk_app (by assumption) (by assumption) (sk_size (by assumption)))
                clear hK K
                try simp only [Act.put, List.setIfInBounds_toArray, List.set_cons_zero, List.set_cons_succ]
                refine wpAnyH_ready (rs := [15]) (by kernel_rfl) (by simp) ?_
                refine AllReadyH.cons (o := ⟨_, _, _, _, _, _⟩) rfl (fun K hK => ?_) AllReadyH.nil
                (first | (refine step_i (s := .tmp 49) (x := .tmp 52) rfl rfl _ rfl (xs := []) Owns.nil rfl (sk_reads (by assumption) rI) (by omega) (Nat.le_refl _) ?_; intro v1 wa o1 k1 _; have kc := k1.all; have zk := k1.hsize) | (refine step_i (s := .tmp 53) (x := .tmp 59) rfl rfl _ rfl (by first | exact o1 | exact o1.alloc _) rfl (readsI1 (x := id) (by simp [go_sem, kc])) (by omega) (by simp at zk ⊢ <;> omega) ?_; intro v2 wb o2 k2 _; have zk2 := k2.hsize) | (refine step_i (B := 0) (s := .tmp 60) (x := .tmp 63) rfl rfl _ rfl o2 rfl (news := []) Reads.none_ (by omega) (by simp at zk zk2 ⊢ <;> omega) ?_; intro v3 wd o3 k3 _))
                refine hK.out _ _ ?_ (fun hHeld => ?_)
                · (try dsimp only); (first | assumption | exact sk_mk (below_drew (Below.refl _ _)) | (refine sk_mk (Below.alloc (And.right (by assumption)) (sk_size (by assumption)) _)) | exact sk_app (by assumption) (by assumption) (sk_size (by assumption)))
                clear hK K
                try simp only [Act.put, List.setIfInBounds_toArray, List.set_cons_zero, List.set_cons_succ]
                refine wpAnyH_take (i := 16) (oi := ⟨_, _, _, _, _, _⟩) (v := ?v_26) rfl (by kernel_rfl) (by kernel_rfl) (by kernel_rfl) (fun _ _ _ h => h) (Or.inl ⟨by rfl, ?hy_26⟩) (by assumption) ?r_26
                case hy_26 => (intro w_ hS_; (try dsimp only at hS_); go_simp; try with_reducible rfl)
                try simp only [Act.put, List.setIfInBounds_toArray, List.set_cons_zero, List.set_cons_succ]
                refine wpAnyH_done (by kernel_rfl) ?_ _
                (have bf := And.right (by assumption : (∀ b o, b < wy.heap.size → World.cell? _ ⟨b, o, none⟩ = wy.cell? ⟨b, o, none⟩) ∧ Below wy.heap.size wy _) ; have o4 := o3.mono (B' := wy.heap.size) (by first | exact Nat.le_refl _ | exact sk_size (by assumption) | (simp; done) | (simp at *; omega) | (have hz_ : ∀ v : World, v.drew.heap.size = v.heap.size := fun _ => rfl; simp only [hz_, World.size_alloc] at *; omega)) ; have BZ := Lib.hid (BY.out.trans (bf.mono BY.out.size)) ; have OZ : Hid (Owns _ wy.heap.size 3 1 v3 (L ++ [id]).length (ints (L ++ [id]))) := Lib.hid (by simpa [hLm.out] using o4) ; clear bf o1 o2 o3 o4 k1 k2 k3 kc zk zk2 ; go_wp2_with (fail) ; refine (qf.out (rs.set i r3) (i + 1) J3.out _ ⟨(O3.out.below BZ.out).reads, fun q hq => (A3.out.1 q hq).up BZ.out, hn1⟩).mono ?_ ; rintro e w9 ⟨rfl, hw9⟩ ; have B9 := Lib.hid (BZ.out.trans (hw9.mono BZ.out.size)) ; have I9 := Lib.hid (OZ.out.below hw9) ; clear hw9 BZ OZ ; rw [J3.out] ; go_wp2 ; go_roundw ; (case rel => (exact ⟨i + 1, rs.set i r3, by omega, rfl, J3, SAME3, Lib.hid (O3.out.below B9.out), ⟨fun q hq => (A3.out.1 q hq).up B9.out, A3.out.2⟩, ⟨by rw [F9.out]; exact I9.out.mono (Nat.le_trans B3.out.size BY.out.size), fun g e1 e2 => by simp only [Option.some.injEq, Addr.mk.injEq, and_true] at e1; have := I9.out.own_ge (by simp) _ e2; omega⟩, Lib.hid (B3.out.trans (B9.out.mono B3.out.size))⟩)) ; (case measure => rcases MS.out with h | ⟨j, h, h1, h2⟩ <;> rw [h] <;> (first | (show fuelD n (-1) < fuelD n (i : Int); rw [fuelD_neg, fuelD_nat]; omega) | (show fuelD n ((j : Nat) : Int) < fuelD n (i : Int); rw [fuelD_nat, fuelD_nat]; omega))))
              refine AllReadyH.cons (o := ⟨_, _, _, _, _, _⟩) rfl (fun K hK => ?_) AllReadyH.nil
              go_simp
              refine hK.out _ _ ?_ (fun hHeld => ?_)
              · (try dsimp only); (first | assumption | exact sk_mk (below_drew (Below.refl _ _)) | (refine sk_mk (Below.alloc (And.right (by assumption)) (sk_size (by assumption)) _)) | exact sk_app (by assumption) (by assumption) (sk_size (by assumption)))
              clear hK K
              try simp only [Act.put, List.setIfInBounds_toArray, List.set_cons_zero, List.set_cons_succ]
              refine wpAnyH_ready (rs := [4]) (by kernel_rfl) (by simp) ?_
              refine AllReadyH.cons (o := ⟨_, _, _, _, _, _⟩) rfl (fun K hK => ?_) AllReadyH.nil
              (first | (refine step_i (s := .tmp 49) (x := .tmp 52) rfl rfl _ rfl (xs := []) Owns.nil rfl (sk_reads (by assumption) rI) (by omega) (Nat.le_refl _) ?_; intro v1 wa o1 k1 _; have kc := k1.all; have zk := k1.hsize) | (refine step_i (s := .tmp 53) (x := .tmp 59) rfl rfl _ rfl (by first | exact o1 | exact o1.alloc _) rfl (readsI1 (x := id) (by simp [go_sem, kc])) (by omega) (by simp at zk ⊢ <;> omega) ?_; intro v2 wb o2 k2 _; have zk2 := k2.hsize) | (refine step_i (B := 0) (s := .tmp 60) (x := .tmp 63) rfl rfl _ rfl o2 rfl (news := []) Reads.none_ (by omega) (by simp at zk zk2 ⊢ <;> omega) ?_; intro v3 wd o3 k3 _))
              refine hK.out _ _ ?_ (fun hHeld => ?_)
              · (try dsimp only); (first | assumption | exact sk_mk (below_drew (Below.refl _ _)) | (refine sk_mk (Below.alloc (And.right (by assumption)) (sk_size (by assumption)) _)) | exact sk_app (by assumption) (by assumption) (sk_size (by assumption)))
              clear hK K
              try simp only [Act.put, List.setIfInBounds_toArray, List.set_cons_zero, List.set_cons_succ]
              refine wpAnyH_ready (rs := [11]) (by kernel_rfl) (by simp) ?_
              refine AllReadyH.cons (o := ⟨_, _, _, _, _, _⟩) rfl (fun K hK => ?_) AllReadyH.nil
              (first | (refine step_i (s := .tmp 49) (x := .tmp 52) rfl rfl _ rfl (xs := []) Owns.nil rfl (sk_reads (by assumption) rI) (by omega) (Nat.le_refl _) ?_; intro v1 wa o1 k1 _; have kc := k1.all; have zk := k1.hsize) | (refine step_i (s := .tmp 53) (x := .tmp 59) rfl rfl _ rfl (by first | exact o1 | exact o1.alloc _) rfl (readsI1 (x := id) (by simp [go_sem, kc])) (by omega) (by simp at zk ⊢ <;> omega) ?_; intro v2 wb o2 k2 _; have zk2 := k2.hsize) | (refine step_i (B := 0) (s := .tmp 60) (x := .tmp 63) rfl rfl _ rfl o2 rfl (news := []) Reads.none_ (by omega) (by simp at zk zk2 ⊢ <;> omega) ?_; intro v3 wd o3 k3 _))
              refine hK.out _ _ ?_ (fun hHeld => ?_)
              · (try dsimp only); (first | assumption | exact sk_mk (below_drew (Below.refl _ _)) | (refine sk_mk (Below.alloc (And.right (by assumption)) (sk_size (by assumption)) _)) | exact sk_app (by assumption) (by assumption) (sk_size (by assumption)))
              clear hK K
              try simp only [Act.put, List.setIfInBounds_toArray, List.set_cons_zero, List.set_cons_succ]
              refine wpAnyH_ready (rs := [15]) (by kernel_rfl) (by simp) ?_
              refine AllReadyH.cons (o := ⟨_, _, _, _, _, _⟩) rfl (fun K hK => ?_) AllReadyH.nil
              (first | (refine step_i (s := .tmp 49) (x := .tmp 52) rfl rfl _ rfl (xs := []) Owns.nil rfl (sk_reads (by assumption) rI) (by omega) (Nat.le_refl _) ?_; intro v1 wa o1 k1 _; have kc := k1.all; have zk := k1.hsize) | (refine step_i (s := .tmp 53) (x := .tmp 59) rfl rfl _ rfl (by first | exact o1 | exact o1.alloc _) rfl (readsI1 (x := id) (by simp [go_sem, kc])) (by omega) (by simp at zk ⊢ <;> omega) ?_; intro v2 wb o2 k2 _; have zk2 := k2.hsize) | (refine step_i (B := 0) (s := .tmp 60) (x := .tmp 63) rfl rfl _ rfl o2 rfl (news := []) Reads.none_ (by omega) (by simp at zk zk2 ⊢ <;> omega) ?_; intro v3 wd o3 k3 _))
              refine hK.out _ _ ?_ (fun hHeld => ?_)
              · (try dsimp only); (first | assumption | exact sk_mk (below_drew (Below.refl _ _)) | (refine sk_mk (Below.alloc (And.right (by assumption)) (sk_size (by assumption)) _)) | exact sk_app (by assumption) (by assumption) (sk_size (by assumption)))
              clear hK K
              try simp only [Act.put, List.setIfInBounds_toArray, List.set_cons_zero, List.set_cons_succ]
              refine wpAnyH_take (i := 16) (oi := ⟨_, _, _, _, _, _⟩) (v := ?v_27) rfl (by kernel_rfl) (by kernel_rfl) (by kernel_rfl) (fun _ _ _ h => h) (Or.inl ⟨by rfl, ?hy_27⟩) (by assumption) ?r_27
              case hy_27 => (intro w_ hS_; (try dsimp only at hS_); go_simp; try with_reducible rfl)
              try simp only [Act.put, List.setIfInBounds_toArray, List.set_cons_zero, List.set_cons_succ]
              refine wpAnyH_done (by kernel_rfl) ?_ _
              (have bf := And.right (by assumption : (∀ b o, b < wy.heap.size → World.cell? _ ⟨b, o, none⟩ = wy.cell? ⟨b, o, none⟩) ∧ Below wy.heap.size wy _) ; have o4 := o3.mono (B' := wy.heap.size) (by first | exact Nat.le_refl _ | exact sk_size (by assumption) | (simp; done) | (simp at *; omega) | (have hz_ : ∀ v : World, v.drew.heap.size = v.heap.size := fun _ => rfl; simp only [hz_, World.size_alloc] at *; omega)) ; have BZ := Lib.hid (BY.out.trans (bf.mono BY.out.size)) ; have OZ : Hid (Owns _ wy.heap.size 3 1 v3 (L ++ [id]).length (ints (L ++ [id]))) := Lib.hid (by simpa [hLm.out] using o4) ; clear bf o1 o2 o3 o4 k1 k2 k3 kc zk zk2 ; go_wp2_with (fail) ; refine (qf.out (rs.set i r3) (i + 1) J3.out _ ⟨(O3.out.below BZ.out).reads, fun q hq => (A3.out.1 q hq).up BZ.out, hn1⟩).mono ?_ ; rintro e w9 ⟨rfl, hw9⟩ ; have B9 := Lib.hid (BZ.out.trans (hw9.mono BZ.out.size)) ; have I9 := Lib.hid (OZ.out.below hw9) ; clear hw9 BZ OZ ; rw [J3.out] ; go_wp2 ; go_roundw ; (case rel => (exact ⟨i + 1, rs.set i r3, by omega, rfl, J3, SAME3, Lib.hid (O3.out.below B9.out), ⟨fun q hq => (A3.out.1 q hq).up B9.out, A3.out.2⟩, ⟨by rw [F9.out]; exact I9.out.mono (Nat.le_trans B3.out.size BY.out.size), fun g e1 e2 => by simp only [Option.some.injEq, Addr.mk.injEq, and_true] at e1; have := I9.out.own_ge (by simp) _ e2; omega⟩, Lib.hid (B3.out.trans (B9.out.mono B3.out.size))⟩)) ; (case measure => rcases MS.out with h | ⟨j, h, h1, h2⟩ <;> rw [h] <;> (first | (show fuelD n (-1) < fuelD n (i : Int); rw [fuelD_neg, fuelD_nat]; omega) | (show fuelD n ((j : Nat) : Int) < fuelD n (i : Int); rw [fuelD_nat, fuelD_nat]; omega))))
            refine AllReadyH.cons (o := ⟨_, _, _, _, _, _⟩) rfl (fun K hK => ?_) AllReadyH.nil
            go_simp
            refine hK.out _ _ ?_ (fun hHeld => ?_)
            · (try dsimp only); (first | assumption | exact sk_mk (below_drew (Below.refl _ _)) | (refine sk_mk (Below.alloc (And.right (by assumption)) (sk_size (by assumption)) _)) | exact sk_app (by assumption) (by assumption) (sk_size (by assumption)))
            clear hK K
            try simp only [Act.put, List.setIfInBounds_toArray, List.set_cons_zero, List.set_cons_succ]
            refine wpAnyH_ready (rs := [0]) (by kernel_rfl) (by simp) ?_
            refine AllReadyH.cons (o := ⟨_, _, _, _, _, _⟩) rfl (fun K hK => ?_) AllReadyH.nil
            go_simp
            refine hK.out _ _ ?_ (fun hHeld => ?_)
            · (try dsimp only); (first | assumption | exact sk_mk (below_drew (Below.refl _ _)) | (refine sk_mk (Below.alloc (And.right (by assumption)) (sk_size (by assumption)) _)) | exact sk_app (by assumption) (by assumption) (sk_size (by assumption)))
            clear hK K
            try simp only [Act.put, List.setIfInBounds_toArray, List.set_cons_zero, List.set_cons_succ]
            refine wpAnyH_ready (rs := [4]) (by kernel_rfl) (by simp) ?_
            refine AllReadyH.cons (o := ⟨_, _, _, _, _, _⟩) rfl (fun K hK => ?_) AllReadyH.nil
            (first | (refine step_i (s := .tmp 49) (x := .tmp 52) rfl rfl _ rfl (xs := []) Owns.nil rfl (sk_reads (by assumption) rI) (by omega) (Nat.le_refl _) ?_; intro v1 wa o1 k1 _; have kc := k1.all; have zk := k1.hsize) | (refine step_i (s := .tmp 53) (x := .tmp 59) rfl rfl _ rfl (by first | exact o1 | exact o1.alloc _) rfl (readsI1 (x := id) (by simp [go_sem, kc])) (by omega) (by simp at zk ⊢ <;> omega) ?_; intro v2 wb o2 k2 _; have zk2 := k2.hsize) | (refine step_i (B := 0) (s := .tmp 60) (x := .tmp 63) rfl rfl _ rfl o2 rfl (news := []) Reads.none_ (by omega) (by simp at zk zk2 ⊢ <;> omega) ?_; intro v3 wd o3 k3 _))
            refine hK.out _ _ ?_ (fun hHeld => ?_)
            · (try dsimp only); (first | assumption | exact sk_mk (below_drew (Below.refl _ _)) | (refine sk_mk (Below.alloc (And.right (by assumption)) (sk_size (by assumption)) _)) | exact sk_app (by assumption) (by assumption) (sk_size (by assumption)))
            clear hK K
            try simp only [Act.put, List.setIfInBounds_toArray, List.set_cons_zero, List.set_cons_succ]
            refine wpAnyH_ready (rs := [11]) (by kernel_rfl) (by simp) ?_
            refine AllReadyH.cons (o := ⟨_, _, _, _, _, _⟩) rfl (fun K hK => ?_) AllReadyH.nil
            (first | (refine step_i (s := .tmp 49) (x := .tmp 52) rfl rfl _ rfl (xs := []) Owns.nil rfl (sk_reads (by assumption) rI) (by omega) (Nat.le_refl _) ?_; intro v1 wa o1 k1 _; have kc := k1.all; have zk := k1.hsize) | (refine step_i (s := .tmp 53) (x := .tmp 59) rfl rfl _ rfl (by first | exact o1 | exact o1.alloc _) rfl (readsI1 (x := id) (by simp [go_sem, kc])) (by omega) (by simp at zk ⊢ <;> omega) ?_; intro v2 wb o2 k2 _; have zk2 := k2.hsize) | (refine step_i (B := 0) (s := .tmp 60) (x := .tmp 63) rfl rfl _ rfl o2 rfl (news := []) Reads.none_ (by omega) (by simp at zk zk2 ⊢ <;> omega) ?_; intro v3 wd o3 k3 _))
            refine hK.out _ _ ?_ (fun hHeld => ?_)
            · (try dsimp only); (first | assumption | exact sk_mk (below_drew (Below.refl _ _)) | (refine sk_mk (Below.alloc (And.right (by assumption)) (sk_size (by assumption)) _)) | exact sk_app (by assumption) (by assumption) (sk_size (by assumption)))
            clear hK K
            try simp only [Act.put, List.setIfInBounds_toArray, List.set_cons_zero, List.set_cons_succ]
            refine wpAnyH_ready (rs := [15]) (by kernel_rfl) (by simp) ?_
            refine AllReadyH.cons (o := ⟨_, _, _, _, _, _⟩) rfl (fun K hK => ?_) AllReadyH.nil
            (first | (refine step_i (s := .tmp 49) (x := .tmp 52) rfl rfl _ rfl (xs := []) Owns.nil rfl (sk_reads (by assumption) rI) (by omega) (Nat.le_refl _) ?_; intro v1 wa o1 k1 _; have kc := k1.all; have zk := k1.hsize) | (refine step_i (s := .tmp 53) (x := .tmp 59) rfl rfl _ rfl (by first | exact o1 | exact o1.alloc _) rfl (readsI1 (x := id) (by simp [go_sem, kc])) (by omega) (by simp at zk ⊢ <;> omega) ?_; intro v2 wb o2 k2 _; have zk2 := k2.hsize) | (refine step_i (B := 0) (s := .tmp 60) (x := .tmp 63) rfl rfl _ rfl o2 rfl (news := []) Reads.none_ (by omega) (by simp at zk zk2 ⊢ <;> omega) ?_; intro v3 wd o3 k3 _))
            refine hK.out _ _ ?_ (fun hHeld => ?_)
            · (try dsimp only); (first | assumption | exact sk_mk (below_drew (Below.refl _ _)) | (refine sk_mk (Below.alloc (And.right (by assumption)) (sk_size (by assumption)) _)) | exact sk_app (by assumption) (by assumption) (sk_size (by assumption)))
            clear hK K
            try simp only [Act.put, List.setIfInBounds_toArray, List.set_cons_zero, List.set_cons_succ]
            refine wpAnyH_take (i := 16) (oi := ⟨_, _, _, _, _, _⟩) (v := ?v_28) rfl (by kernel_rfl) (by kernel_rfl) (by kernel_rfl) (fun _ _ _ h => h) (Or.inl ⟨by rfl, ?hy_28⟩) (by assumption) ?r_28
            case hy_28 => (intro w_ hS_; (try dsimp only at hS_); go_simp; try with_reducible rfl)
            try simp only [Act.put, List.setIfInBounds_toArray, List.set_cons_zero, List.set_cons_succ]
            refine wpAnyH_done (by kernel_rfl) ?_ _
            (have bf := And.right (by assumption : (∀ b o, b < wy.heap.size → World.cell? _ ⟨b, o, none⟩ = wy.cell? ⟨b, o, none⟩) ∧ Below wy.heap.size wy _) ; have o4 := o3.mono (B' := wy.heap.size) (by first | exact Nat.le_refl _ | exact sk_size (by assumption) | (simp; done) | (simp at *; omega) | (have hz_ : ∀ v : World, v.drew.heap.size = v.heap.size := fun _ => rfl; simp only [hz_, World.size_alloc] at *; omega)) ; have BZ := Lib.hid (BY.out.trans (bf.mono BY.out.size)) ; have OZ : Hid (Owns _ wy.heap.size 3 1 v3 (L ++ [id]).length (ints (L ++ [id]))) := Lib.hid (by simpa [hLm.out] using o4) ; clear bf o1 o2 o3 o4 k1 k2 k3 kc zk zk2 ; go_wp2_with (fail) ; refine (qf.out (rs.set i r3) (i + 1) J3.out _ ⟨(O3.out.below BZ.out).reads, fun q hq => (A3.out.1 q hq).up BZ.out, hn1⟩).mono ?_ ; rintro e w9 ⟨rfl, hw9⟩ ; have B9 := Lib.hid (BZ.out.trans (hw9.mono BZ.out.size)) ; have I9 := Lib.hid (OZ.out.below hw9) ; clear hw9 BZ OZ ; rw [J3.out] ; go_wp2 ; go_roundw ; (case rel => (exact ⟨i + 1, rs.set i r3, by omega, rfl, J3, SAME3, Lib.hid (O3.out.below B9.out), ⟨fun q hq => (A3.out.1 q hq).up B9.out, A3.out.2⟩, ⟨by rw [F9.out]; exact I9.out.mono (Nat.le_trans B3.out.size BY.out.size), fun g e1 e2 => by simp only [Option.some.injEq, Addr.mk.injEq, and_true] at e1; have := I9.out.own_ge (by simp) _ e2; omega⟩, Lib.hid (B3.out.trans (B9.out.mono B3.out.size))⟩)) ; (case measure => rcases MS.out with h | ⟨j, h, h1, h2⟩ <;> rw [h] <;> (first | (show fuelD n (-1) < fuelD n (i : Int); rw [fuelD_neg, fuelD_nat]; omega) | (show fuelD n ((j : Nat) : Int) < fuelD n (i : Int); rw [fuelD_nat, fuelD_nat]; omega))))
def twoA (s : Int) : Jb := ⟨1, ⟨#[97]⟩, ⟨#[117]⟩, ⟨#[120]⟩, ⟨1, [(2, 60)], 0, 0, 0⟩, 0, [], s, false, 0, -1, 0, 0, 0, 0, 0⟩
def twoB (h : Int) : Jb := ⟨2, ⟨#[97]⟩, ⟨#[117]⟩, ⟨#[120]⟩, ⟨1, [(2, 60)], 0, 0, 0⟩, 0, [(h, 1)], 1, false, 0, -1, 0, 0, 0, 0, 0⟩
theorem bs_fill2 {cs ds : Array Value} (h : 20 = cs.size) (h2 : 20 = ds.size) : Instr.fill (fun i => some (i * 20, 20)) ((Array.range (2 * 20)).map ((Value.agg (jbA noJ none 0 none 0)).cells[· % (Value.agg (jbA noJ none 0 none 0)).cells.size]!)) [(0, .agg cs), (1, .agg ds)] = some (cs ++ ds) := by
  obtain ⟨l⟩ := cs
  obtain ⟨m⟩ := ds
  obtain ⟨a0, a1, a2, a3, a4, a5, a6, a7, a8, a9, c0, c1, c2, c3, c4, c5, c6, c7, c8, c9, rfl⟩ := twenty (by simpa using h.symm)
  obtain ⟨d0, d1, d2, d3, d4, d5, d6, d7, d8, d9, e0, e1, e2, e3, e4, e5, e6, e7, e8, e9, rfl⟩ := twenty (by simpa using h2.symm)
  kernel_rfl
theorem list_bs2 {w : World} {ops : Array Oper} {rest : List Oper} {o : Oper} {a : Act} {Q : Exit → Act → World → Prop} {x y : Operand} {cs ds : Array Value}
    (hgd : o.guard = none) (ho : o.op = .buildSlice 43 2 #[(0, x), (1, y)]) (hx : a.eval x = .agg cs) (hy : a.eval y = .agg ds) (hcs : 20 = cs.size) (hds : 20 = ds.size)
    (h : wpList Tryz.prog ops Q rest (a.put o.dst (.slice (some ⟨w.heap.size, 0, none⟩) 2 2)) (w.alloc (.cells (cs ++ ds) 28))) : wpList Tryz.prog ops Q (o :: rest) a w := by
  refine wpList_plain hgd fun K hK => ?_
  obtain ⟨i0, hi0, hz0, hz1, hz2⟩ := info_parts Tryz.infoJ
  refine wp_buildSlice 43 28 2 #[(0, x), (1, y)] ho (cs ++ ds) i0 _ Tryz.underlying43 hi0 hz0 (by rw [hz1]; decide) (by rw [hz1]; decide) ?_ (hK _ _ h)
  rw [hz1]
  simp only [List.map_toArray, List.map_cons, List.map_nil, hx, hy]
  exact bs_fill2 hcs hds
set_option linter.unusedSimpArgs false in
set_option maxHeartbeats 800000 in
set_option maxRecDepth 100000 in
theorem two_any (s h : Int) (w : World) : Calls Tryz.prog 84 #[.int .i64 s, .int .i64 h] w fun e w' => ∃ R rs, e = .returned (.slice R 2 2) ∧ jobs rs = [twoA s, twoB h] ∧ Hid (TbAt w' w'.heap.size R 2 rs) ∧ Below w.heap.size w w' := by
  have H1 := boxed (w.alloc (.cells #[.int .i64 2, .int .i64 60] 103)) (#[.int .i64 1, .string ⟨#[97]⟩, .string ⟨#[117]⟩, .string ⟨#[120]⟩, .int .i64 1, .slice (some ⟨w.heap.size, 0, none⟩) 1 1, .int .i64 0, .int .i64 0, .int .i64 0, .int .i64 0, .slice none 0 0, .int .i64 s, .bool false, .int .i64 0, .int .i64 (-1), .int .i64 0, .int .i64 0, .int .i64 0, .int .u64 0, .int .i64 0])
  simp only [World.size_alloc] at H1
  obtain ⟨W1, hs1, j1, b1, z1⟩ := H1
  obtain ⟨W2, hs2, j2, b2, z2⟩ := boxed W1 (#[.int .i64 1, .string ⟨#[97]⟩, .string ⟨#[117]⟩, .string ⟨#[120]⟩, .int .i64 1, .slice (some ⟨w.heap.size, 0, none⟩) 1 1, .int .i64 0, .int .i64 0, .int .i64 0, .int .i64 0, .slice none 0 0, .int .i64 s, .bool false, .int .i64 0, .int .i64 (-1), .int .i64 0, .int .i64 0, .int .i64 0, .int .u64 0, .int .i64 0])
  have HS1 := Lib.hid hs1
  have HS2 := Lib.hid hs2
  have J1 := Lib.hid j1
  have J2 := Lib.hid j2
  have kp3 : Kp W2.heap.size (some W1.heap.size) W2 (((W2.setCell ⟨W1.heap.size, 0, none⟩ (.int .i64 2)).setCell ⟨W1.heap.size, 11, none⟩ (.int .i64 1)).setCell ⟨W1.heap.size, 10, none⟩ (.slice (some ⟨W2.heap.size, 0, none⟩) 1 1)) := (((Kp.of_below (Below.refl _ _)).set15).set15).set15
  have v3s : (((W2.setCell ⟨W1.heap.size, 0, none⟩ (.int .i64 2)).setCell ⟨W1.heap.size, 11, none⟩ (.int .i64 1)).setCell ⟨W1.heap.size, 10, none⟩ (.slice (some ⟨W2.heap.size, 0, none⟩) 1 1)).heap.size = W2.heap.size := by rw [set_size, set_size, set_size]
  have kp : Kp W2.heap.size (some W1.heap.size) W2 ((((W2.setCell ⟨W1.heap.size, 0, none⟩ (.int .i64 2)).setCell ⟨W1.heap.size, 11, none⟩ (.int .i64 1)).setCell ⟨W1.heap.size, 10, none⟩ (.slice (some ⟨W2.heap.size, 0, none⟩) 1 1)).alloc (.cells #[.int .i64 h, .int .i64 1] 85)) := kp3.trans (Kp.of_below ((bx0 (w := (((W2.setCell ⟨W1.heap.size, 0, none⟩ (.int .i64 2)).setCell ⟨W1.heap.size, 11, none⟩ (.int .i64 1)).setCell ⟨W1.heap.size, 10, none⟩ (.slice (some ⟨W2.heap.size, 0, none⟩) 1 1)))).mono (by rw [v3s]; exact Nat.le_refl _)))
  have K1 : Hid (((((W2.setCell ⟨W1.heap.size, 0, none⟩ (.int .i64 2)).setCell ⟨W1.heap.size, 11, none⟩ (.int .i64 1)).setCell ⟨W1.heap.size, 10, none⟩ (.slice (some ⟨W2.heap.size, 0, none⟩) 1 1)).alloc (.cells #[.int .i64 h, .int .i64 1] 85)).heap[w.heap.size + 1]? = some (.cells #[.int .i64 1, .string ⟨#[97]⟩, .string ⟨#[117]⟩, .string ⟨#[120]⟩, .int .i64 1, .slice (some ⟨w.heap.size, 0, none⟩) 1 1, .int .i64 0, .int .i64 0, .int .i64 0, .int .i64 0, .slice none 0 0, .int .i64 s, .bool false, .int .i64 0, .int .i64 (-1), .int .i64 0, .int .i64 0, .int .i64 0, .int .u64 0, .int .i64 0] 28 (0, 0))) := (kp.block _ (by omega) (by intro e; have := Option.some.inj e; omega)).trans ((b2.block _ z1).trans j1)
  have K2 : Hid (((((W2.setCell ⟨W1.heap.size, 0, none⟩ (.int .i64 2)).setCell ⟨W1.heap.size, 11, none⟩ (.int .i64 1)).setCell ⟨W1.heap.size, 10, none⟩ (.slice (some ⟨W2.heap.size, 0, none⟩) 1 1)).alloc (.cells #[.int .i64 h, .int .i64 1] 85)).heap[W1.heap.size]? = some (.cells #[.int .i64 2, .string ⟨#[97]⟩, .string ⟨#[117]⟩, .string ⟨#[120]⟩, .int .i64 1, .slice (some ⟨w.heap.size, 0, none⟩) 1 1, .int .i64 0, .int .i64 0, .int .i64 0, .int .i64 0, .slice (some ⟨W2.heap.size, 0, none⟩) 1 1, .int .i64 1, .bool false, .int .i64 0, .int .i64 (-1), .int .i64 0, .int .i64 0, .int .i64 0, .int .u64 0, .int .i64 0] 28 (0, 0))) := ((bx0 (w := (((W2.setCell ⟨W1.heap.size, 0, none⟩ (.int .i64 2)).setCell ⟨W1.heap.size, 11, none⟩ (.int .i64 1)).setCell ⟨W1.heap.size, 10, none⟩ (.slice (some ⟨W2.heap.size, 0, none⟩) 1 1)))).block _ (by rw [v3s]; exact z2)).trans (setCell_blk (setCell_blk (setCell_blk j2)))
  have kpa : Reads ((((W2.setCell ⟨W1.heap.size, 0, none⟩ (.int .i64 2)).setCell ⟨W1.heap.size, 11, none⟩ (.int .i64 1)).setCell ⟨W1.heap.size, 10, none⟩ (.slice (some ⟨W2.heap.size, 0, none⟩) 1 1)).alloc (.cells #[.int .i64 h, .int .i64 1] 85)) ((((W2.setCell ⟨W1.heap.size, 0, none⟩ (.int .i64 2)).setCell ⟨W1.heap.size, 11, none⟩ (.int .i64 1)).setCell ⟨W1.heap.size, 10, none⟩ (.slice (some ⟨W2.heap.size, 0, none⟩) 1 1)).alloc (.cells #[.int .i64 h, .int .i64 1] 85)).heap.size 2 (some ⟨W2.heap.size, 0, none⟩) 1 (recs prC [(h, (1 : Int))]) := by
    have h5 := (Reads.madeRec (enc := prC) (((W2.setCell ⟨W1.heap.size, 0, none⟩ (.int .i64 2)).setCell ⟨W1.heap.size, 11, none⟩ (.int .i64 1)).setCell ⟨W1.heap.size, 10, none⟩ (.slice (some ⟨W2.heap.size, 0, none⟩) 1 1)) (h, (1 : Int)) 85 rfl).more (B' := ((((W2.setCell ⟨W1.heap.size, 0, none⟩ (.int .i64 2)).setCell ⟨W1.heap.size, 11, none⟩ (.int .i64 1)).setCell ⟨W1.heap.size, 10, none⟩ (.slice (some ⟨W2.heap.size, 0, none⟩) 1 1)).alloc (.cells #[.int .i64 h, .int .i64 1] 85)).heap.size) (by rw [World.size_alloc]; exact Nat.le_refl _)
    rw [v3s] at h5
    exact h5
  have g0 : ∀ k, W2.frozen? ⟨W1.heap.size, k, none⟩ = false := fun k => by simp [World.frozen?, j2]
  have d0 : W2.cell? ⟨W1.heap.size, 0, none⟩ = some (.int .i64 1) := (cell_of_row _ _ 0 _ _ _ j2).trans rfl
  have d11 : W2.cell? ⟨W1.heap.size, 11, none⟩ = some (.int .i64 s) := (cell_of_row _ _ 11 _ _ _ j2).trans rfl
  have d10 : W2.cell? ⟨W1.heap.size, 10, none⟩ = some (.slice none 0 0) := (cell_of_row _ _ 10 _ _ _ j2).trans rfl
  have N1 : Hid (∀ z, ((w.alloc (.cells #[.int .i64 2, .int .i64 60] 103)).alloc (.cells z 28)).heap[w.heap.size + 1]? = some (.cells z 28 (0, 0))) := Lib.hid (fun z => by have := heap_alloc_new (w.alloc (.cells #[.int .i64 2, .int .i64 60] 103)) (.cells z 28); rwa [World.size_alloc] at this)
  have I1 : Hid ((Tryz.prog.info? 28).map (·.size) = some (#[.int .i64 1, .string ⟨#[97]⟩, .string ⟨#[117]⟩, .string ⟨#[120]⟩, .int .i64 1, .slice (some ⟨w.heap.size, 0, none⟩) 1 1, .int .i64 0, .int .i64 0, .int .i64 0, .int .i64 0, .slice none 0 0, .int .i64 s, .bool false, .int .i64 0, .int .i64 (-1), .int .i64 0, .int .i64 0, .int .i64 0, .int .u64 0, .int .i64 0] : Array Value).size) := by show _ = _; kernel_rfl
  have I2 : Hid ((Tryz.prog.info? 28).map (·.size) = some (#[.int .i64 2, .string ⟨#[97]⟩, .string ⟨#[117]⟩, .string ⟨#[120]⟩, .int .i64 1, .slice (some ⟨w.heap.size, 0, none⟩) 1 1, .int .i64 0, .int .i64 0, .int .i64 0, .int .i64 0, .slice (some ⟨W2.heap.size, 0, none⟩) 1 1, .int .i64 1, .bool false, .int .i64 0, .int .i64 (-1), .int .i64 0, .int .i64 0, .int .i64 0, .int .u64 0, .int .i64 0] : Array Value).size) := by show _ = _; kernel_rfl
  have A1 : Hid ((#[.int .i64 1, .string ⟨#[97]⟩, .string ⟨#[117]⟩, .string ⟨#[120]⟩, .int .i64 1, .slice (some ⟨w.heap.size, 0, none⟩) 1 1, .int .i64 0, .int .i64 0, .int .i64 0, .int .i64 0, .slice none 0 0, .int .i64 s, .bool false, .int .i64 0, .int .i64 (-1), .int .i64 0, .int .i64 0, .int .i64 0, .int .u64 0, .int .i64 0] : Array Value).all (·.oneCell') = true) := by show _ = _; rw [List.all_toArray]; rfl
  have z12 := b2.size
  obtain ⟨cl, hcl⟩ : ∃ cl, Hid (cl = recs jrC [⟨twoA s, some ⟨w.heap.size, 0, none⟩, 1, none, 0⟩, ⟨twoB h, some ⟨w.heap.size, 0, none⟩, 1, some ⟨W2.heap.size, 0, none⟩, 1⟩]) := ⟨_, rfl⟩
  have EQ : Hid ((#[.int .i64 1, .string ⟨#[97]⟩, .string ⟨#[117]⟩, .string ⟨#[120]⟩, .int .i64 1, .slice (some ⟨w.heap.size, 0, none⟩) 1 1, .int .i64 0, .int .i64 0, .int .i64 0, .int .i64 0, .slice none 0 0, .int .i64 s, .bool false, .int .i64 0, .int .i64 (-1), .int .i64 0, .int .i64 0, .int .i64 0, .int .u64 0, .int .i64 0] ++ #[.int .i64 2, .string ⟨#[97]⟩, .string ⟨#[117]⟩, .string ⟨#[120]⟩, .int .i64 1, .slice (some ⟨w.heap.size, 0, none⟩) 1 1, .int .i64 0, .int .i64 0, .int .i64 0, .int .i64 0, .slice (some ⟨W2.heap.size, 0, none⟩) 1 1, .int .i64 1, .bool false, .int .i64 0, .int .i64 (-1), .int .i64 0, .int .i64 0, .int .i64 0, .int .u64 0, .int .i64 0] : Array Value) = cl.toArray) := by show _ = _; rw [hcl.out]; kernel_rfl
  have bA : Below (w.heap.size + 1) (w.alloc (.cells #[.int .i64 2, .int .i64 60] 103)) ((((W2.setCell ⟨W1.heap.size, 0, none⟩ (.int .i64 2)).setCell ⟨W1.heap.size, 11, none⟩ (.int .i64 1)).setCell ⟨W1.heap.size, 10, none⟩ (.slice (some ⟨W2.heap.size, 0, none⟩) 1 1)).alloc (.cells #[.int .i64 h, .int .i64 1] 85)) := (b1.trans (b2.mono (by omega))).trans (kp.below (by omega) (fun k e => by rw [← Option.some.inj e]; omega))
  have FIN : Hid (∀ V : World, Below (w.heap.size + 1) (w.alloc (.cells #[.int .i64 2, .int .i64 60] 103)) V → Reads V V.heap.size 2 (some ⟨W2.heap.size, 0, none⟩) 1 (recs prC [(h, (1 : Int))]) → ∃ rs, jobs rs = [twoA s, twoB h] ∧ Hid (TbAt (V.alloc (.cells cl.toArray 28)) (V.alloc (.cells cl.toArray 28)).heap.size (some ⟨V.heap.size, 0, none⟩) 2 rs) ∧ Below w.heap.size w (V.alloc (.cells cl.toArray 28))) := Lib.hid (fun V bA kpa => by
    have hal : Reads (w.alloc (.cells #[.int .i64 2, .int .i64 60] 103)) (w.heap.size + 1) 2 (some ⟨w.heap.size, 0, none⟩) 1 (recs prC [((2 : Int), (60 : Int))]) := Reads.madeRec (enc := prC) w ((2 : Int), (60 : Int)) 103 rfl
    have hal4 := hal.below bA
    have hdp4 := kpa
    have e2 := bA.size
    have bF := bx0 (w := V) (o := .cells cl.toArray 28)
    have hll : cl.length = 2 * 20 := by rw [hcl.out]; rfl
    refine ⟨[⟨twoA s, some ⟨w.heap.size, 0, none⟩, 1, none, 0⟩, ⟨twoB h, some ⟨w.heap.size, 0, none⟩, 1, some ⟨W2.heap.size, 0, none⟩, 1⟩], rfl, Lib.hid ⟨?_, ?_, by omega⟩, ((Below.refl w.heap.size w).alloc (Nat.le_refl _) _).trans ((bA.mono (by omega)).trans (bF.mono (by simp only [World.size_alloc] at e2; omega)))⟩
    · rw [← hcl.out]
      exact (Reads.madeN V cl 28 (n := 2) (size := 20) hll).more (by simp)
    · intro q hq
      simp only [List.mem_cons, List.not_mem_nil, or_false] at hq
      rcases hq with rfl | rfl
      · refine ⟨⟨((hal4.more (by simp only [World.size_alloc] at e2; omega)).below bF).more bF.size, Reads.none_, by show 1 ≤ 100000; decide, by show 0 ≤ 100000; decide, by show 1 ≤ 1; decide, by show 0 ≤ 0; decide⟩, ⟨by show 1 ≤ 1000000; decide, by show 1 ≤ 1000000; decide, by show 1 ≤ 1000000; decide⟩, by rw [M64_is]; show (0 : Nat) < _; decide⟩
      · refine ⟨⟨((hal4.more (by simp only [World.size_alloc] at e2; omega)).below bF).more bF.size, (hdp4.below bF).more bF.size, by show 1 ≤ 100000; decide, by show 1 ≤ 100000; decide, by show 1 ≤ 1; decide, by show 1 ≤ 1; decide⟩, ⟨by show 1 ≤ 1000000; decide, by show 1 ≤ 1000000; decide, by show 1 ≤ 1000000; decide⟩, by rw [M64_is]; show (0 : Nat) < _; decide⟩)
  obtain ⟨V, hV⟩ : ∃ V, Hid (((((W2.setCell ⟨W1.heap.size, 0, none⟩ (.int .i64 2)).setCell ⟨W1.heap.size, 11, none⟩ (.int .i64 1)).setCell ⟨W1.heap.size, 10, none⟩ (.slice (some ⟨W2.heap.size, 0, none⟩) 1 1)).alloc (.cells #[.int .i64 h, .int .i64 1] 85)) = V) := ⟨_, rfl⟩
  rw [hV.out] at K1 K2 bA kpa kp
  have BA := Lib.hid bA
  have KA := Lib.hid kpa
  clear bA
  clear hs1 hs2 j1 j2 kp kp3 kpa b1 b2 v3s
  go_enter Tryz.func84, Tryz.ntmps84
  go_upto_region 2 with (refine wpList_store_row rfl 28 _ _ rfl (w.heap.size + 1) (#[.int .i64 1, .string ⟨#[97]⟩, .string ⟨#[117]⟩, .string ⟨#[120]⟩, .int .i64 1, .slice (some ⟨w.heap.size, 0, none⟩) 1 1, .int .i64 0, .int .i64 0, .int .i64 0, .int .i64 0, .slice none 0 0, .int .i64 s, .bool false, .int .i64 0, .int .i64 (-1), .int .i64 0, .int .i64 0, .int .i64 0, .int .u64 0, .int .i64 0]) rfl rfl 28 _ (N1.out _) I1.out (by show 20 = _; rfl) A1.out ?_; rw [HS1.out])
  clear N1 HS1
  go_upto_region 3 with (first | (refine wpList_load_row rfl 28 _ rfl (w.heap.size + 1) rfl 28 _ (0, 0) _ J1.out Tryz.underlying28 rfl I1.out ?_) | (refine wpList_store_row rfl 28 _ _ rfl (W1.heap.size) (#[.int .i64 1, .string ⟨#[97]⟩, .string ⟨#[117]⟩, .string ⟨#[120]⟩, .int .i64 1, .slice (some ⟨w.heap.size, 0, none⟩) 1 1, .int .i64 0, .int .i64 0, .int .i64 0, .int .i64 0, .slice none 0 0, .int .i64 s, .bool false, .int .i64 0, .int .i64 (-1), .int .i64 0, .int .i64 0, .int .i64 0, .int .u64 0, .int .i64 0]) rfl rfl 28 _ (heap_alloc_new W1 _) I1.out (by show 20 = _; rfl) A1.out ?_; rw [HS2.out]))
  clear HS2 J1 A1 J2
  go_upto_region 4 with (fail)
  rw [hV.out]
  go_wp2_with (first | (refine wpList_load_row rfl 28 _ rfl (w.heap.size + 1) rfl 28 _ (0, 0) _ K1.out Tryz.underlying28 rfl I1.out ?_) | (refine wpList_load_row rfl 28 _ rfl (W1.heap.size) rfl 28 _ (0, 0) _ K2.out Tryz.underlying28 rfl I2.out ?_) | (refine list_bs2 rfl rfl rfl rfl rfl rfl ?_; rw [EQ.out]))
  go_ret
  obtain ⟨rs, r1, r2, r3⟩ := FIN.out _ BA.out KA.out
  exact ⟨_, rs, rfl, r1, r2, r3⟩
theorem wf_twoB (h : Int) : ∀ d ∈ (twoB h).after, wfI d.2 := by
  intro d hd
  have : d = (h, 1) := by simpa [twoB] using hd
  subst this
  show wfI 1
  exact wfI_of (by decide) (by decide)
theorem doom_two : doomP [twoA 6, twoB 2] = ([twoA 6, finD (twoB 2) 6], [2]) := by kernel_rfl
theorem met_b : metP [twoA 3, twoB 2] (twoB 2) = true := by kernel_rfl
theorem met_a : metP [twoA 6, twoB 2] (twoB 2) = false := by kernel_rfl
theorem doomed_a : doomedP [twoA 6, twoB 2] (twoB 2) = true := by kernel_rfl
theorem doomed_b : doomedP [twoA 3, twoB 2] (twoB 2) = false := by kernel_rfl
theorem elig_b : eligP [twoA 3, twoB 2] = [2] := by kernel_rfl
/-- the second of two jobs, and what later worlds read of it -/
theorem second {w : World} {R : Option Addr} {rs : List JR} {x y : Jb} (h : TbAt w w.heap.size R 2 rs) (hj : jobs rs = [x, y]) : ∃ b o r, R = some ⟨b, o, none⟩ ∧ r.x = y ∧ Hid (∀ v, Below w.heap.size w v → v.rangeAt b (o + 1 * 20) (jrC r)) ∧ Hid (∀ v, Below w.heap.size w v → JrAt v v.heap.size r) := by
  obtain ⟨b, o, r, e, hb, hx, KR, JR⟩ := h.elem (k := 1) (by omega)
  refine ⟨b, o, r, e, ?_, fun v hv => range_lower KR.out hb hv, fun v hv => JR.out.up hv⟩
  have := jobs_at hx.out
  rw [hj] at this
  exact (Option.some.inj this).symm
set_option linter.unusedSimpArgs false in
set_option maxHeartbeats 4000000 in
set_option maxRecDepth 100000 in
theorem awake16_any (w : World) : Calls Tryz.prog 37 #[] w fun e w' => e = .returned (.bool true) ∧ Below w.heap.size w w' := by
  go_enter Tryz.func37, Tryz.ntmps37
  go_wp2_with (fail)
  refine (two_any 6 2 _).mono ?_; rintro e w1 ⟨Ra, ra, rfl, ja, Ta, ba⟩
  have JA := Lib.hid ja
  have B1 := Lib.hid ba
  clear ja ba
  go_wp2_with (fail)
  refine (two_any 3 2 _).mono ?_; rintro e w2 ⟨Rb, rb, rfl, jb, Tb, bb⟩
  have JB := Lib.hid jb
  have B2 := Lib.hid bb
  clear jb bb
  have q := doom_any ra Ra 2 2 w2.heap.size w2 (Ta.out.up B2.out) (Nat.le_refl _)
  rw [JA.out, doom_two] at q
  have Q := Lib.hid q
  clear q
  go_wp2_with (fail)
  refine Q.out.mono ?_; rintro e w3 ⟨Rl, m, cl, rl, v, rfl, jl, Tl, hmc, hcm, Ol, b3⟩
  have B3 := Lib.hid b3
  have hjl : jobs rl = [twoA 6, finD (twoB 2) 6] := jl
  obtain rfl : m = 2 := by
    have h1 := Tl.out.len
    have h2 := congrArg List.length hjl
    rw [jobs_len] at h2
    simp at h2; omega
  obtain ⟨bl, ol, r3, rfl, hx3, KL, _⟩ := second Tl.out hjl
  obtain ⟨g6, c6, rfl, _, _, _, _, hc6, _⟩ := Ol.out.at_ (by decide)
  have i0 : w3.cell? ⟨g6, 0, none⟩ = some (.int .i64 2) := hc6 0 _ rfl
  have l1 : w3.cell? ⟨bl, ol + 20 + 11, none⟩ = some (.int .i64 6) := range_cell (j := 11) (KL.out w3 (Below.refl _ _)) (by show some (Value.int .i64 r3.x.state) = _; rw [hx3]; rfl)
  have l1' : w3.cell? ⟨bl, ol + 31, none⟩ = some (.int .i64 6) := l1
  obtain ⟨b1, o1, r1, rfl, hx1, KA, JRA⟩ := second Ta.out JA.out
  obtain ⟨b2, o2, r2, rfl, hx2, KB, JRB⟩ := second Tb.out JB.out
  have HTA := Lib.hid (fun v (hv : Below w1.heap.size w1 v) => Ta.out.up hv)
  have HTB := Lib.hid (fun v (hv : Below w2.heap.size w2 v) => Tb.out.up hv)
  have CA := Lib.hid (jrC_info (r := r1))
  have CB := Lib.hid (jrC_info (r := r2))
  have qm1 := Lib.hid (fun v (hv : Below w2.heap.size w2 v) => dmet_any rb (some ⟨b2, o2, none⟩) 2 2 r2 v.heap.size v (HTB.out v hv) (JRB.out v hv) (Nat.le_refl _) (by rw [hx2]; exact wf_twoB 2))
  have qm2 := Lib.hid (fun v (hv : Below w1.heap.size w1 v) => dmet_any ra (some ⟨b1, o1, none⟩) 2 2 r1 v.heap.size v (HTA.out v hv) (JRA.out v hv) (Nat.le_refl _) (by rw [hx1]; exact wf_twoB 2))
  have qd1 := Lib.hid (fun v (hv : Below w1.heap.size w1 v) => ddoomed_any ra (some ⟨b1, o1, none⟩) 2 2 r1 v.heap.size v (HTA.out v hv) (JRA.out v hv) (Nat.le_refl _) (by rw [hx1]; exact wf_twoB 2))
  have qd2 := Lib.hid (fun v (hv : Below w2.heap.size w2 v) => ddoomed_any rb (some ⟨b2, o2, none⟩) 2 2 r2 v.heap.size v (HTB.out v hv) (JRB.out v hv) (Nat.le_refl _) (by rw [hx2]; exact wf_twoB 2))
  have qe := Lib.hid (fun v (hv : Below w2.heap.size w2 v) => delig_any rb (some ⟨b2, o2, none⟩) 2 2 v.heap.size v (HTB.out v hv) (Nat.le_refl _))
  rw [JB.out, hx2, met_b] at qm1
  rw [JA.out, hx1, met_a] at qm2
  rw [JA.out, hx1, doomed_a] at qd1
  rw [JB.out, hx2, doomed_b] at qd2
  rw [JB.out, elig_b] at qe
  obtain ⟨ca, hca⟩ : ∃ c, jrC r1 = c := ⟨_, rfl⟩
  obtain ⟨cb, hcb⟩ : ∃ c, jrC r2 = c := ⟨_, rfl⟩
  rw [hca] at CA KA qm2 qd1
  rw [hcb] at CB KB qm1 qd2
  clear hca hcb hc6 Ol Tl KL hx1 hx2 hx3 JRA JRB Q b3 jl hjl Ta Tb HTA HTB
  have s3 : Below w1.heap.size w1 w3 := bt B2.out B3.out
  go_wp2_with (refine wpList_load_mid_h (by kernel_rfl) 28 _ rfl b2 (o2 + 1 * 20) rfl cb _ (KB.out _ B3.out) Tryz.underlying28 rfl CB.out ?_)
  refine (qm1.out _ B3.out).mono ?_; rintro e w4 ⟨rfl, hw4⟩
  have B4 := Lib.hid (bt B3.out hw4)
  have A4 := Lib.hid (bt B2.out B4.out)
  clear hw4 i0 l1 l1' s3
  go_wp2_with (refine wpList_load_mid_h (by kernel_rfl) 28 _ rfl b1 (o1 + 1 * 20) rfl ca _ (KA.out _ A4.out) Tryz.underlying28 rfl CA.out ?_)
  refine (qm2.out _ A4.out).mono ?_; rintro e w5 ⟨rfl, hw5⟩
  have B5 := Lib.hid (bt B4.out hw5)
  have A5 := Lib.hid (bt B2.out B5.out)
  clear hw5
  go_wp2_with (refine wpList_load_mid_h (by kernel_rfl) 28 _ rfl b1 (o1 + 1 * 20) rfl ca _ (KA.out _ A5.out) Tryz.underlying28 rfl CA.out ?_)
  refine (qd1.out _ A5.out).mono ?_; rintro e w6 ⟨rfl, hw6⟩
  have B6 := Lib.hid (bt B5.out hw6)
  clear hw6
  go_wp2_with (refine wpList_load_mid_h (by kernel_rfl) 28 _ rfl b2 (o2 + 1 * 20) rfl cb _ (KB.out _ B6.out) Tryz.underlying28 rfl CB.out ?_)
  refine (qd2.out _ B6.out).mono ?_; rintro e w7 ⟨rfl, hw7⟩
  have B7 := Lib.hid (bt B6.out hw7)
  clear hw7
  go_wp2_with (fail)
  refine (qe.out _ B7.out).mono ?_; rintro e w8 ⟨v8, rfl, o8, hw8⟩
  obtain ⟨A8, c8, rfl, _, _⟩ := o8.slice
  go_wp2
  go_ret
  exact ⟨rfl, bt B1.out (bt B2.out (bt B7.out hw8))⟩
end Go.Proofs.YtghmcdfmbjabnaaGreatDoor
