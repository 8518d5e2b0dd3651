/- Layer 15: copied and whole walked (printed by a program of my own). Layer 15: a job stored into a list; one job made whole (printed by a program of my own). Layer 15: place walked (printed by a program of my own). Layer 15: Find walked (printed by a program of my own). Layer 15: Put walked (printed by a program of my own). -/
import Derived.Test.YtmkmmggimokagaaGreatDoorT1
import Derived.Test.YtmkmmggimokagaaGreatDoorQ6
import Derived.Test.YtmkmmggimokagaaGreatDoorC1
import Derived.Test.YtmkmmggimokagaaGreatDoorS1
import Derived.Test.YtmkmmggimokagaaGreatDoorQ4
namespace Go.Proofs.YtmkmmggimokagaaGreatDoor
set_option linter.unusedVariables false
open Go.RowKit
theorem Tryz.infoJ : (Tryz.prog.info? 29).map (fun i => (i.zero, i.size, i.bytes)) = some (some (.agg (jbA noJ none 0 none 0)), 20, 216) := by kernel_rfl
theorem app_j {w : World} {ops : Array Oper} {rest : List Oper} {o : Oper} {a : Act} {Q : Exit → Act → World → Prop} {s x : Operand}
    (hgd : o.guard = none) (ho : o.op = .call { callee := .builtin .append, args := #[s, x], argTypes := #[37, 37] })
    (base : Nat) {v : Value} {n : Nat} {xs : List JR} (hs : a.eval s = v) (hown : Owns w base 29 20 v n (recs jrC xs))
    {B : Nat} {A : Option Addr} {m c : Nat} {news : List JR} (hx : a.eval x = .slice A m c) (hr : Reads w B 20 A m (recs jrC news))
    (hlen : n + m ≤ 1000000) (hbase : base ≤ w.heap.size)
    (h : ∀ v' w', Owns w' base 29 20 v' (n + m) (recs jrC (xs ++ news)) → AppKeeps base v w w' → (v'.ownBlock = v.ownBlock ∨ v'.ownBlock = some w.heap.size) → wpList Tryz.prog ops Q rest (a.put o.dst v') w') : wpList Tryz.prog ops Q (o :: rest) a w :=
  wp_app hgd ho Tryz.underlying37 Tryz.infoJ rfl (by omega) base hs hown hx hr (recs_one jrC_one _) (by simp only [maxLen]; omega) (by omega) hbase (fun v' w' h1 => h v' w' (by rw [recs_append]; exact h1))
set_option maxHeartbeats 1000000 in
set_option maxRecDepth 100000 in
theorem copA_any (A : Option Addr) (n c B : Nat) (l : List Pr) (w : World) (hr : Reads w B 2 A n (recs prC l)) (hB : B ≤ w.heap.size) (hn : n ≤ 100000) :
    Calls Tryz.prog 42 #[.slice A n c] w (RetOwn w 66 2 n (recs prC l)) := by
  have hr2 := Lib.hid hr
  go_enter Tryz.func42, Tryz.ntmps42
  go_wp2_with (at_builtin; refine app_a (xs := []) rfl rfl w.heap.size rfl Owns.nil rfl hr2.out (by omega) (by simp) ?_)
  intro v4 w4 o4 k4 _
  have kb4 := k4.below (Below.refl w.heap.size w) (Nat.le_refl _) (Nat.le_refl _)
  have O4 := Lib.hid o4
  clear k4 o4
  go_wp2
  go_ret
  exact ⟨_, rfl, O4.out, kb4⟩
set_option maxHeartbeats 1000000 in
set_option maxRecDepth 100000 in
theorem copD_any (A : Option Addr) (n c B : Nat) (l : List Pr) (w : World) (hr : Reads w B 2 A n (recs prC l)) (hB : B ≤ w.heap.size) (hn : n ≤ 100000) :
    Calls Tryz.prog 43 #[.slice A n c] w (RetOwn w 72 2 n (recs prC l)) := by
  have hr2 := Lib.hid hr
  go_enter Tryz.func43, Tryz.ntmps43
  go_wp2_with (at_builtin; refine app_d (xs := []) rfl rfl w.heap.size rfl Owns.nil rfl hr2.out (by omega) (by simp) ?_)
  intro v4 w4 o4 k4 _
  have kb4 := k4.below (Below.refl w.heap.size w) (Nat.le_refl _) (Nat.le_refl _)
  have O4 := Lib.hid o4
  clear k4 o4
  go_wp2
  go_ret
  exact ⟨_, rfl, O4.out, kb4⟩
set_option maxHeartbeats 1000000 in
set_option maxRecDepth 100000 in
theorem copJ_any (A : Option Addr) (n c B : Nat) (l : List JR) (w : World) (hr : Reads w B 20 A n (recs jrC l)) (hB : B ≤ w.heap.size) (hn : n ≤ 100000) :
    Calls Tryz.prog 41 #[.slice A n c] w (RetOwn w 29 20 n (recs jrC l)) := by
  have hr2 := Lib.hid hr
  go_enter Tryz.func41, Tryz.ntmps41
  go_wp2_with (at_builtin; refine app_j (xs := []) rfl rfl w.heap.size rfl Owns.nil rfl hr2.out (by omega) (by simp) ?_)
  intro v4 w4 o4 k4 _
  have kb4 := k4.below (Below.refl w.heap.size w) (Nat.le_refl _) (Nat.le_refl _)
  have O4 := Lib.hid o4
  clear k4 o4
  go_wp2
  go_ret
  exact ⟨_, rfl, O4.out, kb4⟩
theorem Kp.set15 {N p k : Nat} {a b : World} {u : Value} (h : Kp N (some p) a b) : Kp N (some p) a (b.setCell ⟨p, k, none⟩ u) :=
  ⟨h.os, h.tape, h.output, by rw [set_size]; exact h.size, fun i hi hr => (Below.heap_setCell _ _ _ _ (fun e => hr (by rw [e]))).trans (h.block i hi hr)⟩
theorem Reads.kp15 {w w' : World} {lo B size n p : Nat} {A : Option Addr} {xs : List Value} (h : Reads w B size A n xs) (ho : Off lo A n) (hp : p < lo) (hB : B ≤ w.heap.size) (hw : Kp w.heap.size (some p) w w') : Reads w' B size A n xs := by
  refine ⟨h.1, fun hn => ?_⟩
  obtain ⟨ad, e, hlt, hc⟩ := h.2 hn
  have hlo := ho hn ad e
  refine ⟨ad, e, hlt, fun j u hu => ?_⟩
  rw [← hc j u hu]
  exact World.cell?_of_block (hw.block _ (by rw [block_of_add]; omega) (by rw [block_of_add]; intro e; have := Option.some.inj e; omega))
/-- a job's lists lie from a block on -/
def JrOff (lo : Nat) (r : JR) : Prop := JbOff lo r.x r.A r.A2
/-- a call hands back jobs in new memory, all their lists too -/
def RetWh (w : World) (l : List Jb) (e : Ending) (w' : World) : Prop :=
  ∃ A c fr, e = .returned (.slice A l.length c) ∧ jobs fr = l ∧ l.length ≤ c ∧ Owns w' w.heap.size 29 20 (.slice A l.length c) l.length (recs jrC fr) ∧ (∀ r ∈ fr, JrAt w' w'.heap.size r ∧ JrOff w.heap.size r) ∧ Below w.heap.size w w'
theorem mid_at {fr l : List JR} {k : Nat} {r : JR} (hf : fr.length = k) (hx : l[k]? = some r) : (fr ++ l.drop k)[k]? = some r := by
  rw [List.getElem?_append_right (by omega), hf, Nat.sub_self, List.getElem?_drop, Nat.add_zero, hx]
theorem mid_set {fr l : List JR} {k : Nat} {r y : JR} (hf : fr.length = k) (hx : l[k]? = some r) : (fr ++ l.drop k).set k y = (fr ++ [y]) ++ l.drop (k + 1) := by
  obtain ⟨h1, rfl⟩ := List.getElem?_eq_some_iff.1 hx
  rw [List.set_append_right _ _ (by omega), hf, Nat.sub_self, List.drop_eq_getElem_cons h1, List.append_assoc]
  rfl
theorem whole_cells {fr l : List JR} {k : Nat} {r : JR} {A5 A6 : Option Addr} {c5 c6 : Nat} (hf : fr.length = k) (hx : l[k]? = some r) :
    ((recs jrC (fr ++ l.drop k)).set (k * 20 + 5) (.slice A5 r.x.shape.alts.length c5)).set (k * 20 + 10) (.slice A6 r.x.after.length c6) = recs jrC ((fr ++ [⟨r.x, A5, c5, A6, c6⟩]) ++ l.drop (k + 1)) := by
  rw [recs_set jrC_len (y := ⟨r.x, A5, c5, r.A2, r.c2⟩) (mid_at hf hx) (by omega) rfl]
  have hk : k < (fr ++ l.drop k).length := (List.getElem?_eq_some_iff.1 (mid_at hf hx)).1
  rw [recs_set jrC_len (x := ⟨r.x, A5, c5, r.A2, r.c2⟩) (y := ⟨r.x, A5, c5, A6, c6⟩) (by rw [List.getElem?_set_self hk]) (by omega) rfl, List.set_set, mid_set hf hx]
theorem mid_cell {w : World} {B g n c k j : Nat} {fr l : List JR} {r : JR} {u : Value} (ho : Owns w B 29 20 (.slice (some ⟨g, 0, none⟩) n c) n (recs jrC (fr ++ l.drop k))) (hn : 0 < n) (hf : fr.length = k) (hx : l[k]? = some r) (hj : j < 20) (hu : (jrC r)[j]? = some u) :
    w.cell? ⟨g, k * 20 + j, none⟩ = some u ∧ w.frozen? ⟨g, k * 20 + j, none⟩ = false := by
  obtain ⟨g2, c2, e, _, _, _, _, hc, hz⟩ := ho.at_ hn
  simp only [Value.slice.injEq, Option.some.injEq, Addr.mk.injEq, and_true, true_and] at e
  obtain ⟨rfl, _⟩ := e
  exact ⟨hc _ _ (by rw [recs_at jrC_len (mid_at hf hx) hj, hu]), hz _⟩
/-- what the round leaves of the jobs ahead, and of the one of the round -/
theorem JrAt.kp {wr w' : World} {lo g : Nat} {r : JR} (h : JrAt wr wr.heap.size r) (ho : JrOff lo r) (hg : g < lo) (hk : Kp wr.heap.size (some g) wr w') : JrAt w' w'.heap.size r :=
  ⟨JbAt.more ⟨h.1.1.kp15 ho.1 hg (Nat.le_refl _) hk, h.1.2.1.kp15 ho.2 hg (Nat.le_refl _) hk, h.1.2.2⟩ hk.size, h.2⟩
set_option linter.unusedSimpArgs false in
set_option maxHeartbeats 4000000 in
set_option maxRecDepth 100000 in
theorem whole_any (l : List JR) (A : Option Addr) (n c B : Nat) (w : World) (ht : TbAt w B A n l) (hB : B ≤ w.heap.size) :
    Calls Tryz.prog 23 #[.slice A n c] w (RetWh w (jobs l)) := by
  have hlj : Hid ((jobs l).length = n) := (jobs_len l).trans ht.len
  have hll : Hid (l.length = n) := ht.len
  have hcp := Lib.hid (copJ_any A n c B l w ht.1 hB (by have := ht.2.2; omega))
  have HT := Lib.hid ht
  have HBW := Lib.hid hB
  have hn1 : n ≤ 1000 := ht.2.2
  clear ht hB
  go_enter Tryz.func23, Tryz.ntmps23
  go_wp2_with (fail)
  refine hcp.out.mono ?_; rintro e w1 ⟨v1, rfl, ho1, hb1⟩
  obtain ⟨A5, c5, rfl, hc5, hm5⟩ := ho1.slice
  have HO1 := Lib.hid ho1
  have B1 := Lib.hid hb1
  clear ho1 hb1 hcp
  go_wp2
  go_loopw [4, 9] (fun _ i wr => ∃ (k : Nat) (fr : List JR), k ≤ n ∧ i = .int .i64 k ∧ Hid (Below w.heap.size w wr) ∧ Hid (fr.length = k) ∧ Hid (jobs fr = (jobs l).take k) ∧ Hid (Owns wr w.heap.size 29 20 (.slice A5 n c5) n (recs jrC (fr ++ l.drop k))) ∧ Hid (∀ r ∈ fr, JrAt wr wr.heap.size r ∧ JrOff w1.heap.size r) ∧ Hid (w1.heap.size ≤ wr.heap.size)) (fun _ i _ => n - (intOf i).toNat)
  case atStart => exact ⟨0, [], Nat.zero_le _, rfl, B1.out, rfl, rfl, HO1.out, (fun r h => absurd h (by simp)), Nat.le_refl _⟩
  case round =>
    obtain ⟨k, fr, hk, rfl, hbw, HF, HJ, HO, HA, HS⟩ := hrel
    by_cases hlt : k < n
    · obtain ⟨g, cg, eg, hgB, hg1, _⟩ := HO1.out.at_ (by omega)
      simp only [Value.slice.injEq, true_and] at eg
      obtain ⟨rfl, rfl⟩ := eg
      have hxe : l[k]? = some (l[k]'(by rw [hll.out]; exact hlt)) := List.getElem?_eq_getElem _
      obtain ⟨r, hr⟩ : ∃ r, l[k]'(by rw [hll.out]; exact hlt) = r := ⟨_, rfl⟩
      rw [hr] at hxe
      have hx := Lib.hid hxe
      have JR0 := Lib.hid (HT.out.2.1 r (List.mem_of_getElem? hxe))
      clear hr hxe
      have hi0 : (0 : Int) ≤ (k : Int) := by omega
      have hi1 : (k : Int) < (n : Int) := by omega
      have t0 : decide ((k : Int) < (n : Int)) = true := by simp; omega
      have hgr : g < wr.heap.size := Nat.lt_of_lt_of_le hg1 HS.out
      obtain ⟨k5, f5⟩ := mid_cell (j := 5) (u := .slice r.A r.x.shape.alts.length r.c) HO.out (by omega) HF.out hx.out (by omega) rfl
      obtain ⟨k10, f10⟩ := mid_cell (j := 10) (u := .slice r.A2 r.x.after.length r.c2) HO.out (by omega) HF.out hx.out (by omega) rfl
      have q1 := Lib.hid (copA_any r.A r.x.shape.alts.length r.c B r.x.shape.alts wr (JR0.out.1.1.below (hbw.out.mono HBW.out)) (Nat.le_trans HBW.out hbw.out.size) JR0.out.1.2.2.1)
      have q2 := Lib.hid (fun v (hv : Below w.heap.size w v) => copD_any r.A2 r.x.after.length r.c2 B r.x.after v (JR0.out.1.2.1.below (hv.mono HBW.out)) (Nat.le_trans HBW.out hv.size) JR0.out.1.2.2.2.1)
      obtain ⟨ma, hma⟩ : ∃ m, Hid (r.x.shape.alts.length = m) := ⟨_, rfl⟩
      obtain ⟨md, hmd⟩ : ∃ m, Hid (r.x.after.length = m) := ⟨_, rfl⟩
      rw [hma.out] at k5 q1
      rw [hmd.out] at k10 q2
      go_wp2_with (fail)
      refine q1.out.mono ?_; rintro e w2 ⟨v2, rfl, ho2, hb2⟩
      obtain ⟨A6, c6, rfl, hc6, _⟩ := ho2.slice
      have k5' : w2.cell? ⟨g, k * 20 + 5, none⟩ = some (.slice r.A ma r.c) := (hb2.cell (p := ⟨g, k * 20 + 5, none⟩) hgr).trans k5
      have f5' : w2.frozen? ⟨g, k * 20 + 5, none⟩ = false := (hb2.frozen (p := ⟨g, k * 20 + 5, none⟩) hgr).trans f5
      obtain ⟨W3, hW3⟩ : ∃ W, W = w2.setCell ⟨g, k * 20 + 5, none⟩ (.slice A6 ma c6) := ⟨_, rfl⟩
      have KP3 : Hid (Kp wr.heap.size (some g) wr W3) := by show Kp _ _ _ _; rw [hW3]; exact (Kp.of_below hb2).set15
      have OA3 : Hid (Owns W3 wr.heap.size 66 2 (.slice A6 ma c6) ma (recs prC r.x.shape.alts)) := by show Owns _ _ _ _ _ _ _; rw [hW3]; exact ho2.setBelow hgr _
      have OW3 : Hid (Owns W3 w.heap.size 29 20 (.slice (some ⟨g, 0, none⟩) n c5) n ((recs jrC (fr ++ l.drop k)).set (k * 20 + 5) (.slice A6 ma c6))) := by show Owns _ _ _ _ _ _ _; rw [hW3]; exact ((HO.out.below hb2).stored (by omega) _ _)
      have hg3 : g < W3.heap.size := by have := KP3.out.size; omega
      have BW3 : Hid (Below w.heap.size w W3) := KP3.out.below hbw.out.size (fun k h => by rw [← Option.some.inj h]; exact hgB) |> fun h => hbw.out.trans h
      have k10' : W3.cell? ⟨g, k * 20 + 10, none⟩ = some (.slice r.A2 md r.c2) := by
        rw [hW3, World.cell?_setCell_other _ _ _ _ (by intro e; simp at e)]
        exact (hb2.cell (p := ⟨g, k * 20 + 10, none⟩) hgr).trans k10
      have f10' : W3.frozen? ⟨g, k * 20 + 10, none⟩ = false := by
        obtain ⟨_, _, e, _, _, _, _, _, hz⟩ := OW3.out.at_ (by omega)
        simp only [Value.slice.injEq, Option.some.injEq, Addr.mk.injEq, and_true, true_and] at e
        obtain ⟨rfl, _⟩ := e
        exact hz _
      have q3 := Lib.hid (q2.out W3 BW3.out)
      clear q1 q2 k5 f5 k10 f10 ho2 hb2
      subst hW3
      go_wp2_with (fail)
      refine q3.out.mono ?_; rintro e w4 ⟨v4, rfl, ho4, hb4⟩
      obtain ⟨A7, c7, rfl, hc7, _⟩ := ho4.slice
      have k10b : w4.cell? ⟨g, k * 20 + 10, none⟩ = some (.slice r.A2 md r.c2) := (hb4.cell (p := ⟨g, k * 20 + 10, none⟩) hg3).trans k10'
      have f10b : w4.frozen? ⟨g, k * 20 + 10, none⟩ = false := (hb4.frozen (p := ⟨g, k * 20 + 10, none⟩) hg3).trans f10'
      have gw3 := hg3
      rw [set_size] at hg3 hb4
      obtain ⟨W5, hW5⟩ : ∃ W, W = w4.setCell ⟨g, k * 20 + 10, none⟩ (.slice A7 md c7) := ⟨_, rfl⟩
      have KP5 : Hid (Kp wr.heap.size (some g) wr W5) := by show Kp _ _ _ _; rw [hW5]; exact (KP3.out.trans (Kp.of_below (hb4.mono (by have := KP3.out.size; rwa [set_size] at this)))).set15
      have OA5 : Hid (Owns W5 wr.heap.size 66 2 (.slice A6 ma c6) ma (recs prC r.x.shape.alts)) := by show Owns _ _ _ _ _ _ _; rw [hW5]; exact (OA3.out.below (by rw [set_size]; exact hb4)).setBelow hgr _
      have OD5 : Hid (Owns W5 wr.heap.size 72 2 (.slice A7 md c7) md (recs prC r.x.after)) := by show Owns _ _ _ _ _ _ _; rw [hW5]; exact (ho4.mono KP3.out.size).setBelow hgr _
      have OW5 : Hid (Owns W5 w.heap.size 29 20 (.slice (some ⟨g, 0, none⟩) n c5) n (recs jrC ((fr ++ [⟨r.x, A6, c6, A7, c7⟩]) ++ l.drop (k + 1)))) := by
        show Owns _ _ _ _ _ _ _
        rw [← whole_cells HF.out hx.out, hW5, hma.out, hmd.out]
        exact (OW3.out.below (by rw [set_size]; exact hb4)).stored (by omega) _ _
      have BW5 : Hid (Below w.heap.size w W5) := hbw.out.trans (KP5.out.below hbw.out.size (fun k h => by rw [← Option.some.inj h]; exact hgB))
      have HA5 : Hid (∀ q ∈ fr ++ [(⟨r.x, A6, c6, A7, c7⟩ : JR)], JrAt W5 W5.heap.size q ∧ JrOff w1.heap.size q) := by
        show ∀ q ∈ _, _
        intro q hq
        rcases List.mem_append.1 hq with h | h
        · exact ⟨(HA.out q h).1.kp (HA.out q h).2 hg1 KP5.out, (HA.out q h).2⟩
        · have e := List.mem_singleton.1 h
          subst e
          refine ⟨⟨⟨?_, ?_, JR0.out.1.2.2.1, JR0.out.1.2.2.2.1, ?_, ?_⟩, JR0.out.2⟩, ?_, ?_⟩
          · show Reads _ _ _ _ r.x.shape.alts.length _; rw [hma.out]; exact OA5.out.reads
          · show Reads _ _ _ _ r.x.after.length _; rw [hmd.out]; exact OD5.out.reads
          · show r.x.shape.alts.length ≤ c6; rw [hma.out]; exact hc6
          · show r.x.after.length ≤ c7; rw [hmd.out]; exact hc7
          · show Off _ _ r.x.shape.alts.length; rw [hma.out]; exact (Owns.off OA5.out).mono HS.out
          · show Off _ _ r.x.after.length; rw [hmd.out]; exact (Owns.off OD5.out).mono HS.out
      have HJ5 : Hid (jobs (fr ++ [(⟨r.x, A6, c6, A7, c7⟩ : JR)]) = (jobs l).take (k + 1)) := by
        show _ = _
        rw [jobs_append, HJ.out, List.take_add_one, jobs_at hx.out]; rfl
      have HS5 : Hid (w1.heap.size ≤ W5.heap.size) := Nat.le_trans HS.out KP5.out.size
      have HF5 : Hid ((fr ++ [(⟨r.x, A6, c6, A7, c7⟩ : JR)]).length = k + 1) := by show _ = _; rw [List.length_append, HF.out]; rfl
      subst hW5
      clear q3 k5' f5' k10' f10' ho4 hb4 KP3 OA3 OW3 BW3
      go_wp2
      go_roundw
      case rel => exact ⟨k + 1, _, by omega, by simp, BW5, HF5, HJ5, OW5, HA5, HS5⟩
      case measure => simp [intOf]; omega
    · obtain rfl : k = n := by omega
      have t0 : decide ((k : Int) < (k : Int)) = false := by simp
      have hfr : Hid (jobs fr = jobs l) := by show _ = _; rw [HJ.out, List.take_of_length_le (Nat.le_of_eq hlj.out)]
      have HO2 : Hid (Owns wr w.heap.size 29 20 (.slice A5 k c5) k (recs jrC fr)) := by
        show Owns _ _ _ _ _ _ _
        have h := HO.out
        rwa [List.drop_of_length_le (Nat.le_of_eq hll.out), List.append_nil] at h
      go_wp2
      go_ret
      refine ⟨A5, c5, fr, by rw [hlj.out] <;> rfl, hfr.out, by rw [hlj.out]; exact hc5, by rw [hlj.out]; exact HO2.out, fun r hr => ⟨(HA.out r hr).1, ?_⟩, hbw.out⟩
      have h := (HA.out r hr).2
      exact ⟨h.1.mono B1.out.size, h.2.mono B1.out.size⟩
def putL {α : Type} : List α → Nat → List α → List α
  | xs, _, [] => xs
  | xs, j, v :: vs => putL (xs.set j v) (j + 1) vs
theorem putL_get {α : Type} : ∀ (vs xs : List α) (j t : Nat), (putL xs j vs)[t]? = if j ≤ t ∧ t < j + vs.length then (if t < xs.length then vs[t - j]? else none) else xs[t]?
  | [], xs, j, t => by
    rw [if_neg (fun h => by have h1 := h.1; have h2 := h.2; rw [List.length_nil] at h2; omega)]; rfl
  | v :: vs, xs, j, t => by
    show (putL (xs.set j v) (j + 1) vs)[t]? = _
    rw [putL_get vs, List.length_set]
    by_cases h : j + 1 ≤ t ∧ t < j + 1 + vs.length
    · have h2 : j ≤ t ∧ t < j + (v :: vs).length := ⟨by omega, by rw [List.length_cons]; omega⟩
      have e : (v :: vs)[t - j]? = vs[t - (j + 1)]? := by
        rw [show t - j = (t - (j + 1)) + 1 by omega]; rfl
      rw [if_pos h, if_pos h2, e]
    · rw [if_neg h]
      by_cases h2 : t = j
      · subst h2
        have h3 : t ≤ t ∧ t < t + (v :: vs).length := ⟨Nat.le_refl _, by rw [List.length_cons]; omega⟩
        rw [if_pos h3, Nat.sub_self, List.getElem?_set]
        simp
      · have h3 : ¬ (j ≤ t ∧ t < j + (v :: vs).length) := by rw [List.length_cons]; omega
        rw [if_neg h3, List.getElem?_set_ne (by omega)]
theorem recs_put {l : List JR} {k : Nat} (y : JR) (hk : k < l.length) : putL (recs jrC l) (k * 20) (jrC y) = recs jrC (l.set k y) := by
  apply List.ext_getElem?
  intro t
  rw [putL_get, jrC_len, recs_len jrC_len]
  by_cases ht : t < l.length * 20
  · have hq : t / 20 < l.length := by omega
    have hz : (l.set k y)[t / 20]? = some (if k = t / 20 then y else l[t / 20]) := by
      by_cases h : k = t / 20
      · rw [if_pos h, ← h, List.getElem?_set_self hk]
      · rw [if_neg h, List.getElem?_set_ne h, List.getElem?_eq_getElem hq]
    have e := recs_at jrC_len hz (j := t % 20) (by omega)
    rw [show t / 20 * 20 + t % 20 = t by omega] at e
    rw [e]
    by_cases h : k * 20 ≤ t ∧ t < k * 20 + 20
    · have hk2 : k = t / 20 := by omega
      rw [if_pos h, if_pos ht, if_pos hk2, show t - k * 20 = t % 20 by omega]
    · have hk2 : ¬ k = t / 20 := by omega
      rw [if_neg h, if_neg hk2]
      have e2 := recs_at jrC_len (List.getElem?_eq_getElem hq) (j := t % 20) (by omega)
      rw [show t / 20 * 20 + t % 20 = t by omega] at e2
      exact e2
  · rw [List.getElem?_eq_none (l := recs jrC l) (by rw [recs_len jrC_len]; omega), List.getElem?_eq_none (l := recs jrC (l.set k y)) (by rw [recs_len jrC_len, List.length_set]; omega), if_neg ht]
    split <;> rfl
theorem Owns.storedN {e : TypeId} {size B n g c : Nat} (hn : 0 < n) : ∀ (vs : List Value) (j : Nat) (w : World) (xs : List Value), Owns w B e size (.slice (some ⟨g, 0, none⟩) n c) n xs → Owns (w.setCells g j vs) B e size (.slice (some ⟨g, 0, none⟩) n c) n (putL xs j vs)
  | [], _, _, _, h => h
  | v :: vs, j, w, xs, h => by
    show Owns ((w.setCell ⟨g, j, none⟩ v).setCells g (j + 1) vs) B e size _ n (putL (xs.set j v) (j + 1) vs)
    exact Owns.storedN hn vs (j + 1) _ _ (h.stored hn j v)
theorem Owns.there {w : World} {e : TypeId} {B n g c k : Nat} {l : List JR} (h : Owns w B e 20 (.slice (some ⟨g, 0, none⟩) n c) n (recs jrC l)) (hk : k < n) : w.there g (k * 20) 20 := by
  obtain ⟨g2, c2, ev, _, _, _, _, hc, hz⟩ := h.at_ (by omega)
  simp only [Value.slice.injEq, Option.some.injEq, Addr.mk.injEq, and_true, true_and] at ev
  obtain ⟨rfl, _⟩ := ev
  intro j hj
  have hl := h.len
  refine ⟨?_, hz _⟩
  rw [hc (k * 20 + j) ((recs jrC l)[k * 20 + j]'(by rw [hl]; have : (k + 1) * 20 ≤ n * 20 := Nat.mul_le_mul_right 20 hk; omega)) (List.getElem?_eq_getElem _)]
  rfl
theorem setCells_kp {N g : Nat} : ∀ (vs : List Value) (j : Nat) (a b : World), Kp N (some g) a b → Kp N (some g) a (b.setCells g j vs)
  | [], _, _, _, h => h
  | v :: vs, j, a, b, h => by
    show Kp N (some g) a ((b.setCell ⟨g, j, none⟩ v).setCells g (j + 1) vs)
    exact setCells_kp vs (j + 1) a _ (Kp.set15 h)
set_option maxHeartbeats 1000000 in
theorem whole1_any (r : JR) (b o B : Nat) (w : World) (ht : TbAt w B (some ⟨b, o, none⟩) 1 [r]) (hB : B ≤ w.heap.size) :
    Calls Tryz.prog 23 #[.slice (some ⟨b, o, none⟩) 1 1] w fun e w' => ∃ g c5 r5, e = .returned (.slice (some ⟨g, 0, none⟩) 1 c5) ∧ r5.x = r.x ∧ Hid (w'.rangeAt g 0 (jrC r5)) ∧ Hid (JrAt w' w'.heap.size r5) ∧ Hid (JrOff w.heap.size r5) ∧ Below w.heap.size w w' := by
  refine (whole_any [r] (some ⟨b, o, none⟩) 1 1 B w ht hB).mono ?_
  rintro e w' ⟨A5, c5, fr, rfl, hj, _, ho, ha, hb⟩
  have hl : (jobs [r]).length = 1 := rfl
  rw [hl] at ho ⊢
  have hlen : fr.length = 1 := by have := congrArg List.length hj; rw [jobs_len, jobs_len] at this; exact this
  obtain ⟨r5, rfl⟩ := List.length_eq_one_iff.1 hlen
  obtain ⟨g, c6, ev, _, _, _, _, hc, _⟩ := ho.at_ (by omega)
  simp only [Value.slice.injEq, true_and] at ev
  obtain ⟨rfl, rfl⟩ := ev
  have hj2 : r5.x = r.x := by unfold jobs at hj; simpa using hj
  refine ⟨g, c5, r5, rfl, hj2, fun j u hu => ?_, (ha r5 (by simp)).1, (ha r5 (by simp)).2, hb⟩
  rw [Nat.zero_add]
  exact hc j u (by rw [recs_single]; exact hu)
set_option maxHeartbeats 1000000 in
theorem pcmp_r (r : JR) (id : Int) (w : World) (hx : 1 ≤ r.x.id ∧ r.x.id ≤ 99999) (hi : 1 ≤ id ∧ id ≤ 99999) : Calls Tryz.prog 40 #[.agg (jrC r).toArray, .int .i64 id] w fun e w' => e = .returned (.int .i64 (r.x.id - id)) ∧ Below w.heap.size w w' := by
  have e0 : (jrC r)[0]? = some (.int .i64 r.x.id) := rfl
  obtain ⟨s, hs⟩ : ∃ s, r.x.id = s := ⟨_, rfl⟩
  rw [hs] at e0 hx ⊢
  clear hs
  obtain ⟨cs, hcs⟩ : ∃ cs, jrC r = cs := ⟨_, rfl⟩
  rw [hcs] at e0 ⊢
  clear hcs
  have J : (w.alloc (.cells cs.toArray 29)).cell? ⟨w.heap.size, 0, none⟩ = some (.int .i64 s) := (cell_of_row _ _ 0 _ _ _ (heap_alloc_new w _)).trans (at_arr e0)
  have hw : wrap64 (s - id) = s - id := by unfold wrap64; omega
  have hw2 : IntKind.i64.wrap (s - id) = s - id := wrap_small (by omega) (by omega)
  clear hx hi
  go_enter Tryz.func40, Tryz.ntmps40
  go_wp2
  go_ret
  exact ⟨rfl, bx0⟩
theorem tab_lt {l : List Jb} (h : tabB l = true) : ∀ (i j : Nat) (x y : Jb), l[i]? = some x → l[j]? = some y → i < j → x.id < y.id := fun i j x y hi hj hij => asc_lt (tab_iff.1 h).2.2 hi hj hij
theorem tab_id {l : List Jb} (h : tabB l = true) : ∀ (i : Nat) (x : Jb), l[i]? = some x → 1 ≤ x.id ∧ x.id ≤ 99999 := fun i x hi => okJ_id ((tab_iff.1 h).2.1 x (List.mem_of_getElem? hi)).1
theorem pos_hit {l : List Jb} {k : Nat} {x : Jb} {id : Int} (h : tabB l = true) (hk : l[k]? = some x) (e : x.id = id) : posP l id = (k : Int) :=
  idxG_hit hk (by unfold posQ; simpa using e) (fun j y hj hy => by have := tab_lt h j k y x hy hk hj; unfold posQ; simp; omega)
theorem pos_miss {l : List Jb} {id : Int} (h : ∀ (j : Nat) (y : Jb), l[j]? = some y → y.id ≠ id) : posP l id = -1 := idxG_miss (fun j y _ hy => by unfold posQ; simpa using h j y hy)
set_option linter.unusedSimpArgs false in
set_option maxHeartbeats 4000000 in
set_option maxRecDepth 100000 in
theorem bsearch_any (l : List JR) (A : Option Addr) (n c B : Nat) (id : Int) (w : World) (ht : TbAt w B A n l) (hB : B ≤ w.heap.size) (hid : 1 ≤ id ∧ id ≤ 99999) (hok : tabB (jobs l) = true) :
    Calls Tryz.prog 39 #[.slice A n c, .int .i64 id, .func (.func 40) #[] #[]] w fun e w' => (∃ i : Nat, e = .returned (.tuple #[.int .i64 i, .bool (decide (0 ≤ posP (jobs l) id))]) ∧ (0 ≤ posP (jobs l) id → posP (jobs l) id = i)) ∧ Below w.heap.size w w' := by
  have eg : ∀ args w, (callFunc 40 args).run Tryz.prog w = .ok (.enter 40 args) w := enters_of Tryz.func40 (by kernel_rfl) rfl
  have hlj : Hid ((jobs l).length = n) := (jobs_len l).trans ht.len
  have HT := Lib.hid ht
  have HBW := Lib.hid hB
  have hn1 : n ≤ 1000 := ht.2.2
  have HID := Lib.hid hid
  have HOK := Lib.hid hok
  obtain ⟨R, hR⟩ : ∃ R, Hid (decide (0 ≤ posP (jobs l) id) = R) := ⟨_, rfl⟩
  rw [hR.out]
  clear ht hB hid hok
  go_enter Tryz.func39, Tryz.ntmps39
  go_wp2
  go_loopw [9, 10, 11] (fun i j _ wr => ∃ lo hi : Nat, i = .int .i64 lo ∧ j = .int .i64 hi ∧ lo ≤ hi ∧ hi ≤ n ∧ Hid (Below w.heap.size w wr) ∧ Hid (∀ (t : Nat) y, t < lo → (jobs l)[t]? = some y → y.id < id) ∧ Hid (∀ (t : Nat) y, hi ≤ t → (jobs l)[t]? = some y → id ≤ y.id)) (fun i j _ _ => (intOf j).toNat - (intOf i).toNat)
  case atStart => exact ⟨0, n, rfl, rfl, Nat.zero_le _, Nat.le_refl _, Below.refl _ _, fun t y h => by omega, fun t y h1 h2 => by have := (List.getElem?_eq_some_iff.1 h2).1; rw [hlj.out] at this; omega⟩
  case round =>
    obtain ⟨lo, hi, rfl, rfl, hlh, hin, hbw, HL, HU⟩ := hrel
    by_cases hlt : lo < hi
    · have hmn : (lo + hi) / 2 < n := by omega
      obtain ⟨b, o, r, rfl, hbb, hx, KR, JR⟩ := (HT.out.below (hbw.out.mono HBW.out)).elem hmn
      have CSZ := Lib.hid (jrC_info (r := r))
      have HXI := Lib.hid (tab_id HOK.out _ _ (jobs_at hx.out))
      have q1 := Lib.hid (fun v => pcmp_r r id v HXI.out HID.out)
      obtain ⟨D, hD⟩ : ∃ D, Hid (r.x.id - id = D) := ⟨_, rfl⟩
      rw [hD.out] at q1
      obtain ⟨cs, hcs⟩ : ∃ cs, Hid (jrC r = cs) := ⟨_, rfl⟩
      rw [hcs.out] at KR CSZ q1
      clear hcs
      cases zd : decide (D < 0)
      case true =>
        have HL2 : Hid (∀ (t : Nat) y, t < (lo + hi) / 2 + 1 → (jobs l)[t]? = some y → y.id < id) := by
          show ∀ _, _
          intro t y h1 h2
          have h3 : r.x.id < id := by have := hD.out; simp at zd; omega
          by_cases e : t = (lo + hi) / 2
          · subst e; rw [jobs_at hx.out] at h2; rw [← Option.some.inj h2]; exact h3
          · have := tab_lt HOK.out t _ y r.x h2 (jobs_at hx.out) (by omega); omega
        clear hD hx
        go_wp2_with (first | (refine wpList_load_mid rfl 29 _ rfl b (o + (lo + hi) / 2 * 20) rfl cs _ KR.out Tryz.underlying29 rfl CSZ.out ?_) | (go_at_fn 40; refine (q1.out _).mono ?_; rintro e w1 ⟨rfl, hw1⟩))
        go_roundw
        case rel => exact ⟨(lo + hi) / 2 + 1, hi, by rw [show ((lo : Int) + (hi : Int)) / 2 + 1 = (((lo + hi) / 2 + 1 : Nat) : Int) by omega], rfl, by omega, hin, bt hbw.out hw1, HL2, HU⟩
        case measure => simp [intOf]; omega
      have HU2 : Hid (∀ (t : Nat) y, (lo + hi) / 2 ≤ t → (jobs l)[t]? = some y → id ≤ y.id) := by
        show ∀ _, _
        intro t y h1 h2
        have h3 : id ≤ r.x.id := by have := hD.out; simp at zd; omega
        by_cases e : t = (lo + hi) / 2
        · subst e; rw [jobs_at hx.out] at h2; rw [← Option.some.inj h2]; exact h3
        · have := tab_lt HOK.out _ t r.x y (jobs_at hx.out) h2 (by omega); omega
      clear hD hx
      go_wp2_with (first | (refine wpList_load_mid rfl 29 _ rfl b (o + (lo + hi) / 2 * 20) rfl cs _ KR.out Tryz.underlying29 rfl CSZ.out ?_) | (go_at_fn 40; refine (q1.out _).mono ?_; rintro e w1 ⟨rfl, hw1⟩))
      go_roundw
      case rel => exact ⟨lo, (lo + hi) / 2, rfl, by rw [show ((lo : Int) + (hi : Int)) / 2 = (((lo + hi) / 2 : Nat) : Int) by omega], by omega, by omega, bt hbw.out hw1, HL, HU2⟩
      case measure => simp [intOf]; omega
    · obtain rfl : hi = lo := by omega
      by_cases hn : hi < n
      · obtain ⟨b, o, r, rfl, hbb, hx, KR, JR⟩ := (HT.out.below (hbw.out.mono HBW.out)).elem hn
        have CSZ := Lib.hid (jrC_info (r := r))
        have HXI := Lib.hid (tab_id HOK.out _ _ (jobs_at hx.out))
        have q1 := Lib.hid (fun v => pcmp_r r id v HXI.out HID.out)
        have hi0 : (0 : Int) ≤ (hi : Int) := by omega
        have hi1 : (hi : Int) < (n : Int) := by omega
        have t0 : decide ((hi : Int) < (n : Int)) = true := by simp; omega
        obtain ⟨D, hD⟩ : ∃ D, Hid (r.x.id - id = D) := ⟨_, rfl⟩
        rw [hD.out] at q1
        obtain ⟨cs, hcs⟩ : ∃ cs, Hid (jrC r = cs) := ⟨_, rfl⟩
        rw [hcs.out] at KR CSZ q1
        clear hcs
        cases zd : D == 0
        case true =>
          have HR : Hid (posP (jobs l) id = hi) := by show _ = _; exact pos_hit HOK.out (jobs_at hx.out) (by have := hD.out; simp at zd; omega)
          have HD2 : Hid (R = true) := by show _ = _; rw [← hR.out, HR.out]; simp
          clear hD hx
          go_wp2_with (first | (refine wpList_load_mid_h (by kernel_rfl) 29 _ rfl b (o + hi * 20) rfl cs _ KR.out Tryz.underlying29 rfl CSZ.out ?_) | (go_at_fn 40; refine (q1.out _).mono ?_; rintro e w1 ⟨rfl, hw1⟩))
          go_ret2
          exact ⟨⟨hi, by rw [HD2.out] <;> rfl, fun _ => HR.out⟩, bt hbw.out hw1⟩
        have HR : Hid (posP (jobs l) id = -1) := by
          show _ = _
          refine pos_miss (fun t y hy => ?_)
          rcases Nat.lt_trichotomy t hi with h | h | h
          · have := HL.out t y h hy; omega
          · subst h; rw [jobs_at hx.out] at hy; rw [← Option.some.inj hy]; have := hD.out; simp at zd; omega
          · have h1 := tab_lt HOK.out _ t r.x y (jobs_at hx.out) hy h
            have h2 := HU.out hi r.x (Nat.le_refl _) (jobs_at hx.out); omega
        have HD2 : Hid (R = false) := by show _ = _; rw [← hR.out, HR.out]; simp
        clear hD hx
        go_wp2_with (first | (refine wpList_load_mid_h (by kernel_rfl) 29 _ rfl b (o + hi * 20) rfl cs _ KR.out Tryz.underlying29 rfl CSZ.out ?_) | (go_at_fn 40; refine (q1.out _).mono ?_; rintro e w1 ⟨rfl, hw1⟩))
        go_ret2
        exact ⟨⟨hi, by rw [HD2.out] <;> rfl, fun h => absurd h (by rw [HR.out]; decide)⟩, bt hbw.out hw1⟩
      · have t0 : decide ((hi : Int) < (n : Int)) = false := by simp; omega
        have HR : Hid (posP (jobs l) id = -1) := by
          show _ = _
          refine pos_miss (fun t y hy => ?_)
          have h1 := (List.getElem?_eq_some_iff.1 hy).1
          rw [hlj.out] at h1
          have := HL.out t y (by omega) hy; omega
        have HD2 : Hid (R = false) := by show _ = _; rw [← hR.out, HR.out]; simp
        go_wp2
        go_ret2
        exact ⟨⟨hi, by rw [HD2.out] <;> rfl, fun h => absurd h (by rw [HR.out]; decide)⟩, hbw.out⟩
set_option linter.unusedSimpArgs false in
set_option maxHeartbeats 4000000 in
set_option maxRecDepth 100000 in
theorem place_any (l : List JR) (A : Option Addr) (n c B : Nat) (id : Int) (w : World) (ht : TbAt w B A n l) (hB : B ≤ w.heap.size) (hid : 1 ≤ id ∧ id ≤ 99999) (hok : tabB (jobs l) = true) :
    Calls Tryz.prog 22 #[.slice A n c, .int .i64 id] w fun e w' => (∃ i : Nat, e = .returned (.tuple #[.int .i64 i, .bool (decide (0 ≤ posP (jobs l) id))]) ∧ (0 ≤ posP (jobs l) id → posP (jobs l) id = i)) ∧ Below w.heap.size w w' := by
  have hc := Lib.hid (bsearch_any l A n c B id w ht hB hid hok)
  obtain ⟨R, hR⟩ : ∃ R, decide (0 ≤ posP (jobs l) id) = R := ⟨_, rfl⟩
  rw [hR] at hc ⊢
  clear hR ht hid hok
  go_enter Tryz.func22, Tryz.ntmps22
  go_wp2_with (fail)
  refine hc.out.mono ?_; rintro e w1 ⟨⟨i, rfl, hi⟩, hw1⟩
  have HI := Lib.hid hi
  clear hi
  go_wp2
  go_ret2
  exact ⟨⟨i, rfl, HI.out⟩, hw1⟩
/-- a call hands back a job and whether there is one, its lists in new memory -/
def RetFd (w : World) (q : Jb × Bool) (e : Ending) (w' : World) : Prop := ∃ r : JR, r.x = q.1 ∧ e = .returned (.tuple #[.agg (jrC r).toArray, .bool q.2]) ∧ JrAt w' w'.heap.size r ∧ JrOff w.heap.size r ∧ Below w.heap.size w w'
/-- .. its lists in old memory -/
def RetFr (w : World) (B : Nat) (q : Jb × Bool) (e : Ending) (w' : World) : Prop := ∃ r : JR, r.x = q.1 ∧ e = .returned (.tuple #[.agg (jrC r).toArray, .bool q.2]) ∧ JrAt w' B r ∧ Below w.heap.size w w'
theorem noJ_small : JbSz noJ := ⟨⟨by decide, by decide, by decide⟩, by rw [M64_is]; decide⟩
def noR : JR := ⟨noJ, none, 0, none, 0⟩
theorem noR_at (w : World) (B : Nat) : JrAt w B noR := ⟨(noJ_at w B 0).1, noJ_small⟩
theorem retFd_no {w w' : World} (h : Below w.heap.size w w') : RetFd w (noJ, false) (.returned (.tuple #[.agg #[.int .i64 0, .string ⟨#[]⟩, .string ⟨#[]⟩, .string ⟨#[]⟩, .int .i64 0, .slice none 0 0, .int .i64 0, .int .i64 0, .int .i64 0, .int .i64 0, .slice none 0 0, .int .i64 0, .bool false, .int .i64 0, .int .i64 0, .int .i64 0, .int .i64 0, .int .i64 0, .int .u64 0, .int .i64 0], .bool false])) w' := ⟨noR, rfl, rfl, noR_at _ _, (noJ_at w' 0 _).2, h⟩
theorem retFr_no {w w' : World} {B : Nat} (h : Below w.heap.size w w') : RetFr w B (noJ, false) (.returned (.tuple #[.agg #[.int .i64 0, .string ⟨#[]⟩, .string ⟨#[]⟩, .string ⟨#[]⟩, .int .i64 0, .slice none 0 0, .int .i64 0, .int .i64 0, .int .i64 0, .int .i64 0, .slice none 0 0, .int .i64 0, .bool false, .int .i64 0, .int .i64 0, .int .i64 0, .int .i64 0, .int .i64 0, .int .u64 0, .int .i64 0], .bool false])) w' := ⟨noR, rfl, rfl, noR_at _ _, h⟩
theorem findP_no {l : List Jb} {id : Int} (h : ¬ (tabB l = true ∧ 0 ≤ posP l id)) : findP l id = (noJ, false) := by unfold findP; rw [if_neg h]
theorem findP_yes {l : List Jb} {id : Int} {k : Nat} {x : Jb} (h : tabB l = true) (hp : posP l id = (k : Int)) (hk : l[k]? = some x) : findP l id = (x, true) := by
  unfold findP
  rw [if_pos ⟨h, by omega⟩, hp]
  simp [List.getD_eq_getElem?_getD, hk]
theorem pos_at {l : List Jb} {id : Int} (h : 0 ≤ posP l id) : ∃ (k : Nat) (x : Jb), posP l id = (k : Int) ∧ l[k]? = some x ∧ x.id = id ∧ k < l.length := by
  rcases idxG_cases (posQ id) l with ⟨h1, _⟩ | ⟨k, x, h1, h2, h3, h4⟩
  · have : posP l id = -1 := h1
    omega
  · exact ⟨k, x, h1, h2, by unfold posQ at h3; simpa using h3, h4⟩
theorem jobs_get {l : List JR} {k : Nat} {x : Jb} (h : (jobs l)[k]? = some x) : ∃ r, l[k]? = some r ∧ r.x = x := by
  unfold jobs at h
  rw [List.getElem?_map] at h
  cases hl : l[k]? with
  | none => rw [hl] at h; cases h
  | some r => rw [hl] at h; exact ⟨r, rfl, Option.some.inj h⟩
/-- one element alone is a list -/
theorem TbAt.one {w : World} {B n b o k : Nat} {l : List JR} {r : JR} (h : TbAt w B (some ⟨b, o, none⟩) n l) (hk : l[k]? = some r) : TbAt w B (some ⟨b, o + k * 20, none⟩) 1 [r] := by
  have hkn : k < n := by rw [← h.len]; exact (List.getElem?_eq_some_iff.1 hk).1
  obtain ⟨b2, o2, r2, e, hb, hx, KR, JR⟩ := h.elem hkn
  simp only [Option.some.injEq, Addr.mk.injEq, and_true] at e
  obtain ⟨rfl, rfl⟩ := e
  rw [hk] at hx
  obtain rfl := Option.some.inj hx.out
  refine ⟨⟨rfl, fun _ => ⟨_, rfl, hb, fun j u hu => ?_⟩⟩, fun q hq => by rw [List.mem_singleton.1 hq]; exact JR.out, by omega⟩
  rw [recs_single] at hu
  rw [add_plain]
  exact KR.out j u hu
theorem known_any (id : Int) (w : World) : Calls Tryz.prog 21 #[.int .i64 id] w fun e w' => e = .returned (.bool (decide (1 ≤ id) && decide (id ≤ 99999))) ∧ w = w' := by
  cases h1 : decide (1 ≤ id) <;> cases h2 : decide (id ≤ 99999)
  all_goals
    go_enter Tryz.func21, Tryz.ntmps21
    go_wp2
    go_ret
    exact ⟨rfl, rfl⟩
set_option linter.unusedSimpArgs false in
set_option maxHeartbeats 4000000 in
set_option maxRecDepth 100000 in
theorem find_any (l : List JR) (A : Option Addr) (n c B : Nat) (id : Int) (w : World) (ht : TbAt w B A n l) (hB : B ≤ w.heap.size) (hnc : n ≤ c) (hcm : c ≤ maxLen) :
    Calls Tryz.prog 13 #[.slice A n c, .int .i64 id] w (RetFd w (findP (jobs l) id)) := by
  have hlj : Hid ((jobs l).length = n) := (jobs_len l).trans ht.len
  have q1 := Lib.hid (fun v (hv : Below w.heap.size w v) => tcheck_any l A n c B v (ht.below (hv.mono hB)) (Nat.le_trans hB hv.size))
  have q2 := Lib.hid (fun v => known_any id v)
  have q3 := Lib.hid (fun (h1 : 1 ≤ id ∧ id ≤ 99999) (h2 : tabB (jobs l) = true) v (hv : Below w.heap.size w v) => place_any l A n c B id v (ht.below (hv.mono hB)) (Nat.le_trans hB hv.size) h1 h2)
  have q4 := Lib.hid (fun (k : Nat) (r : JR) (b o : Nat) (e : A = some ⟨b, o, none⟩) (hk : l[k]? = some r) v (hv : Below w.heap.size w v) => whole1_any r b (o + k * 20) B v (((by rw [e] at ht; exact ht : TbAt w B (some ⟨b, o, none⟩) n l).one hk).below (hv.mono hB)) (Nat.le_trans hB hv.size))
  have HT := Lib.hid ht
  have hn1 : n ≤ 1000 := ht.2.2
  clear ht hB
  have J0 : ∀ z, Hid ((w.alloc (.cells z 29)).heap[w.heap.size]? = some (.cells z 29 (0, 0))) := fun z => heap_alloc_new w _
  cases zt : tabB (jobs l)
  case false =>
    have HR : Hid (findP (jobs l) id = (noJ, false)) := by show _ = _; exact findP_no (by rw [zt]; rintro ⟨h, _⟩; cases h)
    rw [tabE_f zt] at q1
    clear q2 q3 q4
    go_enter Tryz.func13, Tryz.ntmps13
    go_wp2_with (fail)
    refine (q1.out _ bx0).mono ?_; rintro e w1 ⟨rfl, hw1⟩
    obtain ⟨g1, hb1, s1⟩ := box_row hw1
    have G1 := Lib.hid g1
    have B1 := Lib.hid hb1
    clear g1 hb1 hw1
    go_wp2_with (refine wpList_store_row rfl 29 _ _ rfl (w.heap.size) _ rfl rfl 29 _ G1.out (by kernel_rfl) rfl (by rw [List.all_toArray]; rfl) ?_)
    (try simp only [Exit.inBlock, Exit.then])
    refine bodyPost_ret (results_cell2 rfl _ _ (w.heap.size) _ _ _ _ rfl (setRow_heap _ _ _ _ _ _ G1.out) Tryz.underlying29 rfl (by kernel_rfl)) rfl ?_
    rw [HR.out]
    exact retFd_no (below_row B1.out (Nat.le_refl _) _)
  have HTB := Lib.hid zt
  rw [tabE_t zt] at q1
  cases zk : (decide (1 ≤ id) && decide (id ≤ 99999))
  case false =>
    have HR : Hid (findP (jobs l) id = (noJ, false)) := by
      show _ = _
      refine findP_no ?_
      rintro ⟨_, h⟩
      obtain ⟨k, x, _, h2, h3, _⟩ := pos_at h
      have := tab_id HTB.out k x h2
      simp at zk; omega
    rw [zk] at q2
    clear q3 q4 zt
    go_enter Tryz.func13, Tryz.ntmps13
    go_wp2_with (fail)
    refine (q1.out _ bx0).mono ?_; rintro e w1 ⟨rfl, hw1⟩
    obtain ⟨g1, hb1, s1⟩ := box_row hw1
    have G1 := Lib.hid g1
    have B1 := Lib.hid hb1
    clear g1 hb1 hw1
    go_wp2_with (first | (go_at_call 21; refine (q2.out _).mono ?_; rintro e w2 ⟨rfl, rfl⟩) | (refine wpList_store_row rfl 29 _ _ rfl (w.heap.size) _ rfl rfl 29 _ G1.out (by kernel_rfl) rfl (by rw [List.all_toArray]; rfl) ?_))
    (try simp only [Exit.inBlock, Exit.then])
    refine bodyPost_ret (results_cell2 rfl _ _ (w.heap.size) _ _ _ _ rfl (setRow_heap _ _ _ _ _ _ G1.out) Tryz.underlying29 rfl (by kernel_rfl)) rfl ?_
    rw [HR.out]
    exact retFd_no (below_row B1.out (Nat.le_refl _) _)
  have hk2 : 1 ≤ id ∧ id ≤ 99999 := by simp at zk; exact zk
  have q5 := Lib.hid (q3.out hk2 zt)
  rw [zk] at q2
  clear q3 zk zt hk2
  cases zp : decide (0 ≤ posP (jobs l) id)
  case false =>
    have HR : Hid (findP (jobs l) id = (noJ, false)) := by show _ = _; exact findP_no (fun h => by have := h.2; simp at zp; omega)
    rw [zp] at q5
    clear q4
    go_enter Tryz.func13, Tryz.ntmps13
    go_wp2_with (fail)
    refine (q1.out _ bx0).mono ?_; rintro e w1 ⟨rfl, hw1⟩
    have B1 := Lib.hid (hw1)
    go_wp2_with (go_at_call 21; refine (q2.out _).mono ?_; rintro e w2 ⟨rfl, rfl⟩)
    refine (q5.out _ (bt bx0 B1.out)).mono ?_; rintro e w3 ⟨⟨i, rfl, _⟩, hw3⟩
    obtain ⟨g1, hb1, s1⟩ := box_row (bt B1.out hw3)
    have G1 := Lib.hid g1
    have B3 := Lib.hid hb1
    clear g1 hb1 hw1 hw3
    go_wp2_with (refine wpList_store_row rfl 29 _ _ rfl (w.heap.size) _ rfl rfl 29 _ G1.out (by kernel_rfl) rfl (by rw [List.all_toArray]; rfl) ?_)
    (try simp only [Exit.inBlock, Exit.then])
    refine bodyPost_ret (results_cell2 rfl _ _ (w.heap.size) _ _ _ _ rfl (setRow_heap _ _ _ _ _ _ G1.out) Tryz.underlying29 rfl (by kernel_rfl)) rfl ?_
    rw [HR.out]
    exact retFd_no (below_row B3.out (Nat.le_refl _) _)
  rw [zp] at q5
  obtain ⟨k, x, hp, hx, _, hkl⟩ := pos_at (of_decide_eq_true zp)
  have HP := Lib.hid hp
  have HR : Hid (findP (jobs l) id = (x, true)) := by show _ = _; exact findP_yes HTB.out hp hx
  obtain ⟨r, hr, hrx⟩ := jobs_get hx
  have hkn : k < n := by rw [← hlj.out]; exact hkl
  obtain ⟨b, o, r2, rfl, hbb, _, _, _⟩ := HT.out.elem hkn
  have q6 := Lib.hid (q4.out k r b o rfl hr)
  have HRX := Lib.hid hrx
  clear q4 hp hx hr hrx hkl zp
  have hi0 : (0 : Int) ≤ (k : Int) := by omega
  have hi1 : (k : Int) < (n : Int) := by omega
  have hi2 : (k : Int) + 1 ≤ (c : Int) := by omega
  have hi3 : (k : Int) + 1 ≤ 9223372036854775807 := by omega
  have hi4 : (0 : Int) ≤ (k : Int) + 1 := by omega
  have hi5 : k + 1 ≤ c := by omega
  go_enter Tryz.func13, Tryz.ntmps13
  go_wp2_with (fail)
  refine (q1.out _ bx0).mono ?_; rintro e w1 ⟨rfl, hw1⟩
  have B1 := Lib.hid (hw1)
  go_wp2_with (go_at_call 21; refine (q2.out _).mono ?_; rintro e w2 ⟨rfl, rfl⟩)
  refine (q5.out _ (bt bx0 B1.out)).mono ?_; rintro e w3 ⟨⟨i, rfl, hik⟩, hw3⟩
  have B3 := Lib.hid (bt B1.out hw3)
  obtain rfl : i = k := by have h := hik (by rw [HP.out]; omega); rw [HP.out] at h; omega
  clear hw1 hw3 hik
  go_wp2_with (fail)
  refine (q6.out _ (bt bx0 B3.out)).mono ?_; rintro e w4 ⟨g, c5, r5, rfl, hx5, KR5, AT5, OF5, hb5⟩
  obtain ⟨g1, hb1, s1⟩ := box_row (bt B3.out hb5)
  have G1 := Lib.hid g1
  have B4 := Lib.hid hb1
  have HX5 := Lib.hid (hx5.trans HRX.out)
  have s3 : w.heap.size < w3.heap.size := by have := B3.out.size; simp at this; omega
  have CSZ := Lib.hid (jrC_info (r := r5))
  have CSA := Lib.hid (jrA_info r5)
  have C1 := Lib.hid (jrA_all r5)
  have CS2 := Lib.hid (jrA_20 r5)
  obtain ⟨cs, hcs⟩ : ∃ cs, Hid (jrC r5 = cs) := ⟨_, rfl⟩
  rw [hcs.out] at KR5 CSZ CSA C1 CS2
  clear g1 hb1 hb5 hx5
  go_wp2_with (first
    | (refine wpList_load_mid rfl 29 _ rfl g 0 rfl cs _ KR5.out Tryz.underlying29 rfl CSZ.out ?_)
    | (refine wpList_store_row rfl 29 _ _ rfl (w.heap.size) cs.toArray rfl rfl 29 _ G1.out CSA.out (by show 20 = _; exact CS2.out) C1.out ?_))
  (try simp only [Exit.inBlock, Exit.then])
  refine bodyPost_ret (results_cell2 rfl _ _ (w.heap.size) _ _ _ _ rfl (setRow_heap _ _ _ _ _ _ G1.out) Tryz.underlying29 rfl (CSA.out)) rfl ?_
  rw [HR.out]
  refine ⟨r5, HX5.out, by rw [hcs.out] <;> rfl, ⟨?_, AT5.out.2⟩, ⟨OF5.out.1.mono (by omega), OF5.out.2.mono (by omega)⟩, below_row B4.out (Nat.le_refl _) _⟩
  rw [Go.setRow_size]
  exact AT5.out.1.only OF5.out s3 row_only
/-- a call hands back jobs in new memory, all their lists too, and an error -/
def RetTb (w : World) (q : List Jb × Int) (e : Ending) (w' : World) : Prop :=
  ∃ R m cc rs, e = .returned (.tuple #[.slice R m cc, .int .i64 q.2]) ∧ jobs rs = q.1 ∧ Hid (TbAt w' w'.heap.size R m rs) ∧ m ≤ cc ∧ cc ≤ maxLen ∧ Hid (Off w.heap.size R m ∧ ∀ r ∈ rs, JrOff w.heap.size r) ∧ Below w.heap.size w w'
/-- a call hands back jobs, and an error -/
def RetTr (w : World) (q : List Jb × Int) (e : Ending) (w' : World) : Prop :=
  ∃ R m cc rs, e = .returned (.tuple #[.slice R m cc, .int .i64 q.2]) ∧ jobs rs = q.1 ∧ Hid (TbAt w' w'.heap.size R m rs) ∧ m ≤ cc ∧ cc ≤ maxLen ∧ Below w.heap.size w w'
theorem retTb_no {w w' : World} {er : Int} (h : Below w.heap.size w w') : RetTb w ([], er) (.returned (.tuple #[.slice none 0 0, .int .i64 er])) w' :=
  ⟨none, 0, 0, [], rfl, rfl, TbAt.none_, by omega, by simp [maxLen], ⟨(fun h => absurd h (by omega)), fun r hr => absurd hr (by simp)⟩, h⟩
theorem retTr_no {w w' : World} {er : Int} (h : Below w.heap.size w w') : RetTr w ([], er) (.returned (.tuple #[.slice none 0 0, .int .i64 er])) w' :=
  ⟨none, 0, 0, [], rfl, rfl, TbAt.none_, by omega, by simp [maxLen], h⟩
theorem jobs_set (l : List JR) (k : Nat) (r : JR) : jobs (l.set k r) = (jobs l).set k r.x := by simp [jobs, List.map_set]
/-- a list of its own memory, whose jobs lie in old memory, and one of whose jobs is another -/
theorem put_at {w w4 : World} {B b4 n g c k : Nat} {A : Option Addr} {l : List JR} {r0 : JR} (ht : TbAt w B A n l) (hr : JrAt w B r0) (hB : B ≤ w.heap.size) (hb : Below w.heap.size w w4) (hk : k < n) (ho : Owns w4 b4 29 20 (.slice (some ⟨g, 0, none⟩) n c) n (recs jrC l)) (hg : w.heap.size ≤ b4) :
    Below w.heap.size w (w4.setCells g (k * 20) (jrC r0)) ∧ Hid (TbAt (w4.setCells g (k * 20) (jrC r0)) (w4.setCells g (k * 20) (jrC r0)).heap.size (some ⟨g, 0, none⟩) n (l.set k r0)) := by
  have hl := ht.len
  obtain ⟨g2, c2, ev, hgb, _, _, _, _, _⟩ := ho.at_ (by omega)
  simp only [Value.slice.injEq, Option.some.injEq, Addr.mk.injEq, and_true, true_and] at ev
  obtain ⟨rfl, _⟩ := ev
  have hk2 : Kp w4.heap.size (some g) w4 (w4.setCells g (k * 20) (jrC r0)) := setCells_kp _ _ _ _ ⟨rfl, rfl, rfl, Nat.le_refl _, fun _ _ _ => rfl⟩
  have hb2 : Below w.heap.size w (w4.setCells g (k * 20) (jrC r0)) := hb.trans (hk2.below hb.size (fun j h => by rw [← Option.some.inj h]; omega))
  have ho2 := ho.storedN (by omega) (jrC r0) (k * 20)
  rw [recs_put r0 (by omega)] at ho2
  refine ⟨hb2, ho2.reads, fun q hq => ?_, ht.2.2⟩
  rcases List.mem_or_eq_of_mem_set hq with h | h
  · exact ((ht.2.1 q h).below (hb2.mono hB)).more (Nat.le_trans hB hb2.size)
  · subst h; exact (hr.below (hb2.mono hB)).more (Nat.le_trans hB hb2.size)
theorem putP_no {l : List Jb} {x : Jb} (h : ¬ (tabB l = true ∧ okJ x = true ∧ 0 ≤ posP l x.id)) : putP l x = ([], 140) := by unfold putP; rw [if_neg h]
theorem putP_yes {l : List Jb} {x : Jb} {k : Nat} (h : tabB l = true) (hx : okJ x = true) (hp : posP l x.id = (k : Int)) : putP l x = (l.set k x, 0) := by
  unfold putP
  rw [if_pos ⟨h, hx, by omega⟩, hp]; rfl
theorem retTb_of {w w' : World} {A : Option Addr} {c n : Nat} {l : List Jb} {fr : List JR} {b0 : Nat} (hb : w.heap.size ≤ b0) (hl : l.length = n) (hj : jobs fr = l) (hc : n ≤ c) (hn : n ≤ 1000) (ho : Owns w' b0 29 20 (.slice A n c) n (recs jrC fr)) (ha : ∀ r ∈ fr, JrAt w' w'.heap.size r ∧ JrOff b0 r) (h : Below w.heap.size w w') :
    RetTb w (l, 0) (.returned (.tuple #[.slice A n c, .int .i64 0])) w' := by
  obtain ⟨A5, c5, ev, _, hm⟩ := ho.slice
  simp only [Value.slice.injEq, true_and] at ev
  obtain ⟨rfl, rfl⟩ := ev
  exact ⟨A, n, c, fr, rfl, hj, ⟨ho.reads, fun r hr => (ha r hr).1, hn⟩, hc, hm, ⟨(Owns.off ho).mono hb, fun r hr => ⟨(ha r hr).2.1.mono hb, (ha r hr).2.2.mono hb⟩⟩, h⟩
end Go.Proofs.YtmkmmggimokagaaGreatDoor
