/- Bundle Q4. -/
import Derived.Test.YtghmcdfmbjabnaaGreatDoorK1t
import Derived.Great.Ranges
import Derived.Test.YtghmcdfmbjabnaaGreatDoorQ0t
import Derived.Test.YtghmcdfmbjabnaaGreatDoorQ1t
import Derived.Test.YtghmcdfmbjabnaaGreatDoorC1t
import Derived.Test.YtghmcdfmbjabnaaGreatDoorQ3t
import Derived.Test.YtghmcdfmbjabnaaGreatDoorS2t
namespace Go.Proofs.YtghmcdfmbjabnaaGreatDoor
set_option linter.unusedSimpArgs false
set_option maxRecDepth 100000
set_option linter.unusedVariables false
open Go.RowKit
theorem info88 {cs : Array Value} (h : cs.size = 20) : (Tryz.prog.info? 106).map (·.size) = some cs.size := by rw [h]; kernel_rfl
theorem twenty {l : List Value} (h : l.length = 20) : ∃ a0 a1 a2 a3 a4 a5 a6 a7 a8 a9 b0 b1 b2 b3 b4 b5 b6 b7 b8 b9, l = [a0, a1, a2, a3, a4, a5, a6, a7, a8, a9, b0, b1, b2, b3, b4, b5, b6, b7, b8, b9] := by
  match l, h with
  | [a0, a1, a2, a3, a4, a5, a6, a7, a8, a9, b0, b1, b2, b3, b4, b5, b6, b7, b8, b9], _ => exact ⟨_, _, _, _, _, _, _, _, _, _, _, _, _, _, _, _, _, _, _, _, rfl⟩
theorem built88 {cs : Array Value} (h : cs.size = 20) : Tryz.prog.built 106 [(0, .agg cs)] = some cs := by
  obtain ⟨l⟩ := cs
  obtain ⟨a0, a1, a2, a3, a4, a5, a6, a7, a8, a9, b0, b1, b2, b3, b4, b5, b6, b7, b8, b9, rfl⟩ := twenty (by simpa using h)
  kernel_rfl
theorem results_cell2 {P : Program} {fn : Func} {p t : Tmp} {ty : TypeId} (h : fn.results = #[.cell p ty, .tmp t]) (tmps : Array Value) (w : World) (g : Nat) (tt : TypeId) (cs : Array Value) (fr : Nat × Nat) (d : TypeDesc)
    (hp : tmps.getD p undef = .pointer (some ⟨g, 0, none⟩)) (hg : w.heap[g]? = some (.cells cs tt fr))
    (hu : P.underlying ty = some d) (hd : (match d with | .struct _ | .array _ _ => true | _ => false) = true) (hi : (P.info? ty).map (·.size) = some cs.size) :
    (results fn tmps).run P w = .ok (.tuple #[.agg cs, tmps.getD t undef]) w := by
  have hp' : tmps[p]?.getD undef = .pointer (some ⟨g, 0, none⟩) := by simpa using hp
  simp [results, h, hp', asAddr, run_loadVar_row w g tt ty cs fr d hg hu hd hi]
theorem alloc2 (w : World) (a b : Obj) : ((w.alloc a).alloc b).heap[w.heap.size + 1]? = some b := by
  have h := heap_alloc_new (w.alloc a) b
  rwa [World.size_alloc] at h
def jbC (x : Jb) (A : Option Addr) (c : Nat) (A2 : Option Addr) (c2 : Nat) : List Value :=
  [.int .i64 x.id, .string x.name, .string x.user, .string x.account, .int .i64 x.shape.kind, .slice A x.shape.alts.length c, .int .i64 x.shape.mn, .int .i64 x.shape.mx, .int .i64 x.shape.wall,
    .int .i64 x.prio, .slice A2 x.after.length c2, .int .i64 x.state, .bool x.held, .int .i64 x.born, .int .i64 x.promise, .int .i64 x.choice, .int .i64 x.start, .int .i64 x.limit, .int .u64 x.nodes, .int .i64 x.used]
def jbA (x : Jb) (A : Option Addr) (c : Nat) (A2 : Option Addr) (c2 : Nat) : Array Value := (jbC x A c A2 c2).toArray
theorem jbV_is (x : Jb) (A : Option Addr) (c : Nat) (A2 : Option Addr) (c2 : Nat) : jbV x A c A2 c2 = .agg (jbA x A c A2 c2) := rfl
theorem jbA_size (x : Jb) (A : Option Addr) (c : Nat) (A2 : Option Addr) (c2 : Nat) : (jbA x A c A2 c2).size = 20 := rfl
theorem jbA_one (x : Jb) (A : Option Addr) (c : Nat) (A2 : Option Addr) (c2 : Nat) : (jbA x A c A2 c2).all (·.oneCell') = true := by unfold jbA; rw [List.all_toArray]; rfl
theorem info30 {cs : Array Value} (h : cs.size = 20) : (Tryz.prog.info? 28).map (·.size) = some cs.size := by rw [h]; kernel_rfl
def Off (lo : Nat) (A : Option Addr) (n : Nat) : Prop := 0 < n → ∀ ad, A = some ad → lo ≤ ad.block
def JbOff (lo : Nat) (x : Jb) (A A2 : Option Addr) : Prop := Off lo A x.shape.alts.length ∧ Off lo A2 x.after.length
theorem Owns.off {w : World} {B : Nat} {e : TypeId} {size n : Nat} {A : Option Addr} {c : Nat} {xs : List Value} (h : Owns w B e size (.slice A n c) n xs) : Off B A n := by
  intro hn ad hA
  obtain ⟨g, c2, hv, hb, _⟩ := h.at_ hn
  injection hv with h1
  subst hA
  injection h1 with h1
  subst h1
  exact hb
theorem Off.mono {lo lo2 n : Nat} {A : Option Addr} (h : Off lo A n) (hl : lo2 ≤ lo) : Off lo2 A n := fun hn ad hA => Nat.le_trans hl (h hn ad hA)
theorem set_size {w : World} {a : Addr} {v : Value} : (w.setCell a v).heap.size = w.heap.size := by simp [World.setCell]
theorem Owns.row {w : World} {B : Nat} {e : TypeId} {size n : Nat} {v : Value} {xs : List Value} (h : Owns w B e size v n xs) {b : Nat} (hb : b < B) (cs : Array Value) : Owns (w.setRow b cs) B e size v n xs :=
  h.keep fun g _ hg _ => Go.setRow_other w b g cs (by omega)
structure Only (p : Nat) (v v' : World) : Prop where
  os : v'.os = v.os
  tape : v'.tape = v.tape
  output : v'.output = v.output
  size : v'.heap.size = v.heap.size
  block : ∀ k, k ≠ p → v'.heap[k]? = v.heap[k]?
theorem Only.refl {p : Nat} {v : World} : Only p v v := ⟨rfl, rfl, rfl, rfl, fun _ _ => rfl⟩
theorem Only.set {p k : Nat} {v v' : World} {u : Value} (h : Only p v v') : Only p v (v'.setCell ⟨p, k, none⟩ u) :=
  ⟨h.os, h.tape, h.output, by rw [set_size]; exact h.size, fun j hj => (Below.heap_setCell _ _ _ _ hj).trans (h.block j hj)⟩
theorem Only.row {p : Nat} {v v' : World} {cs : Array Value} (h : Only p v v') : Only p v (v'.setRow p cs) :=
  ⟨h.os, h.tape, h.output, by rw [Go.setRow_size]; exact h.size, fun j hj => (Go.setRow_other v' p j cs hj).trans (h.block j hj)⟩
theorem Only.drew {p : Nat} {v v' : World} (h : Only p v v') : Only p v v'.drew := ⟨h.os, h.tape, h.output, h.size, h.block⟩
theorem Only.below {p : Nat} {v v' : World} (h : Only p v v') : Below p v v' := ⟨h.os, h.tape, h.output, Nat.le_of_eq h.size.symm, fun k hk => h.block k (by omega)⟩
theorem Reads.only {w w' : World} {lo B size n p : Nat} {A : Option Addr} {xs : List Value} (h : Reads w B size A n xs) (ho : Off lo A n) (hp : p < lo) (hw : Only p w w') : Reads w' B size A n xs := by
  refine ⟨h.1, fun hn => ?_⟩
  obtain ⟨ad, e, hlt, hc⟩ := h.2 hn
  have hlo := ho hn ad e
  refine ⟨ad, e, hlt, fun j u hu => ?_⟩
  rw [← hc j u hu]
  exact World.cell?_of_block (hw.block _ (by rw [block_of_add]; omega))
theorem JbAt.only {w w' : World} {lo B p : Nat} {x : Jb} {A A2 : Option Addr} {c c2 : Nat} (h : JbAt w B x A c A2 c2) (ho : JbOff lo x A A2) (hp : p < lo) (hw : Only p w w') : JbAt w' B x A c A2 c2 :=
  ⟨h.1.only ho.1 hp hw, h.2.1.only ho.2 hp hw, h.2.2⟩
theorem JbAt.as {w : World} {B : Nat} {x y : Jb} {A A2 : Option Addr} {c c2 : Nat} (h : JbAt w B x A c A2 c2) (hs : y.shape = x.shape) (ha : y.after = x.after) : JbAt w B y A c A2 c2 := by
  unfold JbAt at h ⊢; rw [hs, ha]; exact h
theorem JbOff.as {lo : Nat} {x y : Jb} {A A2 : Option Addr} (h : JbOff lo x A A2) (hs : y.shape = x.shape) (ha : y.after = x.after) : JbOff lo y A A2 := by
  unfold JbOff at h ⊢; rw [hs, ha]; exact h
theorem JbAt.more {w : World} {B B' : Nat} {x : Jb} {A A2 : Option Addr} {c c2 : Nat} (h : JbAt w B x A c A2 c2) (hB : B ≤ B') : JbAt w B' x A c A2 c2 := ⟨h.1.more hB, h.2.1.more hB, h.2.2⟩
theorem jobE_t {x : Jb} (h : okJ x = true) : jobE x = 0 := by unfold jobE; rw [if_pos h]
theorem jobE_f {x : Jb} (h : okJ x = false) : jobE x = 140 := by unfold jobE; rw [if_neg (by rw [h]; decide)]
theorem bne_or {a b : Int} {z : Bool} (h : (a == b) = z) : (a != b) = !z := by show (!(a == b)) = _; rw [h]
theorem bne_of_false {a b : Int} (h : (a == b) = false) : (a != b) = true := bne_or h
theorem bne_of_true {a b : Int} (h : (a == b) = true) : (a != b) = false := bne_or h
def noJ : Jb := ⟨0, ⟨#[]⟩, ⟨#[]⟩, ⟨#[]⟩, sh0, 0, [], 0, false, 0, 0, 0, 0, 0, 0, 0⟩
theorem tick_any (n : Int) (w : World) : Calls Tryz.prog 95 #[.int .i64 n] w fun e w' => e = .returned (.bool (tickB n)) ∧ w = w' := by
  unfold tickB inB
  cases h1 : decide (0 ≤ n) <;> cases h2 : decide (n ≤ 1000000)
  all_goals
    go_enter Tryz.func95, Tryz.ntmps95
    go_wp2
    go_ret
    exact ⟨rfl, rfl⟩
theorem ended_any (n : Int) (w : World) : Calls Tryz.prog 83 #[.int .i64 n] w fun e w' => e = .returned (.bool (endedB n)) ∧ w = w' := by
  unfold endedB inB
  cases h1 : decide (3 ≤ n) <;> cases h2 : decide (n ≤ 7)
  all_goals
    go_enter Tryz.func83, Tryz.ntmps83
    go_wp2
    go_ret
    exact ⟨rfl, rfl⟩
theorem few_diff {s : Nat} (hs : s < M64) : (((diff s (allS 48) : Nat) : Int) == 0) = fewS s := by
  unfold fewS
  rw [Bool.eq_iff_iff]
  simp only [beq_iff_eq, decide_eq_true_eq]
  constructor
  · intro h
    have h0 : diff s (allS 48) = 0 := by omega
    refine Nat.lt_pow_two_of_testBit (n := 48) _ (fun i hi => ?_)
    have := congrArg (fun x => Nat.testBit x i) h0
    simp only [diff_bit hs (allS_lt 48), Nat.zero_testBit, allS_bit] at this
    have e : decide ((i : Int) < 48) = false := decide_eq_false (by omega)
    rw [e] at this
    simpa using this
  · intro h
    have : diff s (allS 48) = 0 := by
      apply Nat.eq_of_testBit_eq
      intro i
      rw [diff_bit hs (allS_lt 48), Nat.zero_testBit, allS_bit]
      by_cases hi : i < 48
      · rw [decide_eq_true (show (i : Int) < 48 by omega), decide_eq_true (show i < 64 by omega)]; simp
      · have : s < 2 ^ i := Nat.lt_of_lt_of_le (show s < 2 ^ 48 from h) (Nat.pow_le_pow_right (by omega) (by omega))
        rw [Nat.testBit_lt_two_pow this]; rfl
    rw [this]; rfl
theorem nodes_any (s : Nat) (w : World) (hs : s < M64) : Calls Tryz.prog 99 #[.int .u64 s] w fun e w' => e = .returned (.bool (fewS s)) ∧ w = w' := by
  have hc := Lib.hid (fun v => all_any 48 v (by decide))
  have k1 := andNot64 hs (allS_lt 48)
  have h := few_diff hs
  obtain ⟨q, hq⟩ : ∃ q : Nat, diff s (allS 48) = q := ⟨_, rfl⟩
  rw [hq] at k1 h
  obtain ⟨a, ha⟩ : ∃ a : Int, (allS 48 : Int) = a := ⟨_, rfl⟩
  rw [ha] at k1 hc
  obtain ⟨z, hz⟩ : ∃ z, fewS s = z := ⟨_, rfl⟩
  rw [hz] at h ⊢
  clear hq ha hz
  go_enter Tryz.func99, Tryz.ntmps99
  go_wp2_with (fail)
  refine (hc.out _).mono ?_; rintro e w1 ⟨rfl, rfl⟩
  go_wp2
  go_ret
  exact ⟨rfl, rfl⟩
set_option maxHeartbeats 2000000 in
theorem subm_any (x : Jb) (A A2 : Option Addr) (c c2 : Nat) (w : World) :
    Calls Tryz.prog 108 #[jbV x A c A2 c2] w fun e w' => e = .returned (cmV (submC x) A c A2 c2) ∧ Below w.heap.size w w' := by
  rw [jbV_is]
  unfold cmV submC
  dsimp only
  have e1 : (jbA x A c A2 c2)[1]? = some (.string x.name) := rfl
  have e2 : (jbA x A c A2 c2)[2]? = some (.string x.user) := rfl
  have e3 : (jbA x A c A2 c2)[3]? = some (.string x.account) := rfl
  have e4 : (jbA x A c A2 c2)[4]? = some (.int .i64 x.shape.kind) := rfl
  have e5 : (jbA x A c A2 c2)[5]? = some (.slice A x.shape.alts.length c) := rfl
  have e6 : (jbA x A c A2 c2)[6]? = some (.int .i64 x.shape.mn) := rfl
  have e7 : (jbA x A c A2 c2)[7]? = some (.int .i64 x.shape.mx) := rfl
  have e8 : (jbA x A c A2 c2)[8]? = some (.int .i64 x.shape.wall) := rfl
  have e9 : (jbA x A c A2 c2)[9]? = some (.int .i64 x.prio) := rfl
  have e10 : (jbA x A c A2 c2)[10]? = some (.slice A2 x.after.length c2) := rfl
  obtain ⟨cs, hcs⟩ : ∃ cs, jbA x A c A2 c2 = cs := ⟨_, rfl⟩
  rw [hcs] at e1 e2 e3 e4 e5 e6 e7 e8 e9 e10 ⊢
  obtain ⟨n1, hn⟩ : ∃ n, x.shape.alts.length = n := ⟨_, rfl⟩
  obtain ⟨m1, hm⟩ : ∃ n, x.after.length = n := ⟨_, rfl⟩
  rw [hn] at e5 ⊢
  rw [hm] at e10 ⊢
  clear hcs hn hm
  go_enter Tryz.func108, Tryz.ntmps108
  go_wp2_with (refine wpList_store_row rfl 30 _ _ rfl (w.heap.size + 1) _ rfl rfl 30 _ (alloc2 _ _ _) (by kernel_rfl) rfl (by rw [List.all_toArray]; rfl) ?_)
  (try simp only [Exit.inBlock, Exit.then])
  refine bodyPost_ret (results_cell_row rfl _ _ (w.heap.size + 1) _ _ _ _ rfl (setRow_heap _ _ _ _ _ _ (alloc2 _ _ _)) Tryz.underlying30 rfl (by kernel_rfl)) rfl ?_
  exact ⟨rfl, below_row (((Below.refl _ _).alloc (Nat.le_refl _) _).alloc (by simp) _) (by omega) _⟩
set_option maxHeartbeats 2000000 in
theorem option_any (x : Jb) (A A2 : Option Addr) (c c2 B : Nat) (ch : Int) (w : World) (hx : JbAt w B x A c A2 c2) (hB : B ≤ w.heap.size) :
    Calls Tryz.prog 94 #[jbV x A c A2 c2, .int .i64 ch] w fun e w' => e = .returned (.tuple #[.agg #[.int .i64 (optAt x.shape ch).1, .int .i64 (optAt x.shape ch).2], .bool (hasO x.shape ch)]) ∧ Below w.heap.size w w' := by
  have hc := Lib.hid (fun v (hv : Below w.heap.size w v) => opts_any x.shape A c B v (hx.1.below (hv.mono hB)) (Nat.le_trans hB hv.size) hx.2.2.1 hx.2.2.2.2.1)
  have hol := optS_len x.shape hx.2.2.1
  have HO : Hid (optAt x.shape ch = if ch < 0 ∨ ((optS x.shape).length : Int) ≤ ch then (0, 0) else (optS x.shape).getD ch.toNat (0, 0)) := rfl
  have HH : Hid (hasO x.shape ch = !(decide (ch < 0) || decide (((optS x.shape).length : Int) ≤ ch))) := rfl
  obtain ⟨p, hp⟩ : ∃ p, optAt x.shape ch = p := ⟨_, rfl⟩
  obtain ⟨q, hq⟩ : ∃ q, hasO x.shape ch = q := ⟨_, rfl⟩
  rw [hp] at HO ⊢
  rw [hq] at HH ⊢
  clear hp hq
  obtain ⟨l, hl⟩ : ∃ l, optS x.shape = l := ⟨_, rfl⟩
  rw [hl] at hc hol HO HH
  clear hl hx hB
  unfold shV at hc
  rw [jbV_is]
  have e4 : (jbA x A c A2 c2)[4]? = some (.int .i64 x.shape.kind) := rfl
  have e5 : (jbA x A c A2 c2)[5]? = some (.slice A x.shape.alts.length c) := rfl
  have e6 : (jbA x A c A2 c2)[6]? = some (.int .i64 x.shape.mn) := rfl
  have e7 : (jbA x A c A2 c2)[7]? = some (.int .i64 x.shape.mx) := rfl
  have e8 : (jbA x A c A2 c2)[8]? = some (.int .i64 x.shape.wall) := rfl
  obtain ⟨cs, hcs⟩ : ∃ cs, jbA x A c A2 c2 = cs := ⟨_, rfl⟩
  rw [hcs] at e4 e5 e6 e7 e8 ⊢
  obtain ⟨n1, hn⟩ : ∃ n, x.shape.alts.length = n := ⟨_, rfl⟩
  rw [hn] at hc e5
  clear hcs hn
  go_enter Tryz.func94, Tryz.ntmps94
  go_wp2_with (fail)
  refine (hc.out _ (((Below.refl _ _).alloc (Nat.le_refl _) _).alloc (by simp) _)).mono ?_; rintro e w1 ⟨A3, c3, rfl, hl3, hr3, hb1⟩
  have B1 := Lib.hid ((((Below.refl _ _).alloc (Nat.le_refl _) _).alloc (by simp) _ : Below w.heap.size w _).trans (hb1.mono (by simp; omega)))
  have hres := Lib.hid ((hb1.block (w.heap.size + 1) (by simp)).trans (alloc2 _ _ _))
  have hs1 : w.heap.size + 1 < w1.heap.size := (Array.getElem?_eq_some_iff.1 hres.out).1
  have hf : ∀ j, w1.frozen? ⟨w.heap.size + 1, j, none⟩ = false := fun j => by simp [World.frozen?, hres.out]
  have r0 : w1.cell? ⟨w.heap.size + 1, 0, none⟩ = some (.int .i64 0) := cell_of_row w1 _ 0 _ _ _ hres.out
  have r1 : w1.cell? ⟨w.heap.size + 1, 1, none⟩ = some (.int .i64 0) := cell_of_row w1 _ 1 _ _ _ hres.out
  clear hb1
  by_cases h0 : ch < 0
  · have t0 : decide (ch < 0) = true := decide_eq_true h0
    have HP : Hid (p = (0, 0)) := by show _ = _; rw [HO.out, if_pos (Or.inl h0)]
    have HQ : Hid (q = false) := by show _ = _; rw [HH.out, t0]; rfl
    clear h0
    go_wp2
    (try simp only [Exit.inBlock, Exit.then])
    refine bodyPost_ret (results_cell2 rfl _ _ (w.heap.size + 1) _ _ _ _ rfl (setRow_row hres.out (l := [.int .i64 0, .int .i64 0]) rfl) Tryz.underlying103 rfl (by kernel_rfl)) rfl ?_
    rw [HP.out, HQ.out]
    exact ⟨rfl, below_setRow [.int .i64 0, .int .i64 0] w1 (w.heap.size + 1) 0 B1.out (by omega)⟩
  have t0 : decide (ch < 0) = false := decide_eq_false h0
  by_cases h1 : (l.length : Int) ≤ ch
  · have t1 : decide ((l.length : Int) ≤ ch) = true := decide_eq_true h1
    have HP : Hid (p = (0, 0)) := by show _ = _; rw [HO.out, if_pos (Or.inr h1)]
    have HQ : Hid (q = false) := by show _ = _; rw [HH.out, t0, t1]; rfl
    clear h0 h1
    go_wp2
    (try simp only [Exit.inBlock, Exit.then])
    refine bodyPost_ret (results_cell2 rfl _ _ (w.heap.size + 1) _ _ _ _ rfl (setRow_row hres.out (l := [.int .i64 0, .int .i64 0]) rfl) Tryz.underlying103 rfl (by kernel_rfl)) rfl ?_
    rw [HP.out, HQ.out]
    exact ⟨rfl, below_setRow [.int .i64 0, .int .i64 0] w1 (w.heap.size + 1) 0 B1.out (by omega)⟩
  · have t1 : decide ((l.length : Int) ≤ ch) = false := decide_eq_false h1
    have HQ : Hid (q = true) := by show _ = _; rw [HH.out, t0, t1]; rfl
    obtain ⟨k, hk⟩ : ∃ k : Nat, ch = k := ⟨ch.toNat, by omega⟩
    subst hk
    obtain ⟨b, o, a, rfl, hbb, hx, c0, c1⟩ := hr3.pr_at (show k < l.length by omega)
    have HP : Hid (p = a) := by
      show _ = _
      rw [HO.out, if_neg (by omega), List.getD_eq_getElem?_getD, Int.toNat_natCast, hx.out]; rfl
    have hj0 : (0 : Int) ≤ (k : Int) := by omega
    have hj1 : (k : Int) < (l.length : Int) := by omega
    clear h0 h1 hol
    go_wp2
    (try simp only [Exit.inBlock, Exit.then])
    refine bodyPost_ret (results_cell2 rfl _ _ (w.heap.size + 1) _ _ _ _ rfl (setRow_row hres.out (l := [.int .i64 a.1, .int .i64 a.2]) rfl) Tryz.underlying103 rfl (by kernel_rfl)) rfl ?_
    rw [HP.out, HQ.out]
    exact ⟨rfl, below_setRow [.int .i64 a.1, .int .i64 a.2] w1 (w.heap.size + 1) 0 B1.out (by omega)⟩
theorem later_any (id : Int) (b : Nat) (w : World) (hb : b < w.heap.size) (hc : w.cell? ⟨b, 0, none⟩ = some (.int .i64 id)) : PredB 106 #[.pointer (some ⟨b, 0, none⟩)] (fun x => decide (id ≤ x.2)) w := by
  intro W x hw
  obtain ⟨x, y⟩ := x
  have hc2 : W.cell? ⟨b, 0, none⟩ = some (.int .i64 id) := by rw [(bcell hw).1 _ _ hb]; exact hc
  have hg2 : b < W.heap.size := Nat.lt_of_lt_of_le hb hw.size
  have hB := Lib.hid hw
  clear hc hw hb
  show Calls Tryz.prog 106 #[.agg #[.int .i64 x, .int .i64 y], .pointer (some ⟨b, 0, none⟩)] W _
  go_enter Tryz.func106, Tryz.ntmps106
  go_wp2
  go_ret
  exact ⟨rfl, hB.out.alloc hB.out.size _⟩
theorem bx0 {w : World} {o : Obj} : Below w.heap.size w (w.alloc o) := (Below.refl _ _).alloc (Nat.le_refl _) _
theorem wrap_small {d : Int} (h1 : -9223372036854775808 ≤ d) (h2 : d ≤ 9223372036854775807) : IntKind.i64.wrap d = d := by
  rw [IntKind.wrap_i64]
  omega
theorem box_row {w w1 : World} {cs : Array Value} {t : TypeId} (h : Below (w.alloc (.cells cs t)).heap.size (w.alloc (.cells cs t)) w1) : w1.heap[w.heap.size]? = some (.cells cs t (0, 0)) ∧ Below w.heap.size w w1 ∧ w.heap.size < w1.heap.size := by
  have h2 : w1.heap[w.heap.size]? = some (.cells cs t (0, 0)) := (h.block _ (by simp)).trans (heap_alloc_new w _)
  exact ⟨h2, bt bx0 h, (Array.getElem?_eq_some_iff.1 h2).1⟩
set_option maxHeartbeats 4000000 in
theorem jover_any (x : Jb) (A A2 : Option Addr) (c c2 : Nat) (w : World) :
    Calls Tryz.prog 110 #[jbV x A c A2 c2] w fun e w' => e = .returned (.bool (overB x)) ∧ Below w.heap.size w w' := by
  have q1 := Lib.hid (fun v => tick_any x.start v)
  have q2 := Lib.hid (fun v => tick_any x.limit v)
  unfold overB inB
  rw [jbV_is]
  have e14 : (jbA x A c A2 c2)[14]? = some (.int .i64 x.promise) := rfl
  have e15 : (jbA x A c A2 c2)[15]? = some (.int .i64 x.choice) := rfl
  have e16 : (jbA x A c A2 c2)[16]? = some (.int .i64 x.start) := rfl
  have e17 : (jbA x A c A2 c2)[17]? = some (.int .i64 x.limit) := rfl
  have e18 : (jbA x A c A2 c2)[18]? = some (.int .u64 x.nodes) := rfl
  have HS := Lib.hid (jbA_size x A c A2 c2)
  have H1 := Lib.hid (jbA_one x A c A2 c2)
  obtain ⟨cs, hcs⟩ : ∃ cs, Hid (jbA x A c A2 c2 = cs) := ⟨_, rfl⟩
  rw [hcs.out] at HS H1 e14 e15 e16 e17 e18 ⊢
  have hu : ((x.nodes : Int) == 0) = (x.nodes == 0) := by rw [Bool.eq_iff_iff]; simp
  obtain ⟨u, HU⟩ : ∃ u : Int, Hid ((x.nodes : Int) = u) := ⟨_, rfl⟩
  rw [HU.out] at e18
  rw [HU.out] at hu
  obtain ⟨z1, hz1⟩ : ∃ q, tickB x.start = q := ⟨_, rfl⟩
  obtain ⟨z2, hz2⟩ : ∃ q, tickB x.limit = q := ⟨_, rfl⟩
  rw [hz1] at q1 ⊢
  rw [hz2] at q2 ⊢
  obtain ⟨z3, hz3⟩ : ∃ q, (x.nodes == 0) = q := ⟨_, rfl⟩
  rw [hz3] at hu ⊢
  clear hz1 hz2 hz3
  cases z3
  case false =>
    go_enter Tryz.func110, Tryz.ntmps110
    go_wp2_with (first | (go_at_call 95; (first | (with_reducible refine (q1.out _).mono ?_) | (with_reducible refine (q2.out _).mono ?_)); rintro e w1 ⟨rfl, rfl⟩))
    go_ret
    exact ⟨by first | rfl | (rw [rfl] <;> rfl) | (simp []; done), bx0⟩
  cases z1
  case false =>
    go_enter Tryz.func110, Tryz.ntmps110
    go_wp2_with (first | (go_at_call 95; (first | (with_reducible refine (q1.out _).mono ?_) | (with_reducible refine (q2.out _).mono ?_)); rintro e w1 ⟨rfl, rfl⟩))
    go_ret
    exact ⟨by first | rfl | (rw [rfl] <;> rfl) | (simp []; done), bx0⟩
  cases z2
  case false =>
    go_enter Tryz.func110, Tryz.ntmps110
    go_wp2_with (first | (go_at_call 95; (first | (with_reducible refine (q1.out _).mono ?_) | (with_reducible refine (q2.out _).mono ?_)); rintro e w1 ⟨rfl, rfl⟩))
    go_ret
    exact ⟨by first | rfl | (rw [rfl] <;> rfl) | (simp []; done), bx0⟩
  cases p1 : decide (-1 ≤ x.promise)
  case false =>
    go_enter Tryz.func110, Tryz.ntmps110
    go_wp2_with (first | (go_at_call 95; (first | (with_reducible refine (q1.out _).mono ?_) | (with_reducible refine (q2.out _).mono ?_)); rintro e w1 ⟨rfl, rfl⟩))
    go_ret
    exact ⟨by first | rfl | (rw [p1] <;> rfl) | (simp [p1]; done), bx0⟩
  cases p2 : decide (x.promise ≤ 1000000)
  case false =>
    go_enter Tryz.func110, Tryz.ntmps110
    go_wp2_with (first | (go_at_call 95; (first | (with_reducible refine (q1.out _).mono ?_) | (with_reducible refine (q2.out _).mono ?_)); rintro e w1 ⟨rfl, rfl⟩))
    go_ret
    exact ⟨by first | rfl | (rw [p1, p2] <;> rfl) | (simp [p1, p2]; done), bx0⟩
  cases p3 : decide (0 ≤ x.choice)
  case false =>
    go_enter Tryz.func110, Tryz.ntmps110
    go_wp2_with (first | (go_at_call 95; (first | (with_reducible refine (q1.out _).mono ?_) | (with_reducible refine (q2.out _).mono ?_)); rintro e w1 ⟨rfl, rfl⟩))
    go_ret
    exact ⟨by first | rfl | (rw [p1, p2, p3] <;> rfl) | (simp [p1, p2, p3]; done), bx0⟩
  cases p4 : decide (x.choice ≤ 48)
  case false =>
    go_enter Tryz.func110, Tryz.ntmps110
    go_wp2_with (first | (go_at_call 95; (first | (with_reducible refine (q1.out _).mono ?_) | (with_reducible refine (q2.out _).mono ?_)); rintro e w1 ⟨rfl, rfl⟩))
    go_ret
    exact ⟨by first | rfl | (rw [p1, p2, p3, p4] <;> rfl) | (simp [p1, p2, p3, p4]; done), bx0⟩
  go_enter Tryz.func110, Tryz.ntmps110
  go_wp2_with (first | (go_at_call 95; (first | (with_reducible refine (q1.out _).mono ?_) | (with_reducible refine (q2.out _).mono ?_)); rintro e w1 ⟨rfl, rfl⟩))
  go_ret
  exact ⟨by first | rfl | (rw [p1, p2, p3, p4] <;> rfl) | (simp [p1, p2, p3, p4]; done), bx0⟩
end Go.Proofs.YtghmcdfmbjabnaaGreatDoor
