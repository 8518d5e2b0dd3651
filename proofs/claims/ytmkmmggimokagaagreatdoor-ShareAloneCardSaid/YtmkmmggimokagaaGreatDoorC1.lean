/- Layer 8: lists of dependencies, as layer 7's lists of alternatives. Layer 8: numbers within two; dependencies, walked. Layer 8: names; a command as a value. -/
import Derived.Test.YtmkmmggimokagaaGreatDoorS1
import Derived.Test.YtmkmmggimokagaaGreatDoorK3
namespace Go.Proofs.YtmkmmggimokagaaGreatDoor
set_option linter.unusedVariables false
open Go.RowKit
set_option maxHeartbeats 1000000 in
theorem idxD_any (p : Pr → Bool) (g : Nat) (lb : Array Value) (eg : ∀ args w, (callFunc g args).run Tryz.prog w = .ok (.enter g args) w) (A : Option Addr) (n c B : Nat) (l : List Pr) (w : World)
    (hr : Reads w B 2 A n (recs prC l)) (hB : B ≤ w.heap.size) (hn : n ≤ 1000000) (hp : PredB g lb p w) :
    Calls Tryz.prog 50 #[.slice A n c, .func (.func g) #[] lb] w fun e w' => e = .returned (.int .i64 (idxP p l)) ∧ Below w.heap.size w w' := by
  have hlen := hr.rec_len prC_len (by omega)
  have HP := Lib.hid hp
  clear hp
  go_enter Tryz.func50, Tryz.ntmps50
  go_wp2
  go_loopw [5, 8] (fun _ i wr => ∃ k : Nat, k ≤ n ∧ i = .int .i64 k ∧ Below w.heap.size w wr ∧ Hid (∀ j y, j < k → l[j]? = some y → p y = false)) (fun _ i _ => n - (intOf i).toNat)
  case atStart => exact ⟨0, Nat.zero_le _, rfl, Below.refl _ _, Lib.hid (fun j y hj => by omega)⟩
  case round =>
    obtain ⟨k, hk, rfl, hbr, HN⟩ := hrel
    by_cases hlt : k < n
    · have hr1 := hr.below (hbr.mono hB)
      obtain ⟨b, o, x, rfl, hbb, hx, c0, c1⟩ := hr1.pr_at hlt
      have hcall := Lib.hid (HP.out wr x hbr)
      have hj0 : (0 : Int) ≤ (k : Int) := by omega
      have hj1 : (k : Int) < (n : Int) := by omega
      have t0 : decide ((k : Int) < (n : Int)) = true := by simp; omega
      clear hr1
      cases hq : p x with
      | true =>
        rw [hq] at hcall
        have HR : Hid (idxP p l = (k : Int)) := by show _ = _; exact idxP_hit hx.out hq HN.out
        go_wp2_with (go_at_fn g; refine hcall.out.mono ?_; rintro e w' ⟨rfl, hb'⟩)
        go_ret
        exact ⟨by rw [HR.out]; rfl, hb'⟩
      | false =>
        rw [hq] at hcall
        have HN2 : Hid (∀ j y, j < k + 1 → l[j]? = some y → p y = false) := Lib.hid (fun j y hj hy => by
          by_cases e : j = k
          · subst e; rw [hx.out] at hy; rw [← Option.some.inj hy]; exact hq
          · exact HN.out j y (by omega) hy)
        go_wp2_with (go_at_fn g; refine hcall.out.mono ?_; rintro e w' ⟨rfl, hb'⟩)
        go_roundw
        case rel => exact ⟨k + 1, by omega, by simp, hb', HN2⟩
        case measure => simp [intOf]; omega
    · obtain rfl : k = n := by omega
      have t0 : decide ((k : Int) < (k : Int)) = false := by simp
      have HR : Hid (idxP p l = -1) := by show _ = _; exact idxP_miss (fun j y hj hy => HN.out j y (by rw [← hlen.out]; exact hj) hy)
      go_wp2
      go_ret
      exact ⟨by rw [HR.out]; rfl, hbr⟩
theorem hasD_any (p : Pr → Bool) (g : Nat) (lb : Array Value) (eg : ∀ args w, (callFunc g args).run Tryz.prog w = .ok (.enter g args) w) (A : Option Addr) (n c B : Nat) (l : List Pr) (w : World)
    (hr : Reads w B 2 A n (recs prC l)) (hB : B ≤ w.heap.size) (hn : n ≤ 1000000) (hp : PredB g lb p w) :
    Calls Tryz.prog 31 #[.slice A n c, .func (.func g) #[] lb] w fun e w' => e = .returned (.bool (l.any p)) ∧ Below w.heap.size w w' := by
  have hc := Lib.hid (idxD_any p g lb eg A n c B l w hr hB hn hp)
  have HR := Lib.hid (idxP_any p l)
  obtain ⟨i, hi⟩ : ∃ i, Hid (idxP p l = i) := ⟨_, rfl⟩
  rw [hi.out] at hc HR
  clear hr hp
  go_enter Tryz.func31, Tryz.ntmps31
  go_wp2_with (fail)
  refine hc.out.mono ?_; rintro e w' ⟨rfl, hb'⟩
  go_wp2
  go_ret
  exact ⟨by rw [← HR.out]; rfl, hb'⟩
set_option maxRecDepth 100000 in
theorem prD_equalIn (x y : Pr) (v : World) : (Op.equalIn 10000 72 (.agg #[.int .i64 x.1, .int .i64 x.2]) (.agg #[.int .i64 y.1, .int .i64 y.2])).run Tryz.prog v = .ok (decide (x = y)) v := by
  rw [run_equalIn_agg v _ _ _ _ (by kernel_rfl) (by kernel_rfl)]
  have e : (Tryz.prog.fieldsOf 72).toList = [{ name := "How", type := 3, offset := 0, embedded := false, tag := "", pkgPath := "", byteOffset := 0 }, { name := "Job", type := 3, offset := 1, embedded := false, tag := "", pkgPath := "", byteOffset := 8 }] := by kernel_rfl
  rw [e]
  obtain ⟨x1, x2⟩ := x
  obtain ⟨y1, y2⟩ := y
  simp [go_sem, Op.eqFields]
  repeat' split
  all_goals simp_all
theorem prD_neq (x y : Pr) (v : World) : (binOp .neq 72 (.agg #[.int .i64 x.1, .int .i64 x.2]) (.agg #[.int .i64 y.1, .int .i64 y.2])).run Tryz.prog v = .ok (.bool (!decide (x = y))) v := by
  rw [run_neq_struct, prD_equalIn]; rfl
set_option maxHeartbeats 1000000 in
theorem equalD_any (A A2 : Option Addr) (n m c c2 B : Nat) (l l2 : List Pr) (w : World) (hr : Reads w B 2 A n (recs prC l)) (hr2 : Reads w B 2 A2 m (recs prC l2)) (hn : n ≤ 1000000) (hm : m ≤ 1000000) (hB : B ≤ w.heap.size) :
    Calls Tryz.prog 70 #[.slice A n c, .slice A2 m c2] w fun e w' => e = .returned (.bool (decide (l = l2))) ∧ Below w.heap.size w w' := by
  have hlen : Hid (l.length = n) := hr.rec_len prC_len (by omega)
  have hlen2 : Hid (l2.length = m) := hr2.rec_len prC_len (by omega)
  obtain ⟨R, hR⟩ : ∃ R, Hid (decide (l = l2) = R) := ⟨_, rfl⟩
  rw [hR.out]
  by_cases hnm : n = m
  · subst hnm
    have t0 : ((n : Int) != (n : Int)) = false := by simp
    go_enter Tryz.func70, Tryz.ntmps70
    go_wp2
    go_loopw [5, 13] (fun _ i wr => ∃ (k p : Nat), k ≤ n ∧ i = .int .i64 k ∧ wr = w.drewN p ∧ Hid (l.take k = l2.take k)) (fun _ i _ => n - (intOf i).toNat)
    case atStart => exact ⟨0, 0, Nat.zero_le _, rfl, rfl, by show _ = _; simp⟩
    case round =>
      obtain ⟨k, p, hk, rfl, rfl, HO⟩ := hrel
      by_cases hlt : k < n
      · have t1 : decide ((k : Int) < (n : Int)) = true := by simp; omega
        obtain ⟨b, o, x, rfl, hbb, hx, c0, c1⟩ := hr.pr_at hlt
        obtain ⟨b2, o2, y, rfl, hbb2, hy, d0, d1⟩ := hr2.pr_at hlt
        have hj0 : (0 : Int) ≤ (k : Int) := by omega
        have hj1 : (k : Int) < (n : Int) := by omega
        have hneq := fun v => prD_neq x y v
        by_cases hxy : x = y
        · have e : decide (x = y) = true := decide_eq_true hxy
          rw [e] at hneq
          have HO2 : Hid (l.take (k + 1) = l2.take (k + 1)) := by
            show _ = _
            rw [List.take_add_one, List.take_add_one, hx.out, hy.out, HO.out, hxy]
          clear e hxy hr hr2
          go_wp2
          go_quiet (fail)
          go_wp2
          go_roundw
          case rel => exact ⟨k + 1, _, by omega, by go_num, by first | rfl | exact World.drewN_drewN _ _ _, HO2⟩
          case measure => simp [intOf]; omega
        · have e : decide (x = y) = false := decide_eq_false hxy
          rw [e] at hneq
          have HR : Hid (R = false) := by
            show _ = _
            rw [← hR.out]
            refine decide_eq_false (fun hl => hxy ?_)
            have h1 := hx.out
            rw [hl, hy.out] at h1
            exact (Option.some.inj h1).symm
          clear e hxy hr hr2
          go_wp2
          go_quiet (fail)
          go_wp2
          go_ret
          exact ⟨by rw [HR.out]; rfl, below_drewN (below_drewN (Below.refl _ _) _) _⟩
      · obtain rfl : k = n := by omega
        have t1 : decide ((k : Int) < (k : Int)) = false := by simp
        have HR : Hid (R = true) := by
          show _ = _
          rw [← hR.out]
          refine decide_eq_true ?_
          have h1 := HO.out
          rwa [List.take_of_length_le (by rw [hlen.out]; exact Nat.le_refl _), List.take_of_length_le (by rw [hlen2.out]; exact Nat.le_refl _)] at h1
        go_wp2
        go_ret
        exact ⟨by rw [HR.out]; rfl, below_drewN (Below.refl _ _) _⟩
  · have t0 : ((n : Int) != (m : Int)) = true := by simp; omega
    have HR : Hid (R = false) := by
      show _ = _
      rw [← hR.out]
      exact decide_eq_false (fun hl => hnm (by rw [← hlen.out, ← hlen2.out, hl]))
    clear hnm
    go_enter Tryz.func70, Tryz.ntmps70
    go_wp2
    go_ret
    exact ⟨by rw [HR.out]; rfl, Below.refl _ _⟩
theorem Tryz.infoD : (Tryz.prog.info? 72).map (fun i => (i.zero, i.size, i.bytes)) = some (some (.agg #[.int .i64 0, .int .i64 0]), 2, 16) := by kernel_rfl
theorem app_d {w : World} {ops : Array Oper} {rest : List Oper} {o : Oper} {a : Act} {Q : Exit → Act → World → Prop} {s x : Operand}
    (hgd : o.guard = none) (ho : o.op = .call { callee := .builtin .append, args := #[s, x], argTypes := #[26, 26] })
    (base : Nat) {v : Value} {n : Nat} {xs : List Pr} (hs : a.eval s = v) (hown : Owns w base 72 2 v n (recs prC xs))
    {B : Nat} {A : Option Addr} {m c : Nat} {news : List Pr} (hx : a.eval x = .slice A m c) (hr : Reads w B 2 A m (recs prC news))
    (hlen : n + m ≤ 1000000) (hbase : base ≤ w.heap.size)
    (h : ∀ v' w', Owns w' base 72 2 v' (n + m) (recs prC (xs ++ news)) → AppKeeps base v w w' → (v'.ownBlock = v.ownBlock ∨ v'.ownBlock = some w.heap.size) → wpList Tryz.prog ops Q rest (a.put o.dst v') w') : wpList Tryz.prog ops Q (o :: rest) a w :=
  wp_app hgd ho Tryz.underlying26 Tryz.infoD rfl (by omega) base hs hown hx hr (recs_one prC_one _) (by simp only [maxLen]; omega) (by omega) hbase (fun v' w' h1 => h v' w' (by rw [recs_append]; exact h1))
theorem eqD_nil (A : Option Addr) (n c : Nat) (v : World) : (binOp .eql 26 (.slice A n c) (.slice none 0 0)).run Tryz.prog v = .ok (.bool A.isNone) v := Lib.run_eql_slice_nil v 26 72 A n c 0 0 Tryz.underlying26
theorem elemD : Tryz.prog.elem 26 = 72 := by kernel_rfl
theorem sizeD (v : World) : (sizeOf (Tryz.prog.elem 26)).run Tryz.prog v = .ok 2 v := by rw [elemD]; exact Tryz.sizeOf72 v
set_option maxRecDepth 1000000 in
theorem cutD_hi {b o n c : Nat} {i : Nat} (hi : i ≤ n) (hc : n ≤ c) (h0 : 0 < n) :
    (∀ v : World, (Instr.slice 26 (.slice (some ⟨b, o, none⟩) n c) none (some (.int .i64 (i : Int))) none).run Tryz.prog v = .ok (.slice (some ⟨b, o, none⟩) i c) v) ∧
      (∀ v : World, (Instr.sliceAt 26 (.slice (some ⟨b, o, none⟩) n c) none (some (.int .i64 (i : Int))) none).run Tryz.prog v = .ok (.slice (some ⟨b, o, none⟩) i c) v) := by
  have h1 : ∀ v : World, (Instr.slice 26 (.slice (some ⟨b, o, none⟩) n c) none (some (.int .i64 (i : Int))) none).run Tryz.prog v = .ok (.slice (some ⟨b, o, none⟩) i c) v := by
    intro v
    rw [run_slice_h v 26 _ n c Tryz.underlying26 .i64 (i : Int) (by omega) (by omega), sizeD v]
    have hne : ¬ c = 0 := by omega
    simp [Result.andThen, sliced, hne, Addr.add]
  exact ⟨h1, fun v => by rw [run_sliceAt_slice v _ _ _ _ _ Tryz.underlying26]; exact h1 v⟩
def inB (n a b : Int) : Bool := decide (a ≤ n) && decide (n ≤ b)
def okDep (d : Pr) : Bool := inB d.1 1 3 && inB d.2 1 99999
def apartD (l : List Pr) : Bool := decide (l.map Prod.snd).Nodup
def depsB (l : List Pr) : Bool := l.all okDep && apartD l && decide (l.length ≤ 4)
theorem apartD_iff (l : List Pr) : apartD l = true ↔ ∀ (i j : Nat) (a b : Pr), i < j → l[i]? = some a → l[j]? = some b → a.2 ≠ b.2 := by
  unfold apartD
  rw [decide_eq_true_eq, List.nodup_iff_pairwise_ne, List.pairwise_iff_getElem]
  constructor
  · intro h i j a b hij ha hb
    obtain ⟨h1, h2⟩ := List.getElem?_eq_some_iff.1 ha
    obtain ⟨h3, h4⟩ := List.getElem?_eq_some_iff.1 hb
    have := h i j (by simpa using h1) (by simpa using h3) hij
    simp only [List.getElem_map] at this
    rw [h2, h4] at this
    exact this
  · intro h i j hi hj hij
    have hi' : i < l.length := by simpa using hi
    have hj' : j < l.length := by simpa using hj
    have := h i j _ _ hij (List.getElem?_eq_getElem hi') (List.getElem?_eq_getElem hj')
    simpa using this
def DepTo (l : List Pr) (i : Nat) : Prop := (∀ j (a : Pr), j < i → l[j]? = some a → okDep a = true) ∧ ∀ j k (a b : Pr), j < k → k < i → l[j]? = some a → l[k]? = some b → a.2 ≠ b.2
theorem depTo_next {l : List Pr} {i : Nat} {x : Pr} (h : DepTo l i) (hx : l[i]? = some x) (hf : okDep x = true) (hn : (l.take i).any (fun y => y.2 == x.2) = false) : DepTo l (i + 1) := by
  refine ⟨fun j a hj ha => ?_, fun j k a b hjk hk ha hb => ?_⟩
  · by_cases e : j = i
    · subst e; rw [hx] at ha; rw [← Option.some.inj ha]; exact hf
    · exact h.1 j a (by omega) ha
  · by_cases e : k = i
    · subst e
      rw [hx] at hb
      obtain rfl := Option.some.inj hb
      rw [List.any_eq_false] at hn
      have hm : a ∈ l.take k := List.mem_of_getElem? (i := j) (by rw [List.getElem?_take, if_pos hjk]; exact ha)
      have := hn a hm
      intro e
      exact this (by simp [e])
    · exact h.2 j k a b hjk (by omega) ha hb
theorem depTo_all {l : List Pr} (h : DepTo l l.length) : (l.all okDep && apartD l) = true := by
  have h1 : apartD l = true := by
    rw [apartD_iff]
    intro i j a b hij ha hb
    exact h.2 i j a b hij (List.getElem?_eq_some_iff.1 hb).1 ha hb
  have h2 : l.all okDep = true := by
    rw [List.all_eq_true]
    intro x hx
    obtain ⟨j, hj, e⟩ := List.mem_iff_getElem.1 hx
    exact h.1 j x hj (by rw [List.getElem?_eq_getElem hj, e])
  rw [h1, h2]; rfl
theorem dep_bad {l : List Pr} {i : Nat} {x : Pr} (hx : l[i]? = some x) (hf : okDep x = false) : depsB l = false := by
  have : l.all okDep = false := by
    rw [List.all_eq_false]
    exact ⟨x, List.mem_of_getElem? hx, by rw [hf]; decide⟩
  unfold depsB
  rw [this]; rfl
theorem dep_twice {l : List Pr} {i : Nat} {x : Pr} (hx : l[i]? = some x) (hn : (l.take i).any (fun y => y.2 == x.2) = true) : depsB l = false := by
  have : apartD l = false := by
    cases hq : apartD l with
    | false => rfl
    | true =>
      rw [apartD_iff] at hq
      obtain ⟨y, hy, e⟩ := List.any_eq_true.1 hn
      obtain ⟨j, hj, hj2⟩ := List.mem_iff_getElem.1 hy
      rw [List.length_take] at hj
      have h1 : l[j]? = some y := by
        rw [← hj2, List.getElem_take]
        exact List.getElem?_eq_getElem (by omega)
      exact absurd (by simpa using e : y.2 = x.2) (hq j i y x (by omega) h1 hx)
  unfold depsB
  rw [this, Bool.and_false]; rfl
theorem within8_any (n a b : Int) (w : World) : Calls Tryz.prog 62 #[.int .i64 n, .int .i64 a, .int .i64 b] w fun e w' => e = .returned (.bool (inB n a b)) ∧ w = w' := by
  unfold inB
  cases h1 : decide (a ≤ n) <;> cases h2 : decide (n ≤ b)
  all_goals
    go_enter Tryz.func62, Tryz.ntmps62
    go_wp2
    go_ret
    exact ⟨rfl, rfl⟩
theorem id_any (n : Int) (w : World) : Calls Tryz.prog 68 #[.int .i64 n] w fun e w' => e = .returned (.bool (inB n 1 99999)) ∧ w = w' := by
  have hc := Lib.hid (fun v => within8_any n 1 99999 v)
  go_enter Tryz.func68, Tryz.ntmps68
  go_wp2_with (fail)
  refine (hc.out _).mono ?_; rintro e w1 ⟨rfl, rfl⟩
  go_wp2
  go_ret
  exact ⟨rfl, rfl⟩
theorem length_any (n : Int) (w : World) : Calls Tryz.prog 63 #[.int .i64 n] w fun e w' => e = .returned (.bool (inB n 1 100000)) ∧ w = w' := by
  have hc := Lib.hid (fun v => within8_any n 1 100000 v)
  go_enter Tryz.func63, Tryz.ntmps63
  go_wp2_with (fail)
  refine (hc.out _).mono ?_; rintro e w1 ⟨rfl, rfl⟩
  go_wp2
  go_ret
  exact ⟨rfl, rfl⟩
theorem pred_dep (a : Pr) (g : Nat) (w : World) (hg : g < w.heap.size) (hc : w.cell? ⟨g, 1, none⟩ = some (.int .i64 a.2)) : PredB 88 #[.pointer (some ⟨g, 0, none⟩)] (fun x => x.2 == a.2) w := by
  intro W x hb
  obtain ⟨x, y⟩ := x
  have hc2 : W.cell? ⟨g, 1, none⟩ = some (.int .i64 a.2) := by rw [(bcell hb).1 _ _ hg]; exact hc
  have hg2 : g < W.heap.size := Nat.lt_of_lt_of_le hg hb.size
  have hB := Lib.hid hb
  clear hc hb hg
  show Calls Tryz.prog 88 #[.agg #[.int .i64 x, .int .i64 y], .pointer (some ⟨g, 0, none⟩)] W _
  go_enter Tryz.func88, Tryz.ntmps88
  go_wp2
  go_ret
  exact ⟨rfl, hB.out.alloc hB.out.size _⟩
set_option maxHeartbeats 2000000 in
theorem deps_any (A : Option Addr) (n c B : Nat) (l : List Pr) (w : World) (hr : Reads w B 2 A n (recs prC l)) (hB : B ≤ w.heap.size) (hn : n ≤ 1000000) (hcap : n ≤ c) :
    Calls Tryz.prog 66 #[.slice A n c] w fun e w' => e = .returned (.bool (depsB l)) ∧ Below w.heap.size w w' := by
  have hlen := hr.rec_len prC_len (by omega)
  have hmf : ∀ (fn : Fn) (first cap : Array Value) (w : World), (Instr.makeFunc fn first cap).run Tryz.prog w = .ok (.func fn first cap) w := fun _ _ _ _ => rfl
  go_enter Tryz.func66, Tryz.ntmps66
  go_wp2
  go_loopw [3, 4, 5, 8] (fun _ _ _ i wr => ∃ k : Nat, k ≤ n ∧ i = .int .i64 k ∧ Below w.heap.size w wr ∧ Hid (DepTo l k)) (fun _ _ _ i _ => n - (intOf i).toNat)
  case atStart => exact ⟨0, Nat.zero_le _, rfl, Below.refl _ _, Lib.hid ⟨fun j a h1 => by omega, fun j k a b h1 h2 => by omega⟩⟩
  case round =>
    obtain ⟨k, hk, rfl, hbr, HN⟩ := hrel
    by_cases hlt : k < n
    · have hr1 := hr.below (hbr.mono hB)
      obtain ⟨b, o, x, rfl, hbb, hx, c0, c1⟩ := hr1.pr_at hlt
      have hj0 : (0 : Int) ≤ (k : Int) := by omega
      have hj1 : (k : Int) < (n : Int) := by omega
      have t0 : decide ((k : Int) < (n : Int)) = true := by simp; omega
      obtain ⟨s1, s2⟩ := cutD_hi (b := b) (o := o) hk hcap (by omega)
      have hszr := hbr.size
      have hRP := Lib.hid (hr1.preR prC_len hk)
      have eg : ∀ args w, (callFunc 88 args).run Tryz.prog w = .ok (.enter 88 args) w := enters_of Tryz.func88 (by kernel_rfl) rfl
      have hbx : Below wr.heap.size wr (wr.alloc (.cells #[.int .i64 x.1, .int .i64 x.2] 72)) := (Below.refl _ _).alloc (Nat.le_refl _) _
      have hpa := pred_dep x wr.heap.size (wr.alloc (.cells #[.int .i64 x.1, .int .i64 x.2] 72)) (by simp) (cell_of_row (wr.alloc (.cells #[.int .i64 x.1, .int .i64 x.2] 72)) wr.heap.size 1 #[.int .i64 x.1, .int .i64 x.2] 72 (0, 0) (heap_alloc_new wr _))
      have hcall := Lib.hid (hasD_any (fun y => y.2 == x.2) 88 #[.pointer (some ⟨wr.heap.size, 0, none⟩)] eg (some ⟨b, o, none⟩) k c B (l.take k) (wr.alloc (.cells #[.int .i64 x.1, .int .i64 x.2] 72)) (hRP.out.below (hbx.mono (by omega))) (by simp; omega) (by omega) hpa)
      have HBX := Lib.hid (hbr.trans (hbx.mono hszr))
      have q1 := Lib.hid (fun v => within8_any x.1 1 3 v)
      have q2 := Lib.hid (fun v => id_any x.2 v)
      have hf : okDep x = (inB x.1 1 3 && inB x.2 1 99999) := rfl
      obtain ⟨z1, hz1⟩ : ∃ q, inB x.1 1 3 = q := ⟨_, rfl⟩
      obtain ⟨z2, hz2⟩ : ∃ q, inB x.2 1 99999 = q := ⟨_, rfl⟩
      obtain ⟨z3, hz3⟩ : ∃ q, (l.take k).any (fun y => y.2 == x.2) = q := ⟨_, rfl⟩
      rw [hz1] at q1 hf
      rw [hz2] at q2 hf
      rw [hz3] at hcall
      have HZ := Lib.hid hz3
      clear hpa hbx hr hr1 eg hz1 hz2 hz3
      go_wp2_with (fail)
      refine hcall.out.mono ?_; rintro e w2 ⟨rfl, hb2⟩
      have B2 := Lib.hid (HBX.out.trans (hb2.mono (by simp; omega)))
      have m0 : w2.cell? ⟨wr.heap.size, 0, none⟩ = some (.int .i64 x.1) := boxed_cell hb2 0
      have m1 : w2.cell? ⟨wr.heap.size, 1, none⟩ = some (.int .i64 x.2) := boxed_cell hb2 1
      clear hb2
      go_wp2_with (fail)
      refine (q1.out _).mono ?_; rintro e w3 ⟨rfl, rfl⟩
      cases z1
      · have HR : Hid (depsB l = false) := by show _ = _; exact dep_bad hx.out hf
        clear hf
        go_wp2
        go_ret
        exact ⟨by rw [HR.out]; rfl, B2.out⟩
      go_wp2_with (fail)
      refine (q2.out _).mono ?_; rintro e w3 ⟨rfl, rfl⟩
      cases z2
      · have HR : Hid (depsB l = false) := by show _ = _; exact dep_bad hx.out hf
        clear hf
        go_wp2
        go_ret
        exact ⟨by rw [HR.out]; rfl, B2.out⟩
      cases z3
      · have HN2 : Hid (DepTo l (k + 1)) := depTo_next HN.out hx.out hf HZ.out
        clear hf
        go_wp2
        go_roundw
        case rel => exact ⟨k + 1, by omega, by simp, B2.out, HN2⟩
        case measure => simp [intOf]; omega
      · have HR : Hid (depsB l = false) := by show _ = _; exact dep_twice hx.out HZ.out
        clear hf
        go_wp2
        go_ret
        exact ⟨by rw [HR.out]; rfl, B2.out⟩
    · obtain rfl : k = n := by omega
      have t0 : decide ((k : Int) < (k : Int)) = false := by simp
      have HR : Hid (depsB l = decide (k ≤ 4)) := by
        show _ = _
        unfold depsB
        rw [depTo_all (by rw [hlen.out]; exact HN.out), hlen.out, Bool.true_and]
      obtain ⟨z, hz⟩ : ∃ q, decide (k ≤ 4) = q := ⟨_, rfl⟩
      have hz2 : decide ((k : Int) ≤ 4) = z := by rw [← hz]; congr 1; apply propext; omega
      rw [hz] at HR
      go_wp2
      go_ret
      exact ⟨by rw [HR.out]; rfl, hbr⟩
def nameB (s : ByteArray) : Bool := (checkE (bl s) == 0) && inB (checkN (bl s)) 1 16
set_option maxRecDepth 100000 in
theorem name_any (s : ByteArray) (w : World) (hs : s.size ≤ 1000000) : Calls Tryz.prog 64 #[.string s] w fun e w' => e = .returned (.bool (nameB s)) ∧ Below w.heap.size w w' := by
  have hc := Lib.hid (check_any s w (by unfold maxLen; omega))
  have hw := Lib.hid (fun v => within8_any (checkN (bl s)) 1 16 v)
  have HB : Hid (nameB s = ((checkE (bl s) == 0) && inB (checkN (bl s)) 1 16)) := rfl
  obtain ⟨er, he⟩ : ∃ n, checkE (bl s) = n := ⟨_, rfl⟩
  obtain ⟨n, hn⟩ : ∃ n : Int, checkN (bl s) = n := ⟨_, rfl⟩
  rw [he] at hc HB
  rw [hn] at hc hw HB
  obtain ⟨q, hq⟩ : ∃ q, inB n 1 16 = q := ⟨_, rfl⟩
  rw [hq] at hw HB
  clear hq he hn
  rw [HB.out]
  by_cases h0 : er = 0
  · subst h0
    go_enter Tryz.func64, Tryz.ntmps64
    go_wp2_with (fail)
    refine hc.out.mono ?_; rintro e w1 ⟨rfl, hb1⟩
    go_wp2_with (fail)
    refine (hw.out _).mono ?_; rintro e w2 ⟨rfl, rfl⟩
    go_wp2
    go_ret
    exact ⟨by cases q <;> rfl, hb1⟩
  · have t0 : (er == 0) = false := by simpa using h0
    rw [t0]
    clear h0
    go_enter Tryz.func64, Tryz.ntmps64
    go_wp2_with (fail)
    refine hc.out.mono ?_; rintro e w1 ⟨rfl, hb1⟩
    go_wp2
    go_ret
    exact ⟨rfl, hb1⟩
/-- a command -/
structure Cm where
  kind : Int
  job : Int
  name : ByteArray
  user : ByteArray
  account : ByteArray
  shape : Sh
  prio : Int
  hasPrio : Bool
  time : Int
  hasTime : Bool
  after : List Pr
  node : Int
  nodes : Int
  frm : Int
def cmV (x : Cm) (A : Option Addr) (c : Nat) (A2 : Option Addr) (c2 : Nat) : Value :=
  .agg #[.int .i64 x.kind, .int .i64 x.job, .string x.name, .string x.user, .string x.account, .int .i64 x.shape.kind, .slice A x.shape.alts.length c, .int .i64 x.shape.mn, .int .i64 x.shape.mx, .int .i64 x.shape.wall,
    .int .i64 x.prio, .bool x.hasPrio, .int .i64 x.time, .bool x.hasTime, .slice A2 x.after.length c2, .int .i64 x.node, .int .i64 x.nodes, .int .i64 x.frm]
/-- a command's lists lie in a world -/
def CmAt (w : World) (B : Nat) (x : Cm) (A : Option Addr) (c : Nat) (A2 : Option Addr) (c2 : Nat) : Prop :=
  Reads w B 2 A x.shape.alts.length (recs prC x.shape.alts) ∧ Reads w B 2 A2 x.after.length (recs prC x.after) ∧ x.shape.alts.length ≤ 100000 ∧ x.after.length ≤ 100000 ∧ x.shape.alts.length ≤ c ∧ x.after.length ≤ c2
theorem CmAt.below {w w' : World} {B : Nat} {x : Cm} {A A2 : Option Addr} {c c2 : Nat} (h : CmAt w B x A c A2 c2) (hb : Below B w w') : CmAt w' B x A c A2 c2 :=
  ⟨h.1.below hb, h.2.1.below hb, h.2.2⟩
end Go.Proofs.YtmkmmggimokagaaGreatDoor
