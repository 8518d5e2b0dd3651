/- Layer 8: lists of dependencies, as layer 7's lists of alternatives. -/
import Derived.Test.YtfnmmbfngniheaaGreatDoorShW6
import Derived.Test.YtfnmmbfngniheaaGreatDoorShW7
namespace Go.Proofs.YtfnmmbfngniheaaGreatDoor
set_option linter.unusedVariables false
open Go.RowKit
set_option maxHeartbeats 1000000 in
theorem idxD_any (p : Pr → Bool) (g : Nat) (lb : Array Value) (eg : ∀ args w, (callFunc g args).run Tryz.prog w = .ok (.enter g args) w) (A : Option Addr) (n c B : Nat) (l : List Pr) (w : World)
    (hr : Reads w B 2 A n (recs prC l)) (hB : B ≤ w.heap.size) (hn : n ≤ 1000000) (hp : PredB g lb p w) :
    Calls Tryz.prog 141 #[.slice A n c, .func (.func g) #[] lb] w fun e w' => e = .returned (.int .i64 (idxP p l)) ∧ Below w.heap.size w w' := by
  have hlen := hr.rec_len prC_len (by omega)
  have HP := Lib.hid hp
  clear hp
  go_enter Tryz.func141, Tryz.ntmps141
  go_wp2
  go_loopw [5, 8] (fun _ i wr => ∃ k : Nat, k ≤ n ∧ i = .int .i64 k ∧ Below w.heap.size w wr ∧ Hid (∀ j y, j < k → l[j]? = some y → p y = false)) (fun _ i _ => n - (intOf i).toNat)
  case atStart => exact ⟨0, Nat.zero_le _, rfl, Below.refl _ _, Lib.hid (fun j y hj => by omega)⟩
  case round =>
    obtain ⟨k, hk, rfl, hbr, HN⟩ := hrel
    by_cases hlt : k < n
    · have hr1 := hr.below (hbr.mono hB)
      obtain ⟨b, o, x, rfl, hbb, hx, c0, c1⟩ := hr1.pr_at hlt
      have hcall := Lib.hid (HP.out wr x hbr)
      have hj0 : (0 : Int) ≤ (k : Int) := by omega
      have hj1 : (k : Int) < (n : Int) := by omega
      have t0 : decide ((k : Int) < (n : Int)) = true := by simp; omega
      clear hr1
      cases hq : p x with
      | true =>
        rw [hq] at hcall
        have HR : Hid (idxP p l = (k : Int)) := by show _ = _; exact idxP_hit hx.out hq HN.out
        go_wp2_with (go_at_fn g; refine hcall.out.mono ?_; rintro e w' ⟨rfl, hb'⟩)
        go_ret
        exact ⟨by rw [HR.out]; rfl, hb'⟩
      | false =>
        rw [hq] at hcall
        have HN2 : Hid (∀ j y, j < k + 1 → l[j]? = some y → p y = false) := Lib.hid (fun j y hj hy => by
          by_cases e : j = k
          · subst e; rw [hx.out] at hy; rw [← Option.some.inj hy]; exact hq
          · exact HN.out j y (by omega) hy)
        go_wp2_with (go_at_fn g; refine hcall.out.mono ?_; rintro e w' ⟨rfl, hb'⟩)
        go_roundw
        case rel => exact ⟨k + 1, by omega, by simp, hb', HN2⟩
        case measure => simp [intOf]; omega
    · obtain rfl : k = n := by omega
      have t0 : decide ((k : Int) < (k : Int)) = false := by simp
      have HR : Hid (idxP p l = -1) := by show _ = _; exact idxP_miss (fun j y hj hy => HN.out j y (by rw [← hlen.out]; exact hj) hy)
      go_wp2
      go_ret
      exact ⟨by rw [HR.out]; rfl, hbr⟩
theorem hasD_any (p : Pr → Bool) (g : Nat) (lb : Array Value) (eg : ∀ args w, (callFunc g args).run Tryz.prog w = .ok (.enter g args) w) (A : Option Addr) (n c B : Nat) (l : List Pr) (w : World)
    (hr : Reads w B 2 A n (recs prC l)) (hB : B ≤ w.heap.size) (hn : n ≤ 1000000) (hp : PredB g lb p w) :
    Calls Tryz.prog 73 #[.slice A n c, .func (.func g) #[] lb] w fun e w' => e = .returned (.bool (l.any p)) ∧ Below w.heap.size w w' := by
  have hc := Lib.hid (idxD_any p g lb eg A n c B l w hr hB hn hp)
  have HR := Lib.hid (idxP_any p l)
  obtain ⟨i, hi⟩ : ∃ i, Hid (idxP p l = i) := ⟨_, rfl⟩
  rw [hi.out] at hc HR
  clear hr hp
  go_enter Tryz.func73, Tryz.ntmps73
  go_wp2_with (fail)
  refine hc.out.mono ?_; rintro e w' ⟨rfl, hb'⟩
  go_wp2
  go_ret
  exact ⟨by rw [← HR.out]; rfl, hb'⟩
set_option maxRecDepth 100000 in
theorem prD_equalIn (x y : Pr) (v : World) : (Op.equalIn 10000 86 (.agg #[.int .i64 x.1, .int .i64 x.2]) (.agg #[.int .i64 y.1, .int .i64 y.2])).run Tryz.prog v = .ok (decide (x = y)) v := by
  rw [run_equalIn_agg v _ _ _ _ (by kernel_rfl) (by kernel_rfl)]
  have e : (Tryz.prog.fieldsOf 86).toList = [{ name := "How", type := 3, offset := 0, embedded := false, tag := "", pkgPath := "", byteOffset := 0 }, { name := "Job", type := 3, offset := 1, embedded := false, tag := "", pkgPath := "", byteOffset := 8 }] := by kernel_rfl
  rw [e]
  obtain ⟨x1, x2⟩ := x
  obtain ⟨y1, y2⟩ := y
  simp [go_sem, Op.eqFields]
  repeat' split
  all_goals simp_all
theorem prD_neq (x y : Pr) (v : World) : (binOp .neq 86 (.agg #[.int .i64 x.1, .int .i64 x.2]) (.agg #[.int .i64 y.1, .int .i64 y.2])).run Tryz.prog v = .ok (.bool (!decide (x = y))) v := by
  rw [run_neq_struct, prD_equalIn]; rfl
set_option maxHeartbeats 1000000 in
theorem equalD_any (A A2 : Option Addr) (n m c c2 B : Nat) (l l2 : List Pr) (w : World) (hr : Reads w B 2 A n (recs prC l)) (hr2 : Reads w B 2 A2 m (recs prC l2)) (hn : n ≤ 1000000) (hm : m ≤ 1000000) (hB : B ≤ w.heap.size) :
    Calls Tryz.prog 81 #[.slice A n c, .slice A2 m c2] w fun e w' => e = .returned (.bool (decide (l = l2))) ∧ Below w.heap.size w w' := by
  have hlen : Hid (l.length = n) := hr.rec_len prC_len (by omega)
  have hlen2 : Hid (l2.length = m) := hr2.rec_len prC_len (by omega)
  obtain ⟨R, hR⟩ : ∃ R, Hid (decide (l = l2) = R) := ⟨_, rfl⟩
  rw [hR.out]
  by_cases hnm : n = m
  · subst hnm
    have t0 : ((n : Int) != (n : Int)) = false := by simp
    go_enter Tryz.func81, Tryz.ntmps81
    go_wp2
    go_loopw [5, 13] (fun _ i wr => ∃ (k p : Nat), k ≤ n ∧ i = .int .i64 k ∧ wr = w.drewN p ∧ Hid (l.take k = l2.take k)) (fun _ i _ => n - (intOf i).toNat)
    case atStart => exact ⟨0, 0, Nat.zero_le _, rfl, rfl, by show _ = _; simp⟩
    case round =>
      obtain ⟨k, p, hk, rfl, rfl, HO⟩ := hrel
      by_cases hlt : k < n
      · have t1 : decide ((k : Int) < (n : Int)) = true := by simp; omega
        obtain ⟨b, o, x, rfl, hbb, hx, c0, c1⟩ := hr.pr_at hlt
        obtain ⟨b2, o2, y, rfl, hbb2, hy, d0, d1⟩ := hr2.pr_at hlt
        have hj0 : (0 : Int) ≤ (k : Int) := by omega
        have hj1 : (k : Int) < (n : Int) := by omega
        have hneq := fun v => prD_neq x y v
        by_cases hxy : x = y
        · have e : decide (x = y) = true := decide_eq_true hxy
          rw [e] at hneq
          have HO2 : Hid (l.take (k + 1) = l2.take (k + 1)) := by
            show _ = _
            rw [List.take_add_one, List.take_add_one, hx.out, hy.out, HO.out, hxy]
          clear e hxy hr hr2
          go_wp2
          go_quiet (fail)
          go_wp2
          go_roundw
          case rel => exact ⟨k + 1, _, by omega, by go_num, by first | rfl | exact World.drewN_drewN _ _ _, HO2⟩
          case measure => simp [intOf]; omega
        · have e : decide (x = y) = false := decide_eq_false hxy
          rw [e] at hneq
          have HR : Hid (R = false) := by
            show _ = _
            rw [← hR.out]
            refine decide_eq_false (fun hl => hxy ?_)
            have h1 := hx.out
            rw [hl, hy.out] at h1
            exact (Option.some.inj h1).symm
          clear e hxy hr hr2
          go_wp2
          go_quiet (fail)
          go_wp2
          go_ret
          exact ⟨by rw [HR.out]; rfl, below_drewN (below_drewN (Below.refl _ _) _) _⟩
      · obtain rfl : k = n := by omega
        have t1 : decide ((k : Int) < (k : Int)) = false := by simp
        have HR : Hid (R = true) := by
          show _ = _
          rw [← hR.out]
          refine decide_eq_true ?_
          have h1 := HO.out
          rwa [List.take_of_length_le (by rw [hlen.out]; exact Nat.le_refl _), List.take_of_length_le (by rw [hlen2.out]; exact Nat.le_refl _)] at h1
        go_wp2
        go_ret
        exact ⟨by rw [HR.out]; rfl, below_drewN (Below.refl _ _) _⟩
  · have t0 : ((n : Int) != (m : Int)) = true := by simp; omega
    have HR : Hid (R = false) := by
      show _ = _
      rw [← hR.out]
      exact decide_eq_false (fun hl => hnm (by rw [← hlen.out, ← hlen2.out, hl]))
    clear hnm
    go_enter Tryz.func81, Tryz.ntmps81
    go_wp2
    go_ret
    exact ⟨by rw [HR.out]; rfl, Below.refl _ _⟩
theorem Tryz.infoD : (Tryz.prog.info? 86).map (fun i => (i.zero, i.size, i.bytes)) = some (some (.agg #[.int .i64 0, .int .i64 0]), 2, 16) := by kernel_rfl
theorem app_d {w : World} {ops : Array Oper} {rest : List Oper} {o : Oper} {a : Act} {Q : Exit → Act → World → Prop} {s x : Operand}
    (hgd : o.guard = none) (ho : o.op = .call { callee := .builtin .append, args := #[s, x], argTypes := #[25, 25] })
    (base : Nat) {v : Value} {n : Nat} {xs : List Pr} (hs : a.eval s = v) (hown : Owns w base 86 2 v n (recs prC xs))
    {B : Nat} {A : Option Addr} {m c : Nat} {news : List Pr} (hx : a.eval x = .slice A m c) (hr : Reads w B 2 A m (recs prC news))
    (hlen : n + m ≤ 1000000) (hbase : base ≤ w.heap.size)
    (h : ∀ v' w', Owns w' base 86 2 v' (n + m) (recs prC (xs ++ news)) → AppKeeps base v w w' → (v'.ownBlock = v.ownBlock ∨ v'.ownBlock = some w.heap.size) → wpList Tryz.prog ops Q rest (a.put o.dst v') w') : wpList Tryz.prog ops Q (o :: rest) a w :=
  wp_app hgd ho Tryz.underlying25 Tryz.infoD rfl (by omega) base hs hown hx hr (recs_one prC_one _) (by simp only [maxLen]; omega) (by omega) hbase (fun v' w' h1 => h v' w' (by rw [recs_append]; exact h1))
theorem eqD_nil (A : Option Addr) (n c : Nat) (v : World) : (binOp .eql 25 (.slice A n c) (.slice none 0 0)).run Tryz.prog v = .ok (.bool A.isNone) v := Lib.run_eql_slice_nil v 25 86 A n c 0 0 Tryz.underlying25
set_option maxHeartbeats 1000000 in
set_option maxRecDepth 100000 in
theorem cloneD_any (A : Option Addr) (n c B : Nat) (l : List Pr) (w : World) (hr : Reads w B 2 A n (recs prC l)) (hB : B ≤ w.heap.size) (hn : n ≤ 100000) :
    Calls Tryz.prog 132 #[.slice A n c] w (RetOwn w 86 2 n (recs prC l)) := by
  have hlen := hr.rec_len prC_len (by omega)
  have heq := fun v => eqD_nil A n c v
  cases hA : A with
  | none =>
    subst hA
    rw [show (none : Option Addr).isNone = true from rfl] at heq
    have h0 : n = 0 := by
      rcases Nat.eq_zero_or_pos n with h | h
      · exact h
      · obtain ⟨ad, e, _⟩ := hr.2 h; cases e
    have hl : l = [] := List.length_eq_zero_iff.1 (by rw [hlen.out, h0])
    subst h0 hl
    clear hr hlen
    go_enter Tryz.func132, Tryz.ntmps132
    go_wp2
    go_ret
    exact ⟨_, rfl, Owns.nil, Below.refl _ _⟩
  | some ad =>
    subst hA
    rw [show (some ad).isNone = false from rfl] at heq
    have hr2 := Lib.hid (hr.below ((Below.refl B w).alloc hB (.cells #[] 86)))
    have h0 := Lib.hid (Owns.madeN w [] 86 (n := 0) (size := 2) (B := w.heap.size) rfl (by simp [maxLen]) (Nat.le_refl _))
    have hb := (Below.refl w.heap.size w).alloc (Nat.le_refl _) (.cells #[] 86)
    go_enter Tryz.func132, Tryz.ntmps132
    go_wp2_with (at_builtin; refine app_d (xs := []) rfl rfl w.heap.size rfl h0.out rfl hr2.out (by omega) (by simp) ?_)
    intro v4 w4 o4 k4 _
    have kb4 := k4.below hb (Nat.le_refl _) (by simp)
    have O4 := Lib.hid o4
    clear k4 o4
    go_wp2
    go_ret
    exact ⟨_, rfl, O4.out, kb4⟩
theorem elemD : Tryz.prog.elem 25 = 86 := by kernel_rfl
theorem sizeD (v : World) : (sizeOf (Tryz.prog.elem 25)).run Tryz.prog v = .ok 2 v := by rw [elemD]; exact Tryz.sizeOf86 v
set_option maxRecDepth 1000000 in
theorem cutD_hi {b o n c : Nat} {i : Nat} (hi : i ≤ n) (hc : n ≤ c) (h0 : 0 < n) :
    (∀ v : World, (Instr.slice 25 (.slice (some ⟨b, o, none⟩) n c) none (some (.int .i64 (i : Int))) none).run Tryz.prog v = .ok (.slice (some ⟨b, o, none⟩) i c) v) ∧
      (∀ v : World, (Instr.sliceAt 25 (.slice (some ⟨b, o, none⟩) n c) none (some (.int .i64 (i : Int))) none).run Tryz.prog v = .ok (.slice (some ⟨b, o, none⟩) i c) v) := by
  have h1 : ∀ v : World, (Instr.slice 25 (.slice (some ⟨b, o, none⟩) n c) none (some (.int .i64 (i : Int))) none).run Tryz.prog v = .ok (.slice (some ⟨b, o, none⟩) i c) v := by
    intro v
    rw [run_slice_h v 25 _ n c Tryz.underlying25 .i64 (i : Int) (by omega) (by omega), sizeD v]
    have hne : ¬ c = 0 := by omega
    simp [Result.andThen, sliced, hne, Addr.add]
  exact ⟨h1, fun v => by rw [run_sliceAt_slice v _ _ _ _ _ Tryz.underlying25]; exact h1 v⟩
end Go.Proofs.YtfnmmbfngniheaaGreatDoor
