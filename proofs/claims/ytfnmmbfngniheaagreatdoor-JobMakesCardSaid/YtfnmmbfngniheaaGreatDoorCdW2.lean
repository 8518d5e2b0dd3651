/- Layer 8: numbers within two; dependencies, walked. -/
import Derived.Test.YtfnmmbfngniheaaGreatDoorCdW1
import Derived.Test.YtfnmmbfngniheaaGreatDoorShW3
namespace Go.Proofs.YtfnmmbfngniheaaGreatDoor
set_option linter.unusedVariables false
open Go.RowKit
def inB (n a b : Int) : Bool := decide (a ≤ n) && decide (n ≤ b)
def okDep (d : Pr) : Bool := inB d.1 1 3 && inB d.2 1 99999
def apartD (l : List Pr) : Bool := decide (l.map Prod.snd).Nodup
def depsB (l : List Pr) : Bool := l.all okDep && apartD l && decide (l.length ≤ 4)
theorem apartD_iff (l : List Pr) : apartD l = true ↔ ∀ (i j : Nat) (a b : Pr), i < j → l[i]? = some a → l[j]? = some b → a.2 ≠ b.2 := by
  unfold apartD
  rw [decide_eq_true_eq, List.nodup_iff_pairwise_ne, List.pairwise_iff_getElem]
  constructor
  · intro h i j a b hij ha hb
    obtain ⟨h1, h2⟩ := List.getElem?_eq_some_iff.1 ha
    obtain ⟨h3, h4⟩ := List.getElem?_eq_some_iff.1 hb
    have := h i j (by simpa using h1) (by simpa using h3) hij
    simp only [List.getElem_map] at this
    rw [h2, h4] at this
    exact this
  · intro h i j hi hj hij
    have hi' : i < l.length := by simpa using hi
    have hj' : j < l.length := by simpa using hj
    have := h i j _ _ hij (List.getElem?_eq_getElem hi') (List.getElem?_eq_getElem hj')
    simpa using this
def DepTo (l : List Pr) (i : Nat) : Prop := (∀ j (a : Pr), j < i → l[j]? = some a → okDep a = true) ∧ ∀ j k (a b : Pr), j < k → k < i → l[j]? = some a → l[k]? = some b → a.2 ≠ b.2
theorem depTo_next {l : List Pr} {i : Nat} {x : Pr} (h : DepTo l i) (hx : l[i]? = some x) (hf : okDep x = true) (hn : (l.take i).any (fun y => y.2 == x.2) = false) : DepTo l (i + 1) := by
  refine ⟨fun j a hj ha => ?_, fun j k a b hjk hk ha hb => ?_⟩
  · by_cases e : j = i
    · subst e; rw [hx] at ha; rw [← Option.some.inj ha]; exact hf
    · exact h.1 j a (by omega) ha
  · by_cases e : k = i
    · subst e
      rw [hx] at hb
      obtain rfl := Option.some.inj hb
      rw [List.any_eq_false] at hn
      have hm : a ∈ l.take k := List.mem_of_getElem? (i := j) (by rw [List.getElem?_take, if_pos hjk]; exact ha)
      have := hn a hm
      intro e
      exact this (by simp [e])
    · exact h.2 j k a b hjk (by omega) ha hb
theorem depTo_all {l : List Pr} (h : DepTo l l.length) : (l.all okDep && apartD l) = true := by
  have h1 : apartD l = true := by
    rw [apartD_iff]
    intro i j a b hij ha hb
    exact h.2 i j a b hij (List.getElem?_eq_some_iff.1 hb).1 ha hb
  have h2 : l.all okDep = true := by
    rw [List.all_eq_true]
    intro x hx
    obtain ⟨j, hj, e⟩ := List.mem_iff_getElem.1 hx
    exact h.1 j x hj (by rw [List.getElem?_eq_getElem hj, e])
  rw [h1, h2]; rfl
theorem dep_bad {l : List Pr} {i : Nat} {x : Pr} (hx : l[i]? = some x) (hf : okDep x = false) : depsB l = false := by
  have : l.all okDep = false := by
    rw [List.all_eq_false]
    exact ⟨x, List.mem_of_getElem? hx, by rw [hf]; decide⟩
  unfold depsB
  rw [this]; rfl
theorem dep_twice {l : List Pr} {i : Nat} {x : Pr} (hx : l[i]? = some x) (hn : (l.take i).any (fun y => y.2 == x.2) = true) : depsB l = false := by
  have : apartD l = false := by
    cases hq : apartD l with
    | false => rfl
    | true =>
      rw [apartD_iff] at hq
      obtain ⟨y, hy, e⟩ := List.any_eq_true.1 hn
      obtain ⟨j, hj, hj2⟩ := List.mem_iff_getElem.1 hy
      rw [List.length_take] at hj
      have h1 : l[j]? = some y := by
        rw [← hj2, List.getElem_take]
        exact List.getElem?_eq_getElem (by omega)
      exact absurd (by simpa using e : y.2 = x.2) (hq j i y x (by omega) h1 hx)
  unfold depsB
  rw [this, Bool.and_false]; rfl
theorem within8_any (n a b : Int) (w : World) : Calls Tryz.prog 177 #[.int .i64 n, .int .i64 a, .int .i64 b] w fun e w' => e = .returned (.bool (inB n a b)) ∧ w = w' := by
  unfold inB
  cases h1 : decide (a ≤ n) <;> cases h2 : decide (n ≤ b)
  all_goals
    go_enter Tryz.func177, Tryz.ntmps177
    go_wp2
    go_ret
    exact ⟨rfl, rfl⟩
theorem id_any (n : Int) (w : World) : Calls Tryz.prog 182 #[.int .i64 n] w fun e w' => e = .returned (.bool (inB n 1 99999)) ∧ w = w' := by
  have hc := Lib.hid (fun v => within8_any n 1 99999 v)
  go_enter Tryz.func182, Tryz.ntmps182
  go_wp2_with (fail)
  refine (hc.out _).mono ?_; rintro e w1 ⟨rfl, rfl⟩
  go_wp2
  go_ret
  exact ⟨rfl, rfl⟩
theorem length_any (n : Int) (w : World) : Calls Tryz.prog 178 #[.int .i64 n] w fun e w' => e = .returned (.bool (inB n 1 100000)) ∧ w = w' := by
  have hc := Lib.hid (fun v => within8_any n 1 100000 v)
  go_enter Tryz.func178, Tryz.ntmps178
  go_wp2_with (fail)
  refine (hc.out _).mono ?_; rintro e w1 ⟨rfl, rfl⟩
  go_wp2
  go_ret
  exact ⟨rfl, rfl⟩
theorem pred_dep (a : Pr) (g : Nat) (w : World) (hg : g < w.heap.size) (hc : w.cell? ⟨g, 1, none⟩ = some (.int .i64 a.2)) : PredB 197 #[.pointer (some ⟨g, 0, none⟩)] (fun x => x.2 == a.2) w := by
  intro W x hb
  obtain ⟨x, y⟩ := x
  have hc2 : W.cell? ⟨g, 1, none⟩ = some (.int .i64 a.2) := by rw [(bcell hb).1 _ _ hg]; exact hc
  have hg2 : g < W.heap.size := Nat.lt_of_lt_of_le hg hb.size
  have hB := Lib.hid hb
  clear hc hb hg
  show Calls Tryz.prog 197 #[.agg #[.int .i64 x, .int .i64 y], .pointer (some ⟨g, 0, none⟩)] W _
  go_enter Tryz.func197, Tryz.ntmps197
  go_wp2
  go_ret
  exact ⟨rfl, hB.out.alloc hB.out.size _⟩
set_option maxHeartbeats 2000000 in
theorem deps_any (A : Option Addr) (n c B : Nat) (l : List Pr) (w : World) (hr : Reads w B 2 A n (recs prC l)) (hB : B ≤ w.heap.size) (hn : n ≤ 1000000) (hcap : n ≤ c) :
    Calls Tryz.prog 181 #[.slice A n c] w fun e w' => e = .returned (.bool (depsB l)) ∧ Below w.heap.size w w' := by
  have hlen := hr.rec_len prC_len (by omega)
  have hmf : ∀ (fn : Fn) (first cap : Array Value) (w : World), (Instr.makeFunc fn first cap).run Tryz.prog w = .ok (.func fn first cap) w := fun _ _ _ _ => rfl
  go_enter Tryz.func181, Tryz.ntmps181
  go_wp2
  go_loopw [3, 4, 5, 8] (fun _ _ _ i wr => ∃ k : Nat, k ≤ n ∧ i = .int .i64 k ∧ Below w.heap.size w wr ∧ Hid (DepTo l k)) (fun _ _ _ i _ => n - (intOf i).toNat)
  case atStart => exact ⟨0, Nat.zero_le _, rfl, Below.refl _ _, Lib.hid ⟨fun j a h1 => by omega, fun j k a b h1 h2 => by omega⟩⟩
  case round =>
    obtain ⟨k, hk, rfl, hbr, HN⟩ := hrel
    by_cases hlt : k < n
    · have hr1 := hr.below (hbr.mono hB)
      obtain ⟨b, o, x, rfl, hbb, hx, c0, c1⟩ := hr1.pr_at hlt
      have hj0 : (0 : Int) ≤ (k : Int) := by omega
      have hj1 : (k : Int) < (n : Int) := by omega
      have t0 : decide ((k : Int) < (n : Int)) = true := by simp; omega
      obtain ⟨s1, s2⟩ := cutD_hi (b := b) (o := o) hk hcap (by omega)
      have hszr := hbr.size
      have hRP := Lib.hid (hr1.preR prC_len hk)
      have eg : ∀ args w, (callFunc 197 args).run Tryz.prog w = .ok (.enter 197 args) w := enters_of Tryz.func197 (by kernel_rfl) rfl
      have hbx : Below wr.heap.size wr (wr.alloc (.cells #[.int .i64 x.1, .int .i64 x.2] 86)) := (Below.refl _ _).alloc (Nat.le_refl _) _
      have hpa := pred_dep x wr.heap.size (wr.alloc (.cells #[.int .i64 x.1, .int .i64 x.2] 86)) (by simp) (cell_of_row (wr.alloc (.cells #[.int .i64 x.1, .int .i64 x.2] 86)) wr.heap.size 1 #[.int .i64 x.1, .int .i64 x.2] 86 (0, 0) (heap_alloc_new wr _))
      have hcall := Lib.hid (hasD_any (fun y => y.2 == x.2) 197 #[.pointer (some ⟨wr.heap.size, 0, none⟩)] eg (some ⟨b, o, none⟩) k c B (l.take k) (wr.alloc (.cells #[.int .i64 x.1, .int .i64 x.2] 86)) (hRP.out.below (hbx.mono (by omega))) (by simp; omega) (by omega) hpa)
      have HBX := Lib.hid (hbr.trans (hbx.mono hszr))
      have q1 := Lib.hid (fun v => within8_any x.1 1 3 v)
      have q2 := Lib.hid (fun v => id_any x.2 v)
      have hf : okDep x = (inB x.1 1 3 && inB x.2 1 99999) := rfl
      obtain ⟨z1, hz1⟩ : ∃ q, inB x.1 1 3 = q := ⟨_, rfl⟩
      obtain ⟨z2, hz2⟩ : ∃ q, inB x.2 1 99999 = q := ⟨_, rfl⟩
      obtain ⟨z3, hz3⟩ : ∃ q, (l.take k).any (fun y => y.2 == x.2) = q := ⟨_, rfl⟩
      rw [hz1] at q1 hf
      rw [hz2] at q2 hf
      rw [hz3] at hcall
      have HZ := Lib.hid hz3
      clear hpa hbx hr hr1 eg hz1 hz2 hz3
      go_wp2_with (fail)
      refine hcall.out.mono ?_; rintro e w2 ⟨rfl, hb2⟩
      have B2 := Lib.hid (HBX.out.trans (hb2.mono (by simp; omega)))
      have m0 : w2.cell? ⟨wr.heap.size, 0, none⟩ = some (.int .i64 x.1) := boxed_cell hb2 0
      have m1 : w2.cell? ⟨wr.heap.size, 1, none⟩ = some (.int .i64 x.2) := boxed_cell hb2 1
      clear hb2
      go_wp2_with (fail)
      refine (q1.out _).mono ?_; rintro e w3 ⟨rfl, rfl⟩
      cases z1
      · have HR : Hid (depsB l = false) := by show _ = _; exact dep_bad hx.out hf
        clear hf
        go_wp2
        go_ret
        exact ⟨by rw [HR.out]; rfl, B2.out⟩
      go_wp2_with (fail)
      refine (q2.out _).mono ?_; rintro e w3 ⟨rfl, rfl⟩
      cases z2
      · have HR : Hid (depsB l = false) := by show _ = _; exact dep_bad hx.out hf
        clear hf
        go_wp2
        go_ret
        exact ⟨by rw [HR.out]; rfl, B2.out⟩
      cases z3
      · have HN2 : Hid (DepTo l (k + 1)) := depTo_next HN.out hx.out hf HZ.out
        clear hf
        go_wp2
        go_roundw
        case rel => exact ⟨k + 1, by omega, by simp, B2.out, HN2⟩
        case measure => simp [intOf]; omega
      · have HR : Hid (depsB l = false) := by show _ = _; exact dep_twice hx.out HZ.out
        clear hf
        go_wp2
        go_ret
        exact ⟨by rw [HR.out]; rfl, B2.out⟩
    · obtain rfl : k = n := by omega
      have t0 : decide ((k : Int) < (k : Int)) = false := by simp
      have HR : Hid (depsB l = decide (k ≤ 4)) := by
        show _ = _
        unfold depsB
        rw [depTo_all (by rw [hlen.out]; exact HN.out), hlen.out, Bool.true_and]
      obtain ⟨z, hz⟩ : ∃ q, decide (k ≤ 4) = q := ⟨_, rfl⟩
      have hz2 : decide ((k : Int) ≤ 4) = z := by rw [← hz]; congr 1; apply propext; omega
      rw [hz] at HR
      go_wp2
      go_ret
      exact ⟨by rw [HR.out]; rfl, hbr⟩
end Go.Proofs.YtfnmmbfngniheaaGreatDoor
