/- Layer 7: the reference's Check walked, lists. -/
import Derived.Test.YtfnmmbfngniheaaGreatDoorShR1
import Derived.Deep.QuietTactic
namespace Go.Proofs.YtfnmmbfngniheaaGreatDoor
set_option linter.unusedVariables false
open Go.RowKit
/-- all ahead of i may be, and none behind is of the size of one of them -/
def GoodTo (l : List Pr) (i : Nat) : Prop := (∀ j a, j < i → l[j]? = some a → fineA a = true) ∧ ∀ j k (a b : Pr), j < i → j < k → l[j]? = some a → l[k]? = some b → a.1 ≠ b.1
def NoneOf (l : List Pr) (i k : Nat) (x : Pr) : Prop := ∀ j b, i < j → j < k → l[j]? = some b → x.1 ≠ b.1
theorem goodTo_next {l : List Pr} {i : Nat} {x : Pr} (h : GoodTo l i) (hx : l[i]? = some x) (hf : fineA x = true) (hn : NoneOf l i l.length x) : GoodTo l (i + 1) := by
  refine ⟨fun j a hj ha => ?_, fun j k a b hj hjk ha hb => ?_⟩
  · by_cases e : j = i
    · subst e; rw [hx] at ha; rw [← Option.some.inj ha]; exact hf
    · exact h.1 j a (by omega) ha
  · by_cases e : j = i
    · subst e
      rw [hx] at ha
      obtain rfl := Option.some.inj ha
      exact hn k b hjk (List.getElem?_eq_some_iff.1 hb).1 hb
    · exact h.2 j k a b (by omega) hjk ha hb
theorem goodTo_all {l : List Pr} (h : GoodTo l l.length) : (apartL l && l.all fineA) = true := by
  have h1 : apartL l = true := by
    rw [apart_iff]
    intro i j a b hij ha hb
    exact h.2 i j a b (List.getElem?_eq_some_iff.1 ha).1 hij ha hb
  have h2 : l.all fineA = true := by
    rw [List.all_eq_true]
    intro x hx
    obtain ⟨j, hj, e⟩ := List.mem_iff_getElem.1 hx
    exact h.1 j x hj (by rw [List.getElem?_eq_getElem hj, e])
  rw [h1, h2]; rfl
theorem bad_fine {l : List Pr} {i : Nat} {x : Pr} (hx : l[i]? = some x) (hf : fineA x = false) : (apartL l && l.all fineA) = false := by
  have : l.all fineA = false := by
    rw [List.all_eq_false]
    exact ⟨x, List.mem_of_getElem? hx, by rw [hf]; decide⟩
  rw [this, Bool.and_false]
theorem bad_same {l : List Pr} {i k : Nat} {x y : Pr} (hx : l[i]? = some x) (hy : l[k]? = some y) (hik : i < k) (e : x.1 = y.1) : (apartL l && l.all fineA) = false := by
  have : apartL l = false := by
    cases hq : apartL l with
    | false => rfl
    | true => rw [apart_iff] at hq; exact absurd e (hq i k x y hik hx hy)
  rw [this, Bool.false_and]
theorem bne_of {x : Int} (h : (x == 0) = false) : (x != 0) = true := by show (!(x == 0)) = true; rw [h]; rfl
set_option maxHeartbeats 4000000 in
theorem rshape_list (s : Sh) (A : Option Addr) (c B : Nat) (w : World) (hr : Reads w B 2 A s.alts.length (recs prC s.alts)) (hB : B ≤ w.heap.size) (hn : s.alts.length ≤ 100000) (hk : s.kind = 1 ∨ s.kind = 2) :
    Calls Tryz.prog 137 #[shV s A c] w fun e w' => e = .returned (.int .i64 (shE s)) ∧ Below w.heap.size w w' := by
  have hbc := bare_cases s
  have HE := Lib.hid (she_list hk)
  obtain ⟨R, hR⟩ : ∃ R, Hid (shE s = R) := ⟨_, rfl⟩
  rw [hR.out] at HE ⊢
  unfold shV
  obtain ⟨n, hnn⟩ : ∃ n, Hid (s.alts.length = n) := ⟨_, rfl⟩
  rw [hnn.out] at HE hr hn ⊢
  obtain ⟨kind, l, mn, mx, wall⟩ := s
  dsimp only at HE hr hnn hbc hk ⊢
  have t3 : (kind == 3) = false := by rcases hk with h | h <;> subst h <;> rfl
  obtain ⟨most, hmost⟩ : ∃ m : Nat, (if kind = 2 then 6 else 1) = m := ⟨_, rfl⟩
  rw [hmost] at HE
  have tk : (kind == 2 ∧ most = 6) ∨ ((kind == 2) = false ∧ (kind != 1) = false ∧ most = 1) := by
    rcases hk with h | h
    · subst h; exact .inr ⟨rfl, rfl, hmost.symm⟩
    · subst h; exact .inl ⟨rfl, hmost.symm⟩
  have hkk : kind = 2 ∧ most = 6 ∨ kind = 1 ∧ most = 1 := by
    rcases hk with h | h
    · subst h; exact .inr ⟨rfl, hmost.symm⟩
    · subst h; exact .inl ⟨rfl, hmost.symm⟩
  clear hk hR hmost tk t3
  rcases hkk with ⟨rfl, rfl⟩ | ⟨rfl, rfl⟩
  · by_cases h1 : 1 ≤ n
    case neg =>
      have t1 : decide ((n : Int) < 1) = true := by simp; omega
      have t1' : decide (n < 1) = true := by simp; omega
      have HR : Hid (R = 70) := by show _ = _; rw [HE.out]; simp [h1]
      clear HE h1 hr
      go_enter Tryz.func137, Tryz.ntmps137
      go_wp2
      go_ret
      exact ⟨by rw [HR.out]; rfl, (Below.refl _ _).alloc (Nat.le_refl _) _⟩
    have t1 : decide ((n : Int) < 1) = false := by simp; omega
    have t1' : decide (n < 1) = false := by simp; omega
    by_cases hm : n ≤ 6
    case neg =>
      have t2 : decide ((6 : Int) < (n : Int)) = true := by simp; omega
      have t2' : decide (6 < n) = true := by simp; omega
      have HR : Hid (R = 70) := by show _ = _; rw [HE.out]; simp [hm]
      clear HE h1 hm hr
      go_enter Tryz.func137, Tryz.ntmps137
      go_wp2
      go_ret
      exact ⟨by rw [HR.out]; rfl, (Below.refl _ _).alloc (Nat.le_refl _) _⟩
    have t2 : decide ((6 : Int) < (n : Int)) = false := by simp; omega
    have t2' : decide (6 < n) = false := by simp; omega
    rcases hbc with ⟨e1, e2, e3, hb⟩ | ⟨hb, h⟩
    case inr =>
      rw [hb] at HE
      have HR : Hid (R = 70) := by show _ = _; rw [HE.out]; simp
      clear HE hb hr
      rcases h with h | ⟨e1, h⟩ | ⟨e1, e2, h⟩
      all_goals
        (try rw [e1])
        (try rw [e2])
        have hne := bne_of h
        go_enter Tryz.func137, Tryz.ntmps137
        go_wp2
        go_ret
        exact ⟨by rw [HR.out]; rfl, (Below.refl _ _).alloc (Nat.le_refl _) _⟩
    rw [hb] at HE
    rw [e1, e2, e3]
    have HR : Hid (R = if (apartL l && l.all fineA) = true then 0 else 70) := by
      show _ = _
      have q1 := decide_eq_true h1
      have q2 := decide_eq_true hm
      rw [HE.out, q1, q2]; simp only [Bool.true_and]
    clear HE hb e1 e2 e3
    obtain ⟨W0, hW0⟩ : ∃ W0, Hid (w.alloc (.cells #[.int .i64 2, .slice A n c, .int .i64 0, .int .i64 0, .int .i64 0] 24) = W0) := ⟨_, rfl⟩
    have hBW : Below w.heap.size w W0 := by rw [← hW0.out]; exact (Below.refl _ _).alloc (Nat.le_refl _) _
    have hkb : W0.cell? ⟨w.heap.size, 1, none⟩ = some (.slice A n c) := by
      rw [← hW0.out]
      exact cell_of_row (w.alloc (.cells #[.int .i64 2, .slice A n c, .int .i64 0, .int .i64 0, .int .i64 0] 24)) w.heap.size 1 _ _ (0, 0) (heap_alloc_new w _)
    have HRd := Lib.hid (hr.below (hBW.mono hB))
    have HBW := Lib.hid hBW
    clear hr hBW
    go_enter Tryz.func137, Tryz.ntmps137
    go_wp2
    rw [hW0.out]
    go_loopw [4, 5] (fun i _ wr => ∃ (k p : Nat), k ≤ n ∧ i = .int .i64 k ∧ wr = W0.drewN p ∧ Hid (GoodTo l k)) (fun i _ _ => n - (intOf i).toNat)
    case atStart => exact ⟨0, 0, Nat.zero_le _, rfl, rfl, Lib.hid ⟨fun j a hj => by omega, fun j k a b hj => by omega⟩⟩
    case round =>
      obtain ⟨k, p, hk, rfl, rfl, HG⟩ := hrel
      by_cases hlt : k < n
      · obtain ⟨b, o, x, rfl, hbb, hx, c0, c1⟩ := HRd.out.pr_at hlt
        have hi0 : (0 : Int) ≤ (k : Int) := by omega
        have hi1 : (k : Int) < (n : Int) := by omega
        have t0 : decide ((k : Int) < (n : Int)) = true := by simp; omega
        have q1 := Lib.hid (fun v => rsize_any x.1 v)
        have q2 := Lib.hid (fun v => rwall_any x.2 v)
        have hf := fine_two x
        obtain ⟨s1, hs1⟩ : ∃ q, sizeB x.1 = q := ⟨_, rfl⟩
        obtain ⟨s2, hs2⟩ : ∃ q, wallB x.2 = q := ⟨_, rfl⟩
        rw [hs1] at q1 hf
        rw [hs2] at q2 hf
        clear hs1 hs2
        cases s1
        case false =>
          have HR2 : Hid (R = 70) := by show _ = _; rw [HR.out, bad_fine hx.out hf]; rfl
          clear hf
          go_wp2_with (fail)
          refine (q1.out _).mono ?_; rintro e w1 ⟨rfl, rfl⟩
          go_wp2
          go_ret
          exact ⟨by rw [HR2.out]; rfl, below_drewN HBW.out _⟩
        cases s2
        case false =>
          have HR2 : Hid (R = 70) := by show _ = _; rw [HR.out, bad_fine hx.out hf]; rfl
          clear hf
          go_wp2_with (fail)
          refine (q1.out _).mono ?_; rintro e w1 ⟨rfl, rfl⟩
          go_wp2_with (fail)
          refine (q2.out _).mono ?_; rintro e w1 ⟨rfl, rfl⟩
          go_wp2
          go_ret
          exact ⟨by rw [HR2.out]; rfl, below_drewN HBW.out _⟩
        have HF := Lib.hid hf
        clear hf
        go_wp2_with (fail)
        refine (q1.out _).mono ?_; rintro e w1 ⟨rfl, rfl⟩
        go_wp2_with (fail)
        refine (q2.out _).mono ?_; rintro e w1 ⟨rfl, rfl⟩
        go_wp2_with (fail)
        go_loopw [5] (fun i wr => ∃ (j p : Nat), k < j ∧ j ≤ n ∧ i = .int .i64 j ∧ wr = W0.drewN p ∧ Hid (NoneOf l k j x)) (fun i _ => n - (intOf i).toNat)
        case atStart => exact ⟨k + 1, p, by omega, by omega, by simp, rfl, Lib.hid (fun j b h1 h2 => by omega)⟩
        case round =>
          obtain ⟨j, p2, hkj, hj, rfl, rfl, HN⟩ := hrel
          by_cases hjn : j < n
          · obtain ⟨b', o', y, e', _, hy, d0, d1⟩ := HRd.out.pr_at hjn
            have e1 : b = b' ∧ o = o' := by simpa using e'
            rw [← e1.1, ← e1.2] at d0
            clear e' e1 d1
            have hj0 : (0 : Int) ≤ (j : Int) := by omega
            have hj1 : (j : Int) < (n : Int) := by omega
            have t4 : decide ((j : Int) < (n : Int)) = true := by simp; omega
            by_cases hxy : x.1 = y.1
            · have t5 : (x.1 == y.1) = true := by simpa using hxy
              have HR2 : Hid (R = 70) := by show _ = _; rw [HR.out, bad_same hx.out hy.out hkj hxy]; rfl
              clear hxy
              go_wp2
              go_quiet (fail)
              go_wp2
              go_ret
              exact ⟨by rw [HR2.out]; rfl, below_drewN (below_drewN HBW.out _) _⟩
            · have t5 : (x.1 == y.1) = false := by simpa using hxy
              have HN2 : Hid (NoneOf l k (j + 1) x) := by
                intro i b hi hi2 hb
                by_cases e : i = j
                · subst e; rw [hy.out] at hb; rw [← Option.some.inj hb]; exact hxy
                · exact HN.out i b hi (by omega) hb
              clear hxy
              go_wp2
              go_quiet (fail)
              go_wp2
              go_roundw
              case rel => exact ⟨j + 1, _, by omega, by omega, by simp, by first | rfl | exact World.drewN_drewN _ _ _, HN2⟩
              case measure => simp [intOf]; omega
          · obtain rfl : j = n := by omega
            have t4 : decide ((j : Int) < (j : Int)) = false := by simp
            have HG2 : Hid (GoodTo l (k + 1)) := goodTo_next HG.out hx.out HF.out (by rw [hnn.out]; exact HN.out)
            go_wp2
            go_roundw
            case rel => exact ⟨k + 1, _, by omega, by simp, rfl, HG2⟩
            case measure => simp [intOf]; omega
      · obtain rfl : k = n := by omega
        have t0 : decide ((k : Int) < (k : Int)) = false := by simp
        have HR2 : Hid (R = 0) := by show _ = _; rw [HR.out, goodTo_all (by rw [hnn.out]; exact HG.out)]; rfl
        go_wp2
        go_ret
        exact ⟨by rw [HR2.out]; rfl, below_drewN HBW.out _⟩
  · by_cases h1 : 1 ≤ n
    case neg =>
      have t1 : decide ((n : Int) < 1) = true := by simp; omega
      have t1' : decide (n < 1) = true := by simp; omega
      have HR : Hid (R = 70) := by show _ = _; rw [HE.out]; simp [h1]
      clear HE h1 hr
      go_enter Tryz.func137, Tryz.ntmps137
      go_wp2
      go_ret
      exact ⟨by rw [HR.out]; rfl, (Below.refl _ _).alloc (Nat.le_refl _) _⟩
    have t1 : decide ((n : Int) < 1) = false := by simp; omega
    have t1' : decide (n < 1) = false := by simp; omega
    by_cases hm : n ≤ 1
    case neg =>
      have t2 : decide ((1 : Int) < (n : Int)) = true := by simp; omega
      have t2' : decide (1 < n) = true := by simp; omega
      have HR : Hid (R = 70) := by show _ = _; rw [HE.out]; simp [hm]
      clear HE h1 hm hr
      go_enter Tryz.func137, Tryz.ntmps137
      go_wp2
      go_ret
      exact ⟨by rw [HR.out]; rfl, (Below.refl _ _).alloc (Nat.le_refl _) _⟩
    have t2 : decide ((1 : Int) < (n : Int)) = false := by simp; omega
    have t2' : decide (1 < n) = false := by simp; omega
    rcases hbc with ⟨e1, e2, e3, hb⟩ | ⟨hb, h⟩
    case inr =>
      rw [hb] at HE
      have HR : Hid (R = 70) := by show _ = _; rw [HE.out]; simp
      clear HE hb hr
      rcases h with h | ⟨e1, h⟩ | ⟨e1, e2, h⟩
      all_goals
        (try rw [e1])
        (try rw [e2])
        have hne := bne_of h
        go_enter Tryz.func137, Tryz.ntmps137
        go_wp2
        go_ret
        exact ⟨by rw [HR.out]; rfl, (Below.refl _ _).alloc (Nat.le_refl _) _⟩
    rw [hb] at HE
    rw [e1, e2, e3]
    have HR : Hid (R = if (apartL l && l.all fineA) = true then 0 else 70) := by
      show _ = _
      have q1 := decide_eq_true h1
      have q2 := decide_eq_true hm
      rw [HE.out, q1, q2]; simp only [Bool.true_and]
    clear HE hb e1 e2 e3
    obtain ⟨W0, hW0⟩ : ∃ W0, Hid (w.alloc (.cells #[.int .i64 1, .slice A n c, .int .i64 0, .int .i64 0, .int .i64 0] 24) = W0) := ⟨_, rfl⟩
    have hBW : Below w.heap.size w W0 := by rw [← hW0.out]; exact (Below.refl _ _).alloc (Nat.le_refl _) _
    have hkb : W0.cell? ⟨w.heap.size, 1, none⟩ = some (.slice A n c) := by
      rw [← hW0.out]
      exact cell_of_row (w.alloc (.cells #[.int .i64 1, .slice A n c, .int .i64 0, .int .i64 0, .int .i64 0] 24)) w.heap.size 1 _ _ (0, 0) (heap_alloc_new w _)
    have HRd := Lib.hid (hr.below (hBW.mono hB))
    have HBW := Lib.hid hBW
    clear hr hBW
    go_enter Tryz.func137, Tryz.ntmps137
    go_wp2
    rw [hW0.out]
    go_loopw [4, 5] (fun i _ wr => ∃ (k p : Nat), k ≤ n ∧ i = .int .i64 k ∧ wr = W0.drewN p ∧ Hid (GoodTo l k)) (fun i _ _ => n - (intOf i).toNat)
    case atStart => exact ⟨0, 0, Nat.zero_le _, rfl, rfl, Lib.hid ⟨fun j a hj => by omega, fun j k a b hj => by omega⟩⟩
    case round =>
      obtain ⟨k, p, hk, rfl, rfl, HG⟩ := hrel
      by_cases hlt : k < n
      · obtain ⟨b, o, x, rfl, hbb, hx, c0, c1⟩ := HRd.out.pr_at hlt
        have hi0 : (0 : Int) ≤ (k : Int) := by omega
        have hi1 : (k : Int) < (n : Int) := by omega
        have t0 : decide ((k : Int) < (n : Int)) = true := by simp; omega
        have q1 := Lib.hid (fun v => rsize_any x.1 v)
        have q2 := Lib.hid (fun v => rwall_any x.2 v)
        have hf := fine_two x
        obtain ⟨s1, hs1⟩ : ∃ q, sizeB x.1 = q := ⟨_, rfl⟩
        obtain ⟨s2, hs2⟩ : ∃ q, wallB x.2 = q := ⟨_, rfl⟩
        rw [hs1] at q1 hf
        rw [hs2] at q2 hf
        clear hs1 hs2
        cases s1
        case false =>
          have HR2 : Hid (R = 70) := by show _ = _; rw [HR.out, bad_fine hx.out hf]; rfl
          clear hf
          go_wp2_with (fail)
          refine (q1.out _).mono ?_; rintro e w1 ⟨rfl, rfl⟩
          go_wp2
          go_ret
          exact ⟨by rw [HR2.out]; rfl, below_drewN HBW.out _⟩
        cases s2
        case false =>
          have HR2 : Hid (R = 70) := by show _ = _; rw [HR.out, bad_fine hx.out hf]; rfl
          clear hf
          go_wp2_with (fail)
          refine (q1.out _).mono ?_; rintro e w1 ⟨rfl, rfl⟩
          go_wp2_with (fail)
          refine (q2.out _).mono ?_; rintro e w1 ⟨rfl, rfl⟩
          go_wp2
          go_ret
          exact ⟨by rw [HR2.out]; rfl, below_drewN HBW.out _⟩
        have HF := Lib.hid hf
        clear hf
        go_wp2_with (fail)
        refine (q1.out _).mono ?_; rintro e w1 ⟨rfl, rfl⟩
        go_wp2_with (fail)
        refine (q2.out _).mono ?_; rintro e w1 ⟨rfl, rfl⟩
        go_wp2_with (fail)
        go_loopw [5] (fun i wr => ∃ (j p : Nat), k < j ∧ j ≤ n ∧ i = .int .i64 j ∧ wr = W0.drewN p ∧ Hid (NoneOf l k j x)) (fun i _ => n - (intOf i).toNat)
        case atStart => exact ⟨k + 1, p, by omega, by omega, by simp, rfl, Lib.hid (fun j b h1 h2 => by omega)⟩
        case round =>
          obtain ⟨j, p2, hkj, hj, rfl, rfl, HN⟩ := hrel
          by_cases hjn : j < n
          · exact absurd hjn (by omega)
          · obtain rfl : j = n := by omega
            have t4 : decide ((j : Int) < (j : Int)) = false := by simp
            have HG2 : Hid (GoodTo l (k + 1)) := goodTo_next HG.out hx.out HF.out (by rw [hnn.out]; exact HN.out)
            go_wp2
            go_roundw
            case rel => exact ⟨k + 1, _, by omega, by simp, rfl, HG2⟩
            case measure => simp [intOf]; omega
      · obtain rfl : k = n := by omega
        have t0 : decide ((k : Int) < (k : Int)) = false := by simp
        have HR2 : Hid (R = 0) := by show _ = _; rw [HR.out, goodTo_all (by rw [hnn.out]; exact HG.out)]; rfl
        go_wp2
        go_ret
        exact ⟨by rw [HR2.out]; rfl, below_drewN HBW.out _⟩
end Go.Proofs.YtfnmmbfngniheaaGreatDoor
