/- Bundle S3. -/
import Derived.Test.YtjmhaoplablmnaaGreatDoorS1s
import Derived.Deep.QuietTactic
import Derived.Test.YtjmhaoplablmnaaGreatDoorS2s
namespace Go.Proofs.YtjmhaoplablmnaaGreatDoor
set_option linter.unusedSimpArgs false
set_option maxRecDepth 100000
set_option linter.unusedVariables false
open Go.RowKit
def sizeB (x : Int) : Bool := decide (1 ≤ x) && decide (x ≤ 48)
def wallB (x : Int) : Bool := decide (1 ≤ x) && decide (x ≤ 100000)
theorem fine_two (a : Pr) : fineA a = (sizeB a.1 && wallB a.2) := by unfold fineA sizeB wallB; rw [Bool.and_assoc, Bool.and_assoc]
theorem rsize_any (x : Int) (w : World) : Calls Tryz.prog 65 #[.int .i64 x] w fun e w' => e = .returned (.bool (sizeB x)) ∧ w = w' := by
  unfold sizeB
  cases h1 : decide (1 ≤ x) <;> cases h2 : decide (x ≤ 48)
  all_goals
    go_enter Tryz.func65, Tryz.ntmps65
    go_wp2
    go_ret
    exact ⟨rfl, rfl⟩
theorem rwall_any (x : Int) (w : World) : Calls Tryz.prog 66 #[.int .i64 x] w fun e w' => e = .returned (.bool (wallB x)) ∧ w = w' := by
  unfold wallB
  cases h1 : decide (1 ≤ x) <;> cases h2 : decide (x ≤ 100000)
  all_goals
    go_enter Tryz.func66, Tryz.ntmps66
    go_wp2
    go_ret
    exact ⟨rfl, rfl⟩
theorem she_three {s : Sh} (h3 : s.kind = 3) : shE s = if (decide (s.alts.length = 0) && sizeB s.mn && sizeB s.mx && decide (s.mn ≤ s.mx) && wallB s.wall) = true then 0 else 70 := by
  unfold shE okS
  rw [if_neg (show ¬ s.kind = 1 by omega), if_neg (show ¬ s.kind = 2 by omega), if_pos h3]
  have e : (decide (s.alts.length = 0) && decide (s.mn ≤ s.mx) && fineA (s.mn, s.wall) && decide (s.mx ≤ 48)) = (decide (s.alts.length = 0) && sizeB s.mn && sizeB s.mx && decide (s.mn ≤ s.mx) && wallB s.wall) := by
    unfold fineA sizeB wallB
    rw [Bool.eq_iff_iff]
    simp only [Bool.and_eq_true, decide_eq_true_eq]
    constructor
    · rintro ⟨⟨⟨a, b⟩, ⟨⟨c, d⟩, e⟩, f⟩, g⟩
      exact ⟨⟨⟨⟨a, c, d⟩, by omega, g⟩, b⟩, e, f⟩
    · rintro ⟨⟨⟨⟨a, c, d⟩, _, g⟩, b⟩, e, f⟩
      exact ⟨⟨⟨a, b⟩, ⟨⟨c, d⟩, e⟩, f⟩, g⟩
  rw [e]
theorem apart_one {l : List Pr} (h : l.length ≤ 1) : apartL l = true := by
  rw [apart_iff]
  intro i j a b hij ha hb
  have := (List.getElem?_eq_some_iff.1 hb).1
  omega
theorem she_list {s : Sh} (h : s.kind = 1 ∨ s.kind = 2) : shE s = if (bareS s && decide (1 ≤ s.alts.length) && decide (s.alts.length ≤ if s.kind = 2 then 6 else 1) && apartL s.alts && s.alts.all fineA) = true then 0 else 70 := by
  unfold shE okS
  rcases h with h | h
  · rw [if_pos h, if_neg (show ¬ s.kind = 2 by omega)]
    have e : (bareS s && decide (s.alts.length = 1) && s.alts.all fineA) = (bareS s && decide (1 ≤ s.alts.length) && decide (s.alts.length ≤ 1) && apartL s.alts && s.alts.all fineA) := ?_
    · rw [e]
    by_cases h1 : s.alts.length = 1
    · rw [apart_one (by omega)]; simp [h1]
    · have e1 : decide (s.alts.length = 1) = false := decide_eq_false h1
      by_cases h2 : 1 ≤ s.alts.length
      · have e2 : decide (s.alts.length ≤ 1) = false := decide_eq_false (by omega)
        rw [e1, e2]; simp
      · have e2 : decide (1 ≤ s.alts.length) = false := decide_eq_false h2
        rw [e1, e2]; simp
  · rw [if_neg (show ¬ s.kind = 1 by omega), if_pos h, if_pos h]
set_option maxHeartbeats 2000000 in
theorem rshape_three (s : Sh) (A : Option Addr) (c : Nat) (w : World) (hk : s.kind = 3) :
    Calls Tryz.prog 37 #[shV s A c] w fun e w' => e = .returned (.int .i64 (shE s)) ∧ Below w.heap.size w w' := by
  have HE := Lib.hid (she_three hk)
  obtain ⟨R, hR⟩ : ∃ R, Hid (shE s = R) := ⟨_, rfl⟩
  rw [hR.out] at HE ⊢
  unfold shV
  obtain ⟨n, hnn⟩ : ∃ n, Hid (s.alts.length = n) := ⟨_, rfl⟩
  rw [hnn.out] at HE ⊢
  rw [hk]
  obtain ⟨kind, l, mn, mx, wall⟩ := s
  dsimp only at HE ⊢
  have c1 := Lib.hid (fun v => rsize_any mn v)
  have c2 := Lib.hid (fun v => rsize_any mx v)
  have c3 := Lib.hid (fun v => rwall_any wall v)
  obtain ⟨q1, hq1⟩ : ∃ q, sizeB mn = q := ⟨_, rfl⟩
  obtain ⟨q2, hq2⟩ : ∃ q, sizeB mx = q := ⟨_, rfl⟩
  obtain ⟨q3, hq3⟩ : ∃ q, wallB wall = q := ⟨_, rfl⟩
  rw [hq1] at c1 HE
  rw [hq2] at c2 HE
  rw [hq3] at c3 HE
  clear hk hR hq1 hq2 hq3 hnn
  by_cases h0 : 0 < n
  · have t0 : decide ((0 : Int) < (n : Int)) = true := by simp; omega
    have t0' : decide (0 < n) = true := by simp; omega
    have HR : Hid (R = 70) := by show _ = _; rw [HE.out]; simp [show ¬ n = 0 by omega]
    clear HE h0
    go_enter Tryz.func37, Tryz.ntmps37
    go_wp2
    go_ret
    exact ⟨by rw [HR.out]; rfl, (Below.refl _ _).alloc (Nat.le_refl _) _⟩
  obtain rfl : n = 0 := by omega
  clear h0
  have t2 : decide (mx < mn) = !decide (mn ≤ mx) := by
    by_cases h : mn ≤ mx
    · rw [decide_eq_true h, decide_eq_false (by omega)]; rfl
    · rw [decide_eq_false h, decide_eq_true (by omega)]; rfl
  obtain ⟨q4, hq4⟩ : ∃ q, decide (mn ≤ mx) = q := ⟨_, rfl⟩
  rw [hq4] at t2 HE
  clear hq4
  cases q1
  case false =>
    have HR : Hid (R = 70) := by show _ = _; rw [HE.out]; simp
    clear HE
    go_enter Tryz.func37, Tryz.ntmps37
    go_wp2_with (fail)
    refine (c1.out _).mono ?_; rintro e w1 ⟨rfl, rfl⟩
    go_wp2
    go_ret
    exact ⟨by rw [HR.out]; rfl, (Below.refl _ _).alloc (Nat.le_refl _) _⟩
  cases q2
  case false =>
    have HR : Hid (R = 70) := by show _ = _; rw [HE.out]; simp
    clear HE
    go_enter Tryz.func37, Tryz.ntmps37
    go_wp2_with (fail)
    refine (c1.out _).mono ?_; rintro e w1 ⟨rfl, rfl⟩
    go_wp2_with (fail)
    refine (c2.out _).mono ?_; rintro e w1 ⟨rfl, rfl⟩
    go_wp2
    go_ret
    exact ⟨by rw [HR.out]; rfl, (Below.refl _ _).alloc (Nat.le_refl _) _⟩
  cases q4
  case false =>
    have HR : Hid (R = 70) := by show _ = _; rw [HE.out]; simp
    simp only [Bool.not_false] at t2
    clear HE
    go_enter Tryz.func37, Tryz.ntmps37
    go_wp2_with (fail)
    refine (c1.out _).mono ?_; rintro e w1 ⟨rfl, rfl⟩
    go_wp2_with (fail)
    refine (c2.out _).mono ?_; rintro e w1 ⟨rfl, rfl⟩
    go_wp2
    go_ret
    exact ⟨by rw [HR.out]; rfl, (Below.refl _ _).alloc (Nat.le_refl _) _⟩
  simp only [Bool.not_true] at t2
  cases q3
  all_goals
    have HR := Lib.hid HE.out
    clear HE
    go_enter Tryz.func37, Tryz.ntmps37
    go_wp2_with (fail)
    refine (c1.out _).mono ?_; rintro e w1 ⟨rfl, rfl⟩
    go_wp2_with (fail)
    refine (c2.out _).mono ?_; rintro e w1 ⟨rfl, rfl⟩
    go_wp2_with (fail)
    refine (c3.out _).mono ?_; rintro e w1 ⟨rfl, rfl⟩
    go_wp2
    go_ret
    exact ⟨by rw [HR.out]; rfl, (Below.refl _ _).alloc (Nat.le_refl _) _⟩
def GoodTo (l : List Pr) (i : Nat) : Prop := (∀ j a, j < i → l[j]? = some a → fineA a = true) ∧ ∀ j k (a b : Pr), j < i → j < k → l[j]? = some a → l[k]? = some b → a.1 ≠ b.1
def NoneOf (l : List Pr) (i k : Nat) (x : Pr) : Prop := ∀ j b, i < j → j < k → l[j]? = some b → x.1 ≠ b.1
theorem goodTo_next {l : List Pr} {i : Nat} {x : Pr} (h : GoodTo l i) (hx : l[i]? = some x) (hf : fineA x = true) (hn : NoneOf l i l.length x) : GoodTo l (i + 1) := by
  refine ⟨fun j a hj ha => ?_, fun j k a b hj hjk ha hb => ?_⟩
  · by_cases e : j = i
    · subst e; rw [hx] at ha; rw [← Option.some.inj ha]; exact hf
    · exact h.1 j a (by omega) ha
  · by_cases e : j = i
    · subst e
      rw [hx] at ha
      obtain rfl := Option.some.inj ha
      exact hn k b hjk (List.getElem?_eq_some_iff.1 hb).1 hb
    · exact h.2 j k a b (by omega) hjk ha hb
theorem goodTo_all {l : List Pr} (h : GoodTo l l.length) : (apartL l && l.all fineA) = true := by
  have h1 : apartL l = true := by
    rw [apart_iff]
    intro i j a b hij ha hb
    exact h.2 i j a b (List.getElem?_eq_some_iff.1 ha).1 hij ha hb
  have h2 : l.all fineA = true := by
    rw [List.all_eq_true]
    intro x hx
    obtain ⟨j, hj, e⟩ := List.mem_iff_getElem.1 hx
    exact h.1 j x hj (by rw [List.getElem?_eq_getElem hj, e])
  rw [h1, h2]; rfl
theorem bad_fine {l : List Pr} {i : Nat} {x : Pr} (hx : l[i]? = some x) (hf : fineA x = false) : (apartL l && l.all fineA) = false := by
  have : l.all fineA = false := by
    rw [List.all_eq_false]
    exact ⟨x, List.mem_of_getElem? hx, by rw [hf]; decide⟩
  rw [this, Bool.and_false]
theorem bad_same {l : List Pr} {i k : Nat} {x y : Pr} (hx : l[i]? = some x) (hy : l[k]? = some y) (hik : i < k) (e : x.1 = y.1) : (apartL l && l.all fineA) = false := by
  have : apartL l = false := by
    cases hq : apartL l with
    | false => rfl
    | true => rw [apart_iff] at hq; exact absurd e (hq i k x y hik hx hy)
  rw [this, Bool.false_and]
theorem bne_of {x : Int} (h : (x == 0) = false) : (x != 0) = true := by show (!(x == 0)) = true; rw [h]; rfl
set_option maxHeartbeats 4000000 in
theorem rshape_list (s : Sh) (A : Option Addr) (c B : Nat) (w : World) (hr : Reads w B 2 A s.alts.length (recs prC s.alts)) (hB : B ≤ w.heap.size) (hn : s.alts.length ≤ 100000) (hk : s.kind = 1 ∨ s.kind = 2) :
    Calls Tryz.prog 37 #[shV s A c] w fun e w' => e = .returned (.int .i64 (shE s)) ∧ Below w.heap.size w w' := by
  have hbc := bare_cases s
  have HE := Lib.hid (she_list hk)
  obtain ⟨R, hR⟩ : ∃ R, Hid (shE s = R) := ⟨_, rfl⟩
  rw [hR.out] at HE ⊢
  unfold shV
  obtain ⟨n, hnn⟩ : ∃ n, Hid (s.alts.length = n) := ⟨_, rfl⟩
  rw [hnn.out] at HE hr hn ⊢
  obtain ⟨kind, l, mn, mx, wall⟩ := s
  dsimp only at HE hr hnn hbc hk ⊢
  have t3 : (kind == 3) = false := by rcases hk with h | h <;> subst h <;> rfl
  obtain ⟨most, hmost⟩ : ∃ m : Nat, (if kind = 2 then 6 else 1) = m := ⟨_, rfl⟩
  rw [hmost] at HE
  have tk : (kind == 2 ∧ most = 6) ∨ ((kind == 2) = false ∧ (kind != 1) = false ∧ most = 1) := by
    rcases hk with h | h
    · subst h; exact .inr ⟨rfl, rfl, hmost.symm⟩
    · subst h; exact .inl ⟨rfl, hmost.symm⟩
  have hkk : kind = 2 ∧ most = 6 ∨ kind = 1 ∧ most = 1 := by
    rcases hk with h | h
    · subst h; exact .inr ⟨rfl, hmost.symm⟩
    · subst h; exact .inl ⟨rfl, hmost.symm⟩
  clear hk hR hmost tk t3
  rcases hkk with ⟨rfl, rfl⟩ | ⟨rfl, rfl⟩
  · by_cases h1 : 1 ≤ n
    case neg =>
      have t1 : decide ((n : Int) < 1) = true := by simp; omega
      have t1' : decide (n < 1) = true := by simp; omega
      have HR : Hid (R = 70) := by show _ = _; rw [HE.out]; simp [h1]
      clear HE h1 hr
      go_enter Tryz.func37, Tryz.ntmps37
      go_wp2
      go_ret
      exact ⟨by rw [HR.out]; rfl, (Below.refl _ _).alloc (Nat.le_refl _) _⟩
    have t1 : decide ((n : Int) < 1) = false := by simp; omega
    have t1' : decide (n < 1) = false := by simp; omega
    by_cases hm : n ≤ 6
    case neg =>
      have t2 : decide ((6 : Int) < (n : Int)) = true := by simp; omega
      have t2' : decide (6 < n) = true := by simp; omega
      have HR : Hid (R = 70) := by show _ = _; rw [HE.out]; simp [hm]
      clear HE h1 hm hr
      go_enter Tryz.func37, Tryz.ntmps37
      go_wp2
      go_ret
      exact ⟨by rw [HR.out]; rfl, (Below.refl _ _).alloc (Nat.le_refl _) _⟩
    have t2 : decide ((6 : Int) < (n : Int)) = false := by simp; omega
    have t2' : decide (6 < n) = false := by simp; omega
    rcases hbc with ⟨e1, e2, e3, hb⟩ | ⟨hb, h⟩
    case inr =>
      rw [hb] at HE
      have HR : Hid (R = 70) := by show _ = _; rw [HE.out]; simp
      clear HE hb hr
      rcases h with h | ⟨e1, h⟩ | ⟨e1, e2, h⟩
      all_goals
        (try rw [e1])
        (try rw [e2])
        have hne := bne_of h
        go_enter Tryz.func37, Tryz.ntmps37
        go_wp2
        go_ret
        exact ⟨by rw [HR.out]; rfl, (Below.refl _ _).alloc (Nat.le_refl _) _⟩
    rw [hb] at HE
    rw [e1, e2, e3]
    have HR : Hid (R = if (apartL l && l.all fineA) = true then 0 else 70) := by
      show _ = _
      have q1 := decide_eq_true h1
      have q2 := decide_eq_true hm
      rw [HE.out, q1, q2]; simp only [Bool.true_and]
    clear HE hb e1 e2 e3
    obtain ⟨W0, hW0⟩ : ∃ W0, Hid (w.alloc (.cells #[.int .i64 2, .slice A n c, .int .i64 0, .int .i64 0, .int .i64 0] 24) = W0) := ⟨_, rfl⟩
    have hBW : Below w.heap.size w W0 := by rw [← hW0.out]; exact (Below.refl _ _).alloc (Nat.le_refl _) _
    have hkb : W0.cell? ⟨w.heap.size, 1, none⟩ = some (.slice A n c) := by
      rw [← hW0.out]
      exact cell_of_row (w.alloc (.cells #[.int .i64 2, .slice A n c, .int .i64 0, .int .i64 0, .int .i64 0] 24)) w.heap.size 1 _ _ (0, 0) (heap_alloc_new w _)
    have HRd := Lib.hid (hr.below (hBW.mono hB))
    have HBW := Lib.hid hBW
    clear hr hBW
    go_enter Tryz.func37, Tryz.ntmps37
    go_wp2
    rw [hW0.out]
    go_loopw [4, 5] (fun i _ wr => ∃ (k p : Nat), k ≤ n ∧ i = .int .i64 k ∧ wr = W0.drewN p ∧ Hid (GoodTo l k)) (fun i _ _ => n - (intOf i).toNat)
    case atStart => exact ⟨0, 0, Nat.zero_le _, rfl, rfl, Lib.hid ⟨fun j a hj => by omega, fun j k a b hj => by omega⟩⟩
    case round =>
      obtain ⟨k, p, hk, rfl, rfl, HG⟩ := hrel
      by_cases hlt : k < n
      · obtain ⟨b, o, x, rfl, hbb, hx, c0, c1⟩ := HRd.out.pr_at hlt
        have hi0 : (0 : Int) ≤ (k : Int) := by omega
        have hi1 : (k : Int) < (n : Int) := by omega
        have t0 : decide ((k : Int) < (n : Int)) = true := by simp; omega
        have q1 := Lib.hid (fun v => rsize_any x.1 v)
        have q2 := Lib.hid (fun v => rwall_any x.2 v)
        have hf := fine_two x
        obtain ⟨s1, hs1⟩ : ∃ q, sizeB x.1 = q := ⟨_, rfl⟩
        obtain ⟨s2, hs2⟩ : ∃ q, wallB x.2 = q := ⟨_, rfl⟩
        rw [hs1] at q1 hf
        rw [hs2] at q2 hf
        clear hs1 hs2
        cases s1
        case false =>
          have HR2 : Hid (R = 70) := by show _ = _; rw [HR.out, bad_fine hx.out hf]; rfl
          clear hf
          go_wp2_with (fail)
          refine (q1.out _).mono ?_; rintro e w1 ⟨rfl, rfl⟩
          go_wp2
          go_ret
          exact ⟨by rw [HR2.out]; rfl, below_drewN HBW.out _⟩
        cases s2
        case false =>
          have HR2 : Hid (R = 70) := by show _ = _; rw [HR.out, bad_fine hx.out hf]; rfl
          clear hf
          go_wp2_with (fail)
          refine (q1.out _).mono ?_; rintro e w1 ⟨rfl, rfl⟩
          go_wp2_with (fail)
          refine (q2.out _).mono ?_; rintro e w1 ⟨rfl, rfl⟩
          go_wp2
          go_ret
          exact ⟨by rw [HR2.out]; rfl, below_drewN HBW.out _⟩
        have HF := Lib.hid hf
        clear hf
        go_wp2_with (fail)
        refine (q1.out _).mono ?_; rintro e w1 ⟨rfl, rfl⟩
        go_wp2_with (fail)
        refine (q2.out _).mono ?_; rintro e w1 ⟨rfl, rfl⟩
        go_wp2_with (fail)
        go_loopw [5] (fun i wr => ∃ (j p : Nat), k < j ∧ j ≤ n ∧ i = .int .i64 j ∧ wr = W0.drewN p ∧ Hid (NoneOf l k j x)) (fun i _ => n - (intOf i).toNat)
        case atStart => exact ⟨k + 1, p, by omega, by omega, by simp, rfl, Lib.hid (fun j b h1 h2 => by omega)⟩
        case round =>
          obtain ⟨j, p2, hkj, hj, rfl, rfl, HN⟩ := hrel
          by_cases hjn : j < n
          · obtain ⟨b', o', y, e', _, hy, d0, d1⟩ := HRd.out.pr_at hjn
            have e1 : b = b' ∧ o = o' := by simpa using e'
            rw [← e1.1, ← e1.2] at d0
            clear e' e1 d1
            have hj0 : (0 : Int) ≤ (j : Int) := by omega
            have hj1 : (j : Int) < (n : Int) := by omega
            have t4 : decide ((j : Int) < (n : Int)) = true := by simp; omega
            by_cases hxy : x.1 = y.1
            · have t5 : (x.1 == y.1) = true := by simpa using hxy
              have HR2 : Hid (R = 70) := by show _ = _; rw [HR.out, bad_same hx.out hy.out hkj hxy]; rfl
              clear hxy
              go_wp2
              go_quiet (fail)
              go_wp2
              go_ret
              exact ⟨by rw [HR2.out]; rfl, below_drewN (below_drewN HBW.out _) _⟩
            · have t5 : (x.1 == y.1) = false := by simpa using hxy
              have HN2 : Hid (NoneOf l k (j + 1) x) := by
                intro i b hi hi2 hb
                by_cases e : i = j
                · subst e; rw [hy.out] at hb; rw [← Option.some.inj hb]; exact hxy
                · exact HN.out i b hi (by omega) hb
              clear hxy
              go_wp2
              go_quiet (fail)
              go_wp2
              go_roundw
              case rel => exact ⟨j + 1, _, by omega, by omega, by simp, by first | rfl | exact World.drewN_drewN _ _ _, HN2⟩
              case measure => simp [intOf]; omega
          · obtain rfl : j = n := by omega
            have t4 : decide ((j : Int) < (j : Int)) = false := by simp
            have HG2 : Hid (GoodTo l (k + 1)) := goodTo_next HG.out hx.out HF.out (by rw [hnn.out]; exact HN.out)
            go_wp2
            go_roundw
            case rel => exact ⟨k + 1, _, by omega, by simp, rfl, HG2⟩
            case measure => simp [intOf]; omega
      · obtain rfl : k = n := by omega
        have t0 : decide ((k : Int) < (k : Int)) = false := by simp
        have HR2 : Hid (R = 0) := by show _ = _; rw [HR.out, goodTo_all (by rw [hnn.out]; exact HG.out)]; rfl
        go_wp2
        go_ret
        exact ⟨by rw [HR2.out]; rfl, below_drewN HBW.out _⟩
  · by_cases h1 : 1 ≤ n
    case neg =>
      have t1 : decide ((n : Int) < 1) = true := by simp; omega
      have t1' : decide (n < 1) = true := by simp; omega
      have HR : Hid (R = 70) := by show _ = _; rw [HE.out]; simp [h1]
      clear HE h1 hr
      go_enter Tryz.func37, Tryz.ntmps37
      go_wp2
      go_ret
      exact ⟨by rw [HR.out]; rfl, (Below.refl _ _).alloc (Nat.le_refl _) _⟩
    have t1 : decide ((n : Int) < 1) = false := by simp; omega
    have t1' : decide (n < 1) = false := by simp; omega
    by_cases hm : n ≤ 1
    case neg =>
      have t2 : decide ((1 : Int) < (n : Int)) = true := by simp; omega
      have t2' : decide (1 < n) = true := by simp; omega
      have HR : Hid (R = 70) := by show _ = _; rw [HE.out]; simp [hm]
      clear HE h1 hm hr
      go_enter Tryz.func37, Tryz.ntmps37
      go_wp2
      go_ret
      exact ⟨by rw [HR.out]; rfl, (Below.refl _ _).alloc (Nat.le_refl _) _⟩
    have t2 : decide ((1 : Int) < (n : Int)) = false := by simp; omega
    have t2' : decide (1 < n) = false := by simp; omega
    rcases hbc with ⟨e1, e2, e3, hb⟩ | ⟨hb, h⟩
    case inr =>
      rw [hb] at HE
      have HR : Hid (R = 70) := by show _ = _; rw [HE.out]; simp
      clear HE hb hr
      rcases h with h | ⟨e1, h⟩ | ⟨e1, e2, h⟩
      all_goals
        (try rw [e1])
        (try rw [e2])
        have hne := bne_of h
        go_enter Tryz.func37, Tryz.ntmps37
        go_wp2
        go_ret
        exact ⟨by rw [HR.out]; rfl, (Below.refl _ _).alloc (Nat.le_refl _) _⟩
    rw [hb] at HE
    rw [e1, e2, e3]
    have HR : Hid (R = if (apartL l && l.all fineA) = true then 0 else 70) := by
      show _ = _
      have q1 := decide_eq_true h1
      have q2 := decide_eq_true hm
      rw [HE.out, q1, q2]; simp only [Bool.true_and]
    clear HE hb e1 e2 e3
    obtain ⟨W0, hW0⟩ : ∃ W0, Hid (w.alloc (.cells #[.int .i64 1, .slice A n c, .int .i64 0, .int .i64 0, .int .i64 0] 24) = W0) := ⟨_, rfl⟩
    have hBW : Below w.heap.size w W0 := by rw [← hW0.out]; exact (Below.refl _ _).alloc (Nat.le_refl _) _
    have hkb : W0.cell? ⟨w.heap.size, 1, none⟩ = some (.slice A n c) := by
      rw [← hW0.out]
      exact cell_of_row (w.alloc (.cells #[.int .i64 1, .slice A n c, .int .i64 0, .int .i64 0, .int .i64 0] 24)) w.heap.size 1 _ _ (0, 0) (heap_alloc_new w _)
    have HRd := Lib.hid (hr.below (hBW.mono hB))
    have HBW := Lib.hid hBW
    clear hr hBW
    go_enter Tryz.func37, Tryz.ntmps37
    go_wp2
    rw [hW0.out]
    go_loopw [4, 5] (fun i _ wr => ∃ (k p : Nat), k ≤ n ∧ i = .int .i64 k ∧ wr = W0.drewN p ∧ Hid (GoodTo l k)) (fun i _ _ => n - (intOf i).toNat)
    case atStart => exact ⟨0, 0, Nat.zero_le _, rfl, rfl, Lib.hid ⟨fun j a hj => by omega, fun j k a b hj => by omega⟩⟩
    case round =>
      obtain ⟨k, p, hk, rfl, rfl, HG⟩ := hrel
      by_cases hlt : k < n
      · obtain ⟨b, o, x, rfl, hbb, hx, c0, c1⟩ := HRd.out.pr_at hlt
        have hi0 : (0 : Int) ≤ (k : Int) := by omega
        have hi1 : (k : Int) < (n : Int) := by omega
        have t0 : decide ((k : Int) < (n : Int)) = true := by simp; omega
        have q1 := Lib.hid (fun v => rsize_any x.1 v)
        have q2 := Lib.hid (fun v => rwall_any x.2 v)
        have hf := fine_two x
        obtain ⟨s1, hs1⟩ : ∃ q, sizeB x.1 = q := ⟨_, rfl⟩
        obtain ⟨s2, hs2⟩ : ∃ q, wallB x.2 = q := ⟨_, rfl⟩
        rw [hs1] at q1 hf
        rw [hs2] at q2 hf
        clear hs1 hs2
        cases s1
        case false =>
          have HR2 : Hid (R = 70) := by show _ = _; rw [HR.out, bad_fine hx.out hf]; rfl
          clear hf
          go_wp2_with (fail)
          refine (q1.out _).mono ?_; rintro e w1 ⟨rfl, rfl⟩
          go_wp2
          go_ret
          exact ⟨by rw [HR2.out]; rfl, below_drewN HBW.out _⟩
        cases s2
        case false =>
          have HR2 : Hid (R = 70) := by show _ = _; rw [HR.out, bad_fine hx.out hf]; rfl
          clear hf
          go_wp2_with (fail)
          refine (q1.out _).mono ?_; rintro e w1 ⟨rfl, rfl⟩
          go_wp2_with (fail)
          refine (q2.out _).mono ?_; rintro e w1 ⟨rfl, rfl⟩
          go_wp2
          go_ret
          exact ⟨by rw [HR2.out]; rfl, below_drewN HBW.out _⟩
        have HF := Lib.hid hf
        clear hf
        go_wp2_with (fail)
        refine (q1.out _).mono ?_; rintro e w1 ⟨rfl, rfl⟩
        go_wp2_with (fail)
        refine (q2.out _).mono ?_; rintro e w1 ⟨rfl, rfl⟩
        go_wp2_with (fail)
        go_loopw [5] (fun i wr => ∃ (j p : Nat), k < j ∧ j ≤ n ∧ i = .int .i64 j ∧ wr = W0.drewN p ∧ Hid (NoneOf l k j x)) (fun i _ => n - (intOf i).toNat)
        case atStart => exact ⟨k + 1, p, by omega, by omega, by simp, rfl, Lib.hid (fun j b h1 h2 => by omega)⟩
        case round =>
          obtain ⟨j, p2, hkj, hj, rfl, rfl, HN⟩ := hrel
          by_cases hjn : j < n
          · exact absurd hjn (by omega)
          · obtain rfl : j = n := by omega
            have t4 : decide ((j : Int) < (j : Int)) = false := by simp
            have HG2 : Hid (GoodTo l (k + 1)) := goodTo_next HG.out hx.out HF.out (by rw [hnn.out]; exact HN.out)
            go_wp2
            go_roundw
            case rel => exact ⟨k + 1, _, by omega, by simp, rfl, HG2⟩
            case measure => simp [intOf]; omega
      · obtain rfl : k = n := by omega
        have t0 : decide ((k : Int) < (k : Int)) = false := by simp
        have HR2 : Hid (R = 0) := by show _ = _; rw [HR.out, goodTo_all (by rw [hnn.out]; exact HG.out)]; rfl
        go_wp2
        go_ret
        exact ⟨by rw [HR2.out]; rfl, below_drewN HBW.out _⟩
theorem rshape_none (s : Sh) (A : Option Addr) (c : Nat) (w : World) (h1 : s.kind ≠ 1) (h2 : s.kind ≠ 2) (h3 : s.kind ≠ 3) :
    Calls Tryz.prog 37 #[shV s A c] w fun e w' => e = .returned (.int .i64 (shE s)) ∧ Below w.heap.size w w' := by
  have HE : Hid (shE s = 70) := by
    show _ = _
    unfold shE okS; rw [if_neg h1, if_neg h2, if_neg h3]; rfl
  rw [HE.out]
  unfold shV
  obtain ⟨kind, l, mn, mx, wall⟩ := s
  dsimp only at h1 h2 h3 ⊢
  have t1 : (kind != 1) = true := by simpa using h1
  have t2 : (kind == 2) = false := by simpa using h2
  have t3 : (kind == 3) = false := by simpa using h3
  clear h1 h2 h3
  go_enter Tryz.func37, Tryz.ntmps37
  go_wp2
  go_ret
  exact ⟨rfl, (Below.refl _ _).alloc (Nat.le_refl _) _⟩
theorem rshape_any (s : Sh) (A : Option Addr) (c B : Nat) (w : World) (hr : Reads w B 2 A s.alts.length (recs prC s.alts)) (hB : B ≤ w.heap.size) (hn : s.alts.length ≤ 100000) :
    Calls Tryz.prog 37 #[shV s A c] w fun e w' => e = .returned (.int .i64 (shE s)) ∧ Below w.heap.size w w' := by
  by_cases h : s.kind = 1 ∨ s.kind = 2
  · exact rshape_list s A c B w hr hB hn h
  · by_cases h3 : s.kind = 3
    · exact rshape_three s A c w h3
    · exact rshape_none s A c w (fun e => h (.inl e)) (fun e => h (.inr e)) h3
set_option maxHeartbeats 2000000 in
theorem rsameA_any (A A2 : Option Addr) (n m c c2 B : Nat) (l l2 : List Pr) (w : World) (hr : Reads w B 2 A n (recs prC l)) (hr2 : Reads w B 2 A2 m (recs prC l2)) (hn : n ≤ 1000000) (hm : m ≤ 1000000) (hB : B ≤ w.heap.size) :
    Calls Tryz.prog 68 #[.slice A n c, .slice A2 m c2] w fun e w' => e = .returned (.bool (decide (l = l2))) ∧ Below w.heap.size w w' := by
  have hlen : Hid (l.length = n) := hr.rec_len prC_len (by omega)
  have hlen2 : Hid (l2.length = m) := hr2.rec_len prC_len (by omega)
  obtain ⟨R, hR⟩ : ∃ R, Hid (decide (l = l2) = R) := ⟨_, rfl⟩
  rw [hR.out]
  by_cases hnm : n = m
  · subst hnm
    have t0 : ((n : Int) != (n : Int)) = false := by simp
    go_enter Tryz.func68, Tryz.ntmps68
    go_wp2
    go_loopw [5] (fun i wr => ∃ (k p : Nat), k ≤ n ∧ i = .int .i64 k ∧ wr = w.drewN p ∧ Hid (l.take k = l2.take k)) (fun i _ => n - (intOf i).toNat)
    case atStart => exact ⟨0, 0, Nat.zero_le _, rfl, rfl, by show _ = _; simp⟩
    case round =>
      obtain ⟨k, p, hk, rfl, rfl, HO⟩ := hrel
      by_cases hlt : k < n
      · have t1 : decide ((k : Int) < (n : Int)) = true := by simp; omega
        obtain ⟨b, o, x, rfl, hbb, hx, c0, c1⟩ := hr.pr_at hlt
        obtain ⟨b2, o2, y, rfl, hbb2, hy, d0, d1⟩ := hr2.pr_at hlt
        have hj0 : (0 : Int) ≤ (k : Int) := by omega
        have hj1 : (k : Int) < (n : Int) := by omega
        have hxy : x = y ↔ x.1 = y.1 ∧ x.2 = y.2 := by
          obtain ⟨x1, x2⟩ := x
          obtain ⟨y1, y2⟩ := y
          simp
        cases u1 : x.1 != y.1
        · cases u2 : x.2 != y.2
          · have e : x = y := hxy.2 ⟨by simpa using u1, by simpa using u2⟩
            have HO2 : Hid (l.take (k + 1) = l2.take (k + 1)) := by
              show _ = _
              rw [List.take_add_one, List.take_add_one, hx.out, hy.out, HO.out, e]
            clear e hxy hr hr2
            go_wp2
            go_quiet (fail)
            go_wp2
            go_roundw
            case rel => exact ⟨k + 1, _, by omega, by simp, by first | rfl | exact World.drewN_drewN _ _ _, HO2⟩
            case measure => simp [intOf]; omega
          · have HR : Hid (R = false) := by
              show _ = _
              rw [← hR.out]
              refine decide_eq_false (fun hl => ?_)
              have h1 := hx.out
              rw [hl, hy.out] at h1
              rw [Option.some.inj h1] at u2
              simp at u2
            clear hxy hr hr2
            go_wp2
            go_quiet (fail)
            go_wp2
            go_ret
            exact ⟨by rw [HR.out]; rfl, below_drewN (below_drewN (Below.refl _ _) _) _⟩
        · have HR : Hid (R = false) := by
            show _ = _
            rw [← hR.out]
            refine decide_eq_false (fun hl => ?_)
            have h1 := hx.out
            rw [hl, hy.out] at h1
            rw [Option.some.inj h1] at u1
            simp at u1
          clear hxy hr hr2
          go_wp2
          go_quiet (fail)
          go_wp2
          go_ret
          exact ⟨by rw [HR.out]; rfl, below_drewN (below_drewN (Below.refl _ _) _) _⟩
      · obtain rfl : k = n := by omega
        have t1 : decide ((k : Int) < (k : Int)) = false := by simp
        have HR : Hid (R = true) := by
          show _ = _
          rw [← hR.out]
          refine decide_eq_true ?_
          have h1 := HO.out
          rwa [List.take_of_length_le (by rw [hlen.out]; exact Nat.le_refl _), List.take_of_length_le (by rw [hlen2.out]; exact Nat.le_refl _)] at h1
        go_wp2
        go_ret
        exact ⟨by rw [HR.out]; rfl, below_drewN (Below.refl _ _) _⟩
  · have t0 : ((n : Int) != (m : Int)) = true := by simp; omega
    have HR : Hid (R = false) := by
      show _ = _
      rw [← hR.out]
      exact decide_eq_false (fun hl => hnm (by rw [← hlen.out, ← hlen2.out, hl]))
    clear hnm
    go_enter Tryz.func68, Tryz.ntmps68
    go_wp2
    go_ret
    exact ⟨by rw [HR.out]; rfl, Below.refl _ _⟩
set_option maxHeartbeats 1000000 in
theorem rsameS_any (a b : Sh) (A A2 : Option Addr) (c c2 B : Nat) (w : World) (hr : Reads w B 2 A a.alts.length (recs prC a.alts)) (hr2 : Reads w B 2 A2 b.alts.length (recs prC b.alts)) (hn : a.alts.length ≤ 1000000) (hm : b.alts.length ≤ 1000000) (hB : B ≤ w.heap.size) :
    Calls Tryz.prog 41 #[shV a A c, shV b A2 c2] w fun e w' => e = .returned (.bool (sameS a b)) ∧ Below w.heap.size w w' := by
  have hc := Lib.hid (fun v (hv : Below w.heap.size w v) => rsameA_any A A2 _ _ c c2 B a.alts b.alts v (hr.below (hv.mono hB)) (hr2.below (hv.mono hB)) hn hm (Nat.le_trans hB hv.size))
  unfold shV sameS
  obtain ⟨q, hq⟩ : ∃ q, decide (a.alts = b.alts) = q := ⟨_, rfl⟩
  rw [hq] at hc ⊢
  clear hq hr hr2
  obtain ⟨n, hnn⟩ : ∃ n, a.alts.length = n := ⟨_, rfl⟩
  obtain ⟨m, hmm⟩ : ∃ n, b.alts.length = n := ⟨_, rfl⟩
  rw [hnn, hmm] at hc ⊢
  obtain ⟨k1, l1, x1, y1, z1⟩ := a
  obtain ⟨k2, l2, x2, y2, z2⟩ := b
  dsimp only at hc ⊢
  clear hnn hmm hn hm
  cases t1 : k1 == k2
  · go_enter Tryz.func41, Tryz.ntmps41
    go_wp2
    go_ret
    exact ⟨rfl, ((Below.refl _ _).alloc (Nat.le_refl _) _).alloc (by simp) _⟩
  cases t2 : x1 == x2
  · go_enter Tryz.func41, Tryz.ntmps41
    go_wp2
    go_ret
    exact ⟨rfl, ((Below.refl _ _).alloc (Nat.le_refl _) _).alloc (by simp) _⟩
  cases t3 : y1 == y2
  · go_enter Tryz.func41, Tryz.ntmps41
    go_wp2
    go_ret
    exact ⟨rfl, ((Below.refl _ _).alloc (Nat.le_refl _) _).alloc (by simp) _⟩
  cases t4 : z1 == z2
  · go_enter Tryz.func41, Tryz.ntmps41
    go_wp2
    go_ret
    exact ⟨rfl, ((Below.refl _ _).alloc (Nat.le_refl _) _).alloc (by simp) _⟩
  have hbx := Lib.hid (((Below.refl w.heap.size w).alloc (Nat.le_refl _) (.cells #[.int .i64 k1, .slice A n c, .int .i64 x1, .int .i64 y1, .int .i64 z1] 24)).alloc (by simp) (.cells #[.int .i64 k2, .slice A2 m c2, .int .i64 x2, .int .i64 y2, .int .i64 z2] 24))
  go_enter Tryz.func41, Tryz.ntmps41
  go_wp2_with (fail)
  refine (hc.out _ hbx.out).mono ?_; rintro e w1 ⟨rfl, hb1⟩
  go_wp2
  go_ret
  exact ⟨rfl, bt hbx.out hb1⟩
end Go.Proofs.YtjmhaoplablmnaaGreatDoor
