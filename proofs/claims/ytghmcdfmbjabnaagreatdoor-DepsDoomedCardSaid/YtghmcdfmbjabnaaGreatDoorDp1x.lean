/- Layer 16, plain: jobs that wait for jobs. Layer 16: the map of states, owned by a call. Layer 16: the map of states is made (printed by a program of my own). Layer 16: how a dependency stands (printed by a program of my own). Layer 16: the reference's met, lost, all, some (printed by a program of my own). Layer 16: Met, Doomed and the reference's (printed by a program of my own). -/
import Derived.Test.YtghmcdfmbjabnaaGreatDoorT1t
import Derived.Test.YtghmcdfmbjabnaaGreatDoorT2t
import Derived.Test.YtghmcdfmbjabnaaGreatDoorQ4t
import Derived.Test.YtghmcdfmbjabnaaGreatDoorQ4x
import Derived.Test.YtghmcdfmbjabnaaGreatDoorQ6t
import Derived.Test.YtghmcdfmbjabnaaGreatDoorQ6x
import Derived.Maps.OwnSet
import Derived.Maps.OwnOps
import Derived.WalkSpells
import Derived.Test.YtghmcdfmbjabnaaGreatDoorS1t
namespace Go.Proofs.YtghmcdfmbjabnaaGreatDoor
set_option linter.unusedVariables false
open Go.RowKit
/-- the state of a job of some id -/
def stQ (l : List Jb) (id : Int) : Option Int := (l.find? (posQ id)).map (·.state)
/-- how a dependency stands: 0 waits, 1 met, 2 lost -/
def depS : Option Int → Int → Int
  | none, _ => 2
  | some s, h => if s < 3 then 0 else if h = 1 ∨ (h = 2 ∧ s = 3) ∨ (h = 3 ∧ s ≠ 3) then 1 else 2
def dep1 (f : Int → Option Int) (d : Pr) : Int := depS (f d.2) d.1
def allF (f : Int → Option Int) (l : List Pr) : Bool := l.all (fun d => dep1 f d == 1)
def someF (f : Int → Option Int) (l : List Pr) : Bool := l.any (fun d => dep1 f d == 2)
def metP (l : List Jb) (x : Jb) : Bool := tabB l && allF (stQ l) x.after
def doomedP (l : List Jb) (x : Jb) : Bool := tabB l && someF (stQ l) x.after
def eligQ (f : Int → Option Int) (x : Jb) : Bool := (x.state == 1) && (!x.held && allF f x.after)
def eligC (f : Int → Option Int) (l : List Jb) : List Int := (l.filter (eligQ f)).map (·.id)
def eligP (l : List Jb) : List Int := if tabB l = true then eligC (stQ l) l else []
/-- who is queued and waits in vain -/
def vainQ (c : List Jb) (x : Jb) : Bool := (x.state == 1) && someF (stQ c) x.after
def dmC (l : List Jb) : Nat → List Jb
  | 0 => l
  | k + 1 => match l[k]? with
    | some x => if vainQ (dmC l k) x = true then (dmC l k).set k (finD x 6) else dmC l k
    | none => dmC l k
def dmI (l : List Jb) : Nat → List Int
  | 0 => []
  | k + 1 => match l[k]? with
    | some x => if vainQ (dmC l k) x = true then dmI l k ++ [x.id] else dmI l k
    | none => dmI l k
def doomP (l : List Jb) : List Jb × List Int := if tabB l = true then (dmC l l.length, dmI l l.length) else ([], [])
theorem dep1_three (f : Int → Option Int) (d : Pr) : dep1 f d = 0 ∨ dep1 f d = 1 ∨ dep1 f d = 2 := by
  unfold dep1 depS
  split
  · simp
  · split
    · simp
    · split <;> simp
theorem once_f (f : Int → Option Int) (l : List Pr) : (allF f l && someF f l) = false := by
  rw [Bool.and_eq_false_iff]
  cases h : someF f l
  · exact .inr rfl
  · left
    obtain ⟨d, hd, h2⟩ := List.any_eq_true.1 h
    rw [← Bool.not_eq_true]
    intro h3
    have := List.all_eq_true.1 h3 d hd
    simp only [beq_iff_eq] at this h2
    omega
theorem allF_drop {f : Int → Option Int} {l : List Pr} {k : Nat} {d : Pr} (h : l[k]? = some d) : allF f (l.drop k) = ((dep1 f d == 1) && allF f (l.drop (k + 1))) := by
  obtain ⟨h1, rfl⟩ := List.getElem?_eq_some_iff.1 h
  rw [List.drop_eq_getElem_cons h1]
  rfl
theorem someF_drop {f : Int → Option Int} {l : List Pr} {k : Nat} {d : Pr} (h : l[k]? = some d) : someF f (l.drop k) = ((dep1 f d == 2) || someF f (l.drop (k + 1))) := by
  obtain ⟨h1, rfl⟩ := List.getElem?_eq_some_iff.1 h
  rw [List.drop_eq_getElem_cons h1]
  rfl
theorem eligC_take {f : Int → Option Int} {l : List Jb} {k : Nat} {x : Jb} (hx : l[k]? = some x) : eligC f (l.take (k + 1)) = eligC f (l.take k) ++ if eligQ f x = true then [x.id] else [] := by
  unfold eligC
  rw [List.take_add_one, hx, List.filter_append, List.map_append]
  congr 1
  cases h : eligQ f x <;> simp [h]
/-! ### states by ids -/
theorem stQ_none {l : List Jb} {id : Int} (h : posP l id = -1) : stQ l id = none := by
  unfold stQ
  rcases idxG_cases (posQ id) l with ⟨_, h2⟩ | ⟨k, x, h1, _⟩
  · rw [List.find?_eq_none.2 (fun y hy => by rw [h2 y hy]; decide)]; rfl
  · unfold posP at h; omega
theorem stQ_at {l : List Jb} {id : Int} {k : Nat} {x : Jb} (h : posP l id = (k : Int)) (hx : l[k]? = some x) : stQ l id = some x.state := by
  unfold posP idxG at h
  split at h
  case h_2 => omega
  case h_1 i hi =>
    obtain ⟨hk, e, hn⟩ := List.findIdx?_eq_some_iff_getElem.1 hi
    have : i = k := by omega
    subst this
    obtain ⟨_, rfl⟩ := List.getElem?_eq_some_iff.1 hx
    unfold stQ
    have : l.find? (posQ id) = some l[i] := by
      rw [List.find?_eq_some_iff_getElem]
      exact ⟨e, i, hk, rfl, fun j hj => by have := hn j hj; simpa using this⟩
    rw [this]; rfl
theorem pos_of {l : List Jb} {k : Nat} {x : Jb} (hl : l.Pairwise (fun a b => a.id < b.id)) (hx : l[k]? = some x) : posP l x.id = (k : Int) := by
  refine idxG_hit hx (by unfold posQ; simp) (fun j y hj hy => ?_)
  unfold posQ
  have := asc_lt hl hy hx hj
  simp; omega
theorem stQ_mem {l : List Jb} {k : Nat} {x : Jb} (hl : l.Pairwise (fun a b => a.id < b.id)) (hx : l[k]? = some x) : stQ l x.id = some x.state := stQ_at (pos_of hl hx) hx
theorem stQ_take {l : List Jb} {k : Nat} {x : Jb} (hl : l.Pairwise (fun a b => a.id < b.id)) (hx : l[k]? = some x) (id : Int) : stQ (l.take (k + 1)) id = if id = x.id then some x.state else stQ (l.take k) id := by
  unfold stQ
  rw [List.take_add_one, hx, List.find?_append]
  by_cases h : id = x.id
  · subst h
    rw [if_pos rfl]
    have : (l.take k).find? (posQ x.id) = none := by
      rw [List.find?_eq_none]
      intro y hy
      obtain ⟨j, hj, e⟩ := List.mem_iff_getElem.1 hy
      rw [List.length_take] at hj
      rw [List.getElem_take] at e
      have := asc_lt hl (List.getElem?_eq_some_iff.2 ⟨by omega, e⟩) hx (show j < k by omega)
      unfold posQ; simp; omega
    rw [this]
    simp [posQ]
  · rw [if_neg h]
    have : ([x] : List Jb).find? (posQ id) = none := by simp [posQ]; omega
    simp only [Option.toList]
    rw [this]
    simp
theorem set_asc {c : List Jb} {j : Nat} {z y : Jb} (hl : c.Pairwise (fun a b => a.id < b.id)) (hz : c[j]? = some z) (hy : y.id = z.id) : (c.set j y).Pairwise (fun a b => a.id < b.id) := by
  obtain ⟨hj, rfl⟩ := List.getElem?_eq_some_iff.1 hz
  rw [List.pairwise_iff_getElem] at hl ⊢
  intro a b ha hb hab
  simp only [List.length_set] at ha hb
  have := hl a b ha hb hab
  rw [List.getElem_set, List.getElem_set]
  split <;> split
  · omega
  · subst_vars; rw [hy]; exact this
  · subst_vars; rw [hy]; exact this
  · exact this
theorem stQ_set {c : List Jb} {j : Nat} {z y : Jb} (hl : c.Pairwise (fun a b => a.id < b.id)) (hz : c[j]? = some z) (hy : y.id = z.id) (id : Int) : stQ (c.set j y) id = if id = z.id then some y.state else stQ c id := by
  have hl2 := set_asc hl hz hy
  have hj : j < c.length := (List.getElem?_eq_some_iff.1 hz).1
  by_cases h : id = z.id
  · rw [if_pos h, h, ← hy]
    exact stQ_mem hl2 (k := j) (by rw [List.getElem?_set_self hj])
  · rw [if_neg h]
    rcases idxG_cases (posQ id) c with ⟨h1, h2⟩ | ⟨k, x, h1, h2, h3, _⟩
    · rw [stQ_none h1]
      refine stQ_none ?_
      refine idxG_miss (fun i u hi hu => ?_)
      rcases List.mem_or_eq_of_mem_set (List.mem_of_getElem? hu) with h4 | h4
      · exact h2 u h4
      · subst h4; unfold posQ; simp; omega
    · have hid : x.id = id := by unfold posQ at h3; simpa using h3
      have hne : j ≠ k := by
        intro e; subst e
        rw [hz] at h2
        cases h2; omega
      have h5 : (c.set j y)[k]? = some x := by rw [List.getElem?_set_ne hne]; exact h2
      rw [← hid, stQ_mem hl2 h5, stQ_mem hl h2]
/-! ### who waits, waits for lesser ids -/
theorem okJ_lesser {x : Jb} (h : okJ x = true) : ∀ d ∈ x.after, d.2 < x.id := by
  have := ((okJ_iff x).1 h).2.2.2.2.2.1
  unfold laterB at this
  intro d hd
  have := List.any_eq_false.1 this d hd
  simpa using this
theorem someF_congr {f g : Int → Option Int} {l : List Pr} (h : ∀ d ∈ l, f d.2 = g d.2) : someF f l = someF g l := by
  unfold someF
  induction l with
  | nil => rfl
  | cons d t ih =>
    simp only [List.any_cons]
    rw [ih (fun e he => h e (List.mem_cons_of_mem _ he))]
    unfold dep1
    rw [h d (List.mem_cons_self ..)]
theorem some_set {c : List Jb} {j : Nat} {z y x : Jb} (hl : c.Pairwise (fun a b => a.id < b.id)) (hz : c[j]? = some z) (hy : y.id = z.id) (hx : okJ x = true) (hxz : x.id ≤ z.id) : someF (stQ (c.set j y)) x.after = someF (stQ c) x.after := by
  refine someF_congr (fun d hd => ?_)
  have := okJ_lesser hx d hd
  rw [stQ_set hl hz hy, if_neg (by omega)]
/-! ### rounds -/
theorem fin_id (x : Jb) (s : Int) : (finD x s).id = x.id := by unfold finD; split <;> rfl
theorem fin_state (x : Jb) (s : Int) : (finD x s).state = s := by unfold finD; split <;> rfl
theorem vain_end {x : Jb} (hs : x.state = 1) : endM x 6 = 0 := by
  unfold endM endedB inB whenE
  simp [hs]
theorem end_vain {x : Jb} (hx : okJ x = true) (hs : x.state = 1) : endJ x 6 = (finD x 6, 0) := by
  unfold endJ turnJ
  rw [if_pos hx, if_pos (vain_end hs)]
theorem fin_okJ {x : Jb} (hx : okJ x = true) (hs : x.state = 1) : okJ (finD x 6) = true := end_ok hx (vain_end hs)
theorem dmC_some {l : List Jb} {k : Nat} {x : Jb} (hx : l[k]? = some x) : dmC l (k + 1) = if vainQ (dmC l k) x = true then (dmC l k).set k (finD x 6) else dmC l k := by simp only [dmC, hx]
theorem dmI_some {l : List Jb} {k : Nat} {x : Jb} (hx : l[k]? = some x) : dmI l (k + 1) = if vainQ (dmC l k) x = true then dmI l k ++ [x.id] else dmI l k := by simp only [dmI, hx]
theorem dmC_len (l : List Jb) : ∀ k, (dmC l k).length = l.length
  | 0 => rfl
  | k + 1 => by
    have ih := dmC_len l k
    unfold dmC
    split
    · split
      · rw [List.length_set, ih]
      · exact ih
    · exact ih
theorem dmC_above (l : List Jb) : ∀ (k i : Nat), k ≤ i → (dmC l k)[i]? = l[i]?
  | 0, _, _ => rfl
  | k + 1, i, h => by
    have ih := dmC_above l k i (by omega)
    unfold dmC
    split
    · split
      · rw [List.getElem?_set_ne (by omega), ih]
      · exact ih
    · exact ih
theorem vain_state {c : List Jb} {x : Jb} (h : vainQ c x = true) : x.state = 1 ∧ someF (stQ c) x.after = true := by
  unfold vainQ at h; simpa using h
theorem tab_set {c : List Jb} {j : Nat} {z y : Jb} (h : tabB c = true) (hz : c[j]? = some z) (hy : y.id = z.id) (hok : okJ y = true) : tabB (c.set j y) = true := by
  rw [tab_iff] at h ⊢
  obtain ⟨h1, h2, h3⟩ := h
  refine ⟨by rw [List.length_set]; exact h1, fun u hu => ?_, set_asc h3 hz hy⟩
  rcases List.mem_or_eq_of_mem_set hu with h4 | h4
  · exact h2 u h4
  · subst h4; exact ⟨hok, by rw [hy]; exact (h2 z (List.mem_of_getElem? hz)).2⟩
theorem dmC_tab {l : List Jb} (h : tabB l = true) : ∀ k, tabB (dmC l k) = true
  | 0 => h
  | k + 1 => by
    have ih := dmC_tab h k
    unfold dmC
    split
    case h_2 => exact ih
    case h_1 x hx =>
      split
      case isFalse => exact ih
      case isTrue hv =>
        exact tab_set ih ((dmC_above l k k (Nat.le_refl _)).trans hx) (fin_id x 6) (fin_okJ ((tab_iff.1 h).2.1 x (List.mem_of_getElem? hx)).1 (vain_state hv).1)
theorem dm_put {l : List Jb} {k : Nat} {x : Jb} (h : tabB l = true) (hx : l[k]? = some x) (hs : x.state = 1) : putP (dmC l k) (finD x 6) = ((dmC l k).set k (finD x 6), 0) := by
  have ht := dmC_tab h k
  refine putP_yes ht (fin_okJ ((tab_iff.1 h).2.1 x (List.mem_of_getElem? hx)).1 hs) ?_
  rw [fin_id]
  exact pos_of (tab_iff.1 ht).2.2 ((dmC_above l k k (Nat.le_refl _)).trans hx)
theorem dm_st {l : List Jb} {k : Nat} {x : Jb} (h : tabB l = true) (hx : l[k]? = some x) (id : Int) : stQ ((dmC l k).set k (finD x 6)) id = if id = x.id then some 6 else stQ (dmC l k) id := by
  rw [stQ_set (tab_iff.1 (dmC_tab h k)).2.2 ((dmC_above l k k (Nat.le_refl _)).trans hx) (fin_id x 6), fin_state]
/-- what is decided of a job stays so -/
theorem dm_some {l : List Jb} {i : Nat} {x : Jb} (h : tabB l = true) (hx : l[i]? = some x) : ∀ k, i ≤ k → someF (stQ (dmC l k)) x.after = someF (stQ (dmC l i)) x.after := by
  have hok := ((tab_iff.1 h).2.1 x (List.mem_of_getElem? hx)).1
  intro k hk
  induction k with
  | zero => rw [Nat.le_zero.1 hk]
  | succ k ih =>
    rcases Nat.lt_or_ge k i with h1 | h1
    · rw [show k + 1 = i by omega]
    · have ih := ih h1
      cases hz : l[k]? with
      | none => simp only [dmC, hz]; exact ih
      | some z =>
        rw [dmC_some hz]
        split
        · rw [some_set (tab_iff.1 (dmC_tab h k)).2.2 ((dmC_above l k k (Nat.le_refl _)).trans hz) (fin_id z 6) hok ?_]
          · exact ih
          · rcases Nat.lt_or_eq_of_le h1 with h2 | h2
            · have := asc_lt (tab_iff.1 h).2.2 hx hz h2; omega
            · subst h2; rw [hx] at hz; cases hz; omega
        · exact ih
/-- a round, whole: what stands at a place at the end -/
theorem dm_at {l : List Jb} {i : Nat} {x : Jb} (h : tabB l = true) (hx : l[i]? = some x) : ∀ k, i < k → (dmC l k)[i]? = some (if vainQ (dmC l k) x = true then finD x 6 else x) := by
  intro k hk
  have e : vainQ (dmC l k) x = vainQ (dmC l i) x := by unfold vainQ; rw [dm_some h hx k (by omega)]
  rw [e]
  induction k with
  | zero => omega
  | succ k ih =>
    rcases Nat.lt_or_eq_of_le (Nat.lt_succ_iff.1 hk) with h1 | h1
    · have ih := ih h1 (by unfold vainQ; rw [dm_some h hx k (by omega)])
      cases hz : l[k]? with
      | none => simp only [dmC, hz]; exact ih
      | some z =>
        rw [dmC_some hz]
        split
        · rw [List.getElem?_set_ne (by omega)]; exact ih
        · exact ih
    · subst h1
      have hi := (dmC_above l i i (Nat.le_refl _)).trans hx
      rw [dmC_some hx]
      split
      · rw [List.getElem?_set_self (List.getElem?_eq_some_iff.1 hi).1]
      · exact hi
/-- whose ids are told -/
theorem dm_has {l : List Jb} {i : Nat} {x : Jb} (h : tabB l = true) (hx : l[i]? = some x) : ∀ k, i < k → (decide (x.id ∈ dmI l k) = vainQ (dmC l k) x) := by
  have hin : ∀ (k : Nat) (z : Int), z ∈ dmI l k → ∃ (j : Nat) (y : Jb), j < k ∧ l[j]? = some y ∧ y.id = z := by
    intro k
    induction k with
    | zero => intro z hz; cases hz
    | succ k ih =>
      intro z hz
      unfold dmI at hz
      split at hz
      case h_2 => obtain ⟨j, y, a, b, c⟩ := ih z hz; exact ⟨j, y, by omega, b, c⟩
      case h_1 u hu =>
        split at hz
        case isFalse => obtain ⟨j, y, a, b, c⟩ := ih z hz; exact ⟨j, y, by omega, b, c⟩
        case isTrue =>
          rcases List.mem_append.1 hz with h1 | h1
          · obtain ⟨j, y, a, b, c⟩ := ih z h1; exact ⟨j, y, by omega, b, c⟩
          · exact ⟨k, u, by omega, hu, (List.mem_singleton.1 h1).symm⟩
  intro k hk
  have e : vainQ (dmC l k) x = vainQ (dmC l i) x := by unfold vainQ; rw [dm_some h hx k (by omega)]
  rw [e]
  induction k with
  | zero => omega
  | succ k ih =>
    rcases Nat.lt_or_eq_of_le (Nat.lt_succ_iff.1 hk) with h1 | h1
    · have ih := ih h1 (by unfold vainQ; rw [dm_some h hx k (by omega)])
      rw [← ih]
      cases hz : l[k]? with
      | none => simp only [dmI, hz]
      | some z =>
        rw [dmI_some hz]
        split
        · have := asc_lt (tab_iff.1 h).2.2 hx hz h1
          rw [decide_eq_decide, List.mem_append, List.mem_singleton]
          constructor
          · rintro (a | a)
            · exact a
            · omega
          · exact .inl
        · rfl
    · subst h1
      rw [dmI_some hx]
      cases hv : vainQ (dmC l i) x
      · rw [if_neg (by decide)]
        refine decide_eq_false (fun hm => ?_)
        obtain ⟨j, y, a, b, c⟩ := hin i _ hm
        have := asc_lt (tab_iff.1 h).2.2 b hx a
        omega
      · rw [if_pos rfl]
        simp
/-- behind it nobody waits in vain -/
theorem dm_done {l : List Jb} (h : tabB l = true) {i : Nat} {y : Jb} (hy : (dmC l l.length)[i]? = some y) : vainQ (dmC l l.length) y = false := by
  have hi : i < l.length := by have := (List.getElem?_eq_some_iff.1 hy).1; rwa [dmC_len] at this
  have hx : l[i]? = some l[i] := List.getElem?_eq_getElem hi
  have := dm_at h hx l.length hi
  rw [hy, Option.some.injEq] at this
  subst this
  split
  · unfold vainQ; rw [fin_state]; rfl
  · rename_i hv; simpa using hv
theorem dm_still {m : List Jb} (h : ∀ (i : Nat) (y : Jb), m[i]? = some y → vainQ m y = false) : ∀ k, dmC m k = m ∧ dmI m k = []
  | 0 => ⟨rfl, rfl⟩
  | k + 1 => by
    obtain ⟨h1, h2⟩ := dm_still h k
    cases hz : m[k]? with
    | none => simp only [dmC, dmI, hz, h1, h2]; exact ⟨trivial, trivial⟩
    | some z =>
      rw [dmC_some hz, dmI_some hz, h1, h2, h k z hz]
      exact ⟨rfl, rfl⟩
/-! ### the reference's rounds -/
theorem dm_skip {l : List Jb} (h : tabB l = true) {k : Nat} : ∀ i, k ≤ i → (∀ (j : Nat) (y : Jb), k ≤ j → j < i → l[j]? = some y → vainQ (dmC l k) y = false) → dmC l i = dmC l k ∧ dmI l i = dmI l k := by
  intro i hi
  induction i with
  | zero => intro _; rw [Nat.le_zero.1 hi]; exact ⟨rfl, rfl⟩
  | succ i ih =>
    intro hv
    rcases Nat.lt_or_ge i k with h1 | h1
    · rw [show i + 1 = k by omega]; exact ⟨rfl, rfl⟩
    · obtain ⟨e1, e2⟩ := ih h1 (fun j y a b c => hv j y a (by omega) c)
      cases hz : l[i]? with
      | none => simp only [dmC, dmI, hz]; exact ⟨e1, e2⟩
      | some z =>
        rw [dmC_some hz, dmI_some hz, e1, e2, hv i z h1 (by omega) hz]
        exact ⟨rfl, rfl⟩
/-- nobody ahead of a place waits in vain -/
def calm (l : List Jb) (k : Nat) : Prop := ∀ (j : Nat) (y : Jb), j < k → (dmC l k)[j]? = some y → vainQ (dmC l k) y = false
theorem calm_all {l : List Jb} (h : tabB l = true) (k : Nat) : calm l k := by
  intro j y hj hy
  have hi : j < l.length := by have := (List.getElem?_eq_some_iff.1 hy).1; rwa [dmC_len] at this
  have hx : l[j]? = some l[j] := List.getElem?_eq_getElem hi
  have := dm_at h hx k hj
  rw [hy, Option.some.injEq] at this
  subst this
  split
  · unfold vainQ; rw [fin_state]; rfl
  · rename_i hv; simpa using hv
def firstV (c : List Jb) : Int := idxG (vainQ c) c
/-- the first who waits in vain, behind k rounds -/
theorem first_at {l : List Jb} (h : tabB l = true) (k : Nat) (hk : k ≤ l.length) : (firstV (dmC l k) = -1 ∧ dmC l l.length = dmC l k ∧ dmI l l.length = dmI l k) ∨
    ∃ (i : Nat) (x : Jb), firstV (dmC l k) = (i : Int) ∧ k ≤ i ∧ i < l.length ∧ (dmC l k)[i]? = some x ∧ l[i]? = some x ∧ okJ x = true ∧ x.state = 1 ∧ dmC l (i + 1) = (dmC l k).set i (finD x 6) ∧ dmI l (i + 1) = dmI l k ++ [x.id] ∧ (∀ z ∈ dmI l k, z < x.id) := by
  have hab : ∀ j, k ≤ j → (dmC l k)[j]? = l[j]? := fun j hj => dmC_above l k j hj
  rcases idxG_cases (vainQ (dmC l k)) (dmC l k) with ⟨h1, h2⟩ | ⟨i, x, h1, h2, h3, h4⟩
  · left
    obtain ⟨e1, e2⟩ := dm_skip h l.length hk (fun j y a b c => h2 y (List.mem_of_getElem? ((hab j a).trans c)))
    exact ⟨h1, e1, e2⟩
  · right
    have hki : k ≤ i := by
      rcases Nat.lt_or_ge i k with h5 | h5
      · have := calm_all h k i x h5 h2; rw [h3] at this; cases this
      · exact h5
    have hx : l[i]? = some x := (hab i hki).symm.trans h2
    have hil : i < l.length := (List.getElem?_eq_some_iff.1 hx).1
    have hno : ∀ (j : Nat) (y : Jb), k ≤ j → j < i → l[j]? = some y → vainQ (dmC l k) y = false := by
      intro j y a b c
      unfold idxG at h1
      split at h1
      case h_2 => omega
      case h_1 i2 hi2 =>
        have : i2 = i := by omega
        subst this
        obtain ⟨_, _, hn⟩ := List.findIdx?_eq_some_iff_getElem.1 hi2
        have hc := (hab j a).trans c
        obtain ⟨hj, rfl⟩ := List.getElem?_eq_some_iff.1 hc
        simpa using hn j b
    obtain ⟨e1, e2⟩ := dm_skip h i hki hno
    refine ⟨i, x, h1, hki, hil, h2, hx, ((tab_iff.1 h).2.1 x (List.mem_of_getElem? hx)).1, (vain_state h3).1, ?_, ?_, ?_⟩
    · rw [dmC_some hx, e1, if_pos h3]
    · rw [dmI_some hx, e1, e2, if_pos h3]
    · intro z hz
      have : ∀ (k : Nat) (z : Int), z ∈ dmI l k → ∃ (j : Nat) (y : Jb), j < k ∧ l[j]? = some y ∧ y.id = z := by
        intro k
        induction k with
        | zero => intro z hz; cases hz
        | succ k ih =>
          intro z hz
          unfold dmI at hz
          split at hz
          case h_2 => obtain ⟨j, y, a, b, c⟩ := ih z hz; exact ⟨j, y, by omega, b, c⟩
          case h_1 u hu =>
            split at hz
            case isFalse => obtain ⟨j, y, a, b, c⟩ := ih z hz; exact ⟨j, y, by omega, b, c⟩
            case isTrue =>
              rcases List.mem_append.1 hz with h1 | h1
              · obtain ⟨j, y, a, b, c⟩ := ih z h1; exact ⟨j, y, by omega, b, c⟩
              · exact ⟨k, u, by omega, hu, (List.mem_singleton.1 h1).symm⟩
      obtain ⟨j, y, a, b, c⟩ := this k z hz
      have := asc_lt (tab_iff.1 h).2.2 b hx (by omega)
      omega
theorem lawI : Go.Maps.Keyed Tryz.prog 3 := Go.Maps.int_keyed Tryz.underlying3
theorem zeroI (w : World) : (zeroValue 3).run Tryz.prog w = .ok (.int .i64 0) w := by kernel_rfl
/-- numbers of the machine -/
def wfI (k : Int) : Prop := (Lit.int .i64 k).wf = true
theorem wfI_of {k : Int} (h1 : -9223372036854775808 ≤ k) (h2 : k ≤ 9223372036854775807) : wfI k := WalkArith.wf_i64 ⟨h1, h2⟩
theorem keyI {k : Int} (h : wfI k) : keyOf Tryz.prog 3 (.int .i64 k) = some (.int .i64 k) := Go.Maps.keyOf_int_mk Tryz.underlying3 h
/-- block b is a map of at most n states that reads as f -/
def StM (w : World) (b n : Nat) (f : Int → Option Int) : Prop :=
  ∃ D : DataW Unit, w.ownsMap Tryz.prog 3 (plainElem Tryz.prog 3) b n D ∧ ∀ k, wfI k → Maps.has D (.int .i64 k) = (f k).isSome ∧ D.atKey (.int .i64 k) (.lit (.int .i64 0)) = .lit (.int .i64 ((f k).getD 0))
theorem StM.lt {w : World} {b n : Nat} {f : Int → Option Int} (h : StM w b n f) : b < w.heap.size := by
  obtain ⟨D, h1, _⟩ := h
  exact h1.lt
theorem StM.blk {w w' : World} {b n : Nat} {f : Int → Option Int} (h : StM w b n f) (hb : w'.heap[b]? = w.heap[b]?) : StM w' b n f := by
  obtain ⟨D, ⟨es, clock, h1, h2⟩, h3⟩ := h
  exact ⟨D, ⟨es, clock, hb.trans h1, h2⟩, h3⟩
theorem StM.below {w w' : World} {b n B : Nat} {f : Int → Option Int} (h : StM w b n f) (hb : Below B w w') (hB : b < B) : StM w' b n f := h.blk (hb.block b hB)
theorem StM.up {w w' : World} {b n : Nat} {f : Int → Option Int} (h : StM w b n f) (hb : Below w.heap.size w w') : StM w' b n f := h.below hb h.lt
theorem StM.made (w : World) : StM (w.alloc (.map #[] 0)) w.heap.size 0 (fun _ => none) :=
  ⟨.map [], World.ownsMap_made _ _ _ _, fun k _ => ⟨rfl, rfl⟩⟩
theorem StM.congr {w : World} {b n : Nat} {f g : Int → Option Int} (h : StM w b n f) (e : ∀ k, f k = g k) : StM w b n g := by
  obtain ⟨D, h1, h2⟩ := h
  exact ⟨D, h1, fun k hk => by rw [← e k]; exact h2 k hk⟩
section
variable {w : World} {ops : Array Oper} {rest : List Oper} {o : Oper} {a : Act} {Q : Exit → Act → World → Prop}
theorem st_look (hg : o.guard = none) (m x : Operand) (hop : o.op = Op.lookup 98 m x true) (b n : Nat) (f : Int → Option Int) (hm : a.eval m = .map (some b)) (h : StM w b n f) (key : Int) (hx : a.eval x = .int .i64 key) (hk : wfI key)
    (hK : wpList Tryz.prog ops Q rest (a.put o.dst (.tuple #[.int .i64 ((f key).getD 0), .bool (f key).isSome])) w) : wpList Tryz.prog ops Q (o :: rest) a w := by
  obtain ⟨D, h1, h2⟩ := h
  refine wpList_lookup_own_ok_int w hg m x 98 hop 3 3 .i64 lawI Tryz.underlying98 Tryz.underlying3 (zeroI w) b n D hm h1 _ _ hx (keyI hk) ?_
  intro c hat _
  obtain ⟨e1, e2⟩ := h2 key hk
  rw [e2] at hat
  have : c = (f key).getD 0 := by
    injection hat with h5
    injection h5 with _ h6
    exact h6.symm
  rw [this, e1]
  exact hK
theorem st_put (hg : o.guard = none) (m x v : Operand) (hop : o.op = Op.mapUpdate 98 m x v) (b n : Nat) (f : Int → Option Int) (hm : a.eval m = .map (some b)) (h : StM w b n f) (hn : n ≤ 1000000) (key s : Int) (hx : a.eval x = .int .i64 key) (hv : a.eval v = .int .i64 s) (hk : wfI key) (hs : wfI s)
    (hK : ∀ w', StM w' b (n + 1) (fun k => if k = key then some s else f k) → Kp w.heap.size (some b) w w' → wpList Tryz.prog ops Q rest (a.put o.dst undef) w') : wpList Tryz.prog ops Q (o :: rest) a w := by
  obtain ⟨D, h1, h2⟩ := h
  refine wpList_mapUpdate_in w hg m x v 98 hop 3 3 lawI Tryz.underlying98 _ b n D hm h1 (by unfold maxLen; omega) _ _ _ hx hv (keyI hk) _ [] (plainElem_int Tryz.underlying3 hs) ?_
  intro w' h3 h4
  refine hK w' ⟨_, h3, fun k hwk => ?_⟩ ?_
  · by_cases e : k = key
    · subst e
      simp only [if_true]
      exact ⟨Maps.has_put_same h1.isMap (k := .int .i64 k) (show True from trivial) _, Maps.atKey_put_same h1.isMap (k := .int .i64 k) (show True from trivial) _ _⟩
    · simp only [if_neg e]
      rw [Maps.has_put_other (by simpa using e), Maps.atKey_put_other (by simpa using e)]
      exact h2 k hwk
  · exact Kp.of_grown h4.grown (Nat.le_refl _)
end
set_option linter.unusedSimpArgs false in
set_option maxHeartbeats 4000000 in
set_option maxRecDepth 100000 in
theorem of_no (l : List JR) (A : Option Addr) (n c B : Nat) (w : World) (ht : TbAt w B A n l) (hB : B ≤ w.heap.size) (hz : tabB (jobs l) = false) :
    Calls Tryz.prog 85 #[.slice A n c] w fun e w' => e = .returned (.map none) ∧ Below w.heap.size w w' := by
  have q1 := Lib.hid (tcheck_any l A n c B w ht hB)
  rw [tabE_f hz] at q1
  clear ht hB
  go_enter Tryz.func85, Tryz.ntmps85
  go_wp2_with (fail)
  refine q1.out.mono ?_; rintro e w1 ⟨rfl, hw1⟩
  go_wp2
  go_ret
  exact ⟨rfl, hw1⟩
set_option linter.unusedSimpArgs false in
set_option maxHeartbeats 4000000 in
set_option maxRecDepth 100000 in
theorem of_yes (l : List JR) (A : Option Addr) (n c B : Nat) (w : World) (ht : TbAt w B A n l) (hB : B ≤ w.heap.size) (hz : tabB (jobs l) = true) :
    Calls Tryz.prog 85 #[.slice A n c] w fun e w' => ∃ g, w.heap.size ≤ g ∧ e = .returned (.map (some g)) ∧ StM w' g n (stQ (jobs l)) ∧ Below w.heap.size w w' := by
  have hlj : Hid ((jobs l).length = n) := (jobs_len l).trans ht.len
  have q1 := Lib.hid (tcheck_any l A n c B w ht hB)
  rw [tabE_t hz] at q1
  have HT := Lib.hid ht
  have HBW := Lib.hid hB
  have HZ := Lib.hid (tab_iff.1 hz)
  have hn1 : n ≤ 1000 := ht.2.2
  have hmm := @run_makeMap Tryz.prog
  clear ht hB hz
  go_enter Tryz.func85, Tryz.ntmps85
  go_wp2_with (fail)
  refine q1.out.mono ?_; rintro e w0 ⟨rfl, hw0⟩
  have B0 := Lib.hid hw0
  have s0 := hw0.size
  clear hw0 q1
  go_wp2
  go_loopw [12] (fun i wr => ∃ k : Nat, k ≤ n ∧ i = .int .i64 k ∧ Hid (Below w.heap.size w wr) ∧ Hid (StM wr w0.heap.size k (stQ ((jobs l).take k)))) (fun i _ => n - (intOf i).toNat)
  case atStart => exact ⟨0, Nat.zero_le _, rfl, B0.out.alloc s0 _, (StM.made w0).congr (fun k => rfl)⟩
  case round =>
    obtain ⟨k, hk, rfl, hbw, HS⟩ := hrel
    by_cases hlt : k < n
    · obtain ⟨b, o, r, rfl, hbb, hx, KR, JR⟩ := (HT.out.below (hbw.out.mono HBW.out)).elem hlt
      have hi0 : (0 : Int) ≤ (k : Int) := by omega
      have hi1 : (k : Int) < (n : Int) := by omega
      have t0 : decide ((k : Int) < (n : Int)) = true := by simp; omega
      have BW := Nat.le_trans HBW.out hbw.out.size
      have hbl : b < wr.heap.size := Nat.lt_of_lt_of_le hbb BW
      have CSZ := Lib.hid (jrC_info (r := r))
      have CSA := Lib.hid (jrA_info r)
      have C1 := Lib.hid (jrA_all r)
      have CS2 := Lib.hid (jrA_20 r)
      have HJX := Lib.hid (jobs_at hx.out)
      have e0 : (jrC r)[0]? = some (.int .i64 r.x.id) := rfl
      have e11 : (jrC r)[11]? = some (.int .i64 r.x.state) := rfl
      have HID := Lib.hid (okJ_id (HZ.out.2.1 _ (List.mem_of_getElem? HJX.out)).1)
      have HST := Lib.hid (okJ_state (HZ.out.2.1 _ (List.mem_of_getElem? HJX.out)).1)
      have HTK := Lib.hid (fun i => stQ_take HZ.out.2.2 HJX.out i)
      obtain ⟨x, hxx⟩ : ∃ x, r.x = x := ⟨_, rfl⟩
      rw [hxx] at e0 e11 HID HST HTK
      obtain ⟨id, hid⟩ : ∃ u, x.id = u := ⟨_, rfl⟩
      rw [hid] at e0 HID HTK
      obtain ⟨st, hst⟩ : ∃ u, x.state = u := ⟨_, rfl⟩
      rw [hst] at e11 HST HTK
      obtain ⟨cs, hcs⟩ : ∃ cs, Hid (jrC r = cs) := ⟨_, rfl⟩
      rw [hcs.out] at KR CSZ CSA C1 CS2 e0 e11
      obtain ⟨W1, hs1, j1, b1, z1w⟩ := boxed wr cs.toArray
      have hstore := Lib.hid hs1
      have J1 := Lib.hid j1
      have B1 := Lib.hid b1
      clear hs1 j1 b1
      clear hcs hxx hid hst hx HJX JR
      have u0 : W1.cell? ⟨wr.heap.size, 0, none⟩ = some (.int .i64 id) := box_cell J1.out (Below.refl _ _) z1w e0
      have u11 : W1.cell? ⟨wr.heap.size, 11, none⟩ = some (.int .i64 st) := box_cell J1.out (Below.refl _ _) z1w e11
      have HS1 := Lib.hid (HS.out.up B1.out)
      have hsw := hbw.out.size
      go_wp2_with (first | (refine wpList_load_mid rfl 28 _ rfl b (o + k * 20) rfl cs _ KR.out Tryz.underlying28 rfl CSZ.out ?_) | (refine wpList_store_row rfl 28 _ _ rfl (wr.heap.size) cs.toArray rfl rfl 28 _ (heap_alloc_new wr _) CSA.out (by show 20 = _; exact CS2.out) C1.out ?_; rw [hstore.out]) | (refine st_put rfl _ _ _ rfl w0.heap.size k _ rfl HS1.out (by omega) id st rfl rfl (wfI_of (by have := HID.out; omega) (by have := HID.out; omega)) (wfI_of (by have := HST.out; omega) (by have := HST.out; omega)) ?_; intro w5 h5 k5))
      have H5 := Lib.hid (h5.congr (fun i => (HTK.out i).symm))
      have B5 := Lib.hid ((bt hbw.out B1.out).trans (k5.below (Nat.le_trans hsw B1.out.size) (fun j h => by rw [← Option.some.inj h]; exact s0)))
      clear h5 k5
      go_wp2
      go_roundw
      case rel => exact ⟨k + 1, by omega, by simp, B5, H5⟩
      case measure => simp [intOf]; omega
    · obtain rfl : k = n := by omega
      have t0 : decide ((k : Int) < (k : Int)) = false := by simp
      have HS2 : Hid (StM wr w0.heap.size k (stQ (jobs l))) := by have := HS.out; rw [List.take_of_length_le (Nat.le_of_eq hlj.out)] at this; exact this
      go_wp2
      go_ret
      exact ⟨_, s0, rfl, HS2.out, hbw.out⟩
set_option linter.unusedSimpArgs false in
set_option maxHeartbeats 4000000 in
set_option maxRecDepth 100000 in
theorem stands_any (g n : Nat) (f : Int → Option Int) (d : Pr) (w : World) (h : StM w g n f) (hd : wfI d.2) :
    Calls Tryz.prog 147 #[.map (some g), .agg #[.int .i64 d.1, .int .i64 d.2]] w fun e w' => e = .returned (.int .i64 (dep1 f d)) ∧ Below w.heap.size w w' := by
  obtain ⟨hw, jb⟩ := d
  have HS := Lib.hid (h.up (bx0 (o := .cells #[.int .i64 hw, .int .i64 jb] 85)))
  have HD := Lib.hid hd
  unfold dep1
  simp only
  obtain ⟨q, hq⟩ : ∃ q, f jb = q := ⟨_, rfl⟩
  have HQ := Lib.hid hq
  rw [hq]
  clear h hd hq
  cases q with
  | none =>
    have HR : Hid (depS none hw = 2) := by show _ = _; rfl
    have e1 : (f jb).getD 0 = 0 := by rw [HQ.out]; rfl
    have e2 : (f jb).isSome = false := by rw [HQ.out]; rfl
    go_enter Tryz.func147, Tryz.ntmps147
    go_wp2_with (refine st_look rfl _ _ rfl g n f rfl HS.out jb rfl HD.out ?_; rw [e1, e2])
    go_ret
    exact ⟨by rw [HR.out] <;> rfl, bx0⟩
  | some s =>
    have e1 : (f jb).getD 0 = s := by rw [HQ.out]; rfl
    have e2 : (f jb).isSome = true := by rw [HQ.out]; rfl
    by_cases hs : s < 3
    · have HR : Hid (depS (some s) hw = 0) := by show _ = _; simp [depS, hs]
      have t1 : decide (s < 3) = true := decide_eq_true hs
      go_enter Tryz.func147, Tryz.ntmps147
      go_wp2_with (refine st_look rfl _ _ rfl g n f rfl HS.out jb rfl HD.out ?_; rw [e1, e2])
      go_ret
      exact ⟨by rw [HR.out] <;> rfl, bx0⟩
    have t1 : decide (s < 3) = false := decide_eq_false hs
    by_cases h1 : hw = 1
    · subst h1
      have HR : Hid (depS (some s) 1 = 1) := by show _ = _; simp [depS, hs]
      clear hs
      go_enter Tryz.func147, Tryz.ntmps147
      go_wp2_with (refine st_look rfl _ _ rfl g n f rfl HS.out jb rfl HD.out ?_; rw [e1, e2])
      go_ret
      exact ⟨by rw [HR.out] <;> rfl, bx0⟩
    have t2 : (hw == 1) = false := by simpa using h1
    by_cases h2 : hw = 2
    · subst h2
      by_cases h3 : s = 3
      · subst h3
        have HR : Hid (depS (some 3) 2 = 1) := by show _ = _; rfl
        clear hs h1
        go_enter Tryz.func147, Tryz.ntmps147
        go_wp2_with (refine st_look rfl _ _ rfl g n f rfl HS.out jb rfl HD.out ?_; rw [e1, e2])
        go_ret
        exact ⟨by rw [HR.out] <;> rfl, bx0⟩
      have t3 : (s == 3) = false := by simpa using h3
      have HR : Hid (depS (some s) 2 = 2) := by show _ = _; simp [depS, hs, h3]
      clear hs h1 h3
      go_enter Tryz.func147, Tryz.ntmps147
      go_wp2_with (refine st_look rfl _ _ rfl g n f rfl HS.out jb rfl HD.out ?_; rw [e1, e2])
      go_ret
      exact ⟨by rw [HR.out] <;> rfl, bx0⟩
    have t4 : (hw == 2) = false := by simpa using h2
    by_cases h5 : hw = 3
    · subst h5
      by_cases h3 : s = 3
      · subst h3
        have HR : Hid (depS (some 3) 3 = 2) := by show _ = _; rfl
        clear hs h1 h2
        go_enter Tryz.func147, Tryz.ntmps147
        go_wp2_with (refine st_look rfl _ _ rfl g n f rfl HS.out jb rfl HD.out ?_; rw [e1, e2])
        go_ret
        exact ⟨by rw [HR.out] <;> rfl, bx0⟩
      have t3 : (s != 3) = true := by simpa using h3
      have HR : Hid (depS (some s) 3 = 1) := by show _ = _; simp [depS, hs, h3]
      clear hs h1 h2 h3
      go_enter Tryz.func147, Tryz.ntmps147
      go_wp2_with (refine st_look rfl _ _ rfl g n f rfl HS.out jb rfl HD.out ?_; rw [e1, e2])
      go_ret
      exact ⟨by rw [HR.out] <;> rfl, bx0⟩
    have t5 : (hw == 3) = false := by simpa using h5
    have HR : Hid (depS (some s) hw = 2) := by show _ = _; simp [depS, hs, h1, h2, h5]
    clear hs h1 h2 h5
    go_enter Tryz.func147, Tryz.ntmps147
    go_wp2_with (refine st_look rfl _ _ rfl g n f rfl HS.out jb rfl HD.out ?_; rw [e1, e2])
    go_ret
    exact ⟨by rw [HR.out] <;> rfl, bx0⟩
set_option linter.unusedSimpArgs false in
set_option maxHeartbeats 4000000 in
set_option maxRecDepth 100000 in
theorem dall_any (g n : Nat) (f : Int → Option Int) (r : JR) (B : Nat) (w : World) (h : StM w g n f) (hr : JrAt w B r) (hB : B ≤ w.heap.size) (hwf : ∀ d ∈ r.x.after, wfI d.2) :
    Calls Tryz.prog 86 #[.map (some g), .agg (jrC r).toArray] w fun e w' => e = .returned (.bool (allF f r.x.after)) ∧ Below w.heap.size w w' := by
  have HS := Lib.hid (fun v (hv : Below w.heap.size w v) => h.up hv)
  have HAF := Lib.hid (fun v (hv : Below w.heap.size w v) => (hr.1.2.1.below (hv.mono hB) : Reads v B 2 r.A2 r.x.after.length (recs prC r.x.after)))
  have hml : r.x.after.length ≤ 100000 := hr.1.2.2.2.1
  have HWF := Lib.hid hwf
  have e10 : (jrC r)[10]? = some (.slice r.A2 r.x.after.length r.c2) := rfl
  obtain ⟨L, hL⟩ : ∃ L, Hid (r.x.after = L) := ⟨_, rfl⟩
  rw [hL.out] at HAF hml HWF e10 ⊢
  obtain ⟨m, hm⟩ : ∃ m, L.length = m := ⟨_, rfl⟩
  have HML := Lib.hid hm
  rw [hm] at HAF hml e10
  obtain ⟨AF, hAF⟩ : ∃ a, r.A2 = a := ⟨_, rfl⟩
  rw [hAF] at HAF e10
  obtain ⟨cs, hcs⟩ : ∃ cs, Hid (jrC r = cs) := ⟨_, rfl⟩
  rw [hcs.out] at e10 ⊢
  obtain ⟨R, hR⟩ : ∃ R, Hid (allF f L = R) := ⟨_, rfl⟩
  rw [hR.out]
  have J0 : Hid ((w.alloc (.cells cs.toArray 28)).heap[w.heap.size]? = some (.cells cs.toArray 28 (0, 0))) := heap_alloc_new w _
  clear h hr hB hwf hcs hAF hm hL
  have u10 : (w.alloc (.cells cs.toArray 28)).cell? ⟨w.heap.size, 10, none⟩ = some (.slice AF m r.c2) := (cell_of_row _ _ 10 _ _ _ J0.out).trans (at_arr e10)
  go_enter Tryz.func86, Tryz.ntmps86
  go_wp2
  go_loopw [10] (fun i wr => ∃ k : Nat, k ≤ m ∧ i = .int .i64 k ∧ Hid (Below w.heap.size w wr) ∧ Hid (allF f L = allF f (L.drop k))) (fun i _ => m - (intOf i).toNat)
  case atStart => exact ⟨0, Nat.zero_le _, rfl, bx0, rfl⟩
  case round =>
    obtain ⟨k, hk, rfl, hbw, HG⟩ := hrel
    by_cases hlt : k < m
    · obtain ⟨b, o, y, rfl, hbb, hy, c0, c1⟩ := (HAF.out _ hbw.out).pr_at hlt
      have hi0 : (0 : Int) ≤ (k : Int) := by omega
      have hi1 : (k : Int) < (m : Int) := by omega
      have t0 : decide ((k : Int) < (m : Int)) = true := by simp; omega
      have HDR := Lib.hid (allF_drop (f := f) hy.out)
      have q1 := Lib.hid (fun v (hv : Below wr.heap.size wr v) => stands_any g n f y v (HS.out v (bt hbw.out hv)) (HWF.out y (List.mem_of_getElem? hy.out)))
      obtain ⟨z, hz⟩ : ∃ z, dep1 f y = z := ⟨_, rfl⟩
      rw [hz] at q1 HDR
      clear hy hz
      by_cases hzz : z = 1
      · have tz : (z == 1) = true := by simpa using hzz
        have tz' : (z != 1) = false := by simpa using hzz
        rw [tz] at HDR
        clear hzz
        have HG2 : Hid (allF f L = allF f (L.drop (k + 1))) := by show _ = _; rw [HG.out, HDR.out, Bool.true_and]
        go_wp2_with (go_at_call 147; refine (q1.out _ bx0).mono ?_; rintro e w1 ⟨rfl, hw1⟩)
        go_roundw
        case rel => exact ⟨k + 1, by omega, by simp, bt hbw.out (bt bx0 hw1), HG2⟩
        case measure => simp [intOf]; omega
      · have tz : (z == 1) = false := by simpa using hzz
        have tz' : (z != 1) = true := by simpa using hzz
        rw [tz] at HDR
        clear hzz
        have HR : Hid (R = false) := by show _ = _; rw [← hR.out, HG.out, HDR.out]; rfl
        go_wp2_with (go_at_call 147; refine (q1.out _ bx0).mono ?_; rintro e w1 ⟨rfl, hw1⟩)
        go_ret
        exact ⟨by rw [HR.out] <;> rfl, bt hbw.out (bt bx0 hw1)⟩
    · obtain rfl : k = m := by omega
      have t0 : decide ((k : Int) < (k : Int)) = false := by simp
      have HR : Hid (R = true) := by show _ = _; rw [← hR.out, HG.out, List.drop_of_length_le (Nat.le_of_eq HML.out)]; rfl
      go_wp2
      go_ret
      exact ⟨by rw [HR.out] <;> rfl, hbw.out⟩
set_option linter.unusedSimpArgs false in
set_option maxHeartbeats 4000000 in
set_option maxRecDepth 100000 in
theorem dsome_any (g n : Nat) (f : Int → Option Int) (r : JR) (B : Nat) (w : World) (h : StM w g n f) (hr : JrAt w B r) (hB : B ≤ w.heap.size) (hwf : ∀ d ∈ r.x.after, wfI d.2) :
    Calls Tryz.prog 88 #[.map (some g), .agg (jrC r).toArray] w fun e w' => e = .returned (.bool (someF f r.x.after)) ∧ Below w.heap.size w w' := by
  have HS := Lib.hid (fun v (hv : Below w.heap.size w v) => h.up hv)
  have HAF := Lib.hid (fun v (hv : Below w.heap.size w v) => (hr.1.2.1.below (hv.mono hB) : Reads v B 2 r.A2 r.x.after.length (recs prC r.x.after)))
  have hml : r.x.after.length ≤ 100000 := hr.1.2.2.2.1
  have HWF := Lib.hid hwf
  have e10 : (jrC r)[10]? = some (.slice r.A2 r.x.after.length r.c2) := rfl
  obtain ⟨L, hL⟩ : ∃ L, Hid (r.x.after = L) := ⟨_, rfl⟩
  rw [hL.out] at HAF hml HWF e10 ⊢
  obtain ⟨m, hm⟩ : ∃ m, L.length = m := ⟨_, rfl⟩
  have HML := Lib.hid hm
  rw [hm] at HAF hml e10
  obtain ⟨AF, hAF⟩ : ∃ a, r.A2 = a := ⟨_, rfl⟩
  rw [hAF] at HAF e10
  obtain ⟨cs, hcs⟩ : ∃ cs, Hid (jrC r = cs) := ⟨_, rfl⟩
  rw [hcs.out] at e10 ⊢
  obtain ⟨R, hR⟩ : ∃ R, Hid (someF f L = R) := ⟨_, rfl⟩
  rw [hR.out]
  have J0 : Hid ((w.alloc (.cells cs.toArray 28)).heap[w.heap.size]? = some (.cells cs.toArray 28 (0, 0))) := heap_alloc_new w _
  clear h hr hB hwf hcs hAF hm hL
  have u10 : (w.alloc (.cells cs.toArray 28)).cell? ⟨w.heap.size, 10, none⟩ = some (.slice AF m r.c2) := (cell_of_row _ _ 10 _ _ _ J0.out).trans (at_arr e10)
  go_enter Tryz.func88, Tryz.ntmps88
  go_wp2
  go_loopw [10] (fun i wr => ∃ k : Nat, k ≤ m ∧ i = .int .i64 k ∧ Hid (Below w.heap.size w wr) ∧ Hid (someF f L = someF f (L.drop k))) (fun i _ => m - (intOf i).toNat)
  case atStart => exact ⟨0, Nat.zero_le _, rfl, bx0, rfl⟩
  case round =>
    obtain ⟨k, hk, rfl, hbw, HG⟩ := hrel
    by_cases hlt : k < m
    · obtain ⟨b, o, y, rfl, hbb, hy, c0, c1⟩ := (HAF.out _ hbw.out).pr_at hlt
      have hi0 : (0 : Int) ≤ (k : Int) := by omega
      have hi1 : (k : Int) < (m : Int) := by omega
      have t0 : decide ((k : Int) < (m : Int)) = true := by simp; omega
      have HDR := Lib.hid (someF_drop (f := f) hy.out)
      have q1 := Lib.hid (fun v (hv : Below wr.heap.size wr v) => stands_any g n f y v (HS.out v (bt hbw.out hv)) (HWF.out y (List.mem_of_getElem? hy.out)))
      obtain ⟨z, hz⟩ : ∃ z, dep1 f y = z := ⟨_, rfl⟩
      rw [hz] at q1 HDR
      clear hy hz
      by_cases hzz : z = 2
      · have tz : (z == 2) = true := by simpa using hzz
        have tz' : (z != 2) = false := by simpa using hzz
        rw [tz] at HDR
        clear hzz
        have HR : Hid (R = true) := by show _ = _; rw [← hR.out, HG.out, HDR.out]; rfl
        go_wp2_with (go_at_call 147; refine (q1.out _ bx0).mono ?_; rintro e w1 ⟨rfl, hw1⟩)
        go_ret
        exact ⟨by rw [HR.out] <;> rfl, bt hbw.out (bt bx0 hw1)⟩
      · have tz : (z == 2) = false := by simpa using hzz
        have tz' : (z != 2) = true := by simpa using hzz
        rw [tz] at HDR
        clear hzz
        have HG2 : Hid (someF f L = someF f (L.drop (k + 1))) := by show _ = _; rw [HG.out, HDR.out, Bool.false_or]
        go_wp2_with (go_at_call 147; refine (q1.out _ bx0).mono ?_; rintro e w1 ⟨rfl, hw1⟩)
        go_roundw
        case rel => exact ⟨k + 1, by omega, by simp, bt hbw.out (bt bx0 hw1), HG2⟩
        case measure => simp [intOf]; omega
    · obtain rfl : k = m := by omega
      have t0 : decide ((k : Int) < (k : Int)) = false := by simp
      have HR : Hid (R = false) := by show _ = _; rw [← hR.out, HG.out, List.drop_of_length_le (Nat.le_of_eq HML.out)]; rfl
      go_wp2
      go_ret
      exact ⟨by rw [HR.out] <;> rfl, hbw.out⟩
theorem pos_cases (l : List Jb) (id : Int) : (posP l id = -1 ∧ stQ l id = none) ∨ ∃ (k : Nat) (x : Jb), posP l id = (k : Int) ∧ k < l.length ∧ l[k]? = some x ∧ stQ l id = some x.state := by
  rcases idxG_cases (posQ id) l with ⟨h1, _⟩ | ⟨k, x, h1, h2, _, h4⟩
  · exact .inl ⟨h1, stQ_none h1⟩
  · exact .inr ⟨k, x, h1, h4, h2, stQ_at h1 h2⟩
theorem at_jobs {l : List JR} {k : Nat} {x : Jb} {r : JR} (h : (jobs l)[k]? = some x) (hr : l[k]? = some r) : r.x = x := by
  rw [jobs_at hr] at h; exact Option.some.inj h
set_option linter.unusedSimpArgs false in
set_option maxHeartbeats 4000000 in
set_option maxRecDepth 100000 in
theorem rmet_any (l : List JR) (A : Option Addr) (n c B : Nat) (d : Pr) (w : World) (ht : TbAt w B A n l) (hB : B ≤ w.heap.size) (hok : ∀ x ∈ jobs l, okJ x = true) :
    Calls Tryz.prog 148 #[.slice A n c, .agg #[.int .i64 d.1, .int .i64 d.2]] w fun e w' => e = .returned (.bool (dep1 (stQ (jobs l)) d == 1)) ∧ Below w.heap.size w w' := by
  obtain ⟨hw, jb⟩ := d
  have HT := Lib.hid ht
  have HBW := Lib.hid hB
  have HOK := Lib.hid hok
  have hlj : Hid ((jobs l).length = n) := (jobs_len l).trans ht.len
  have hn1 : n ≤ 1000 := ht.2.2
  have q1 := Lib.hid (fun v (hv : Below w.heap.size w v) => at_any l A n c B jb v (ht.below (hv.mono hB)) (Nat.le_trans hB hv.size))
  unfold dep1
  simp only
  clear ht hB hok
  rcases pos_cases (jobs l) jb with ⟨h1, h2⟩ | ⟨k, x, h1, h2, h3, h4⟩
  · rw [h2]
    rw [h1] at q1
    have HR : Hid ((depS none hw == 1) = false) := by show _ = _; rfl
    clear h1 h2
    go_enter Tryz.func148, Tryz.ntmps148
    go_wp2_with (go_at_call 73; refine (q1.out _ bx0).mono ?_; rintro e w1 ⟨rfl, hw1⟩)
    go_ret
    exact ⟨by rw [HR.out] <;> rfl, bt bx0 hw1⟩
  · rw [h4]
    rw [h1] at q1
    have hlt : k < n := by have := hlj.out; omega
    obtain ⟨b, o, r, rfl, hbb, hx, KR0, JR0⟩ := HT.out.elem hlt
    have hrx := at_jobs h3 hx.out
    subst hrx
    have hi0 : (0 : Int) ≤ (k : Int) := by omega
    have hi1 : (k : Int) < (n : Int) := by omega
    have t9 : decide ((k : Int) < 0) = false := by simp
    have CSZ := Lib.hid (jrC_info (r := r))
    have e11 : (jrC r)[11]? = some (.int .i64 r.x.state) := rfl
    have hok2 := HOK.out _ (List.mem_of_getElem? h3)
    have q2 := Lib.hid (fun v => rover_r r v)
    rw [ended_over hok2] at q2
    have HRG := Lib.hid (fun v (hv : Below w.heap.size w v) => range_lower KR0.out hbb (hv.mono HBW.out))
    have hov : overS r.x = decide (3 ≤ r.x.state) := rfl
    obtain ⟨x, hxx⟩ : ∃ x, r.x = x := ⟨_, rfl⟩
    rw [hxx] at e11 q2 hov
    have hgoal : r.x.state = x.state := by rw [hxx]
    rw [hgoal]
    obtain ⟨s, hs⟩ : ∃ u, x.state = u := ⟨_, rfl⟩
    rw [hs] at e11 hov ⊢
    obtain ⟨cs, hcs⟩ : ∃ cs, Hid (jrC r = cs) := ⟨_, rfl⟩
    rw [hcs.out] at HRG CSZ q2 e11
    clear hgoal hs hxx hcs hx KR0 JR0 h1 h2 h3 h4 hok2
    have KR := Lib.hid (HRG.out _ (Below.refl _ _))
    by_cases h5 : s < 3
    · have HR : Hid ((depS (some s) hw == 1) = false) := by show _ = _; simp [depS, h5]
      rw [decide_eq_false (by omega)] at hov
      rw [hov] at q2
      clear hov
      go_enter Tryz.func148, Tryz.ntmps148
      go_wp2_with (first | (go_at_call 73; refine (q1.out _ bx0).mono ?_; rintro e w1 ⟨rfl, hw1⟩) | (refine wpList_load_mid_h (by kernel_rfl) 28 _ rfl b (o + k * 20) rfl cs _ (HRG.out _ (bt bx0 hw1)) Tryz.underlying28 rfl CSZ.out ?_) | (go_at_call 76; refine (q2.out _).mono ?_; rintro e w2 ⟨rfl, hw2⟩))
      go_ret
      exact ⟨by rw [HR.out] <;> rfl, bt (bt bx0 hw1) hw2⟩
    rw [decide_eq_true (by omega)] at hov
    rw [hov] at q2
    clear hov
    obtain ⟨z3, h3⟩ : ∃ z, (s == 3) = z := ⟨_, rfl⟩
    have HR : Hid ((depS (some s) hw == 1) = ((hw == 1) || ((hw == 2) && z3) || ((hw == 3) && !z3))) := by
      show _ = _
      rw [← h3]
      by_cases a1 : hw = 1
      · simp [depS, h5, a1]
      · by_cases a2 : hw = 2
        · by_cases a3 : s = 3 <;> simp [depS, h5, a2, a3]
        · by_cases a4 : hw = 3
          · by_cases a3 : s = 3 <;> simp [depS, h5, a4, a3]
          · simp [depS, h5, a1, a2, a4]
    clear h5
    go_enter Tryz.func148, Tryz.ntmps148
    go_wp2_with (fail)
    refine (q1.out _ bx0).mono ?_; rintro e w1 ⟨rfl, hw1⟩
    have hu0 := hw1.cell (p := ⟨w.heap.size, 0, none⟩) (by simp)
    have B1 := Lib.hid (bt bx0 hw1)
    have sz1 : w.heap.size < w1.heap.size := by have := hw1.size; simp only [World.size_alloc] at this; omega
    have u0 : w1.cell? ⟨w.heap.size, 0, none⟩ = some (.int .i64 hw) := by rw [hu0]; exact cell_of_row _ _ 0 _ _ _ (heap_alloc_new w _)
    clear hu0 hw1 q1
    go_wp2_with (refine wpList_load_mid_h (by kernel_rfl) 28 _ rfl b (o + k * 20) rfl cs _ (HRG.out _ B1.out) Tryz.underlying28 rfl CSZ.out ?_)
    refine (q2.out _).mono ?_; rintro e w2 ⟨rfl, hw2⟩
    have B2 := Lib.hid (bt B1.out hw2)
    have v0 : w2.cell? ⟨w.heap.size, 0, none⟩ = some (.int .i64 hw) := (hw2.cell (p := ⟨w.heap.size, 0, none⟩) sz1).trans u0
    have v11 := range_cell (HRG.out _ B2.out) e11
    clear u0 hw2 B1 HRG
    cases z3 <;> cases a1 : (hw == 1) <;> cases a2 : (hw == 2) <;> cases a3 : (hw == 3) <;> (rw [a1, a2, a3] at HR) <;> (
      go_wp2
      go_ret
      exact ⟨by rw [HR.out] <;> rfl, B2.out⟩)
set_option linter.unusedSimpArgs false in
set_option maxHeartbeats 4000000 in
set_option maxRecDepth 100000 in
theorem rlost_any (l : List JR) (A : Option Addr) (n c B : Nat) (d : Pr) (w : World) (ht : TbAt w B A n l) (hB : B ≤ w.heap.size) (hok : ∀ x ∈ jobs l, okJ x = true) :
    Calls Tryz.prog 149 #[.slice A n c, .agg #[.int .i64 d.1, .int .i64 d.2]] w fun e w' => e = .returned (.bool (dep1 (stQ (jobs l)) d == 2)) ∧ Below w.heap.size w w' := by
  have q3 := Lib.hid (fun v (hv : Below w.heap.size w v) => rmet_any l A n c B d v (ht.below (hv.mono hB)) (Nat.le_trans hB hv.size) hok)
  obtain ⟨hw, jb⟩ := d
  have HT := Lib.hid ht
  have HBW := Lib.hid hB
  have HOK := Lib.hid hok
  have hlj : Hid ((jobs l).length = n) := (jobs_len l).trans ht.len
  have hn1 : n ≤ 1000 := ht.2.2
  have q1 := Lib.hid (fun v (hv : Below w.heap.size w v) => at_any l A n c B jb v (ht.below (hv.mono hB)) (Nat.le_trans hB hv.size))
  unfold dep1 at q3 ⊢
  simp only at q3 ⊢
  clear ht hB hok
  rcases pos_cases (jobs l) jb with ⟨h1, h2⟩ | ⟨k, x, h1, h2, h3, h4⟩
  · rw [h2]
    rw [h1] at q1
    have HR : Hid ((depS none hw == 2) = true) := by show _ = _; rfl
    clear h1 h2 q3
    go_enter Tryz.func149, Tryz.ntmps149
    go_wp2_with (go_at_call 73; refine (q1.out _ bx0).mono ?_; rintro e w1 ⟨rfl, hw1⟩)
    go_ret
    exact ⟨by rw [HR.out] <;> rfl, bt bx0 hw1⟩
  · rw [h4] at q3 ⊢
    rw [h1] at q1
    have hlt : k < n := by have := hlj.out; omega
    obtain ⟨b, o, r, rfl, hbb, hx, KR0, JR0⟩ := HT.out.elem hlt
    have hrx := at_jobs h3 hx.out
    subst hrx
    have hi0 : (0 : Int) ≤ (k : Int) := by omega
    have hi1 : (k : Int) < (n : Int) := by omega
    have t9 : decide ((k : Int) < 0) = false := by simp
    have CSZ := Lib.hid (jrC_info (r := r))
    have hok2 := HOK.out _ (List.mem_of_getElem? h3)
    have q2 := Lib.hid (fun v => rover_r r v)
    rw [ended_over hok2] at q2
    have HRG := Lib.hid (fun v (hv : Below w.heap.size w v) => range_lower KR0.out hbb (hv.mono HBW.out))
    have hov : overS r.x = decide (3 ≤ r.x.state) := rfl
    obtain ⟨x, hxx⟩ : ∃ x, r.x = x := ⟨_, rfl⟩
    rw [hxx] at q2 hov
    have hgoal : r.x.state = x.state := by rw [hxx]
    rw [hgoal] at q3 ⊢
    obtain ⟨s, hs⟩ : ∃ u, x.state = u := ⟨_, rfl⟩
    rw [hs] at hov q3 ⊢
    obtain ⟨cs, hcs⟩ : ∃ cs, Hid (jrC r = cs) := ⟨_, rfl⟩
    rw [hcs.out] at HRG CSZ q2
    clear hgoal hs hxx hcs hx KR0 JR0 h1 h2 h3 h4 hok2
    by_cases h5 : s < 3
    · have HR : Hid ((depS (some s) hw == 2) = false) := by show _ = _; simp [depS, h5]
      rw [decide_eq_false (by omega)] at hov
      rw [hov] at q2
      clear hov q3
      go_enter Tryz.func149, Tryz.ntmps149
      go_wp2_with (first | (go_at_call 73; refine (q1.out _ bx0).mono ?_; rintro e w1 ⟨rfl, hw1⟩) | (refine wpList_load_mid_h (by kernel_rfl) 28 _ rfl b (o + k * 20) rfl cs _ (HRG.out _ (bt bx0 hw1)) Tryz.underlying28 rfl CSZ.out ?_) | (go_at_call 76; refine (q2.out _).mono ?_; rintro e w2 ⟨rfl, hw2⟩))
      go_ret
      exact ⟨by rw [HR.out] <;> rfl, bt (bt bx0 hw1) hw2⟩
    rw [decide_eq_true (by omega)] at hov
    rw [hov] at q2
    clear hov
    obtain ⟨z, hz⟩ : ∃ z, (depS (some s) hw == 1) = z := ⟨_, rfl⟩
    have HR : Hid ((depS (some s) hw == 2) = !z) := by
      show _ = _
      rw [← hz]
      simp only [depS]
      rw [if_neg h5]
      split <;> rfl
    rw [hz] at q3
    clear h5 hz
    go_enter Tryz.func149, Tryz.ntmps149
    go_wp2_with (fail)
    refine (q1.out _ bx0).mono ?_; rintro e w1 ⟨rfl, hw1⟩
    have hu0 := hw1.cell (p := ⟨w.heap.size, 0, none⟩) (by simp)
    have hu1 := hw1.cell (p := ⟨w.heap.size, 1, none⟩) (by simp)
    have B1 := Lib.hid (bt bx0 hw1)
    have sz1 : w.heap.size < w1.heap.size := by have := hw1.size; simp only [World.size_alloc] at this; omega
    have u0 : w1.cell? ⟨w.heap.size, 0, none⟩ = some (.int .i64 hw) := by rw [hu0]; exact cell_of_row _ _ 0 _ _ _ (heap_alloc_new w _)
    have u1 : w1.cell? ⟨w.heap.size, 1, none⟩ = some (.int .i64 jb) := by rw [hu1]; exact cell_of_row _ _ 1 _ _ _ (heap_alloc_new w _)
    clear hu0 hu1 hw1 q1
    go_wp2_with (refine wpList_load_mid_h (by kernel_rfl) 28 _ rfl b (o + k * 20) rfl cs _ (HRG.out _ B1.out) Tryz.underlying28 rfl CSZ.out ?_)
    refine (q2.out _).mono ?_; rintro e w2 ⟨rfl, hw2⟩
    have B2 := Lib.hid (bt B1.out hw2)
    have v0 : w2.cell? ⟨w.heap.size, 0, none⟩ = some (.int .i64 hw) := (hw2.cell (p := ⟨w.heap.size, 0, none⟩) sz1).trans u0
    have v1 : w2.cell? ⟨w.heap.size, 1, none⟩ = some (.int .i64 jb) := (hw2.cell (p := ⟨w.heap.size, 1, none⟩) sz1).trans u1
    clear u0 u1 hw2 B1 HRG
    go_wp2_with (go_at_call 148; refine (q3.out _ B2.out).mono ?_; rintro e w3 ⟨rfl, hw3⟩)
    go_ret
    exact ⟨by rw [HR.out] <;> rfl, bt B2.out hw3⟩
set_option linter.unusedSimpArgs false in
set_option maxHeartbeats 4000000 in
set_option maxRecDepth 100000 in
theorem rall_any (l : List JR) (A : Option Addr) (n c : Nat) (r : JR) (B : Nat) (w : World) (ht : TbAt w B A n l) (hr : JrAt w B r) (hB : B ≤ w.heap.size) (hok : ∀ x ∈ jobs l, okJ x = true) :
    Calls Tryz.prog 87 #[.slice A n c, .agg (jrC r).toArray] w fun e w' => e = .returned (.bool (allF (stQ (jobs l)) r.x.after)) ∧ Below w.heap.size w w' := by
  have HQ := Lib.hid (fun (d : Pr) v (hv : Below w.heap.size w v) => rmet_any l A n c B d v (ht.below (hv.mono hB)) (Nat.le_trans hB hv.size) hok)
  have HAF := Lib.hid (fun v (hv : Below w.heap.size w v) => (hr.1.2.1.below (hv.mono hB) : Reads v B 2 r.A2 r.x.after.length (recs prC r.x.after)))
  have hml : r.x.after.length ≤ 100000 := hr.1.2.2.2.1
  have e10 : (jrC r)[10]? = some (.slice r.A2 r.x.after.length r.c2) := rfl
  obtain ⟨L, hL⟩ : ∃ L, Hid (r.x.after = L) := ⟨_, rfl⟩
  rw [hL.out] at HAF hml e10 ⊢
  obtain ⟨m, hm⟩ : ∃ m, L.length = m := ⟨_, rfl⟩
  have HML := Lib.hid hm
  rw [hm] at HAF hml e10
  obtain ⟨AF, hAF⟩ : ∃ a, r.A2 = a := ⟨_, rfl⟩
  rw [hAF] at HAF e10
  obtain ⟨cs, hcs⟩ : ∃ cs, Hid (jrC r = cs) := ⟨_, rfl⟩
  rw [hcs.out] at e10 ⊢
  obtain ⟨R, hR⟩ : ∃ R, Hid (allF (stQ (jobs l)) L = R) := ⟨_, rfl⟩
  rw [hR.out]
  have J0 : Hid ((w.alloc (.cells cs.toArray 28)).heap[w.heap.size]? = some (.cells cs.toArray 28 (0, 0))) := heap_alloc_new w _
  clear ht hr hB hok hcs hAF hm hL
  go_enter Tryz.func87, Tryz.ntmps87
  go_wp2
  go_loopw [5] (fun i wr => ∃ k : Nat, k ≤ m ∧ i = .int .i64 k ∧ Hid (Below (w.alloc (.cells cs.toArray 28)).heap.size (w.alloc (.cells cs.toArray 28)) wr) ∧ Hid (allF (stQ (jobs l)) L = allF (stQ (jobs l)) (L.drop k))) (fun i _ => m - (intOf i).toNat)
  case atStart => exact ⟨0, Nat.zero_le _, rfl, Below.refl _ _, rfl⟩
  case round =>
    obtain ⟨k, hk, rfl, hbw, HG⟩ := hrel
    have u10 : wr.cell? ⟨w.heap.size, 10, none⟩ = some (.slice AF m r.c2) := box_cell J0.out hbw.out (by simp) e10
    by_cases hlt : k < m
    · obtain ⟨b, o, y, rfl, hbb, hy, c0, c1⟩ := (HAF.out _ (bt bx0 hbw.out)).pr_at hlt
      have hi0 : (0 : Int) ≤ (k : Int) := by omega
      have hi1 : (k : Int) < (m : Int) := by omega
      have t0 : decide ((k : Int) < (m : Int)) = true := by simp; omega
      have HDR := Lib.hid (allF_drop (f := stQ (jobs l)) hy.out)
      have q1 := Lib.hid (fun v (hv : Below wr.heap.size wr v) => HQ.out y v (bt bx0 (hbw.out.trans (hv.mono hbw.out.size))))
      obtain ⟨z, hz⟩ : ∃ z, (dep1 (stQ (jobs l)) y == 1) = z := ⟨_, rfl⟩
      rw [hz] at q1 HDR
      clear hy hz
      cases z
      case true =>
        have HG2 : Hid (allF (stQ (jobs l)) L = allF (stQ (jobs l)) (L.drop (k + 1))) := by show _ = _; rw [HG.out, HDR.out, Bool.true_and]
        go_wp2_with (go_at_call 148; refine (q1.out _ (Below.refl _ _)).mono ?_; rintro e w1 ⟨rfl, hw1⟩)
        go_roundw
        case rel => exact ⟨k + 1, by omega, by simp, hbw.out.trans (hw1.mono hbw.out.size), HG2⟩
        case measure => simp [intOf]; omega
      case false =>
        have HR : Hid (R = false) := by show _ = _; rw [← hR.out, HG.out, HDR.out]; rfl
        go_wp2_with (go_at_call 148; refine (q1.out _ (Below.refl _ _)).mono ?_; rintro e w1 ⟨rfl, hw1⟩)
        go_ret
        exact ⟨by rw [HR.out] <;> rfl, bt bx0 (hbw.out.trans (hw1.mono hbw.out.size))⟩
    · obtain rfl : k = m := by omega
      have t0 : decide ((k : Int) < (k : Int)) = false := by simp
      have HR : Hid (R = true) := by show _ = _; rw [← hR.out, HG.out, List.drop_of_length_le (Nat.le_of_eq HML.out)]; rfl
      go_wp2
      go_ret
      exact ⟨by rw [HR.out] <;> rfl, bt bx0 hbw.out⟩
set_option linter.unusedSimpArgs false in
set_option maxHeartbeats 4000000 in
set_option maxRecDepth 100000 in
theorem rsome_any (l : List JR) (A : Option Addr) (n c : Nat) (r : JR) (B : Nat) (w : World) (ht : TbAt w B A n l) (hr : JrAt w B r) (hB : B ≤ w.heap.size) (hok : ∀ x ∈ jobs l, okJ x = true) :
    Calls Tryz.prog 89 #[.slice A n c, .agg (jrC r).toArray] w fun e w' => e = .returned (.bool (someF (stQ (jobs l)) r.x.after)) ∧ Below w.heap.size w w' := by
  have HQ := Lib.hid (fun (d : Pr) v (hv : Below w.heap.size w v) => rlost_any l A n c B d v (ht.below (hv.mono hB)) (Nat.le_trans hB hv.size) hok)
  have HAF := Lib.hid (fun v (hv : Below w.heap.size w v) => (hr.1.2.1.below (hv.mono hB) : Reads v B 2 r.A2 r.x.after.length (recs prC r.x.after)))
  have hml : r.x.after.length ≤ 100000 := hr.1.2.2.2.1
  have e10 : (jrC r)[10]? = some (.slice r.A2 r.x.after.length r.c2) := rfl
  obtain ⟨L, hL⟩ : ∃ L, Hid (r.x.after = L) := ⟨_, rfl⟩
  rw [hL.out] at HAF hml e10 ⊢
  obtain ⟨m, hm⟩ : ∃ m, L.length = m := ⟨_, rfl⟩
  have HML := Lib.hid hm
  rw [hm] at HAF hml e10
  obtain ⟨AF, hAF⟩ : ∃ a, r.A2 = a := ⟨_, rfl⟩
  rw [hAF] at HAF e10
  obtain ⟨cs, hcs⟩ : ∃ cs, Hid (jrC r = cs) := ⟨_, rfl⟩
  rw [hcs.out] at e10 ⊢
  obtain ⟨R, hR⟩ : ∃ R, Hid (someF (stQ (jobs l)) L = R) := ⟨_, rfl⟩
  rw [hR.out]
  have J0 : Hid ((w.alloc (.cells cs.toArray 28)).heap[w.heap.size]? = some (.cells cs.toArray 28 (0, 0))) := heap_alloc_new w _
  clear ht hr hB hok hcs hAF hm hL
  go_enter Tryz.func89, Tryz.ntmps89
  go_wp2
  go_loopw [5] (fun i wr => ∃ k : Nat, k ≤ m ∧ i = .int .i64 k ∧ Hid (Below (w.alloc (.cells cs.toArray 28)).heap.size (w.alloc (.cells cs.toArray 28)) wr) ∧ Hid (someF (stQ (jobs l)) L = someF (stQ (jobs l)) (L.drop k))) (fun i _ => m - (intOf i).toNat)
  case atStart => exact ⟨0, Nat.zero_le _, rfl, Below.refl _ _, rfl⟩
  case round =>
    obtain ⟨k, hk, rfl, hbw, HG⟩ := hrel
    have u10 : wr.cell? ⟨w.heap.size, 10, none⟩ = some (.slice AF m r.c2) := box_cell J0.out hbw.out (by simp) e10
    by_cases hlt : k < m
    · obtain ⟨b, o, y, rfl, hbb, hy, c0, c1⟩ := (HAF.out _ (bt bx0 hbw.out)).pr_at hlt
      have hi0 : (0 : Int) ≤ (k : Int) := by omega
      have hi1 : (k : Int) < (m : Int) := by omega
      have t0 : decide ((k : Int) < (m : Int)) = true := by simp; omega
      have HDR := Lib.hid (someF_drop (f := stQ (jobs l)) hy.out)
      have q1 := Lib.hid (fun v (hv : Below wr.heap.size wr v) => HQ.out y v (bt bx0 (hbw.out.trans (hv.mono hbw.out.size))))
      obtain ⟨z, hz⟩ : ∃ z, (dep1 (stQ (jobs l)) y == 2) = z := ⟨_, rfl⟩
      rw [hz] at q1 HDR
      clear hy hz
      cases z
      case false =>
        have HG2 : Hid (someF (stQ (jobs l)) L = someF (stQ (jobs l)) (L.drop (k + 1))) := by show _ = _; rw [HG.out, HDR.out, Bool.false_or]
        go_wp2_with (go_at_call 149; refine (q1.out _ (Below.refl _ _)).mono ?_; rintro e w1 ⟨rfl, hw1⟩)
        go_roundw
        case rel => exact ⟨k + 1, by omega, by simp, hbw.out.trans (hw1.mono hbw.out.size), HG2⟩
        case measure => simp [intOf]; omega
      case true =>
        have HR : Hid (R = true) := by show _ = _; rw [← hR.out, HG.out, HDR.out]; rfl
        go_wp2_with (go_at_call 149; refine (q1.out _ (Below.refl _ _)).mono ?_; rintro e w1 ⟨rfl, hw1⟩)
        go_ret
        exact ⟨by rw [HR.out] <;> rfl, bt bx0 (hbw.out.trans (hw1.mono hbw.out.size))⟩
    · obtain rfl : k = m := by omega
      have t0 : decide ((k : Int) < (k : Int)) = false := by simp
      have HR : Hid (R = false) := by show _ = _; rw [← hR.out, HG.out, List.drop_of_length_le (Nat.le_of_eq HML.out)]; rfl
      go_wp2
      go_ret
      exact ⟨by rw [HR.out] <;> rfl, bt bx0 hbw.out⟩
set_option linter.unusedSimpArgs false in
set_option maxHeartbeats 4000000 in
set_option maxRecDepth 100000 in
theorem dmet_any (l : List JR) (A : Option Addr) (n c : Nat) (r : JR) (B : Nat) (w : World) (ht : TbAt w B A n l) (hr : JrAt w B r) (hB : B ≤ w.heap.size) (hwf : ∀ d ∈ r.x.after, wfI d.2) :
    Calls Tryz.prog 38 #[.slice A n c, .agg (jrC r).toArray] w fun e w' => e = .returned (.bool (metP (jobs l) r.x)) ∧ Below w.heap.size w w' := by
  have q0 := Lib.hid (fun v (hv : Below w.heap.size w v) hz => of_no l A n c B v (ht.below (hv.mono hB)) (Nat.le_trans hB hv.size) hz)
  have q1 := Lib.hid (fun v (hv : Below w.heap.size w v) hz => of_yes l A n c B v (ht.below (hv.mono hB)) (Nat.le_trans hB hv.size) hz)
  have q2 := Lib.hid (fun v (hv : Below w.heap.size w v) g (hs : StM v g n (stQ (jobs l))) => dall_any g n (stQ (jobs l)) r B v hs (hr.below (hv.mono hB)) (Nat.le_trans hB hv.size) hwf)
  have CSA := Lib.hid (jrA_info r)
  have HR0 : Hid (metP (jobs l) r.x = (tabB (jobs l) && allF (stQ (jobs l)) r.x.after)) := rfl
  obtain ⟨x, hx⟩ : ∃ x, allF (stQ (jobs l)) r.x.after = x := ⟨_, rfl⟩
  rw [hx] at q2 HR0
  obtain ⟨cs, hcs⟩ : ∃ cs, Hid (jrC r = cs) := ⟨_, rfl⟩
  rw [hcs.out] at q2 CSA ⊢
  obtain ⟨R, hR⟩ : ∃ R, metP (jobs l) r.x = R := ⟨_, rfl⟩
  rw [hR] at HR0 ⊢
  clear ht hr hB hwf hx hcs hR
  have hnn := fun v r => run_neq_map_nil (P := Tryz.prog) v 98 3 3 r Tryz.underlying98
  cases zt : tabB (jobs l)
  case false =>
    have HR : Hid (R = false) := by show _ = _; rw [HR0.out, zt]; rfl
    go_enter Tryz.func38, Tryz.ntmps38
    go_wp2_with (fail)
    refine (q0.out _ bx0 zt).mono ?_; rintro e w1 ⟨rfl, hw1⟩
    clear q0 q1 q2
    go_wp2
    go_ret
    exact ⟨by rw [HR.out] <;> rfl, bt bx0 hw1⟩
  have HR : Hid (R = x) := by show _ = _; rw [HR0.out, zt]; rfl
  go_enter Tryz.func38, Tryz.ntmps38
  go_wp2_with (fail)
  refine (q1.out _ bx0 zt).mono ?_; rintro e w1 ⟨g, hg, rfl, hs1, hw1⟩
  obtain ⟨g1, hb1, s1⟩ := box_row hw1
  have G1 := Lib.hid g1
  have HS := Lib.hid hs1
  clear g1 hw1 hs1 q0 q1 zt
  go_wp2_with (first | (refine wpList_load_row_g (by kernel_rfl) 28 _ rfl (w.heap.size) rfl 28 _ (0, 0) _ G1.out Tryz.underlying28 rfl CSA.out ?_) | (go_at_call 86; refine (q2.out _ hb1 g HS.out).mono ?_; rintro e w2 ⟨rfl, hw2⟩))
  go_ret
  exact ⟨by rw [HR.out] <;> rfl, bt hb1 hw2⟩
set_option linter.unusedSimpArgs false in
set_option maxHeartbeats 4000000 in
set_option maxRecDepth 100000 in
theorem ddoomed_any (l : List JR) (A : Option Addr) (n c : Nat) (r : JR) (B : Nat) (w : World) (ht : TbAt w B A n l) (hr : JrAt w B r) (hB : B ≤ w.heap.size) (hwf : ∀ d ∈ r.x.after, wfI d.2) :
    Calls Tryz.prog 40 #[.slice A n c, .agg (jrC r).toArray] w fun e w' => e = .returned (.bool (doomedP (jobs l) r.x)) ∧ Below w.heap.size w w' := by
  have q0 := Lib.hid (fun v (hv : Below w.heap.size w v) hz => of_no l A n c B v (ht.below (hv.mono hB)) (Nat.le_trans hB hv.size) hz)
  have q1 := Lib.hid (fun v (hv : Below w.heap.size w v) hz => of_yes l A n c B v (ht.below (hv.mono hB)) (Nat.le_trans hB hv.size) hz)
  have q2 := Lib.hid (fun v (hv : Below w.heap.size w v) g (hs : StM v g n (stQ (jobs l))) => dsome_any g n (stQ (jobs l)) r B v hs (hr.below (hv.mono hB)) (Nat.le_trans hB hv.size) hwf)
  have CSA := Lib.hid (jrA_info r)
  have HR0 : Hid (doomedP (jobs l) r.x = (tabB (jobs l) && someF (stQ (jobs l)) r.x.after)) := rfl
  obtain ⟨x, hx⟩ : ∃ x, someF (stQ (jobs l)) r.x.after = x := ⟨_, rfl⟩
  rw [hx] at q2 HR0
  obtain ⟨cs, hcs⟩ : ∃ cs, Hid (jrC r = cs) := ⟨_, rfl⟩
  rw [hcs.out] at q2 CSA ⊢
  obtain ⟨R, hR⟩ : ∃ R, doomedP (jobs l) r.x = R := ⟨_, rfl⟩
  rw [hR] at HR0 ⊢
  clear ht hr hB hwf hx hcs hR
  have hnn := fun v r => run_neq_map_nil (P := Tryz.prog) v 98 3 3 r Tryz.underlying98
  cases zt : tabB (jobs l)
  case false =>
    have HR : Hid (R = false) := by show _ = _; rw [HR0.out, zt]; rfl
    go_enter Tryz.func40, Tryz.ntmps40
    go_wp2_with (fail)
    refine (q0.out _ bx0 zt).mono ?_; rintro e w1 ⟨rfl, hw1⟩
    clear q0 q1 q2
    go_wp2
    go_ret
    exact ⟨by rw [HR.out] <;> rfl, bt bx0 hw1⟩
  have HR : Hid (R = x) := by show _ = _; rw [HR0.out, zt]; rfl
  go_enter Tryz.func40, Tryz.ntmps40
  go_wp2_with (fail)
  refine (q1.out _ bx0 zt).mono ?_; rintro e w1 ⟨g, hg, rfl, hs1, hw1⟩
  obtain ⟨g1, hb1, s1⟩ := box_row hw1
  have G1 := Lib.hid g1
  have HS := Lib.hid hs1
  clear g1 hw1 hs1 q0 q1 zt
  go_wp2_with (first | (refine wpList_load_row_g (by kernel_rfl) 28 _ rfl (w.heap.size) rfl 28 _ (0, 0) _ G1.out Tryz.underlying28 rfl CSA.out ?_) | (go_at_call 88; refine (q2.out _ hb1 g HS.out).mono ?_; rintro e w2 ⟨rfl, hw2⟩))
  go_ret
  exact ⟨by rw [HR.out] <;> rfl, bt hb1 hw2⟩
set_option linter.unusedSimpArgs false in
set_option maxHeartbeats 4000000 in
set_option maxRecDepth 100000 in
theorem rmetT_any (l : List JR) (A : Option Addr) (n c : Nat) (r : JR) (B : Nat) (w : World) (ht : TbAt w B A n l) (hr : JrAt w B r) (hB : B ≤ w.heap.size) :
    Calls Tryz.prog 39 #[.slice A n c, .agg (jrC r).toArray] w fun e w' => e = .returned (.bool (metP (jobs l) r.x)) ∧ Below w.heap.size w w' := by
  have q0 := Lib.hid (fun v (hv : Below w.heap.size w v) => rcheck15_any l A n c B v (ht.below (hv.mono hB)) (Nat.le_trans hB hv.size))
  have q2 := Lib.hid (fun (hz : tabB (jobs l) = true) v (hv : Below w.heap.size w v) => rall_any l A n c r B v (ht.below (hv.mono hB)) (hr.below (hv.mono hB)) (Nat.le_trans hB hv.size) (fun x hx => ((tab_iff.1 hz).2.1 x hx).1))
  have CSA := Lib.hid (jrA_info r)
  have HR0 : Hid (metP (jobs l) r.x = (tabB (jobs l) && allF (stQ (jobs l)) r.x.after)) := rfl
  obtain ⟨x, hx⟩ : ∃ x, allF (stQ (jobs l)) r.x.after = x := ⟨_, rfl⟩
  rw [hx] at q2 HR0
  obtain ⟨cs, hcs⟩ : ∃ cs, Hid (jrC r = cs) := ⟨_, rfl⟩
  rw [hcs.out] at q2 CSA ⊢
  obtain ⟨R, hR⟩ : ∃ R, metP (jobs l) r.x = R := ⟨_, rfl⟩
  rw [hR] at HR0 ⊢
  clear ht hr hB hx hcs hR
  cases zt : tabB (jobs l)
  case false =>
    have HR : Hid (R = false) := by show _ = _; rw [HR0.out, zt]; rfl
    rw [tabE_f zt] at q0
    clear q2
    go_enter Tryz.func39, Tryz.ntmps39
    go_wp2_with (fail)
    refine (q0.out _ bx0).mono ?_; rintro e w1 ⟨rfl, hw1⟩
    go_wp2
    go_ret
    exact ⟨by rw [HR.out] <;> rfl, bt bx0 hw1⟩
  have HR : Hid (R = x) := by show _ = _; rw [HR0.out, zt]; rfl
  have q3 := Lib.hid (q2.out zt)
  rw [tabE_t zt] at q0
  clear q2 zt
  go_enter Tryz.func39, Tryz.ntmps39
  go_wp2_with (fail)
  refine (q0.out _ bx0).mono ?_; rintro e w1 ⟨rfl, hw1⟩
  obtain ⟨g1, hb1, s1⟩ := box_row hw1
  have G1 := Lib.hid g1
  clear g1 hw1 q0
  go_wp2_with (first | (refine wpList_load_row_g (by kernel_rfl) 28 _ rfl (w.heap.size) rfl 28 _ (0, 0) _ G1.out Tryz.underlying28 rfl CSA.out ?_) | (go_at_call 87; refine (q3.out _ hb1).mono ?_; rintro e w2 ⟨rfl, hw2⟩))
  go_ret
  exact ⟨by rw [HR.out] <;> rfl, bt hb1 hw2⟩
set_option linter.unusedSimpArgs false in
set_option maxHeartbeats 4000000 in
set_option maxRecDepth 100000 in
theorem rdoomedT_any (l : List JR) (A : Option Addr) (n c : Nat) (r : JR) (B : Nat) (w : World) (ht : TbAt w B A n l) (hr : JrAt w B r) (hB : B ≤ w.heap.size) :
    Calls Tryz.prog 41 #[.slice A n c, .agg (jrC r).toArray] w fun e w' => e = .returned (.bool (doomedP (jobs l) r.x)) ∧ Below w.heap.size w w' := by
  have q0 := Lib.hid (fun v (hv : Below w.heap.size w v) => rcheck15_any l A n c B v (ht.below (hv.mono hB)) (Nat.le_trans hB hv.size))
  have q2 := Lib.hid (fun (hz : tabB (jobs l) = true) v (hv : Below w.heap.size w v) => rsome_any l A n c r B v (ht.below (hv.mono hB)) (hr.below (hv.mono hB)) (Nat.le_trans hB hv.size) (fun x hx => ((tab_iff.1 hz).2.1 x hx).1))
  have CSA := Lib.hid (jrA_info r)
  have HR0 : Hid (doomedP (jobs l) r.x = (tabB (jobs l) && someF (stQ (jobs l)) r.x.after)) := rfl
  obtain ⟨x, hx⟩ : ∃ x, someF (stQ (jobs l)) r.x.after = x := ⟨_, rfl⟩
  rw [hx] at q2 HR0
  obtain ⟨cs, hcs⟩ : ∃ cs, Hid (jrC r = cs) := ⟨_, rfl⟩
  rw [hcs.out] at q2 CSA ⊢
  obtain ⟨R, hR⟩ : ∃ R, doomedP (jobs l) r.x = R := ⟨_, rfl⟩
  rw [hR] at HR0 ⊢
  clear ht hr hB hx hcs hR
  cases zt : tabB (jobs l)
  case false =>
    have HR : Hid (R = false) := by show _ = _; rw [HR0.out, zt]; rfl
    rw [tabE_f zt] at q0
    clear q2
    go_enter Tryz.func41, Tryz.ntmps41
    go_wp2_with (fail)
    refine (q0.out _ bx0).mono ?_; rintro e w1 ⟨rfl, hw1⟩
    go_wp2
    go_ret
    exact ⟨by rw [HR.out] <;> rfl, bt bx0 hw1⟩
  have HR : Hid (R = x) := by show _ = _; rw [HR0.out, zt]; rfl
  have q3 := Lib.hid (q2.out zt)
  rw [tabE_t zt] at q0
  clear q2 zt
  go_enter Tryz.func41, Tryz.ntmps41
  go_wp2_with (fail)
  refine (q0.out _ bx0).mono ?_; rintro e w1 ⟨rfl, hw1⟩
  obtain ⟨g1, hb1, s1⟩ := box_row hw1
  have G1 := Lib.hid g1
  clear g1 hw1 q0
  go_wp2_with (first | (refine wpList_load_row_g (by kernel_rfl) 28 _ rfl (w.heap.size) rfl 28 _ (0, 0) _ G1.out Tryz.underlying28 rfl CSA.out ?_) | (go_at_call 89; refine (q3.out _ hb1).mono ?_; rintro e w2 ⟨rfl, hw2⟩))
  go_ret
  exact ⟨by rw [HR.out] <;> rfl, bt hb1 hw2⟩
end Go.Proofs.YtghmcdfmbjabnaaGreatDoor
