/- Layer 9: the reference's Parse, plain. -/
import Derived.Test.YtplneobjdpdlhaaDoorNsR5
import Derived.Test.YtplneobjdpdlhaaDoorNsT0
namespace Go.Proofs.YtplneobjdpdlhaaDoor
set_option linter.unusedVariables false
/-- the numbers that are added when a part ends -/
def addR (dash : Bool) (f n : Nat) : List Nat := if dash = true then [] else List.range' f (min (n + 1) 64 - f)
def fromR (f : Int) (n : Nat) : Nat := if f < 0 then n else f.toNat
def stepR (dash : Bool) (x : Nat × Int × List Nat) : Option UInt8 → Nat × Int × List Nat
  | some c => if 48 ≤ c.toNat ∧ c.toNat ≤ 57 ∧ x.1 < 100 then (10 * x.1 + (c.toNat - 48), x.2.1, x.2.2)
    else if c.toNat = 45 then (0, (x.1 : Int), x.2.2)
    else (0, -1, x.2.2 ++ addR dash (fromR x.2.1 x.1) x.1)
  | none => (0, -1, x.2.2 ++ addR dash (fromR x.2.1 x.1) x.1)
section
variable {dash : Bool} {n : Nat} {f : Int} {l : List Nat} {c : UInt8}
theorem step_dig (h : 48 ≤ c.toNat ∧ c.toNat ≤ 57 ∧ n < 100) : stepR dash (n, f, l) (some c) = (10 * n + (c.toNat - 48), f, l) := if_pos h
theorem step_dash (h : ¬ (48 ≤ c.toNat ∧ c.toNat ≤ 57 ∧ n < 100)) (h2 : c.toNat = 45) : stepR dash (n, f, l) (some c) = (0, (n : Int), l) := (if_neg h).trans (if_pos h2)
theorem step_end (h : ¬ (48 ≤ c.toNat ∧ c.toNat ≤ 57 ∧ n < 100)) (h2 : ¬ c.toNat = 45) : stepR dash (n, f, l) (some c) = (0, -1, l ++ addR dash (fromR f n) n) := (if_neg h).trans (if_neg h2)
theorem step_none : stepR dash (n, f, l) none = (0, -1, l ++ addR dash (fromR f n) n) := rfl
end
def inR (t : ByteArray) : List (Option UInt8) := t.data.toList.map some ++ [none]
def dashR (t : ByteArray) : Bool := t.data.toList == [45]
def runR (dash : Bool) (x : Nat × Int × List Nat) (l : List (Option UInt8)) : Nat × Int × List Nat := l.foldl (stepR dash) x
def stR (t : ByteArray) (i : Nat) : Nat × Int × List Nat := runR (dashR t) (0, -1, []) ((inR t).take i)
def setR (t : ByteArray) : Nat := setL (stR t (t.size + 1)).2.2
theorem inR_len (t : ByteArray) : (inR t).length = t.size + 1 := by
  unfold inR; rw [List.length_append, List.length_map, ← Lib.size_eq]; rfl
theorem stR_succ {t : ByteArray} {i : Nat} {c : Option UInt8} (h : (inR t)[i]? = some c) : stR t (i + 1) = stepR (dashR t) (stR t i) c := by
  unfold stR runR
  rw [List.take_add_one, h, List.foldl_append]; rfl
theorem inR_at {t : ByteArray} {i : Nat} (h : i < t.size) : (inR t)[i]? = some (some t[i]) := by
  unfold inR
  have hl : i < t.data.toList.length := by rw [← Lib.size_eq]; exact h
  rw [List.getElem?_append_left (by rw [List.length_map]; exact hl), List.getElem?_map, List.getElem?_eq_getElem hl]
  rfl
theorem inR_end {t : ByteArray} : (inR t)[t.size]? = some none := by
  unfold inR
  rw [List.getElem?_append_right (by rw [List.length_map, ← Lib.size_eq]; exact Nat.le_refl _), List.length_map, ← Lib.size_eq, Nat.sub_self]; rfl
/-- what stays so -/
def okR (i : Nat) (x : Nat × Int × List Nat) : Prop := x.1 < 1000 ∧ -1 ≤ x.2.1 ∧ x.2.1 < 1000 ∧ x.2.2.length ≤ 64 * i ∧ ∀ k ∈ x.2.2, k < 64
theorem addR_ok (dash : Bool) (f n : Nat) : (addR dash f n).length ≤ 64 ∧ ∀ k ∈ addR dash f n, k < 64 := by
  unfold addR
  split
  · simp
  · refine ⟨by rw [List.length_range']; omega, fun k hk => ?_⟩
    rw [List.mem_range'_1] at hk; omega
theorem stepR_ok {dash : Bool} {i : Nat} {x : Nat × Int × List Nat} (h : okR i x) (c : Option UInt8) : okR (i + 1) (stepR dash x c) := by
  obtain ⟨h1, h2, h3, h4, h5⟩ := h
  have ha := addR_ok dash (fromR x.2.1 x.1) x.1
  have hend : okR (i + 1) (0, -1, x.2.2 ++ addR dash (fromR x.2.1 x.1) x.1) := by
    refine ⟨by show (0 : Nat) < 1000; omega, by show (-1 : Int) ≤ -1; omega, by show (-1 : Int) < 1000; omega, ?_, fun k hk => ?_⟩
    · show (x.2.2 ++ _).length ≤ _
      rw [List.length_append]; omega
    · rcases List.mem_append.1 hk with e | e
      · exact h5 k e
      · exact ha.2 k e
  cases c with
  | none => exact hend
  | some c =>
    show okR (i + 1) (if 48 ≤ c.toNat ∧ c.toNat ≤ 57 ∧ x.1 < 100 then (10 * x.1 + (c.toNat - 48), x.2.1, x.2.2) else if c.toNat = 45 then (0, (x.1 : Int), x.2.2) else (0, -1, x.2.2 ++ addR dash (fromR x.2.1 x.1) x.1))
    split
    · next hc => exact ⟨by show 10 * x.1 + (c.toNat - 48) < 1000; omega, h2, h3, by show x.2.2.length ≤ _; omega, h5⟩
    · split
      · exact ⟨by show (0 : Nat) < 1000; omega, by show (-1 : Int) ≤ (x.1 : Int); omega, by show (x.1 : Int) < 1000; omega, by show x.2.2.length ≤ _; omega, h5⟩
      · exact hend
theorem stR_ok (t : ByteArray) : ∀ i, i ≤ t.size + 1 → okR i (stR t i)
  | 0, _ => by
    show okR 0 (0, -1, [])
    exact ⟨by decide, by decide, by decide, by decide, by intro k hk; cases hk⟩
  | i + 1, h => by
    have hi : i < (inR t).length := by rw [inR_len]; omega
    rw [stR_succ (List.getElem?_eq_getElem hi)]
    exact stepR_ok (stR_ok t i (by omega)) _
theorem setR_lt (t : ByteArray) : setR t < M64 := setL_lt (stR_ok t _ (Nat.le_refl _)).2.2.2.2
/-- digits are read -/
theorem runR_dig : ∀ n : Fin 100, ∀ (dash : Bool) (f : Int) (l : List Nat), runR dash (0, f, l) ((digP n.val).map some) = (n.val, f, l) := by
  intro ⟨n, hn⟩ dash f l
  show runR dash (0, f, l) ((digP n).map some) = (n, f, l)
  unfold digP
  have st : ∀ (m d : Nat), d < 10 → m < 100 → stepR dash (m, f, l) (some (UInt8.ofNat (48 + d))) = (10 * m + d, f, l) := by
    intro m d hd hm
    have e : (UInt8.ofNat (48 + d)).toNat = 48 + d := by rw [UInt8.toNat_ofNat', Nat.mod_eq_of_lt (by omega)]
    rw [step_dig ⟨by omega, by omega, hm⟩, e, Nat.add_sub_cancel_left]
  unfold runR
  split
  · next h =>
    simp only [List.map_cons, List.map_nil, List.foldl_cons, List.foldl_nil]
    rw [st 0 n h (by omega)]; simp
  · next h =>
    simp only [List.map_cons, List.map_nil, List.foldl_cons, List.foldl_nil]
    rw [st 0 (n / 10) (by omega) (by omega), st _ (n % 10) (by omega) (by omega)]
    congr 1; omega
theorem runR_app (dash : Bool) (x : Nat × Int × List Nat) (a b : List (Option UInt8)) : runR dash x (a ++ b) = runR dash (runR dash x a) b := by unfold runR; rw [List.foldl_append]
/-- a part is read, and what ends it -/
theorem runR_seg {p : Nat × Nat} (h1 : p.1 < 64) (h2 : p.2 < 64) (h : p.1 ≤ p.2) (l : List Nat) (c : Option UInt8) (hc : c = none ∨ c = some 44) :
    runR false (0, -1, l) ((segT p).map some ++ [c]) = (0, -1, l ++ List.range' p.1 (p.2 + 1 - p.1)) := by
  have hfin : ∀ (n : Nat) (f : Int), runR false (n, f, l) [c] = (0, -1, l ++ addR false (fromR f n) n) := by
    intro n f
    rcases hc with rfl | rfl
    · rfl
    · show stepR false (n, f, l) (some 44) = _
      exact step_end (by rintro ⟨h, _⟩; exact absurd h (by decide)) (by decide)
  have e2 : addR false p.1 p.2 = List.range' p.1 (p.2 + 1 - p.1) := by
    unfold addR
    rw [if_neg (by simp), Nat.min_eq_left (by omega)]
  unfold segT
  have d1 := dig_is (n := p.1) (by omega)
  have d2 := dig_is (n := p.2) (by omega)
  by_cases hl : p.1 < p.2
  · rw [if_pos hl, List.map_append, List.map_append, runR_app, runR_app, d1, d2]
    have r1 := runR_dig ⟨p.1, by omega⟩ false (-1) l
    have r2 := runR_dig ⟨p.2, by omega⟩ false (p.1 : Int) l
    dsimp only at r1 r2
    rw [r1, runR_app]
    have e : runR false (p.1, -1, l) (List.map some [45]) = (0, (p.1 : Int), l) := rfl
    rw [e, r2, hfin]
    have hf : fromR (p.1 : Int) p.2 = p.1 := by unfold fromR; rw [if_neg (by omega)]; simp
    rw [hf, e2]
  · have hpe : p.1 = p.2 := by omega
    rw [if_neg hl, List.append_nil, runR_app, d1]
    have r1 := runR_dig ⟨p.1, by omega⟩ false (-1) l
    dsimp only at r1
    rw [r1, hfin]
    have hf : fromR (-1) p.1 = p.1 := by unfold fromR; rw [if_pos (by omega)]
    rw [hf]
    rw [← hpe] at e2
    rw [e2, ← hpe]
theorem runR_segs : ∀ (ps : List (Nat × Nat)) (l : List Nat), ps ≠ [] → (∀ p ∈ ps, p.1 < 64 ∧ p.2 < 64 ∧ p.1 ≤ p.2) →
    runR false (0, -1, l) ((Lib.join (ps.map segT) [44]).map some ++ [none]) = (0, -1, l ++ ps.flatMap (fun p => List.range' p.1 (p.2 + 1 - p.1)))
  | [], l, h, _ => absurd rfl h
  | [p], l, _, hp => by
    obtain ⟨h1, h2, h3⟩ := hp p (by simp)
    rw [List.map_cons, List.map_nil, Lib.join_one, runR_seg h1 h2 h3 l none (.inl rfl)]
    simp
  | p :: q :: r, l, _, hp => by
    obtain ⟨h1, h2, h3⟩ := hp p (by simp)
    have ih := runR_segs (q :: r) (l ++ List.range' p.1 (p.2 + 1 - p.1)) (by simp) (fun x hx => hp x (List.mem_cons_of_mem _ hx))
    rw [List.map_cons, List.map_cons, join_step]
    rw [List.map_cons] at ih
    have e : (segT p ++ 44 :: Lib.join (segT q :: r.map segT) [44]).map some ++ [none] = ((segT p).map some ++ [some 44]) ++ ((Lib.join (segT q :: r.map segT) [44]).map some ++ [none]) := by simp
    rw [e, runR_app, runR_seg h1 h2 h3 l (some 44) (.inr rfl), ih]
    simp
theorem setR_show {s : Nat} {t : ByteArray} (hs : s < M64) (h : t.data.toList = showN s) : setR t = s := by
  unfold setR stR
  rw [List.take_of_length_le (by rw [inR_len]; exact Nat.le_refl _)]
  unfold inR dashR
  rw [h]
  by_cases h0 : s = 0
  · subst h0; decide +kernel
  · have hb := runs_bound s
    obtain ⟨hle, hm⟩ := runs_mem (memL s)
    have hne : runsL (memL s) ≠ [] := by rw [runs_split h0 hs]; simp
    have hsh : showN s = Lib.join ((runsL (memL s)).map segT) [44] := by unfold showN; rw [if_neg h0]
    have hd : (showN s == [45]) = false := by
      refine beq_eq_false_iff_ne.2 (fun e => ?_)
      have hsp := split_join 44 _ (runs_ne h0 hs) (fun x hx => by
        obtain ⟨p, hp, rfl⟩ := List.mem_map.1 hx
        exact seg_44 (by have := hb p hp; omega) (by have := hb p hp; omega))
      rw [← hsh, e] at hsp
      have h45 : (runsL (memL s)).map segT = [[45]] := hsp.symm
      cases hr : runsL (memL s) with
      | nil => exact hne hr
      | cons p r =>
        rw [hr] at h45
        have := hb p (by rw [hr]; simp)
        exact seg_dash (p := p) (by omega) (by omega) (by simpa using (List.cons.inj h45).1)
    rw [hd, hsh, runR_segs _ [] hne (fun p hp => ⟨(hb p hp).1, (hb p hp).2, hle p hp⟩)]
    apply Nat.eq_of_testBit_eq
    intro i
    rw [setL_bit, Bool.eq_iff_iff, decide_eq_true_eq]
    simp only [List.nil_append, List.mem_flatMap, List.mem_range'_1]
    constructor
    · rintro ⟨p, hp, h1⟩
      have := hle p hp
      exact (mem_memL.1 ((hm i).2 ⟨p, hp, by omega, by omega⟩)).2
    · intro hi
      obtain ⟨p, hp, h1⟩ := (hm i).1 (mem_memL.2 ⟨bit_lt hs hi, hi⟩)
      exact ⟨p, hp, by omega, by omega⟩
theorem parseR_is (t : ByteArray) : parseS (setR t) t = parse9 t := parse_one setR_lt (fun s t hs h => setR_show hs h) t
end Go.Proofs.YtplneobjdpdlhaaDoor
