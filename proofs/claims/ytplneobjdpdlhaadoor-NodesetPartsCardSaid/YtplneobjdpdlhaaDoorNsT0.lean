/- Layer 9, plain: what reads a set's text, and that it reads what was written. -/
import Derived.Test.YtplneobjdpdlhaaDoorNsV2
import Derived.Lib.AtoiAllCases
import Derived.Lib.SplitLaws
namespace Go.Proofs.YtplneobjdpdlhaaDoor
set_option linter.unusedVariables false
/-- the number that Atoi tells at a text, an error or none -/
def numP (l : List UInt8) : Int := match Lib.atoiAll l with
  | .ok v => v
  | .range => Lib.atoiSat l
  | _ => 0
theorem numP_bounds (l : List UInt8) : -9223372036854775808 ≤ numP l ∧ numP l ≤ 9223372036854775807 := by
  unfold numP
  split
  · rename_i v h; exact Lib.atoiAll_bounds h
  · exact Lib.atoiSat_bounds l
  · omega
/-- the nodes that a part of a text names -/
def toP (x : List UInt8) : Int := if (Lib.cut x [45]).2.2 = true then numP (Lib.cut x [45]).2.1 else numP (Lib.cut x [45]).1
def partS (x : List UInt8) : Nat := if x = [45] then 0 else diff (allS (IntKind.i64.wrap (toP x + 1))) (allS (numP (Lib.cut x [45]).1))
def setS (xs : List (List UInt8)) : Nat := xs.foldl (fun s x => s ||| partS x) 0
theorem partS_lt (x : List UInt8) : partS x < M64 := by
  unfold partS
  split
  · decide
  · exact diff_lt (allS_lt _)
theorem setS_snoc (xs : List (List UInt8)) (x : List UInt8) : setS (xs ++ [x]) = setS xs ||| partS x := by unfold setS; rw [List.foldl_append]; rfl
theorem setS_from : ∀ (xs : List (List UInt8)) (a i : Nat), (xs.foldl (fun s x => s ||| partS x) a).testBit i = (a.testBit i || xs.any (fun x => (partS x).testBit i))
  | [], a, i => by simp
  | x :: t, a, i => by
    rw [List.foldl_cons, setS_from t, Nat.testBit_or, List.any_cons, Bool.or_assoc]
theorem setS_bit (xs : List (List UInt8)) (i : Nat) : (setS xs).testBit i = xs.any (fun x => (partS x).testBit i) := by unfold setS; rw [setS_from]; simp
theorem setS_lt (xs : List (List UInt8)) : setS xs < M64 := by
  unfold M64
  refine Nat.lt_pow_two_of_testBit _ (fun i hi => ?_)
  rw [setS_bit, List.any_eq_false]
  intro x _ h
  have := bit_lt (partS_lt x) h
  omega
/-- the numbers below a hundred -/
def digP (n : Nat) : List UInt8 := if n < 10 then [UInt8.ofNat (48 + n)] else [UInt8.ofNat (48 + n / 10), UInt8.ofNat (48 + n % 10)]
theorem dig_is {n : Nat} (h : n < 100) : Lib.decDigits n = digP n := by
  unfold digP
  split
  · next h1 => exact dd_lt h1
  · next h1 => rw [dd_ge h1, dd_lt (by omega)]; rfl
theorem dig_facts : ∀ n : Fin 100, numP (digP n.val) = (n.val : Int) ∧ (44 : UInt8) ∉ digP n.val ∧ (45 : UInt8) ∉ digP n.val ∧ digP n.val ≠ [] := by decide +kernel
theorem dig_num {n : Nat} (h : n < 100) : numP (Lib.decDigits n) = (n : Int) := by rw [dig_is h]; exact (dig_facts ⟨n, h⟩).1
theorem dig_44 {n : Nat} (h : n < 100) : (44 : UInt8) ∉ Lib.decDigits n := by rw [dig_is h]; exact (dig_facts ⟨n, h⟩).2.1
theorem dig_45 {n : Nat} (h : n < 100) : (45 : UInt8) ∉ Lib.decDigits n := by rw [dig_is h]; exact (dig_facts ⟨n, h⟩).2.2.1
theorem dig_ne {n : Nat} (h : n < 100) : Lib.decDigits n ≠ [] := by rw [dig_is h]; exact (dig_facts ⟨n, h⟩).2.2.2
theorem seg_44 {p : Nat × Nat} (h1 : p.1 < 100) (h2 : p.2 < 100) : (44 : UInt8) ∉ segT p := by
  unfold segT
  have a := dig_44 h1
  have b := dig_44 h2
  split <;> simp [a, b]
theorem index_at {x r : List UInt8} {c : UInt8} (h : c ∉ x) : Lib.index (x ++ c :: r) [c] = (x.length : Int) := by
  induction x with
  | nil => rw [List.nil_append, Lib.index]; simp [List.isPrefixOf]
  | cons a x ih =>
    have h1 : c ≠ a := fun e => h (by simp [e])
    have h2 : c ∉ x := fun e => h (by simp [e])
    rw [List.cons_append, Lib.index, if_neg (by simp [List.isPrefixOf, h1]), ih h2, if_neg (by simp)]
    simp
theorem index_no {x : List UInt8} {c : UInt8} (h : c ∉ x) : Lib.index x [c] = -1 := by
  induction x with
  | nil => rfl
  | cons a x ih =>
    have h1 : c ≠ a := fun e => h (by simp [e])
    have h2 : c ∉ x := fun e => h (by simp [e])
    rw [Lib.index, if_neg (by simp [List.isPrefixOf, h1]), ih h2]
    exact if_pos rfl
theorem join_step (x y : List UInt8) (r : List (List UInt8)) (c : UInt8) : Lib.join (x :: y :: r) [c] = x ++ c :: Lib.join (y :: r) [c] := by
  rw [Lib.join_cons, Lib.join_cons]
  simp [Lib.joinTail]
theorem split_join (c : UInt8) : ∀ segs : List (List UInt8), segs ≠ [] → (∀ x ∈ segs, c ∉ x) → Lib.splitK [c] 0 ((Lib.join segs [c]).count c) (Lib.join segs [c]) = segs
  | [], h, _ => absurd rfl h
  | [x], _, h => by
    have hx := h x (by simp)
    rw [Lib.join_one, List.count_eq_zero.2 hx]
    rfl
  | x :: y :: r, _, h => by
    have hx := h x (by simp)
    have ih := split_join c (y :: r) (by simp) (fun z hz => h z (List.mem_cons_of_mem _ hz))
    have hi := index_at (r := Lib.join (y :: r) [c]) hx
    rw [join_step, List.count_append, List.count_eq_zero.2 hx, List.count_cons_self, Nat.zero_add, Lib.splitK, hi, if_neg (by simp)]
    have e1 : (((x.length : Nat) : Int)).toNat = x.length := by simp
    rw [e1, Nat.add_zero, List.take_left' rfl]
    have e2 : List.drop (x.length + [c].length) (x ++ c :: Lib.join (y :: r) [c]) = Lib.join (y :: r) [c] := by
      rw [List.drop_append]
      simp
    rw [e2, ih]
theorem cut_seg {p : Nat × Nat} (h1 : p.1 < 100) (h2 : p.2 < 100) : Lib.cut (segT p) [45] = (Lib.decDigits p.1, if p.1 < p.2 then Lib.decDigits p.2 else [], decide (p.1 < p.2)) := by
  have a := dig_45 h1
  unfold segT Lib.cut
  by_cases h : p.1 < p.2
  · simp only [if_pos h]
    have hi := index_at (r := Lib.decDigits p.2) a
    rw [show Lib.decDigits p.1 ++ ([45] ++ Lib.decDigits p.2) = Lib.decDigits p.1 ++ 45 :: Lib.decDigits p.2 from rfl, hi, if_pos (by omega)]
    simp [h]
  · simp only [if_neg h, List.append_nil]
    rw [index_no a, if_neg (by decide)]
    simp [h]
theorem seg_dash {p : Nat × Nat} (h1 : p.1 < 100) (h2 : p.2 < 100) : segT p ≠ [45] := by
  intro e
  have a := dig_45 h1
  have b := dig_ne h1
  unfold segT at e
  cases hd : Lib.decDigits p.1 with
  | nil => exact b hd
  | cons x r =>
    rw [hd] at e a
    injection e with e1 _
    exact a (by rw [e1]; simp)
theorem part_seg {p : Nat × Nat} (h1 : p.1 < 64) (h2 : p.2 < 64) (h : p.1 ≤ p.2) (i : Nat) : (partS (segT p)).testBit i = decide (p.1 ≤ i ∧ i ≤ p.2) := by
  have ht : toP (segT p) = (p.2 : Int) := by
    unfold toP
    rw [cut_seg (by omega) (by omega)]
    by_cases hl : p.1 < p.2
    · simp only [hl, decide_true, if_true]; exact dig_num (by omega)
    · simp only [hl, decide_false, Bool.false_eq_true, if_false]
      rw [dig_num (by omega)]; omega
  have hf : numP (Lib.cut (segT p) [45]).1 = (p.1 : Int) := by
    rw [cut_seg (by omega) (by omega)]; exact dig_num (by omega)
  unfold partS
  rw [if_neg (seg_dash (by omega) (by omega)), ht, hf]
  have hw : IntKind.i64.wrap ((p.2 : Int) + 1) = (p.2 : Int) + 1 := by
    rw [IntKind.wrap_i64]; omega
  rw [hw, diff_bit (allS_lt _) (allS_lt _), allS_bit, allS_bit, Bool.eq_iff_iff]
  simp only [Bool.and_eq_true, Bool.not_eq_true', Bool.and_eq_false_iff, decide_eq_true_eq, decide_eq_false_iff_not]
  omega
theorem runs_mem : ∀ (l : List Nat), (∀ p ∈ runsL l, p.1 ≤ p.2) ∧ ∀ i, i ∈ l ↔ ∃ p ∈ runsL l, p.1 ≤ i ∧ i ≤ p.2
  | [] => by simp [runsL]
  | a :: l => by
    obtain ⟨h1, h2⟩ := runs_mem l
    rw [runsL]
    cases hr : runsL l with
    | nil =>
      rw [hr] at h2
      have hn : l = [] := by
        cases l with
        | nil => rfl
        | cons b l => have := (h2 b).1 (by simp); simp at this
      subst hn
      refine ⟨by simp, fun i => ?_⟩
      simp
      omega
    | cons q r =>
      rw [hr] at h1 h2
      obtain ⟨b, c⟩ := q
      have hbc := h1 (b, c) (by simp)
      dsimp only at hbc ⊢
      split
      · next hb =>
        refine ⟨fun p hp => ?_, fun i => ?_⟩
        · rcases List.mem_cons.1 hp with e | e
          · subst e; show a ≤ c; omega
          · exact h1 p (List.mem_cons_of_mem _ e)
        · rw [List.mem_cons, h2]
          simp only [List.mem_cons, exists_eq_or_imp]
          constructor
          · rintro (e | e | e)
            · exact .inl (by omega)
            · exact .inl (by omega)
            · exact .inr e
          · rintro (e | e)
            · by_cases hi : i = a
              · exact .inl hi
              · exact .inr (.inl (by omega))
            · exact .inr (.inr e)
      · refine ⟨fun p hp => ?_, fun i => ?_⟩
        · rcases List.mem_cons.1 hp with e | e
          · subst e; exact Nat.le_refl _
          · exact h1 p e
        · rw [List.mem_cons, h2]
          simp only [List.mem_cons, exists_eq_or_imp]
          constructor
          · rintro (e | e | e)
            · exact .inl (by omega)
            · exact .inr (.inl e)
            · exact .inr (.inr e)
          · rintro (e | e | e)
            · exact .inl (by omega)
            · exact .inr (.inl e)
            · exact .inr (.inr e)
theorem runs_bound (s : Nat) : ∀ p ∈ runsL (memL s), p.1 < 64 ∧ p.2 < 64 := runs_lt (fun i hi => (mem_memL.1 hi).1)
theorem set_runs {s : Nat} (hs : s < M64) : setS ((runsL (memL s)).map segT) = s := by
  apply Nat.eq_of_testBit_eq
  intro i
  obtain ⟨h1, h2⟩ := runs_mem (memL s)
  have hb := runs_bound s
  rw [setS_bit, Bool.eq_iff_iff, List.any_eq_true]
  constructor
  · rintro ⟨x, hx, hi⟩
    obtain ⟨p, hp, rfl⟩ := List.mem_map.1 hx
    rw [part_seg (hb p hp).1 (hb p hp).2 (h1 p hp), decide_eq_true_eq] at hi
    exact (mem_memL.1 ((h2 i).2 ⟨p, hp, hi⟩)).2
  · intro hi
    have hm := mem_memL.2 ⟨bit_lt hs hi, hi⟩
    obtain ⟨p, hp, hpi⟩ := (h2 i).1 hm
    exact ⟨segT p, List.mem_map_of_mem hp, by rw [part_seg (hb p hp).1 (hb p hp).2 (h1 p hp), decide_eq_true_eq]; exact hpi⟩
/-- the parts of a text, and its set -/
def partsB (t : ByteArray) : List ByteArray := Lib.splitB ⟨#[44]⟩ 0 (Lib.countB t ⟨#[44]⟩) t
def setP (t : ByteArray) : Nat := setS ((partsB t).map (·.data.toList))
theorem parts_is (t : ByteArray) : (partsB t).map (·.data.toList) = Lib.splitK [44] 0 (t.data.toList.count 44) t.data.toList := by
  unfold partsB
  rw [Lib.splitB_data]
  have : Lib.countB t ⟨#[44]⟩ = t.data.toList.count 44 := Lib.count_one 44 t.data.toList
  rw [this]
theorem runs_ne {s : Nat} (h0 : s ≠ 0) (hs : s < M64) : (runsL (memL s)).map segT ≠ [] := by
  rw [runs_split h0 hs]; simp
theorem set_show {s : Nat} (hs : s < M64) {t : ByteArray} (h : t.data.toList = showN s) : setP t = s := by
  unfold setP
  rw [parts_is, h]
  by_cases h0 : s = 0
  · subst h0
    decide +kernel
  · have hb := runs_bound s
    unfold showN
    rw [if_neg h0, split_join 44 _ (runs_ne h0 hs) (fun x hx => by
      obtain ⟨p, hp, rfl⟩ := List.mem_map.1 hx
      exact seg_44 (by have := hb p hp; omega) (by have := hb p hp; omega)), set_runs hs]
/-- a text's set and error -/
def parseS (c : Nat) (t : ByteArray) : Nat × Int := if showN c = t.data.toList then (c, 0) else (0, 90)
def parse9 (t : ByteArray) : Nat × Int := parseS (setP t) t
theorem setP_lt (t : ByteArray) : setP t < M64 := setS_lt _
/-- whoever reads what was written, reads alike -/
theorem parse_one {f : ByteArray → Nat} (hf : ∀ t, f t < M64) (h : ∀ s t, s < M64 → t.data.toList = showN s → f t = s) (t : ByteArray) : parseS (f t) t = parse9 t := by
  unfold parse9 parseS
  by_cases h1 : showN (f t) = t.data.toList
  · have h2 := set_show (hf t) h1.symm
    rw [h2]
  · by_cases h2 : showN (setP t) = t.data.toList
    · have h3 := h _ _ (setP_lt t) h2.symm
      rw [h3] at h1
      exact absurd h2 h1
    · rw [if_neg h1, if_neg h2]
theorem parse9_show {s : Nat} (hs : s < M64) : parse9 ⟨(showN s).toArray⟩ = (s, 0) := by
  have h := set_show hs (t := ⟨(showN s).toArray⟩) (by simp)
  unfold parse9 parseS
  rw [h, if_pos (by simp)]
theorem showN_len {s : Nat} (hs : s < M64) : (showN s).length ≤ 1000 := by
  by_cases h0 : s = 0
  · subst h0; decide
  · have h1 := runs_bound s
    have h2 := runs_len (memL s)
    have h3 := memL_len s
    have hb : ∀ x ∈ (runsL (memL s)).map segT, x.length ≤ 5 := by
      intro x hx
      obtain ⟨p, hp, rfl⟩ := List.mem_map.1 hx
      exact segT_len (by have := h1 p hp; omega) (by have := h1 p hp; omega)
    unfold showN
    rw [if_neg h0]
    have h4 : ((runsL (memL s)).map segT).length ≤ 64 := by rw [List.length_map]; omega
    generalize (runsL (memL s)).map segT = M at hb h4 ⊢
    cases M with
    | nil => simp [Lib.join]
    | cons x r =>
      rw [Lib.join_cons, List.length_append]
      have h5 := hb x (by simp)
      have h6 := joinTail_len 5 [44] r (fun y hy => hb y (List.mem_cons_of_mem _ hy))
      simp only [List.length_cons, List.length_nil] at h4 h6
      omega
end Go.Proofs.YtplneobjdpdlhaaDoor
