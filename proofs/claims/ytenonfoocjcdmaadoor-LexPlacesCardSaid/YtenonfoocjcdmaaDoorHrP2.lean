/- Plain Lean on times as texts: what is read. -/
import Derived.Test.YtenonfoocjcdmaaDoorHrP
import Derived.Lib.Atoi
namespace Go.Proofs.YtenonfoocjcdmaaDoor
set_option linter.unusedVariables false
open Go.RowKit
def isD (b : UInt8) : Bool := decide (48 ≤ b.toNat) && decide (b.toNat ≤ 57)
/-- how many digits a text begins with -/
def dgs (l : List UInt8) : Nat := (l.takeWhile isD).length
def valD (l : List UInt8) : Nat := l.foldl (fun a b => a * 10 + (b.toNat - 48)) 0
theorem dgs_le (l : List UInt8) : dgs l ≤ l.length := (List.takeWhile_sublist _).length_le
theorem dgs_cons (b : UInt8) (t : List UInt8) : dgs (b :: t) = if isD b then dgs t + 1 else 0 := by
  unfold dgs; rw [List.takeWhile_cons]; cases isD b <;> simp
theorem dgs_take : ∀ (l : List UInt8), l.take (dgs l) = l.takeWhile isD
  | [] => rfl
  | b :: t => by
    rw [dgs_cons, List.takeWhile_cons]
    cases h : isD b
    · simp
    · simp [dgs_take t]
theorem dgs_at : ∀ {l : List UInt8} {k : Nat} {b : UInt8}, k < dgs l → l[k]? = some b → isD b = true
  | [], k, b, h, hb => by simp at hb
  | c :: t, k, b, h, hb => by
    rw [dgs_cons] at h
    cases hc : isD c
    · rw [hc] at h; simp at h
    · rw [hc] at h
      cases k with
      | zero => simp at hb; subst hb; exact hc
      | succ k => simp at hb; exact dgs_at (by simpa using h) hb
theorem dgs_stop : ∀ {l : List UInt8} {b : UInt8}, l[dgs l]? = some b → isD b = false
  | [], b, hb => by simp at hb
  | c :: t, b, hb => by
    rw [dgs_cons] at hb
    cases hc : isD c
    · rw [hc] at hb; simp at hb; subst hb; exact hc
    · rw [hc] at hb; simp at hb; exact dgs_stop hb
theorem digitVal_of {b : UInt8} (h : isD b = true) : Lib.digitVal b = some (b.toNat - 48) := by
  unfold isD at h
  simp only [Bool.and_eq_true, decide_eq_true_eq] at h
  unfold Lib.digitVal
  first | (rw [if_pos (by simpa [UInt8.le_iff_toNat_le] using h)]) | (simp [UInt8.le_iff_toNat_le, h])
theorem decFrom_all : ∀ (l : List UInt8) (acc : Nat), (∀ b ∈ l, isD b = true) → Lib.decFrom acc l = some (l.foldl (fun a b => a * 10 + (b.toNat - 48)) acc)
  | [], acc, _ => rfl
  | b :: t, acc, h => by
    simp only [Lib.decFrom, digitVal_of (h b (by simp)), List.foldl_cons]
    exact decFrom_all t _ (fun c hc => h c (by simp [hc]))
theorem atoi_all {l : List UInt8} (h : ∀ b ∈ l, isD b = true) (hne : l ≠ []) : Lib.atoi l = some (valD l : Int) := by
  cases l with
  | nil => exact absurd rfl hne
  | cons b t =>
    have hb := h b (by simp)
    unfold isD at hb
    simp only [Bool.and_eq_true, decide_eq_true_eq] at hb
    have h1 : (b == 45) = false := by rw [beq_eq_false_iff_ne]; rintro rfl; simp at hb
    have h2 : (b == 43) = false := by rw [beq_eq_false_iff_ne]; rintro rfl; simp at hb
    simp only [Lib.atoi, h1, h2, Bool.false_eq_true, if_false, Lib.decNat, List.isEmpty_cons]
    rw [decFrom_all (b :: t) 0 h]; rfl
theorem valD_lt : ∀ {l : List UInt8}, (∀ b ∈ l, isD b = true) → ∀ acc, l.foldl (fun a b => a * 10 + (b.toNat - 48)) acc < (acc + 1) * 10 ^ l.length
  | [], _, acc => by simp
  | b :: t, h, acc => by
    have hb := h b (by simp)
    unfold isD at hb
    simp only [Bool.and_eq_true, decide_eq_true_eq] at hb
    have ih := valD_lt (l := t) (fun c hc => h c (by simp [hc])) (acc * 10 + (b.toNat - 48))
    simp only [List.foldl_cons, List.length_cons, Nat.pow_succ]
    refine Nat.lt_of_lt_of_le ih ?_
    rw [Nat.mul_comm (10 ^ t.length) 10, ← Nat.mul_assoc]
    exact Nat.mul_le_mul_right _ (by omega)
/-- the unit of a sign, from a place on -/
def findU : Nat → Nat → UInt8 → Option Nat
  | 0, _, _ => none
  | f + 1, nx, b => if nx < 4 then (if sg nx == b then some nx else findU f (nx + 1) b) else none
def badP (l : List UInt8) : Bool := decide (dgs l = 0) || decide (7 < dgs l) || (decide (1 < dgs l) && (l.head? == some 48)) || decide (dgs l = l.length)
def parseP : Nat → Nat → List UInt8 → Option Nat
  | _, _, [] => some 0
  | 0, _, _ :: _ => none
  | f + 1, nx, b :: t => if badP (b :: t) then none else match findU 4 nx ((b :: t).getD (dgs (b :: t)) 0) with
    | none => none
    | some u => (parseP f (u + 1) ((b :: t).drop (dgs (b :: t) + 1))).map (valD ((b :: t).take (dgs (b :: t))) * tk u + ·)
def hrsV (l : List UInt8) : Option Nat := if l = [] then none else parseP 5 0 l
def hrsE (l : List UInt8) : Int := match hrsV l with | none => 60 | some t => if t ≤ 1000000 then 0 else 153
def hrsN (l : List UInt8) : Int := match hrsV l with | none => 0 | some t => if t ≤ 1000000 then t else 0
theorem findU_self : ∀ {f nx u : Nat}, nx ≤ u → u < 4 → u - nx < f → findU f nx (sg u) = some u
  | 0, nx, u, _, _, h => by omega
  | f + 1, nx, u, h1, h2, h3 => by
    unfold findU
    rw [if_pos (by omega)]
    by_cases e : nx = u
    · subst e; simp
    · have hne : (sg nx == sg u) = false := by
        have hn : nx < 4 := by omega
        have : ∀ a b : Fin 4, a ≠ b → (sg a.val == sg b.val) = false := by decide
        exact this ⟨nx, hn⟩ ⟨u, h2⟩ (fun h => e (congrArg Fin.val h))
      rw [hne]
      simp only [Bool.false_eq_true, if_false]
      exact findU_self (by omega) h2 (by omega)
theorem sg_not (u : Nat) : isD (sg u) = false := by
  rcases u with _ | _ | _ | u
  · decide
  · decide
  · decide
  · show isD 115 = false
    decide
theorem dd_isD : ∀ (n : Nat), ∀ b ∈ Lib.decDigits n, isD b = true := by
  intro n
  induction n using Nat.strongRecOn with
  | _ n ih =>
    intro b hb
    by_cases h : n < 10
    · rw [dd_lt h] at hb
      rw [List.mem_singleton] at hb; subst hb
      unfold isD
      simp only [Bool.and_eq_true, decide_eq_true_eq]
      rw [UInt8.toNat_ofNat']
      omega
    · rw [dd_ge h] at hb
      rcases List.mem_append.1 hb with hb | hb
      · exact ih (n / 10) (by omega) b hb
      · rw [List.mem_singleton] at hb; subst hb
        unfold isD
        simp only [Bool.and_eq_true, decide_eq_true_eq]
        rw [UInt8.toNat_ofNat']
        omega
theorem dd_val : ∀ (n : Nat), valD (Lib.decDigits n) = n := by
  intro n
  induction n using Nat.strongRecOn with
  | _ n ih =>
    by_cases h : n < 10
    · rw [dd_lt h]
      simp only [valD, List.foldl_cons, List.foldl_nil]
      rw [UInt8.toNat_ofNat']
      omega
    · rw [dd_ge h]
      have h1 := ih (n / 10) (by omega)
      unfold valD at h1 ⊢
      rw [List.foldl_append, h1]
      simp only [List.foldl_cons, List.foldl_nil]
      rw [UInt8.toNat_ofNat']
      omega
theorem dd_ne (n : Nat) : Lib.decDigits n ≠ [] := by
  by_cases h : n < 10
  · rw [dd_lt h]; simp
  · rw [dd_ge h]; simp
theorem dd_head {n : Nat} (h : 0 < n) : (Lib.decDigits n).head? ≠ some 48 := by
  induction n using Nat.strongRecOn with
  | _ n ih =>
    by_cases h1 : n < 10
    · rw [dd_lt h1]
      simp only [List.head?_cons, ne_eq, Option.some.injEq]
      intro e
      have := congrArg UInt8.toNat e
      rw [UInt8.toNat_ofNat'] at this
      simp at this
      omega
    · rw [dd_ge h1, List.head?_append]
      have h2 := ih (n / 10) (by omega) (by omega)
      cases hd : (Lib.decDigits (n / 10)).head? with
      | none => exact absurd (List.head?_eq_none_iff.1 hd) (dd_ne _)
      | some x => rw [hd] at h2; simpa using h2
theorem dgs_app {a : List UInt8} {c : UInt8} (ha : ∀ b ∈ a, isD b = true) (hc : isD c = false) (r : List UInt8) : dgs (a ++ c :: r) = a.length := by
  induction a with
  | nil => rw [List.nil_append, dgs_cons, hc]; simp
  | cons b t ih => rw [List.cons_append, dgs_cons, ha b (by simp), ih (fun x hx => ha x (by simp [hx]))]; simp
/-- a written part is read -/
theorem parse_part {f nx u c : Nat} (hc : 0 < c) (hc2 : c < 100) (h1 : nx ≤ u) (h2 : u < 4) (r : List UInt8) :
    parseP (f + 1) nx (Lib.decDigits c ++ sg u :: r) = (parseP f (u + 1) r).map (c * tk u + ·) := by
  have hd := dgs_app (dd_isD c) (sg_not u) r
  have hlen := decDigits_len hc2
  have hne : 0 < (Lib.decDigits c).length := by
    rcases Nat.eq_zero_or_pos (Lib.decDigits c).length with h | h
    · exact absurd (List.eq_nil_of_length_eq_zero h) (dd_ne c)
    · exact h
  obtain ⟨b, t, hbt⟩ : ∃ b t, Lib.decDigits c ++ sg u :: r = b :: t := by
    cases h : Lib.decDigits c with
    | nil => exact absurd h (dd_ne c)
    | cons b t => exact ⟨b, t ++ sg u :: r, rfl⟩
  have hbad : badP (Lib.decDigits c ++ sg u :: r) = false := by
    unfold badP
    rw [hd]
    have hh : ((Lib.decDigits c ++ sg u :: r).head? == some 48) = false := by
      rw [List.head?_append]
      cases hx : (Lib.decDigits c).head? with
      | none => exact absurd (List.head?_eq_none_iff.1 hx) (dd_ne c)
      | some x =>
        have := dd_head hc
        rw [hx] at this
        simpa using this
    have hl : (Lib.decDigits c ++ sg u :: r).length = (Lib.decDigits c).length + (r.length + 1) := by simp
    rw [hh, hl, decide_eq_false (show ¬ (Lib.decDigits c).length = 0 by omega), decide_eq_false (show ¬ 7 < (Lib.decDigits c).length by omega), decide_eq_false (show ¬ (Lib.decDigits c).length = (Lib.decDigits c).length + (r.length + 1) by omega)]
    simp
  have hget : (Lib.decDigits c ++ sg u :: r).getD (Lib.decDigits c).length 0 = sg u := by simp
  have htake : (Lib.decDigits c ++ sg u :: r).take (Lib.decDigits c).length = Lib.decDigits c := by simp
  have hdrop : (Lib.decDigits c ++ sg u :: r).drop ((Lib.decDigits c).length + 1) = r := by
    rw [← List.drop_drop]; simp
  rw [hbt] at hd hbad hget htake hdrop ⊢
  conv => lhs; unfold parseP
  rw [hbad, hd, hget, htake, hdrop, findU_self h1 h2 (by omega), dd_val]
  simp
theorem parse_nil (f nx : Nat) : parseP f nx [] = some 0 := by unfold parseP; rfl
theorem parse_pt {f nx u n : Nat} (h : n ≤ 1000000) (h1 : nx ≤ u) (h2 : u < 4) (r : List UInt8) (hr : ∀ g k, 5 ≤ g + k → k ≤ u + 1 → parseP g k r = some (rm (u + 1) n)) (hf : 5 ≤ f + nx) :
    ∀ g k, 5 ≤ g + k → k ≤ u → parseP g k (pt u n ++ r) = some (rm u n) := by
  intro g k hg hk
  have e : rm u n = ct u n * tk u + rm (u + 1) n := by
    show rm u n = rm u n / tk u * tk u + rm u n % tk u
    rw [Nat.mul_comm]; exact (Nat.div_add_mod _ _).symm
  unfold pt
  by_cases hc : 0 < ct u n
  · rw [if_pos hc]
    obtain ⟨g', rfl⟩ : ∃ g', g = g' + 1 := ⟨g - 1, by omega⟩
    rw [List.append_assoc, List.singleton_append, parse_part hc (ct_lt h u h2) hk h2, hr g' (u + 1) (by omega) (Nat.le_refl _), e]
    rfl
  · rw [if_neg hc, List.nil_append, hr g k hg (by omega), e]
    have : ct u n = 0 := by omega
    rw [this]; simp
/-- A time is read as it was written. -/
theorem parse_show {n : Nat} (h : n ≤ 1000000) : hrsV (showL n) = some n := by
  unfold hrsV showL
  by_cases h0 : n = 0
  · subst h0
    rw [if_pos rfl, if_neg (by simp)]
    decide
  · rw [if_neg h0, if_neg (fun e => h0 (pts_nil.1 e))]
    have e : pts 4 n = pt 0 n ++ (pt 1 n ++ (pt 2 n ++ (pt 3 n ++ []))) := by simp [pts]
    rw [e]
    have r4 : ∀ g k, 5 ≤ g + k → k ≤ 3 + 1 → parseP g k [] = some (rm (3 + 1) n) := fun g k _ _ => by rw [parse_nil, rm4]
    have r3 := parse_pt (f := 5) (nx := 0) h (u := 3) (by omega) (by omega) [] r4 (by omega)
    have r2 := parse_pt (f := 5) (nx := 0) h (u := 2) (by omega) (by omega) _ r3 (by omega)
    have r1 := parse_pt (f := 5) (nx := 0) h (u := 1) (by omega) (by omega) _ r2 (by omega)
    have r0 := parse_pt (f := 5) (nx := 0) h (u := 0) (by omega) (by omega) _ r1 (by omega)
    exact r0 5 0 (by omega) (by omega)
theorem findU_some : ∀ {f nx u : Nat} {b : UInt8}, findU f nx b = some u → nx ≤ u ∧ u < 4 ∧ (sg u == b) = true
  | 0, _, _, _, h => by simp [findU] at h
  | f + 1, nx, u, b, h => by
    unfold findU at h
    by_cases h1 : nx < 4
    · rw [if_pos h1] at h
      by_cases h2 : (sg nx == b) = true
      · rw [if_pos h2] at h
        obtain rfl := Option.some.inj h
        exact ⟨Nat.le_refl _, h1, h2⟩
      · rw [if_neg h2] at h
        obtain ⟨h3, h4⟩ := findU_some h
        exact ⟨by omega, h4⟩
    · rw [if_neg h1] at h; cases h
theorem parse_fuel : ∀ (f : Nat) {g nx : Nat} (l : List UInt8), 5 ≤ f + nx → 5 ≤ g + nx → parseP f nx l = parseP g nx l
  | f, g, nx, [], _, _ => by rw [parse_nil, parse_nil]
  | 0, g, nx, b :: t, hf, hg => by
    have e1 : parseP 0 nx (b :: t) = none := by unfold parseP; rfl
    rw [e1]
    cases g with
    | zero => exact e1.symm
    | succ g =>
      unfold parseP
      have : findU 4 nx ((b :: t).getD (dgs (b :: t)) 0) = none := by
        cases h : findU 4 nx ((b :: t).getD (dgs (b :: t)) 0) with
        | none => rfl
        | some u => have := findU_some h; omega
      rw [this]; simp
  | f + 1, 0, nx, b :: t, hf, hg => by
    have e1 : parseP 0 nx (b :: t) = none := by unfold parseP; rfl
    rw [e1]
    unfold parseP
    have : findU 4 nx ((b :: t).getD (dgs (b :: t)) 0) = none := by
      cases h : findU 4 nx ((b :: t).getD (dgs (b :: t)) 0) with
      | none => rfl
      | some u => have := findU_some h; omega
    rw [this]; simp
  | f + 1, g + 1, nx, b :: t, hf, hg => by
    unfold parseP
    cases h : findU 4 nx ((b :: t).getD (dgs (b :: t)) 0) with
    | none => rfl
    | some u =>
      have hu := findU_some h
      simp only
      rw [parse_fuel f (g := g) (nx := u + 1) _ (by omega) (by omega)]
/-- what is read from a unit on -/
def parseQ (nx : Nat) (l : List UInt8) : Option Nat := parseP (5 - nx) nx l
theorem parseQ_bad {nx : Nat} {l : List UInt8} (hn : nx ≤ 4) (hne : l ≠ []) (h : badP l = true) : parseQ nx l = none := by
  cases l with
  | nil => exact absurd rfl hne
  | cons b t =>
    unfold parseQ
    obtain ⟨f, hf⟩ : ∃ f, 5 - nx = f + 1 := ⟨4 - nx, by omega⟩
    rw [hf]; unfold parseP; rw [h]; rfl
theorem parseQ_no {nx : Nat} {l : List UInt8} (hn : nx ≤ 4) (hne : l ≠ []) (h : findU 4 nx (l.getD (dgs l) 0) = none) : parseQ nx l = none := by
  cases l with
  | nil => exact absurd rfl hne
  | cons b t =>
    unfold parseQ
    obtain ⟨f, hf⟩ : ∃ f, 5 - nx = f + 1 := ⟨4 - nx, by omega⟩
    rw [hf]; unfold parseP; rw [h]; simp
theorem parseQ_yes {nx u : Nat} {l : List UInt8} (hn : nx ≤ 4) (hne : l ≠ []) (hb : badP l = false) (h : findU 4 nx (l.getD (dgs l) 0) = some u) :
    parseQ nx l = (parseQ (u + 1) (l.drop (dgs l + 1))).map (valD (l.take (dgs l)) * tk u + ·) := by
  cases l with
  | nil => exact absurd rfl hne
  | cons b t =>
    have hu := findU_some h
    unfold parseQ
    obtain ⟨f, hf⟩ : ∃ f, 5 - nx = f + 1 := ⟨4 - nx, by omega⟩
    rw [hf]
    conv => lhs; unfold parseP
    rw [hb, h]
    simp only [Bool.false_eq_true, if_false]
    rw [parse_fuel f (g := 5 - (u + 1)) (nx := u + 1) _ (by omega) (by omega)]
end Go.Proofs.YtenonfoocjcdmaaDoor
