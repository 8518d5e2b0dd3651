/- Layer 9: Of, List, Lowest, Highest walked; the least bit. -/
import Derived.Test.YtplneobjdpdlhaaDoorNsW1
import Derived.Test.YtplneobjdpdlhaaDoorK1
namespace Go.Proofs.YtplneobjdpdlhaaDoor
set_option linter.unusedVariables false
open Go.RowKit
theorem take_snocN {α : Type} {l : List α} {k : Nat} {r : α} (h : l[k]? = some r) : l.take (k + 1) = l.take k ++ [r] := by rw [List.take_add_one, h]; rfl
/-- the cells of a slice of ints, at a place -/
theorem Reads.num_at {w : World} {B n k : Nat} {A : Option Addr} {l : List Int} (h : Reads w B 1 A n (ints l)) (hk : k < n) :
    ∃ b o x, A = some ⟨b, o, none⟩ ∧ b < B ∧ Hid (l[k]? = some x) ∧ w.cell? ⟨b, o + k, none⟩ = some (.int .i64 x) := by
  obtain ⟨b, o, e, hb, hc⟩ := h.plain (by omega) (by omega)
  have hl : l.length = n := h.len
  have hx : l[k]? = some (l[k]'(by omega)) := List.getElem?_eq_getElem (by omega)
  exact ⟨b, o, _, e, hb, hx, hc k _ (by rw [ints, List.getElem?_map, hx]; rfl)⟩
theorem ofOk_snoc {l : List Int} {x : Int} (h : ofOk l) (h0 : 0 ≤ x) (h1 : x < 64) (h2 : x ∉ l) : ofOk (l ++ [x]) := by
  refine ⟨fun y hy => ?_, ?_⟩
  · rw [List.mem_append, List.mem_singleton] at hy
    rcases hy with hy | rfl
    · exact h.1 y hy
    · exact ⟨h0, h1⟩
  · rw [List.nodup_append]
    refine ⟨h.2, by simp, fun a ha b hb => ?_⟩
    rw [List.mem_singleton] at hb
    subst hb
    rintro rfl
    exact h2 ha
theorem ofP_no {l : List Int} {k : Nat} {x : Int} (h : l[k]? = some x) (hb : x < 0 ∨ 64 ≤ x ∨ x ∈ l.take k) : ofP l = (0, 90) := by
  unfold ofP
  rw [if_neg]
  rintro ⟨h1, h2⟩
  have h3 := h1 x (List.mem_of_getElem? h)
  rcases hb with hb | hb | hb
  · omega
  · omega
  · obtain ⟨j, hj, e⟩ := List.mem_take_iff_getElem.1 hb
    obtain ⟨hk, e2⟩ := List.getElem?_eq_some_iff.1 h
    have := (List.getElem_inj (h₀ := by omega) (h₁ := hk) h2).1 (e.trans e2.symm)
    omega
theorem mem_toNat {l : List Int} (h : ∀ x ∈ l, 0 ≤ x ∧ x < 64) (m : Nat) : m ∈ l.map Int.toNat ↔ (m : Int) ∈ l := by
  rw [List.mem_map]
  constructor
  · rintro ⟨x, hx, rfl⟩
    have := h x hx
    rw [Int.toNat_of_nonneg this.1]; exact hx
  · intro hm
    exact ⟨_, hm, by simp⟩
theorem of_lt {l : List Int} (h : ofOk l) : setL (l.map Int.toNat) < M64 := setL_lt (fun i hi => by
  obtain ⟨x, hx, rfl⟩ := List.mem_map.1 hi
  have := h.1 x hx; omega)
theorem of_any (A : Option Addr) (n c B : Nat) (l : List Int) (w : World) (hr : Reads w B 1 A n (ints l)) (hn : n ≤ 1000000) :
    Calls Tryd.prog 9 #[.slice A n c] w fun e w' => e = .returned (.tuple #[.int .u64 (ofP l).1, .int .i64 (ofP l).2]) ∧ w = w' := by
  have hlen : Hid (l.length = n) := hr.len
  go_enter Tryd.func9, Tryd.ntmps9
  go_wp2
  go_loop [4, 9] (fun s i => ∃ (k q : Nat), k ≤ n ∧ i = .int .i64 k ∧ s = .int .u64 q ∧ q < M64 ∧ Hid (ofOk (l.take k) ∧ setL ((l.take k).map Int.toNat) = q)) (fun _ i => n - (intOf i).toNat)
  case atStart => exact ⟨0, 0, Nat.zero_le _, rfl, rfl, by decide, ⟨⟨by simp, by simp⟩, rfl⟩⟩
  case round =>
    obtain ⟨k, q, hk, rfl, rfl, hq, HO⟩ := hrel
    by_cases hlt : k < n
    · obtain ⟨b, o, x, rfl, hbb, hx, c0⟩ := hr.num_at hlt
      have hj0 : (0 : Int) ≤ (k : Int) := by omega
      have hj1 : (k : Int) < (n : Int) := by omega
      clear hr
      by_cases hx0 : x < 0
      · have t0 : decide (x < 0) = true := by simpa using hx0
        have hP : Hid (ofP l = (0, 90)) := ofP_no hx.out (.inl hx0)
        clear hx0
        go_wp2
        go_ret2
        rw [hP.out]
        exact ⟨rfl, rfl⟩
      have t0 : decide (x < 0) = false := by simpa using hx0
      by_cases hx1 : 64 ≤ x
      · have t1 : decide (64 ≤ x) = true := by simpa using hx1
        have hP : Hid (ofP l = (0, 90)) := ofP_no hx.out (.inr (.inl hx1))
        clear hx0 hx1
        go_wp2
        go_ret2
        rw [hP.out]
        exact ⟨rfl, rfl⟩
      have t1 : decide (64 ≤ x) = false := by simpa using hx1
      obtain ⟨m, rfl⟩ := Int.eq_ofNat_of_zero_le (show 0 ≤ x by omega)
      have hm : m < 64 := by omega
      have hc := Lib.hid (fun v => one_any m v hm)
      have hand := and64 hq (pow_lt hm)
      have hor := or64 hq (pow_lt hm)
      have hol := or_lt hq (pow_lt hm)
      have hz := and_pow (s := q) (n := m)
      have hin : q.testBit m = true ↔ (m : Int) ∈ l.take k := by
        rw [← HO.out.2, setL_bit, decide_eq_true_eq]
        exact mem_toNat HO.out.1.1 m
      have hst : Hid ((m : Int) ∉ l.take k → ofOk (l.take (k + 1)) ∧ setL ((l.take (k + 1)).map Int.toNat) = q ||| 2 ^ m) := by
        intro hni
        rw [take_snocN hx.out]
        refine ⟨ofOk_snoc HO.out.1 (by omega) (by omega) hni, ?_⟩
        rw [List.map_append, List.map_singleton, setL_snoc, HO.out.2]
        rfl
      obtain ⟨p, hp⟩ : ∃ p : Nat, Hid (2 ^ m = p) := ⟨2 ^ m, rfl⟩
      rw [hp.out] at hc hand hz hor hol hst
      obtain ⟨u, hu⟩ : ∃ u : Nat, Hid (q &&& p = u) := ⟨q &&& p, rfl⟩
      rw [hu.out] at hand hz
      obtain ⟨v, hv⟩ : ∃ v : Nat, Hid (q ||| p = v) := ⟨q ||| p, rfl⟩
      rw [hv.out] at hor hol hst
      cases hb : q.testBit m with
      | true =>
        have t2 : ((u : Int) != 0) = true := by
          have : u ≠ 0 := fun e => by have := hz.1 e; rw [hb] at this; cases this
          simp; omega
        have hP : Hid (ofP l = (0, 90)) := ofP_no hx.out (.inr (.inr (hin.1 hb)))
        clear hz hb hin hx0 hx1
        go_wp2_with (go_at_call 27; refine (hc.out _).mono ?_; rintro e w' ⟨rfl, rfl⟩)
        go_ret2
        rw [hP.out]
        exact ⟨rfl, rfl⟩
      | false =>
        have t2 : ((u : Int) != 0) = false := by
          have := hz.2 hb
          simp; omega
        have hni : (m : Int) ∉ l.take k := fun hh => by have := hin.2 hh; rw [hb] at this; cases this
        have HO2 := Lib.hid (hst.out hni)
        clear hz hb hin hni hx0 hx1
        go_wp2_with (go_at_call 27; refine (hc.out _).mono ?_; rintro e w' ⟨rfl, rfl⟩)
        go_round
        case rel => exact ⟨k + 1, v, by omega, by go_num, rfl, hol, HO2⟩
        case measure => simp [intOf]; omega
    · have e : l.take k = l := List.take_of_length_le (by rw [hlen.out]; omega)
      have hP : Hid (ofP l = (q, 0)) := by
        show _ = _
        have h1 := HO.out
        rw [e] at h1
        unfold ofP; rw [if_pos h1.1, h1.2]
      clear hr e
      go_wp2
      go_ret2
      rw [hP.out]
      exact ⟨rfl, rfl⟩
theorem Tryd.infoI : (Tryd.prog.info? 3).map (fun i => (i.zero, i.size, i.bytes)) = some (some (.int .i64 0), 1, 8) := by kernel_rfl
theorem ints_app (a b : List Int) : ints (a ++ b) = ints a ++ ints b := by simp [ints]
theorem ints_1 (l : List Int) : ∀ u ∈ ints l, u.oneCell' = true := by
  intro u hu
  simp only [ints, List.mem_map] at hu
  obtain ⟨x, _, rfl⟩ := hu
  rfl
theorem app_i {w : World} {ops : Array Oper} {rest : List Oper} {o : Oper} {a : Act} {Q : Exit → Act → World → Prop} {s x : Operand}
    (hgd : o.guard = none) (ho : o.op = .call { callee := .builtin .append, args := #[s, x], argTypes := #[22, 22] })
    (base : Nat) {v : Value} {n : Nat} {xs : List Int} (hs : a.eval s = v) (hown : Owns w base 3 1 v n (ints xs))
    {B : Nat} {A : Option Addr} {m c : Nat} {news : List Int} (hx : a.eval x = .slice A m c) (hr : Reads w B 1 A m (ints news))
    (hlen : n + m ≤ 1000000) (hbase : base ≤ w.heap.size)
    (h : ∀ v' w', Owns w' base 3 1 v' (n + m) (ints (xs ++ news)) → AppKeeps base v w w' → (v'.ownBlock = v.ownBlock ∨ v'.ownBlock = some w.heap.size) → wpList Tryd.prog ops Q rest (a.put o.dst v') w') : wpList Tryd.prog ops Q (o :: rest) a w :=
  wp_app hgd ho Tryd.underlying22 Tryd.infoI rfl (by omega) base hs hown hx hr (ints_1 _) (by simp only [maxLen]; omega) (by omega) hbase (fun v' w' h1 => h v' w' (by rw [ints_app]; exact h1))
def natI (l : List Nat) : List Int := l.map (fun (x : Nat) => (x : Int))
theorem natI_app (a b : List Nat) : natI (a ++ b) = natI a ++ natI b := by simp [natI]
/-- a call hands back numbers of its own -/
def RetNs (w : World) (l : List Nat) (e : Ending) (w' : World) : Prop :=
  ∃ v, e = .returned v ∧ Owns w' w.heap.size 3 1 v l.length (ints (natI l)) ∧ Below w.heap.size w w'
def memK (s k : Nat) : List Nat := (List.range k).filter (fun i => s.testBit i)
theorem memK_succ (s k : Nat) : memK s (k + 1) = memK s k ++ (if s.testBit k then [k] else []) := by
  unfold memK; rw [List.range_succ, List.filter_append]
  congr 1
  simp [List.filter_cons]
theorem memK_len (s k : Nat) : (memK s k).length ≤ k := by
  have := List.length_filter_le (fun i => s.testBit i) (List.range k)
  unfold memK; simpa using this
set_option maxHeartbeats 1000000 in
theorem list09_any (s : Nat) (w : World) (hs : s < M64) : Calls Tryd.prog 13 #[.int .u64 s] w (RetNs w (memL s)) := by
  go_enter Tryd.func13, Tryd.ntmps13
  go_wp2
  go_loopw [3, 5] (fun o i wr => ∃ k : Nat, k ≤ 64 ∧ i = .int .i64 k ∧ Owns wr w.heap.size 3 1 o (memK s k).length (ints (natI (memK s k))) ∧ Below w.heap.size w wr) (fun _ i _ => 64 - (intOf i).toNat)
  case atStart => exact ⟨0, Nat.zero_le _, rfl, Owns.nil, Below.refl _ _⟩
  case round =>
    obtain ⟨k, hk, rfl, hown, hbr⟩ := hrel
    have hsz := hbr.size
    by_cases hlt : k < 64
    · have hc := Lib.hid (fun v => one_any k v hlt)
      have hand := and64 hs (pow_lt hlt)
      have hz := and_pow (s := s) (n := k)
      have hst := memK_succ s k
      have hkl := memK_len s k
      obtain ⟨p, hp⟩ : ∃ p : Nat, Hid (2 ^ k = p) := ⟨2 ^ k, rfl⟩
      rw [hp.out] at hc hand hz
      obtain ⟨u, hu⟩ : ∃ u : Nat, Hid (s &&& p = u) := ⟨s &&& p, rfl⟩
      rw [hu.out] at hand hz
      obtain ⟨L, hL⟩ : ∃ L, Hid (memK s k = L) := ⟨_, rfl⟩
      rw [hL.out] at hown hst hkl
      cases hb : s.testBit k with
      | true =>
        have t2 : ((u : Int) != 0) = true := by
          have : u ≠ 0 := fun e => by have := hz.1 e; rw [hb] at this; cases this
          simp; omega
        rw [hb, if_pos rfl] at hst
        have Hst := Lib.hid hst
        have hO := Lib.hid hown
        clear hz hb hst hown
        go_wp2_with (first
          | (go_at_call 27; refine (hc.out _).mono ?_; rintro e w' ⟨rfl, rfl⟩)
          | (at_builtin; refine app_i rfl rfl w.heap.size rfl (hO.out.alloc _) (news := [(k : Int)]) rfl (Reads.made wr [Value.int .i64 (k : Int)] _) (by omega) (by simp only [World.size_alloc]; omega) ?_))
        intro v4 w4 o4 k4 _
        have kb4 := k4.below (hbr.alloc hsz _) (Nat.le_refl _) (by simp only [World.size_alloc]; omega)
        have o5 : Owns w4 w.heap.size 3 1 v4 (memK s (k + 1)).length (ints (natI (memK s (k + 1)))) := by
          rw [Hst.out, natI_app, List.length_append]; exact o4
        have O5 := Lib.hid o5
        clear k4 o4 o5
        go_wp2
        go_roundw
        case rel => exact ⟨k + 1, by omega, by go_num, O5.out, kb4⟩
        case measure => simp [intOf]; omega
      | false =>
        have t2 : ((u : Int) != 0) = false := by
          have := hz.2 hb
          simp; omega
        rw [hb, if_neg (by simp), List.append_nil] at hst
        have Hst := Lib.hid hst
        have hO := Lib.hid hown
        clear hz hb hst hown
        go_wp2_with (go_at_call 27; refine (hc.out _).mono ?_; rintro e w' ⟨rfl, rfl⟩)
        go_roundw
        case rel => exact ⟨k + 1, by omega, by go_num, by rw [Hst.out]; exact hO.out, hbr⟩
        case measure => simp [intOf]; omega
    · obtain rfl : k = 64 := by omega
      go_wp2
      go_ret
      exact ⟨_, rfl, hown, hbr⟩
end Go.Proofs.YtplneobjdpdlhaaDoor
