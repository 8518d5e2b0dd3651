/- Layer 5: the tokens of a line. -/
import Derived.Test.YtenonfoocjcdmaaDoorLexW9
namespace Go.Proofs.YtenonfoocjcdmaaDoor
set_option linter.unusedVariables false
open Go.RowKit
theorem Tryd.infoR : (Tryd.prog.info? 21).map (fun i => (i.zero, i.size, i.bytes)) = some (some (.int .i32 0), 1, 4) := by kernel_rfl
theorem Tryd.infoT : (Tryd.prog.info? 42).map (fun i => (i.zero, i.size, i.bytes)) = some (some (.agg #[.int .i64 0, .string ⟨#[]⟩, .int .i64 0, .int .i64 0]), 4, 40) := by kernel_rfl
def rcs (l : List Nat) : List Value := l.map (fun r : Nat => Value.int .i32 (r : Int))
theorem rcs_one (l : List Nat) : ∀ u ∈ rcs l, u.oneCell' = true := by
  intro u hu
  simp only [rcs, List.mem_map] at hu
  obtain ⟨x, _, rfl⟩ := hu
  rfl
theorem rcs_app (a b : List Nat) : rcs (a ++ b) = rcs a ++ rcs b := by simp [rcs]
theorem tkC_one (t : Tk) : ∀ v ∈ tkC t, v.oneCell' = true := by
  intro v hv
  simp only [tkC, List.mem_cons, List.not_mem_nil, or_false] at hv
  rcases hv with rfl | rfl | rfl | rfl <;> rfl
theorem AppKeeps.kb {base : Nat} {v : Value} {w w' : World} (h : AppKeeps base v w w') : Kb (fun b => base ≤ b) w w' := by
  obtain ⟨row, hg, hr⟩ := h
  exact ⟨hg.os, hg.tape, hg.output, hg.size, fun b hb hn => hg.block b hb (fun e => hn (hr _ e.symm).2)⟩
theorem app_r {w : World} {ops : Array Oper} {rest : List Oper} {o : Oper} {a : Act} {Q : Exit → Act → World → Prop} {s x : Operand}
    (hgd : o.guard = none) (ho : o.op = .call { callee := .builtin .append, args := #[s, x], argTypes := #[87, 87] })
    (base : Nat) {v : Value} {n : Nat} {xs : List Nat} (hs : a.eval s = v) (hown : Owns w base 21 1 v n (rcs xs))
    {B : Nat} {A : Option Addr} {m c : Nat} {news : List Nat} (hx : a.eval x = .slice A m c) (hr : Reads w B 1 A m (rcs news))
    (hlen : n + m ≤ 1000000) (hbase : base ≤ w.heap.size)
    (h : ∀ v' w', Owns w' base 21 1 v' (n + m) (rcs (xs ++ news)) → AppKeeps base v w w' → (v'.ownBlock = v.ownBlock ∨ v'.ownBlock = some w.heap.size) → wpList Tryd.prog ops Q rest (a.put o.dst v') w') : wpList Tryd.prog ops Q (o :: rest) a w :=
  wp_app hgd ho Tryd.underlying87 Tryd.infoR rfl (by omega) base hs hown hx hr (rcs_one _) (by simp only [maxLen]; omega) (by omega) hbase (fun v' w' h1 => h v' w' (by rw [rcs_app]; exact h1))
theorem app_t {w : World} {ops : Array Oper} {rest : List Oper} {o : Oper} {a : Act} {Q : Exit → Act → World → Prop} {s x : Operand}
    (hgd : o.guard = none) (ho : o.op = .call { callee := .builtin .append, args := #[s, x], argTypes := #[34, 34] })
    (base : Nat) {v : Value} {n : Nat} {xs : List Tk} (hs : a.eval s = v) (hown : Owns w base 42 4 v n (recs tkC xs))
    {B : Nat} {A : Option Addr} {m c : Nat} {news : List Tk} (hx : a.eval x = .slice A m c) (hr : Reads w B 4 A m (recs tkC news))
    (hlen : n + m ≤ 1000000) (hbase : base ≤ w.heap.size)
    (h : ∀ v' w', Owns w' base 42 4 v' (n + m) (recs tkC (xs ++ news)) → AppKeeps base v w w' → (v'.ownBlock = v.ownBlock ∨ v'.ownBlock = some w.heap.size) → wpList Tryd.prog ops Q rest (a.put o.dst v') w') : wpList Tryd.prog ops Q (o :: rest) a w :=
  wp_app hgd ho Tryd.underlying34 Tryd.infoT rfl (by omega) base hs hown hx hr (recs_one tkC_one _) (by simp only [maxLen]; omega) (by omega) hbase (fun v' w' h1 => h v' w' (by rw [recs_append]; exact h1))
/-- a call hands back tokens, and two numbers -/
def RetTok (w : World) (r : List Tk × Int × Int) (en : Ending) (w' : World) : Prop :=
  ∃ v, en = .returned (.tuple #[v, .int .i64 r.2.1, .int .i64 r.2.2]) ∧ Owns w' w.heap.size 42 4 v r.1.length (recs tkC r.1) ∧ Below w.heap.size w w'
def tokP (s : ByteArray) : List Tk × Int × Int :=
  if 400 < s.size then ([], 0, 3) else match lexP (runes (bl s)) with
  | .inl ts => (ts, ((runes (bl s)).length : Int), 0)
  | .inr (a, er) => ([], (a : Int), er)
def rdr0 (v : Value) : Obj := .cells #[v, .int .i64 0, .int .i64 0, .int .i64 0] 89 (0, 0)
theorem take_snoc {l : List Nat} {k r : Nat} (h : l[k]? = some r) : l.take (k + 1) = l.take k ++ [r] := by rw [List.take_add_one, h]; rfl
/-- how far the lexer has come: a fault counts as the end -/
def lexMeas (n R : Nat) (w : World) : Nat := match w.cell? ⟨R, 3, none⟩ with | some (.int _ 0) => n + 1 - placeOf w R | _ => 0
theorem rd_of {w : World} {R n c B : Nat} {A : Option Addr} {rs : List Nat} (hb : w.heap[R]? = some (rdr0 (.slice A n c))) (ho : Owns w B 21 1 (.slice A n c) n (rcs rs)) (hB : R < B) : Rd w R A n c rs 0 0 0 := by
  have hl : rs.length = n := by have := ho.len; simp [rcs] at this; omega
  obtain ⟨A', c', e, h1, h2⟩ := ho.slice
  injection e with e1 e2 e3
  subst e1; subst e3
  refine ⟨hb, hl, h1, fun hn => ?_⟩
  obtain ⟨g, c2, e, hg, hlt, _, _, hc, _⟩ := ho.at_ hn
  injection e with e1 e2 e3
  refine ⟨g, e1, by omega, fun j r hr => hc j _ ?_⟩
  simp [rcs, hr]
theorem nextP_at {rs : List Nat} {i m : Nat} {t : Tk} (h : nextP rs i = .inl (t, m)) : t.at_ = (i : Int) := by
  unfold nextP countP textP at h
  repeat' split at h
  all_goals first | (injection h with h; injection h with h _; subst h; rfl) | cases h
theorem nextP_err {rs : List Nat} {i a : Nat} {er : Int} (h : nextP rs i = .inr (a, er)) : er ≠ 0 := by
  unfold nextP countP textP at h
  repeat' split at h
  all_goals first | (injection h with h; injection h with _ h; subst h; decide) | cases h
theorem NextIs.split {R n c : Nat} {A : Option Addr} {rs : List Nat} {bad : Int} {w : World} {r : (Tk × Nat) ⊕ (Nat × Int)} {e : Ending} {w' : World} (h : NextIs R n c A rs bad w r e w') :
    ∃ t : Tk, e = .returned (tkV t) ∧ Kb (· = R) w w' ∧ ((∃ (m : Nat) (tt : Tk), r = .inl (tt, m) ∧ t = ⟨tt.kind, tt.text, tt.num, 0⟩ ∧ Rd w' R A n c rs m bad 0) ∨ (∃ (a : Nat) (er : Int) (k : Nat), r = .inr (a, er) ∧ Rd w' R A n c rs k a er)) := by
  unfold NextIs at h
  rcases r with ⟨t, m⟩ | ⟨a, er⟩
  · obtain ⟨rfl, h1, h2⟩ := h
    exact ⟨_, rfl, h2, .inl ⟨m, t, rfl, rfl, h1⟩⟩
  · obtain ⟨⟨t, rfl⟩, ⟨k, h1⟩, h2⟩ := h
    exact ⟨t, rfl, h2, .inr ⟨a, er, k, rfl, h1⟩⟩
/-- what holds ahead of each token -/
def LexInv (R n c : Nat) (A : Option Addr) (rs : List Nat) (C g B2 : Nat) (w : World) (o : Value) (wr : World) : Prop :=
  OfAt [1] C g wr ∧ Below w.heap.size w wr ∧ B2 ≤ wr.heap.size ∧
  ((∃ (k f : Nat) (acc : List Tk), k ≤ n ∧ n - k < f ∧ acc.length ≤ k ∧ Owns wr B2 42 4 o acc.length (recs tkC acc) ∧ Rd wr R A n c rs k 0 0 ∧ lexF f rs k acc = lexP rs)
   ∨ (∃ (k a : Nat) (er : Int), er ≠ 0 ∧ Rd wr R A n c rs k a er ∧ lexP rs = .inr (a, er)))
theorem lexMeas_ok {n R k : Nat} {w : World} (h3 : w.cell? ⟨R, 3, none⟩ = some (.int .i64 0)) (h1 : w.cell? ⟨R, 1, none⟩ = some (.int .i64 (k : Int))) : lexMeas n R w = n + 1 - k := by
  unfold lexMeas; rw [h3]; simp [placeOf_eq h1]
theorem lexMeas_bad {n R : Nat} {w : World} {er : Int} (he : er ≠ 0) (h3 : w.cell? ⟨R, 3, none⟩ = some (.int .i64 er)) : lexMeas n R w = 0 := by
  unfold lexMeas; rw [h3]
  split
  · rename_i h; injection h with h; injection h with _ h; exact absurd h he
  · rfl
theorem tok_made (w3 : World) (o : Obj) (t : Tk) : Reads ((w3.alloc o).alloc (.cells #[.int .i64 t.kind, .string t.text, .int .i64 t.num, .int .i64 t.at_] 42)) (w3.heap.size + 2) 4 (some ⟨w3.heap.size + 1, 0, none⟩) 1 (recs tkC [t]) := by
  have h := Reads.madeRec (enc := tkC) (size := 4) (w3.alloc o) t 42 rfl
  simpa [tkC] using h
set_option maxHeartbeats 1000000 in
theorem tokens_big (s : ByteArray) (w : World) (h : 400 < s.size) : Calls Tryd.prog 18 #[.string s] w (RetTok w (tokP s)) := by
  have t1 : decide ((400 : Int) < (s.size : Int)) = true := by simp; omega
  have hP : Hid (tokP s = ([], 0, 3)) := by show _ = _; unfold tokP; rw [if_pos h]
  clear h
  go_enter Tryd.func18, Tryd.ntmps18
  go_wp2
  go_ret3
  rw [hP.out]
  exact ⟨_, rfl, Owns.nil, Below.refl _ _⟩
set_option maxHeartbeats 2000000 in
theorem tokens_any (s : ByteArray) (w : World) : Calls Tryd.prog 18 #[.string s] w (RetTok w (tokP s)) := by
  rcases Nat.lt_or_ge 400 s.size with h | h
  · exact tokens_big s w h
  have t1 : decide ((400 : Int) < (s.size : Int)) = false := by simp; omega
  have hP : Hid (tokP s = match lexP (runes (bl s)) with | .inl ts => (ts, ((runes (bl s)).length : Int), 0) | .inr (a, er) => ([], (a : Int), er)) := by show _ = _; unfold tokP; rw [if_neg (by omega)]
  have hrl := runes_size s
  have hrn : (runes (bl s)).length ≤ 400 := by omega
  obtain ⟨rs, hrs⟩ : ∃ rs, Hid (runes (bl s) = rs) := ⟨_, rfl⟩
  rw [hrs.out] at hP hrn
  have hB0 : Hid (Below w.heap.size w ((w.alloc (rdr0 (.slice none 0 0))).iter s 0)) := by
    have h1 := (Below.refl _ w).alloc (Nat.le_refl _) (rdr0 (.slice none 0 0))
    exact h1.alloc (by simp) _
  have hblk0 : Hid (((w.alloc (rdr0 (.slice none 0 0))).iter s 0).heap[w.heap.size]? = some (rdr0 (.slice none 0 0))) := by
    show _ = _
    rw [show ((w.alloc (rdr0 (.slice none 0 0))).iter s 0) = (w.alloc (rdr0 (.slice none 0 0))).alloc (.stringIter s 0) from rfl, Below.heap_alloc _ _ _ (by simp)]
    exact heap_alloc_new w _
  clear hrl
  go_enter Tryd.func18, Tryd.ntmps18
  go_wp2_with fail
  go_loopw [] (fun wr => ∃ (k : Nat) (v : Value), k ≤ rs.length ∧ wr.heap[w.heap.size + 1]? = some (.stringIter s (posN k (bl s))) ∧ wr.heap[w.heap.size]? = some (rdr0 v) ∧ Owns wr (w.heap.size + 2) 21 1 v k (rcs (rs.take k)) ∧ Below w.heap.size w wr) (fun wr => (bl s).length - wr.iterPos (w.heap.size + 1))
  case atStart =>
    have hi := iter_start (w.alloc (rdr0 (.slice none 0 0))) s
    simp only [World.size_alloc] at hi
    exact ⟨0, _, Nat.zero_le _, hi, hblk0.out, by simpa [rcs] using Owns.nil, hB0.out⟩
  case round =>
    obtain ⟨k, v, hk, hit, hblk, hown, hb⟩ := hrel
    obtain ⟨A, c, rfl, hkc, hcm⟩ := hown.slice
    have hsz : w.heap.size + 2 ≤ wr.heap.size := by have := (Array.getElem?_eq_some_iff.1 hit).1; omega
    by_cases hlt : k < rs.length
    · obtain ⟨r, hr, hrm, hnx⟩ := next_rune wr _ s k (by rw [hrs.out]; exact hlt) hit
      rw [hrs.out] at hr
      have hit2 := Lib.hid (Lib.iterAt_heap wr _ s _ (posN (k + 1) (bl s)) hit)
      have hb2 := Lib.hid (Lib.below_iterAt hb (k := w.heap.size + 1) (by omega) s (posN (k + 1) (bl s)))
      have hpm := pos_mono k (l := bl s) (by rw [hrs.out]; exact hlt)
      have hpl := pos_le (k + 1) (l := bl s) (by rw [hrs.out]; omega)
      have hblk2 : Hid ((wr.iterAt (w.heap.size + 1) s (posN (k + 1) (bl s))).heap[w.heap.size]? = some (rdr0 (.slice A k c))) := (Lib.iterAt_other _ _ _ _ _ (by omega)).trans hblk
      have hown2 : Hid (Owns (wr.iterAt (w.heap.size + 1) s (posN (k + 1) (bl s))) (w.heap.size + 2) 21 1 (.slice A k c) k (rcs (rs.take k))) := hown.keep (fun g _ hg _ => Lib.iterAt_other _ _ _ _ _ (by omega))
      have hsz2 : (wr.iterAt (w.heap.size + 1) s (posN (k + 1) (bl s))).heap.size = wr.heap.size := by simp [World.iterAt]
      have hitp := Lib.hid hit
      clear hit hown hb
      obtain ⟨w1, hw1⟩ : ∃ w1, wr.iterAt (w.heap.size + 1) s (posN (k + 1) (bl s)) = w1 := ⟨_, rfl⟩
      rw [hw1] at hnx hit2 hb2 hblk2 hown2 hsz2
      have hsz3 : w.heap.size + 2 ≤ w1.heap.size := by omega
      clear hsz2
      have d0 : w1.cell? ⟨w.heap.size, 0, none⟩ = some (.slice A k c) := by have := hblk2.out; simp [World.cell?, this, rdr0]
      have hR1 : w.heap.size < w1.heap.size := by omega
      have hr1 : Hid (Reads (w1.alloc (.cells #[.int .i32 (r : Int)] 21)) (w1.heap.size + 1) 1 (some ⟨w1.heap.size, 0, none⟩) 1 (rcs [r])) := Reads.made w1 (rcs [r]) _
      have hs1 : w.heap.size + 2 ≤ (w1.alloc (.cells #[.int .i32 (r : Int)] 21)).heap.size := by simp; omega
      have ho1 := Lib.hid (hown2.out.alloc (.cells #[.int .i32 (r : Int)] 21))
      go_wp2_with (at_builtin; refine app_r rfl rfl (w.heap.size + 2) rfl ho1.out rfl hr1.out (by omega) hs1 ?_)
      intro v' w3 o3 k3 _
      have kb3 := k3.kb
      have hblk3 : w3.heap[w.heap.size]? = some (rdr0 (.slice A k c)) := (kb3.block _ (by simp; omega) (by omega)).trans ((Below.heap_alloc _ _ _ hR1).trans hblk2.out)
      have hit3 : Hid (w3.heap[w.heap.size + 1]? = some (.stringIter s (posN (k + 1) (bl s)))) := (kb3.block _ (by simp; omega) (by omega)).trans ((Below.heap_alloc _ _ _ (by omega)).trans hit2.out)
      have hb3 := Lib.hid (k3.below (hb2.out.alloc (by omega) _) (by omega) (by simp; omega))
      have e0 : w3.cell? ⟨w.heap.size, 0, none⟩ = some (.slice A k c) := by simp [World.cell?, hblk3, rdr0]
      have f0 : w3.frozen? ⟨w.heap.size, 0, none⟩ = false := by simp [World.frozen?, hblk3, rdr0]
      obtain ⟨A3, c3, rfl, hkc3, hcm3⟩ := o3.slice
      replace hblk3 := Lib.hid hblk3
      replace o3 := Lib.hid o3
      clear d0 kb3 k3 hblk2 hown2 hit2 hb2 hblk
      go_wp2
      go_roundw
      case rel =>
        refine ⟨k + 1, .slice A3 (k + 1) c3, by omega, ?_, ?_, ?_, ?_⟩
        · rw [Below.heap_setCell _ _ _ _ (by show w.heap.size + 1 ≠ w.heap.size; omega)]; exact hit3.out
        · simp [World.setCell, Array.getElem?_modify, hblk3.out, rdr0]
        · rw [take_snoc hr.out]
          exact o3.out.setBelow (p := ⟨w.heap.size, 0, none⟩) (by show w.heap.size < _; omega) _
        · exact hb3.out.setCell (p := ⟨w.heap.size, 0, none⟩) (Nat.le_refl _) _
      case measure =>
        have h2 : (w3.setCell ⟨w.heap.size, 0, none⟩ (.slice A3 (k + 1) c3)).heap[w.heap.size + 1]? = some (.stringIter s (posN (k + 1) (bl s))) := by
          rw [Below.heap_setCell _ _ _ _ (by show w.heap.size + 1 ≠ w.heap.size; omega)]; exact hit3.out
        simp only [World.iterPos, h2, hitp.out]; omega
    · obtain rfl : k = rs.length := by omega
      obtain ⟨wq, hwq⟩ : ∃ wq, wq = wr := ⟨_, rfl⟩
      subst hwq
      have hnx := next_end wq _ s _ (by rw [hrs.out]) hit
      rw [List.take_length] at hown
      have hrd := rd_of hblk hown (by omega)
      have hb1 : Below wq.heap.size wq ((wq.alloc (.cells #[.int .i64 1] 3)).alloc (.cells #[.slice (some ⟨wq.heap.size, 0, none⟩) 1 1] 64)) := ((Below.refl _ wq).alloc (Nat.le_refl _) _).alloc (by simp) _
      have hof : OfAt [1] (wq.heap.size + 1) wq.heap.size ((wq.alloc (.cells #[.int .i64 1] 3)).alloc (.cells #[.slice (some ⟨wq.heap.size, 0, none⟩) 1 1] 64)) := by
        refine ⟨?_, ?_⟩
        · have h := heap_alloc_new (wq.alloc (.cells #[.int .i64 1] 3)) (.cells #[.slice (some ⟨wq.heap.size, 0, none⟩) 1 1] 64)
          simpa using h
        · rw [Below.heap_alloc _ _ _ (by simp)]
          exact heap_alloc_new wq _
      have hz0 : ((wq.alloc (.cells #[.int .i64 1] 3)).alloc (.cells #[.slice (some ⟨wq.heap.size, 0, none⟩) 1 1] 64)).heap.size = wq.heap.size + 2 := by simp
      have hrd0 := hrd.below hb1
      have hbw : Below w.heap.size w ((wq.alloc (.cells #[.int .i64 1] 3)).alloc (.cells #[.slice (some ⟨wq.heap.size, 0, none⟩) 1 1] 64)) := hb.trans (hb1.mono (by omega))
      clear hrd hit hblk hown hb hb1 hkc
      obtain ⟨W0, hW0⟩ : ∃ W0, Hid ((wq.alloc (.cells #[.int .i64 1] 3)).alloc (.cells #[.slice (some ⟨wq.heap.size, 0, none⟩) 1 1] 64) = W0) := ⟨_, rfl⟩
      rw [hW0.out] at hof hrd0 hz0 hbw
      replace hz0 := Lib.hid hz0
      replace hof := Lib.hid hof
      replace hrd0 := Lib.hid hrd0
      replace hbw := Lib.hid hbw
      go_wp2_with (go_at_call 48; refine (of_any _ _ _ _).mono ?_; rintro e w1 ⟨rfl, rfl⟩)
      go_loopw [9] (LexInv w.heap.size rs.length c A rs (wq.heap.size + 1) wq.heap.size W0.heap.size w) (fun _ wr => lexMeas rs.length w.heap.size wr)
      case atStart =>
        rw [hW0.out]
        exact ⟨hof.out, hbw.out, Nat.le_refl _, .inl ⟨0, rs.length + 1, [], Nat.zero_le _, by omega, Nat.le_refl _, Owns.nil, hrd0.out, rfl⟩⟩
      case round =>
        obtain ⟨hofr, hbr, hB2, hcase⟩ := hrel
        have hRB : w.heap.size < W0.heap.size := by have := hrd0.out.lt; omega
        have hz := hz0.out
        rcases hcase with ⟨k, f, acc, hkn, hf, hacc, hown, hrd, hlx⟩ | ⟨k, a, er, hne, hrd, hlx⟩
        case inr =>
          have hP2 : Hid (tokP s = ([], (a : Int), er)) := by show _ = _; rw [hP.out, hlx]
          have d2 := hrd.c2
          have d3 := hrd.c3
          have te : (er == 0) = false := by simpa using hne
          have hR := hrd.lt
          clear hrd hofr hlx hnx hz
          go_wp2_with fail
          go_upto_region 18 with (fail)
          go_quiet (fail)
          go_wp2
          go_ret3
          rw [hP2.out]
          exact ⟨_, rfl, Owns.nil, below_drewN hbr _⟩
        case inl =>
          have d3 := hrd.c3
          have hbl := Lib.hid (blanks_any w.heap.size rs.length c A rs k 0 0 (wq.heap.size + 1) wq.heap.size wr (by omega) (by omega) hrd hofr hkn (by omega) hcm)
          have hRD := Lib.hid hrd
          have hsk := skip_le (rs := rs) (i := k) hkn
          obtain ⟨m, hm⟩ : ∃ m, Hid (skipR rs k = m) := ⟨_, rfl⟩
          rw [hm.out] at hbl hsk
          obtain ⟨hkm, hmn⟩ := hsk
          by_cases hend : m = rs.length
          · subst hend
            have hP2 : Hid (tokP s = (acc, (rs.length : Int), 0)) := by show _ = _; rw [hP.out, ← hlx, lexF_end hm.out]
            clear hnx hz hlx hofr hrd
            go_wp2_with (go_at_call 49; refine Calls.mono hbl.out ?_; rintro e w2 ⟨⟨sx, rfl⟩, hr2, ho2, hk2⟩; have c20 := hr2.c0; have c21 := hr2.c1; have c2r := hr2.lt; replace hr2 := Lib.hid hr2; replace ho2 := Lib.hid ho2; replace hk2 := Lib.hid hk2)
            go_upto_region 12 with (fail)
            go_quiet (fail)
            go_upto_region 13 with (fail)
            go_quiet (fail)
            go_wp2
            go_ret3
            rw [hP2.out]
            exact ⟨_, rfl, ((hown.keep (fun g _ hg hlt => hk2.out.block g hlt (by omega))).mono (by omega)).drewN _ |>.drewN _, below_drewN (below_drewN (Kb.below_ hbr hk2.out (fun b hb => by omega) (by omega)) _) _⟩
          · obtain ⟨x, hx⟩ : ∃ x, Hid (rs[m]? = some x) := ⟨_, List.getElem?_eq_getElem (by omega)⟩
            have tmn : ((m : Int) == (rs.length : Int)) = false := by simp; omega
            clear hnx hz hofr hrd
            go_wp2_with (go_at_call 49; refine Calls.mono hbl.out ?_; rintro e w2 ⟨⟨sx, rfl⟩, hr2, ho2, hk2⟩; have c20 := hr2.c0; have c21 := hr2.c1; have c2r := hr2.lt; replace hr2 := Lib.hid hr2; replace ho2 := Lib.hid ho2; replace hk2 := Lib.hid hk2)
            go_upto_region 12 with (fail)
            go_quiet (fail)
            go_wp2_with (first
              | (go_at_call 50; refine (next_any _ _ _ _ _ m x 0 _ (hr2.out.drewN _) hx.out (by omega) hcm).mono ?_; rintro e w3 h3; obtain ⟨t, rfl, hk3, hc3⟩ := h3.split; clear h3; have hz3 : W0.heap.size ≤ w3.heap.size := (by have h1 := hk3.size; have h2 := hk2.out.size; dsimp only [World.drewN] at h1; omega); have ho3 := Lib.hid (((hown.keep (fun g _ hg hlt => hk2.out.block g hlt (by omega))).drewN _).keep (w' := w3) (fun g _ hg hlt => hk3.block g hlt (by omega))); replace hk3 := Lib.hid hk3; replace hc3 := Lib.hid hc3; unfold tkV)
              | (at_builtin; refine app_t rfl rfl W0.heap.size rfl ((ho3.out.alloc _).alloc _) rfl (tok_made w3 _ ⟨t.kind, t.text, t.num, (m : Int)⟩) (by omega) (by simp only [World.size_alloc]; omega) ?_))
            intro v4 w4 o4 k4 _
            have kb4 : Hid (Kb (fun b => W0.heap.size ≤ b) w3 w4) := (((Kb.refl _ w3).alloc _).alloc _).trans k4.kb
            replace o4 := Lib.hid o4
            clear k4
            go_wp2
            have hofe : OfAt [1] (wq.heap.size + 1) wq.heap.size w4 := ((ho2.out.kb ((Kb.refl (fun _ => False) w2).drewN _) id id).kb hk3.out (by omega) (by omega)).kb kb4.out (by have := hz0.out; omega) (by have := hz0.out; omega)
            have hbe : Below w.heap.size w w4 := Kb.below_ (Kb.below_ (below_drewN (Kb.below_ hbr hk2.out (fun b hb => by omega) (by omega)) _) hk3.out (fun b hb => by omega) (by have := hk2.out.size; dsimp only [World.drewN]; omega)) kb4.out (fun b hb => by omega) (by omega)
            have hse : W0.heap.size ≤ w4.heap.size := by have := kb4.out.size; omega
            have hmr : skipR rs k ≠ rs.length := by rw [hm.out]; exact hend
            obtain ⟨f', rfl⟩ : ∃ f', f = f' + 1 := ⟨f - 1, by omega⟩
            rcases hc3.out with ⟨m', tt, hnp, ht, hrd3⟩ | ⟨a, er, k', hnp, hrd3⟩
            · have hrd4 := hrd0.out.keepNew hrd3 kb4.out
              have haft := nextP_after (rs := rs) (i := m) (by omega) hnp
              have hat := nextP_at hnp
              have htt : (⟨t.kind, t.text, t.num, (m : Int)⟩ : Tk) = tt := by rw [ht, ← hat]
              have o5 := o4.out
              rw [htt] at o5
              have hstep := lexF_step (f := f') (acc := acc) hmr (by rw [hm.out]; exact hnp)
              go_roundw
              case rel => exact ⟨hofe, hbe, hse, .inl ⟨m', f', acc ++ [tt], haft.2, by omega, by simp; omega, by simpa using o5, hrd4, by rw [← hlx, hstep]⟩⟩
              case measure => rw [lexMeas_ok hrd4.c3 hrd4.c1, lexMeas_ok hRD.out.c3 hRD.out.c1]; omega
            · have hrd4 := hrd0.out.keepNew hrd3 kb4.out
              have hstep := lexF_bad (f := f') (acc := acc) hmr (by rw [hm.out]; exact hnp)
              go_roundw
              case rel => exact ⟨hofe, hbe, hse, .inr ⟨k', a, er, nextP_err hnp, hrd4, by rw [← hlx, hstep]⟩⟩
              case measure => rw [lexMeas_bad (nextP_err hnp) hrd4.c3, lexMeas_ok hRD.out.c3 hRD.out.c1]; omega
end Go.Proofs.YtenonfoocjcdmaaDoor
