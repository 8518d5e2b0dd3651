/- Layer 8: Parse walked. -/
import Derived.Test.YtjmhaoplablmnaaGreatDoorP7s
import Derived.Test.YtjmhaoplablmnaaGreatDoorCpCs
import Derived.StillTailTactics
namespace Go.Proofs.YtjmhaoplablmnaaGreatDoor
set_option linter.unusedVariables false
set_option linter.unusedSimpArgs false
open Go.RowKit
theorem load_row_g8 {P : Program} {ops : Array Oper} {rest : List Oper} {o : Oper} {a : Act} {w : World} {Q : Exit → Act → World → Prop} (hgd : Region.wanted o (yielded ops a.tmps) = true) (ty : TypeId) (x : Operand) (ho : o.op = .load ty x)
    (g : Nat) (hx : a.eval x = .pointer (some ⟨g, 0, none⟩)) (t : TypeId) (cs : Array Value) (fr : Nat × Nat) (d : TypeDesc) (hg : w.heap[g]? = some (.cells cs t fr))
    (hu : P.underlying ty = some d) (hd : (match d with | .struct _ | .array _ _ => true | _ => false) = true) (hi : (P.info? ty).map (·.size) = some cs.size)
    (h : wpList P ops Q rest (a.put o.dst (.agg cs)) w) : wpList P ops Q (o :: rest) a w :=
  wpList_step fun _ hK => by rw [if_pos hgd]; exact wp_load_row ty x ho g hx t cs fr d hg hu hd hi (hK _ _ h)
theorem keepR8 {v : World} {T R k : Nat} {cs : Array Value} {u : Value} (h : T ≠ R) (hc : v.cell? ⟨R, k, none⟩ = some u) : (v.setRow T cs).cell? ⟨R, k, none⟩ = some u :=
  (World.cell?_of_block (a := ⟨R, k, none⟩) (Go.setRow_other v T R cs (Ne.symm h))).trans hc
def lenOf8 : Value → Nat | .slice _ n _ => n | _ => 0
theorem CmO.at {w : World} {C Bo : Nat} {x : Cm} {A : Option Addr} {c : Nat} {A2 : Option Addr} {c2 : Nat} (h : CmO w C Bo x A c A2 c2) (h1 : x.shape.alts.length ≤ 100000) (h2 : x.after.length ≤ 100000) : CmAt w w.heap.size x A c A2 c2 := by
  obtain ⟨_, _, e, q1, _⟩ := h.alts.slice
  obtain ⟨_, _, e2, q2, _⟩ := h.aft.slice
  injection e with _ _ e; injection e2 with _ _ e2
  exact ⟨h.alts.reads, h.aft.reads, h1, h2, by omega, by omega⟩
theorem CmO.blo {w w' : World} {C Bo : Nat} {x : Cm} {A : Option Addr} {c : Nat} {A2 : Option Addr} {c2 : Nat} (h : CmO w C Bo x A c A2 c2) (hb : Below w.heap.size w w') : CmO w' C Bo x A c A2 c2 :=
  ⟨(hb.block C (lt_of_block h.blk)).trans h.blk, h.alts.below hb, h.aft.below hb, h.lt, h.ne, ⟨fun a ha => Nat.lt_of_lt_of_le (h.lo.1 a ha) hb.size, fun a ha => Nat.lt_of_lt_of_le (h.lo.2 a ha) hb.size⟩, Nat.le_trans h.hi hb.size⟩
theorem CmO.row {w : World} {C Bo : Nat} {x : Cm} {A : Option Addr} {c : Nat} {A2 : Option Addr} {c2 : Nat} {T : Nat} (h : CmO w C Bo x A c A2 c2) (hT : T < C) (cs : Array Value) : CmO (w.setRow T cs) C Bo x A c A2 c2 := by
  have hk : Kb (· = T) w (w.setRow T cs) := ⟨rfl, rfl, rfl, by simp, fun k _ hn => Go.setRow_other w T k cs hn⟩
  have hC := h.lt
  exact ⟨(Go.setRow_other w T C cs (by omega)).trans h.blk, h.alts.kb hk (fun k e => by have e2 : k = T := e; omega), h.aft.kb hk (fun k e => by have e2 : k = T := e; omega), h.lt, h.ne, ⟨fun a ha => Nat.lt_of_lt_of_le (h.lo.1 a ha) hk.size, fun a ha => Nat.lt_of_lt_of_le (h.lo.2 a ha) hk.size⟩, Nat.le_trans h.hi hk.size⟩
set_option maxRecDepth 100000 in
theorem cparse_bad (s : ByteArray) (w : World) (er : Int) (he : (tokP s).2.2 = er) (h0 : er ≠ 0) : Calls Tryz.prog 15 #[.string s] w (RetCp w (cparseP s)) := by
  have htk := Lib.hid (fun v => tokens_any s v)
  have HV : Hid (cparseP s = (cm0, (tokP s).2.1, er)) := by show _ = _; unfold cparseP; rw [if_neg (by rw [he]; exact h0), he]
  obtain ⟨r, hr⟩ : ∃ r, tokP s = r := ⟨_, rfl⟩
  rw [hr] at htk HV he
  obtain ⟨ts, n, er'⟩ := r
  dsimp only at he htk HV
  subst he
  have t0 : (er' != 0) = true := by simpa using h0
  have hS := heap_alloc_new w (.cells (cmA cm0 none 0 none 0) 27)
  have S0 := Lib.hid hS
  have hs0 := lt_of_block hS
  have B0 := Lib.hid ((Below.refl w.heap.size w).alloc (Nat.le_refl _) (.cells (cmA cm0 none 0 none 0) 27))
  obtain ⟨W0, hW0⟩ : ∃ W0, Hid (w.alloc (.cells (cmA cm0 none 0 none 0) 27) = W0) := ⟨_, rfl⟩
  rw [hW0.out] at S0 B0 hs0
  obtain ⟨X, hX⟩ : ∃ X, cparseP s = X := ⟨_, rfl⟩
  rw [hX] at HV ⊢
  clear hr h0 hS hX
  go_enter Tryz.func15, Tryz.ntmps15
  go_wp2_with (fail)
  rw [show (Obj.cells #[.int .i64 0, .int .i64 0, .string ⟨#[]⟩, .string ⟨#[]⟩, .string ⟨#[]⟩, .int .i64 0, .slice none 0 0, .int .i64 0, .int .i64 0, .int .i64 0, .int .i64 0, .bool false, .int .i64 0, .bool false, .slice none 0 0, .int .i64 0, .int .i64 0, .int .i64 0] 27) = .cells (cmA cm0 none 0 none 0) 27 from rfl, hW0.out]
  refine (htk.out _).mono ?_; rintro e w1 ⟨v, rfl, ho, hb⟩
  have s1 := Lib.hid ((hb.block _ hs0).trans S0.out)
  have b1 := Lib.hid (bt B0.out hb)
  clear ho hb
  dsimp only
  go_wp2_with (refine wpList_store_row rfl 27 _ _ rfl w.heap.size (cmA cm0 none 0 none 0) rfl rfl 27 _ s1.out (by kernel_rfl) rfl (cmA_one _ _ _ _ _) ?_)
  (try simp only [Exit.inBlock, Exit.then])
  refine bodyPost_ret (results_cell2t rfl _ _ w.heap.size _ _ _ _ rfl (setRow_heap _ _ _ _ _ _ s1.out) Tryz.underlying27 rfl (by kernel_rfl)) rfl ?_
  rw [HV.out]
  exact ⟨none, 0, none, 0, rfl, ⟨Reads.none_, Reads.none_, Nat.zero_le _, Nat.zero_le _, Nat.le_refl _, Nat.le_refl _⟩, ⟨Nat.zero_le _, Nat.zero_le _, Nat.zero_le _⟩, below_row b1.out (Nat.le_refl _) _⟩
theorem badR_cm0 {w w' : World} {n e : Int} (h : Below w.heap.size w w') : RetCp w (cm0, n, e) (.returned (.tuple #[.agg (cmA cm0 none 0 none 0), .int .i64 n, .int .i64 e])) w' :=
  ⟨none, 0, none, 0, rfl, ⟨Reads.none_, Reads.none_, Nat.zero_le _, Nat.zero_le _, Nat.le_refl _, Nat.le_refl _⟩, ⟨Nat.zero_le _, Nat.zero_le _, Nat.zero_le _⟩, h⟩
set_option maxRecDepth 100000 in
set_option maxHeartbeats 8000000 in
theorem cparse_good (s : ByteArray) (w : World) (he : (tokP s).2.2 = 0) (hN : (tokP s).1.length ≤ 400) (hen : 0 ≤ (tokP s).2.1) (hsz : ∀ t ∈ (tokP s).1, t.text.size ≤ 100000) (hat : ∀ t ∈ (tokP s).1, 0 ≤ t.at_) :
    Calls Tryz.prog 15 #[.string s] w (RetCp w (cparseP s)) := by
  have htk := Lib.hid (fun v => tokens_any s v)
  have HV : Hid (cparseP s = readP (tokP s).1 (tokP s).2.1) := by show _ = _; unfold cparseP; rw [if_pos he]
  obtain ⟨r, hr⟩ : ∃ r, tokP s = r := ⟨_, rfl⟩
  rw [hr] at htk HV he hN hen hsz hat
  obtain ⟨ts, en, er'⟩ := r
  dsimp only at he htk HV hN hen hsz hat
  subst he
  have hS := heap_alloc_new w (.cells (cmA cm0 none 0 none 0) 27)
  have S0 := Lib.hid hS
  have hs0 := lt_of_block hS
  have B0 := Lib.hid ((Below.refl w.heap.size w).alloc (Nat.le_refl _) (.cells (cmA cm0 none 0 none 0) 27))
  obtain ⟨W0, hW0⟩ : ∃ W0, Hid (w.alloc (.cells (cmA cm0 none 0 none 0) 27) = W0) := ⟨_, rfl⟩
  rw [hW0.out] at S0 B0 hs0
  obtain ⟨X, hX⟩ : ∃ X, cparseP s = X := ⟨_, rfl⟩
  rw [hX] at HV ⊢
  have HN := Lib.hid hN
  have HEN := Lib.hid hen
  have HSZ := Lib.hid hsz
  have HAT := Lib.hid hat
  obtain ⟨n, hn⟩ : ∃ n, Hid (ts.length = n) := ⟨_, rfl⟩
  have hn400 : n ≤ 400 := by have := hn.out; omega
  clear hr hS hX hsz hat hN hen
  go_enter Tryz.func15, Tryz.ntmps15
  go_wp2_with (fail)
  rw [show (Obj.cells #[.int .i64 0, .int .i64 0, .string ⟨#[]⟩, .string ⟨#[]⟩, .string ⟨#[]⟩, .int .i64 0, .slice none 0 0, .int .i64 0, .int .i64 0, .int .i64 0, .int .i64 0, .bool false, .int .i64 0, .bool false, .slice none 0 0, .int .i64 0, .int .i64 0, .int .i64 0] 27) = .cells (cmA cm0 none 0 none 0) 27 from rfl, hW0.out]
  refine (htk.out _).mono ?_; rintro e w1 ⟨v, rfl, ho, hb⟩
  dsimp only at ho ⊢
  rw [hn.out] at ho
  obtain ⟨At, c0, rfl, hcap, hcm⟩ := ho.slice
  have s1 := (hb.block _ hs0).trans S0.out
  have b1 := bt B0.out hb
  have hR := heap_alloc_new w1 (.cells #[.slice At n c0, .int .i64 0, .int .i64 en, .int .i64 (-1)] 67)
  have s2 := (Below.heap_alloc w1 (.cells #[.slice At n c0, .int .i64 0, .int .i64 en, .int .i64 (-1)] 67) _ (lt_of_block s1)).trans s1
  have b2 := b1.alloc b1.size (.cells #[.slice At n c0, .int .i64 0, .int .i64 en, .int .i64 (-1)] 67)
  have rd2 := ho.reads.alloc (Nat.le_refl _) (.cells #[.slice At n c0, .int .i64 0, .int .i64 en, .int .i64 (-1)] 67)
  have hsR := lt_of_block s1
  obtain ⟨R, hRn⟩ : ∃ R, Hid (w1.heap.size = R) := ⟨_, rfl⟩
  obtain ⟨W2, hW2⟩ : ∃ W2, Hid (w1.alloc (.cells #[.slice At n c0, .int .i64 0, .int .i64 en, .int .i64 (-1)] 67) = W2) := ⟨_, rfl⟩
  rw [hW2.out] at hR s2 b2 rd2
  rw [hRn.out] at hR rd2 hsR
  have HRW : Hid (R < W2.heap.size) := lt_of_block hR
  have C2 : Cd W2 R R At n c0 ts en ⟨0, -1⟩ := ⟨hR, rd2, Nat.le_refl _, by omega, HSZ.out⟩
  have hhd := Lib.hid (chead_any R R n c0 At ts en ⟨0, -1⟩ W2 C2)
  have HH := Lib.hid (headP_nil ts en ⟨0, -1⟩)
  have HHS := Lib.hid (headP_sz (en := en) HSZ.out ⟨0, -1⟩)
  obtain ⟨h0, hh0⟩ : ∃ h0, Hid (headP ts en ⟨0, -1⟩ = h0) := ⟨_, rfl⟩
  rw [hh0.out] at hhd HH HHS
  obtain ⟨x0, r0⟩ := h0
  dsimp only at hhd HH HHS
  have S2 := Lib.hid s2
  have B2 := Lib.hid b2
  clear ho hb s1 b1 hR s2 b2 rd2 C2 hcap hcm
  go_wp2_with (fail)
  rw [hRn.out]
  rw [hW2.out]
  refine hhd.out.mono ?_; rintro e w3 ⟨rfl, h3, k3⟩
  have hlC := h3.lt
  have s3 := (k3.block _ (lt_of_block S2.out) (by show ¬ _ = R; omega)).trans S2.out
  have k3b : Below R W2 w3 := k3.below (fun k e => by have e2 : k = R := e; omega) (by have := lt_of_block S2.out; have := HRW.out; omega)
  have b3 := B2.out.trans (k3b.mono (by omega))
  have hC := heap_alloc_new w3 (.cells (cmA x0 none 0 none 0) 27)
  have s4 := (Below.heap_alloc w3 (.cells (cmA x0 none 0 none 0) 27) _ (lt_of_block s3)).trans s3
  have b4 := b3.alloc b3.size (.cells (cmA x0 none 0 none 0) 27)
  have h4 := h3.alloc (.cells (cmA x0 none 0 none 0) 27)
  have z4 : (w3.alloc (.cells (cmA x0 none 0 none 0) 27)).heap.size = w3.heap.size + 1 := World.size_alloc _ _
  dsimp only
  rw [cmV_is]
  go_upto_region 8 with (refine wpList_store_row rfl 27 _ _ rfl w3.heap.size (cmA x0 none 0 none 0) rfl rfl 27 _ (heap_alloc_new _ _) (by kernel_rfl) rfl (cmA_one _ _ _ _ _) ?_; rw [World.setRow_alloc_new])
  obtain ⟨C, hCn⟩ : ∃ C, Hid (w3.heap.size = C) := ⟨_, rfl⟩
  obtain ⟨W4, hW4⟩ : ∃ W4, Hid (w3.alloc (.cells (cmA x0 none 0 none 0) 27) = W4) := ⟨_, rfl⟩
  rw [hW4.out] at hC s4 b4 h4 z4 ⊢
  rw [hCn.out] at hC z4 hlC ⊢
  have LP : Lp W4 C W4.heap.size x0 none 0 none 0 [] none 0 0 := by
    obtain ⟨q1, q2⟩ := HH.out
    refine ⟨⟨hC, by rw [q1]; exact Owns.nil, by rw [q2]; exact Owns.nil, by omega, (fun a b h => by cases h), ⟨(fun a h => by cases h), (fun a h => by cases h)⟩, Nat.le_refl _⟩, Owns.nil, (fun a b h => by cases h), (fun a b h => by cases h), (fun a h => by cases h), ⟨(fun a h => by cases h), (fun a h => by cases h)⟩⟩
  obtain ⟨Bo, hBo⟩ : ∃ Bo, Hid (W4.heap.size = Bo) := ⟨_, rfl⟩
  rw [hBo.out] at LP z4
  obtain ⟨F, hF⟩ : ∃ F, Hid (loopP ts en (n + 1) x0 [] false r0 = F) := ⟨_, rfl⟩
  have hSC : w.heap.size < C := by have := b3.size; have := lt_of_block S2.out; have hq := hCn.out; have := lt_of_block s3; omega
  have hRC : R < C := hlC
  have hCB : C < Bo := LP.cm.lt
  have HFx : Hid (F = F) := rfl
  have SW4 := Lib.hid s4
  have KW4 := Lib.hid b4
  clear h3 k3 s3 k3b b3 hC s4 z4 hhd
  trace_state
  go_loopw [10, 11, 12] (fun hs fr _ wr => ∃ (j : Nat) (x : Cm) (had : List Fd) (A : Option Addr) (c : Nat) (A2 : Option Addr) (c2 : Nat) (A3 : Option Addr) (n3 c3 : Nat) (r : Rr) (frb : Bool), hs = .slice A3 n3 c3 ∧ fr = .bool frb ∧ n3 + j = n + 1 ∧ x.shape.alts.length ≤ n3 ∧ x.after.length ≤ n3 ∧ (r.bad < 0 → n < r.at_ + j) ∧ Hid (loopP ts en j x had frb r = F) ∧ Hid (CmSz x) ∧ Lp wr C Bo x A c A2 c2 had A3 n3 c3 ∧ Cd wr R R At n c0 ts en r ∧ Hid (wr.heap[w.heap.size]? = some (.cells (cmA cm0 none 0 none 0) 27 (0, 0))) ∧ Hid (Below w.heap.size w wr)) (fun hs _ _ _ => n + 1 - lenOf8 hs)
  case atStart =>
    refine ⟨n + 1, x0, [], none, 0, none, 0, none, 0, 0, r0, false, rfl, rfl, by omega, ?_, ?_, ?_, hF, HHS, LP, h4, SW4, KW4⟩
    · rw [HH.out.1]; exact Nat.le_refl _
    · rw [HH.out.2]; exact Nat.le_refl _
    · intro _; omega
  case round =>
    obtain ⟨j, x, had, A, c, A2, c2, A3, n3, c3, r, frb, rfl, rfl, hnj, hl1, hl2, hfu, HL, HZ, hlp, hcd, hsr, hbr⟩ := hrel
    have d3 := hcd.c3
    have d1 := hcd.c1
    by_cases hcond : r.bad < 0 ∧ r.at_ < n
    · obtain ⟨hb, hlt⟩ := hcond
      obtain ⟨j, rfl⟩ : ∃ i, j = i + 1 := ⟨j - 1, by have := hfu hb; omega⟩
      have t1 : decide (r.bad < 0) = true := by simpa using hb
      have t2 : decide ((r.at_ : Int) < (n : Int)) = true := by simpa using hlt
      have t3 : decide (r.at_ < n) = true := by simpa using hlt
      have hgo := loopP_go (en := en) (n := j) (c := x) (had := had) (fr := frb) hb (by rw [hn.out]; exact hlt)
      rw [HL.out] at hgo
      have hfd := Lib.hid (cfield_any R R n c0 At ts en r x.kind A3 n3 c3 Bo had wr hcd hlp.hd (by omega) (by omega))
      have hfs := field_some (k := x.kind) (had := had) (r := r) HEN.out HAT.out
      have hfz := fun s => field_sz (en := en) (k := x.kind) (had := had) (r := r) (s := s) HSZ.out
      have hfl := field_le (k := x.kind) (had := had) (r := r) HEN.out HAT.out
      obtain ⟨y, hy⟩ : ∃ y, fieldP ts en x.kind had r = y := ⟨_, rfl⟩
      rw [hy] at hgo hfd hfs hfz hfl
      obtain ⟨f, r'⟩ := y
      dsimp only at hgo hfs hfz hfl
      have x0c : wr.cell? ⟨C, 0, none⟩ = some (.int .i64 x.kind) := (hlp.cm.cell 0).trans rfl
      have hClt := lt_of_block hlp.cm.blk
      have LPr := Lib.hid hlp
      have HGO := Lib.hid hgo.symm
      have HFS := Lib.hid hfs
      have HFZ := Lib.hid hfz
      have HFL := Lib.hid hfl
      have HFU := Lib.hid hfu
      obtain ⟨rb, hrb⟩ : ∃ b, Hid (r.bad = b) := ⟨_, rfl⟩
      obtain ⟨ra, hra⟩ : ∃ b, Hid (r.at_ = b) := ⟨_, rfl⟩
      rw [hrb.out] at t1 d3
      rw [hra.out] at t2 t3 d1
      clear hgo hfs hfz hfl hlp hcd HL hy hfu hb hlt
      go_wp2_with (fail)
      refine hfd.out.mono ?_; rintro e w5 ⟨rfl, h5, k5⟩
      dsimp only at h5 ⊢
      have lp5 := LPr.out.kb k5 hRC
      have s5 := (k5.block _ (lt_of_block hsr.out) (by show ¬ _ = R; omega)).trans hsr.out
      have b5 := hbr.out.trans (k5.below (B := w.heap.size) (fun k e => by have e2 : k = R := e; omega) (by have := lt_of_block hsr.out; omega))
      have hPl : ∀ a, A3 = some a → a.block < w5.heap.size := lp5.lo3
      have h6 := h5.alloc (.cells #[.string f.1, vlV f.2] 73)
      have lp6 := lp5.kb ((Kb.refl (· = R) w5).alloc (.cells #[.string f.1, vlV f.2] 73)) hRC
      have s6 := (Below.heap_alloc w5 (.cells #[.string f.1, vlV f.2] 73) _ (lt_of_block s5)).trans s5
      have b6 := b5.alloc b5.size (.cells #[.string f.1, vlV f.2] 73)
      have p6 := heap_alloc_new w5 (.cells #[.string f.1, vlV f.2] 73)
      obtain ⟨P, hP⟩ : ∃ P, Hid (w5.heap.size = P) := ⟨_, rfl⟩
      have hmk : ∀ v : World, Reads (v.alloc (.cells #[.string f.1, vlV f.2] 73)) (v.heap.size + 1) 2 (some ⟨v.heap.size, 0, none⟩) 1 (recs fdC [f]) := fun v => Reads.madeRec v f 73 (fdC_len f)
      have hBP : Bo ≤ P := by rw [← hP.out]; exact lp5.cm.hi
      rw [hP.out] at p6 hPl
      clear h5 k5 lp5 s5 b5 hfd
      have HBD : Hid (r.bad < 0) := Lib.hid (by rw [hrb.out]; simpa using t1)
      rcases vlV_form f.2 with hV | ⟨T0, U0, hV⟩
      · rw [hV] at h6 lp6 s6 b6 p6 hmk ⊢
        have HVV := Lib.hid hV
        obtain ⟨W6, hW6⟩ : ∃ W6, Hid (w5.alloc (.cells #[.string f.1, .nilIface] 73) = W6) := ⟨_, rfl⟩
        rw [hW6.out] at h6 lp6 s6 b6 p6
        obtain ⟨pz, p0, p1⟩ := row2 p6
        have hP6 := lt_of_block p6
        have HMK := Lib.hid (hmk W6)
        have hBo6 : Bo ≤ W6.heap.size := lp6.cm.hi
        have lp6a := Lib.hid (lp6.kb ((Kb.refl (· = R) W6).alloc (.cells #[.string f.1, .nilIface] 73)) hRC)
        have c6a := Lib.hid (h6.alloc (.cells #[.string f.1, .nilIface] 73))
        have s6a := Lib.hid ((Below.heap_alloc W6 (.cells #[.string f.1, .nilIface] 73) _ (lt_of_block s6)).trans s6)
        have b6a := Lib.hid (b6.alloc b6.size (.cells #[.string f.1, .nilIface] 73))
        have hwz : w.heap.size ≤ (W6.alloc (.cells #[.string f.1, .nilIface] 73)).heap.size := b6a.out.size
        have hP6a : P < (W6.alloc (.cells #[.string f.1, .nilIface] 73)).heap.size := by rw [World.size_alloc]; omega
        clear h6 lp6 s6 b6 p6 hmk hV
        go_upto_region 10 with (fail)
        rw [hW6.out, hP.out]
        go_wp2_with (at_builtin; refine app_f8 rfl rfl Bo rfl lp6a.out.hd (news := [f]) rfl HMK.out (by omega) (by rw [World.size_alloc]; omega) ?_)
        intro v7 w7 o7 k7 hob
        obtain ⟨A7, c7, rfl, _, _⟩ := o7.slice
        have lp7 := lp6a.out.app o7 k7 (by rw [World.size_alloc]; exact hob) (by omega)
        have cd7 := c6a.out.kb (S := fun b => Bo ≤ b) k7.kb (by omega) (fun k hk => by omega)
        have s7 := (k7.block_low8 (lt_of_block s6a.out) (by omega)).trans s6a.out
        have b7 := k7.below b6a.out (by omega) hwz
        have q0 : w7.cell? ⟨P, 0, none⟩ = some (.string f.1) := (k7.cell (p := ⟨P, 0, none⟩) hP6a (own_ne8 (fun a ha => Nat.ne_of_lt (hPl a ha)))).trans ((World.cell?_alloc_lt _ _ _ hP6).trans p0)
        have q1 : w7.cell? ⟨P, 1, none⟩ = some .nilIface := (k7.cell (p := ⟨P, 1, none⟩) hP6a (own_ne8 (fun a ha => Nat.ne_of_lt (hPl a ha)))).trans ((World.cell?_alloc_lt _ _ _ hP6).trans p1)
        have d37 := cd7.c3
        have LP7 := Lib.hid lp7
        have CD7 := Lib.hid cd7
        have S7 := Lib.hid s7
        have B7 := Lib.hid b7
        obtain ⟨q, hq⟩ : ∃ q, (f.1.toList == bFrom) = q := ⟨_, rfl⟩
        have tq : (f.1.toList == [102, 114, 111, 109]) = q := hq
        rw [hq] at HGO
        clear lp7 cd7 s7 b7 o7 k7 hob lp6a c6a s6a b6a p0 p1 pz HMK hq
        by_cases hb' : r'.bad < 0
        case neg =>
          have u1 : decide (r'.bad < 0) = false := by simpa using hb'
          obtain ⟨rb', hrb'⟩ : ∃ b, Hid (r'.bad = b) := ⟨_, rfl⟩
          rw [hrb'.out] at u1 d37
          have HG2 : Hid (loopP ts en j x (had ++ [f]) (frb || q) r' = F) := by have := HGO.out; rw [if_neg hb'] at this; exact this
          have HB' := Lib.hid hb'
          clear hb' HGO
          cases frb
          all_goals
            go_wp2
            go_roundw
            case rel => exact ⟨j, x, had ++ [f], A, c, A2, c2, A7, n3 + 1, c7, r', _, rfl, by first | rfl | simp, by omega, by omega, by omega, fun h => absurd h HB'.out, HG2, HZ, LP7.out, CD7.out, S7, B7⟩
            case measure => simp [lenOf8]; omega
        have u1 : decide (r'.bad < 0) = true := by simpa using hb'
        have hle := HFL.out hb'
        have hat' : n < r'.at_ + j := by have := HFU.out HBD.out; omega
        obtain ⟨rb', hrb'⟩ : ∃ b, Hid (r'.bad = b) := ⟨_, rfl⟩
        have hpl := putC_len x f
        have hput := Lib.hid (put_any x f C Bo A c A2 c2 w7 LP7.out.cm (HFS.out hb') (by omega) (by omega))
        have HG2 : Hid (loopP ts en j (putC x f) (had ++ [f]) (frb || q) r' = F) := by have := HGO.out; rw [if_pos hb'] at this; exact this
        have HZ2 := Lib.hid (putC_sz HZ.out HFZ.out)
        rw [hrb'.out] at u1 d37
        rw [HVV.out] at hput
        clear hb' HGO
        cases frb
        all_goals
          go_wp2_with (fail)
          refine hput.out.mono ?_; rintro e w8 ⟨rfl, A8, c8, A28, c28, cm8, k8, n8, n82⟩
          have lp8 := LP7.out.put cm8 k8 n8 n82
          have k8b := k8.cd LP7.out
          have cd8 := CD7.out.kb (S := fun b => C ≤ b) k8b (by omega) (fun k hk => by omega)
          have s8 := (k8b.block _ (lt_of_block S7.out) (by omega)).trans S7.out
          have b8 := B7.out.trans (k8b.below (B := w.heap.size) (fun k hk => by omega) (by have := lt_of_block S7.out; omega))
          clear cm8 k8 n8 n82 k8b
          go_wp2
          go_roundw
          case rel => exact ⟨j, putC x f, had ++ [f], A8, c8, A28, c28, A7, n3 + 1, c7, r', _, rfl, by first | rfl | simp, by omega, by omega, by omega, fun _ => hat', HG2, HZ2, lp8, cd8, Lib.hid s8, Lib.hid b8⟩
          case measure => simp [lenOf8]; omega
      · rw [hV] at h6 lp6 s6 b6 p6 hmk ⊢
        have HVV := Lib.hid hV
        obtain ⟨W6, hW6⟩ : ∃ W6, Hid (w5.alloc (.cells #[.string f.1, .iface T0 U0] 73) = W6) := ⟨_, rfl⟩
        rw [hW6.out] at h6 lp6 s6 b6 p6
        obtain ⟨pz, p0, p1⟩ := row2 p6
        have hP6 := lt_of_block p6
        have HMK := Lib.hid (hmk W6)
        have hBo6 : Bo ≤ W6.heap.size := lp6.cm.hi
        have lp6a := Lib.hid (lp6.kb ((Kb.refl (· = R) W6).alloc (.cells #[.string f.1, .iface T0 U0] 73)) hRC)
        have c6a := Lib.hid (h6.alloc (.cells #[.string f.1, .iface T0 U0] 73))
        have s6a := Lib.hid ((Below.heap_alloc W6 (.cells #[.string f.1, .iface T0 U0] 73) _ (lt_of_block s6)).trans s6)
        have b6a := Lib.hid (b6.alloc b6.size (.cells #[.string f.1, .iface T0 U0] 73))
        have hwz : w.heap.size ≤ (W6.alloc (.cells #[.string f.1, .iface T0 U0] 73)).heap.size := b6a.out.size
        have hP6a : P < (W6.alloc (.cells #[.string f.1, .iface T0 U0] 73)).heap.size := by rw [World.size_alloc]; omega
        clear h6 lp6 s6 b6 p6 hmk hV
        go_upto_region 10 with (fail)
        rw [hW6.out, hP.out]
        go_wp2_with (at_builtin; refine app_f8 rfl rfl Bo rfl lp6a.out.hd (news := [f]) rfl HMK.out (by omega) (by rw [World.size_alloc]; omega) ?_)
        intro v7 w7 o7 k7 hob
        obtain ⟨A7, c7, rfl, _, _⟩ := o7.slice
        have lp7 := lp6a.out.app o7 k7 (by rw [World.size_alloc]; exact hob) (by omega)
        have cd7 := c6a.out.kb (S := fun b => Bo ≤ b) k7.kb (by omega) (fun k hk => by omega)
        have s7 := (k7.block_low8 (lt_of_block s6a.out) (by omega)).trans s6a.out
        have b7 := k7.below b6a.out (by omega) hwz
        have q0 : w7.cell? ⟨P, 0, none⟩ = some (.string f.1) := (k7.cell (p := ⟨P, 0, none⟩) hP6a (own_ne8 (fun a ha => Nat.ne_of_lt (hPl a ha)))).trans ((World.cell?_alloc_lt _ _ _ hP6).trans p0)
        have q1 : w7.cell? ⟨P, 1, none⟩ = some (.iface T0 U0) := (k7.cell (p := ⟨P, 1, none⟩) hP6a (own_ne8 (fun a ha => Nat.ne_of_lt (hPl a ha)))).trans ((World.cell?_alloc_lt _ _ _ hP6).trans p1)
        have d37 := cd7.c3
        have LP7 := Lib.hid lp7
        have CD7 := Lib.hid cd7
        have S7 := Lib.hid s7
        have B7 := Lib.hid b7
        obtain ⟨q, hq⟩ : ∃ q, (f.1.toList == bFrom) = q := ⟨_, rfl⟩
        have tq : (f.1.toList == [102, 114, 111, 109]) = q := hq
        rw [hq] at HGO
        clear lp7 cd7 s7 b7 o7 k7 hob lp6a c6a s6a b6a p0 p1 pz HMK hq
        by_cases hb' : r'.bad < 0
        case neg =>
          have u1 : decide (r'.bad < 0) = false := by simpa using hb'
          obtain ⟨rb', hrb'⟩ : ∃ b, Hid (r'.bad = b) := ⟨_, rfl⟩
          rw [hrb'.out] at u1 d37
          have HG2 : Hid (loopP ts en j x (had ++ [f]) (frb || q) r' = F) := by have := HGO.out; rw [if_neg hb'] at this; exact this
          have HB' := Lib.hid hb'
          clear hb' HGO
          cases frb
          all_goals
            go_wp2
            go_roundw
            case rel => exact ⟨j, x, had ++ [f], A, c, A2, c2, A7, n3 + 1, c7, r', _, rfl, by first | rfl | simp, by omega, by omega, by omega, fun h => absurd h HB'.out, HG2, HZ, LP7.out, CD7.out, S7, B7⟩
            case measure => simp [lenOf8]; omega
        have u1 : decide (r'.bad < 0) = true := by simpa using hb'
        have hle := HFL.out hb'
        have hat' : n < r'.at_ + j := by have := HFU.out HBD.out; omega
        obtain ⟨rb', hrb'⟩ : ∃ b, Hid (r'.bad = b) := ⟨_, rfl⟩
        have hpl := putC_len x f
        have hput := Lib.hid (put_any x f C Bo A c A2 c2 w7 LP7.out.cm (HFS.out hb') (by omega) (by omega))
        have HG2 : Hid (loopP ts en j (putC x f) (had ++ [f]) (frb || q) r' = F) := by have := HGO.out; rw [if_pos hb'] at this; exact this
        have HZ2 := Lib.hid (putC_sz HZ.out HFZ.out)
        rw [hrb'.out] at u1 d37
        rw [HVV.out] at hput
        clear hb' HGO
        cases frb
        all_goals
          go_wp2_with (fail)
          refine hput.out.mono ?_; rintro e w8 ⟨rfl, A8, c8, A28, c28, cm8, k8, n8, n82⟩
          have lp8 := LP7.out.put cm8 k8 n8 n82
          have k8b := k8.cd LP7.out
          have cd8 := CD7.out.kb (S := fun b => C ≤ b) k8b (by omega) (fun k hk => by omega)
          have s8 := (k8b.block _ (lt_of_block S7.out) (by omega)).trans S7.out
          have b8 := B7.out.trans (k8b.below (B := w.heap.size) (fun k hk => by omega) (by have := lt_of_block S7.out; omega))
          clear cm8 k8 n8 n82 k8b
          go_wp2
          go_roundw
          case rel => exact ⟨j, putC x f, had ++ [f], A8, c8, A28, c28, A7, n3 + 1, c7, r', _, rfl, by first | rfl | simp, by omega, by omega, by omega, fun _ => hat', HG2, HZ2, lp8, cd8, Lib.hid s8, Lib.hid b8⟩
          case measure => simp [lenOf8]; omega
    · have hst := loopP_stop (en := en) (n := j) (c := x) (had := had) (fr := frb) (r := r) (ts := ts) (by rw [hn.out]; exact hcond)
      rw [HL.out] at hst
      obtain ⟨r2, hr2⟩ : ∃ r2, Hid ((if r.bad < 0 ∧ missP x frb = true then failP ts en r else r) = r2) := ⟨_, rfl⟩
      have HX : Hid (X = if 0 ≤ r2.bad then (cm0, r2.bad, 80) else if cmdE (closeP x) ≠ 0 ∨ (shE (closeP x).shape ≠ 0 ∧ x.kind = 1) then (cm0, 0, 80) else (closeP x, en, 0)) := by
        show _ = _
        rw [HV.out]
        unfold readP
        rw [hh0.out]
        dsimp only
        rw [hn.out, hF.out, hst]
        dsimp only
        rw [hr2.out]
      have hor : (decide (r.bad < 0) = false) ∨ (decide (r.bad < 0) = true ∧ decide ((r.at_ : Int) < (n : Int)) = false ∧ decide (r.at_ < n) = false) := by
        by_cases hb : r.bad < 0
        · right
          have : ¬ r.at_ < n := fun h => hcond ⟨hb, h⟩
          exact ⟨by simpa using hb, decide_eq_false (by omega), decide_eq_false this⟩
        · left; simpa using hb
      have hClt := lt_of_block hlp.cm.blk
      have EB := Lib.hid hlp.cm.blk
      have x0c : wr.cell? ⟨C, 0, none⟩ = some (.int .i64 x.kind) := (hlp.cm.cell 0).trans rfl
      have hla : x.shape.alts.length ≤ 100000 := by omega
      have hlb : x.after.length ≤ 100000 := by omega
      have CMr := Lib.hid hlp.cm
      have CDr := Lib.hid hcd
      have hms := Lib.hid (fun v => missing_any x A c A2 c2 v)
      rw [cmV_is] at hms
      have HMi := Lib.hid (miss_is x frb)
      obtain ⟨M, hM⟩ : ∃ M, Hid (missP x frb = M) := ⟨_, rfl⟩
      rw [hM.out] at HMi hr2
      obtain ⟨rb, hrb⟩ : ∃ b, Hid (r.bad = b) := ⟨_, rfl⟩
      obtain ⟨ra, hra⟩ : ∃ b, Hid (r.at_ = b) := ⟨_, rfl⟩
      rw [hrb.out] at hor d3
      rw [hra.out] at hor d1
      clear hst hcond hlp hcd HL hfu HV
      rcases hor with t1 | ⟨t1, t2, t3⟩
      · go_upto_region 14 with (fail)
        go_cut [93] (fun v wc => v = .bool false ∧ Below wr.heap.size wr wc)
        case first =>
          go_wp2_with (fail)
          go_meet
          exact ⟨rfl, Below.refl _ _⟩
        case rest =>
          obtain ⟨rfl, hbw⟩ := hcut
          have hrb0 : ¬ rb < 0 := by simpa using t1
          have hr2e : r = r2 := by rw [← hr2.out, if_neg (fun x => hrb0 (hrb.out ▸ x.1))]
          subst hr2e
          have hnn : 0 ≤ r.bad := by rw [hrb.out]; omega
          have u0 : decide (0 ≤ r.bad) = true := by simpa using hnn
          have HXe : Hid (X = (cm0, r.bad, 80)) := Lib.hid (HX.out.trans (if_pos hnn))
          have e3 := (CDr.out.below hbw).c3
          have ES := Lib.hid ((hbw.block _ (lt_of_block hsr.out)).trans hsr.out)
          have EBl := Lib.hid (hbr.out.trans (hbw.mono hbr.out.size))
          obtain ⟨bb, hbb⟩ : ∃ b, r.bad = b := ⟨_, rfl⟩
          rw [hbb] at u0 e3 HXe
          clear hnn hbb
          go_upto_region 17 with (fail)
          refine wp_region_held_drew (S := (fun v' => v'.cell? ⟨R, 3, none⟩ = some (.int .i64 bb))) (by kernel_rfl) ?_ (fun hHeld => ?_)
          · (try dsimp only); (first | assumption | exact keepR8 (by omega) (by assumption))
          refine wpAnyH_take (i := 0) (oi := ⟨_, _, _, _, _, _⟩) (v := ?v_6) rfl (by kernel_rfl) (by kernel_rfl) (by kernel_rfl) (fun _ _ _ h => h) (Or.inl ⟨by rfl, ?hy_6⟩) (by assumption) ?r_6
          case hy_6 => (intro w_ hS_; (try dsimp only at hS_); go_simp; try with_reducible rfl)
          try simp only [Act.put, List.setIfInBounds_toArray, List.set_cons_zero, List.set_cons_succ]
          refine wpAnyH_take (i := 1) (oi := ⟨_, _, _, _, _, _⟩) (v := ?v_7) rfl (by kernel_rfl) (by kernel_rfl) (by kernel_rfl) (fun _ _ _ h => h) (Or.inl ⟨by rfl, ?hy_7⟩) (by assumption) ?r_7
          case hy_7 => (intro w_ hS_; (try dsimp only at hS_); go_simp; try with_reducible rfl)
          try simp only [Act.put, List.setIfInBounds_toArray, List.set_cons_zero, List.set_cons_succ]
          refine wpAnyH_take (i := 2) (oi := ⟨_, _, _, _, _, _⟩) (v := ?v_8) rfl (by kernel_rfl) (by kernel_rfl) (by kernel_rfl) (fun _ _ _ h => h) (Or.inl ⟨by rfl, ?hy_8⟩) (by assumption) ?r_8
          case hy_8 => (intro w_ hS_; (try dsimp only at hS_); go_simp; try with_reducible rfl)
          try simp only [Act.put, List.setIfInBounds_toArray, List.set_cons_zero, List.set_cons_succ]
          refine wpAnyH_take (i := 3) (oi := ⟨_, _, _, _, _, _⟩) (v := ?v_9) rfl (by kernel_rfl) (by kernel_rfl) (by kernel_rfl) (fun _ _ _ h => h) (Or.inl ⟨by rfl, ?hy_9⟩) (by assumption) ?r_9
          case hy_9 => (intro w_ hS_; (try dsimp only at hS_); go_simp; try with_reducible rfl)
          try simp only [Act.put, List.setIfInBounds_toArray, List.set_cons_zero, List.set_cons_succ]
          refine wpAnyH_take (i := 4) (oi := ⟨_, _, _, _, _, _⟩) (v := ?v_10) rfl (by kernel_rfl) (by kernel_rfl) (by kernel_rfl) (fun _ _ _ h => h) (Or.inl ⟨by rfl, ?hy_10⟩) (by assumption) ?r_10
          case hy_10 => (intro w_ hS_; (try dsimp only at hS_); go_simp; try with_reducible rfl)
          try simp only [Act.put, List.setIfInBounds_toArray, List.set_cons_zero, List.set_cons_succ]
          refine wpAnyH_ready (rs := [5]) (by kernel_rfl) (by simp) ?_
          refine AllReadyH.cons (o := ⟨_, _, _, _, _, _⟩) rfl (fun K hK => ?_) AllReadyH.nil
          first | (rw [if_pos (by rfl)]; ((refine wp_store_row 27 _ _ rfl w.heap.size (cmA cm0 none 0 none 0) rfl rfl 27 _ ES.out (by kernel_rfl) rfl (cmA_one _ _ _ _ _) ?_))) | go_simp
          refine hK.out _ _ ?_ (fun hHeld => ?_)
          · (try dsimp only); (first | assumption | exact keepR8 (by omega) (by assumption))
          clear hK K
          try simp only [Act.put, List.setIfInBounds_toArray, List.set_cons_zero, List.set_cons_succ]
          refine wpAnyH_take (i := 6) (oi := ⟨_, _, _, _, _, _⟩) (v := ?v_11) rfl (by kernel_rfl) (by kernel_rfl) (by kernel_rfl) (fun _ _ _ h => h) (Or.inl ⟨by rfl, ?hy_11⟩) (by assumption) ?r_11
          case hy_11 => (intro w_ hS_; (try dsimp only at hS_); go_simp; try with_reducible rfl)
          try simp only [Act.put, List.setIfInBounds_toArray, List.set_cons_zero, List.set_cons_succ]
          refine wpAnyH_take (i := 7) (oi := ⟨_, _, _, _, _, _⟩) (v := ?v_12) rfl (by kernel_rfl) (by kernel_rfl) (by kernel_rfl) (fun _ _ _ h => h) (Or.inl ⟨by rfl, ?hy_12⟩) (by assumption) ?r_12
          case hy_12 => (intro w_ hS_; (try dsimp only at hS_); go_simp; try with_reducible rfl)
          try simp only [Act.put, List.setIfInBounds_toArray, List.set_cons_zero, List.set_cons_succ]
          refine wpAnyH_done (by kernel_rfl) ?_ _
          all_goals go_wp2
          all_goals refine bodyPost_ret (results_cell2t rfl _ _ w.heap.size _ _ _ _ rfl (by exact setRow_heap _ _ _ _ _ _ ES.out) Tryz.underlying27 rfl (by kernel_rfl)) rfl ?_
          all_goals rw [HXe.out]
          all_goals exact badR_cm0 (below_row (below_drew EBl.out) (Nat.le_refl _) _)
      · go_upto_region 14 with (fail)
        go_cut [93] (fun v wc => v = .bool M ∧ Below wr.heap.size wr wc)
        case first =>
          go_wp2_with (refine load_row_g8 (by kernel_rfl) 27 _ rfl C rfl 27 _ (0, 0) _ EB.out Tryz.underlying27 rfl (by kernel_rfl) ?_)
          refine (hms.out _).mono ?_; rintro e wm ⟨rfl, hbm⟩
          have cmm := CMr.out.blo hbm
          have m0 : wm.cell? ⟨C, 0, none⟩ = some (.int .i64 x.kind) := (cmm.cell 0).trans rfl
          have m16 : wm.cell? ⟨C, 16, none⟩ = some (.int .i64 x.nodes) := (cmm.cell 16).trans rfl
          have m13 : wm.cell? ⟨C, 13, none⟩ = some (.bool x.hasTime) := (cmm.cell 13).trans rfl
          obtain ⟨kd, hkd⟩ : ∃ b, x.kind = b := ⟨_, rfl⟩
          obtain ⟨nd, hnd⟩ : ∃ b, x.nodes = b := ⟨_, rfl⟩
          obtain ⟨ht, hht⟩ : ∃ b, x.hasTime = b := ⟨_, rfl⟩
          obtain ⟨mq, hmq⟩ : ∃ b, missQ x = b := ⟨_, rfl⟩
          rw [hkd, hnd, hht, hmq] at HMi
          rw [hkd] at m0
          rw [hnd] at m16
          rw [hht] at m13
          rw [hmq]
          clear hkd hnd hht hmq cmm
          cases mq
          case true =>
            have hMv : M = true := by rw [HMi.out]; rfl
            go_wp2_with (fail)
            go_meet
            exact ⟨by rw [hMv], hbm⟩
          cases hk10 : kd == 10
          case false =>
            have hMv : M = false := by rw [HMi.out, hk10]; rfl
            go_wp2_with (fail)
            go_meet
            exact ⟨by rw [hMv], hbm⟩
          cases frb
          case false =>
            have hMv : M = true := by rw [HMi.out, hk10]; rfl
            go_wp2_with (fail)
            go_meet
            exact ⟨by rw [hMv], hbm⟩
          cases hn0 : nd == 0
          case true =>
            have hMv : M = true := by rw [HMi.out, hk10, hn0]; rfl
            go_wp2_with (fail)
            go_meet
            exact ⟨by rw [hMv], hbm⟩
          have hMv : M = !ht := by rw [HMi.out, hk10, hn0]; cases ht <;> rfl
          go_wp2_with (fail)
          go_meet
          exact ⟨by rw [hMv], hbm⟩
        case rest =>
          obtain ⟨rfl, hbw⟩ := hcut
          have hrbl : rb < 0 := by simpa using t1
          cases M
          case true =>
            have hr2e : r2 = failP ts en r := by rw [← hr2.out, if_pos ⟨hrb.out ▸ hrbl, rfl⟩]
            have hfl := Lib.hid (cfail_any R R n c0 At ts en r wc (CDr.out.below hbw))
            rw [← hr2e] at hfl
            have hnn0 : 0 ≤ r2.bad := by rw [hr2e]; exact failP_nn HEN.out HAT.out r
            have s9 := (hbw.block _ (lt_of_block hsr.out)).trans hsr.out
            have b9 := hbr.out.trans (hbw.mono hbr.out.size)
            clear hr2e
            go_wp2_with (fail)
            refine hfl.out.mono ?_; rintro e wf ⟨rfl, cdf, kf⟩
            have hnn : 0 ≤ r2.bad := hnn0
            have u0 : decide (0 ≤ r2.bad) = true := by simpa using hnn
            have HXe : Hid (X = (cm0, r2.bad, 80)) := Lib.hid (HX.out.trans (if_pos hnn))
            have e3 := (cdf).c3
            have ES := Lib.hid ((kf.block _ (lt_of_block s9) (by show ¬ _ = R; omega)).trans s9)
            have EBl := Lib.hid (b9.trans (kf.below (B := w.heap.size) (fun k e => by have e2 : k = R := e; omega) b9.size))
            obtain ⟨bb, hbb⟩ : ∃ b, r2.bad = b := ⟨_, rfl⟩
            rw [hbb] at u0 e3 HXe
            clear hnn hbb
            go_upto_region 17 with (fail)
            refine wp_region_held_drew (S := (fun v' => v'.cell? ⟨R, 3, none⟩ = some (.int .i64 bb))) (by kernel_rfl) ?_ (fun hHeld => ?_)
            · (try dsimp only); (first | assumption | exact keepR8 (by omega) (by assumption))
            refine wpAnyH_take (i := 0) (oi := ⟨_, _, _, _, _, _⟩) (v := ?v_13) rfl (by kernel_rfl) (by kernel_rfl) (by kernel_rfl) (fun _ _ _ h => h) (Or.inl ⟨by rfl, ?hy_13⟩) (by assumption) ?r_13
            case hy_13 => (intro w_ hS_; (try dsimp only at hS_); go_simp; try with_reducible rfl)
            try simp only [Act.put, List.setIfInBounds_toArray, List.set_cons_zero, List.set_cons_succ]
            refine wpAnyH_take (i := 1) (oi := ⟨_, _, _, _, _, _⟩) (v := ?v_14) rfl (by kernel_rfl) (by kernel_rfl) (by kernel_rfl) (fun _ _ _ h => h) (Or.inl ⟨by rfl, ?hy_14⟩) (by assumption) ?r_14
            case hy_14 => (intro w_ hS_; (try dsimp only at hS_); go_simp; try with_reducible rfl)
            try simp only [Act.put, List.setIfInBounds_toArray, List.set_cons_zero, List.set_cons_succ]
            refine wpAnyH_take (i := 2) (oi := ⟨_, _, _, _, _, _⟩) (v := ?v_15) rfl (by kernel_rfl) (by kernel_rfl) (by kernel_rfl) (fun _ _ _ h => h) (Or.inl ⟨by rfl, ?hy_15⟩) (by assumption) ?r_15
            case hy_15 => (intro w_ hS_; (try dsimp only at hS_); go_simp; try with_reducible rfl)
            try simp only [Act.put, List.setIfInBounds_toArray, List.set_cons_zero, List.set_cons_succ]
            refine wpAnyH_take (i := 3) (oi := ⟨_, _, _, _, _, _⟩) (v := ?v_16) rfl (by kernel_rfl) (by kernel_rfl) (by kernel_rfl) (fun _ _ _ h => h) (Or.inl ⟨by rfl, ?hy_16⟩) (by assumption) ?r_16
            case hy_16 => (intro w_ hS_; (try dsimp only at hS_); go_simp; try with_reducible rfl)
            try simp only [Act.put, List.setIfInBounds_toArray, List.set_cons_zero, List.set_cons_succ]
            refine wpAnyH_take (i := 4) (oi := ⟨_, _, _, _, _, _⟩) (v := ?v_17) rfl (by kernel_rfl) (by kernel_rfl) (by kernel_rfl) (fun _ _ _ h => h) (Or.inl ⟨by rfl, ?hy_17⟩) (by assumption) ?r_17
            case hy_17 => (intro w_ hS_; (try dsimp only at hS_); go_simp; try with_reducible rfl)
            try simp only [Act.put, List.setIfInBounds_toArray, List.set_cons_zero, List.set_cons_succ]
            refine wpAnyH_ready (rs := [5]) (by kernel_rfl) (by simp) ?_
            refine AllReadyH.cons (o := ⟨_, _, _, _, _, _⟩) rfl (fun K hK => ?_) AllReadyH.nil
            first | (rw [if_pos (by rfl)]; ((refine wp_store_row 27 _ _ rfl w.heap.size (cmA cm0 none 0 none 0) rfl rfl 27 _ ES.out (by kernel_rfl) rfl (cmA_one _ _ _ _ _) ?_))) | go_simp
            refine hK.out _ _ ?_ (fun hHeld => ?_)
            · (try dsimp only); (first | assumption | exact keepR8 (by omega) (by assumption))
            clear hK K
            try simp only [Act.put, List.setIfInBounds_toArray, List.set_cons_zero, List.set_cons_succ]
            refine wpAnyH_take (i := 6) (oi := ⟨_, _, _, _, _, _⟩) (v := ?v_18) rfl (by kernel_rfl) (by kernel_rfl) (by kernel_rfl) (fun _ _ _ h => h) (Or.inl ⟨by rfl, ?hy_18⟩) (by assumption) ?r_18
            case hy_18 => (intro w_ hS_; (try dsimp only at hS_); go_simp; try with_reducible rfl)
            try simp only [Act.put, List.setIfInBounds_toArray, List.set_cons_zero, List.set_cons_succ]
            refine wpAnyH_take (i := 7) (oi := ⟨_, _, _, _, _, _⟩) (v := ?v_19) rfl (by kernel_rfl) (by kernel_rfl) (by kernel_rfl) (fun _ _ _ h => h) (Or.inl ⟨by rfl, ?hy_19⟩) (by assumption) ?r_19
            case hy_19 => (intro w_ hS_; (try dsimp only at hS_); go_simp; try with_reducible rfl)
            try simp only [Act.put, List.setIfInBounds_toArray, List.set_cons_zero, List.set_cons_succ]
            refine wpAnyH_done (by kernel_rfl) ?_ _
            all_goals go_wp2
            all_goals refine bodyPost_ret (results_cell2t rfl _ _ w.heap.size _ _ _ _ rfl (by exact setRow_heap _ _ _ _ _ _ ES.out) Tryz.underlying27 rfl (by kernel_rfl)) rfl ?_
            all_goals rw [HXe.out]
            all_goals exact badR_cm0 (below_row (below_drew EBl.out) (Nat.le_refl _) _)
          have hr2e : r = r2 := by rw [← hr2.out, if_neg (fun x => by cases x.2)]
          subst hr2e
          have HX2 : Hid (X = if cmdE (closeP x) ≠ 0 ∨ (shE (closeP x).shape ≠ 0 ∧ x.kind = 1) then (cm0, 0, 80) else (closeP x, en, 0)) := Lib.hid (HX.out.trans (if_neg (by rw [hrb.out]; omega)))
          have cmc := CMr.out.blo hbw
          have cdc := CDr.out.below hbw
          have s9 := (hbw.block _ (lt_of_block hsr.out)).trans hsr.out
          have b9 := hbr.out.trans (hbw.mono hbr.out.size)
          have e3 := cdc.c3
          rw [hrb.out] at e3
          have u0 : decide (0 ≤ rb) = false := decide_eq_false (by omega)
          have g0 : wc.cell? ⟨C, 0, none⟩ = some (.int .i64 x.kind) := (cmc.cell 0).trans rfl
          have CMc := Lib.hid cmc
          have S9 := Lib.hid s9
          have B9 := Lib.hid b9
          have hwc := lt_of_block cmc.blk
          clear cmc cdc s9 b9 HX
          by_cases hk1 : x.kind = 1
          · have tk : (x.kind == 1) = true := by simpa using hk1
            have HCL : Hid (closeP x = { x with shape := shapedP x.shape x.nodes x.time, nodes := 0, time := 0, hasTime := false }) := Lib.hid (by unfold closeP; rw [if_pos hk1])
            have hsh := Lib.hid (shaped_any x x.nodes x.time C Bo A c A2 c2 wc CMc.out hla)
            have g16 : wc.cell? ⟨C, 16, none⟩ = some (.int .i64 x.nodes) := (CMc.out.cell 16).trans rfl
            have g12 : wc.cell? ⟨C, 12, none⟩ = some (.int .i64 x.time) := (CMc.out.cell 12).trans rfl
            have hshl : (shapedP x.shape x.nodes x.time).alts.length ≤ 100000 := by unfold shapedP; (repeat' split) <;> first | exact hla | simp
            have LA : Hid (({ x with shape := shapedP x.shape x.nodes x.time, nodes := 0, time := 0, hasTime := false }).shape.alts.length ≤ 100000) := Lib.hid hshl
            have LB : Hid (({ x with shape := shapedP x.shape x.nodes x.time, nodes := 0, time := 0, hasTime := false }).after.length ≤ 100000) := Lib.hid hlb
            have HZy : Hid (CmSz { x with shape := shapedP x.shape x.nodes x.time, nodes := 0, time := 0, hasTime := false }) := HZ
            go_wp2_with (fail)
            refine hsh.out.mono ?_; rintro e w2 ⟨rfl, A', c', cm2, hz2, hlow2, hbl2⟩
            have v16 : w2.cell? ⟨C, 16, none⟩ = some (.int .i64 x.nodes) := (cm2.cell 16).trans rfl
            have v12 : w2.cell? ⟨C, 12, none⟩ = some (.int .i64 x.time) := (cm2.cell 12).trans rfl
            have v13 : w2.cell? ⟨C, 13, none⟩ = some (.bool x.hasTime) := (cm2.cell 13).trans rfl
            have vf : ∀ j, w2.frozen? ⟨C, j, none⟩ = false := fun j => fz_of cm2.blk
            have hl2 := lt_of_block cm2.blk
            have k3 : Kb (· = C) w2 (((w2.setCell ⟨C, 16, none⟩ (.int .i64 0)).setCell ⟨C, 12, none⟩ (.int .i64 0)).setCell ⟨C, 13, none⟩ (.bool false)) := Kb.set_ (S := (· = C)) (Kb.set_ (S := (· = C)) (Kb.set_ (S := (· = C)) (Kb.refl _ w2) (p := ⟨C, 16, none⟩) rfl _) (p := ⟨C, 12, none⟩) rfl _) (p := ⟨C, 13, none⟩) rfl _
            have CMX := Lib.hid (CmO.to (y := { x with shape := shapedP x.shape x.nodes x.time, nodes := 0, time := 0, hasTime := false }) cm2 (setCell_blk (k := 13) (a := .bool false) (setCell_blk (k := 12) (a := .int .i64 0) (setCell_blk (k := 16) (a := .int .i64 0) cm2.blk))) k3 rfl rfl)
            have SX := Lib.hid ((k3.block _ (by have := lt_of_block S9.out; omega) (by show ¬ w.heap.size = C; omega)).trans ((hlow2 _ hSC).trans S9.out))
            have BX := Lib.hid (B9.out.trans ((hbl2.mono (Nat.le_of_lt hSC)).trans (k3.below (B := w.heap.size) (fun k e => by have e2 : k = C := e; omega) (by have := lt_of_block S9.out; omega))))
            obtain ⟨W3, hW3⟩ : ∃ W3, Hid ((((w2.setCell ⟨C, 16, none⟩ (.int .i64 0)).setCell ⟨C, 12, none⟩ (.int .i64 0)).setCell ⟨C, 13, none⟩ (.bool false)) = W3) := ⟨_, rfl⟩
            rw [hW3.out] at CMX SX BX
            clear cm2 hz2 hlow2 hbl2 k3 hsh g16 g12 hshl
            have HYK : Hid (({ x with shape := shapedP x.shape x.nodes x.time, nodes := 0, time := 0, hasTime := false } : Cm).kind = x.kind) := Lib.hid rfl
            obtain ⟨y, hyy⟩ : ∃ y : Cm, { x with shape := shapedP x.shape x.nodes x.time, nodes := 0, time := 0, hasTime := false } = y := ⟨_, rfl⟩
            replace HCL : Hid (closeP x = y) := Lib.hid (HCL.out.trans hyy)
            replace LA : Hid (y.shape.alts.length ≤ 100000) := by rw [← hyy]; exact LA
            replace LB : Hid (y.after.length ≤ 100000) := by rw [← hyy]; exact LB
            replace HZy : Hid (CmSz y) := by rw [← hyy]; exact HZy
            replace HYK : Hid (y.kind = x.kind) := by rw [← hyy]; exact HYK
            replace CMX : Hid (CmO W3 C Bo y A' c' A2 c2) := by rw [← hyy]; exact CMX
            clear hyy
            go_upto_region 21 with (fail)
            rw [hW3.out]
            have hck := Lib.hid (chk_any8 y A' A2 c' c2 W3.heap.size W3 (CMX.out.at LA.out LB.out) (Nat.le_refl _) HZy.out)
            rw [cmV_is] at hck
            have EBX := Lib.hid CMX.out.blk
            obtain ⟨E, hE⟩ : ∃ E, Hid (cmdE y = E) := ⟨_, rfl⟩
            rw [hE.out] at hck
            go_wp2_with (refine wpList_load_row rfl 27 _ rfl C rfl 27 _ (0, 0) _ EBX.out Tryz.underlying27 rfl (by kernel_rfl) ?_)
            refine hck.out.mono ?_; rintro e w5 ⟨rfl, hb5⟩
            have cm5 := CMX.out.blo hb5
            have S5 := Lib.hid ((hb5.block _ (lt_of_block SX.out)).trans SX.out)
            have B5 := Lib.hid (BX.out.trans (hb5.mono BX.out.size))
            by_cases hE0 : E = 0
            case neg =>
              have tE : (E != 0) = true := by simpa using hE0
              have HXe : Hid (X = (cm0, 0, 80)) := Lib.hid (HX2.out.trans (if_pos (Or.inl (by rw [HCL.out, hE.out]; exact hE0))))
              clear hE0 cm5 hb5
              go_upto_region 22 with (fail)
              go_wp2_with (refine wpList_store_row rfl 27 _ _ rfl w.heap.size (cmA cm0 none 0 none 0) rfl rfl 27 _ S5.out (by kernel_rfl) rfl (cmA_one _ _ _ _ _) ?_)
              (try simp only [Exit.inBlock, Exit.then])
              refine bodyPost_ret (results_cell2t rfl _ _ w.heap.size _ _ _ _ rfl (setRow_heap _ _ _ _ _ _ S5.out) Tryz.underlying27 rfl (by kernel_rfl)) rfl ?_
              rw [HXe.out]
              exact badR_cm0 (below_row B5.out (Nat.le_refl _) _)
            subst hE0
            have hcap := (cm5.at LA.out LB.out).2.2.2.2.1
            have hshp := Lib.hid (shape_any (y).shape A' c' w5.heap.size w5 cm5.alts.reads (Nat.le_refl _) (by have := LA.out; omega) hcap)
            unfold shV at hshp
            have z5 : w5.cell? ⟨C, 5, none⟩ = some (.int .i64 (y).shape.kind) := (cm5.cell 5).trans rfl
            have z6 : w5.cell? ⟨C, 6, none⟩ = some (.slice A' (y).shape.alts.length c') := (cm5.cell 6).trans rfl
            have z7 : w5.cell? ⟨C, 7, none⟩ = some (.int .i64 (y).shape.mn) := (cm5.cell 7).trans rfl
            have z8 : w5.cell? ⟨C, 8, none⟩ = some (.int .i64 (y).shape.mx) := (cm5.cell 8).trans rfl
            have z9 : w5.cell? ⟨C, 9, none⟩ = some (.int .i64 (y).shape.wall) := (cm5.cell 9).trans rfl
            have CM5 := Lib.hid cm5
            obtain ⟨Z, hZ⟩ : ∃ Z, Hid (shE (y).shape = Z) := ⟨_, rfl⟩
            rw [hZ.out] at hshp
            clear cm5 hb5 hcap
            go_wp2_with (fail)
            refine hshp.out.mono ?_; rintro e w6 ⟨rfl, hb6⟩
            have cm6 := CM5.out.blo hb6
            have y0 : w6.cell? ⟨C, 0, none⟩ = some (.int .i64 x.kind) := by first | exact (cm6.cell 0).trans rfl | (rw [← HYK.out]; exact (cm6.cell 0).trans rfl)
            have S6 := Lib.hid ((hb6.block _ (lt_of_block S5.out)).trans S5.out)
            have B6 := Lib.hid (B5.out.trans (hb6.mono B5.out.size))
            have EB6 := Lib.hid cm6.blk
            have CM6 := Lib.hid cm6
            clear cm6 hb6 z5 z6 z7 z8 z9
            by_cases hZ0 : Z = 0
            case pos =>
              have HXe : Hid (X = (y, en, 0)) := Lib.hid (HX2.out.trans ((if_neg (by rw [HCL.out, hE.out, hZ.out]; rintro (h | h); exact h rfl; exact h.1 hZ0)).trans (by rw [HCL.out])))
              subst hZ0
              go_upto_region 23 with (fail)
              go_wp2_with (first
                | (refine wpList_load_row rfl 27 _ rfl C rfl 27 (cmA (y) A' c' A2 c2) (0, 0) _ EB6.out Tryz.underlying27 rfl (by kernel_rfl) ?_)
                | (refine wpList_store_row rfl 27 _ _ rfl w.heap.size (cmA (y) A' c' A2 c2) rfl rfl 27 _ S6.out (by kernel_rfl) rfl (cmA_one _ _ _ _ _) ?_))
              (try simp only [Exit.inBlock, Exit.then])
              refine bodyPost_ret (results_cell2t rfl _ _ w.heap.size _ _ _ _ rfl (setRow_heap _ _ _ _ _ _ S6.out) Tryz.underlying27 rfl (by kernel_rfl)) rfl ?_
              rw [HXe.out]
              exact ⟨A', c', A2, c2, by first | rfl | rw [cmV_is], (CM6.out.row (by omega) _).at LA.out LB.out, HZy.out, below_row B6.out (Nat.le_refl _) _⟩
            have tZ : (Z != 0) = true := by simpa using hZ0
            have HXe : Hid (X = (cm0, 0, 80)) := Lib.hid (HX2.out.trans (if_pos (Or.inr ⟨by rw [HCL.out, hZ.out]; exact hZ0, hk1⟩)))
            clear hZ0
            go_upto_region 22 with (fail)
            go_wp2_with (refine wpList_store_row rfl 27 _ _ rfl w.heap.size (cmA cm0 none 0 none 0) rfl rfl 27 _ S6.out (by kernel_rfl) rfl (cmA_one _ _ _ _ _) ?_)
            (try simp only [Exit.inBlock, Exit.then])
            refine bodyPost_ret (results_cell2t rfl _ _ w.heap.size _ _ _ _ rfl (setRow_heap _ _ _ _ _ _ S6.out) Tryz.underlying27 rfl (by kernel_rfl)) rfl ?_
            rw [HXe.out]
            exact badR_cm0 (below_row B6.out (Nat.le_refl _) _)
          · have tk : (x.kind == 1) = false := by simpa using hk1
            have HCL : Hid (closeP x = x) := Lib.hid (by unfold closeP; rw [if_neg hk1])
            have LA := Lib.hid hla
            have LB := Lib.hid hlb
            have HZy := HZ
            have HYK : Hid (x.kind = x.kind) := Lib.hid rfl
            have CMX := CMc
            have SX := S9
            have BX := B9
            have hck := Lib.hid (chk_any8 x A A2 c c2 wc.heap.size wc (CMX.out.at LA.out LB.out) (Nat.le_refl _) HZy.out)
            rw [cmV_is] at hck
            have EBX := Lib.hid CMX.out.blk
            obtain ⟨E, hE⟩ : ∃ E, Hid (cmdE x = E) := ⟨_, rfl⟩
            rw [hE.out] at hck
            go_wp2_with (refine wpList_load_row rfl 27 _ rfl C rfl 27 _ (0, 0) _ EBX.out Tryz.underlying27 rfl (by kernel_rfl) ?_)
            refine hck.out.mono ?_; rintro e w5 ⟨rfl, hb5⟩
            have cm5 := CMX.out.blo hb5
            have S5 := Lib.hid ((hb5.block _ (lt_of_block SX.out)).trans SX.out)
            have B5 := Lib.hid (BX.out.trans (hb5.mono BX.out.size))
            by_cases hE0 : E = 0
            case neg =>
              have tE : (E != 0) = true := by simpa using hE0
              have HXe : Hid (X = (cm0, 0, 80)) := Lib.hid (HX2.out.trans (if_pos (Or.inl (by rw [HCL.out, hE.out]; exact hE0))))
              clear hE0 cm5 hb5
              go_upto_region 22 with (fail)
              go_wp2_with (refine wpList_store_row rfl 27 _ _ rfl w.heap.size (cmA cm0 none 0 none 0) rfl rfl 27 _ S5.out (by kernel_rfl) rfl (cmA_one _ _ _ _ _) ?_)
              (try simp only [Exit.inBlock, Exit.then])
              refine bodyPost_ret (results_cell2t rfl _ _ w.heap.size _ _ _ _ rfl (setRow_heap _ _ _ _ _ _ S5.out) Tryz.underlying27 rfl (by kernel_rfl)) rfl ?_
              rw [HXe.out]
              exact badR_cm0 (below_row B5.out (Nat.le_refl _) _)
            subst hE0
            have hcap := (cm5.at LA.out LB.out).2.2.2.2.1
            have hshp := Lib.hid (shape_any (x).shape A c w5.heap.size w5 cm5.alts.reads (Nat.le_refl _) (by have := LA.out; omega) hcap)
            unfold shV at hshp
            have z5 : w5.cell? ⟨C, 5, none⟩ = some (.int .i64 (x).shape.kind) := (cm5.cell 5).trans rfl
            have z6 : w5.cell? ⟨C, 6, none⟩ = some (.slice A (x).shape.alts.length c) := (cm5.cell 6).trans rfl
            have z7 : w5.cell? ⟨C, 7, none⟩ = some (.int .i64 (x).shape.mn) := (cm5.cell 7).trans rfl
            have z8 : w5.cell? ⟨C, 8, none⟩ = some (.int .i64 (x).shape.mx) := (cm5.cell 8).trans rfl
            have z9 : w5.cell? ⟨C, 9, none⟩ = some (.int .i64 (x).shape.wall) := (cm5.cell 9).trans rfl
            have CM5 := Lib.hid cm5
            obtain ⟨Z, hZ⟩ : ∃ Z, Hid (shE (x).shape = Z) := ⟨_, rfl⟩
            rw [hZ.out] at hshp
            clear cm5 hb5 hcap
            go_wp2_with (fail)
            refine hshp.out.mono ?_; rintro e w6 ⟨rfl, hb6⟩
            have cm6 := CM5.out.blo hb6
            have y0 : w6.cell? ⟨C, 0, none⟩ = some (.int .i64 x.kind) := by first | exact (cm6.cell 0).trans rfl | (rw [← HYK.out]; exact (cm6.cell 0).trans rfl)
            have S6 := Lib.hid ((hb6.block _ (lt_of_block S5.out)).trans S5.out)
            have B6 := Lib.hid (B5.out.trans (hb6.mono B5.out.size))
            have EB6 := Lib.hid cm6.blk
            have CM6 := Lib.hid cm6
            clear cm6 hb6 z5 z6 z7 z8 z9
            by_cases hZ0 : Z = 0
            case pos =>
              have HXe : Hid (X = (x, en, 0)) := Lib.hid (HX2.out.trans ((if_neg (by rw [HCL.out, hE.out, hZ.out]; rintro (h | h); exact h rfl; exact h.1 hZ0)).trans (by rw [HCL.out])))
              subst hZ0
              go_upto_region 23 with (fail)
              go_wp2_with (first
                | (refine wpList_load_row rfl 27 _ rfl C rfl 27 (cmA (x) A c A2 c2) (0, 0) _ EB6.out Tryz.underlying27 rfl (by kernel_rfl) ?_)
                | (refine wpList_store_row rfl 27 _ _ rfl w.heap.size (cmA (x) A c A2 c2) rfl rfl 27 _ S6.out (by kernel_rfl) rfl (cmA_one _ _ _ _ _) ?_))
              (try simp only [Exit.inBlock, Exit.then])
              refine bodyPost_ret (results_cell2t rfl _ _ w.heap.size _ _ _ _ rfl (setRow_heap _ _ _ _ _ _ S6.out) Tryz.underlying27 rfl (by kernel_rfl)) rfl ?_
              rw [HXe.out]
              exact ⟨A, c, A2, c2, by first | rfl | rw [cmV_is], (CM6.out.row (by omega) _).at LA.out LB.out, HZy.out, below_row B6.out (Nat.le_refl _) _⟩
            have tZ : (Z != 0) = true := by simpa using hZ0
            have HXe : Hid (X = (x, en, 0)) := Lib.hid (HX2.out.trans ((if_neg (by rw [HCL.out, hE.out]; rintro (h | h); exact h rfl; exact hk1 h.2)).trans (by rw [HCL.out])))
            clear hZ0
            go_upto_region 23 with (fail)
            go_wp2_with (first
              | (refine wpList_load_row rfl 27 _ rfl C rfl 27 (cmA (x) A c A2 c2) (0, 0) _ EB6.out Tryz.underlying27 rfl (by kernel_rfl) ?_)
              | (refine wpList_store_row rfl 27 _ _ rfl w.heap.size (cmA (x) A c A2 c2) rfl rfl 27 _ S6.out (by kernel_rfl) rfl (cmA_one _ _ _ _ _) ?_))
            (try simp only [Exit.inBlock, Exit.then])
            refine bodyPost_ret (results_cell2t rfl _ _ w.heap.size _ _ _ _ rfl (setRow_heap _ _ _ _ _ _ S6.out) Tryz.underlying27 rfl (by kernel_rfl)) rfl ?_
            rw [HXe.out]
            exact ⟨A, c, A2, c2, by first | rfl | rw [cmV_is], (CM6.out.row (by omega) _).at LA.out LB.out, HZy.out, below_row B6.out (Nat.le_refl _) _⟩
theorem cparse_any (s : ByteArray) (w : World) : Calls Tryz.prog 15 #[.string s] w (RetCp w (cparseP s)) := by
  rcases line_facts s with ⟨er, h1, h2, _⟩ | ⟨h1, h2, h3, h4, h5, _, _⟩
  · exact cparse_bad s w er h1 h2
  · exact cparse_good s w h1 h2 h3 h4 h5
end Go.Proofs.YtjmhaoplablmnaaGreatDoor
