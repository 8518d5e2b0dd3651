/- Bundle P7. -/
import Derived.Test.YtjmhaoplablmnaaGreatDoorP6s
import Derived.Test.YtjmhaoplablmnaaGreatDoorLexL4s
namespace Go.Proofs.YtjmhaoplablmnaaGreatDoor
set_option linter.unusedSimpArgs false
set_option maxRecDepth 100000
set_option linter.unusedVariables false
set_option linter.unusedSimpArgs false
open Go.RowKit
theorem Tryz.infoF8 : (Tryz.prog.info? 73).map (fun i => (i.zero, i.size, i.bytes)) = some (some (.agg #[.string ⟨#[]⟩, .nilIface]), 2, 32) := by kernel_rfl
theorem app_f8 {w : World} {ops : Array Oper} {rest : List Oper} {o : Oper} {a : Act} {Q : Exit → Act → World → Prop} {s x : Operand}
    (hgd : o.guard = none) (ho : o.op = .call { callee := .builtin .append, args := #[s, x], argTypes := #[69, 69] })
    (base : Nat) {v : Value} {n : Nat} {xs : List Fd} (hs : a.eval s = v) (hown : Owns w base 73 2 v n (recs fdC xs))
    {B : Nat} {A : Option Addr} {m c : Nat} {news : List Fd} (hx : a.eval x = .slice A m c) (hr : Reads w B 2 A m (recs fdC news))
    (hlen : n + m ≤ 1000000) (hbase : base ≤ w.heap.size)
    (h : ∀ v' w', Owns w' base 73 2 v' (n + m) (recs fdC (xs ++ news)) → AppKeeps base v w w' → (v'.ownBlock = v.ownBlock ∨ v'.ownBlock = some w.heap.size) → wpList Tryz.prog ops Q rest (a.put o.dst v') w') : wpList Tryz.prog ops Q (o :: rest) a w :=
  wp_app hgd ho Tryz.underlying69 Tryz.infoF8 rfl (by omega) base hs hown hx hr (recs_one fdC_one _) (by simp only [maxLen]; omega) (by omega) hbase (fun v' w' h1 => h v' w' (by rw [recs_append]; exact h1))
structure Lp (w : World) (C Bo : Nat) (x : Cm) (A : Option Addr) (c : Nat) (A2 : Option Addr) (c2 : Nat) (had : List Fd) (A3 : Option Addr) (n3 c3 : Nat) : Prop where
  cm : CmO w C Bo x A c A2 c2
  hd : Owns w Bo 73 2 (.slice A3 n3 c3) n3 (recs fdC had)
  ne1 : ∀ a b, A = some a → A3 = some b → a.block ≠ b.block
  ne2 : ∀ a b, A2 = some a → A3 = some b → a.block ≠ b.block
  lo3 : ∀ a, A3 = some a → a.block < w.heap.size
  ge : (∀ a, A = some a → Bo ≤ a.block) ∧ (∀ a, A2 = some a → Bo ≤ a.block)
theorem Lp.kb {w w' : World} {C Bo : Nat} {x : Cm} {A : Option Addr} {c : Nat} {A2 : Option Addr} {c2 : Nat} {had : List Fd} {A3 : Option Addr} {n3 c3 : Nat} {R : Nat} (h : Lp w C Bo x A c A2 c2 had A3 n3 c3) (hk : Kb (· = R) w w') (hR : R < C) : Lp w' C Bo x A c A2 c2 had A3 n3 c3 := by
  have hB : ∀ k, (k = R) → k < Bo := fun k e => by have := h.cm.lt; omega
  refine ⟨⟨(hk.block C (lt_of_block h.cm.blk) (fun e => ?_)).trans h.cm.blk, h.cm.alts.kb hk hB, h.cm.aft.kb hk hB, h.cm.lt, h.cm.ne, ⟨fun a ha => Nat.lt_of_lt_of_le (h.cm.lo.1 a ha) hk.size, fun a ha => Nat.lt_of_lt_of_le (h.cm.lo.2 a ha) hk.size⟩, Nat.le_trans h.cm.hi hk.size⟩, h.hd.kb hk hB, h.ne1, h.ne2, fun a ha => Nat.lt_of_lt_of_le (h.lo3 a ha) hk.size, h.ge⟩
  have e2 : C = R := e
  omega
theorem Lp.put {w w' : World} {C Bo : Nat} {x y : Cm} {A : Option Addr} {c : Nat} {A2 : Option Addr} {c2 : Nat} {had : List Fd} {A3 : Option Addr} {n3 c3 : Nat} (h : Lp w C Bo x A c A2 c2 had A3 n3 c3) {A' : Option Addr} {c' : Nat} {A2' : Option Addr} {c2' : Nat}
    (hc : CmO w' C Bo y A' c' A2' c2') (hk : PutK w C A A2 w') (h1 : ∀ a', A' = some a' → w.heap.size ≤ a'.block ∨ ∃ a, A = some a ∧ a.block = a'.block) (h2 : ∀ a', A2' = some a' → w.heap.size ≤ a'.block ∨ ∃ a, A2 = some a ∧ a.block = a'.block) :
    Lp w' C Bo y A' c' A2' c2' had A3 n3 c3 := by
  refine ⟨hc, h.hd.keep (fun g hg hB hl => hk.block g hl ?_), ?_, ?_, fun a ha => Nat.lt_of_lt_of_le (h.lo3 a ha) hk.size, ⟨fun a ha => ?_, fun a ha => ?_⟩⟩
  · obtain ⟨a, ha, e⟩ := own_is8 hg
    rintro (e2 | ⟨q, hq, e2⟩ | ⟨q, hq, e2⟩)
    · have := h.cm.lt; omega
    · exact h.ne1 q a hq ha (e2.trans e.symm)
    · exact h.ne2 q a hq ha (e2.trans e.symm)
  · intro a b ha hb
    rcases h1 a ha with e | ⟨q, hq, e⟩
    · have := h.lo3 b hb; omega
    · rw [← e]; exact h.ne1 q b hq hb
  · intro a b ha hb
    rcases h2 a ha with e | ⟨q, hq, e⟩
    · have := h.lo3 b hb; omega
    · rw [← e]; exact h.ne2 q b hq hb
  · rcases h1 a ha with e | ⟨q, hq, e⟩
    · have := h.cm.hi; omega
    · rw [← e]; exact h.ge.1 q hq
  · rcases h2 a ha with e | ⟨q, hq, e⟩
    · have := h.cm.hi; omega
    · rw [← e]; exact h.ge.2 q hq
theorem Lp.app {w w' : World} {C Bo : Nat} {x : Cm} {A : Option Addr} {c : Nat} {A2 : Option Addr} {c2 : Nat} {had : List Fd} {A3 : Option Addr} {n3 c3 : Nat} (h : Lp w C Bo x A c A2 c2 had A3 n3 c3) {had' : List Fd} {A' : Option Addr} {n' c' : Nat}
    (ho : Owns w' Bo 73 2 (.slice A' n' c') n' (recs fdC had')) (hk : AppKeeps Bo (.slice A3 n3 c3) w w') (hob : (Value.slice A' n' c').ownBlock = (Value.slice A3 n3 c3).ownBlock ∨ (Value.slice A' n' c').ownBlock = some w.heap.size) (hn : 0 < n') :
    Lp w' C Bo x A c A2 c2 had' A' n' c' := by
  have hnew : ∀ a', A' = some a' → a'.block = w.heap.size ∨ ∃ a, A3 = some a ∧ a.block = a'.block := by
    intro a' e
    rcases hob with e2 | e2
    · right; exact own_is8 (n := n3) (c := c3) (by rw [← e2, e]; rfl)
    · left; rw [e] at e2; simpa [Value.ownBlock] using e2
  have hsz := hk.hsize
  refine ⟨⟨(hk.block_low8 (lt_of_block h.cm.blk) h.cm.lt).trans h.cm.blk, h.cm.alts.app8 hk (fun g hg => ?_), h.cm.aft.app8 hk (fun g hg => ?_), h.cm.lt, h.cm.ne, ⟨fun a ha => Nat.lt_of_lt_of_le (h.cm.lo.1 a ha) hsz, fun a ha => Nat.lt_of_lt_of_le (h.cm.lo.2 a ha) hsz⟩, Nat.le_trans h.cm.hi hsz⟩, ho, ?_, ?_, ?_, h.ge⟩
  · obtain ⟨a, ha, e⟩ := own_is8 hg
    exact own_ne8 (fun b hb => by rw [← e]; exact (h.ne1 a b ha hb).symm)
  · obtain ⟨a, ha, e⟩ := own_is8 hg
    exact own_ne8 (fun b hb => by rw [← e]; exact (h.ne2 a b ha hb).symm)
  · intro a b ha hb
    rcases hnew b hb with e | ⟨q, hq, e⟩
    · have := h.cm.lo.1 a ha; omega
    · rw [← e]; exact h.ne1 a q ha hq
  · intro a b ha hb
    rcases hnew b hb with e | ⟨q, hq, e⟩
    · have := h.cm.lo.2 a ha; omega
    · rw [← e]; exact h.ne2 a q ha hq
  · intro a ha
    obtain ⟨g, c'', e, h1, h2, _⟩ := ho.at_ hn
    injection e with e1 e2 e3
    rw [ha] at e1
    injection e1 with e1
    rw [e1]; exact h2
theorem PutK.cd {w w' : World} {C Bo : Nat} {x : Cm} {A : Option Addr} {c : Nat} {A2 : Option Addr} {c2 : Nat} {had : List Fd} {A3 : Option Addr} {n3 c3 : Nat} (h : Lp w C Bo x A c A2 c2 had A3 n3 c3) (hk : PutK w C A A2 w') : Kb (fun b => C ≤ b) w w' :=
  hk.mono (fun b hb => by
    have hC := h.cm.lt
    rcases hb with e | ⟨a, ha, e⟩ | ⟨a, ha, e⟩
    · exact Nat.le_of_eq e.symm
    · have := h.ge.1 a ha; omega
    · have := h.ge.2 a ha; omega)
theorem field_some {ts : List Tk} {en : Int} {k : Int} {had : List Fd} {r : Rr} (hen : 0 ≤ en) (hts : ∀ t ∈ ts, 0 ≤ t.at_) (hb : (fieldP ts en k had r).2.bad < 0) : (fieldP ts en k had r).1.2 ≠ .none := by
  have hplace : ∀ i, 0 ≤ placeP ts en i := by
    intro i
    unfold placeP
    split
    · rename_i t ht; exact hts t (List.mem_of_getElem? ht)
    · exact hen
  unfold fieldP at hb ⊢
  split
  · rename_i h
    rw [h] at hb
    dsimp only at hb
    unfold failP at hb
    split at hb
    · omega
    · have := hplace r.at_; dsimp only at hb; omega
  · rename_i t h
    obtain ⟨T, U, e⟩ := valueP_iface ts en t.text.toList (signP ts en [61] ⟨r.at_ + 1, r.bad⟩)
    dsimp only
    intro hn
    have hv : (valueP ts en t.text.toList (signP ts en [61] ⟨r.at_ + 1, r.bad⟩)).1 = .none := by
      split at hn <;> exact hn
    rw [hv] at e; cases e
end Go.Proofs.YtjmhaoplablmnaaGreatDoor
namespace Go.Proofs.YtjmhaoplablmnaaGreatDoor
set_option linter.unusedSimpArgs false
set_option maxRecDepth 100000
set_option linter.unusedVariables false
set_option linter.unusedSimpArgs false
open Go.RowKit
section
variable {ts : List Tk} {en : Int}
theorem failP_at (r : Rr) : (failP ts en r).at_ = r.at_ := by unfold failP; split <;> rfl
theorem takeP_le (k : Int) (p : Tk → Bool) (r : Rr) : r.at_ ≤ (takeP ts en k p r).2.2.at_ := by
  unfold takeP
  split
  · exact Nat.le_succ _
  · exact Nat.le_of_eq (failP_at r).symm
theorem signP_le (s : List UInt8) (r : Rr) : r.at_ ≤ (signP ts en s r).at_ := takeP_le _ _ _
theorem numR_le (p : Int → Bool) (r : Rr) : r.at_ ≤ (numR ts en p r).2.at_ := takeP_le _ _ _
theorem lengthP_le (r : Rr) : r.at_ ≤ (lengthP ts en r).2.at_ := by
  unfold lengthP
  split
  · exact takeP_le _ _ _
  · exact numR_le _ _
theorem valueP_le (f : List UInt8) (r : Rr) : r.at_ ≤ (valueP ts en f r).2.at_ := by
  unfold valueP
  repeat' split
  all_goals dsimp only
  · exact takeP_le _ _ r
  · exact numR_le _ r
  · exact numR_le _ r
  · exact numR_le _ r
  · exact numR_le _ r
  · exact Nat.le_trans (numR_le (fun n => inB n 1 48) r) (Nat.le_trans (signP_le _ _) (lengthP_le _))
  · exact Nat.le_trans (numR_le (fun n => inB n 1 48) r) (Nat.le_trans (signP_le _ _) (numR_le _ _))
  · exact lengthP_le r
theorem place_nn (hen : 0 ≤ en) (hts : ∀ t ∈ ts, 0 ≤ t.at_) (i : Nat) : 0 ≤ placeP ts en i := by
  unfold placeP
  split
  · rename_i t ht; exact hts t (List.mem_of_getElem? ht)
  · exact hen
theorem failP_nn (hen : 0 ≤ en) (hts : ∀ t ∈ ts, 0 ≤ t.at_) (r : Rr) : 0 ≤ (failP ts en r).bad := by
  unfold failP
  split
  · assumption
  · exact place_nn hen hts _
theorem field_le (hen : 0 ≤ en) (hts : ∀ t ∈ ts, 0 ≤ t.at_) {k : Int} {had : List Fd} {r : Rr} (hb : (fieldP ts en k had r).2.bad < 0) : r.at_ + 1 ≤ (fieldP ts en k had r).2.at_ := by
  unfold fieldP at hb ⊢
  split
  · rename_i h
    rw [h] at hb
    have := failP_nn hen hts r
    dsimp only at hb; omega
  · rename_i t h
    rw [h] at hb
    dsimp only at hb ⊢
    have h1 := signP_le (ts := ts) (en := en) [61] ⟨r.at_ + 1, r.bad⟩
    have h2 := valueP_le (ts := ts) (en := en) t.text.toList (signP ts en [61] ⟨r.at_ + 1, r.bad⟩)
    split
    · rename_i hc
      rw [if_pos hc] at hb
      dsimp only at hb
      have := failP_nn hen hts ⟨(signP ts en [61] ⟨r.at_ + 1, r.bad⟩).at_, (valueP ts en t.text.toList (signP ts en [61] ⟨r.at_ + 1, r.bad⟩)).2.bad⟩
      omega
    · dsimp only at h1 ⊢; omega
theorem takeP_sz (hs : ∀ t ∈ ts, t.text.size ≤ 100000) (k : Int) (p : Tk → Bool) (r : Rr) : (takeP ts en k p r).1.text.size ≤ 100000 := by
  unfold takeP
  split
  · rename_i t h
    unfold mayP at h
    split at h
    · split at h
      · rename_i u hu
        split at h
        · injection h with h
          subst h
          exact hs u (List.mem_of_getElem? hu)
        · cases h
      · cases h
    · cases h
  · exact Nat.zero_le _
theorem field_sz (hs : ∀ t ∈ ts, t.text.size ≤ 100000) {k : Int} {had : List Fd} {r : Rr} {s : ByteArray} (h : (fieldP ts en k had r).1.2 = .text s) : s.size ≤ 100000 := by
  have hv : ∀ f r, (valueP ts en f r).1 = .text s → s.size ≤ 100000 := by
    intro f r hv
    unfold valueP at hv
    repeat' split at hv
    all_goals first
      | (injection hv with hv; rw [← hv]; exact takeP_sz hs _ _ _)
      | cases hv
  unfold fieldP at h
  split at h
  · cases h
  · dsimp only at h
    split at h <;> exact hv _ _ h
end
theorem putC_sz {c : Cm} {f : Fd} (h : CmSz c) (hf : ∀ s, f.2 = .text s → s.size ≤ 100000) : CmSz (putC c f) := by
  obtain ⟨h1, h2, h3⟩ := h
  obtain ⟨fn, v⟩ := f
  unfold putC CmSz
  cases v with
  | none => exact ⟨h1, h2, h3⟩
  | text s =>
    have := hf s rfl
    dsimp only
    split
    · exact ⟨h1, by dsimp only; omega, h3⟩
    · exact ⟨h1, h2, by dsimp only; omega⟩
  | pair a b => exact ⟨h1, h2, h3⟩
  | rng a b => exact ⟨h1, h2, h3⟩
  | count n =>
    dsimp only
    repeat' split
    all_goals exact ⟨h1, h2, h3⟩
theorem putC_len (c : Cm) (f : Fd) : (putC c f).shape.alts.length ≤ c.shape.alts.length + 1 ∧ (putC c f).after.length ≤ c.after.length + 1 := by
  obtain ⟨fn, v⟩ := f
  unfold putC
  cases v with
  | none => exact ⟨Nat.le_succ _, Nat.le_succ _⟩
  | text s => dsimp only; split <;> exact ⟨Nat.le_succ _, Nat.le_succ _⟩
  | pair a b => exact ⟨by simp, Nat.le_succ _⟩
  | rng a b => exact ⟨Nat.le_succ _, Nat.le_succ _⟩
  | count n =>
    dsimp only
    repeat' split
    all_goals first
      | exact ⟨Nat.le_succ _, Nat.le_succ _⟩
      | exact ⟨Nat.le_succ _, by simp⟩
theorem headP_nil (ts : List Tk) (en : Int) (r : Rr) : (headP ts en r).1.shape.alts = [] ∧ (headP ts en r).1.after = [] := by
  unfold headP subjP
  repeat' split
  all_goals exact ⟨rfl, rfl⟩
theorem headP_sz {ts : List Tk} {en : Int} (hs : ∀ t ∈ ts, t.text.size ≤ 100000) (r : Rr) : CmSz (headP ts en r).1 := by
  have h0 : (⟨#[]⟩ : ByteArray).size ≤ 1000000 := Nat.zero_le _
  unfold headP
  split
  · exact ⟨h0, h0, h0⟩
  · rename_i t h
    unfold subjP
    split
    · refine ⟨?_, h0, h0⟩
      have := takeP_sz (en := en) hs (if seesP ts 4 ⟨r.at_ + 1, r.bad⟩ = true then 4 else 1) (fun t => nameB t.text) ⟨r.at_ + 1, r.bad⟩
      exact Nat.le_trans this (by omega)
    · repeat' split
      all_goals exact ⟨h0, h0, h0⟩
theorem loopP_stop {ts : List Tk} {en : Int} {n : Nat} {c : Cm} {had : List Fd} {fr : Bool} {r : Rr} (h : ¬ (r.bad < 0 ∧ r.at_ < ts.length)) : loopP ts en n c had fr r = (c, fr, r) := by
  cases n with
  | zero => rfl
  | succ n => unfold loopP; rw [if_neg h]
theorem loopP_go {ts : List Tk} {en : Int} {n : Nat} {c : Cm} {had : List Fd} {fr : Bool} {r : Rr} (h1 : r.bad < 0) (h2 : r.at_ < ts.length) :
    loopP ts en (n + 1) c had fr r = loopP ts en n (if (fieldP ts en c.kind had r).2.bad < 0 then putC c (fieldP ts en c.kind had r).1 else c) (had ++ [(fieldP ts en c.kind had r).1]) (fr || ((fieldP ts en c.kind had r).1.1.toList == bFrom)) (fieldP ts en c.kind had r).2 := by
  conv => lhs; unfold loopP
  rw [if_pos ⟨h1, h2⟩]
def RetCp (w : World) (x : Cm × Int × Int) (e : Ending) (w' : World) : Prop :=
  ∃ A c A2 c2, e = .returned (.tuple #[cmV x.1 A c A2 c2, .int .i64 x.2.1, .int .i64 x.2.2]) ∧ CmAt w' w'.heap.size x.1 A c A2 c2 ∧ CmSz x.1 ∧ Below w.heap.size w w'
theorem results_cell2t {P : Program} {fn : Func} {p t u : Tmp} {ty : TypeId} (h : fn.results = #[.cell p ty, .tmp t, .tmp u]) (tmps : Array Value) (w : World) (g : Nat) (tt : TypeId) (cs : Array Value) (fr : Nat × Nat) (d : TypeDesc)
    (hp : tmps.getD p undef = .pointer (some ⟨g, 0, none⟩)) (hg : w.heap[g]? = some (.cells cs tt fr))
    (hu : P.underlying ty = some d) (hd : (match d with | .struct _ | .array _ _ => true | _ => false) = true) (hi : (P.info? ty).map (·.size) = some cs.size) :
    (results fn tmps).run P w = .ok (.tuple #[.agg cs, tmps.getD t undef, tmps.getD u undef]) w := by
  have hp' : tmps[p]?.getD undef = .pointer (some ⟨g, 0, none⟩) := by simpa using hp
  simp [results, h, hp', asAddr, run_loadVar_row w g tt ty cs fr d hg hu hd hi]
theorem line_facts (s : ByteArray) : (∃ er, (tokP s).2.2 = er ∧ er ≠ 0 ∧ (tokP s).1 = []) ∨ ((tokP s).2.2 = 0 ∧ (tokP s).1.length ≤ 400 ∧ 0 ≤ (tokP s).2.1 ∧ (∀ t ∈ (tokP s).1, t.text.size ≤ 100000) ∧ (∀ t ∈ (tokP s).1, 0 ≤ t.at_) ∧ (∀ t ∈ (tokP s).1, t.at_ ≤ (tokP s).2.1) ∧ (tokP s).2.1 = ((runes (bl s)).length : Int)) := by
  rcases tokP_cases s with ⟨ts, h1, h2, h3⟩ | ⟨a, er, h1, h2⟩
  · right
    obtain ⟨q1, q2⟩ := line_small h1 h2
    rw [h3]
    refine ⟨rfl, q1, by dsimp only; omega, fun t ht => by have := (q2 t ht).1; omega, fun t ht => ?_, fun t ht => ?_, rfl⟩
    · obtain ⟨k, hk⟩ := List.mem_iff_getElem?.1 ht
      obtain ⟨a, ha, hb, _⟩ := lexP_places h2 k t hk
      omega
    · obtain ⟨k, hk⟩ := List.mem_iff_getElem?.1 ht
      obtain ⟨a, ha, hb, _⟩ := lexP_places h2 k t hk
      dsimp only; omega
  · left
    exact ⟨er, by rw [h2], h1, by rw [h2]⟩
end Go.Proofs.YtjmhaoplablmnaaGreatDoor
