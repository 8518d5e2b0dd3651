/- Layer 8: cmd.Show. -/
import Derived.Test.YtjmhaoplablmnaaGreatDoorP9s
import Derived.Test.YtjmhaoplablmnaaGreatDoorP6s
import Derived.Deep.DeepCutAuto
import Derived.Deep.CutBlock
import Derived.BigRegion
namespace Go.Proofs.YtjmhaoplablmnaaGreatDoor
set_option linter.unusedVariables false
set_option linter.unusedSimpArgs false
open Go.RowKit
theorem OutW.at_ {W w : World} {P : Nat} {l : List ByteArray} {b0 : Nat} {cs : Array Value} {T : TypeId} (h : OutW W w P l b0 cs T) {j : Nat} {v : Value} (e : cs[j]? = some v) : w.cell? ⟨b0, j, none⟩ = some v := (h.cell j).trans e
theorem OutW.start0 {W w : World} {P g : Nat} {s : ByteArray} {b0 : Nat} {cs : Array Value} {T : TypeId} (hb : Below W.heap.size W w) (h0 : W.heap[b0]? = some (.cells cs T (0, 0))) (hP : W.heap.size ≤ P) (hg : W.heap.size ≤ g) (hne : g ≠ P)
    (hp : w.heap[P]? = some (.cells #[.slice (some ⟨g, 0, none⟩) 1 1] 45 (0, 0))) (hr : w.heap[g]? = some (.cells #[.string s] 9 (0, 0))) : OutW W w P [s] b0 cs T := by
  have hb0 := lt_of_block h0
  have hPl := lt_of_block hp
  have hgl := lt_of_block hr
  refine ⟨⟨_, ⟨by rw [Lib.cell_of_heap hp]; rfl, hp, ?_, hPl, fun q hq => ?_⟩, fun q hq => ?_⟩, hb, hP, (hb.block b0 hb0).trans h0, by omega⟩
  · exact .inl ⟨by simp [strs], .inr ⟨g, 1, #[.string s], rfl, Nat.zero_le _, hr, Nat.le_refl _, by simp [maxLen], by simp, by simp [strs]⟩⟩
  · have : g = q := Option.some.inj hq
    subst this
    exact ⟨hne, hgl⟩
  · have : g = q := Option.some.inj hq
    subst this
    exact ⟨hg, by omega⟩
section
variable {W w1 w2 : World} {K : ByteArray} {b0 : Nat} {cs : Array Value} {T : TypeId}
theorem OutW.startA (h1 : Below W.heap.size W w1) (h2 : Below w1.heap.size w1 w2) (h0 : W.heap[b0]? = some (.cells cs T (0, 0))) (hp : w2.heap[w1.heap.size]? = some (.cells #[.slice none 0 0] 45 (0, 0))) :
    OutW W ((w2.setCell ⟨w1.heap.size, 0, none⟩ (.slice (some ⟨w2.heap.size, 0, none⟩) 1 1)).alloc (.cells #[.string K] 9)) w1.heap.size [K] b0 cs T := by
  have hz := h1.size
  have hl := lt_of_block hp
  have hz2 := h2.size
  have g1 : (w2.setCell ⟨w1.heap.size, 0, none⟩ (.slice (some ⟨w2.heap.size, 0, none⟩) 1 1)).heap[w1.heap.size]? = some (.cells #[.slice (some ⟨w2.heap.size, 0, none⟩) 1 1] 45 (0, 0)) := by simp [World.setCell, Array.getElem?_modify, hp]
  have hs : (w2.setCell ⟨w1.heap.size, 0, none⟩ (.slice (some ⟨w2.heap.size, 0, none⟩) 1 1)).heap.size = w2.heap.size := by simp [World.setCell]
  refine OutW.start0 (g := w2.heap.size) (((h1.trans (h2.mono hz)).setCell (by exact hz) _).alloc (by rw [hs]; omega) _) h0 hz (by omega) (by omega) ((Below.heap_alloc _ _ _ (by rw [hs]; exact hl)).trans g1) ?_
  have := heap_alloc_new (w2.setCell ⟨w1.heap.size, 0, none⟩ (.slice (some ⟨w2.heap.size, 0, none⟩) 1 1)) (.cells #[.string K] 9)
  rwa [hs] at this
theorem OutW.startB (h1 : Below W.heap.size W w1) (h2 : Below w1.heap.size w1 w2) (h0 : W.heap[b0]? = some (.cells cs T (0, 0))) :
    OutW W ((w2.alloc (.cells #[.string K] 9)).alloc (.cells #[.slice (some ⟨w2.heap.size, 0, none⟩) 1 1] 45)) (w2.heap.size + 1) [K] b0 cs T := by
  have hz := h1.size
  have hz2 := h2.size
  refine OutW.start0 (g := w2.heap.size) (((h1.trans (h2.mono hz)).alloc (by omega) _).alloc (by simp; omega) _) h0 (by omega) (by omega) (by omega) ?_ ?_
  · have := heap_alloc_new (w2.alloc (.cells #[.string K] 9)) (.cells #[.slice (some ⟨w2.heap.size, 0, none⟩) 1 1] 45)
    rwa [World.size_alloc] at this
  · exact (Below.heap_alloc _ _ _ (by simp)).trans (heap_alloc_new w2 _)
theorem OutW.startC (h1 : Below W.heap.size W w1) (h2 : Below w1.heap.size w1 w2) (h0 : W.heap[b0]? = some (.cells cs T (0, 0))) :
    OutW W ((w2.alloc (.cells #[.slice (some ⟨w2.heap.size + 1, 0, none⟩) 1 1] 45)).alloc (.cells #[.string K] 9)) w2.heap.size [K] b0 cs T := by
  have hz := h1.size
  have hz2 := h2.size
  refine OutW.start0 (g := w2.heap.size + 1) (((h1.trans (h2.mono hz)).alloc (by omega) _).alloc (by simp; omega) _) h0 (by omega) (by omega) (by omega) ?_ ?_
  · exact (Below.heap_alloc _ _ _ (by simp)).trans (heap_alloc_new w2 _)
  · have := heap_alloc_new (w2.alloc (.cells #[.slice (some ⟨w2.heap.size + 1, 0, none⟩) 1 1] 45)) (.cells #[.string K] 9)
    rwa [World.size_alloc] at this
end
theorem show_bad8 (x : Cm) (A A2 : Option Addr) (c c2 B : Nat) (w : World) (ha : CmAt w B x A c A2 c2) (hB : B ≤ w.heap.size) (hz : CmSz x) (hE : cmdE x ≠ 0) :
    Calls Tryz.prog 9 #[cmV x A c A2 c2] w fun e w' => e = .returned (.tuple #[.string ⟨#[]⟩, .int .i64 (cmdE x)]) ∧ Below w.heap.size w w' := by
  have HS := Lib.hid (cmA_size x A c A2 c2)
  obtain ⟨W0, hW0⟩ : ∃ W0, Hid (w.alloc (.cells (cmA x A c A2 c2) 27) = W0) := ⟨_, rfl⟩
  have HBX : Hid (Below w.heap.size w W0) := by rw [← hW0.out]; exact (Below.refl _ _).alloc (Nat.le_refl _) _
  have HCX : Hid (W0.heap[w.heap.size]? = some (.cells (cmA x A c A2 c2) 27 (0, 0))) := by show _ = _; rw [← hW0.out]; exact heap_alloc_new w _
  have hck := Lib.hid (chk_any8 x A A2 c c2 B W0 (ha.below (HBX.out.mono hB)) (Nat.le_trans hB HBX.out.size) hz)
  rw [cmV_is x] at hck ⊢
  obtain ⟨cs, hcs⟩ : ∃ cs, cmA x A c A2 c2 = cs := ⟨_, rfl⟩
  rw [hcs] at HS hck HCX hW0 ⊢
  obtain ⟨E, hE2⟩ : ∃ E, cmdE x = E := ⟨_, rfl⟩
  rw [hE2] at hck hE ⊢
  have tE : (E != 0) = true := by simpa using hE
  clear hcs hE2 hE ha hB hz
  go_enter Tryz.func9, Tryz.ntmps9
  go_upto_region 1 with (fail)
  rw [hW0.out]
  go_wp2_with (refine wpList_load_row rfl 27 _ rfl w.heap.size rfl 27 _ (0, 0) _ HCX.out Tryz.underlying27 rfl (info27 HS.out) ?_)
  refine hck.out.mono ?_; rintro e w1 ⟨rfl, hb1⟩
  have B1 := Lib.hid (HBX.out.trans (hb1.mono HBX.out.size))
  clear hb1
  go_wp2
  go_ret2
  exact ⟨rfl, B1.out⟩
theorem app_row {w w4 : World} {P : Nat} {l : List ByteArray} {v : Value} {ob : Obj} (h : OutAt w P l v) (k4 : AppKeeps 0 v (w.alloc ob) w4) : w4.heap[P]? = some (.cells #[v] 45 (0, 0)) := by
  have hi := h.hi
  have := k4.kb8.block P (by simp only [World.size_alloc]; omega) (fun x => (h.lo P x).1 rfl)
  rw [this]
  exact (Lib.alloc_old _ _ P hi).trans h.blk
theorem OutW.app {W w w4 : World} {P : Nat} {l : List ByteArray} {v v4 : Value} {ob : Obj} {s : ByteArray} {b0 : Nat} {cs : Array Value} {T : TypeId} (h : OutAt w P l v) (hg : ∀ g, v.ownBlock = some g → W.heap.size ≤ g ∧ g ≠ b0) (hb : Below W.heap.size W w) (hP : W.heap.size ≤ P) (hk : w.heap[b0]? = some (.cells cs T (0, 0))) (hne : P ≠ b0)
    (o4 : Owns w4 0 9 1 v4 (l.length + 1) (strs l ++ [.string s])) (k4 : AppKeeps 0 v (w.alloc ob) w4) (hob : v4.ownBlock = v.ownBlock ∨ v4.ownBlock = some (w.heap.size + 1)) :
    OutW W (w4.setCell ⟨P, 0, none⟩ v4) P (l ++ [s]) b0 cs T := by
  have g4 := app_row h k4
  have hi := h.hi
  have hz4 := k4.hsize
  simp only [World.size_alloc] at hz4
  have hk4 := k4.kb8
  have hz0 := hb.size
  have hl0 := lt_of_block hk
  have hl4 : ∀ g, v4.ownBlock = some g → g ≠ P ∧ g < w4.heap.size ∧ W.heap.size ≤ g ∧ g ≠ b0 := by
    intro g e
    refine ⟨?_, o4.own_lt8 (by omega) g e, ?_⟩
    · rcases hob with e2 | e2
      · exact (h.lo g (e2 ▸ e)).1
      · rw [e2] at e; have := Option.some.inj e; omega
    · rcases hob with e2 | e2
      · exact hg g (e2 ▸ e)
      · rw [e2] at e; have := Option.some.inj e; omega
  have hs : (w4.setCell ⟨P, 0, none⟩ v4).heap.size = w4.heap.size := by simp [World.setCell]
  have g5 : (w4.setCell ⟨P, 0, none⟩ v4).heap[P]? = some (.cells #[v4] 45 (0, 0)) := by simp [World.setCell, Array.getElem?_modify, g4]
  have hbk : ∀ b, b < w.heap.size → b ≠ P → (∀ g, v.ownBlock = some g → g ≠ b) → (w4.setCell ⟨P, 0, none⟩ v4).heap[b]? = w.heap[b]? := by
    intro b h1 h2 h3
    rw [Below.heap_setCell _ _ _ _ (by exact h2), hk4.block b (by simp only [World.size_alloc]; omega) (fun x => h3 b x rfl)]
    exact Lib.alloc_old _ _ b h1
  refine ⟨⟨v4, ⟨by rw [Lib.cell_of_heap g5]; rfl, g5, ?_, by rw [hs]; omega, fun g e => ⟨(hl4 g e).1, by rw [hs]; exact (hl4 g e).2.1⟩⟩, fun g e => (hl4 g e).2.2⟩, ⟨hk4.os.trans hb.os, hk4.tape.trans hb.tape, hk4.output.trans hb.output, by rw [hs]; omega, fun b h1 => ?_⟩, hP, ?_, hne⟩
  · have := o4.setCell (p := ⟨P, 0, none⟩) (fun e => (hl4 P e).1 rfl) v4
    simpa [strs] using this
  · exact (hbk b (by omega) (by omega) (fun g e => by have := (hg g e).1; omega)).trans (hb.block b h1)
  · exact (hbk b0 hl0 (Ne.symm hne) (fun g e => (hg g e).2)).trans hk
theorem sz_dep (d : Int) : (⟨(depW d).toArray⟩ : ByteArray).size ≤ 1000000 := by
  unfold depW
  split
  · show 3 ≤ 1000000; omega
  · split
    · show 4 ≤ 1000000; omega
    · show 3 ≤ 1000000; omega
theorem deps_next {a : List Pr} {k : Nat} {x : Pr} (h : a[k]? = some x) : pcs ((a.take (k + 1)).map fun d => (depW d.1, Vt.num d.2)) = pcs ((a.take k).map fun d => (depW d.1, Vt.num d.2)) ++ [pieceB ⟨(depW x.1).toArray⟩ ⟨(Lib.itoa x.2).toArray⟩] := by
  obtain ⟨hlt, rfl⟩ := List.getElem?_eq_some_iff.1 h
  rw [List.take_succ_eq_append_getElem hlt, List.map_append, pcs_app]
  congr 1
  exact (piece_at (depW a[k].1) (.num a[k].2) ⟨(Lib.itoa a[k].2).toArray⟩ rfl).symm
theorem form_len {s : Sh} (h : FormOk s) : (formF s).length ≤ 102 := by
  have := h.few
  unfold formF
  split
  · simp
  · split
    · simp; omega
    · split <;> simp
theorem show_all (x : Cm) (S : ByteArray) (h : (⟨(subjT x).toArray⟩ : ByteArray) = S) :
    [⟨(bWd x.kind).toArray⟩] ++ (if subjT x = [] then [] else [S]) ++ pcs (if x.kind = 1 then [(bU, .word x.user), (bA, .word x.account)] else []) ++ pcs (if x.hasPrio = true then [(bPrio, .num x.prio)] else []) ++ pcs (x.after.map fun d => (depW d.1, .num d.2)) ++
      pcs (if x.kind = 10 then [(bFrom, .num x.frm)] else []) ++ pcs (if 0 < x.nodes then [(bNodes, .num x.nodes)] else []) ++ pcs (formF x.shape) ++ pcs (if x.hasTime = true then [(bTime, .time x.time)] else []) = (partsP x).map (fun t => (⟨t.toArray⟩ : ByteArray)) := by
  subst h
  unfold partsP fieldsF
  have e : ∀ l : List Fl, (l.map fText).map (fun t => (⟨t.toArray⟩ : ByteArray)) = pcs l := fun l => by unfold pcs; rw [List.map_map]; rfl
  rw [List.map_cons, List.map_append, e]
  simp only [pcs_app, List.append_assoc]
  split <;> simp
theorem dec_len (n : Nat) (h : n ≤ 1000000) : (Lib.decDigits n).length ≤ 100 := by have := dd_len9 6 n (by omega); omega
theorem it_len (n : Int) (h0 : 0 ≤ n) (h : n ≤ 1000000) : (Lib.itoa n).length ≤ 100 := by rw [itoa_nn h0]; exact dec_len _ (by omega)
theorem sh_len (n : Int) (h : n ≤ 1000000) : (showL n.toNat).length ≤ 100 := by
  have h2 : (showL n.toNat).toArray.size ≤ 100 := show_size n h
  simpa using h2
theorem fields_le {x : Cm} (h : ShowOk x) (hz : CmSz x) : ∀ f ∈ fieldsF x, (fText f).length ≤ 3000000 := by
  have hw : ∀ (n : List UInt8) (v : Vt), n.length ≤ 10 → (vtT v).length ≤ 2000000 → (fText (n, v)).length ≤ 3000000 := by
    intro n v h1 h2
    unfold fText
    simp only [List.length_append, List.length_cons]
    omega
  intro f hf
  unfold fieldsF at hf
  simp only [List.mem_append] at hf
  rcases hf with hf | hf | hf | hf | hf | hf | hf
  · split at hf
    · simp only [List.mem_cons, List.not_mem_nil, or_false] at hf
      rcases hf with rfl | rfl
      · exact hw _ _ (by decide) (by have := hz.2.1; show (bl x.user).length ≤ _; rw [size_bl]; omega)
      · exact hw _ _ (by decide) (by have := hz.2.2; show (bl x.account).length ≤ _; rw [size_bl]; omega)
    · cases hf
  · split at hf
    · rename_i hp
      rw [List.mem_singleton] at hf; subst hf
      have := h.prio hp
      exact hw _ _ (by decide) (by have := it_len x.prio (by omega) (by omega); show (Lib.itoa _).length ≤ _; omega)
    · cases hf
  · obtain ⟨d, hd, rfl⟩ := List.mem_map.1 hf
    have hdb := h.after.1 d hd
    refine hw _ _ ?_ (by have := it_len d.2 (by omega) (by omega); show (Lib.itoa _).length ≤ _; omega)
    unfold depW
    split
    · decide
    · split <;> decide
  · split at hf
    · rename_i hp
      rw [List.mem_singleton] at hf; subst hf
      have := h.frm hp
      exact hw _ _ (by decide) (by have := it_len x.frm (by omega) (by omega); show (Lib.itoa _).length ≤ _; omega)
    · cases hf
  · split at hf
    · rename_i hp
      rw [List.mem_singleton] at hf; subst hf
      have := h.nodes
      exact hw _ _ (by decide) (by have := it_len x.nodes (by omega) (by omega); show (Lib.itoa _).length ≤ _; omega)
    · cases hf
  · obtain ⟨h1, h2, h3, h4⟩ := h.shape
    unfold formF at hf
    split at hf
    · rename_i k1
      have hn := h1 k1
      have hx : x.shape.alts.getD 0 (0, 0) ∈ x.shape.alts := by
        rw [List.getD_eq_getElem?_getD, List.getElem?_eq_getElem hn]
        exact List.getElem_mem hn
      obtain ⟨q1, q2⟩ := h3 _ hx
      simp only [List.mem_cons, List.not_mem_nil, or_false] at hf
      rcases hf with rfl | rfl
      · exact hw _ _ (by decide) (by have := it_len _ q1.1 (by omega); show (Lib.itoa _).length ≤ _; omega)
      · exact hw _ _ (by decide) (by have := sh_len (x.shape.alts.getD 0 (0, 0)).2 (by omega); show (showL _).length ≤ _; omega)
    · split at hf
      · obtain ⟨a, ha, rfl⟩ := List.mem_map.1 hf
        obtain ⟨q1, q2⟩ := h3 _ ha
        refine hw _ _ (by decide) ?_
        have := it_len a.1 q1.1 (by omega)
        have := sh_len a.2 (by omega)
        show (Lib.itoa _ ++ 58 :: showL _).length ≤ _
        rw [List.length_append, List.length_cons]
        omega
      · split at hf
        · rename_i k3
          obtain ⟨q1, q2, q3⟩ := h4 k3
          simp only [List.mem_cons, List.not_mem_nil, or_false] at hf
          rcases hf with rfl | rfl
          · refine hw _ _ (by decide) ?_
            have := it_len x.shape.mn q1.1 (by omega)
            have := it_len x.shape.mx q2.1 (by omega)
            show (Lib.itoa _ ++ 45 :: Lib.itoa _).length ≤ _
            rw [List.length_append, List.length_cons]
            omega
          · exact hw _ _ (by decide) (by have := sh_len x.shape.wall (by omega); show (showL _).length ≤ _; omega)
        · cases hf
  · split at hf
    · rename_i hp
      rw [List.mem_singleton] at hf; subst hf
      have := h.time hp
      exact hw _ _ (by decide) (by have := sh_len x.time (by omega); show (showL _).length ≤ _; omega)
    · cases hf
theorem subj_le {x : Cm} (h : ShowOk x) (hz : CmSz x) : (subjT x).length ≤ 3000000 := by
  have hz1 := hz.1
  unfold subjT
  split
  · split
    · rw [size_bl]; omega
    · split
      · have := esc_le (bl x.name)
        rw [size_bl] at this
        unfold quoteL
        simp only [List.length_cons, List.length_append, List.length_nil]
        omega
      · simp
  · split
    · rename_i hn
      have := h.node hn
      have := it_len x.node (by omega) (by omega); omega
    · split
      · have := h.job
        have := it_len x.job (by omega) (by omega); omega
      · simp
theorem flds_len {x : Cm} (h : ShowOk x) : (fieldsF x).length ≤ 200 := by
  have h1 := form_len h.shape
  have h2 := h.after.2
  unfold fieldsF
  simp only [List.length_append, List.length_map]
  split <;> split <;> split <;> split <;> split <;> simp <;> omega
theorem line_le {x : Cm} (h : ShowOk x) (hz : CmSz x) : (lineP x).length ≤ 140737488355328 := by
  have h1 : (lineP x).length ≤ (3000000 + 1) * (partsP x).length := by
    refine join_le (fun t ht => ?_)
    unfold partsP at ht
    rcases List.mem_cons.1 ht with rfl | ht
    · rcases kinds12 h.kind.1 h.kind.2 with e | e | e | e | e | e | e | e | e | e | e | e <;> rw [e] <;> exact Nat.le_trans (show _ ≤ 20 by decide) (by omega)
    · rcases List.mem_append.1 ht with ht | ht
      · split at ht
        · cases ht
        · rw [List.mem_singleton] at ht; subst ht; exact subj_le h hz
      · obtain ⟨f, hf, rfl⟩ := List.mem_map.1 ht
        exact fields_le h hz f hf
  have h2 : (partsP x).length ≤ 300 := by
    have := flds_len h
    unfold partsP
    simp only [List.length_cons, List.length_append, List.length_map]
    split <;> simp <;> omega
  have : (3000000 + 1) * (partsP x).length ≤ (3000000 + 1) * 300 := Nat.mul_le_mul_left _ h2
  omega
def wordA8 : Array Value := (strs wordsL8).toArray
theorem words_is : wordsV8 = .agg wordA8 := rfl
theorem word_at {k : Int} (h1 : 1 ≤ k) (h2 : k ≤ 12) : wordA8[k.toNat]? = some (.string ⟨(bWd k).toArray⟩) := by
  rcases kinds12 h1 h2 with rfl | rfl | rfl | rfl | rfl | rfl | rfl | rfl | rfl | rfl | rfl | rfl <;> rfl
theorem index_word (a : Array Value) (k : Int) (v : Value) (h0 : 0 ≤ k) (h1 : k < 13) (hz : a.size = 13) (h : a[k.toNat]? = some v) (w : World) : (Instr.index 43 (.agg a) (.int .i64 k)).run Tryz.prog w = .ok v w := by
  simp [Instr.index, go_sem, Tryz.underlying43]
  rw [if_pos ⟨h0, h1⟩, h]; rfl
set_option maxHeartbeats 4000000 in
set_option maxRecDepth 100000 in
theorem show_good8 (x : Cm) (A A2 : Option Addr) (c c2 B : Nat) (w : World) (ha : CmAt w B x A c A2 c2) (hB : B ≤ w.heap.size) (hz : CmSz x) (hE : cmdE x = 0) (hT : Lib.TabIs Tryz.prog w "internal/strconv.uint64pow10" .u64 Lib.pow10Tab) :
    Calls Tryz.prog 9 #[cmV x A c A2 c2] w fun e w' => e = .returned (.tuple #[.string (cshowP x).1, .int .i64 (cshowP x).2]) ∧ Below w.heap.size w w' := by
  have HOK := Lib.hid (show_ok8 hE)
  have HE0 := Lib.hid hE
  obtain ⟨X, hXX⟩ : ∃ q, cshowP x = q := ⟨_, rfl⟩
  rw [hXX]
  replace hXX := Lib.hid hXX
  have HS := Lib.hid (cmA_size x A c A2 c2)
  obtain ⟨W0, hW0⟩ : ∃ W0, Hid (w.alloc (.cells (cmA x A c A2 c2) 27) = W0) := ⟨_, rfl⟩
  have HBX : Hid (Below w.heap.size w W0) := by rw [← hW0.out]; exact (Below.refl _ _).alloc (Nat.le_refl _) _
  have HCX : Hid (W0.heap[w.heap.size]? = some (.cells (cmA x A c A2 c2) 27 (0, 0))) := by show _ = _; rw [← hW0.out]; exact heap_alloc_new w _
  have HT0 := Lib.hid (tab_below hT HBX.out)
  have hck := Lib.hid (chk_any8 x A A2 c c2 B W0 (ha.below (HBX.out.mono hB)) (Nat.le_trans hB HBX.out.size) hz)
  rw [hE] at hck
  have hsj := Lib.hid (fun v (hv : Below W0.heap.size W0 v) => subj_any x A A2 c c2 v HOK.out hz.1 (tab_below HT0.out hv))
  have hwd := Lib.hid words8_any
  rw [words_is] at hwd
  have hwa := Lib.hid (word_at HOK.out.kind.1 HOK.out.kind.2)
  have hwz : Hid (wordA8.size = 13) := Lib.hid rfl
  obtain ⟨WA, hWA⟩ : ∃ q, wordA8 = q := ⟨_, rfl⟩
  rw [hWA] at hwd hwa hwz
  obtain ⟨K1, hK1⟩ : ∃ q : ByteArray, ⟨(bWd x.kind).toArray⟩ = q := ⟨_, rfl⟩
  rw [hK1] at hwa
  have HAT := Lib.hid (ha.below (HBX.out.mono hB))
  have hB0 : B ≤ W0.heap.size := Nat.le_trans hB HBX.out.size
  rw [cmV_is x] at hck hsj ⊢
  have e0 : (cmA x A c A2 c2)[0]? = some (.int .i64 x.kind) := rfl
  have hk1 := HOK.out.kind.1
  have hk2 := HOK.out.kind.2
  have e3 : (cmA x A c A2 c2)[3]? = some (.string x.user) := rfl
  have e4 : (cmA x A c A2 c2)[4]? = some (.string x.account) := rfl
  have e5 : (cmA x A c A2 c2)[5]? = some (.int .i64 x.shape.kind) := rfl
  have e6 : (cmA x A c A2 c2)[6]? = some (.slice A x.shape.alts.length c) := rfl
  have e7 : (cmA x A c A2 c2)[7]? = some (.int .i64 x.shape.mn) := rfl
  have e8 : (cmA x A c A2 c2)[8]? = some (.int .i64 x.shape.mx) := rfl
  have e9 : (cmA x A c A2 c2)[9]? = some (.int .i64 x.shape.wall) := rfl
  have e10 : (cmA x A c A2 c2)[10]? = some (.int .i64 x.prio) := rfl
  have e11 : (cmA x A c A2 c2)[11]? = some (.bool x.hasPrio) := rfl
  have e12 : (cmA x A c A2 c2)[12]? = some (.int .i64 x.time) := rfl
  have e13 : (cmA x A c A2 c2)[13]? = some (.bool x.hasTime) := rfl
  have e14 : (cmA x A c A2 c2)[14]? = some (.slice A2 x.after.length c2) := rfl
  have e16 : (cmA x A c A2 c2)[16]? = some (.int .i64 x.nodes) := rfl
  have e17 : (cmA x A c A2 c2)[17]? = some (.int .i64 x.frm) := rfl
  have hix := fun w => index_word WA x.kind (.string K1) (by omega) (by omega) hwz.out hwa.out w
  obtain ⟨cs, hcs⟩ : ∃ cs, cmA x A c A2 c2 = cs := ⟨_, rfl⟩
  rw [hcs] at HS hck HCX hW0 hsj e0 e3 e4 e5 e6 e7 e8 e9 e10 e11 e12 e13 e14 e16 e17 ⊢
  have hsW := lt_of_block HCX.out
  have E0 := Lib.hid e0
  have E3 := Lib.hid e3
  have E4 := Lib.hid e4
  have E5 := Lib.hid e5
  have E6 := Lib.hid e6
  have E7 := Lib.hid e7
  have E8 := Lib.hid e8
  have E9 := Lib.hid e9
  have E10 := Lib.hid e10
  have E11 := Lib.hid e11
  have E12 := Lib.hid e12
  have E13 := Lib.hid e13
  have E14 := Lib.hid e14
  have E16 := Lib.hid e16
  have E17 := Lib.hid e17
  clear hWA hB hT hE ha e0 e3 e4 e5 e6 e7 e8 e9 e10 e11 e12 e13 e14 e16 e17
  have HZ := Lib.hid hz
  clear hz
  have eg : ∀ args w, (callFunc 20 args).run Tryz.prog w = .ok (.enter 20 args) w := ent_put
  go_enter Tryz.func9, Tryz.ntmps9
  go_upto_region 1 with (fail)
  rw [hW0.out]
  go_wp2_with (refine wpList_load_row rfl 27 _ rfl w.heap.size rfl 27 _ (0, 0) _ HCX.out Tryz.underlying27 rfl (info27 HS.out) ?_)
  refine hck.out.mono ?_; rintro e w1 ⟨rfl, hb1⟩
  have B1 := Lib.hid hb1
  have x0 : w1.cell? ⟨w.heap.size, 0, none⟩ = some (.int .i64 x.kind) := ((hb1.cell (p := ⟨w.heap.size, 0, none⟩) hsW).trans (cell_of_row W0 _ 0 _ _ _ HCX.out)).trans E0.out
  have z1 := hb1.size
  have hs1 : w.heap.size < w1.heap.size := by omega
  clear hb1
  go_upto_region 4 with (fail)
  go_cut [5] (fun v wc => ∃ P, v = .pointer (some ⟨P, 0, none⟩) ∧ Hid (OutW W0 wc P [K1] w.heap.size cs 27))
  case first =>
    refine wp_region_held_drew (S := (fun w' => (∀ b o, b < w1.heap.size → w'.cell? ⟨b, o, none⟩ = w1.cell? ⟨b, o, none⟩) ∧ Below w1.heap.size w1 w')) (by kernel_rfl) ?_ (fun hHeld => ?_)
    · (try dsimp only); (first | assumption | exact hk_drew | exact hk_call (by assumption) (by assumption) | exact hk_mk (by assumption) | (refine hk_alloc (by assumption) _) | (refine hk_row (by assumption) (by first | exact Nat.le_refl _ | exact hk_size (by assumption) | omega | (simp; done) | (simp; omega)) _) | (refine hk_set (by assumption) (by first | exact Nat.le_refl _ | exact hk_size (by assumption) | omega | (simp; done) | (simp; omega)) _))
    refine wpAnyH_take (i := 1) (oi := ⟨_, _, _, _, _, _⟩) (v := ?v_34) rfl (by kernel_rfl) (by kernel_rfl) (by kernel_rfl) (fun _ _ _ h => h) (Or.inl ⟨by rfl, ?hy_34⟩) (by assumption) ?r_34
    case hy_34 => (intro w_ hS_; (try dsimp only at hS_); go_simp; try with_reducible rfl)
    try simp only [Act.put, List.setIfInBounds_toArray, List.set_cons_zero, List.set_cons_succ]
    refine wpAnyH_take (i := 2) (oi := ⟨_, _, _, _, _, _⟩) (v := ?v_35) rfl (by kernel_rfl) (by kernel_rfl) (by kernel_rfl) (fun _ _ _ h => h) (Or.inl ⟨by rfl, ?hy_35⟩) (by assumption) ?r_35
    case hy_35 => (intro w_ hS_; (try dsimp only at hS_); go_simp; try with_reducible rfl)
    try simp only [Act.put, List.setIfInBounds_toArray, List.set_cons_zero, List.set_cons_succ]
    refine wpAnyH_ready (rs := [0, 5]) (by kernel_rfl) (by simp) ?_
    refine AllReadyH.cons (o := ⟨_, _, _, _, _, _⟩) rfl (fun K hK => ?_) ?_
    · go_simp
      (first | (go_at_call 18; refine (hwd.out _).mono ?_; rintro e w2 ⟨rfl, hb2⟩; (try have r9 : w2.heap[w1.heap.size]? = some (.cells #[.slice none 0 0] 45 (0, 0)) := (hb2.block w1.heap.size (by simp)).trans (heap_alloc_new w1.drew _)); (try have c9 : w2.cell? ⟨w1.heap.size, 0, none⟩ = some (.slice none 0 0) := (by rw [Lib.cell_of_heap r9]; rfl)); (try have f9 : w2.frozen? ⟨w1.heap.size, 0, none⟩ = false := Lib.frozen_of_heap r9 0); (try have l9 : w1.heap.size < w2.heap.size := lt_of_block r9)))
      try go_wp2_with (fail)
      refine hK.out _ _ ?_ (fun hHeld => ?_)
      · (try dsimp only); (first | exact hk_call (by assumption) (by assumption) | assumption | exact hk_mk (by assumption))
      clear hK K
      try simp only [Act.put, List.setIfInBounds_toArray, List.set_cons_zero, List.set_cons_succ]
      refine wpAnyH_take (i := 3) (oi := ⟨_, _, _, _, _, _⟩) (v := ?v_36) rfl (by kernel_rfl) (by kernel_rfl) (by kernel_rfl) (fun _ _ _ h => h) (Or.inl ⟨by rfl, ?hy_36⟩) (by assumption) ?r_36
      case hy_36 => (intro w_ hS_; (try dsimp only at hS_); go_simp; try with_reducible rfl)
      try simp only [Act.put, List.setIfInBounds_toArray, List.set_cons_zero, List.set_cons_succ]
      refine wpAnyH_ready (rs := [4, 5]) (by kernel_rfl) (by simp) ?_
      refine AllReadyH.cons (o := ⟨_, _, _, _, _, _⟩) rfl (fun K hK => ?_) ?_
      · go_simp
        refine hK.out _ _ ?_ (fun hHeld => ?_)
        · (try dsimp only); (first | assumption | (refine hk_alloc (by assumption) _))
        clear hK K
        try simp only [Act.put, List.setIfInBounds_toArray, List.set_cons_zero, List.set_cons_succ]
        refine wpAnyH_ready (rs := [5]) (by kernel_rfl) (by simp) ?_
        refine AllReadyH.cons (o := ⟨_, _, _, _, _, _⟩) rfl (fun K hK => ?_) AllReadyH.nil
        go_simp
        refine hK.out _ _ ?_ (fun hHeld => ?_)
        · (try dsimp only); (first | assumption | (refine hk_alloc (by assumption) _))
        clear hK K
        try simp only [Act.put, List.setIfInBounds_toArray, List.set_cons_zero, List.set_cons_succ]
        refine wpAnyH_ready (rs := [6]) (by kernel_rfl) (by simp) ?_
        refine AllReadyH.cons (o := ⟨_, _, _, _, _, _⟩) rfl (fun K hK => ?_) AllReadyH.nil
        go_simp
        refine hK.out _ _ ?_ (fun hHeld => ?_)
        · (try dsimp only); (first | assumption | (refine hk_alloc (hk_alloc ?_ _) _; assumption) | (refine hk_alloc (hk_set (by assumption) (by first | exact Nat.le_refl _ | exact hk_size (by assumption) | omega | (simp; done) | (simp; omega)) _) _) | (refine hk_row (by assumption) (by first | exact Nat.le_refl _ | exact hk_size (by assumption) | omega | (simp; done) | (simp; omega)) _) | (refine hk_set (by assumption) (by first | exact Nat.le_refl _ | exact hk_size (by assumption) | omega | (simp; done) | (simp; omega)) _))
        clear hK K
        try simp only [Act.put, List.setIfInBounds_toArray, List.set_cons_zero, List.set_cons_succ]
        refine wpAnyH_done (by kernel_rfl) ?_ _
        (go_wp2_with (fail); go_meet; first | exact ⟨_, rfl, Lib.hid (OutW.startB B1.out (And.right (by assumption)) HCX.out)⟩ | exact ⟨_, rfl, Lib.hid (OutW.startC B1.out (And.right (by assumption)) HCX.out)⟩ | exact ⟨_, rfl, Lib.hid (OutW.startA B1.out (And.right (by assumption)) HCX.out (by assumption))⟩)
      refine AllReadyH.cons (o := ⟨_, _, _, _, _, _⟩) rfl (fun K hK => ?_) AllReadyH.nil
      go_simp
      refine hK.out _ _ ?_ (fun hHeld => ?_)
      · (try dsimp only); (first | assumption | (refine hk_alloc (by assumption) _))
      clear hK K
      try simp only [Act.put, List.setIfInBounds_toArray, List.set_cons_zero, List.set_cons_succ]
      refine wpAnyH_ready (rs := [4]) (by kernel_rfl) (by simp) ?_
      refine AllReadyH.cons (o := ⟨_, _, _, _, _, _⟩) rfl (fun K hK => ?_) AllReadyH.nil
      go_simp
      refine hK.out _ _ ?_ (fun hHeld => ?_)
      · (try dsimp only); (first | assumption | (refine hk_alloc (by assumption) _))
      clear hK K
      try simp only [Act.put, List.setIfInBounds_toArray, List.set_cons_zero, List.set_cons_succ]
      refine wpAnyH_ready (rs := [6]) (by kernel_rfl) (by simp) ?_
      refine AllReadyH.cons (o := ⟨_, _, _, _, _, _⟩) rfl (fun K hK => ?_) AllReadyH.nil
      go_simp
      refine hK.out _ _ ?_ (fun hHeld => ?_)
      · (try dsimp only); (first | assumption | (refine hk_alloc (hk_alloc ?_ _) _; assumption) | (refine hk_alloc (hk_set (by assumption) (by first | exact Nat.le_refl _ | exact hk_size (by assumption) | omega | (simp; done) | (simp; omega)) _) _) | (refine hk_row (by assumption) (by first | exact Nat.le_refl _ | exact hk_size (by assumption) | omega | (simp; done) | (simp; omega)) _) | (refine hk_set (by assumption) (by first | exact Nat.le_refl _ | exact hk_size (by assumption) | omega | (simp; done) | (simp; omega)) _))
      clear hK K
      try simp only [Act.put, List.setIfInBounds_toArray, List.set_cons_zero, List.set_cons_succ]
      refine wpAnyH_done (by kernel_rfl) ?_ _
      (go_wp2_with (fail); go_meet; first | exact ⟨_, rfl, Lib.hid (OutW.startB B1.out (And.right (by assumption)) HCX.out)⟩ | exact ⟨_, rfl, Lib.hid (OutW.startC B1.out (And.right (by assumption)) HCX.out)⟩ | exact ⟨_, rfl, Lib.hid (OutW.startA B1.out (And.right (by assumption)) HCX.out (by assumption))⟩)
    refine AllReadyH.cons (o := ⟨_, _, _, _, _, _⟩) rfl (fun K hK => ?_) AllReadyH.nil
    go_simp
    refine hK.out _ _ ?_ (fun hHeld => ?_)
    · (try dsimp only); (first | assumption | (refine hk_alloc (by assumption) _))
    clear hK K
    try simp only [Act.put, List.setIfInBounds_toArray, List.set_cons_zero, List.set_cons_succ]
    refine wpAnyH_ready (rs := [0]) (by kernel_rfl) (by simp) ?_
    refine AllReadyH.cons (o := ⟨_, _, _, _, _, _⟩) rfl (fun K hK => ?_) AllReadyH.nil
    go_simp
    (first | (go_at_call 18; refine (hwd.out _).mono ?_; rintro e w2 ⟨rfl, hb2⟩; (try have r9 : w2.heap[w1.heap.size]? = some (.cells #[.slice none 0 0] 45 (0, 0)) := (hb2.block w1.heap.size (by simp)).trans (heap_alloc_new w1.drew _)); (try have c9 : w2.cell? ⟨w1.heap.size, 0, none⟩ = some (.slice none 0 0) := (by rw [Lib.cell_of_heap r9]; rfl)); (try have f9 : w2.frozen? ⟨w1.heap.size, 0, none⟩ = false := Lib.frozen_of_heap r9 0); (try have l9 : w1.heap.size < w2.heap.size := lt_of_block r9)))
    try go_wp2_with (fail)
    refine hK.out _ _ ?_ (fun hHeld => ?_)
    · (try dsimp only); (first | exact hk_call (by assumption) (by assumption) | assumption | exact hk_mk (by assumption))
    clear hK K
    try simp only [Act.put, List.setIfInBounds_toArray, List.set_cons_zero, List.set_cons_succ]
    refine wpAnyH_take (i := 3) (oi := ⟨_, _, _, _, _, _⟩) (v := ?v_37) rfl (by kernel_rfl) (by kernel_rfl) (by kernel_rfl) (fun _ _ _ h => h) (Or.inl ⟨by rfl, ?hy_37⟩) (by assumption) ?r_37
    case hy_37 => (intro w_ hS_; (try dsimp only at hS_); go_simp; try with_reducible rfl)
    try simp only [Act.put, List.setIfInBounds_toArray, List.set_cons_zero, List.set_cons_succ]
    refine wpAnyH_ready (rs := [4]) (by kernel_rfl) (by simp) ?_
    refine AllReadyH.cons (o := ⟨_, _, _, _, _, _⟩) rfl (fun K hK => ?_) AllReadyH.nil
    go_simp
    refine hK.out _ _ ?_ (fun hHeld => ?_)
    · (try dsimp only); (first | assumption | (refine hk_alloc (by assumption) _))
    clear hK K
    try simp only [Act.put, List.setIfInBounds_toArray, List.set_cons_zero, List.set_cons_succ]
    refine wpAnyH_ready (rs := [6]) (by kernel_rfl) (by simp) ?_
    refine AllReadyH.cons (o := ⟨_, _, _, _, _, _⟩) rfl (fun K hK => ?_) AllReadyH.nil
    go_simp
    refine hK.out _ _ ?_ (fun hHeld => ?_)
    · (try dsimp only); (first | assumption | (refine hk_alloc (hk_alloc ?_ _) _; assumption) | (refine hk_alloc (hk_set (by assumption) (by first | exact Nat.le_refl _ | exact hk_size (by assumption) | omega | (simp; done) | (simp; omega)) _) _) | (refine hk_row (by assumption) (by first | exact Nat.le_refl _ | exact hk_size (by assumption) | omega | (simp; done) | (simp; omega)) _) | (refine hk_set (by assumption) (by first | exact Nat.le_refl _ | exact hk_size (by assumption) | omega | (simp; done) | (simp; omega)) _))
    clear hK K
    try simp only [Act.put, List.setIfInBounds_toArray, List.set_cons_zero, List.set_cons_succ]
    refine wpAnyH_done (by kernel_rfl) ?_ _
    (go_wp2_with (fail); go_meet; first | exact ⟨_, rfl, Lib.hid (OutW.startB B1.out (And.right (by assumption)) HCX.out)⟩ | exact ⟨_, rfl, Lib.hid (OutW.startC B1.out (And.right (by assumption)) HCX.out)⟩ | exact ⟨_, rfl, Lib.hid (OutW.startA B1.out (And.right (by assumption)) HCX.out (by assumption))⟩)
  case rest =>
    obtain ⟨P, rfl, hO1⟩ := hcut
    have HR1 := Lib.hid hO1.out.kept
    obtain ⟨L2, hL2⟩ : ∃ q, Hid ([K1] ++ (if subjT x = [] then [] else [⟨(subjT x).toArray⟩]) = q) := ⟨_, Lib.hid rfl⟩
    obtain ⟨SJ, hSJ⟩ : ∃ q : ByteArray, (⟨(subjT x).toArray⟩ : ByteArray) = q := ⟨_, rfl⟩
    rw [hSJ] at hL2 hsj
    have hS0 : Hid (subjT x = [] ↔ SJ = ⟨#[]⟩) := by
      show _ ↔ _
      rw [← hSJ]
      constructor
      · intro e; rw [e]
      · intro e; have := congrArg (fun b => b.data.toList) e; simpa using this
    have hSJ9 := Lib.hid hSJ
    clear hSJ
    go_wp2_with (refine wpList_load_row rfl 27 _ rfl w.heap.size rfl 27 _ (0, 0) _ HR1.out Tryz.underlying27 rfl (info27 HS.out) ?_)
    refine (hsj.out _ hO1.out.below).mono ?_; rintro e w2 ⟨rfl, hb2⟩
    have hO2 := Lib.hid (hO1.out.later hb2)
    clear hb2 x0 z1 hs1 hix
    go_upto_if 24 with (fail)
    go_cut [] (fun wc => Hid (OutW W0 wc P L2 w.heap.size cs 27))
    case first =>
      by_cases hs0 : SJ = ⟨#[]⟩
      · have hL : Hid (L2 = [K1]) := by show _ = _; rw [← hL2.out, if_pos (hS0.out.2 hs0)]; rfl
        have t0 : SJ.toList = [] := by rw [hs0, ByteArray.toList_eq]
        have ts : (!SJ.toList.isEmpty) = false := by rw [t0]; rfl
        rw [ts]
        clear hs0 t0 ts
        go_wp2_with (fail)
        go_meet
        rw [hL.out]
        exact hO2
      · have hL : Hid (L2 = [K1] ++ [SJ]) := by show _ = _; rw [← hL2.out, if_neg (fun e => hs0 (hS0.out.1 e))]
        have t0 : ¬ SJ.toList = [] := by
          rw [ByteArray.toList_eq]
          intro e
          exact hs0 (by apply ByteArray.ext; apply Array.ext'; simpa using e)
        have ts : (!SJ.toList.isEmpty) = true := by simpa using t0
        rw [ts]
        clear t0 ts
        obtain ⟨⟨v, hv, hg⟩, q2, q3, q4, q5⟩ := hO2.out
        have HV := Lib.hid hv
        have HG := Lib.hid hg
        have Q2 := Lib.hid q2
        have c1 := hv.cell
        have hP2 := hv.hi
        clear hv hg q2 hs0 hO1 hO2 hL2 hS0
        go_wp2_with (at_builtin; refine app_s rfl rfl 0 rfl (HV.out.own.alloc _) (news := [SJ]) rfl (Reads.made _ [Value.string SJ] _) (by simp) (Nat.zero_le _) ?_)
        intro v4 w4 o4 k4 hob
        have g4 := app_row HV.out k4
        have c4 : w4.cell? ⟨P, 0, none⟩ = some v := by rw [Lib.cell_of_heap g4]; rfl
        have f4 : w4.frozen? ⟨P, 0, none⟩ = false := Lib.frozen_of_heap g4 0
        obtain ⟨A4, n4, rfl, _, _⟩ := o4.slice
        have O4 := Lib.hid o4
        have K4 := Lib.hid k4
        have OB := Lib.hid hob
        clear g4 o4 k4 hob
        go_wp2_with (fail)
        go_meet
        rw [hL.out]
        exact Lib.hid (OutW.app HV.out HG.out Q2.out q3 q4 q5 O4.out K4.out OB.out)
    case rest =>
      have hO3 := hcut
      have hl2 : L2.length ≤ 2 := by rw [← hL2.out]; split <;> simp
      clear hcut hO1 hO2 hsj hwd hck HR1
      obtain ⟨L3, hL3⟩ : ∃ q, Hid (L2 ++ pcs (if x.kind = 1 then [(bU, .word x.user), (bA, .word x.account)] else []) = q) := ⟨_, Lib.hid rfl⟩
      have hl3 : L3.length ≤ 4 := by rw [← hL3.out, List.length_append]; split <;> simp [pcs] <;> omega
      have x0 : wc.cell? ⟨w.heap.size, 0, none⟩ = some (.int .i64 x.kind) := hO3.out.at_ E0.out
      obtain ⟨z1, hz1⟩ : ∃ q, (x.kind == 1) = q := ⟨_, rfl⟩
      go_upto_if 32 with (fail)
      go_cut [] (fun wc => Hid (OutW W0 wc P L3 w.heap.size cs 27))
      case first =>
        cases z1
        · have hL : Hid (L3 = L2) := by show _ = _; rw [← hL3.out, if_neg (by simpa using hz1)]; simp [pcs]
          clear hz1
          go_wp2_with (fail)
          go_meet
          rw [hL.out]
          exact hO3
        · have hL : Hid (L3 = L2 ++ [pieceB ⟨bU.toArray⟩ x.user] ++ [pieceB ⟨bA.toArray⟩ x.account]) := by
            show _ = _
            rw [← hL3.out, if_pos (by simpa using hz1), piece_at bU (.word x.user) x.user (by simp [vtT, bl]), piece_at bA (.word x.account) x.account (by simp [vtT, bl]), List.append_assoc, ← pcs_app]; rfl
          clear hz1
          have x3 : wc.cell? ⟨w.heap.size, 3, none⟩ = some (.string x.user) := hO3.out.at_ E3.out
          go_wp2_with (fail)
          have hp_ := put_w ⟨bU.toArray⟩ x.user hO3.out (by omega) sz_user HZ.out.2.1
          refine hp_.mono ?_; clear hp_; rintro e w3 ⟨rfl, o_⟩
          have hO4 := Lib.hid o_; clear o_
          have x4 : w3.cell? ⟨w.heap.size, 4, none⟩ = some (.string x.account) := hO4.out.at_ E4.out
          go_wp2_with (fail)
          have hp_ := put_w ⟨bA.toArray⟩ x.account hO4.out (by simp; omega) sz_account HZ.out.2.2
          refine hp_.mono ?_; clear hp_; rintro e w4 ⟨rfl, o_⟩
          have hO5 := Lib.hid o_; clear o_
          go_wp2_with (fail)
          go_meet
          rw [hL.out]
          exact hO5
      case rest =>
        clear x0 hz1 hO3
        replace hO3 := hcut
        clear hcut
        obtain ⟨L4, hL4⟩ : ∃ q, Hid (L3 ++ pcs (if x.hasPrio = true then [(bPrio, .num x.prio)] else []) = q) := ⟨_, Lib.hid rfl⟩
        have hl4 : L4.length ≤ 5 := by rw [← hL4.out, List.length_append]; split <;> simp [pcs] <;> omega
        have hq4 := HOK.out.prio
        obtain ⟨z1, hz1⟩ : ∃ q, x.hasPrio = q := ⟨_, rfl⟩
        have x11 : wc.cell? ⟨w.heap.size, 11, none⟩ = some (.bool z1) := hO3.out.at_ (by rw [E11.out, hz1])
        rw [hz1] at hq4
        go_upto_if 42 with (fail)
        go_cut [] (fun wc => Hid (OutW W0 wc P L4 w.heap.size cs 27))
        case first =>
          cases z1
          · have hL : Hid (L4 = L3) := by show _ = _; rw [← hL4.out, if_neg (by rw [hz1]; decide)]; simp [pcs]
            clear hz1 hq4
            go_wp2_with (fail)
            go_meet
            rw [hL.out]
            exact hO3
          · have hb4 := hq4 rfl
            have hL : Hid (L4 = L3 ++ [pieceB ⟨bPrio.toArray⟩ ⟨(Lib.itoa x.prio).toArray⟩]) := by
              show _ = _
              rw [← hL4.out, if_pos hz1, piece_at bPrio (.num x.prio) ⟨(Lib.itoa x.prio).toArray⟩ rfl]
            have x10 : wc.cell? ⟨w.heap.size, 10, none⟩ = some (.int .i64 x.prio) := hO3.out.at_ E10.out
            have q1 := Lib.hid (itoa_any x.prio wc (by omega) (by omega) (tab_below HT0.out hO3.out.below))
            have s1 := itoa_size x.prio (by omega) (by omega)
            obtain ⟨D1, e1⟩ : ∃ D, (⟨(Lib.itoa x.prio).toArray⟩ : ByteArray) = D := ⟨_, rfl⟩
            rw [e1] at hL q1 s1
            clear hz1 hq4 e1
            go_wp2_with (fail)
            refine q1.out.mono ?_; rintro e w3 ⟨rfl, hb3⟩
            have hO4 := Lib.hid (hO3.out.later hb3); clear hb3
            go_wp2_with (fail)
            have hp_ := put_w ⟨bPrio.toArray⟩ D1 hO4.out (by omega) sz_prio (by omega)
            refine hp_.mono ?_; clear hp_; rintro e w4 ⟨rfl, o_⟩
            have hO5 := Lib.hid o_; clear o_
            go_wp2_with (fail)
            go_meet
            rw [hL.out]
            exact hO5
        case rest =>
          clear x11 hz1 hO3 hq4
          replace hO3 := hcut
          clear hcut
          obtain ⟨n2, hn2⟩ : ∃ q, Hid (x.after.length = q) := ⟨_, Lib.hid rfl⟩
          have hn4 : n2 ≤ 4 := by rw [← hn2.out]; exact HOK.out.after.2
          have x14 : wc.cell? ⟨w.heap.size, 14, none⟩ = some (.slice A2 n2 c2) := hO3.out.at_ (by rw [E14.out, hn2.out])
          have HR2 : Hid (Reads W0 B 2 A2 n2 (recs prC x.after)) := by show Reads _ _ _ _ _ _; rw [← hn2.out]; exact HAT.out.2.1
          go_wp2_with (fail)
          go_loopw [9, 51] (fun _ i wr => ∃ k : Nat, k ≤ n2 ∧ i = .int .i64 k ∧ Hid (OutW W0 wr P (L4 ++ pcs ((x.after.take k).map fun d => (depW d.1, .num d.2))) w.heap.size cs 27)) (fun _ i _ => n2 - (intOf i).toNat)
          case atStart => exact ⟨0, Nat.zero_le _, rfl, by simpa [pcs] using hO3⟩
          case round =>
            obtain ⟨k, hk, rfl, hOr⟩ := hrel
            clear hO3 x14
            by_cases hlt : k < n2
            · obtain ⟨b, o, y, rfl, hbb, hy, c0, c1⟩ := (HR2.out.below (hOr.out.below.mono hB0)).pr_at hlt
              have t0 : decide ((k : Int) < (n2 : Int)) = true := by simp; omega
              have hj0 : (0 : Int) ≤ (k : Int) := by omega
              have hj1 : (k : Int) < (n2 : Int) := by omega
              have hyb := HOK.out.after.1 y (List.mem_of_getElem? hy.out)
              have HN := Lib.hid (deps_next hy.out)
              have HL : Hid ((L4 ++ pcs ((x.after.take k).map fun d => (depW d.1, .num d.2))).length ≤ 100000) := by show _ ≤ _; have := List.length_take_le k x.after; simp [pcs]; omega
              obtain ⟨D1, e1⟩ : ∃ D, (⟨(Lib.itoa y.2).toArray⟩ : ByteArray) = D := ⟨_, rfl⟩
              have s1 : D1.size ≤ 100 := by rw [← e1]; exact itoa_size _ hyb.1 (by omega)
              have q1 := Lib.hid (fun v (hv : Below W0.heap.size W0 v) => itoa_any y.2 v (by omega) (by omega) (tab_below HT0.out hv))
              have q2 := Lib.hid (fun v => depw_any y.1 v)
              have HSD := Lib.hid (sz_dep y.1)
              obtain ⟨D2, e2⟩ : ∃ D, (⟨(depW y.1).toArray⟩ : ByteArray) = D := ⟨_, rfl⟩
              rw [e1] at q1 HN
              rw [e2] at q2 HN HSD
              obtain ⟨Wb, hW⟩ : ∃ y', wr.alloc (.cells #[.int .i64 y.1, .int .i64 y.2] 50) = y' := ⟨_, rfl⟩
              have hO := Lib.hid (hOr.out.box #[.int .i64 y.1, .int .i64 y.2] 50)
              rw [hW] at hO
              have hOd := Lib.hid hO.out.drew
              clear e1 e2 hy hyb
              go_upto_region 17 with (fail)
              refine wp_region_held_drew (S := (fun w' => w'.cell? ⟨wr.heap.size, 0, none⟩ = some (.int .i64 y.1) ∧ w'.cell? ⟨wr.heap.size, 1, none⟩ = some (.int .i64 y.2))) (by kernel_rfl) ?_ (fun hHeld => ?_)
              · (try dsimp only); (first | exact ⟨hOd.out.cell 0, hOd.out.cell 1⟩ | exact ⟨hO1.out.cell 0, hO1.out.cell 1⟩ | exact ⟨hO2.out.cell 0, hO2.out.cell 1⟩)
              refine wpAnyH_take (i := 0) (oi := ⟨_, _, _, _, _, _⟩) (v := ?v_38) rfl (by kernel_rfl) (by kernel_rfl) (by kernel_rfl) (fun _ _ _ h => h) (Or.inl ⟨by rfl, ?hy_38⟩) (by assumption) ?r_38
              case hy_38 => (intro w_ hS_; (try dsimp only at hS_); go_simp; try with_reducible rfl)
              try simp only [Act.put, List.setIfInBounds_toArray, List.set_cons_zero, List.set_cons_succ]
              refine wpAnyH_take (i := 1) (oi := ⟨_, _, _, _, _, _⟩) (v := ?v_39) rfl (by kernel_rfl) (by kernel_rfl) (by kernel_rfl) (fun _ _ _ h => h) (Or.inl ⟨by rfl, ?hy_39⟩) (by assumption) ?r_39
              case hy_39 => (intro w_ hS_; (try dsimp only at hS_); go_simp; try with_reducible rfl)
              try simp only [Act.put, List.setIfInBounds_toArray, List.set_cons_zero, List.set_cons_succ]
              refine wpAnyH_take (i := 2) (oi := ⟨_, _, _, _, _, _⟩) (v := ?v_40) rfl (by kernel_rfl) (by kernel_rfl) (by kernel_rfl) (fun _ _ _ h => h) (Or.inl ⟨by rfl, ?hy_40⟩) (by assumption) ?r_40
              case hy_40 => (intro w_ hS_; (try dsimp only at hS_); go_simp; try with_reducible rfl)
              try simp only [Act.put, List.setIfInBounds_toArray, List.set_cons_zero, List.set_cons_succ]
              refine wpAnyH_take (i := 4) (oi := ⟨_, _, _, _, _, _⟩) (v := ?v_41) rfl (by kernel_rfl) (by kernel_rfl) (by kernel_rfl) (fun _ _ _ h => h) (Or.inl ⟨by rfl, ?hy_41⟩) (by assumption) ?r_41
              case hy_41 => (intro w_ hS_; (try dsimp only at hS_); go_simp; try with_reducible rfl)
              try simp only [Act.put, List.setIfInBounds_toArray, List.set_cons_zero, List.set_cons_succ]
              refine wpAnyH_take (i := 5) (oi := ⟨_, _, _, _, _, _⟩) (v := ?v_42) rfl (by kernel_rfl) (by kernel_rfl) (by kernel_rfl) (fun _ _ _ h => h) (Or.inl ⟨by rfl, ?hy_42⟩) (by assumption) ?r_42
              case hy_42 => (intro w_ hS_; (try dsimp only at hS_); go_simp; try with_reducible rfl)
              try simp only [Act.put, List.setIfInBounds_toArray, List.set_cons_zero, List.set_cons_succ]
              refine wpAnyH_ready (rs := [3]) (by kernel_rfl) (by simp) ?_
              refine AllReadyH.cons (o := ⟨_, _, _, _, _, _⟩) rfl (fun K hK => ?_) AllReadyH.nil
              go_simp
              (first | (go_at_call 22; (with_reducible refine (q2.out _).mono ?_); rintro e w1 ⟨rfl, rfl⟩) | (go_at_call 21; (with_reducible refine (q1.out _ hOd.out.below).mono ?_); rintro e w1 ⟨rfl, hb1⟩; have hO1 := Lib.hid (hOd.out.later hb1); clear hb1) | (have hp_ := put_w D2 D1 hO1.out HL.out HSD.out (by omega); go_at_fn 20; refine hp_.mono ?_; clear hp_; rintro e w3 ⟨rfl, o3⟩; have hO2 := Lib.hid o3; clear o3))
              try go_wp2_with (fail)
              refine hK.out _ _ ?_ (fun hHeld => ?_)
              · (try dsimp only); (first | exact ⟨hOd.out.cell 0, hOd.out.cell 1⟩ | exact ⟨hO1.out.cell 0, hO1.out.cell 1⟩ | exact ⟨hO2.out.cell 0, hO2.out.cell 1⟩)
              clear hK K
              try simp only [Act.put, List.setIfInBounds_toArray, List.set_cons_zero, List.set_cons_succ]
              refine wpAnyH_ready (rs := [6]) (by kernel_rfl) (by simp) ?_
              refine AllReadyH.cons (o := ⟨_, _, _, _, _, _⟩) rfl (fun K hK => ?_) AllReadyH.nil
              go_simp
              (first | (go_at_call 22; (with_reducible refine (q2.out _).mono ?_); rintro e w1 ⟨rfl, rfl⟩) | (go_at_call 21; (with_reducible refine (q1.out _ hOd.out.below).mono ?_); rintro e w1 ⟨rfl, hb1⟩; have hO1 := Lib.hid (hOd.out.later hb1); clear hb1) | (have hp_ := put_w D2 D1 hO1.out HL.out HSD.out (by omega); go_at_fn 20; refine hp_.mono ?_; clear hp_; rintro e w3 ⟨rfl, o3⟩; have hO2 := Lib.hid o3; clear o3))
              try go_wp2_with (fail)
              refine hK.out _ _ ?_ (fun hHeld => ?_)
              · (try dsimp only); (first | exact ⟨hOd.out.cell 0, hOd.out.cell 1⟩ | exact ⟨hO1.out.cell 0, hO1.out.cell 1⟩ | exact ⟨hO2.out.cell 0, hO2.out.cell 1⟩)
              clear hK K
              try simp only [Act.put, List.setIfInBounds_toArray, List.set_cons_zero, List.set_cons_succ]
              refine wpAnyH_ready (rs := [7]) (by kernel_rfl) (by simp) ?_
              refine AllReadyH.cons (o := ⟨_, _, _, _, _, _⟩) rfl (fun K hK => ?_) AllReadyH.nil
              go_simp
              (first | (go_at_call 22; (with_reducible refine (q2.out _).mono ?_); rintro e w1 ⟨rfl, rfl⟩) | (go_at_call 21; (with_reducible refine (q1.out _ hOd.out.below).mono ?_); rintro e w1 ⟨rfl, hb1⟩; have hO1 := Lib.hid (hOd.out.later hb1); clear hb1) | (have hp_ := put_w D2 D1 hO1.out HL.out HSD.out (by omega); go_at_fn 20; refine hp_.mono ?_; clear hp_; rintro e w3 ⟨rfl, o3⟩; have hO2 := Lib.hid o3; clear o3))
              try go_wp2_with (fail)
              refine hK.out _ _ ?_ (fun hHeld => ?_)
              · (try dsimp only); (first | exact ⟨hOd.out.cell 0, hOd.out.cell 1⟩ | exact ⟨hO1.out.cell 0, hO1.out.cell 1⟩ | exact ⟨hO2.out.cell 0, hO2.out.cell 1⟩)
              clear hK K
              try simp only [Act.put, List.setIfInBounds_toArray, List.set_cons_zero, List.set_cons_succ]
              refine wpAnyH_done (by kernel_rfl) ?_ _
              go_wp2_with (fail)
              go_roundw
              case rel => exact ⟨k + 1, by omega, by simp, Lib.hid (by rw [HN.out, ← List.append_assoc]; exact hO2.out.back hsW HCX.out)⟩
              case measure => simp [intOf]; omega
            · obtain rfl : k = n2 := by omega
              have t0 : decide ((k : Int) < (k : Int)) = false := by simp
              have hO3 : Hid (OutW W0 wr P (L4 ++ pcs (x.after.map fun d => (depW d.1, .num d.2))) w.heap.size cs 27) := by
                have := hOr
                rwa [List.take_of_length_le (by rw [hn2.out]; omega)] at this
              clear hOr
              obtain ⟨L5, hL5⟩ : ∃ q, Hid (L4 ++ pcs (x.after.map fun d => (depW d.1, .num d.2)) = q) := ⟨_, Lib.hid rfl⟩
              have hl5 : L5.length ≤ 9 := by rw [← hL5.out, List.length_append]; simp [pcs]; have := hn2.out; omega
              rw [hL5.out] at hO3
              have hq10 := HOK.out.frm
              have x0 : wr.cell? ⟨w.heap.size, 0, none⟩ = some (.int .i64 x.kind) := hO3.out.at_ E0.out
              clear hlt t0
              obtain ⟨L6, hL6⟩ : ∃ q, Hid (L5 ++ pcs (if x.kind = 10 then [(bFrom, .num x.frm)] else []) = q) := ⟨_, Lib.hid rfl⟩
              have hlL6 : L6.length ≤ 10 := by rw [← hL6.out, List.length_append]; split <;> simp [pcs] <;> omega
              obtain ⟨z1, hz1⟩ : ∃ q, (x.kind == 10) = q := ⟨_, rfl⟩
              go_upto_if 66 with (fail)
              go_cut [] (fun wc => Hid (OutW W0 wc P L6 w.heap.size cs 27))
              case first =>
                cases z1
                · have hL : Hid (L6 = L5) := by show _ = _; rw [← hL6.out, if_neg (by simpa using hz1)]; simp [pcs]
                  go_wp2_with (fail)
                  go_meet
                  rw [hL.out]
                  exact hO3
                · have hb4 := hq10 (by simpa using hz1)
                  have hL : Hid (L6 = L5 ++ [pieceB ⟨bFrom.toArray⟩ ⟨(Lib.itoa x.frm).toArray⟩]) := by
                    show _ = _
                    rw [← hL6.out, if_pos (by simpa using hz1), piece_at bFrom (.num x.frm) ⟨(Lib.itoa x.frm).toArray⟩ rfl]
                  have x10 : wr.cell? ⟨w.heap.size, 17, none⟩ = some (.int .i64 x.frm) := hO3.out.at_ E17.out
                  have q1 := Lib.hid (itoa_any x.frm wr (by omega) (by omega) (tab_below HT0.out hO3.out.below))
                  have s1 := itoa_size x.frm (by omega) (by omega)
                  obtain ⟨D1, e1⟩ : ∃ D, (⟨(Lib.itoa x.frm).toArray⟩ : ByteArray) = D := ⟨_, rfl⟩
                  rw [e1] at hL q1 s1
                  clear e1
                  go_wp2_with (fail)
                  refine q1.out.mono ?_; rintro e w3 ⟨rfl, hb3⟩
                  have hO4 := Lib.hid (hO3.out.later hb3); clear hb3
                  go_wp2_with (fail)
                  have hp_ := put_w ⟨bFrom.toArray⟩ D1 hO4.out (by omega) sz_from (by omega)
                  refine hp_.mono ?_; clear hp_; rintro e w4 ⟨rfl, o_⟩
                  have hO5 := Lib.hid o_; clear o_
                  go_wp2_with (fail)
                  go_meet
                  rw [hL.out]
                  exact hO5
              case rest =>
                clear x0 hz1 hO3 hq10
                replace hO3 := hcut
                clear hcut
                have hq12 := HOK.out.nodes
                have x16 : wc.cell? ⟨w.heap.size, 16, none⟩ = some (.int .i64 x.nodes) := hO3.out.at_ E16.out
                obtain ⟨L7, hL7⟩ : ∃ q, Hid (L6 ++ pcs (if 0 < x.nodes then [(bNodes, .num x.nodes)] else []) = q) := ⟨_, Lib.hid rfl⟩
                have hlL7 : L7.length ≤ 11 := by rw [← hL7.out, List.length_append]; split <;> simp [pcs] <;> omega
                obtain ⟨z1, hz1⟩ : ∃ q, decide (0 < x.nodes) = q := ⟨_, rfl⟩
                have hz2 : decide (x.nodes > 0) = z1 := hz1
                go_upto_if 74 with (fail)
                go_cut [] (fun wc => Hid (OutW W0 wc P L7 w.heap.size cs 27))
                case first =>
                  cases z1
                  · have hL : Hid (L7 = L6) := by show _ = _; rw [← hL7.out, if_neg (by simpa using hz1)]; simp [pcs]
                    go_wp2_with (fail)
                    go_meet
                    rw [hL.out]
                    exact hO3
                  · have hb4 := (by simpa using hz1 : 0 < x.nodes)
                    have hL : Hid (L7 = L6 ++ [pieceB ⟨bNodes.toArray⟩ ⟨(Lib.itoa x.nodes).toArray⟩]) := by
                      show _ = _
                      rw [← hL7.out, if_pos (by simpa using hz1), piece_at bNodes (.num x.nodes) ⟨(Lib.itoa x.nodes).toArray⟩ rfl]
                    have x10 : wc.cell? ⟨w.heap.size, 16, none⟩ = some (.int .i64 x.nodes) := hO3.out.at_ E16.out
                    have q1 := Lib.hid (itoa_any x.nodes wc (by omega) (by omega) (tab_below HT0.out hO3.out.below))
                    have s1 := itoa_size x.nodes (by omega) (by omega)
                    obtain ⟨D1, e1⟩ : ∃ D, (⟨(Lib.itoa x.nodes).toArray⟩ : ByteArray) = D := ⟨_, rfl⟩
                    rw [e1] at hL q1 s1
                    clear e1
                    go_wp2_with (fail)
                    refine q1.out.mono ?_; rintro e w3 ⟨rfl, hb3⟩
                    have hO4 := Lib.hid (hO3.out.later hb3); clear hb3
                    go_wp2_with (fail)
                    have hp_ := put_w ⟨bNodes.toArray⟩ D1 hO4.out (by omega) sz_nodes (by omega)
                    refine hp_.mono ?_; clear hp_; rintro e w4 ⟨rfl, o_⟩
                    have hO5 := Lib.hid o_; clear o_
                    go_wp2_with (fail)
                    go_meet
                    rw [hL.out]
                    exact hO5
                case rest =>
                  clear x16 hz1 hz2 hO3
                  replace hO3 := hcut
                  clear hcut
                  obtain ⟨L8, hL8⟩ : ∃ q, Hid (L7 ++ pcs (formF x.shape) = q) := ⟨_, Lib.hid rfl⟩
                  have hl8 : L8.length ≤ 113 := by rw [← hL8.out, List.length_append]; have := form_len HOK.out.shape; simp [pcs]; omega
                  have x5 : wc.cell? ⟨w.heap.size, 5, none⟩ = some (.int .i64 x.shape.kind) := hO3.out.at_ E5.out
                  have x6 : wc.cell? ⟨w.heap.size, 6, none⟩ = some (.slice A x.shape.alts.length c) := hO3.out.at_ E6.out
                  have x7 : wc.cell? ⟨w.heap.size, 7, none⟩ = some (.int .i64 x.shape.mn) := hO3.out.at_ E7.out
                  have x8 : wc.cell? ⟨w.heap.size, 8, none⟩ = some (.int .i64 x.shape.mx) := hO3.out.at_ E8.out
                  have x9 : wc.cell? ⟨w.heap.size, 9, none⟩ = some (.int .i64 x.shape.wall) := hO3.out.at_ E9.out
                  have hfm := Lib.hid (form_any x.shape A c P B L7 W0 wc _ _ _ hO3.out (by omega) HOK.out.shape HAT.out.1 hB0 HT0.out)
                  rw [hL8.out] at hfm
                  unfold putV at hfm
                  go_wp2_with (fail)
                  refine hfm.out.mono ?_; rintro e w3 ⟨rfl, b1, cs1, T1, o_⟩
                  clear hO3 hfm x5 x6 x7 x8 x9
                  have hO3 := Lib.hid (o_.back hsW HCX.out)
                  clear o_
                  have hq13 := HOK.out.time
                  obtain ⟨z1, hz1⟩ : ∃ q, x.hasTime = q := ⟨_, rfl⟩
                  have x13 : w3.cell? ⟨w.heap.size, 13, none⟩ = some (.bool z1) := hO3.out.at_ (by rw [E13.out, hz1])
                  obtain ⟨L9, hL9⟩ : ∃ q, Hid (L8 ++ pcs (if x.hasTime = true then [(bTime, .time x.time)] else []) = q) := ⟨_, Lib.hid rfl⟩
                  have hlL9 : L9.length ≤ 114 := by rw [← hL9.out, List.length_append]; split <;> simp [pcs] <;> omega
                  rw [hz1] at hq13
                  go_upto_if 85 with (fail)
                  go_cut [] (fun wc => Hid (OutW W0 wc P L9 w.heap.size cs 27))
                  case first =>
                    cases z1
                    · have hL : Hid (L9 = L8) := by show _ = _; rw [← hL9.out, if_neg (by rw [hz1]; decide)]; simp [pcs]
                      go_wp2_with (fail)
                      go_meet
                      rw [hL.out]
                      exact hO3
                    · have hb4 := hq13 rfl
                      have hL : Hid (L9 = L8 ++ [pieceB ⟨bTime.toArray⟩ ⟨(showL x.time.toNat).toArray⟩]) := by
                        show _ = _
                        rw [← hL9.out, if_pos (hz1), piece_at bTime (.time x.time) ⟨(showL x.time.toNat).toArray⟩ rfl]
                      have x10 : w3.cell? ⟨w.heap.size, 12, none⟩ = some (.int .i64 x.time) := hO3.out.at_ E12.out
                      have q1 := Lib.hid (time8_any x.time w3 (by omega) (by omega))
                      have s1 := show_size x.time (by omega)
                      obtain ⟨D1, e1⟩ : ∃ D, (⟨(showL x.time.toNat).toArray⟩ : ByteArray) = D := ⟨_, rfl⟩
                      rw [e1] at hL q1 s1
                      clear e1
                      go_wp2_with (fail)
                      refine q1.out.mono ?_; rintro e w3 ⟨rfl, hb3⟩
                      have hO4 := Lib.hid (hO3.out.later hb3); clear hb3
                      go_wp2_with (fail)
                      have hp_ := put_w ⟨bTime.toArray⟩ D1 hO4.out (by omega) sz_time (by omega)
                      refine hp_.mono ?_; clear hp_; rintro e w4 ⟨rfl, o_⟩
                      have hO5 := Lib.hid o_; clear o_
                      go_wp2_with (fail)
                      go_meet
                      rw [hL.out]
                      exact hO5
                  case rest =>
                    clear x13 hz1 hO3 hq13
                    replace hO3 := hcut
                    clear hcut
                    have hfin : L9 = (partsP x).map (fun t => (⟨t.toArray⟩ : ByteArray)) := by
                      rw [← hL9.out, ← hL8.out, ← hL7.out, ← hL6.out, ← hL5.out, ← hL4.out, ← hL3.out, ← hL2.out, ← hK1]
                      exact show_all x SJ hSJ9.out
                    have hjn : Lib.join (L9.map (·.data.toList)) [32] = lineP x := by rw [hfin, List.map_map]; show Lib.join (List.map id (partsP x)) [32] = _; rw [List.map_id]; rfl
                    obtain ⟨⟨v, hv, _⟩, _, _, _, _⟩ := hO3.out
                    obtain ⟨A9, c9, rfl, hc9, hm9⟩ := hv.own.slice
                    have hjo := join_any A9 L9.length c9 wc.heap.size L9 ⟨#[32]⟩ wc hv.own.reads (Nat.le_refl _) hc9 (by omega) (by rw [hjn]; exact line_le HOK.out HZ.out)
                    rw [hjn] at hjo
                    have c1 := hv.cell
                    have HJ := Lib.hid hjo
                    have HX : Hid (X = if (lineP x).length ≤ 400 then (⟨(lineP x).toArray⟩, 0) else (⟨#[]⟩, 3)) := by show _ = _; rw [← hXX.out]; unfold cshowP; rw [if_pos HE0.out]
                    obtain ⟨S, hS⟩ : ∃ q : ByteArray, ⟨(lineP x).toArray⟩ = q := ⟨_, rfl⟩
                    have hsz : (lineP x).length = S.size := by rw [← hS]; show _ = (lineP x).toArray.size; rw [List.size_toArray]
                    rw [hS, hsz] at HX
                    rw [hS] at HJ
                    have HB9 := Lib.hid (HBX.out.trans (hO3.out.below.mono HBX.out.size))
                    clear hfin hjn hv hjo hS hsz hO3
                    by_cases hle : S.size ≤ 400
                    · have t1 : decide ((S.size : Int) > 400) = false := by simp; omega
                      have t2 : decide ((400 : Int) < (S.size : Int)) = false := by simp; omega
                      have t3 : decide (400 < S.size) = false := by simp; omega
                      have HR : Hid (X = (S, 0)) := Lib.hid (HX.out.trans (if_pos hle))
                      clear hle
                      go_wp2_with (fail)
                      refine HJ.out.mono ?_; rintro e w5 ⟨rfl, hb5⟩
                      have B5 := Lib.hid (HB9.out.trans (hb5.mono HB9.out.size)); clear hb5
                      go_wp2
                      go_ret2
                      rw [HR.out]
                      exact ⟨rfl, B5.out⟩
                    · have t1 : decide ((S.size : Int) > 400) = true := by simp; omega
                      have t2 : decide ((400 : Int) < (S.size : Int)) = true := by simp; omega
                      have t3 : decide (400 < S.size) = true := by simp; omega
                      have HR : Hid (X = (⟨#[]⟩, 3)) := Lib.hid (HX.out.trans (if_neg hle))
                      clear hle
                      go_wp2_with (fail)
                      refine HJ.out.mono ?_; rintro e w5 ⟨rfl, hb5⟩
                      have B5 := Lib.hid (HB9.out.trans (hb5.mono HB9.out.size)); clear hb5
                      go_wp2
                      go_ret2
                      rw [HR.out]
                      exact ⟨rfl, B5.out⟩
theorem show_any8 (x : Cm) (A A2 : Option Addr) (c c2 B : Nat) (w : World) (ha : CmAt w B x A c A2 c2) (hB : B ≤ w.heap.size) (hz : CmSz x) (hT : Lib.TabIs Tryz.prog w "internal/strconv.uint64pow10" .u64 Lib.pow10Tab) :
    Calls Tryz.prog 9 #[cmV x A c A2 c2] w fun e w' => e = .returned (.tuple #[.string (cshowP x).1, .int .i64 (cshowP x).2]) ∧ Below w.heap.size w w' := by
  by_cases hE : cmdE x = 0
  · exact show_good8 x A A2 c c2 B w ha hB hz hE hT
  · have h8 : cmdE x = 80 := by unfold cmdE at hE ⊢; split <;> simp_all
    have := show_bad8 x A A2 c c2 B w ha hB hz hE
    unfold cshowP
    rw [if_neg hE]
    rwa [h8] at this
end Go.Proofs.YtjmhaoplablmnaaGreatDoor
