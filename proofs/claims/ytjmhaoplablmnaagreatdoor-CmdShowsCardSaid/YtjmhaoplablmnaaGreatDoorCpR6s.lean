/- Layer 8: the reference's Show (printed by a program of my own). -/
import Derived.Test.YtjmhaoplablmnaaGreatDoorCpR5s
import Derived.Test.YtjmhaoplablmnaaGreatDoorCpP2s
import Derived.Test.YtjmhaoplablmnaaGreatDoorCpOs
import Derived.Test.YtjmhaoplablmnaaGreatDoorCpS5s
namespace Go.Proofs.YtjmhaoplablmnaaGreatDoor
set_option linter.unusedVariables false
set_option linter.unusedSimpArgs false
open Go.RowKit
def bytesL (l : List UInt8) : ByteArray := ⟨l.toArray⟩
theorem bytesL_nil (a : ByteArray) : a ++ bytesL [] = a := by apply ByteArray.ext; simp [ByteArray.data_append, bytesL]
theorem bytesL_size (l : List UInt8) : (bytesL l).size = l.length := by unfold bytesL; show l.toArray.size = _; simp
theorem join_sp : ∀ (a : List UInt8) (l : List (List UInt8)), Lib.join (a :: l) [32] = a ++ l.flatMap (fun t => 32 :: t)
  | a, [] => by rw [Lib.join_one]; simp
  | a, b :: l => by rw [join_cons, join_sp b l]; simp
structure ShowMore (c : Cm) : Prop where
  jobs : (c.kind = 1 ∨ c.kind = 7 ∨ c.kind = 8 ∨ c.kind = 9) → c.job = 0
  subj : c.kind = 1 → subjT c ≠ []
  how : ∀ d ∈ c.after, d.1 = 1 ∨ d.1 = 2 ∨ d.1 = 3
  form : c.shape.kind ≠ 1 → c.shape.kind ≠ 2 → c.shape.kind ≠ 3 → c.shape.alts = []
theorem show_more8 {c : Cm} (hE : cmdE c = 0) : ShowMore c := by
  obtain ⟨hA, hF, hfit, hbare⟩ := cmd_ok hE
  unfold fitB at hfit
  rw [Bool.and_eq_true] at hfit
  obtain ⟨hpre, hfit⟩ := hfit
  unfold bareC at hbare
  by_cases k1 : c.kind = 1
  · rw [if_pos k1] at hbare hfit
    have hj : c.job = 0 := congrArg Cm.job hbare
    unfold subB depsB at hfit
    simp only [Bool.and_eq_true, beq_iff_eq, List.all_eq_true] at hfit
    obtain ⟨⟨⟨⟨⟨⟨s1, s2⟩, s3⟩, s4⟩, s5⟩, s6⟩, s7⟩ := hfit
    obtain ⟨n1, n2⟩ := name_ok8 s1
    refine ⟨fun _ => hj, fun _ => ?_, fun d hd => ?_, fun x1 x2 x3 => ?_⟩
    · unfold subjT
      rw [if_pos k1]
      split
      · exact n2
      · first
        | (rw [if_pos n1]; unfold quoteL; simp)
        | (unfold quoteL; simp)
    · have := s6.1.1 d hd
      unfold okDep at this
      rw [Bool.and_eq_true] at this
      have := in_iff.1 this.1
      omega
    · unfold shE okS at s7
      rw [if_neg x1, if_neg x2, if_neg x3] at s7
      cases s7
  rw [if_neg k1] at hbare
  have hor : c.shape = sh0 ∧ c.after = [] ∧ ((c.kind = 7 ∨ c.kind = 8 ∨ c.kind = 9) → c.job = 0) := by
    split at hbare
    · exact ⟨congrArg Cm.shape hbare, congrArg Cm.after hbare, fun x => by omega⟩
    · split at hbare
      · exact ⟨congrArg Cm.shape hbare, congrArg Cm.after hbare, fun x => by omega⟩
      · split at hbare
        · exact ⟨congrArg Cm.shape hbare, congrArg Cm.after hbare, fun x => by omega⟩
        · split at hbare
          · exact ⟨congrArg Cm.shape hbare, congrArg Cm.after hbare, fun _ => congrArg Cm.job hbare⟩
          · split at hbare
            · exact ⟨congrArg Cm.shape hbare, congrArg Cm.after hbare, fun x => by omega⟩
            · exact ⟨congrArg Cm.shape hbare, congrArg Cm.after hbare, fun x => congrArg Cm.job hbare⟩
  refine ⟨fun x => hor.2.2 (by omega), fun x => absurd x k1, fun d hd => ?_, fun _ _ _ => by rw [hor.1]; rfl⟩
  rw [hor.2.1] at hd; cases hd
theorem line_sum {x : Cm} (h : ShowOk x) (hm : ShowMore x) : bytesL (bWd x.kind) ++ bytesL (if x.kind = 1 then 32 :: subjT x ++ spF [(bU, .word x.user), (bA, .word x.account)] else []) ++ bytesL (if x.kind = 7 ∨ x.kind = 8 ∨ x.kind = 9 then 32 :: Lib.itoa x.node else []) ++ bytesL (if 0 < x.job then 32 :: Lib.itoa x.job else []) ++
    bytesL (if x.hasPrio = true then spF [(bPrio, .num x.prio)] else []) ++ bytesL (spF (x.after.map fun d => (depW d.1, .num d.2))) ++ bytesL (if x.kind = 10 then spF [(bFrom, .num x.frm)] else []) ++ bytesL (if 0 < x.nodes then spF [(bNodes, .num x.nodes)] else []) ++ bytesL (spF (formF x.shape)) ++
    bytesL (if x.hasTime = true then spF [(bTime, .time x.time)] else []) = bytesL (lineP x) := by
  have e : lineP x = bWd x.kind ++ ((if subjT x = [] then [] else 32 :: subjT x) ++ spF (fieldsF x)) := by
    unfold lineP partsP
    rw [join_sp, List.flatMap_append]
    congr 1
    congr 1
    · split <;> simp
    · unfold spF; rw [List.flatMap_map]
  rw [e]
  unfold fieldsF
  simp only [spF_app]
  apply ByteArray.ext
  have n1 : x.job = 0 → ¬ (0 < x.job) := by omega
  have hi : ∀ n : Int, 0 ≤ n → Lib.itoa n ≠ [] := fun n hn => by rw [itoa_nn hn]; exact dd_ne _
  by_cases k1 : x.kind = 1
  · have hj := hm.jobs (.inl k1)
    have hs := hm.subj k1
    simp only [if_pos k1, if_neg hs, if_neg (n1 hj), if_neg (show ¬ (x.kind = 7 ∨ x.kind = 8 ∨ x.kind = 9) by omega), if_neg (show ¬ x.kind = 10 by omega)]
    simp only [ByteArray.data_append, bytesL]
    by_cases a1 : x.hasPrio = true <;> by_cases a2 : 0 < x.nodes <;> by_cases a3 : x.hasTime = true <;> simp [a1, a2, a3, spF]
  have es : subjT x = if x.kind = 7 ∨ x.kind = 8 ∨ x.kind = 9 then Lib.itoa x.node else if 0 < x.job then Lib.itoa x.job else [] := by unfold subjT; rw [if_neg k1]
  by_cases k7 : x.kind = 7 ∨ x.kind = 8 ∨ x.kind = 9
  · have hj := hm.jobs (by omega)
    rw [if_pos k7] at es
    have hs : subjT x ≠ [] := by rw [es]; exact hi _ (h.node k7).1
    simp only [if_neg k1, if_neg hs, if_neg (n1 hj), if_pos k7, if_neg (show ¬ x.kind = 10 by omega)]
    rw [es]
    simp only [ByteArray.data_append, bytesL]
    by_cases a1 : x.hasPrio = true <;> by_cases a2 : 0 < x.nodes <;> by_cases a3 : x.hasTime = true <;> simp [a1, a2, a3, spF]
  rw [if_neg k7] at es
  by_cases hj : 0 < x.job
  · rw [if_pos hj] at es
    have hs : subjT x ≠ [] := by rw [es]; exact hi _ (by omega)
    simp only [if_neg k1, if_neg hs, if_neg k7, if_pos hj]
    rw [es]
    simp only [ByteArray.data_append, bytesL]
    by_cases a1 : x.hasPrio = true <;> by_cases a2 : 0 < x.nodes <;> by_cases a3 : x.hasTime = true <;> by_cases a4 : x.kind = 10 <;> simp [a1, a2, a3, a4, spF]
  · rw [if_neg hj] at es
    simp only [if_neg k1, if_pos es, if_neg k7, if_neg hj]
    simp only [ByteArray.data_append, bytesL]
    by_cases a1 : x.hasPrio = true <;> by_cases a2 : 0 < x.nodes <;> by_cases a3 : x.hasTime = true <;> by_cases a4 : x.kind = 10 <;> simp [a1, a2, a3, a4, spF]
theorem sz_how : (⟨(depW 1).toArray⟩ : ByteArray).size = 3 ∧ (⟨(depW 2).toArray⟩ : ByteArray).size = 4 ∧ (⟨(depW 3).toArray⟩ : ByteArray).size = 3 := ⟨rfl, rfl, rfl⟩
theorem form_size {s : Sh} (h : FormOk s) : (spF (formF s)).length ≤ 100000 := by
  have hw : ∀ l : List Fl, (∀ f ∈ l, (fText f).length ≤ 500) → (spF l).length ≤ 501 * l.length := by
    intro l
    induction l with
    | nil => intro _; simp [spF]
    | cons f t ih =>
      intro hf
      have h1 := hf f (by simp)
      have h2 := ih (fun g hg => hf g (List.mem_cons_of_mem _ hg))
      unfold spF at h2 ⊢
      rw [List.flatMap_cons, List.length_append, List.length_cons, List.length_cons]
      omega
  have hl := form_len h
  have h3 : (spF (formF s)).length ≤ 501 * (formF s).length := by
    refine hw _ (fun f hf => ?_)
    obtain ⟨h1, h2, h3, h4⟩ := h
    have hx : ∀ (n : List UInt8) (v : Vt), n.length ≤ 10 → (vtT v).length ≤ 300 → (fText (n, v)).length ≤ 500 := by
      intro n v a1 a2
      unfold fText
      simp only [List.length_append, List.length_cons]
      omega
    unfold formF at hf
    split at hf
    · rename_i k1
      have hn := h1 k1
      have hm : s.alts.getD 0 (0, 0) ∈ s.alts := by
        rw [List.getD_eq_getElem?_getD, List.getElem?_eq_getElem hn]
        exact List.getElem_mem hn
      obtain ⟨q1, q2⟩ := h3 _ hm
      simp only [List.mem_cons, List.not_mem_nil, or_false] at hf
      rcases hf with rfl | rfl
      · exact hx _ _ (by decide) (by have := it_len _ q1.1 (by omega); show (Lib.itoa _).length ≤ _; omega)
      · exact hx _ _ (by decide) (by have := sh_len (s.alts.getD 0 (0, 0)).2 (by omega); show (showL _).length ≤ _; omega)
    · split at hf
      · obtain ⟨a, ha, rfl⟩ := List.mem_map.1 hf
        obtain ⟨q1, q2⟩ := h3 _ ha
        refine hx _ _ (by decide) ?_
        have := it_len a.1 q1.1 (by omega)
        have := sh_len a.2 (by omega)
        show (Lib.itoa _ ++ 58 :: showL _).length ≤ _
        rw [List.length_append, List.length_cons]
        omega
      · split at hf
        · rename_i k3
          obtain ⟨q1, q2, q3⟩ := h4 k3
          simp only [List.mem_cons, List.not_mem_nil, or_false] at hf
          rcases hf with rfl | rfl
          · refine hx _ _ (by decide) ?_
            have := it_len s.mn q1.1 (by omega)
            have := it_len s.mx q2.1 (by omega)
            show (Lib.itoa _ ++ 45 :: Lib.itoa _).length ≤ _
            rw [List.length_append, List.length_cons]
            omega
          · exact hx _ _ (by decide) (by have := sh_len s.wall (by omega); show (showL _).length ≤ _; omega)
        · cases hf
  omega
theorem dep_next {a : List Pr} {k : Nat} {x : Pr} (h : a[k]? = some x) (T0 : ByteArray) : T0 ++ bytesL (spF ((a.take k).map fun d => (depW d.1, Vt.num d.2))) ++ ⟨#[32]⟩ ++ ⟨(depW x.1).toArray⟩ ++ ⟨#[61]⟩ ++ ⟨(Lib.itoa x.2).toArray⟩ = T0 ++ bytesL (spF ((a.take (k + 1)).map fun d => (depW d.1, Vt.num d.2))) := by
  obtain ⟨hlt, rfl⟩ := List.getElem?_eq_some_iff.1 h
  rw [List.take_succ_eq_append_getElem hlt, List.map_append, spF_app]
  apply ByteArray.ext
  simp [ByteArray.data_append, spF, fText, vtT, bytesL]
set_option maxRecDepth 100000 in
theorem rshow_bad8 (x : Cm) (A A2 : Option Addr) (c c2 B : Nat) (w : World) (ha : CmAt w B x A c A2 c2) (hB : B ≤ w.heap.size) (hz : CmSz x) (hE : cmdE x ≠ 0) :
    Calls Tryz.prog 10 #[cmV x A c A2 c2] w fun e w' => e = .returned (.tuple #[.string ⟨#[]⟩, .int .i64 80]) ∧ Below w.heap.size w w' := by
  have HS := Lib.hid (cmA_size x A c A2 c2)
  obtain ⟨W0, hW0⟩ : ∃ W0, Hid (w.alloc (.cells (cmA x A c A2 c2) 27) = W0) := ⟨_, rfl⟩
  have HBX : Hid (Below w.heap.size w W0) := by rw [← hW0.out]; exact (Below.refl _ _).alloc (Nat.le_refl _) _
  have HCX : Hid (W0.heap[w.heap.size]? = some (.cells (cmA x A c A2 c2) 27 (0, 0))) := by show _ = _; rw [← hW0.out]; exact heap_alloc_new w _
  have hck := Lib.hid (rcheck8_any x A A2 c c2 B W0 (ha.below (HBX.out.mono hB)) (Nat.le_trans hB HBX.out.size) hz)
  rw [cmV_is x] at hck ⊢
  obtain ⟨cs, hcs⟩ : ∃ cs, cmA x A c A2 c2 = cs := ⟨_, rfl⟩
  rw [hcs] at HS hck HCX hW0 ⊢
  obtain ⟨E, hE2⟩ : ∃ E, cmdE x = E := ⟨_, rfl⟩
  rw [hE2] at hck hE
  have tE : (E != 0) = true := by simpa using hE
  clear hcs hE2 hE ha hB hz
  go_enter Tryz.func10, Tryz.ntmps10
  go_upto_region 1 with (fail)
  rw [hW0.out]
  go_wp2_with (refine wpList_load_row rfl 27 _ rfl w.heap.size rfl 27 _ (0, 0) _ HCX.out Tryz.underlying27 rfl (info27 HS.out) ?_)
  refine hck.out.mono ?_; rintro e w1 ⟨rfl, hb1⟩
  have B1 := Lib.hid (HBX.out.trans (hb1.mono HBX.out.size))
  clear hb1
  go_wp2
  go_ret2
  exact ⟨rfl, B1.out⟩
set_option maxHeartbeats 16000000 in
set_option maxRecDepth 100000 in
theorem rshow_good8 (x : Cm) (A A2 : Option Addr) (c c2 B : Nat) (w : World) (ha : CmAt w B x A c A2 c2) (hB : B ≤ w.heap.size) (hz : CmSz x) (hE : cmdE x = 0) :
    Calls Tryz.prog 10 #[cmV x A c A2 c2] w fun e w' => e = .returned (.tuple #[.string (cshowP x).1, .int .i64 (cshowP x).2]) ∧ Below w.heap.size w w' := by
  have HOK := Lib.hid (show_ok8 hE)
  have HMO := Lib.hid (show_more8 hE)
  have HX : Hid (cshowP x = if (lineP x).length ≤ 400 then (⟨(lineP x).toArray⟩, 0) else (⟨#[]⟩, 3)) := by show _ = _; unfold cshowP; rw [if_pos hE]
  obtain ⟨X, hXX⟩ : ∃ q, cshowP x = q := ⟨_, rfl⟩
  rw [hXX] at HX ⊢
  clear hXX
  have HLS := Lib.hid (line_sum HOK.out HMO.out)
  have HS := Lib.hid (info27 (cmA_size x A c A2 c2))
  obtain ⟨W0, hW0⟩ : ∃ W0, Hid (w.alloc (.cells (cmA x A c A2 c2) 27) = W0) := ⟨_, Lib.hid rfl⟩
  have HBX : Hid (Below w.heap.size w W0) := by rw [← hW0.out]; exact (Below.refl _ _).alloc (Nat.le_refl _) _
  have HCX : Hid (W0.heap[w.heap.size]? = some (.cells (cmA x A c A2 c2) 27 (0, 0))) := by show _ = _; rw [← hW0.out]; exact heap_alloc_new w _
  have hck := Lib.hid (rcheck8_any x A A2 c c2 B W0 (ha.below (HBX.out.mono hB)) (Nat.le_trans hB HBX.out.size) hz)
  rw [hE] at hck
  have HAT := Lib.hid (ha.below (HBX.out.mono hB))
  have hB0 : B ≤ W0.heap.size := Nat.le_trans hB HBX.out.size
  have HZ := Lib.hid hz
  have hvb := Lib.hid (fun v => verb8_any x.kind v HOK.out.kind.1 HOK.out.kind.2)
  have hwb := Lib.hid (fun v => rword8_any x.name v HZ.out.1)
  have hqt := Lib.hid (fun (h : x.kind = 1) v => rquote_ok x.name v (by have := HZ.out.1; omega) (HOK.out.name h))
  have hfm := Lib.hid (fun v (hv : Below W0.heap.size W0 v) => rform_any x.shape A c B v HOK.out.shape HMO.out.form (HAT.out.1.below (hv.mono hB0)) (Nat.le_trans hB0 hv.size))
  rw [cmV_is x] at hck ⊢
  have e0 : (cmA x A c A2 c2)[0]? = some (.int .i64 x.kind) := rfl
  have e1 : (cmA x A c A2 c2)[1]? = some (.int .i64 x.job) := rfl
  have e2 : (cmA x A c A2 c2)[2]? = some (.string x.name) := rfl
  have e3 : (cmA x A c A2 c2)[3]? = some (.string x.user) := rfl
  have e4 : (cmA x A c A2 c2)[4]? = some (.string x.account) := rfl
  have e5 : (cmA x A c A2 c2)[5]? = some (.int .i64 x.shape.kind) := rfl
  have e6 : (cmA x A c A2 c2)[6]? = some (.slice A x.shape.alts.length c) := rfl
  have e7 : (cmA x A c A2 c2)[7]? = some (.int .i64 x.shape.mn) := rfl
  have e8 : (cmA x A c A2 c2)[8]? = some (.int .i64 x.shape.mx) := rfl
  have e9 : (cmA x A c A2 c2)[9]? = some (.int .i64 x.shape.wall) := rfl
  have e10 : (cmA x A c A2 c2)[10]? = some (.int .i64 x.prio) := rfl
  have e11 : (cmA x A c A2 c2)[11]? = some (.bool x.hasPrio) := rfl
  have e12 : (cmA x A c A2 c2)[12]? = some (.int .i64 x.time) := rfl
  have e13 : (cmA x A c A2 c2)[13]? = some (.bool x.hasTime) := rfl
  have e14 : (cmA x A c A2 c2)[14]? = some (.slice A2 x.after.length c2) := rfl
  have e15 : (cmA x A c A2 c2)[15]? = some (.int .i64 x.node) := rfl
  have e16 : (cmA x A c A2 c2)[16]? = some (.int .i64 x.nodes) := rfl
  have e17 : (cmA x A c A2 c2)[17]? = some (.int .i64 x.frm) := rfl
  obtain ⟨cs, hcs⟩ : ∃ cs, cmA x A c A2 c2 = cs := ⟨_, rfl⟩
  rw [hcs] at HS hck HCX hW0 e0 e1 e2 e3 e4 e5 e6 e7 e8 e9 e10 e11 e12 e13 e14 e15 e16 e17 ⊢
  replace e0 := Lib.hid e0
  replace e1 := Lib.hid e1
  replace e2 := Lib.hid e2
  replace e3 := Lib.hid e3
  replace e4 := Lib.hid e4
  replace e5 := Lib.hid e5
  replace e6 := Lib.hid e6
  replace e7 := Lib.hid e7
  replace e8 := Lib.hid e8
  replace e9 := Lib.hid e9
  replace e10 := Lib.hid e10
  replace e11 := Lib.hid e11
  replace e12 := Lib.hid e12
  replace e13 := Lib.hid e13
  replace e14 := Lib.hid e14
  replace e15 := Lib.hid e15
  replace e16 := Lib.hid e16
  replace e17 := Lib.hid e17
  have hl0 := lt_of_block HCX.out
  have HC : Hid (∀ v, Below W0.heap.size W0 v → ∀ k u, cs[k]? = some u → v.cell? ⟨w.heap.size, k, none⟩ = some u) := fun v hv k u hu => (hv.cell (p := ⟨w.heap.size, k, none⟩) hl0).trans ((cell_of_row W0 _ k _ _ _ HCX.out).trans hu)
  clear hcs hB ha hz hE
  obtain ⟨T1, hT1⟩ : ∃ q : ByteArray, bytesL (bWd x.kind) = q := ⟨_, rfl⟩
  have z1 : T1.size ≤ 20 := by
    rw [← hT1, bytesL_size]
    rcases kinds12 HOK.out.kind.1 HOK.out.kind.2 with e | e | e | e | e | e | e | e | e | e | e | e <;> rw [e] <;> decide
  have hvb2 : Hid (∀ v, Calls Tryz.prog 26 #[.int .i64 x.kind] v fun e w' => e = .returned (.string T1) ∧ Below v.heap.size v w') := by rw [← hT1]; exact hvb
  rw [hT1] at HLS
  clear hT1 hvb
  go_enter Tryz.func10, Tryz.ntmps10
  go_upto_region 1 with (fail)
  rw [hW0.out]
  go_wp2_with (refine wpList_load_row rfl 27 _ rfl w.heap.size rfl 27 _ (0, 0) _ HCX.out Tryz.underlying27 rfl HS.out ?_)
  refine hck.out.mono ?_; rintro e w1 ⟨rfl, hb1⟩
  have B1 := Lib.hid hb1
  have x0 := HC.out _ hb1 0 _ e0.out
  clear hb1
  go_wp2_with (fail)
  refine (hvb2.out _).mono ?_; rintro e w2 ⟨rfl, hb2⟩
  have hbw := Lib.hid (bt B1.out hb2)
  clear x0 hb2 hck hvb2
  obtain ⟨T2, hT2⟩ : ∃ q : ByteArray, Hid (T1 ++ bytesL (if x.kind = 1 then 32 :: subjT x ++ spF [(bU, .word x.user), (bA, .word x.account)] else []) = q) := ⟨_, Lib.hid rfl⟩
  rw [hT2.out] at HLS
  have z2 : T2.size ≤ 20000000 := by
    rw [← hT2.out, ByteArray.size_append, bytesL_size]
    have h1 := subj_le HOK.out HZ.out
    have h2 := HZ.out.2.1
    have h3 := HZ.out.2.2
    split
    · simp only [List.length_append, List.length_cons, spF, List.flatMap_cons, List.flatMap_nil, List.length_nil, fText, vtT, bU, bA, size_bl]
      omega
    · simp; omega
  have x0 := HC.out _ hbw.out 0 _ e0.out
  obtain ⟨b1, hb1⟩ : ∃ q, (x.kind == 1) = q := ⟨_, rfl⟩
  go_upto_if 16 with (fail)
  go_cut [4] (fun t wc => t = .string T2 ∧ Hid (Below W0.heap.size W0 wc))
  case first =>
    cases b1
    · have hL : Hid (T2 = T1) := by show _ = _; rw [← hT2.out, if_neg (by simpa using hb1), bytesL_nil]
      clear hb1
      go_wp2_with (fail)
      go_meet
      exact ⟨by rw [hL.out], hbw⟩
    · have hk : x.kind = 1 := by simpa using hb1
      have x2 := HC.out _ hbw.out 2 _ e2.out
      have hq := Lib.hid (hqt.out hk)
      have HSB : Hid (subjT x = if wordB x.name = true then bl x.name else quoteL (bl x.name)) := by show _ = _; unfold subjT; rw [if_pos hk, if_pos (HOK.out.name hk)]
      have HT : Hid (∀ S : ByteArray, S = bytesL (subjT x) → T2 = T1 ++ ⟨#[32]⟩ ++ S ++ ⟨#[32, 117, 115, 101, 114, 61]⟩ ++ x.user ++ ⟨#[32, 97, 99, 99, 111, 117, 110, 116, 61]⟩ ++ x.account) := by
        intro S hS
        rw [← hT2.out, if_pos hk, hS]
        apply ByteArray.ext
        apply Array.ext'
        simp [ByteArray.data_append, bytesL, spF, fText, vtT, bU, bA, bl]
      have hsu := HZ.out.2.1
      have hsa := HZ.out.2.2
      have hsb := subj_le HOK.out HZ.out
      have hsn := HZ.out.1
      clear hb1 hk
      go_wp2_with (fail)
      refine (hwb.out _).mono ?_; rintro e w3 ⟨rfl, hb3⟩
      have B3 := Lib.hid (bt hbw.out hb3)
      clear hb3
      obtain ⟨q, hqw⟩ : ∃ q, wordB x.name = q := ⟨_, rfl⟩
      rw [hqw] at HSB ⊢
      cases q
      · have hS : Hid ((⟨(quoteL (bl x.name)).toArray⟩ : ByteArray) = bytesL (subjT x)) := by show _ = _; rw [HSB.out, if_neg (by decide)]; rfl
        have HTS := Lib.hid (HT.out _ hS.out)
        obtain ⟨S, hSS⟩ : ∃ q : ByteArray, (⟨(quoteL (bl x.name)).toArray⟩ : ByteArray) = q := ⟨_, rfl⟩
        have hsz : S.size ≤ 3000000 := by rw [← hSS, hS.out, bytesL_size]; exact hsb
        rw [hSS] at hq HTS
        clear hqw hSS hsb hS
        go_wp2_with (fail)
        refine (hq.out _).mono ?_; rintro e w4 ⟨rfl, hb4⟩
        have B4 := Lib.hid (bt B3.out hb4)
        have x3 := HC.out _ B4.out 3 _ e3.out
        have x4 := HC.out _ B4.out 4 _ e4.out
        clear hb4 x0 x2
        go_wp2_with (fail)
        go_meet
        exact ⟨by rw [HTS.out], B4⟩
      · have hS : Hid (x.name = bytesL (subjT x)) := by show _ = _; rw [HSB.out, if_pos rfl]; simp [bytesL, bl]
        have HTS := Lib.hid (HT.out _ hS.out)
        have x3 := HC.out _ B3.out 3 _ e3.out
        have x4 := HC.out _ B3.out 4 _ e4.out
        clear hqw x0 x2 hsb hS
        go_wp2_with (fail)
        go_meet
        exact ⟨by rw [HTS.out], B3⟩
  case rest =>
    obtain ⟨rfl, hbn⟩ := hcut
    clear hbw x0 hb1
    have hbw := hbn
    clear hbn
    have x0 := HC.out _ hbw.out 0 _ e0.out
    obtain ⟨q7, h7⟩ : ∃ q, (x.kind == 7) = q := ⟨_, rfl⟩
    obtain ⟨q8, h8⟩ : ∃ q, (x.kind == 8) = q := ⟨_, rfl⟩
    obtain ⟨q9, h9⟩ : ∃ q, (x.kind == 9) = q := ⟨_, rfl⟩
    have HQ : Hid ((x.kind = 7 ∨ x.kind = 8 ∨ x.kind = 9) ↔ (q7 || (q8 || q9)) = true) := by
      show _ ↔ _
      rw [← h7, ← h8, ← h9]; simp
    go_upto_region 9 with (fail)
    go_cut [51] (fun v wd => v = .bool (q7 || (q8 || q9)) ∧ wc = wd)
    case first =>
      cases q7
      case true =>
        go_wp2_with (fail)
        go_meet
        exact ⟨rfl, rfl⟩
      cases q8
      case true =>
        go_wp2_with (fail)
        go_meet
        exact ⟨rfl, rfl⟩
      go_wp2_with (fail)
      go_meet
      exact ⟨rfl, rfl⟩
    case rest =>
      obtain ⟨rfl, hwd⟩ := hcut
      subst hwd
      clear x0 h7 h8 h9
      obtain ⟨b1, hb1⟩ : ∃ q, (q7 || (q8 || q9)) = q := ⟨_, rfl⟩
      rw [hb1] at HQ ⊢
      clear hb1
      have hb1 : Hid (b1 = b1) := Lib.hid rfl
      obtain ⟨T3, hT3⟩ : ∃ q : ByteArray, Hid (T2 ++ bytesL (if x.kind = 7 ∨ x.kind = 8 ∨ x.kind = 9 then 32 :: Lib.itoa x.node else []) = q) := ⟨_, Lib.hid rfl⟩
      rw [hT3.out] at HLS
      have hb2 := HQ
      go_upto_if 51 with (fail)
      go_cut [4] (fun t wc => t = .string T3 ∧ T3.size ≤ T2.size + 200 ∧ Hid (Below W0.heap.size W0 wc))
      case first =>
        cases b1
        · have hL : Hid (T3 = T2) := by show _ = _; rw [← hT3.out, if_neg (fun h => by have := HQ.out.1 h; cases this), bytesL_nil]
          clear hb1
          go_wp2_with (fail)
          go_meet
          exact ⟨by rw [hL.out], by rw [hL.out]; omega, hbw⟩
        · have hbd := HOK.out.node (HQ.out.2 rfl)
          have hL : Hid (T3 = T2 ++ ⟨#[32]⟩ ++ ⟨(Lib.itoa x.node).toArray⟩) := by
            show _ = _
            rw [← hT3.out, if_pos (HQ.out.2 rfl)]
            apply ByteArray.ext
            simp [ByteArray.data_append, bytesL, spF, fText, vtT, bPrio, bFrom, bNodes, bTime]
          have xv := HC.out _ hbw.out 15 _ e15.out
          have q1 := Lib.hid (fun v => digits8_any x.node v (by omega) (by omega))
          have s1 := itoa_size x.node (by omega) (by omega)
          obtain ⟨D1, e1⟩ : ∃ D, (⟨(Lib.itoa x.node).toArray⟩ : ByteArray) = D := ⟨_, rfl⟩
          rw [e1] at hL q1 s1
          have hzz : Hid (T3.size ≤ T2.size + 200) := by
            show _ ≤ _
            rw [hL.out]
            simp only [ByteArray.size_append]
            have : (⟨#[32]⟩ : ByteArray).size = 1 := rfl
            omega
          clear e1 hb1
          go_wp2_with (fail)
          refine (q1.out _).mono ?_; rintro e w3 ⟨rfl, hb3⟩
          have B3 := Lib.hid (bt hbw.out hb3); clear hb3
          go_wp2_with (fail)
          go_meet
          exact ⟨by rw [hL.out], hzz.out, B3⟩
      case rest =>
        obtain ⟨rfl, hsT, hbn⟩ := hcut
        clear hbw hb1 hb2 HQ
        have hbw := hbn
        clear hbn
        obtain ⟨T4, hT4⟩ : ∃ q : ByteArray, Hid (T3 ++ bytesL (if 0 < x.job then 32 :: Lib.itoa x.job else []) = q) := ⟨_, Lib.hid rfl⟩
        rw [hT4.out] at HLS
        have xj := HC.out _ hbw.out 1 _ e1.out
        obtain ⟨b1, hb1⟩ : ∃ q, decide (0 < x.job) = q := ⟨_, rfl⟩
        have hb2 : decide (x.job > 0) = b1 := hb1
        go_upto_if 60 with (fail)
        go_cut [4] (fun t wc => t = .string T4 ∧ T4.size ≤ T3.size + 200 ∧ Hid (Below W0.heap.size W0 wc))
        case first =>
          cases b1
          · have hL : Hid (T4 = T3) := by show _ = _; rw [← hT4.out, if_neg (by simpa using hb1), bytesL_nil]
            clear hb1
            go_wp2_with (fail)
            go_meet
            exact ⟨by rw [hL.out], by rw [hL.out]; omega, hbw⟩
          · have hbd := HOK.out.job
            have hL : Hid (T4 = T3 ++ ⟨#[32]⟩ ++ ⟨(Lib.itoa x.job).toArray⟩) := by
              show _ = _
              rw [← hT4.out, if_pos (by simpa using hb1)]
              apply ByteArray.ext
              simp [ByteArray.data_append, bytesL, spF, fText, vtT, bPrio, bFrom, bNodes, bTime]
            have xv := HC.out _ hbw.out 1 _ e1.out
            have q1 := Lib.hid (fun v => digits8_any x.job v (by omega) (by omega))
            have s1 := itoa_size x.job (by omega) (by omega)
            obtain ⟨D1, e1⟩ : ∃ D, (⟨(Lib.itoa x.job).toArray⟩ : ByteArray) = D := ⟨_, rfl⟩
            rw [e1] at hL q1 s1
            have hzz : Hid (T4.size ≤ T3.size + 200) := by
              show _ ≤ _
              rw [hL.out]
              simp only [ByteArray.size_append]
              have : (⟨#[32]⟩ : ByteArray).size = 1 := rfl
              omega
            clear e1 hb1
            go_wp2_with (fail)
            refine (q1.out _).mono ?_; rintro e w3 ⟨rfl, hb3⟩
            have B3 := Lib.hid (bt hbw.out hb3); clear hb3
            go_wp2_with (fail)
            go_meet
            exact ⟨by rw [hL.out], hzz.out, B3⟩
        case rest =>
          obtain ⟨rfl, hsT, hbn⟩ := hcut
          clear hbw hb1 hb2 xj
          have hbw := hbn
          clear hbn
          obtain ⟨T5, hT5⟩ : ∃ q : ByteArray, Hid (T4 ++ bytesL (if x.hasPrio = true then spF [(bPrio, .num x.prio)] else []) = q) := ⟨_, Lib.hid rfl⟩
          rw [hT5.out] at HLS
          obtain ⟨b1, hb1⟩ : ∃ q, x.hasPrio = q := ⟨_, rfl⟩
          have xj : wc.cell? ⟨w.heap.size, 11, none⟩ = some (.bool b1) := HC.out _ hbw.out 11 _ (by rw [e11.out, hb1])
          go_upto_if 68 with (fail)
          go_cut [4] (fun t wc => t = .string T5 ∧ T5.size ≤ T4.size + 200 ∧ Hid (Below W0.heap.size W0 wc))
          case first =>
            cases b1
            · have hL : Hid (T5 = T4) := by show _ = _; rw [← hT5.out, if_neg (by rw [hb1]; decide), bytesL_nil]
              clear hb1
              go_wp2_with (fail)
              go_meet
              exact ⟨by rw [hL.out], by rw [hL.out]; omega, hbw⟩
            · have hbd := HOK.out.prio hb1
              have hL : Hid (T5 = T4 ++ ⟨#[32, 112, 114, 105, 111, 61]⟩ ++ ⟨(Lib.itoa x.prio).toArray⟩) := by
                show _ = _
                rw [← hT5.out, if_pos (hb1)]
                apply ByteArray.ext
                simp [ByteArray.data_append, bytesL, spF, fText, vtT, bPrio, bFrom, bNodes, bTime]
              have xv := HC.out _ hbw.out 10 _ e10.out
              have q1 := Lib.hid (fun v => digits8_any x.prio v (by omega) (by omega))
              have s1 := itoa_size x.prio (by omega) (by omega)
              obtain ⟨D1, e1⟩ : ∃ D, (⟨(Lib.itoa x.prio).toArray⟩ : ByteArray) = D := ⟨_, rfl⟩
              rw [e1] at hL q1 s1
              have hzz : Hid (T5.size ≤ T4.size + 200) := by
                show _ ≤ _
                rw [hL.out]
                simp only [ByteArray.size_append]
                have : (⟨#[32, 112, 114, 105, 111, 61]⟩ : ByteArray).size = 6 := rfl
                omega
              clear e1 hb1
              go_wp2_with (fail)
              refine (q1.out _).mono ?_; rintro e w3 ⟨rfl, hb3⟩
              have B3 := Lib.hid (bt hbw.out hb3); clear hb3
              go_wp2_with (fail)
              go_meet
              exact ⟨by rw [hL.out], hzz.out, B3⟩
          case rest =>
            obtain ⟨rfl, hsT, hbn⟩ := hcut
            clear hbw hb1 xj
            have hbw := hbn
            clear hbn
            obtain ⟨n2, hn2⟩ : ∃ q, Hid (x.after.length = q) := ⟨_, Lib.hid rfl⟩
            have hn4 : n2 ≤ 4 := by rw [← hn2.out]; exact HOK.out.after.2
            have x14 : wc.cell? ⟨w.heap.size, 14, none⟩ = some (.slice A2 n2 c2) := HC.out _ hbw.out 14 _ (by rw [e14.out, hn2.out])
            have HR2 : Hid (Reads W0 B 2 A2 n2 (recs prC x.after)) := by show Reads _ _ _ _ _ _; rw [← hn2.out]; exact HAT.out.2.1
            go_wp2_with (fail)
            go_loopw [4, 6, 7] (fun t i _ wr => ∃ (k : Nat) (T : ByteArray), k ≤ n2 ∧ i = .int .i64 k ∧ t = .string T ∧ Hid (T = T5 ++ bytesL (spF ((x.after.take k).map fun d => (depW d.1, .num d.2)))) ∧ T.size ≤ T5.size + 300 * k ∧ Hid (Below W0.heap.size W0 wr)) (fun _ i _ _ => n2 - (intOf i).toNat)
            case atStart => exact ⟨0, T5, Nat.zero_le _, rfl, rfl, Lib.hid (bytesL_nil _).symm, by omega, hbw⟩
            case round =>
              obtain ⟨k, T, hk, rfl, rfl, hTE, hTs, hBr⟩ := hrel
              have z14 : wr.cell? ⟨w.heap.size, 14, none⟩ = some (.slice A2 n2 c2) := HC.out _ hBr.out 14 _ (by rw [e14.out, hn2.out])
              have hlr : w.heap.size < wr.heap.size := by have := hBr.out.size; omega
              clear x14 hbw
              by_cases hlt : k < n2
              · obtain ⟨b, o, y, rfl, hbb, hy, c0, c1⟩ := (HR2.out.below (hBr.out.mono hB0)).pr_at hlt
                have t0 : decide ((k : Int) < (n2 : Int)) = true := by simp; omega
                have hj0 : (0 : Int) ≤ (k : Int) := by omega
                have hj1 : (k : Int) < (n2 : Int) := by omega
                have hbr : b < wr.heap.size := by have := hBr.out.size; omega
                have hyb := HOK.out.after.1 y (List.mem_of_getElem? hy.out)
                have hyh := HMO.out.how y (List.mem_of_getElem? hy.out)
                have hN := dep_next hy.out T5
                rw [← hTE.out] at hN
                have q1 := Lib.hid (fun v => digits8_any y.2 v hyb.1 (by omega))
                have s1 := itoa_size y.2 hyb.1 (by omega)
                obtain ⟨D1, e1_⟩ : ∃ D, (⟨(Lib.itoa y.2).toArray⟩ : ByteArray) = D := ⟨_, rfl⟩
                rw [e1_] at q1 s1 hN
                obtain ⟨y1, y2⟩ := y
                dsimp only at hyb hyh hN q1 s1 c0 c1
                clear e1_ hTE hy hyb
                rcases hyh with rfl | rfl | rfl
                all_goals
                  have HN := Lib.hid hN
                  have HZZ : Hid ((T5 ++ bytesL (spF ((x.after.take (k + 1)).map fun d => (depW d.1, Vt.num d.2)))).size ≤ T5.size + 300 * (k + 1)) := by
                    show _ ≤ _
                    rw [← hN]
                    simp only [ByteArray.size_append]
                    have ea : (⟨#[32]⟩ : ByteArray).size = 1 := rfl
                    have eb : (⟨#[61]⟩ : ByteArray).size = 1 := rfl
                    have ec := sz_how
                    omega
                  clear hN
                  obtain ⟨TN, hTN⟩ : ∃ q : ByteArray, T5 ++ bytesL (spF ((x.after.take (k + 1)).map fun d => (depW d.1, Vt.num d.2))) = q := ⟨_, rfl⟩
                  rw [hTN] at HN HZZ
                  replace hTN := Lib.hid hTN
                  obtain ⟨Wb, hW⟩ : ∃ q, wr.alloc (.cells #[.string ⟨#[]⟩, .string ⟨#[97, 110, 121]⟩, .string ⟨#[103, 111, 111, 100]⟩, .string ⟨#[98, 97, 100]⟩] 9) = q := ⟨_, rfl⟩
                  have hwb : Below wr.heap.size wr Wb := by rw [← hW]; exact (Below.refl _ _).alloc (Nat.le_refl _) _
                  have hrb : Wb.heap[wr.heap.size]? = some (.cells #[.string ⟨#[]⟩, .string ⟨#[97, 110, 121]⟩, .string ⟨#[103, 111, 111, 100]⟩, .string ⟨#[98, 97, 100]⟩] 9 (0, 0)) := by rw [← hW]; exact heap_alloc_new wr _
                  have g14 := (hwb.cell (p := ⟨w.heap.size, 14, none⟩) hlr).trans z14
                  have g0 := (hwb.cell (p := ⟨b, o + k * 2, none⟩) hbr).trans c0
                  have g1 := (hwb.cell (p := ⟨b, o + k * 2 + 1, none⟩) hbr).trans c1
                  have w1_ : Wb.cell? ⟨wr.heap.size, 1, none⟩ = some (.string ⟨#[97, 110, 121]⟩) := row_cell hrb (Below.refl _ _) 1
                  have w2_ : Wb.cell? ⟨wr.heap.size, 2, none⟩ = some (.string ⟨#[103, 111, 111, 100]⟩) := row_cell hrb (Below.refl _ _) 2
                  have w3_ : Wb.cell? ⟨wr.heap.size, 3, none⟩ = some (.string ⟨#[98, 97, 100]⟩) := row_cell hrb (Below.refl _ _) 3
                  have hl1 : wr.heap.size < Wb.heap.size := lt_of_block hrb
                  have hl2 : w.heap.size < Wb.heap.size := by omega
                  have hl3 : b < Wb.heap.size := by omega
                  have HWB := Lib.hid hwb
                  clear hwb hrb c0 c1
                  go_upto_region 19 with (fail)
                  refine wp_region_later (by kernel_rfl) (by kernel_rfl) ?_
                  have hl_ := later_cell (Wb)
                  repeat (first | go_big_quiet_step (((go_at_call 29; with_reducible exact later_of (q1.out _)))) | quiet_step (((go_at_call 29; with_reducible exact later_of (q1.out _)))))
                  refine wpQuiet_nil ?_
                  intro w9 hx_
                  obtain ⟨⟨w_, hb9⟩, e_⟩ := hx_
                  have e2_ : w9 = w_ := e_
                  clear e_
                  subst e2_
                  clear hl_
                  go_wp2_with (fail)
                  go_roundw
                  case rel => exact ⟨k + 1, TN, by omega, by simp, by rw [← HN.out]; rfl, Lib.hid hTN.out.symm, HZZ.out, Lib.hid (bt (bt hBr.out HWB.out) hb9)⟩
                  case measure => simp [intOf]; omega
              · obtain rfl : k = n2 := by omega
                have t0 : decide ((k : Int) < (k : Int)) = false := by simp
                have hT6 : Hid (T5 ++ bytesL (spF (x.after.map fun d => (depW d.1, .num d.2))) = T) := by
                  show _ = _
                  rw [hTE.out, List.take_of_length_le (by rw [hn2.out]; exact Nat.le_refl _)]
                rw [hT6.out] at HLS
                have hbw := hBr
                clear hTE hBr
                have hTb : T.size ≤ T5.size + 1200 := by omega
                obtain ⟨T7, hT7⟩ : ∃ q : ByteArray, Hid (T ++ bytesL (if x.kind = 10 then spF [(bFrom, .num x.frm)] else []) = q) := ⟨_, Lib.hid rfl⟩
                rw [hT7.out] at HLS
                have x0 := HC.out _ hbw.out 0 _ e0.out
                obtain ⟨b1, hb1⟩ : ∃ q, (x.kind == 10) = q := ⟨_, rfl⟩
                go_upto_if 106 with (fail)
                go_cut [4] (fun t wc => t = .string T7 ∧ T7.size ≤ T.size + 200 ∧ Hid (Below W0.heap.size W0 wc))
                case first =>
                  cases b1
                  · have hL : Hid (T7 = T) := by show _ = _; rw [← hT7.out, if_neg (by simpa using hb1), bytesL_nil]
                    clear hb1
                    go_wp2_with (fail)
                    go_meet
                    exact ⟨by rw [hL.out], by rw [hL.out]; omega, hbw⟩
                  · have hbd := HOK.out.frm (by simpa using hb1)
                    have hL : Hid (T7 = T ++ ⟨#[32, 102, 114, 111, 109, 61]⟩ ++ ⟨(Lib.itoa x.frm).toArray⟩) := by
                      show _ = _
                      rw [← hT7.out, if_pos (by simpa using hb1)]
                      apply ByteArray.ext
                      simp [ByteArray.data_append, bytesL, spF, fText, vtT, bPrio, bFrom, bNodes, bTime]
                    have xv := HC.out _ hbw.out 17 _ e17.out
                    have q1 := Lib.hid (fun v => digits8_any x.frm v (by omega) (by omega))
                    have s1 := itoa_size x.frm (by omega) (by omega)
                    obtain ⟨D1, e1⟩ : ∃ D, (⟨(Lib.itoa x.frm).toArray⟩ : ByteArray) = D := ⟨_, rfl⟩
                    rw [e1] at hL q1 s1
                    have hzz : Hid (T7.size ≤ T.size + 200) := by
                      show _ ≤ _
                      rw [hL.out]
                      simp only [ByteArray.size_append]
                      have : (⟨#[32, 102, 114, 111, 109, 61]⟩ : ByteArray).size = 6 := rfl
                      omega
                    clear e1 hb1
                    go_wp2_with (fail)
                    refine (q1.out _).mono ?_; rintro e w3 ⟨rfl, hb3⟩
                    have B3 := Lib.hid (bt hbw.out hb3); clear hb3
                    go_wp2_with (fail)
                    go_meet
                    exact ⟨by rw [hL.out], hzz.out, B3⟩
                case rest =>
                  obtain ⟨rfl, hsT, hbn⟩ := hcut
                  clear hbw hb1 x0
                  have hbw := hbn
                  clear hbn
                  obtain ⟨T8, hT8⟩ : ∃ q : ByteArray, Hid (T7 ++ bytesL (if 0 < x.nodes then spF [(bNodes, .num x.nodes)] else []) = q) := ⟨_, Lib.hid rfl⟩
                  rw [hT8.out] at HLS
                  have xj := HC.out _ hbw.out 16 _ e16.out
                  obtain ⟨b1, hb1⟩ : ∃ q, decide (0 < x.nodes) = q := ⟨_, rfl⟩
                  have hb2 : decide (x.nodes > 0) = b1 := hb1
                  have hn48 := HOK.out.nodes
                  go_upto_if 115 with (fail)
                  go_cut [4] (fun t wc => t = .string T8 ∧ T8.size ≤ T7.size + 200 ∧ Hid (Below W0.heap.size W0 wc))
                  case first =>
                    cases b1
                    · have hL : Hid (T8 = T7) := by show _ = _; rw [← hT8.out, if_neg (by simpa using hb1), bytesL_nil]
                      clear hb1
                      go_wp2_with (fail)
                      go_meet
                      exact ⟨by rw [hL.out], by rw [hL.out]; omega, hbw⟩
                    · have hbd := (by simpa using hb1 : 0 < x.nodes)
                      have hL : Hid (T8 = T7 ++ ⟨#[32, 110, 111, 100, 101, 115, 61]⟩ ++ ⟨(Lib.itoa x.nodes).toArray⟩) := by
                        show _ = _
                        rw [← hT8.out, if_pos (by simpa using hb1)]
                        apply ByteArray.ext
                        simp [ByteArray.data_append, bytesL, spF, fText, vtT, bPrio, bFrom, bNodes, bTime]
                      have xv := HC.out _ hbw.out 16 _ e16.out
                      have q1 := Lib.hid (fun v => digits8_any x.nodes v (by omega) (by omega))
                      have s1 := itoa_size x.nodes (by omega) (by omega)
                      obtain ⟨D1, e1⟩ : ∃ D, (⟨(Lib.itoa x.nodes).toArray⟩ : ByteArray) = D := ⟨_, rfl⟩
                      rw [e1] at hL q1 s1
                      have hzz : Hid (T8.size ≤ T7.size + 200) := by
                        show _ ≤ _
                        rw [hL.out]
                        simp only [ByteArray.size_append]
                        have : (⟨#[32, 110, 111, 100, 101, 115, 61]⟩ : ByteArray).size = 7 := rfl
                        omega
                      clear e1 hb1
                      go_wp2_with (fail)
                      refine (q1.out _).mono ?_; rintro e w3 ⟨rfl, hb3⟩
                      have B3 := Lib.hid (bt hbw.out hb3); clear hb3
                      go_wp2_with (fail)
                      go_meet
                      exact ⟨by rw [hL.out], hzz.out, B3⟩
                  case rest =>
                    obtain ⟨rfl, hsT, hbn⟩ := hcut
                    clear hbw hb1 hb2 xj
                    have hbw := hbn
                    clear hbn
                    have hfl := form_size HOK.out.shape
                    obtain ⟨F, hF⟩ : ∃ q : ByteArray, bytesL (spF (formF x.shape)) = q := ⟨_, rfl⟩
                    have hfm2 : Hid (∀ v, Below W0.heap.size W0 v → Calls Tryz.prog 30 #[.agg #[.int .i64 x.shape.kind, .slice A x.shape.alts.length c, .int .i64 x.shape.mn, .int .i64 x.shape.mx, .int .i64 x.shape.wall]] v fun e w' => e = .returned (.string F) ∧ Below v.heap.size v w') := by rw [← hF]; exact hfm
                    have hfz : F.size ≤ 100000 := by rw [← hF, bytesL_size]; exact hfl
                    rw [hF] at HLS
                    clear hF hfm hfl
                    have x5 := HC.out _ hbw.out 5 _ e5.out
                    have x6 := HC.out _ hbw.out 6 _ e6.out
                    have x7 := HC.out _ hbw.out 7 _ e7.out
                    have x8 := HC.out _ hbw.out 8 _ e8.out
                    have x9 := HC.out _ hbw.out 9 _ e9.out
                    obtain ⟨T9, hT9⟩ : ∃ q : ByteArray, Hid (T8 ++ F = q) := ⟨_, Lib.hid rfl⟩
                    rw [hT9.out] at HLS
                    have z9 : T9.size ≤ 100000000 := by rw [← hT9.out, ByteArray.size_append]; omega
                    go_wp2_with (fail)
                    refine (hfm2.out _ hbw.out).mono ?_; rintro e w3 ⟨rfl, hb3⟩
                    have B3 := Lib.hid (bt hbw.out hb3)
                    clear hb3 x5 x6 x7 x8 x9 hfm2 hbw
                    have hbw := B3
                    clear B3
                    go_upto_region 25 with (fail)
                    rw [hT9.out]
                    obtain ⟨T10, hT10⟩ : ∃ q : ByteArray, Hid (T9 ++ bytesL (if x.hasTime = true then spF [(bTime, .time x.time)] else []) = q) := ⟨_, Lib.hid rfl⟩
                    rw [hT10.out] at HLS
                    obtain ⟨b1, hb1⟩ : ∃ q, x.hasTime = q := ⟨_, rfl⟩
                    have xj : w3.cell? ⟨w.heap.size, 13, none⟩ = some (.bool b1) := HC.out _ hbw.out 13 _ (by rw [e13.out, hb1])
                    go_upto_if 128 with (fail)
                    go_cut [4] (fun t wc => t = .string T10 ∧ T10.size ≤ T9.size + 200 ∧ Hid (Below W0.heap.size W0 wc))
                    case first =>
                      cases b1
                      · have hL : Hid (T10 = T9) := by show _ = _; rw [← hT10.out, if_neg (by rw [hb1]; decide), bytesL_nil]
                        clear hb1
                        go_wp2_with (fail)
                        go_meet
                        exact ⟨by rw [hL.out], by rw [hL.out]; omega, hbw⟩
                      · have hbd := HOK.out.time hb1
                        have hL : Hid (T10 = T9 ++ ⟨#[32, 116, 105, 109, 101, 61]⟩ ++ ⟨(showL x.time.toNat).toArray⟩) := by
                          show _ = _
                          rw [← hT10.out, if_pos (hb1)]
                          apply ByteArray.ext
                          simp [ByteArray.data_append, bytesL, spF, fText, vtT, bPrio, bFrom, bNodes, bTime]
                        have xv := HC.out _ hbw.out 12 _ e12.out
                        have q1 := Lib.hid (fun v => span8_any x.time v (by omega) (by omega))
                        have s1 := show_size x.time (by omega)
                        obtain ⟨D1, e1⟩ : ∃ D, (⟨(showL x.time.toNat).toArray⟩ : ByteArray) = D := ⟨_, rfl⟩
                        rw [e1] at hL q1 s1
                        have hzz : Hid (T10.size ≤ T9.size + 200) := by
                          show _ ≤ _
                          rw [hL.out]
                          simp only [ByteArray.size_append]
                          have : (⟨#[32, 116, 105, 109, 101, 61]⟩ : ByteArray).size = 6 := rfl
                          omega
                        clear e1 hb1
                        go_wp2_with (fail)
                        refine (q1.out _).mono ?_; rintro e w3 ⟨rfl, hb3⟩
                        have B3 := Lib.hid (bt hbw.out hb3); clear hb3
                        go_wp2_with (fail)
                        go_meet
                        exact ⟨by rw [hL.out], hzz.out, B3⟩
                    case rest =>
                      obtain ⟨rfl, hsT, hbn⟩ := hcut
                      clear hbw hb1 xj
                      have hbw := hbn
                      clear hbn
                      have HB9 := Lib.hid (HBX.out.trans (hbw.out.mono HBX.out.size))
                      have hTL : Hid (T10 = ⟨(lineP x).toArray⟩) := HLS
                      have hsz : (lineP x).length = T10.size := by rw [hTL.out]; show _ = (lineP x).toArray.size; rw [List.size_toArray]
                      rw [hsz, ← hTL.out] at HX
                      clear hsz hTL HLS
                      by_cases hle : T10.size ≤ 400
                      · have t1 : decide ((T10.size : Int) > 400) = false := by simp; omega
                        have t2 : decide ((400 : Int) < (T10.size : Int)) = false := by simp; omega
                        have t3 : decide (400 < T10.size) = false := by simp; omega
                        have HR : Hid (X = (T10, 0)) := Lib.hid (HX.out.trans (if_pos hle))
                        clear hle
                        go_wp2
                        go_ret2
                        rw [HR.out]
                        exact ⟨rfl, HB9.out⟩
                      · have t1 : decide ((T10.size : Int) > 400) = true := by simp; omega
                        have t2 : decide ((400 : Int) < (T10.size : Int)) = true := by simp; omega
                        have t3 : decide (400 < T10.size) = true := by simp; omega
                        have HR : Hid (X = (⟨#[]⟩, 3)) := Lib.hid (HX.out.trans (if_neg hle))
                        clear hle
                        go_wp2
                        go_ret2
                        rw [HR.out]
                        exact ⟨rfl, HB9.out⟩
theorem rshow_any8 (x : Cm) (A A2 : Option Addr) (c c2 B : Nat) (w : World) (ha : CmAt w B x A c A2 c2) (hB : B ≤ w.heap.size) (hz : CmSz x) :
    Calls Tryz.prog 10 #[cmV x A c A2 c2] w fun e w' => e = .returned (.tuple #[.string (cshowP x).1, .int .i64 (cshowP x).2]) ∧ Below w.heap.size w w' := by
  by_cases hE : cmdE x = 0
  · exact rshow_good8 x A A2 c c2 B w ha hB hz hE
  · have := rshow_bad8 x A A2 c c2 B w ha hB hz hE
    unfold cshowP
    rw [if_neg hE]
    exact this
end Go.Proofs.YtjmhaoplablmnaaGreatDoor
