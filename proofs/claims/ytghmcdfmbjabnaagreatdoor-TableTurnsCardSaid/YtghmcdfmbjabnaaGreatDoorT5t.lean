/- Bundle T5. -/
import Derived.Test.YtghmcdfmbjabnaaGreatDoorT4t
import Derived.Test.YtghmcdfmbjabnaaGreatDoorT3t
import Derived.Test.YtghmcdfmbjabnaaGreatDoorT1t
import Derived.Test.YtghmcdfmbjabnaaGreatDoorT2t
import Derived.Test.YtghmcdfmbjabnaaGreatDoorQ9t
import Derived.Test.YtghmcdfmbjabnaaGreatDoorQ3t
namespace Go.Proofs.YtghmcdfmbjabnaaGreatDoor
set_option linter.unusedSimpArgs false
set_option maxRecDepth 100000
set_option linter.unusedVariables false
open Go.RowKit
set_option maxHeartbeats 4000000 in
theorem awake15_any (w : World) : Calls Tryz.prog 19 #[] w fun e w' => e = .returned (.bool true) ∧ Below w.heap.size w w' := by
  have a1 : addP (jobs []) (oneJ 3) = ([oneJ 3], 0) := by kernel_rfl
  have a2 : addP [oneJ 3] (oneJ 3) = ([], 140) := by kernel_rfl
  have a3 : findP [oneJ 3] 3 = (oneJ 3, true) := by kernel_rfl
  have a4 : putP [oneJ 3] (oneJ 3) = ([oneJ 3], 0) := by kernel_rfl
  have a5 : putP [oneJ 3] (oneJ 4) = ([], 140) := by kernel_rfl
  have a6 : sameLL [oneJ 3] [oneJ 3] = true := by kernel_rfl
  have a7 : activeP [oneJ 3] ⟨#[117]⟩ = 1 := by kernel_rfl
  have a8 : idsP [oneJ 3] 1 = [3] := by kernel_rfl
  have a9 : tabE [oneJ 3] = 0 := by kernel_rfl
  have a10 : tabE (jobs [noR]) = 140 := by kernel_rfl
  go_enter Tryz.func19, Tryz.ntmps19
  go_wp2_with (fail)
  refine (one15_any 3 _).mono ?_; rintro e w1 ⟨r1, rfl, hx1, A1, hb1⟩
  have q := addT_any [] r1 none 0 0 w1.heap.size w1 TbAt.none_ A1.out (Nat.le_refl _)
  rw [hx1, a1] at q
  have Q := Lib.hid q
  clear q
  go_wp2_with (fail)
  refine Q.out.mono ?_; rintro e w2 ⟨R, m, cc, rs, rfl, hj, T2, hmc, hcm, OF2, hb2⟩
  have B2 := Lib.hid (bt hb1 hb2)
  have hj2 : jobs rs = [oneJ 3] := hj
  obtain rfl : m = 1 := by
    have h1 := T2.out.len
    have h2 := congrArg List.length hj2
    rw [jobs_len] at h2
    simp at h2; omega
  have HTl := Lib.hid (fun v (hv : Below w2.heap.size w2 v) => T2.out.below hv)
  have HJ := Lib.hid hj2
  have HM := Lib.hid (And.intro hmc hcm)
  clear hb1 hb2 Q hj hj2 T2 OF2 hx1 A1 hmc hcm a1
  go_wp2_with (fail)
  refine (one15_any 3 _).mono ?_; rintro e w3 ⟨r3, rfl, hx3, A3, hb3⟩
  have q := addT_any rs r3 R 1 cc w3.heap.size w3 ((HTl.out w3 hb3).more hb3.size) A3.out (Nat.le_refl _)
  rw [hx3, HJ.out, a2] at q
  have Q := Lib.hid q
  clear q
  go_wp2_with (fail)
  refine Q.out.mono ?_; rintro e w4 ⟨R4, m4, cc4, rs4, rfl, _, _, _, _, _, hb4⟩
  have B4 := Lib.hid (bt hb3 hb4)
  have q := find_any rs R 1 cc w2.heap.size 3 w4 (HTl.out w4 B4.out) B4.out.size HM.out.1 HM.out.2
  rw [HJ.out, a3] at q
  have Q4 := Lib.hid q
  clear q Q hx3 A3 hb3 hb4 a2
  go_wp2_with (fail)
  refine Q4.out.mono ?_; rintro e w5 ⟨r5, hx5, rfl, A5, _, hb5⟩
  obtain ⟨W5, hs5, j5, b5, z5⟩ := boxed w5 (jrC r5).toArray
  have hstore := Lib.hid hs5
  have B5 := Lib.hid (bt B4.out (bt hb5 b5))
  have J5 := Lib.hid j5
  have HI := Lib.hid (jrA_info r5)
  have H20 := Lib.hid (jrA_20 r5)
  have HA1 := Lib.hid (jrA_all r5)
  have e0 : (jrC r5).toArray[0]? = some (.int .i64 3) := by
    have h : (jrC r5).toArray[0]? = some (.int .i64 r5.x.id) := rfl
    rw [h, hx5]; rfl
  obtain ⟨cs, hcs⟩ : ∃ cs, Hid ((jrC r5).toArray = cs) := ⟨_, rfl⟩
  rw [hcs.out] at hstore J5 HI H20 HA1 e0 ⊢
  have U5 := Lib.hid (fun v (hv : Below W5.heap.size W5 v) => ((hv.cell (p := ⟨w5.heap.size, 0, none⟩) z5).trans ((cell_of_row W5 _ 0 _ _ _ J5.out).trans e0) : v.cell? ⟨w5.heap.size, 0, none⟩ = some (.int .i64 3)))
  clear hs5 j5 b5 hb5 Q4 a3 hx5 A5 e0
  go_wp2_with (refine wpList_store_row rfl 28 _ _ rfl (w5.heap.size) cs rfl rfl 28 _ (heap_alloc_new w5 _) HI.out (by show 20 = _; exact H20.out) HA1.out ?_; rw [hstore.out])
  refine (one15_any 3 _).mono ?_; rintro e w6 ⟨r6, rfl, hx6, A6, hb6⟩
  have q := put_any rs r6 R 1 cc w6.heap.size w6 ((HTl.out w6 (bt B5.out hb6)).more (bt B5.out hb6).size) A6.out (Nat.le_refl _)
  rw [hx6, HJ.out, a4] at q
  have Q := Lib.hid q
  clear q
  go_wp2_with (fail)
  refine Q.out.mono ?_; rintro e w7 ⟨R7, m7, cc7, rs7, rfl, hj7, T7, _, _, _, hb7⟩
  have hj7b : jobs rs7 = [oneJ 3] := hj7
  have HJ7 := Lib.hid hj7b
  have B7 := Lib.hid (bt hb6 hb7)
  clear hb6 hb7 Q hj7 hj7b hx6 A6 a4
  go_wp2_with (fail)
  refine (one15_any 4 _).mono ?_; rintro e w8 ⟨r8, rfl, hx8, A8, hb8⟩
  have q := put_any rs r8 R 1 cc w8.heap.size w8 ((HTl.out w8 (bt B5.out (bt B7.out hb8))).more (bt B5.out (bt B7.out hb8)).size) A8.out (Nat.le_refl _)
  rw [hx8, HJ.out, a5] at q
  have Q := Lib.hid q
  clear q
  go_wp2_with (fail)
  refine Q.out.mono ?_; rintro e w9 ⟨R9, m9, cc9, rs9, rfl, _, _, _, _, _, hb9⟩
  have B79 := Lib.hid (bt hb8 hb9)
  have B59 := Lib.hid (bt B7.out B79.out)
  have B9 := Lib.hid (bt B5.out B59.out)
  have u9 := U5.out w9 B59.out
  have q6 := sameT_any rs rs7 R R7 1 m7 cc cc7 w7.heap.size w9 ((HTl.out w9 B9.out).more (Nat.le_trans B5.out.size B7.out.size)) (T7.out.below B79.out) B79.out.size
  rw [HJ.out, HJ7.out, a6] at q6
  have Q6 := Lib.hid q6
  clear q6 hb8 hb9 Q hx8 A8 a5 a6 U5
  go_wp2_with (fail)
  refine Q6.out.mono ?_; rintro e v1 ⟨rfl, hv1⟩
  have q7 := active_any rs R 1 cc w2.heap.size ⟨#[117]⟩ v1 (HTl.out v1 (bt B9.out hv1)) (bt B9.out hv1).size
  rw [HJ.out, a7] at q7
  have Q7 := Lib.hid q7
  clear q7 u9 a7
  go_wp2_with (fail)
  refine Q7.out.mono ?_; rintro e v2 ⟨rfl, hv2⟩
  have C2 := Lib.hid (bt B9.out (bt hv1 hv2))
  have q8 := ids_any rs R 1 cc w2.heap.size 1 v2 (HTl.out v2 C2.out) C2.out.size
  rw [HJ.out, a8] at q8
  have Q8 := Lib.hid q8
  clear q8 a8
  go_wp2_with (fail)
  refine Q8.out.mono ?_; rintro e v3 ⟨vi, rfl, hoi, hv3⟩
  obtain ⟨Ai, ci, rfl, _, _⟩ := hoi.slice
  have C3 := Lib.hid (bt C2.out hv3)
  have q9 := tcheck_any rs R 1 cc w2.heap.size v3 (HTl.out v3 C3.out) C3.out.size
  rw [HJ.out, a9] at q9
  have Q9 := Lib.hid q9
  clear q9 a9 hoi hv1 hv2 hv3
  go_wp2_with (fail)
  refine Q9.out.mono ?_; rintro e v4 ⟨rfl, hv4⟩
  have C4 := Lib.hid (bt C3.out hv4)
  have q10 := tcheck_any [noR] (some ⟨v4.heap.size, 0, none⟩) 1 1 (v4.heap.size + 1) (v4.alloc (.cells (jrC noR).toArray 28)) ⟨(row_reads (r := noR) (heap_alloc_new v4 _)).more (by simp), fun r hr => by rw [List.mem_singleton.1 hr]; exact noR_at _ _, by omega⟩ (by simp)
  rw [a10] at q10
  have Q10 := Lib.hid q10
  clear q10 a10 hv4
  go_wp2_with (fail)
  refine Q10.out.mono ?_; rintro e v5 ⟨rfl, hv5⟩
  have C5 := Lib.hid (bt B2.out (bt C4.out (bt bx0 hv5)))
  clear hv5
  go_wp2
  go_ret
  exact ⟨rfl, C5.out⟩
end Go.Proofs.YtghmcdfmbjabnaaGreatDoor
namespace Go.Proofs.YtghmcdfmbjabnaaGreatDoor
set_option linter.unusedSimpArgs false
set_option maxRecDepth 100000
set_option linter.unusedVariables false
open Go.RowKit Go.ChangeShapes Go.WideShapes Go.Deep
section
variable {H : Type} {enc0 : TypeId × Value → H} {w : World} {base : Nat} {held : Bool}
theorem open_listC {t e : TypeId} {m : Nat} {α : Type} {enc : α → List Value} {wf : α → Prop} {fuel : Nat} {cs : List Value} {x : DataW H × List MemPlace}
    (ht : Tryz.prog.underlying t = some (.slice e)) (hC : Tryz.prog.cellsOf e = m) (hm : 0 < m) (he : ∀ a, (enc a).length = m)
    (hE : ∀ (fuel : Nat) (cs : List Value) (x : DataW H × List MemPlace), DataW.trod enc0 Tryz.prog w base (fun _ => true) held fuel e cs = some x → ∃ a : α, cs = enc a ∧ wf a)
    (h : DataW.trod enc0 Tryz.prog w base (fun _ => true) held fuel t cs = some x) :
    ∃ (A : Option Addr) (n c : Nat) (l : List α), cs = [.slice A n c] ∧ Reads w w.heap.size m A n (recs enc l) ∧ n ≤ c ∧ c ≤ maxLen ∧ ∀ a ∈ l, wf a := by
  rcases open_slice ht h with ⟨rfl, _⟩ | ⟨a, len, cap, k, n, D, Pl, rfl, hb, hl, hmx, hk, _, hx⟩
  · exact ⟨none, 0, 0, [], rfl, Reads.none_, Nat.le_refl _, Nat.zero_le _, by simp⟩
  · have hk' : k = cap := by simpa using hk
    obtain ⟨l, hll, hq⟩ := list_of_all (Q := fun i (x : α) => (∀ r v, (enc x)[r]? = some v → w.cell? (a.add (i * m + r)) = some v) ∧ wf x) len (fun i hi => by
      obtain ⟨cs', hc, ht'⟩ := hx i (by omega)
      obtain ⟨y, rfl, hy⟩ := hE _ _ _ ht'
      obtain ⟨_, _, hcell⟩ := World.cells?_some hc
      refine ⟨y, fun r v hv => ?_, hy⟩
      have hr : r < m := by rw [← he y]; exact (List.getElem?_eq_some_iff.1 hv).1
      have h1 := hcell r (by rw [hC]; exact hr)
      rw [hC, add_of_add, hv] at h1
      exact h1)
    refine ⟨some a, len, cap, l, rfl, ⟨by rw [recs_len he, hll], fun h0 => ⟨a, rfl, ?_, fun j v hv => ?_⟩⟩, hl, by omega, fun y hy => ?_⟩
    · have hx0 : l[0]? = some (l[0]'(by omega)) := List.getElem?_eq_getElem (by omega)
      have h2 := (hq 0 _ hx0).1 0 _ (List.getElem?_eq_getElem (by rw [he]; exact hm))
      have h3 := cell_lt h2
      rwa [block_of_add] at h3
    · have hj : j < l.length * m := by rw [← recs_len he]; exact (List.getElem?_eq_some_iff.1 hv).1
      have hi : j / m < l.length := (Nat.div_lt_iff_lt_mul hm).2 hj
      have hx0 : l[j / m]? = some (l[j / m]'hi) := List.getElem?_eq_getElem hi
      have e1 : j / m * m + j % m = j := by rw [Nat.mul_comm]; exact Nat.div_add_mod j m
      have h2 := (hq _ _ hx0).1 (j % m) v (by rw [← recs_at he hx0 (Nat.mod_lt _ hm), e1]; exact hv)
      rwa [e1] at h2
    · obtain ⟨i, hi⟩ := List.getElem?_of_mem hy
      exact (hq i y hi).2
set_option maxHeartbeats 1000000 in
theorem open_jobE {fuel : Nat} {cs : List Value} {x : DataW H × List MemPlace} (h : DataW.trod enc0 Tryz.prog w base (fun _ => true) held fuel 28 cs = some x) :
    ∃ r : JR, cs = jrC r ∧ JbIn w r.x r.A r.c r.A2 r.c2 := by
  obtain ⟨xs, n, _, _, hlen, hxl, hf⟩ := DataW.trod_struct Tryz.underlying28 h
  have hl : cs.length = 20 := hlen.trans (by kernel_rfl)
  match cs, hl, xs, hxl with
  | [c0, c1, c2, c3, c4, c5, c6, c7, c8, c9, c10, c11, c12, c13, c14, c15, c16, c17, c18, c19], _, [y0, y1, y2, y3, y4, y5, y6, y7, y8, y9, y10, y11, y12, y13, y14, y15], _ =>
    have k1 : Tryz.prog.cellsOf 25 = 1 := by kernel_rfl
    have k2 : Tryz.prog.cellsOf 3 = 1 := by kernel_rfl
    have k3 : Tryz.prog.cellsOf 9 = 1 := by kernel_rfl
    have k4 : Tryz.prog.cellsOf 4 = 1 := by kernel_rfl
    have k5 : Tryz.prog.cellsOf 24 = 5 := by kernel_rfl
    have k6 : Tryz.prog.cellsOf 26 = 1 := by kernel_rfl
    obtain ⟨n0, e0, _⟩ := DataW.trod_int Tryz.underlying3 (hf 0 _ rfl)
    obtain ⟨s1, e1, _, m1⟩ := DataW.trod_string Tryz.underlying9 (hf 1 _ rfl)
    obtain ⟨s2, e2, _, m2⟩ := DataW.trod_string Tryz.underlying9 (hf 2 _ rfl)
    obtain ⟨s3, e3, _, m3⟩ := DataW.trod_string Tryz.underlying9 (hf 3 _ rfl)
    obtain ⟨s, A, c, e4, hr, hc⟩ := open_sh (hf 4 _ rfl)
    obtain ⟨n5, e5, _⟩ := DataW.trod_int Tryz.underlying3 (hf 5 _ rfl)
    obtain ⟨A2, c2, l, e6, hr2, hc2⟩ := open_deps (hf 6 _ rfl)
    obtain ⟨n7, e7, _⟩ := DataW.trod_int Tryz.underlying3 (hf 7 _ rfl)
    obtain ⟨b8, e8, _⟩ := DataW.trod_bool Tryz.underlying4 (hf 8 _ rfl)
    obtain ⟨n9, e9, _⟩ := DataW.trod_int Tryz.underlying3 (hf 9 _ rfl)
    obtain ⟨n10, e10, _⟩ := DataW.trod_int Tryz.underlying3 (hf 10 _ rfl)
    obtain ⟨n11, e11, _⟩ := DataW.trod_int Tryz.underlying3 (hf 11 _ rfl)
    obtain ⟨n12, e12, _⟩ := DataW.trod_int Tryz.underlying3 (hf 12 _ rfl)
    obtain ⟨n13, e13, _⟩ := DataW.trod_int Tryz.underlying3 (hf 13 _ rfl)
    obtain ⟨n14, e14, _, m14⟩ := DataW.trod_int Tryz.underlying26 (hf 14 _ rfl)
    obtain ⟨n15, e15, _⟩ := DataW.trod_int Tryz.underlying3 (hf 15 _ rfl)
    obtain ⟨u, hu, hu2⟩ : ∃ s : Nat, n14 = (s : Int) ∧ s < M64 := by
      obtain ⟨h0, h1⟩ := Go.bounds_u64 m14
      exact ⟨n14.toNat, by omega, by rw [M64_is]; omega⟩
    subst hu
    unfold shC at e4
    simp [k1, k2, k3, k4, k5, k6] at e0 e1 e2 e3 e4 e5 e6 e7 e8 e9 e10 e11 e12 e13 e14 e15
    obtain ⟨f1, f2, f3, f4, f5⟩ := e4
    subst e0 e1 e2 e3 f1 f2 f3 f4 f5 e5 e6 e7 e8 e9 e10 e11 e12 e13 e14 e15
    exact ⟨⟨⟨n0, s1, s2, s3, s, n5, l, n7, b8, n9, n10, n11, n12, n13, u, n15⟩, A, c, A2, c2⟩, rfl, hr, hr2, hc, hc2, hu2⟩
theorem open_jobs {b0 : Nat} {r : Reach} {v : Value} {d : DataW H} {p : List MemPlace} (hv : Value.okWide Tryz.prog w r b0 43 v) (h : DataW.Trod enc0 Tryz.prog w base (fun _ => true) held 43 v d p) :
    ∃ (A : Option Addr) (n c : Nat) (l : List JR), v = .slice A n c ∧ Reads w w.heap.size 20 A n (recs jrC l) ∧ n ≤ c ∧ c ≤ maxLen ∧ ∀ r ∈ l, JbIn w r.x r.A r.c r.A2 r.c2 := by
  obtain ⟨fuel, hf⟩ := h
  obtain ⟨A0, n0, c0, rfl⟩ := okWide_slice Tryz.underlying43 hv
  obtain ⟨A, n, c, l, e, hr, h1, h2, hw⟩ := open_listC (m := 20) Tryz.underlying43 (by kernel_rfl) (by omega) jrC_len (fun _ _ _ h => open_jobE h) hf
  simp [Value.cells] at e
  obtain ⟨rfl, rfl, rfl⟩ := e
  exact ⟨_, _, _, l, rfl, hr, h1, h2, hw⟩
end
end Go.Proofs.YtghmcdfmbjabnaaGreatDoor
namespace Go.Proofs.YtghmcdfmbjabnaaGreatDoor
set_option linter.unusedSimpArgs false
set_option maxRecDepth 100000
set_option linter.unusedVariables false
open Go.RowKit
theorem add_ok {l m : List Jb} {x : Jb} (h : addP l x = (m, 0)) : tabB l = true ∧ okJ x = true ∧ (∀ y ∈ l, y.id < x.id) ∧ (overS x = true ∨ ¬ 8 ≤ activeP l x.user) ∧
    ((l.length < 40 ∧ m = l ++ [x]) ∨ (¬ l.length < 40 ∧ ∃ (k : Nat) (y : Jb), l[k]? = some y ∧ goneQ (l ++ [x]) y = true ∧ m = (l ++ [x]).eraseIdx k)) := by
  unfold addP at h
  split at h
  case isFalse => simp at h
  case isTrue h1 =>
    have hlt : ∀ y ∈ l, y.id < x.id := fun y hy => by
      have := List.any_eq_false.1 h1.2.2 y hy
      simp at this; omega
    split at h
    case isTrue => simp at h
    case isFalse h2 =>
      have h4 : overS x = true ∨ ¬ 8 ≤ activeP l x.user := by
        cases ho : overS x
        · exact .inr (fun h8 => h2 ⟨ho, h8⟩)
        · exact .inl rfl
      split at h
      case isTrue h5 =>
        refine ⟨h1.1, h1.2.1, hlt, h4, .inl ⟨h5, ?_⟩⟩
        simpa using h.symm
      case isFalse h5 =>
        split at h
        case isFalse => simp at h
        case isTrue h6 =>
          rcases idxG_cases (goneQ (l ++ [x])) l with ⟨hi, _⟩ | ⟨k, y, hi, hy, hg, _⟩
          · rw [hi] at h6; omega
          · rw [hi] at h
            refine ⟨h1.1, h1.2.1, hlt, h4, .inr ⟨h5, k, y, hy, hg, ?_⟩⟩
            simpa using h.symm
theorem app_asc {l : List Jb} {x : Jb} (h : tabB l = true) (hx : okJ x = true) (hl : ∀ y ∈ l, y.id < x.id) : (∀ y ∈ l ++ [x], okJ y = true ∧ 0 < y.id) ∧ (l ++ [x]).Pairwise (fun a b => a.id < b.id) := by
  obtain ⟨_, h2, h3⟩ := tab_iff.1 h
  refine ⟨fun y hy => ?_, ?_⟩
  · rcases List.mem_append.1 hy with h | h
    · exact h2 y h
    · rw [List.mem_singleton.1 h]; exact ⟨hx, by have := okJ_id hx; omega⟩
  · rw [List.pairwise_append]
    exact ⟨h3, by simp, fun a ha b hb => by rw [List.mem_singleton.1 hb]; exact hl a ha⟩
theorem add_tab {l m : List Jb} {x : Jb} (h : addP l x = (m, 0)) : tabB m = true ∧ l.length ≤ m.length ∧ m.length ≤ 40 ∧ x ∈ m ∧ (∀ z ∈ m, z ∈ l ++ [x]) := by
  obtain ⟨h1, h2, h3, _, h5⟩ := add_ok h
  obtain ⟨a1, a2⟩ := app_asc h1 h2 h3
  have h40 := (tab_iff.1 h1).1
  rcases h5 with ⟨hl, rfl⟩ | ⟨hl, k, y, hy, hg, rfl⟩
  · refine ⟨tab_iff.2 ⟨by simp; omega, a1, a2⟩, by simp, by simp; omega, by simp, fun z hz => hz⟩
  · have hk := (List.getElem?_eq_some_iff.1 hy).1
    have hlen : ((l ++ [x]).eraseIdx k).length = l.length := by rw [List.length_eraseIdx, if_pos (by simp; omega)]; simp
    refine ⟨tab_iff.2 ⟨by omega, fun z hz => a1 z (List.mem_of_mem_eraseIdx hz), a2.sublist (List.eraseIdx_sublist _ _)⟩, by omega, by omega, ?_, fun z hz => List.mem_of_mem_eraseIdx hz⟩
    rw [List.mem_eraseIdx_iff_getElem?]
    exact ⟨l.length, by omega, by simp⟩
theorem find_mem {m : List Jb} {y : Jb} (h : tabB m = true) (hy : y ∈ m) : findP m y.id = (y, true) := by
  obtain ⟨j, hj⟩ := List.getElem?_of_mem hy
  unfold findP
  rw [if_pos ⟨h, by rw [pos_hit h hj rfl]; omega⟩, pos_hit h hj rfl]
  simp [List.getD_eq_getElem?_getD, hj]
theorem wait_sub {l m : List Jb} {id : Int} (h : ∀ z ∈ m, z ∈ l) (hw : waitP l id = false) : waitP m id = false := by
  unfold waitP at hw ⊢
  exact List.any_eq_false.2 (fun z hz => List.any_eq_false.1 hw z (h z hz))
theorem add_keeps {l m : List Jb} {x : Jb} (h : addP l x = (m, 0)) : ∃ kk : Nat, ∀ (i : Nat) (y : Jb), l[i]? = some y →
    findP m y.id = (y, true) ∨ (findP m y.id = (noJ, false) ∧ i = kk ∧ l.length = 40 ∧ overS y = true ∧ okJ y = true ∧ waitP m y.id = false) := by
  obtain ⟨h1, h2, h3, _, h5⟩ := add_ok h
  obtain ⟨t1, _, _, _, tm⟩ := add_tab h
  obtain ⟨a1, a2⟩ := app_asc h1 h2 h3
  have h40 := (tab_iff.1 h1).1
  rcases h5 with ⟨hl, rfl⟩ | ⟨hl, k, y0, hy0, hg, rfl⟩
  · exact ⟨0, fun i y hy => .inl (find_mem t1 (List.mem_append.2 (.inl (List.mem_of_getElem? hy))))⟩
  · have hk0 := (List.getElem?_eq_some_iff.1 hy0).1
    refine ⟨k, fun i y hy => ?_⟩
    have hil := (List.getElem?_eq_some_iff.1 hy).1
    have hyi : (l ++ [x])[i]? = some y := by rw [List.getElem?_append_left hil]; exact hy
    by_cases e : i = k
    · subst e
      rw [hy0] at hy
      obtain rfl := Option.some.inj hy
      refine .inr ⟨?_, rfl, by omega, ?_, (a1 _ (List.mem_of_getElem? hyi)).1, ?_⟩
      · unfold findP
        rw [if_neg ?_]
        rintro ⟨_, hp⟩
        have hm : posP ((l ++ [x]).eraseIdx i) y0.id = -1 := pos_miss (fun j z hz he => by
          have hz2 := List.mem_of_getElem? hz
          rw [List.mem_eraseIdx_iff_getElem?] at hz2
          obtain ⟨q, hq, hzq⟩ := hz2
          exact hq (asc_uniq a2 hzq hyi he))
        rw [hm] at hp; omega
      · unfold goneQ at hg; simp only [Bool.and_eq_true] at hg; exact hg.1
      · unfold goneQ at hg
        simp only [Bool.and_eq_true, Bool.not_eq_true'] at hg
        exact wait_sub tm hg.2
    · refine .inl (find_mem t1 ?_)
      rw [List.mem_eraseIdx_iff_getElem?]
      exact ⟨i, e, hyi⟩
theorem activeQ_same {u v : ByteArray} (h : (u.toList == v.toList) = true) : activeQ u = activeQ v := by
  funext x; unfold activeQ; rw [show u.toList = v.toList by simpa using h]
theorem active_all {l : List Jb} (h : ∀ x ∈ l, activeC l x.user ≤ 8) (u : ByteArray) : activeC l u ≤ 8 := by
  by_cases h0 : activeC l u = 0
  · omega
  · unfold activeC at h0
    have : 0 < l.countP (activeQ u) := by omega
    obtain ⟨y, hy, hq⟩ := List.countP_pos_iff.1 this
    have hs : (u.toList == y.user.toList) = true := by
      unfold activeQ at hq
      simp only [Bool.and_eq_true, beq_iff_eq] at hq
      simpa using hq.1.symm
    have := h y hy
    unfold activeC at this ⊢
    rwa [activeQ_same hs]
theorem active_tab {l : List Jb} (h : tabB l = true) (u : ByteArray) : activeP l u = (activeC l u : Int) := by unfold activeP; rw [if_pos h]
theorem users_err {l m : List Jb} {x : Jb} (h : addP l x = (m, 151)) (hu : ∀ y ∈ l, activeP l y.user ≤ 8) : activeP l x.user = 8 ∧ overS x = false := by
  unfold addP at h
  split at h
  case isFalse => simp at h
  case isTrue h1 =>
    split at h
    case isTrue h2 =>
      refine ⟨?_, h2.1⟩
      have h3 := active_all (l := l) (fun y hy => by have := hu y hy; rw [active_tab h1.1] at this; omega) x.user
      have h4 := h2.2
      rw [active_tab h1.1] at h4 ⊢
      omega
    case isFalse h2 =>
      split at h
      case isTrue => simp at h
      case isFalse => split at h <;> simp at h
theorem users_ok {l m : List Jb} {x : Jb} (h : addP l x = (m, 0)) (hu : ∀ y ∈ l, activeP l y.user ≤ 8) (u : ByteArray) : activeP m u ≤ 8 := by
  obtain ⟨h1, h2, h3, h4, h5⟩ := add_ok h
  have hall := active_all (l := l) (fun y hy => by have := hu y hy; rw [active_tab h1] at this; omega)
  rw [active_tab (add_tab h).1]
  have hm : activeC m u ≤ activeC (l ++ [x]) u := by
    rcases h5 with ⟨_, rfl⟩ | ⟨_, k, y, _, _, rfl⟩
    · exact Nat.le_refl _
    · exact (List.eraseIdx_sublist _ _).countP_le
  have hc : activeC (l ++ [x]) u = activeC l u + if activeQ u x = true then 1 else 0 := by
    unfold activeC; rw [List.countP_append, List.countP_singleton]
  by_cases hq : activeQ u x = true
  · rw [if_pos hq] at hc
    have hs : (u.toList == x.user.toList) = true ∧ overS x = false := by
      unfold activeQ at hq
      simp only [Bool.and_eq_true, beq_iff_eq, Bool.not_eq_true'] at hq
      exact ⟨by simpa using hq.1.symm, hq.2⟩
    rcases h4 with h4 | h4
    · rw [hs.2] at h4; cases h4
    · rw [active_tab h1] at h4
      have e : activeC l u = activeC l x.user := by unfold activeC; rw [activeQ_same hs.1]
      omega
  · rw [if_neg hq] at hc
    have := hall u
    omega
theorem add_err {l m : List Jb} {x : Jb} {e : Int} (h : addP l x = (m, e)) (he : e ≠ 0) : m = [] := by
  unfold addP at h
  split at h
  case isFalse => simp at h; exact h.1
  case isTrue =>
    split at h
    case isTrue => simp at h; exact h.1
    case isFalse =>
      split at h
      case isTrue => simp at h; omega
      case isFalse =>
        split at h
        case isTrue => simp at h; omega
        case isFalse => simp at h; exact h.1
theorem fewT15_at {l : List Jb} (h : fewT15 l = true) {x : Jb} (hx : x ∈ l) : fewJ x = true := by
  unfold fewT15 at h
  simp only [Bool.and_eq_true, List.all_eq_true] at h
  exact h.2 x hx
theorem tab_in {w : World} {A : Option Addr} {n : Nat} {l : List JR} (hr : Reads w w.heap.size 20 A n (recs jrC l)) (hl : ∀ r ∈ l, JbIn w r.x r.A r.c r.A2 r.c2) (hf : fewT15 (jobs l) = true) : TbAt w w.heap.size A n l := by
  refine ⟨hr, fun r h => (hl r h).at_ (fewT15_at hf (by unfold jobs; exact List.mem_map_of_mem h)), ?_⟩
  unfold fewT15 at hf
  simp only [Bool.and_eq_true, decide_eq_true_eq] at hf
  have h1 := hf.1
  rw [jobs_len, (hr.rec_len jrC_len (by omega)).out] at h1
  omega
set_option maxHeartbeats 4000000 in
theorem tableLooks_walk (l m : List JR) (A D : Option Addr) (n c p d : Nat) (id : Int) (w : World) (hr : Reads w w.heap.size 20 A n (recs jrC l)) (hl : ∀ r ∈ l, JbIn w r.x r.A r.c r.A2 r.c2) (hnc : n ≤ c) (hcm : c ≤ maxLen)
    (hr2 : Reads w w.heap.size 20 D p (recs jrC m)) (hl2 : ∀ r ∈ m, JbIn w r.x r.A r.c r.A2 r.c2) :
    Calls Tryz.prog 4 #[.slice A n c, .int .i64 id, .slice D p d] w fun e w' => e = .returned (.bool true) ∧ Below w.heap.size w w' := by
  have f1 := Lib.hid (few15_any l A n c w.heap.size w hr (Nat.le_refl _))
  have f2 := Lib.hid (fun v (hv : Below w.heap.size w v) => few15_any m D p d w.heap.size v (hr2.below hv) hv.size)
  cases z1 : fewT15 (jobs l)
  case false =>
    rw [z1] at f1
    clear f2 hr hl hr2 hl2
    go_enter Tryz.func4, Tryz.ntmps4
    go_wp2_with (fail)
    refine f1.out.mono ?_; rintro e w1 ⟨rfl, hw1⟩
    go_wp2_with (fail)
    refine (awake15_any _).mono ?_; rintro e wz ⟨rfl, hwz⟩
    go_wp2
    go_ret
    exact ⟨rfl, bt hw1 hwz⟩
  rw [z1] at f1
  have HT := Lib.hid (tab_in hr hl z1)
  cases z2 : fewT15 (jobs m)
  case false =>
    rw [z2] at f2
    clear hr hl hr2 hl2
    go_enter Tryz.func4, Tryz.ntmps4
    go_wp2_with (fail)
    refine f1.out.mono ?_; rintro e w1 ⟨rfl, hw1⟩
    go_wp2_with (fail)
    refine (f2.out _ hw1).mono ?_; rintro e w2 ⟨rfl, hw2⟩
    go_wp2_with (fail)
    refine (awake15_any _).mono ?_; rintro e wz ⟨rfl, hwz⟩
    go_wp2
    go_ret
    exact ⟨rfl, bt (bt hw1 hw2) hwz⟩
  rw [z2] at f2
  have HU := Lib.hid (tab_in hr2 hl2 z2)
  clear hr hl hr2 hl2 z1 z2
  have hn1 : n ≤ 1000 := HT.out.2.2
  have hp1 : p ≤ 1000 := HU.out.2.2
  have q1 := Lib.hid (fun v (hv : Below w.heap.size w v) => find_any l A n c w.heap.size id v (HT.out.below hv) hv.size hnc hcm)
  have q2 := Lib.hid (fun v (hv : Below w.heap.size w v) => rfind_any l A n c w.heap.size id v (HT.out.below hv) hv.size)
  have q3 := Lib.hid (fun v (hv : Below w.heap.size w v) => tcheck_any l A n c w.heap.size v (HT.out.below hv) hv.size)
  have q4 := Lib.hid (fun v (hv : Below w.heap.size w v) => rcheck15_any l A n c w.heap.size v (HT.out.below hv) hv.size)
  have q5 := Lib.hid (fun us v (hv : Below w.heap.size w v) => active_any l A n c w.heap.size us v (HT.out.below hv) hv.size)
  have q6 := Lib.hid (fun us v (hv : Below w.heap.size w v) => ractive_any l A n c w.heap.size us v (HT.out.below hv) hv.size)
  have q7 := Lib.hid (fun v (hv : Below w.heap.size w v) => ids_any l A n c w.heap.size id v (HT.out.below hv) hv.size)
  have q8 := Lib.hid (fun v (hv : Below w.heap.size w v) => rids_any l A n c w.heap.size id v (HT.out.below hv) hv.size)
  have q9 := Lib.hid (fun v (hv : Below w.heap.size w v) => sameT_any l m A D n p c d w.heap.size v (HT.out.below hv) (HU.out.below hv) hv.size)
  have q10 := Lib.hid (fun v (hv : Below w.heap.size w v) => rsameT_any l m A D n p c d w.heap.size v (HT.out.below hv) (HU.out.below hv) hv.size)
  have HIL : Hid ((idsP (jobs l) id).length ≤ 1000) := by
    show _ ≤ _
    unfold idsP
    split
    · have h := idsC_len (jobs l) id
      rw [jobs_len, HT.out.len] at h; omega
    · simp
  obtain ⟨F, hF⟩ : ∃ F, Hid (findP (jobs l) id = F) := ⟨_, rfl⟩
  rw [hF.out] at q1 q2
  obtain ⟨T, hT⟩ : ∃ T, Hid (tabE (jobs l) = T) := ⟨_, rfl⟩
  rw [hT.out] at q3 q4
  obtain ⟨I, hI⟩ : ∃ I, Hid (idsP (jobs l) id = I) := ⟨_, rfl⟩
  rw [hI.out] at q7 q8 HIL
  obtain ⟨S, hS⟩ : ∃ S, Hid (sameLL (jobs l) (jobs m) = S) := ⟨_, rfl⟩
  rw [hS.out] at q9 q10
  obtain ⟨fj, fb⟩ := F
  -- whose jobs are counted
  have hus : ∃ us : ByteArray, (p = 0 ∧ us = ⟨#[117]⟩) ∨ (∃ b o, 0 < p ∧ D = some ⟨b, o, none⟩ ∧ b < w.heap.size ∧ w.cell? ⟨b, o + 2, none⟩ = some (.string us)) := by
    rcases Nat.eq_zero_or_pos p with h | h
    · exact ⟨_, .inl ⟨h, rfl⟩⟩
    · obtain ⟨b, o, r, e, hbb, hx, KR, JR⟩ := HU.out.elem (k := 0) h
      have k2 := range_cell (j := 2) (u := .string r.x.user) KR.out rfl
      rw [Nat.zero_mul, Nat.add_zero] at k2
      exact ⟨r.x.user, .inr ⟨b, o, h, e, hbb, k2⟩⟩
  obtain ⟨us, hus⟩ := hus
  have q5u := Lib.hid (q5.out us)
  have q6u := Lib.hid (q6.out us)
  obtain ⟨N, hN⟩ : ∃ N, Hid (activeP (jobs l) us = N) := ⟨_, rfl⟩
  rw [hN.out] at q5u q6u
  clear q5 q6
  have eT : (T == T) = true := by simp
  have eN : (N == N) = true := by simp
  go_enter Tryz.func4, Tryz.ntmps4
  go_wp2_with (fail)
  refine f1.out.mono ?_; rintro e w1 ⟨rfl, hw1⟩
  go_wp2_with (fail)
  refine (f2.out _ hw1).mono ?_; rintro e w2 ⟨rfl, hw2⟩
  have B2 := Lib.hid (bt hw1 hw2)
  clear hw1 hw2 f1 f2
  go_wp2_with (fail)
  refine (q1.out _ B2.out).mono ?_; rintro e w3 ⟨r3, hx3, rfl, A3, O3, hw3⟩
  obtain ⟨W3, hs3, j3, b3, z3⟩ := boxed w3 (jrC r3).toArray
  have hst3 := Lib.hid hs3
  have J3 := Lib.hid j3
  have A3' := Lib.hid (A3.up b3)
  have B3 := Lib.hid (bt B2.out (bt hw3 b3))
  have HX3 := Lib.hid hx3
  have I3 := Lib.hid (jrA_info r3)
  have L3 := Lib.hid (jrA_20 r3)
  have C3 := Lib.hid (jrA_all r3)
  clear hs3 j3 b3 hw3 hx3 A3 O3 q1
  go_wp2_with (refine wpList_store_row rfl 28 _ _ rfl (w3.heap.size) (jrC r3).toArray rfl rfl 28 _ (heap_alloc_new w3 _) I3.out (by show 20 = _; exact L3.out) C3.out ?_; rw [hst3.out])
  refine (q2.out _ B3.out).mono ?_; rintro e w4 ⟨r4, hx4, rfl, A4, hw4⟩
  obtain ⟨W4, hs4, j4, b4, z4⟩ := boxed w4 (jrC r4).toArray
  have hst4 := Lib.hid hs4
  have J4 := Lib.hid j4
  have B34 := Lib.hid (bt hw4 b4)
  have J34 := Lib.hid ((B34.out.block _ z3).trans J3.out)
  have A4' := Lib.hid ((A4.below (b4.mono (bt B3.out hw4).size)).more (bt (bt B3.out hw4) b4).size)
  have B4 := Lib.hid (bt B3.out B34.out)
  have HX4 := Lib.hid hx4
  have I4 := Lib.hid (jrA_info r4)
  have L4 := Lib.hid (jrA_20 r4)
  have C4 := Lib.hid (jrA_all r4)
  have hSM := Lib.hid (fun v (hv : Below W4.heap.size W4 v) => rsameJ_r ((A3'.out.up B34.out).below hv) (A4'.out.below hv) hv.size)
  rw [HX3.out, HX4.out, sameJ_refl] at hSM
  have z34 : w3.heap.size < W4.heap.size := Nat.lt_of_lt_of_le z3 B34.out.size
  clear hs4 j4 b4 hw4 hx4 A4 q2
  obtain ⟨cs3, hcs3⟩ : ∃ cs, Hid ((jrC r3).toArray = cs) := ⟨_, rfl⟩
  rw [hcs3.out] at J34 I3 hSM
  obtain ⟨cs4, hcs4⟩ : ∃ cs, Hid ((jrC r4).toArray = cs) := ⟨_, rfl⟩
  rw [hcs4.out] at hst4 J4 I4 L4 C4 hSM
  rcases hus with ⟨hp0, rfl⟩ | ⟨b, o, hp0, rfl, hbb, hc2⟩
  · have t1 : decide ((0 : Int) < (p : Int)) = false := by simp; omega
    have t1' : decide (0 < p) = false := by simp; omega
    clear hp0
    rw [hcs3.out, hcs4.out]
    go_wp2_with (refine wpList_store_row rfl 28 _ _ rfl (w4.heap.size) cs4 rfl rfl 28 _ (heap_alloc_new w4 _) I4.out (by show 20 = _; exact L4.out) C4.out ?_; rw [hst4.out])
    refine (q3.out _ B4.out).mono ?_; rintro e v1 ⟨rfl, hv1⟩
    have C1 := Lib.hid (bt B4.out hv1)
    go_wp2_with (fail)
    refine (q4.out _ C1.out).mono ?_; rintro e v2 ⟨rfl, hv2⟩
    have W2 := Lib.hid (bt hv1 hv2)
    have K3 := Lib.hid ((W2.out.block _ z34).trans J34.out)
    have K4 := Lib.hid ((W2.out.block _ z4).trans J4.out)
    clear hv1 hv2
    go_wp2_with (first | (refine wpList_load_row_g (by kernel_rfl) 28 _ rfl (w3.heap.size) rfl 28 _ (0, 0) _ K3.out Tryz.underlying28 rfl I3.out ?_) | (refine wpList_load_row_g (by kernel_rfl) 28 _ rfl (w4.heap.size) rfl 28 _ (0, 0) _ K4.out Tryz.underlying28 rfl I4.out ?_))
    refine (hSM.out _ W2.out).mono ?_; rintro e v3 ⟨rfl, hv3⟩
    have C3b := Lib.hid (bt B4.out (bt W2.out hv3))
    clear hv3
    go_wp2_with (fail)
    refine (q5u.out _ C3b.out).mono ?_; rintro e v4 ⟨rfl, hv4⟩
    have C4b := Lib.hid (bt C3b.out hv4)
    clear hv4
    go_wp2_with (fail)
    refine (q6u.out _ C4b.out).mono ?_; rintro e v5 ⟨rfl, hv5⟩
    have C5b := Lib.hid (bt C4b.out hv5)
    clear hv5
    go_wp2_with (fail)
    refine (q7.out _ C5b.out).mono ?_; rintro e v6 ⟨vi, rfl, ho6, hv6⟩
    obtain ⟨Ai, ci, rfl, _, _⟩ := ho6.slice
    have C6b := Lib.hid (bt C5b.out hv6)
    go_wp2_with (fail)
    refine (q8.out _ C6b.out).mono ?_; rintro e v7 ⟨vj, rfl, ho7, hv7⟩
    obtain ⟨Aj, cj, rfl, _, _⟩ := ho7.slice
    have C7b := Lib.hid (bt C6b.out hv7)
    have q11 := rsame_any Ai Aj I.length I.length ci cj v7.heap.size I I v7 ((ho6.reads.below hv7).more hv7.size) ho7.reads (Nat.le_trans HIL.out (by decide)) (Nat.le_trans HIL.out (by decide)) (Nat.le_refl _)
    rw [decide_eq_true (rfl : I = I)] at q11
    have Q11 := Lib.hid q11
    clear hv6 hv7 ho6 ho7 q11
    go_wp2_with (fail)
    refine Q11.out.mono ?_; rintro e v8 ⟨rfl, hv8⟩
    have C8b := Lib.hid (bt C7b.out hv8)
    clear hv8
    go_wp2_with (fail)
    refine (q9.out _ C8b.out).mono ?_; rintro e v9 ⟨rfl, hv9⟩
    have C9b := Lib.hid (bt C8b.out hv9)
    clear hv9
    go_wp2_with (fail)
    refine (q10.out _ C9b.out).mono ?_; rintro e va ⟨rfl, hva⟩
    have Cab := Lib.hid (bt C9b.out hva)
    clear hva
    cases S
    all_goals
      go_wp2_with (fail)
      refine (awake15_any _).mono ?_; rintro e vb ⟨rfl, hvb⟩
      go_wp2
      go_ret
      exact ⟨rfl, bt Cab.out hvb⟩
  · have t1 : decide ((0 : Int) < (p : Int)) = true := by simp; omega
    have t1' : decide (0 < p) = true := by simp; omega
    have hp2 : (0 : Int) < (p : Int) := by omega
    have u2 : W4.cell? ⟨b, o + 2, none⟩ = some (.string us) := (B4.out.cell (p := ⟨b, o + 2, none⟩) hbb).trans hc2
    rw [hcs3.out, hcs4.out]
    go_wp2_with (refine wpList_store_row rfl 28 _ _ rfl (w4.heap.size) cs4 rfl rfl 28 _ (heap_alloc_new w4 _) I4.out (by show 20 = _; exact L4.out) C4.out ?_; rw [hst4.out])
    refine (q3.out _ B4.out).mono ?_; rintro e v1 ⟨rfl, hv1⟩
    have C1 := Lib.hid (bt B4.out hv1)
    go_wp2_with (fail)
    refine (q4.out _ C1.out).mono ?_; rintro e v2 ⟨rfl, hv2⟩
    have W2 := Lib.hid (bt hv1 hv2)
    have K3 := Lib.hid ((W2.out.block _ z34).trans J34.out)
    have K4 := Lib.hid ((W2.out.block _ z4).trans J4.out)
    clear hv1 hv2
    go_wp2_with (first | (refine wpList_load_row_g (by kernel_rfl) 28 _ rfl (w3.heap.size) rfl 28 _ (0, 0) _ K3.out Tryz.underlying28 rfl I3.out ?_) | (refine wpList_load_row_g (by kernel_rfl) 28 _ rfl (w4.heap.size) rfl 28 _ (0, 0) _ K4.out Tryz.underlying28 rfl I4.out ?_))
    refine (hSM.out _ W2.out).mono ?_; rintro e v3 ⟨rfl, hv3⟩
    have C3b := Lib.hid (bt B4.out (bt W2.out hv3))
    clear hv3
    go_wp2_with (fail)
    refine (q5u.out _ C3b.out).mono ?_; rintro e v4 ⟨rfl, hv4⟩
    have C4b := Lib.hid (bt C3b.out hv4)
    clear hv4
    go_wp2_with (fail)
    refine (q6u.out _ C4b.out).mono ?_; rintro e v5 ⟨rfl, hv5⟩
    have C5b := Lib.hid (bt C4b.out hv5)
    clear hv5
    go_wp2_with (fail)
    refine (q7.out _ C5b.out).mono ?_; rintro e v6 ⟨vi, rfl, ho6, hv6⟩
    obtain ⟨Ai, ci, rfl, _, _⟩ := ho6.slice
    have C6b := Lib.hid (bt C5b.out hv6)
    go_wp2_with (fail)
    refine (q8.out _ C6b.out).mono ?_; rintro e v7 ⟨vj, rfl, ho7, hv7⟩
    obtain ⟨Aj, cj, rfl, _, _⟩ := ho7.slice
    have C7b := Lib.hid (bt C6b.out hv7)
    have q11 := rsame_any Ai Aj I.length I.length ci cj v7.heap.size I I v7 ((ho6.reads.below hv7).more hv7.size) ho7.reads (Nat.le_trans HIL.out (by decide)) (Nat.le_trans HIL.out (by decide)) (Nat.le_refl _)
    rw [decide_eq_true (rfl : I = I)] at q11
    have Q11 := Lib.hid q11
    clear hv6 hv7 ho6 ho7 q11
    go_wp2_with (fail)
    refine Q11.out.mono ?_; rintro e v8 ⟨rfl, hv8⟩
    have C8b := Lib.hid (bt C7b.out hv8)
    clear hv8
    go_wp2_with (fail)
    refine (q9.out _ C8b.out).mono ?_; rintro e v9 ⟨rfl, hv9⟩
    have C9b := Lib.hid (bt C8b.out hv9)
    clear hv9
    go_wp2_with (fail)
    refine (q10.out _ C9b.out).mono ?_; rintro e va ⟨rfl, hva⟩
    have Cab := Lib.hid (bt C9b.out hva)
    clear hva
    cases S
    all_goals
      go_wp2_with (fail)
      refine (awake15_any _).mono ?_; rintro e vb ⟨rfl, hvb⟩
      go_wp2
      go_ret
      exact ⟨rfl, bt Cab.out hvb⟩
theorem over_no {x : Jb} (h : overS x = false) : (okJ x && endedB x.state) = false := by
  cases hx : okJ x
  · rfl
  · rw [ended_over hx, h]; rfl
theorem jr_in {w : World} {r : JR} (h : JbIn w r.x r.A r.c r.A2 r.c2) (hf : fewJ r.x = true) : JrAt w w.heap.size r := h.at_ hf
theorem over14_r {r : JR} {B : Nat} {w : World} (h : JrAt w B r) (hB : B ≤ w.heap.size) : Calls Tryz.prog 35 #[.agg (jrC r).toArray] w fun e w' => e = .returned (.bool (okJ r.x && endedB r.x.state)) ∧ Below w.heap.size w w' :=
  over14_any r.x r.A r.A2 r.c r.c2 B w h.1 hB h.2
set_option maxHeartbeats 4000000 in
theorem tableUsers_walk (l : List JR) (r0 : JR) (A : Option Addr) (n c : Nat) (w : World) (hr : Reads w w.heap.size 20 A n (recs jrC l)) (hl : ∀ r ∈ l, JbIn w r.x r.A r.c r.A2 r.c2) (h0 : JbIn w r0.x r0.A r0.c r0.A2 r0.c2) :
    Calls Tryz.prog 7 #[.slice A n c, .agg (jrC r0).toArray] w fun e w' => e = .returned (.bool true) ∧ Below w.heap.size w w' := by
  have f1 := Lib.hid (fun v (hv : Below w.heap.size w v) => few15_any l A n c w.heap.size v (hr.below hv) hv.size)
  have f2 := Lib.hid (fun v => few_r r0 v)
  have HAT := Lib.hid (fun h : fewJ r0.x = true => jr_in h0 h)
  have HT0 := Lib.hid (fun h : fewT15 (jobs l) = true => tab_in hr hl h)
  have e2 : (jrC r0)[2]? = some (.string r0.x.user) := rfl
  have CSA := Lib.hid (jrA_info r0)
  have HADD := Lib.hid (fun (h1 : fewT15 (jobs l) = true) (h2 : fewJ r0.x = true) v (hv : Below w.heap.size w v) => addT_any l r0 A n c w.heap.size v ((tab_in hr hl h1).below hv) ((jr_in h0 h2).below hv) hv.size)
  have HOV := Lib.hid (fun (h2 : fewJ r0.x = true) v (hv : Below w.heap.size w v) => over14_r (r := r0) (B := w.heap.size) ((jr_in h0 h2).below hv) hv.size)
  obtain ⟨x, hx⟩ : ∃ x, r0.x = x := ⟨_, rfl⟩
  obtain ⟨us, hus⟩ : ∃ u, x.user = u := ⟨_, rfl⟩
  have HUS := Lib.hid hus
  rw [hx] at f2 HAT e2 HADD HOV
  rw [hus] at e2
  obtain ⟨cs, hcs⟩ : ∃ cs, Hid (jrC r0 = cs) := ⟨_, rfl⟩
  rw [hcs.out] at f2 e2 CSA HADD HOV ⊢
  have J0 : Hid ((w.alloc (.cells cs.toArray 28)).heap[w.heap.size]? = some (.cells cs.toArray 28 (0, 0))) := heap_alloc_new w _
  clear hr hl h0 hx hus
  cases z1 : fewT15 (jobs l)
  case false =>
    rw [z1] at f1
    clear f2 HAT HT0 HADD HOV
    go_enter Tryz.func7, Tryz.ntmps7
    go_wp2_with (fail)
    refine (f1.out _ bx0).mono ?_; rintro e w1 ⟨rfl, hw1⟩
    go_wp2_with (fail)
    refine (awake15_any _).mono ?_; rintro e wz ⟨rfl, hwz⟩
    go_wp2
    go_ret
    exact ⟨rfl, bt (bt bx0 hw1) hwz⟩
  rw [z1] at f1
  cases z2 : fewJ x
  case false =>
    rw [z2] at f2
    clear HAT HT0 HADD HOV
    go_enter Tryz.func7, Tryz.ntmps7
    go_wp2_with (fail)
    refine (f1.out _ bx0).mono ?_; rintro e w1 ⟨rfl, hw1⟩
    obtain ⟨g1, hb1, s1⟩ := box_row hw1
    have G1 := Lib.hid g1
    clear g1 hw1
    go_wp2_with (refine wpList_load_row_g (by kernel_rfl) 28 _ rfl (w.heap.size) rfl 28 _ (0, 0) _ G1.out Tryz.underlying28 rfl CSA.out ?_)
    refine (f2.out _).mono ?_; rintro e w2 ⟨rfl, hw2⟩
    go_wp2_with (fail)
    refine (awake15_any _).mono ?_; rintro e wz ⟨rfl, hwz⟩
    go_wp2
    go_ret
    exact ⟨rfl, bt (bt hb1 hw2) hwz⟩
  rw [z2] at f2
  have HT := Lib.hid (HT0.out z1)
  have hlj : Hid ((jobs l).length = n) := (jobs_len l).trans HT.out.len
  have hn1 : n ≤ 1000 := HT.out.2.2
  have HA := Lib.hid (HADD.out z1 z2)
  have HO := Lib.hid (HOV.out z2)
  have q5 := Lib.hid (fun us v (hv : Below w.heap.size w v) => active_any l A n c w.heap.size us v (HT.out.below hv) hv.size)
  clear HAT HT0 HADD HOV z1 z2
  go_enter Tryz.func7, Tryz.ntmps7
  go_wp2_with (fail)
  refine (f1.out _ bx0).mono ?_; rintro e w1 ⟨rfl, hw1⟩
  obtain ⟨g1, hb1, s1⟩ := box_row hw1
  have G1 := Lib.hid g1
  clear g1 hw1
  go_wp2_with (refine wpList_load_row_g (by kernel_rfl) 28 _ rfl (w.heap.size) rfl 28 _ (0, 0) _ G1.out Tryz.underlying28 rfl CSA.out ?_)
  refine (f2.out _).mono ?_; rintro e w2 ⟨rfl, hw2⟩
  have G2 := Lib.hid ((hw2.block _ s1).trans G1.out)
  have B2 := Lib.hid (bt hb1 hw2)
  clear hb1 hw2 f1 f2 G1
  go_wp2
  go_loopw [5] (fun i wr => ∃ k : Nat, k ≤ n ∧ i = .int .i64 k ∧ Hid (Below w.heap.size w wr) ∧ Hid (wr.heap[w.heap.size]? = some (.cells cs.toArray 28 (0, 0))) ∧ Hid (∀ j y, j < k → (jobs l)[j]? = some y → activeP (jobs l) y.user ≤ 8)) (fun i _ => n - (intOf i).toNat)
  case atStart => exact ⟨0, Nat.zero_le _, rfl, B2.out, G2, fun j y h => by omega⟩
  case round =>
    obtain ⟨k, hk, rfl, hbw, GR, HN⟩ := hrel
    have sr : w.heap.size < wr.heap.size := (Array.getElem?_eq_some_iff.1 GR.out).1
    clear G2 B2
    by_cases hlt : k < n
    · obtain ⟨b, o, r, rfl, hbb, hx, KR, JR⟩ := (HT.out.below hbw.out).elem hlt
      have hi0 : (0 : Int) ≤ (k : Int) := by omega
      have hi1 : (k : Int) < (n : Int) := by omega
      have t0 : decide ((k : Int) < (n : Int)) = true := by simp; omega
      have HJX := Lib.hid (jobs_at hx.out)
      have k2 : wr.cell? ⟨b, o + k * 20 + 2, none⟩ = some (.string r.x.user) := range_cell KR.out rfl
      have q := Lib.hid (q5.out r.x.user wr hbw.out)
      obtain ⟨N, hN⟩ : ∃ N, Hid (activeP (jobs l) r.x.user = N) := ⟨_, rfl⟩
      rw [hN.out] at q
      clear KR JR hx
      cases z8 : decide (8 < N)
      case true =>
        go_wp2_with (fail)
        refine q.out.mono ?_; rintro e w3 ⟨rfl, hw3⟩
        go_wp2_with (fail)
        refine (awake15_any _).mono ?_; rintro e wz ⟨rfl, hwz⟩
        go_wp2
        go_ret
        exact ⟨rfl, bt (bt hbw.out hw3) hwz⟩
      have HN2 : Hid (∀ j y, j < k + 1 → (jobs l)[j]? = some y → activeP (jobs l) y.user ≤ 8) := Lib.hid (fun j y hj hy => by
        by_cases e : j = k
        · subst e; rw [HJX.out] at hy; rw [← Option.some.inj hy, hN.out]; simp at z8; omega
        · exact HN.out j y (by omega) hy)
      clear hN HJX
      go_wp2_with (fail)
      refine q.out.mono ?_; rintro e w3 ⟨rfl, hw3⟩
      go_wp2
      go_roundw
      case rel => exact ⟨k + 1, by omega, by simp, bt hbw.out hw3, (hw3.block _ sr).trans GR.out, HN2⟩
      case measure => simp [intOf]; omega
    · obtain rfl : k = n := by omega
      have t0 : decide ((k : Int) < (k : Int)) = false := by simp
      have HU : Hid (∀ y ∈ jobs l, activeP (jobs l) y.user ≤ 8) := Lib.hid (fun y hy => by
        obtain ⟨j, hj⟩ := List.getElem?_of_mem hy
        exact HN.out j y (by have := (List.getElem?_eq_some_iff.1 hj).1; rw [hlj.out] at this; exact this) hj)
      have ha := Lib.hid (HA.out wr hbw.out)
      obtain ⟨P, hP⟩ : ∃ P, Hid (addP (jobs l) x = P) := ⟨_, rfl⟩
      rw [hP.out] at ha
      obtain ⟨ms, er⟩ := P
      go_wp2_with (refine wpList_load_row rfl 28 _ rfl (w.heap.size) rfl 28 _ (0, 0) _ GR.out Tryz.underlying28 rfl CSA.out ?_)
      refine ha.out.mono ?_; rintro e w4 ⟨R, mm, cc, rs, rfl, hj, T4, _, _, _, hw4⟩
      have G4 := Lib.hid ((hw4.block _ sr).trans GR.out)
      have s4 : w.heap.size < w4.heap.size := Nat.lt_of_lt_of_le sr hw4.size
      have B4 := Lib.hid (bt hbw.out hw4)
      have HJ4 : Hid (jobs rs = ms) := hj
      have hmm : Hid (ms.length = mm) := by show _ = _; rw [← HJ4.out, jobs_len, T4.out.len]
      have hm1 : mm ≤ 1000 := T4.out.2.2
      clear hj hw4 HN ha
      by_cases h151 : er = 151
      · subst h151
        obtain ⟨hu1, hu2⟩ := users_err hP.out HU.out
        have u2 : w4.cell? ⟨w.heap.size, 2, none⟩ = some (.string us) := (cell_of_row w4 _ 2 _ _ _ G4.out).trans (at_arr e2)
        have q6 := Lib.hid (q5.out us w4 B4.out)
        rw [← HUS.out, hu1, HUS.out] at q6
        have ho := Lib.hid (fun v hv => HO.out v hv)
        rw [over_no hu2] at ho
        clear hu1 hu2 HO
        go_wp2_with (fail)
        refine q6.out.mono ?_; rintro e w5 ⟨rfl, hw5⟩
        have G5 := Lib.hid ((hw5.block _ s4).trans G4.out)
        have B5 := Lib.hid (bt B4.out hw5)
        clear hw5 u2
        go_wp2_with (refine wpList_load_row_g (by kernel_rfl) 28 _ rfl (w.heap.size) rfl 28 _ (0, 0) _ G5.out Tryz.underlying28 rfl CSA.out ?_)
        refine (ho.out _ B5.out).mono ?_; rintro e w6 ⟨rfl, hw6⟩
        have B6 := Lib.hid (bt B5.out hw6)
        go_wp2_with (fail)
        refine (awake15_any _).mono ?_; rintro e wz ⟨rfl, hwz⟩
        go_wp2
        go_ret
        exact ⟨rfl, bt B6.out hwz⟩
      have te : (er == 151) = false := by simpa using h151
      by_cases h00 : er = 0
      · subst h00
        have HOK := Lib.hid (users_ok hP.out HU.out)
        have HTM := Lib.hid (fun v (hv : Below w4.heap.size w4 v) => T4.out.below hv)
        clear hP h151 HU
        go_wp2
        go_loopw [8] (fun i wr => ∃ k : Nat, k ≤ mm ∧ i = .int .i64 k ∧ Hid (Below w4.heap.size w4 wr)) (fun i _ => mm - (intOf i).toNat)
        case atStart => exact ⟨0, Nat.zero_le _, rfl, Below.refl _ _⟩
        case round =>
          obtain ⟨j, hj, rfl, hbj⟩ := hrel
          by_cases hjl : j < mm
          · obtain ⟨b2, o2, r2, rfl, hbb2, hx2, KR2, JR2⟩ := (HTM.out _ hbj.out).elem hjl
            have hj0 : (0 : Int) ≤ (j : Int) := by omega
            have hj1 : (j : Int) < (mm : Int) := by omega
            have t1 : decide ((j : Int) < (mm : Int)) = true := by simp; omega
            have k3 := range_cell (j := 2) (u := .string r2.x.user) KR2.out rfl
            have q7 := Lib.hid (active_any rs (some ⟨b2, o2, none⟩) mm cc w4.heap.size r2.x.user _ (HTM.out _ hbj.out) hbj.out.size)
            rw [HJ4.out] at q7
            have h8 := HOK.out r2.x.user
            obtain ⟨N2, hN2⟩ : ∃ N, activeP ms r2.x.user = N := ⟨_, rfl⟩
            rw [hN2] at q7 h8
            have t8 : decide (8 < N2) = false := by simp; omega
            clear hN2 h8 KR2 JR2 hx2
            go_wp2_with (fail)
            refine q7.out.mono ?_; rintro e w5 ⟨rfl, hw5⟩
            go_wp2
            go_roundw
            case rel => exact ⟨j + 1, by omega, by simp, bt hbj.out hw5⟩
            case measure => simp [intOf]; omega
          · obtain rfl : j = mm := by omega
            have t1 : decide ((j : Int) < (j : Int)) = false := by simp
            go_wp2_with (fail)
            refine (awake15_any _).mono ?_; rintro e wz ⟨rfl, hwz⟩
            go_wp2
            go_ret
            exact ⟨rfl, bt (bt B4.out hbj.out) hwz⟩
      · have h0m : Hid (mm = 0) := by show mm = 0; rw [← hmm.out, add_err hP.out h00]; rfl
        have te0 : (er == 0) = false := by simpa using h00
        clear hP h151 h00 HU
        go_wp2
        go_loopw [8] (fun i wr => i = .int .i64 0 ∧ Hid (Below w4.heap.size w4 wr)) (fun i _ => 0)
        case atStart => exact ⟨rfl, Below.refl _ _⟩
        case round =>
          obtain ⟨rfl, hbj⟩ := hrel
          have t1 : decide ((0 : Int) < (mm : Int)) = false := by have := h0m.out; simp; omega
          have t1' : decide (0 < mm) = false := by have := h0m.out; simp; omega
          go_wp2_with (fail)
          refine (awake15_any _).mono ?_; rintro e wz ⟨rfl, hwz⟩
          go_wp2
          go_ret
          exact ⟨rfl, bt (bt B4.out hbj.out) hwz⟩
set_option maxHeartbeats 4000000 in
theorem tableKeeps_walk (l : List JR) (r0 : JR) (A : Option Addr) (n c : Nat) (w : World) (hr : Reads w w.heap.size 20 A n (recs jrC l)) (hl : ∀ r ∈ l, JbIn w r.x r.A r.c r.A2 r.c2) (h0 : JbIn w r0.x r0.A r0.c r0.A2 r0.c2) :
    Calls Tryz.prog 6 #[.slice A n c, .agg (jrC r0).toArray] w fun e w' => e = .returned (.bool true) ∧ Below w.heap.size w w' := by
  have f1 := Lib.hid (fun v (hv : Below w.heap.size w v) => few15_any l A n c w.heap.size v (hr.below hv) hv.size)
  have f2 := Lib.hid (fun v => few_r r0 v)
  have HAT := Lib.hid (fun h : fewJ r0.x = true => jr_in h0 h)
  have HT0 := Lib.hid (fun h : fewT15 (jobs l) = true => tab_in hr hl h)
  have e0 : (jrC r0)[0]? = some (.int .i64 r0.x.id) := rfl
  have CSA := Lib.hid (jrA_info r0)
  have HADD := Lib.hid (fun (h1 : fewT15 (jobs l) = true) (h2 : fewJ r0.x = true) v (hv : Below w.heap.size w v) => addT_any l r0 A n c w.heap.size v ((tab_in hr hl h1).below hv) ((jr_in h0 h2).below hv) hv.size)
  obtain ⟨x, hx⟩ : ∃ x, r0.x = x := ⟨_, rfl⟩
  obtain ⟨id, hid⟩ : ∃ u, x.id = u := ⟨_, rfl⟩
  have HX := Lib.hid hx
  have HID := Lib.hid hid
  rw [hx] at f2 HAT e0 HADD
  rw [hid] at e0
  obtain ⟨cs, hcs⟩ : ∃ cs, Hid (jrC r0 = cs) := ⟨_, rfl⟩
  rw [hcs.out] at f2 e0 CSA HADD ⊢
  have J0 : Hid ((w.alloc (.cells cs.toArray 28)).heap[w.heap.size]? = some (.cells cs.toArray 28 (0, 0))) := heap_alloc_new w _
  clear hr hl h0 hx hid
  cases z1 : fewT15 (jobs l)
  case false =>
    rw [z1] at f1
    clear f2 HAT HT0 HADD
    go_enter Tryz.func6, Tryz.ntmps6
    go_wp2_with (fail)
    refine (f1.out _ bx0).mono ?_; rintro e w1 ⟨rfl, hw1⟩
    go_wp2_with (fail)
    refine (awake15_any _).mono ?_; rintro e wz ⟨rfl, hwz⟩
    go_wp2
    go_ret
    exact ⟨rfl, bt (bt bx0 hw1) hwz⟩
  rw [z1] at f1
  cases z2 : fewJ x
  case false =>
    rw [z2] at f2
    clear HAT HT0 HADD
    go_enter Tryz.func6, Tryz.ntmps6
    go_wp2_with (fail)
    refine (f1.out _ bx0).mono ?_; rintro e w1 ⟨rfl, hw1⟩
    obtain ⟨g1, hb1, s1⟩ := box_row hw1
    have G1 := Lib.hid g1
    clear g1 hw1
    go_wp2_with (refine wpList_load_row_g (by kernel_rfl) 28 _ rfl (w.heap.size) rfl 28 _ (0, 0) _ G1.out Tryz.underlying28 rfl CSA.out ?_)
    refine (f2.out _).mono ?_; rintro e w2 ⟨rfl, hw2⟩
    go_wp2_with (fail)
    refine (awake15_any _).mono ?_; rintro e wz ⟨rfl, hwz⟩
    go_wp2
    go_ret
    exact ⟨rfl, bt (bt hb1 hw2) hwz⟩
  rw [z2] at f2
  have HT := Lib.hid (HT0.out z1)
  have HR0 := Lib.hid (HAT.out z2)
  have hlj : Hid ((jobs l).length = n) := (jobs_len l).trans HT.out.len
  have hn1 : n ≤ 1000 := HT.out.2.2
  have HA := Lib.hid (HADD.out z1 z2)
  have q0 := Lib.hid (fun v (hv : Below w.heap.size w v) => tcheck_any l A n c w.heap.size v (HT.out.below hv) hv.size)
  clear HAT HT0 HADD z1 z2
  cases zt : tabB (jobs l)
  case false =>
    rw [tabE_f zt] at q0
    clear HA
    go_enter Tryz.func6, Tryz.ntmps6
    go_wp2_with (fail)
    refine (f1.out _ bx0).mono ?_; rintro e w1 ⟨rfl, hw1⟩
    obtain ⟨g1, hb1, s1⟩ := box_row hw1
    have G1 := Lib.hid g1
    have B1 := Lib.hid hb1
    clear g1 hw1
    go_wp2_with (refine wpList_load_row_g (by kernel_rfl) 28 _ rfl (w.heap.size) rfl 28 _ (0, 0) _ G1.out Tryz.underlying28 rfl CSA.out ?_)
    refine (f2.out _).mono ?_; rintro e w2 ⟨rfl, hw2⟩
    have B2 := Lib.hid (bt B1.out hw2)
    go_wp2_with (fail)
    refine (q0.out _ B2.out).mono ?_; rintro e w3 ⟨rfl, hw3⟩
    go_wp2_with (fail)
    refine (awake15_any _).mono ?_; rintro e wz ⟨rfl, hwz⟩
    go_wp2
    go_ret
    exact ⟨rfl, bt (bt B2.out hw3) hwz⟩
  rw [tabE_t zt] at q0
  obtain ⟨P, hP⟩ : ∃ P, Hid (addP (jobs l) x = P) := ⟨_, rfl⟩
  rw [hP.out] at HA
  obtain ⟨ms, er⟩ := P
  go_enter Tryz.func6, Tryz.ntmps6
  go_wp2_with (fail)
  refine (f1.out _ bx0).mono ?_; rintro e w1 ⟨rfl, hw1⟩
  obtain ⟨g1, hb1, s1⟩ := box_row hw1
  have G1 := Lib.hid g1
  have B1 := Lib.hid hb1
  clear g1 hw1
  go_wp2_with (refine wpList_load_row_g (by kernel_rfl) 28 _ rfl (w.heap.size) rfl 28 _ (0, 0) _ G1.out Tryz.underlying28 rfl CSA.out ?_)
  refine (f2.out _).mono ?_; rintro e w2 ⟨rfl, hw2⟩
  have G2 := Lib.hid ((hw2.block _ s1).trans G1.out)
  have s2 : w.heap.size < w2.heap.size := Nat.lt_of_lt_of_le s1 hw2.size
  have B2 := Lib.hid (bt B1.out hw2)
  clear hw2
  go_wp2_with (fail)
  refine (q0.out _ B2.out).mono ?_; rintro e w3 ⟨rfl, hw3⟩
  have G3 := Lib.hid ((hw3.block _ s2).trans G2.out)
  have s3 : w.heap.size < w3.heap.size := Nat.lt_of_lt_of_le s2 hw3.size
  have B3 := Lib.hid (bt B2.out hw3)
  clear hw3 hb1 f1 f2 q0 G1 G2 B1 B2 s1 s2
  go_wp2_with (refine wpList_load_row rfl 28 _ rfl (w.heap.size) rfl 28 _ (0, 0) _ G3.out Tryz.underlying28 rfl CSA.out ?_)
  refine (HA.out _ B3.out).mono ?_; rintro e w4 ⟨R, mm, cc, rs, rfl, hj, T4, hmc, hcm, _, hw4⟩
  have G4 := Lib.hid ((hw4.block _ s3).trans G3.out)
  have s4 : w.heap.size < w4.heap.size := Nat.lt_of_lt_of_le s3 hw4.size
  have B4 := Lib.hid (bt B3.out hw4)
  have HJ4 : Hid (jobs rs = ms) := hj
  have hmm : Hid (ms.length = mm) := by show _ = _; rw [← HJ4.out, jobs_len, T4.out.len]
  have hm1 : mm ≤ 1000 := T4.out.2.2
  clear hj hw4 HA G3 B3 s3
  by_cases h00 : er = 0
  case neg =>
    have h0m : mm = 0 := by rw [← hmm.out, add_err hP.out h00]; rfl
    have te0 : (er != 0) = true := by simpa using h00
    have tm : ((mm : Int) == 0) = true := by simp; omega
    have tm' : (mm == 0) = true := by simp; omega
    clear h00 hP h0m
    go_wp2_with (fail)
    refine (awake15_any _).mono ?_; rintro e wz ⟨rfl, hwz⟩
    go_wp2
    go_ret
    exact ⟨rfl, bt B4.out hwz⟩
  subst h00
  obtain ⟨a1, a2, a3, a4, a5⟩ := add_tab hP.out
  rw [hlj.out, hmm.out] at a2
  rw [hmm.out] at a3
  obtain ⟨kk, hkk⟩ := add_keeps hP.out
  have HKK := Lib.hid hkk
  have HMOK := Lib.hid (fun y (hy : y ∈ ms) => ((tab_iff.1 a1).2.1 y hy).1)
  have HFX : Hid (findP ms id = (x, true)) := by show _ = _; rw [← HID.out]; exact find_mem a1 a4
  have HTM := Lib.hid (fun v (hv : Below w4.heap.size w4 v) => T4.out.below hv)
  have u0 : w4.cell? ⟨w.heap.size, 0, none⟩ = some (.int .i64 id) := (cell_of_row w4 _ 0 _ _ _ G4.out).trans (at_arr e0)
  have q1 := Lib.hid (fun i v (hv : Below w4.heap.size w4 v) => find_any rs R mm cc w4.heap.size i v (HTM.out v hv) hv.size hmc hcm)
  rw [HJ4.out] at q1
  have q2 := Lib.hid (fun v (hv : Below w4.heap.size w4 v) => tcheck_any rs R mm cc w4.heap.size v (HTM.out v hv) hv.size)
  rw [HJ4.out, tabE_t a1] at q2
  have q3 := Lib.hid (fun i v (hv : Below w4.heap.size w4 v) => rwaited_any rs R mm cc w4.heap.size i v (HTM.out v hv) hv.size (by rw [HJ4.out]; exact HMOK.out))
  rw [HJ4.out] at q3
  have qf := Lib.hid (q1.out id w4 (Below.refl _ _))
  rw [HFX.out] at qf
  clear hkk a1 a4 a5 hP HFX T4 hmc hcm
  go_wp2_with (fail)
  refine qf.out.mono ?_; rintro e w5 ⟨r5, hx5, rfl, A5, O5, hw5⟩
  obtain ⟨W5, hs5, j5, b5, z5⟩ := boxed w5 (jrC r5).toArray
  have hst5 := Lib.hid hs5
  have J5 := Lib.hid j5
  have BW5 := Lib.hid (bt hw5 b5)
  have G5 := Lib.hid ((BW5.out.block _ s4).trans G4.out)
  have s5 : w.heap.size < W5.heap.size := Nat.lt_of_lt_of_le s4 BW5.out.size
  have I5 := Lib.hid (jrA_info r5)
  have L5 := Lib.hid (jrA_20 r5)
  have C5 := Lib.hid (jrA_all r5)
  have B5 := Lib.hid (bt B4.out BW5.out)
  have hsm := Lib.hid (fun v (hv : Below W5.heap.size W5 v) => rsameJ_r (r := r5) (s := r0) ((A5.up b5).below hv) ((HR0.out.below (bt B5.out hv)).more B5.out.size) hv.size)
  have hx6 : sameJ r5.x r0.x = true := by rw [hx5, HX.out]; exact sameJ_refl x
  rw [hx6, hcs.out] at hsm
  clear hx5 hx6 hs5 j5 b5 hw5 A5 O5 u0 qf
  obtain ⟨c5, hc5⟩ : ∃ cs, Hid ((jrC r5).toArray = cs) := ⟨_, rfl⟩
  rw [hc5.out] at hst5 J5 I5 L5 C5 hsm ⊢
  have ta : decide ((mm : Int) < (n : Int)) = false := by simp; omega
  have ta' : decide (mm < n) = false := by simp; omega
  have tb : decide ((40 : Int) < (mm : Int)) = false := by simp; omega
  have tb' : decide (40 < mm) = false := by simp; omega
  go_wp2_with (refine wpList_store_row rfl 28 _ _ rfl (w5.heap.size) c5 rfl rfl 28 _ (heap_alloc_new w5 _) I5.out (by show 20 = _; exact L5.out) C5.out ?_; rw [hst5.out])
  refine (q2.out _ BW5.out).mono ?_; rintro e w6 ⟨rfl, hw6⟩
  have J6 := Lib.hid ((hw6.block _ z5).trans J5.out)
  have G6 := Lib.hid ((hw6.block _ s5).trans G5.out)
  have s6 : w.heap.size < w6.heap.size := Nat.lt_of_lt_of_le s5 hw6.size
  have D6 := Lib.hid hw6
  clear hw6
  go_wp2_with (first | (refine wpList_load_row_g (by kernel_rfl) 28 _ rfl (w.heap.size) rfl 28 _ (0, 0) _ G6.out Tryz.underlying28 rfl CSA.out ?_) | (refine wpList_load_row_g (by kernel_rfl) 28 _ rfl (w5.heap.size) rfl 28 _ (0, 0) _ J6.out Tryz.underlying28 rfl I5.out ?_))
  refine (hsm.out _ D6.out).mono ?_; rintro e w7 ⟨rfl, hw7⟩
  have BW7 := Lib.hid (bt BW5.out (bt D6.out hw7))
  have B7 := Lib.hid (bt B4.out BW7.out)
  clear hw7 hsm J5 J6 G5 G6 D6 BW5 z5 s5 s6 hst5 I5 L5 C5 hc5 B5 G4 s4
  go_wp2
  go_loopw [9, 10, 11, 12] (fun gv i _ _ wr => ∃ (k g : Nat), k ≤ n ∧ i = .int .i64 k ∧ gv = .int .i64 g ∧ g ≤ 1 ∧ Hid (g = 1 → kk < k ∧ n = 40) ∧ Hid (Below w4.heap.size w4 wr)) (fun _ i _ _ _ => n - (intOf i).toNat)
  case atStart => exact ⟨0, 0, Nat.zero_le _, rfl, rfl, by omega, (fun h => by cases h), BW7.out⟩
  case round =>
    obtain ⟨k, g, hk, rfl, rfl, hg1, HG, hbw⟩ := hrel
    have hbw0 := Lib.hid (bt B4.out hbw.out)
    by_cases hlt : k < n
    · obtain ⟨b, o, r, rfl, hbb, hx2, KR, JQ⟩ := (HT.out.below hbw0.out).elem hlt
      have hbl : b < wr.heap.size := Nat.lt_of_lt_of_le hbb hbw0.out.size
      have hi0 : (0 : Int) ≤ (k : Int) := by omega
      have hi1 : (k : Int) < (n : Int) := by omega
      have t0 : decide ((k : Int) < (n : Int)) = true := by simp; omega
      have k0 : wr.cell? ⟨b, o + k * 20, none⟩ = some (.int .i64 r.x.id) := range_cell (j := 0) KR.out rfl
      have hkx := HKK.out k r.x (jobs_at hx2.out)
      rw [hlj.out] at hkx
      have CSZ := Lib.hid (jrC_info (r := r))
      have q5 := Lib.hid (q1.out r.x.id wr hbw.out)
      obtain ⟨ix, hix⟩ : ∃ i, Hid (r.x.id = i) := ⟨_, rfl⟩
      rcases hkx with hkx | ⟨hkx, hke, hn40, hov, hok, hwt⟩
      · rw [hkx] at q5
        rw [hix.out] at k0 q5
        have HSM := Lib.hid (fun (s : JR) (hs : s.x = r.x) W (hW : Below wr.heap.size wr W) (hs2 : JrAt W W.heap.size s) v (hv : Below W.heap.size W v) => (show Calls _ _ _ _ (fun e w' => e = .returned (.bool true) ∧ Below v.heap.size v w') by
          have h := rsameJ_r (r := s) (s := r) (B := W.heap.size) (hs2.below hv) (((JQ.out.below ((hW.mono hbw0.out.size))).more (bt hbw0.out hW).size).below hv) hv.size
          rw [hs, sameJ_refl] at h
          exact h))
        obtain ⟨ds, hds⟩ : ∃ ds, Hid (jrC r = ds) := ⟨_, rfl⟩
        rw [hds.out] at KR CSZ HSM
        clear hkx hx2 JQ hix
        go_wp2_with (fail)
        refine q5.out.mono ?_; rintro e w8 ⟨r8, hx8, rfl, A8, O8, hw8⟩
        obtain ⟨W8, hs8, j8, b8, z8⟩ := boxed w8 (jrC r8).toArray
        have hst8 := Lib.hid hs8
        have J8 := Lib.hid j8
        have D8 := Lib.hid (bt hw8 b8)
        have K8 := Lib.hid (range_lower KR.out hbl D8.out)
        have I8 := Lib.hid (jrA_info r8)
        have L8 := Lib.hid (jrA_20 r8)
        have C8 := Lib.hid (jrA_all r8)
        have hsm := Lib.hid (HSM.out r8 hx8 W8 D8.out (A8.up b8))
        clear hs8 j8 b8 hw8 A8 O8 hx8 k0 HSM
        obtain ⟨c8, hc8⟩ : ∃ cs, Hid ((jrC r8).toArray = cs) := ⟨_, rfl⟩
        rw [hc8.out] at hst8 J8 I8 L8 C8 hsm ⊢
        go_wp2_with (refine wpList_store_row rfl 28 _ _ rfl (w8.heap.size) c8 rfl rfl 28 _ (heap_alloc_new w8 _) I8.out (by show 20 = _; exact L8.out) C8.out ?_; rw [hst8.out])
        refine wp_region_later (by kernel_rfl) (by kernel_rfl) ?_
        have hl_ := later_cell (W8)
        try simp only [Act.put]
        repeat (first | (go_big_quiet_want; refine quiet_load_row 28 _ rfl (w8.heap.size) rfl 28 _ (0, 0) _ (later_row J8.out) Tryz.underlying28 rfl (I8.out) ?_; go_simp; go_big_quiet_on) | (go_big_quiet_want; refine quiet_load_mid 28 _ rfl b (o + k * 20) rfl _ _ (later_range K8.out) Tryz.underlying28 rfl (CSZ.out) ?_; go_simp; go_big_quiet_on) | go_big_quiet_step (((go_at_call 17; exact later_of (hsm.out _ (Later.below _))))) | quiet_step (((go_at_call 17; exact later_of (hsm.out _ (Later.below _))))))
        refine wpQuiet_nil ?_
        intro w9 hx_
        obtain ⟨⟨w_, hb9⟩, e_⟩ := hx_
        have e2_ : w9 = w_ := e_
        clear e_
        subst e2_
        clear hl_
        go_wp2
        go_roundw
        case rel => exact ⟨k + 1, g, by omega, by simp, rfl, hg1, (fun h => ⟨by have := (HG.out h).1; omega, (HG.out h).2⟩), bt hbw.out (bt D8.out hb9)⟩
        case measure => simp [intOf]; omega
      · have hg0 : g = 0 := by
          rcases Nat.lt_or_ge g 1 with h | h
          · omega
          · have := (HG.out (by omega)).1; omega
        subst hg0
        rw [hkx] at q5
        rw [hix.out] at k0 q5
        have hov2 : (okJ r.x && endedB r.x.state) = true := by rw [hok, ended_over hok, hov]; rfl
        have HOV := Lib.hid (fun v (hv : Below wr.heap.size wr v) => over14_r (r := r) (B := w.heap.size) (JQ.out.below (hv.mono hbw0.out.size)) (bt hbw0.out hv).size)
        rw [hov2] at HOV
        have HWT := Lib.hid (fun v (hv : Below w4.heap.size w4 v) => q3.out r.x.id v hv)
        rw [hwt, hix.out] at HWT
        obtain ⟨ds, hds⟩ : ∃ ds, Hid (jrC r = ds) := ⟨_, rfl⟩
        rw [hds.out] at KR CSZ HOV
        have KE := Lib.hid (And.intro hke hn40)
        have hi9 : ds[0]? = some (.int .i64 ix) := by rw [← hds.out, ← hix.out]; rfl
        clear hkx hx2 JQ hix hov hov2 hok hwt hke hn40
        go_wp2_with (fail)
        refine q5.out.mono ?_; rintro e w8 ⟨r8, hx8, rfl, A8, O8, hw8⟩
        obtain ⟨W8, hs8, j8, b8, z8⟩ := boxed w8 (jrC r8).toArray
        have hst8 := Lib.hid hs8
        have D8 := Lib.hid (bt hw8 b8)
        have I8 := Lib.hid (jrA_info r8)
        have L8 := Lib.hid (jrA_20 r8)
        have C8 := Lib.hid (jrA_all r8)
        clear hs8 j8 b8 hw8 A8 O8 hx8 k0
        obtain ⟨c8, hc8⟩ : ∃ cs, Hid ((jrC r8).toArray = cs) := ⟨_, rfl⟩
        rw [hc8.out] at hst8 I8 L8 C8 ⊢
        go_wp2_with (refine wpList_store_row rfl 28 _ _ rfl (w8.heap.size) c8 rfl rfl 28 _ (heap_alloc_new w8 _) I8.out (by show 20 = _; exact L8.out) C8.out ?_; rw [hst8.out])
        go_quiet (fail)
        go_wp2_with (refine wpList_load_mid rfl 28 _ rfl b (o + k * 20) rfl ds _ (range_lower KR.out hbl (below_drewN D8.out _)) Tryz.underlying28 rfl CSZ.out ?_)
        refine (HOV.out _ (below_drewN D8.out _)).mono ?_; rintro e wa ⟨rfl, hwa⟩
        have Da := Lib.hid (bt (below_drewN D8.out _) hwa)
        have ka : wa.cell? ⟨b, o + k * 20, none⟩ = some (.int .i64 ix) := range_cell (j := 0) (range_lower KR.out hbl Da.out) hi9
        go_wp2_with (fail)
        refine (HWT.out _ (bt hbw.out Da.out)).mono ?_; rintro e wb ⟨rfl, hwb⟩
        go_wp2
        go_roundw
        case rel => exact ⟨k + 1, 0 + 1, by omega, by simp, by simp, by omega, (fun _ => ⟨by have := KE.out.1; omega, KE.out.2⟩), bt hbw.out (bt Da.out hwb)⟩
        case measure => simp [intOf]; omega
    · obtain rfl : k = n := by omega
      have t0 : decide ((k : Int) < (k : Int)) = false := by simp
      rcases Nat.lt_or_ge g 1 with hg0 | hg0
      · obtain rfl : g = 0 := by omega
        go_wp2_with (fail)
        refine (awake15_any _).mono ?_; rintro e wz ⟨rfl, hwz⟩
        go_wp2
        go_ret
        exact ⟨rfl, bt hbw0.out hwz⟩
      · obtain rfl : g = 1 := by omega
        have h40 := (HG.out rfl).2
        have t4 : ((k : Int) == 40) = true := by simp; omega
        have t4' : (k == 40) = true := by simp; omega
        clear h40
        go_wp2_with (fail)
        refine (awake15_any _).mono ?_; rintro e wz ⟨rfl, hwz⟩
        go_wp2
        go_ret
        exact ⟨rfl, bt hbw0.out hwz⟩
end Go.Proofs.YtghmcdfmbjabnaaGreatDoor
