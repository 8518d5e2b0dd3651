/- Layer 7: Least and Most walked. Layer 14: JobSizes walked (printed by a program of my own). -/
import Derived.Test.YtfnmmbfngniheaaGreatDoorS2
import Derived.Test.YtfnmmbfngniheaaGreatDoorQ4
import Derived.Test.YtfnmmbfngniheaaGreatDoorQ12
import Derived.Test.YtfnmmbfngniheaaGreatDoorQ9
import Derived.Deep.DeepCutAuto
import Derived.Deep.CutBlock
import Derived.Deep.RegionWith
namespace Go.Proofs.YtfnmmbfngniheaaGreatDoor
set_option linter.unusedVariables false
open Go.RowKit
def leastF (n : Int) (a : Pr) : Int := if n = 0 ∨ a.1 < n then a.1 else n
def mostF (n : Int) (a : Pr) : Int := if n < a.1 then a.1 else n
theorem fold_next {l : List Pr} {k : Nat} {x : Pr} {f : Int → Pr → Int} (h : l[k]? = some x) : (l.take (k + 1)).foldl f 0 = f ((l.take k).foldl f 0) x := by
  rw [List.take_add_one, h]
  simp [List.foldl_append]
set_option maxHeartbeats 4000000 in
set_option maxRecDepth 100000 in
theorem least_any (s : Sh) (A : Option Addr) (c B : Nat) (w : World) (hr : Reads w B 2 A s.alts.length (recs prC s.alts)) (hB : B ≤ w.heap.size) (hn : s.alts.length ≤ 100000) (hcap : s.alts.length ≤ c) :
    Calls Tryz.prog 48 #[shV s A c] w fun e w' => e = .returned (.int .i64 (leastS s)) ∧ Below w.heap.size w w' := by
  have hc := Lib.hid (fun v (hv : Below w.heap.size w v) => opts_any s A c B v (hr.below (hv.mono hB)) (Nat.le_trans hB hv.size) hn hcap)
  have hol := optS_len s hn
  have HA : Hid (leastS s = (optS s).foldl leastF 0) := rfl
  obtain ⟨R, hR⟩ : ∃ R, Hid (leastS s = R) := ⟨_, rfl⟩
  rw [hR.out] at HA ⊢
  obtain ⟨l, hl⟩ : ∃ l, optS s = l := ⟨_, rfl⟩
  rw [hl] at hc hol HA
  unfold shV at hc ⊢
  obtain ⟨m, hm⟩ : ∃ n, s.alts.length = n := ⟨_, rfl⟩
  rw [hm] at hc ⊢
  obtain ⟨kind, l0, mn, mx, wall⟩ := s
  dsimp only at hc ⊢
  clear hl hm hR hr hn hcap
  obtain ⟨N, hN⟩ : ∃ N, Hid (l.length = N) := ⟨_, rfl⟩
  rw [hN.out] at hol
  unfold RetOpt at hc
  rw [hN.out] at hc
  have HBX : Hid (Below w.heap.size w (w.alloc (.cells #[.int .i64 kind, .slice A m c, .int .i64 mn, .int .i64 mx, .int .i64 wall] 24))) := (Below.refl _ _).alloc (Nat.le_refl _) _
  go_enter Tryz.func48, Tryz.ntmps48
  go_wp2_with (fail)
  refine (hc.out _ HBX.out).mono ?_; rintro e w1 ⟨A1, c1, rfl, h1, hr1, hb1⟩
  have B1 := Lib.hid (bt HBX.out hb1)
  have HR1 := Lib.hid hr1
  clear hr1 hb1
  go_wp2
  go_loopw [3, 5, 9] (fun nv _ i wr => ∃ k : Nat, k ≤ N ∧ i = .int .i64 k ∧ (∃ v : Int, nv = .int .i64 v ∧ Hid ((l.take k).foldl leastF 0 = v)) ∧ Hid (Below w1.heap.size w1 wr)) (fun _ _ i _ => N - (intOf i).toNat)
  case atStart => exact ⟨0, Nat.zero_le _, rfl, ⟨0, rfl, rfl⟩, Below.refl _ _⟩
  case round =>
    obtain ⟨k, hk, rfl, ⟨v, rfl, HV⟩, HB⟩ := hrel
    by_cases hlt : k < N
    · obtain ⟨b, o, x, rfl, hbb, hx, c0, c1⟩ := (HR1.out.below HB.out).pr_at hlt
      have hi0 : (0 : Int) ≤ (k : Int) := by omega
      have hi1 : (k : Int) < (N : Int) := by omega
      have t0 : decide ((k : Int) < (N : Int)) = true := by simp; omega
      have bb : b < wr.heap.size := by have := HB.out.size; omega
      by_cases hv : v = 0
      · have t1 : (v == 0) = true := by simpa using hv
        have HV2 : Hid ((l.take (k + 1)).foldl leastF 0 = x.1) := by show _ = _; rw [fold_next hx.out, HV.out]; unfold leastF; rw [if_pos (.inl hv)]
        clear hv
        go_wp2
        go_roundw
        case rel => exact ⟨k + 1, by omega, by simp, ⟨x.1, rfl, HV2⟩, HB.out.alloc HB.out.size _⟩
        case measure => simp [intOf]; omega
      · have t1 : (v == 0) = false := by simpa using hv
        by_cases hxv : x.1 < v
        · have t2 : decide (x.1 < v) = true := by simpa using hxv
          have HV2 : Hid ((l.take (k + 1)).foldl leastF 0 = x.1) := by show _ = _; rw [fold_next hx.out, HV.out]; unfold leastF; rw [if_pos (.inr hxv)]
          clear hv hxv
          go_wp2
          go_roundw
          case rel => exact ⟨k + 1, by omega, by simp, ⟨x.1, rfl, HV2⟩, HB.out.alloc HB.out.size _⟩
          case measure => simp [intOf]; omega
        · have t2 : decide (x.1 < v) = false := by simpa using hxv
          have HV2 : Hid ((l.take (k + 1)).foldl leastF 0 = v) := by show _ = _; rw [fold_next hx.out, HV.out]; unfold leastF; rw [if_neg (by omega)]
          clear hv hxv
          go_wp2
          go_roundw
          case rel => exact ⟨k + 1, by omega, by simp, ⟨v, rfl, HV2⟩, HB.out.alloc HB.out.size _⟩
          case measure => simp [intOf]; omega
    · obtain rfl : k = N := by omega
      have t0 : decide ((k : Int) < (k : Int)) = false := by simp
      have HE : Hid (R = v) := by show _ = _; rw [HA.out, ← HV.out, List.take_of_length_le (Nat.le_of_eq hN.out)]
      go_wp2
      go_ret
      exact ⟨by rw [HE.out] <;> rfl, bt B1.out HB.out⟩
set_option maxHeartbeats 4000000 in
set_option maxRecDepth 100000 in
theorem most_any (s : Sh) (A : Option Addr) (c B : Nat) (w : World) (hr : Reads w B 2 A s.alts.length (recs prC s.alts)) (hB : B ≤ w.heap.size) (hn : s.alts.length ≤ 100000) (hcap : s.alts.length ≤ c) :
    Calls Tryz.prog 49 #[shV s A c] w fun e w' => e = .returned (.int .i64 (mostS s)) ∧ Below w.heap.size w w' := by
  have hc := Lib.hid (fun v (hv : Below w.heap.size w v) => opts_any s A c B v (hr.below (hv.mono hB)) (Nat.le_trans hB hv.size) hn hcap)
  have hol := optS_len s hn
  have HA : Hid (mostS s = (optS s).foldl mostF 0) := rfl
  obtain ⟨R, hR⟩ : ∃ R, Hid (mostS s = R) := ⟨_, rfl⟩
  rw [hR.out] at HA ⊢
  obtain ⟨l, hl⟩ : ∃ l, optS s = l := ⟨_, rfl⟩
  rw [hl] at hc hol HA
  unfold shV at hc ⊢
  obtain ⟨m, hm⟩ : ∃ n, s.alts.length = n := ⟨_, rfl⟩
  rw [hm] at hc ⊢
  obtain ⟨kind, l0, mn, mx, wall⟩ := s
  dsimp only at hc ⊢
  clear hl hm hR hr hn hcap
  obtain ⟨N, hN⟩ : ∃ N, Hid (l.length = N) := ⟨_, rfl⟩
  rw [hN.out] at hol
  unfold RetOpt at hc
  rw [hN.out] at hc
  have HBX : Hid (Below w.heap.size w (w.alloc (.cells #[.int .i64 kind, .slice A m c, .int .i64 mn, .int .i64 mx, .int .i64 wall] 24))) := (Below.refl _ _).alloc (Nat.le_refl _) _
  go_enter Tryz.func49, Tryz.ntmps49
  go_wp2_with (fail)
  refine (hc.out _ HBX.out).mono ?_; rintro e w1 ⟨A1, c1, rfl, h1, hr1, hb1⟩
  have B1 := Lib.hid (bt HBX.out hb1)
  have HR1 := Lib.hid hr1
  clear hr1 hb1
  go_wp2
  go_loopw [3, 5, 9] (fun nv _ i wr => ∃ k : Nat, k ≤ N ∧ i = .int .i64 k ∧ (∃ v : Int, nv = .int .i64 v ∧ Hid ((l.take k).foldl mostF 0 = v)) ∧ Hid (Below w1.heap.size w1 wr)) (fun _ _ i _ => N - (intOf i).toNat)
  case atStart => exact ⟨0, Nat.zero_le _, rfl, ⟨0, rfl, rfl⟩, Below.refl _ _⟩
  case round =>
    obtain ⟨k, hk, rfl, ⟨v, rfl, HV⟩, HB⟩ := hrel
    by_cases hlt : k < N
    · obtain ⟨b, o, x, rfl, hbb, hx, c0, c1⟩ := (HR1.out.below HB.out).pr_at hlt
      have hi0 : (0 : Int) ≤ (k : Int) := by omega
      have hi1 : (k : Int) < (N : Int) := by omega
      have t0 : decide ((k : Int) < (N : Int)) = true := by simp; omega
      have bb : b < wr.heap.size := by have := HB.out.size; omega
      by_cases hxv : v < x.1
      · have HV2 : Hid ((l.take (k + 1)).foldl mostF 0 = x.1) := by show _ = _; rw [fold_next hx.out, HV.out]; unfold mostF; rw [if_pos hxv]
        have t2 : decide (v < x.1) = true := by simpa using hxv
        have t3 : decide (x.1 < v) = false := by simp; omega
        go_wp2
        go_roundw
        case rel => exact ⟨k + 1, by omega, by simp, ⟨_, rfl, by show _ = _; rw [HV2.out]; first | rfl | omega⟩, HB.out.alloc HB.out.size _⟩
        case measure => simp [intOf]; omega
      · have HV2 : Hid ((l.take (k + 1)).foldl mostF 0 = v) := by show _ = _; rw [fold_next hx.out, HV.out]; unfold mostF; rw [if_neg hxv]
        have t2 : decide (v < x.1) = false := by simpa using hxv
        go_wp2
        go_roundw
        case rel => exact ⟨k + 1, by omega, by simp, ⟨_, rfl, by show _ = _; rw [HV2.out]; first | rfl | omega⟩, HB.out.alloc HB.out.size _⟩
        case measure => simp [intOf]; omega
    · obtain rfl : k = N := by omega
      have t0 : decide ((k : Int) < (k : Int)) = false := by simp
      have HE : Hid (R = v) := by show _ = _; rw [HA.out, ← HV.out, List.take_of_length_le (Nat.le_of_eq hN.out)]
      go_wp2
      go_ret
      exact ⟨by rw [HE.out] <;> rfl, bt B1.out HB.out⟩
end Go.Proofs.YtfnmmbfngniheaaGreatDoor

namespace Go.Proofs.YtfnmmbfngniheaaGreatDoor
set_option linter.unusedVariables false
open Go.RowKit
theorem run_wrap {x : Jb} (hx : okJ x = true) (h : x.state = 2) : IntKind.i64.wrap (x.limit - x.start) = x.limit - x.start := by
  obtain ⟨a, b, c, d, e, f, g, h, i⟩ := of_run (st_r h ((okJ_iff x).1 hx).2.2.2.2.2.2)
  have := of_inB c
  have := of_inB f
  exact wrap_small (by omega) (by omega)
set_option linter.unusedSimpArgs false in
set_option maxHeartbeats 16000000 in
set_option maxRecDepth 100000 in
theorem jobSizes_walk (x : Jb) (A A2 : Option Addr) (c c2 : Nat) (l : List AR) (L : Option Addr) (n m : Nat) (w : World) (hx : JbIn w x A c A2 c2) (hr : Reads w w.heap.size 22 L n (recs arC l)) (hn : n ≤ maxLen) (hl : ∀ r ∈ l, CmIn w r.a.cmd r.D r.d r.D2 r.d2 ∧ r.a.set < M64) :
    Calls Tryz.prog 10 #[jbV x A c A2 c2, .slice L n m] w fun e w' => e = .returned (.bool true) ∧ Below w.heap.size w w' := by
  have f1 := Lib.hid (fun v => few14_any x A A2 c c2 v)
  have f2 := Lib.hid (fun v (hv : Below w.heap.size w v) => fewL_any l L n m w.heap.size v (hr.below hv) hv.size hn)
  have X := fun h => Lib.hid (hx.at_ h)
  have hlen := hr.rec_len arC_len (by omega)
  have HRd := Lib.hid hr
  have HL := Lib.hid hl
  clear hx hr hl
  rw [jbV_is] at f1 ⊢
  have HS := Lib.hid (jbA_size x A c A2 c2)
  have HJ0 : Hid ((w.alloc (.cells (jbA x A c A2 c2) 30)).heap[w.heap.size]? = some (.cells (jbA x A c A2 c2) 30 (0, 0))) := heap_alloc_new w _
  cases b1 : fewJ x
  case false =>
    rw [b1] at f1
    clear b1 X
    go_enter Tryz.func10, Tryz.ntmps10
    go_wp2_with (first
      | (refine wpList_load_row rfl 30 _ rfl (w.heap.size) rfl 30 _ (0, 0) _ HJ0.out Tryz.underlying30 rfl (info30 HS.out) ?_)
      | (go_at_call 16; refine (f1.out _).mono ?_; rintro e w1 ⟨rfl, hw1⟩; obtain ⟨j1, hb1, s1⟩ := box_row hw1; have J1 := Lib.hid j1; have B1 := Lib.hid hb1; clear j1 hb1 hw1)
      | (go_at_call 17; refine (awake14_any _).mono ?_; rintro e w4 ⟨rfl, hw4⟩))
    go_ret
    exact ⟨rfl, bt B1.out hw4⟩
  rw [b1] at f1
  have X1 := X b1
  clear b1 X
  cases b2 : fewL l
  case false =>
    rw [b2] at f2
    clear b2 X1
    go_enter Tryz.func10, Tryz.ntmps10
    go_wp2_with (first
      | (refine wpList_load_row rfl 30 _ rfl (w.heap.size) rfl 30 _ (0, 0) _ HJ0.out Tryz.underlying30 rfl (info30 HS.out) ?_)
      | (go_at_call 16; refine (f1.out _).mono ?_; rintro e w1 ⟨rfl, hw1⟩; obtain ⟨j1, hb1, s1⟩ := box_row hw1; have J1 := Lib.hid j1; have B1 := Lib.hid hb1; clear j1 hb1 hw1)
      | (go_at_call 46; refine (f2.out _ B1.out).mono ?_; rintro e w2 ⟨rfl, hw2⟩; have J2 := Lib.hid ((hw2.block _ s1).trans J1.out); have B2 := Lib.hid (bt B1.out hw2); have s2 : w.heap.size < w2.heap.size := (by have := hw2.size; omega); clear hw2)
      | (go_at_call 17; refine (awake14_any _).mono ?_; rintro e w4 ⟨rfl, hw4⟩))
    go_ret
    exact ⟨rfl, bt B2.out hw4⟩
  rw [b2] at f2
  have HFL := Lib.hid b2
  clear b2
  have hck := Lib.hid (fun v (hv : Below w.heap.size w v) => jcheck_any x A A2 c c2 w.heap.size v (X1.out.1.below hv) hv.size X1.out.2)
  rw [jbV_is] at hck
  cases b3 : okJ x
  case false =>
    rw [jobE_f b3] at hck
    clear b3
    go_enter Tryz.func10, Tryz.ntmps10
    go_wp2_with (first
      | (refine wpList_load_row rfl 30 _ rfl (w.heap.size) rfl 30 _ (0, 0) _ HJ0.out Tryz.underlying30 rfl (info30 HS.out) ?_)
      | (go_at_call 16; refine (f1.out _).mono ?_; rintro e w1 ⟨rfl, hw1⟩; obtain ⟨j1, hb1, s1⟩ := box_row hw1; have J1 := Lib.hid j1; have B1 := Lib.hid hb1; clear j1 hb1 hw1)
      | (go_at_call 46; refine (f2.out _ B1.out).mono ?_; rintro e w2 ⟨rfl, hw2⟩; have J2 := Lib.hid ((hw2.block _ s1).trans J1.out); have B2 := Lib.hid (bt B1.out hw2); have s2 : w.heap.size < w2.heap.size := (by have := hw2.size; omega); clear hw2)
      | (refine wpList_load_row_g (by kernel_rfl) 30 _ rfl (w.heap.size) rfl 30 _ (0, 0) _ J2.out Tryz.underlying30 rfl (info30 HS.out) ?_)
      | (go_at_call 21; refine (hck.out _ B2.out).mono ?_; rintro e w3 ⟨rfl, hw3⟩; have J3 := Lib.hid ((hw3.block _ s2).trans J2.out); have B3 := Lib.hid (bt B2.out hw3); have s3 : w.heap.size < w3.heap.size := (by have := hw3.size; omega); clear hw3)
      | (go_at_call 17; refine (awake14_any _).mono ?_; rintro e w4 ⟨rfl, hw4⟩))
    go_ret
    exact ⟨rfl, bt B3.out hw4⟩
  rw [jobE_t b3] at hck
  have HK := Lib.hid b3
  clear b3
  go_enter Tryz.func10, Tryz.ntmps10
  go_wp2_with (first
    | (refine wpList_load_row rfl 30 _ rfl (w.heap.size) rfl 30 _ (0, 0) _ HJ0.out Tryz.underlying30 rfl (info30 HS.out) ?_)
    | (go_at_call 16; refine (f1.out _).mono ?_; rintro e w1 ⟨rfl, hw1⟩; obtain ⟨j1, hb1, s1⟩ := box_row hw1; have J1 := Lib.hid j1; have B1 := Lib.hid hb1; clear j1 hb1 hw1)
    | (go_at_call 46; refine (f2.out _ B1.out).mono ?_; rintro e w2 ⟨rfl, hw2⟩; have J2 := Lib.hid ((hw2.block _ s1).trans J1.out); have B2 := Lib.hid (bt B1.out hw2); have s2 : w.heap.size < w2.heap.size := (by have := hw2.size; omega); clear hw2)
    | (refine wpList_load_row_g (by kernel_rfl) 30 _ rfl (w.heap.size) rfl 30 _ (0, 0) _ J2.out Tryz.underlying30 rfl (info30 HS.out) ?_)
    | (go_at_call 21; refine (hck.out _ B2.out).mono ?_; rintro e w3 ⟨rfl, hw3⟩; have J3 := Lib.hid ((hw3.block _ s2).trans J2.out); have B3 := Lib.hid (bt B2.out hw3); have s3 : w.heap.size < w3.heap.size := (by have := hw3.size; omega); clear hw3))
  have AT3 := Lib.hid (X1.out.1.below B3.out)
  have AW3 := Lib.hid (X1.out.1.away_of (Nat.le_refl _))
  have SZ3 := Lib.hid X1.out.2
  clear J1 J2 B1 B2 X1 hck f1 f2 HJ0
  have hm2 : n ≤ 200 := by have h := HFL.out; unfold fewL at h; rw [hlen.out] at h; simp only [Bool.and_eq_true, decide_eq_true_eq] at h; exact h.1
  go_loopw [5] (fun i wr => ∃ (k : Nat) (y : Jb) (E E2 : Option Addr) (e e2 : Nat), k ≤ n ∧ i = .int .i64 k ∧ Hid (wr.heap[w.heap.size]? = some (.cells (jbA y E e E2 e2) 30 (0, 0))) ∧ Hid (JbAt wr wr.heap.size y E e E2 e2) ∧ Hid (JbAway w.heap.size y E E2) ∧ Hid (okJ y = true) ∧ Hid (JbSz y) ∧ Hid (Below w.heap.size w wr)) (fun i _ => n - (intOf i).toNat)
  case atStart => exact ⟨0, x, A, A2, c, c2, Nat.zero_le _, rfl, J3, AT3.out.more B3.out.size, AW3, HK, SZ3, B3⟩
  case round =>
    obtain ⟨k, y, E, E2, ee, e2, hk, rfl, JR, ATR, AWR, OKR, SZR, BR⟩ := hrel
    clear J3 AT3 AW3 HK SZ3 B3 s3
    have HT := Lib.hid (jbA_size y E ee E2 e2)
    have sr : w.heap.size < wr.heap.size := (Array.getElem?_eq_some_iff.1 JR.out).1
    by_cases hlt : k < n
    · obtain ⟨b, o, r, rfl, hbb, hr, hc⟩ := Reads.rec_at arC_len (by omega) HRd.out hlt
      have KR := Lib.hid (range_below (act_row hc) hbb BR.out)
      clear hc
      have hi0 : (0 : Int) ≤ (k : Int) := by omega
      have hi1 : (k : Int) < (n : Int) := by omega
      have t0 : decide ((k : Int) < (n : Int)) = true := by simp; omega
      have HA := Lib.hid (CmIn.at_ (HL.out r (List.mem_of_getElem? hr.out)).1 (fewL_at HFL.out hr.out))
      have HM := Lib.hid (HL.out r (List.mem_of_getElem? hr.out)).2
      have hdo := Lib.hid (fun v (hv : Below wr.heap.size wr v) => do_any y r.a E E2 r.D r.D2 ee e2 r.d r.d2 wr.heap.size v (ATR.out.below hv) (((HA.out.1.below BR.out).more BR.out.size).below hv) hv.size SZR.out HA.out.2 HM.out)
      rw [jbV_is] at hdo
      unfold acV acA at hdo
      have CSZ := Lib.hid (arC_info (r := r))
      obtain ⟨av, has⟩ : ∃ av, Hid (arC r = av) := ⟨_, rfl⟩
      rw [show acC r.a r.D r.d r.D2 r.d2 = av from has.out] at hdo
      rw [has.out] at KR CSZ
      obtain ⟨Q, HQ⟩ : ∃ Q, Hid (doJ y r.a = Q) := ⟨_, rfl⟩
      rw [HQ.out] at hdo
      unfold RetJX at hdo
      obtain ⟨ys, hys⟩ : ∃ ys, Hid (jbA y E ee E2 e2 = ys) := ⟨_, rfl⟩
      rw [hys.out] at JR HT hdo
      obtain ⟨qj, qe⟩ := Q
      dsimp only at hdo
      go_upto_region 6 with (fail)
      go_cut [6, 7] (fun p er wx => ∃ (g : Nat) (F F2 : Option Addr) (f f2 : Nat), p = .pointer (some ⟨g, 0, none⟩) ∧ er = .int .i64 qe ∧ Hid (wx.heap[g]? = some (.cells (jbA qj F f F2 f2) 30 (0, 0))) ∧ Hid (JbAt wx wx.heap.size qj F f F2 f2) ∧ Hid (JbOff wr.heap.size qj F F2) ∧ wr.heap.size ≤ g ∧ Hid (Below wr.heap.size wr wx))
      case first =>
        refine wp_region_held_drew (S := (fun w' => (∀ b o, b < wr.heap.size → w'.cell? ⟨b, o, none⟩ = wr.cell? ⟨b, o, none⟩) ∧ Below wr.heap.size wr w')) (by kernel_rfl) ?_ (fun hHeld => ?_)
        · (try dsimp only); (first | assumption | exact hk_drew | exact hk_call (by assumption) (by assumption) | (refine hk_alloc (by assumption) _) | (refine hk_row (by assumption) (by first | exact Nat.le_refl _ | exact hk_size (by assumption) | omega | (simp; done) | (simp; omega)) _) | (refine hk_set (by assumption) (by first | exact Nat.le_refl _ | exact hk_size (by assumption) | omega | (simp; done) | (simp; omega)) _))
        first
          | (refine wpAnyH_take (i := 0) (oi := ⟨_, _, _, _, _, _⟩) (v := (.agg ys)) rfl (by kernel_rfl) (by kernel_rfl) (by kernel_rfl) (fun _ _ _ h => h) (Or.inl ⟨by rfl, yl_row 30 _ (by rfl) (w.heap.size) (by rfl) 30 _ (0, 0) _ (fun w_ h_ => hk_block h_ JR.out) Tryz.underlying30 rfl (info30 HT.out)⟩) (by assumption) ?_)
          | (refine wpAnyH_take (i := 0) (oi := ⟨_, _, _, _, _, _⟩) (v := (.agg av.toArray)) rfl (by kernel_rfl) (by kernel_rfl) (by kernel_rfl) (fun _ _ _ h => h) (Or.inl ⟨by rfl, yl_mid 63 _ (by rfl) b (o + k * 22) (by rfl) av _ (fun w_ h_ => hk_range h_ KR.out) Tryz.underlying63 rfl CSZ.out⟩) (by assumption) ?_)
          | (refine wpAnyH_take (i := 0) (oi := ⟨_, _, _, _, _, _⟩) (v := ?v_1) rfl (by kernel_rfl) (by kernel_rfl) (by kernel_rfl) (fun _ _ _ h => h) (Or.inl ⟨by rfl, ?hy_1⟩) (by assumption) ?r_1; case hy_1 => (intro w_ hS_; (try dsimp only at hS_); go_simp; try with_reducible rfl))
        try simp only [Act.put, List.setIfInBounds_toArray, List.set_cons_zero, List.set_cons_succ]
        refine wpAnyH_take (i := 1) (oi := ⟨_, _, _, _, _, _⟩) (v := ?v_2) rfl (by kernel_rfl) (by kernel_rfl) (by kernel_rfl) (fun _ _ _ h => h) (Or.inl ⟨by rfl, ?hy_2⟩) (by assumption) ?r_2
        case hy_2 => (intro w_ hS_; (try dsimp only at hS_); go_simp; try with_reducible rfl)
        try simp only [Act.put, List.setIfInBounds_toArray, List.set_cons_zero, List.set_cons_succ]
        refine wpAnyH_take (i := 2) (oi := ⟨_, _, _, _, _, _⟩) (v := ?v_3) rfl (by kernel_rfl) (by kernel_rfl) (by kernel_rfl) (fun _ _ _ h => h) (Or.inl ⟨by rfl, ?hy_3⟩) (by assumption) ?r_3
        case hy_3 => (intro w_ hS_; (try dsimp only at hS_); go_simp; try with_reducible rfl)
        try simp only [Act.put, List.setIfInBounds_toArray, List.set_cons_zero, List.set_cons_succ]
        refine wpAnyH_take (i := 3) (oi := ⟨_, _, _, _, _, _⟩) (v := ?v_4) rfl (by kernel_rfl) (by kernel_rfl) (by kernel_rfl) (fun _ _ _ h => h) (Or.inl ⟨by rfl, ?hy_4⟩) (by assumption) ?r_4
        case hy_4 => (intro w_ hS_; (try dsimp only at hS_); go_simp; try with_reducible rfl)
        try simp only [Act.put, List.setIfInBounds_toArray, List.set_cons_zero, List.set_cons_succ]
        first
          | (refine wpAnyH_take (i := 4) (oi := ⟨_, _, _, _, _, _⟩) (v := (.agg ys)) rfl (by kernel_rfl) (by kernel_rfl) (by kernel_rfl) (fun _ _ _ h => h) (Or.inl ⟨by rfl, yl_row 30 _ (by rfl) (w.heap.size) (by rfl) 30 _ (0, 0) _ (fun w_ h_ => hk_block h_ JR.out) Tryz.underlying30 rfl (info30 HT.out)⟩) (by assumption) ?_)
          | (refine wpAnyH_take (i := 4) (oi := ⟨_, _, _, _, _, _⟩) (v := (.agg av.toArray)) rfl (by kernel_rfl) (by kernel_rfl) (by kernel_rfl) (fun _ _ _ h => h) (Or.inl ⟨by rfl, yl_mid 63 _ (by rfl) b (o + k * 22) (by rfl) av _ (fun w_ h_ => hk_range h_ KR.out) Tryz.underlying63 rfl CSZ.out⟩) (by assumption) ?_)
          | (refine wpAnyH_take (i := 4) (oi := ⟨_, _, _, _, _, _⟩) (v := ?v_5) rfl (by kernel_rfl) (by kernel_rfl) (by kernel_rfl) (fun _ _ _ h => h) (Or.inl ⟨by rfl, ?hy_5⟩) (by assumption) ?r_5; case hy_5 => (intro w_ hS_; (try dsimp only at hS_); go_simp; try with_reducible rfl))
        try simp only [Act.put, List.setIfInBounds_toArray, List.set_cons_zero, List.set_cons_succ]
        refine wpAnyH_ready (rs := [5, 9]) (by kernel_rfl) (by simp) ?_
        refine AllReadyH.cons (o := ⟨_, _, _, _, _, _⟩) rfl (fun K hK => ?_) ?_
        · go_simp
          (first | (go_at_call 44; refine (hdo.out _ (And.right (by assumption))).mono ?_; rintro e w5 ⟨F, f, F2, f2, rfl, hat, hoff, hb5⟩))
          try go_wp2_with (fail)
          refine hK.out _ _ ?_ (fun hHeld => ?_)
          · (try dsimp only); (first | assumption | exact hk_drew | exact hk_call (by assumption) (by assumption) | (refine hk_alloc (by assumption) _) | (refine hk_row (by assumption) (by first | exact Nat.le_refl _ | exact hk_size (by assumption) | omega | (simp; done) | (simp; omega)) _) | (refine hk_set (by assumption) (by first | exact Nat.le_refl _ | exact hk_size (by assumption) | omega | (simp; done) | (simp; omega)) _))
          clear hK K
          try simp only [Act.put, List.setIfInBounds_toArray, List.set_cons_zero, List.set_cons_succ]
          refine wpAnyH_take (i := 6) (oi := ⟨_, _, _, _, _, _⟩) (v := ?v_6) rfl (by kernel_rfl) (by kernel_rfl) (by kernel_rfl) (fun _ _ _ h => h) (Or.inl ⟨by rfl, ?hy_6⟩) (by assumption) ?r_6
          case hy_6 => (intro w_ hS_; (try dsimp only at hS_); go_simp; try with_reducible rfl)
          try simp only [Act.put, List.setIfInBounds_toArray, List.set_cons_zero, List.set_cons_succ]
          refine wpAnyH_take (i := 7) (oi := ⟨_, _, _, _, _, _⟩) (v := ?v_7) rfl (by kernel_rfl) (by kernel_rfl) (by kernel_rfl) (fun _ _ _ h => h) (Or.inl ⟨by rfl, ?hy_7⟩) (by assumption) ?r_7
          case hy_7 => (intro w_ hS_; (try dsimp only at hS_); go_simp; try with_reducible rfl)
          try simp only [Act.put, List.setIfInBounds_toArray, List.set_cons_zero, List.set_cons_succ]
          refine wpAnyH_take (i := 8) (oi := ⟨_, _, _, _, _, _⟩) (v := ?v_8) rfl (by kernel_rfl) (by kernel_rfl) (by kernel_rfl) (fun _ _ _ h => h) (Or.inl ⟨by rfl, ?hy_8⟩) (by assumption) ?r_8
          case hy_8 => (intro w_ hS_; (try dsimp only at hS_); go_simp; try with_reducible rfl)
          try simp only [Act.put, List.setIfInBounds_toArray, List.set_cons_zero, List.set_cons_succ]
          refine wpAnyH_ready (rs := [9]) (by kernel_rfl) (by simp) ?_
          refine AllReadyH.cons (o := ⟨_, _, _, _, _, _⟩) rfl (fun K hK => ?_) AllReadyH.nil
          go_simp
          refine hK.out _ _ ?_ (fun hHeld => ?_)
          · (try dsimp only); (first | assumption | exact hk_drew | exact hk_call (by assumption) (by assumption) | (refine hk_alloc (by assumption) _) | (refine hk_row (by assumption) (by first | exact Nat.le_refl _ | exact hk_size (by assumption) | omega | (simp; done) | (simp; omega)) _) | (refine hk_set (by assumption) (by first | exact Nat.le_refl _ | exact hk_size (by assumption) | omega | (simp; done) | (simp; omega)) _))
          clear hK K
          try simp only [Act.put, List.setIfInBounds_toArray, List.set_cons_zero, List.set_cons_succ]
          refine wpAnyH_ready (rs := [10]) (by kernel_rfl) (by simp) ?_
          refine AllReadyH.cons (o := ⟨_, _, _, _, _, _⟩) rfl (fun K hK => ?_) AllReadyH.nil
          first | (rw [if_pos (by rfl)]; first | (refine wp_store_row 30 _ _ rfl _ (jbA qj F f F2 f2) rfl rfl 30 _ (heap_alloc_new _ _) (info30 (jbA_size _ _ _ _ _)) rfl (jbA_one _ _ _ _ _) ?_) | (refine wp_store_row 30 _ _ rfl _ (jbA qj F f F2 f2) rfl rfl 30 _ ((hb5.block _ (by simp)).trans (heap_alloc_new _ _)) (info30 (jbA_size _ _ _ _ _)) rfl (jbA_one _ _ _ _ _) ?_)) | go_simp
          refine hK.out _ _ ?_ (fun hHeld => ?_)
          · (try dsimp only); (first | assumption | exact hk_drew | exact hk_call (by assumption) (by assumption) | (refine hk_alloc (by assumption) _) | (refine hk_row (by assumption) (by first | exact Nat.le_refl _ | exact hk_size (by assumption) | omega | (simp; done) | (simp; omega)) _) | (refine hk_set (by assumption) (by first | exact Nat.le_refl _ | exact hk_size (by assumption) | omega | (simp; done) | (simp; omega)) _))
          clear hK K
          try simp only [Act.put, List.setIfInBounds_toArray, List.set_cons_zero, List.set_cons_succ]
          refine wpAnyH_take (i := 11) (oi := ⟨_, _, _, _, _, _⟩) (v := ?v_9) rfl (by kernel_rfl) (by kernel_rfl) (by kernel_rfl) (fun _ _ _ h => h) (Or.inl ⟨by rfl, ?hy_9⟩) (by assumption) ?r_9
          case hy_9 => (intro w_ hS_; (try dsimp only at hS_); go_simp; try with_reducible rfl)
          try simp only [Act.put, List.setIfInBounds_toArray, List.set_cons_zero, List.set_cons_succ]
          refine wpAnyH_done (by kernel_rfl) ?_ _
          (go_wp2_with (fail); go_meet; first | exact ⟨_, F, F2, f, f2, rfl, rfl, var_late (below_drew (Below.refl _ _)) hb5 hat hoff⟩ | exact ⟨_, F, F2, f, f2, rfl, rfl, var_early (below_drew bx0) (heap_alloc_new _ _) (Nat.le_refl _) hb5 hat hoff⟩)
        refine AllReadyH.cons (o := ⟨_, _, _, _, _, _⟩) rfl (fun K hK => ?_) AllReadyH.nil
        go_simp
        refine hK.out _ _ ?_ (fun hHeld => ?_)
        · (try dsimp only); (first | assumption | exact hk_drew | exact hk_call (by assumption) (by assumption) | (refine hk_alloc (by assumption) _) | (refine hk_row (by assumption) (by first | exact Nat.le_refl _ | exact hk_size (by assumption) | omega | (simp; done) | (simp; omega)) _) | (refine hk_set (by assumption) (by first | exact Nat.le_refl _ | exact hk_size (by assumption) | omega | (simp; done) | (simp; omega)) _))
        clear hK K
        try simp only [Act.put, List.setIfInBounds_toArray, List.set_cons_zero, List.set_cons_succ]
        refine wpAnyH_ready (rs := [5]) (by kernel_rfl) (by simp) ?_
        refine AllReadyH.cons (o := ⟨_, _, _, _, _, _⟩) rfl (fun K hK => ?_) AllReadyH.nil
        go_simp
        (first | (go_at_call 44; refine (hdo.out _ (And.right (by assumption))).mono ?_; rintro e w5 ⟨F, f, F2, f2, rfl, hat, hoff, hb5⟩))
        try go_wp2_with (fail)
        refine hK.out _ _ ?_ (fun hHeld => ?_)
        · (try dsimp only); (first | assumption | exact hk_drew | exact hk_call (by assumption) (by assumption) | (refine hk_alloc (by assumption) _) | (refine hk_row (by assumption) (by first | exact Nat.le_refl _ | exact hk_size (by assumption) | omega | (simp; done) | (simp; omega)) _) | (refine hk_set (by assumption) (by first | exact Nat.le_refl _ | exact hk_size (by assumption) | omega | (simp; done) | (simp; omega)) _))
        clear hK K
        try simp only [Act.put, List.setIfInBounds_toArray, List.set_cons_zero, List.set_cons_succ]
        refine wpAnyH_take (i := 6) (oi := ⟨_, _, _, _, _, _⟩) (v := ?v_10) rfl (by kernel_rfl) (by kernel_rfl) (by kernel_rfl) (fun _ _ _ h => h) (Or.inl ⟨by rfl, ?hy_10⟩) (by assumption) ?r_10
        case hy_10 => (intro w_ hS_; (try dsimp only at hS_); go_simp; try with_reducible rfl)
        try simp only [Act.put, List.setIfInBounds_toArray, List.set_cons_zero, List.set_cons_succ]
        refine wpAnyH_take (i := 7) (oi := ⟨_, _, _, _, _, _⟩) (v := ?v_11) rfl (by kernel_rfl) (by kernel_rfl) (by kernel_rfl) (fun _ _ _ h => h) (Or.inl ⟨by rfl, ?hy_11⟩) (by assumption) ?r_11
        case hy_11 => (intro w_ hS_; (try dsimp only at hS_); go_simp; try with_reducible rfl)
        try simp only [Act.put, List.setIfInBounds_toArray, List.set_cons_zero, List.set_cons_succ]
        refine wpAnyH_take (i := 8) (oi := ⟨_, _, _, _, _, _⟩) (v := ?v_12) rfl (by kernel_rfl) (by kernel_rfl) (by kernel_rfl) (fun _ _ _ h => h) (Or.inl ⟨by rfl, ?hy_12⟩) (by assumption) ?r_12
        case hy_12 => (intro w_ hS_; (try dsimp only at hS_); go_simp; try with_reducible rfl)
        try simp only [Act.put, List.setIfInBounds_toArray, List.set_cons_zero, List.set_cons_succ]
        refine wpAnyH_ready (rs := [10]) (by kernel_rfl) (by simp) ?_
        refine AllReadyH.cons (o := ⟨_, _, _, _, _, _⟩) rfl (fun K hK => ?_) AllReadyH.nil
        first | (rw [if_pos (by rfl)]; first | (refine wp_store_row 30 _ _ rfl _ (jbA qj F f F2 f2) rfl rfl 30 _ (heap_alloc_new _ _) (info30 (jbA_size _ _ _ _ _)) rfl (jbA_one _ _ _ _ _) ?_) | (refine wp_store_row 30 _ _ rfl _ (jbA qj F f F2 f2) rfl rfl 30 _ ((hb5.block _ (by simp)).trans (heap_alloc_new _ _)) (info30 (jbA_size _ _ _ _ _)) rfl (jbA_one _ _ _ _ _) ?_)) | go_simp
        refine hK.out _ _ ?_ (fun hHeld => ?_)
        · (try dsimp only); (first | assumption | exact hk_drew | exact hk_call (by assumption) (by assumption) | (refine hk_alloc (by assumption) _) | (refine hk_row (by assumption) (by first | exact Nat.le_refl _ | exact hk_size (by assumption) | omega | (simp; done) | (simp; omega)) _) | (refine hk_set (by assumption) (by first | exact Nat.le_refl _ | exact hk_size (by assumption) | omega | (simp; done) | (simp; omega)) _))
        clear hK K
        try simp only [Act.put, List.setIfInBounds_toArray, List.set_cons_zero, List.set_cons_succ]
        refine wpAnyH_take (i := 11) (oi := ⟨_, _, _, _, _, _⟩) (v := ?v_13) rfl (by kernel_rfl) (by kernel_rfl) (by kernel_rfl) (fun _ _ _ h => h) (Or.inl ⟨by rfl, ?hy_13⟩) (by assumption) ?r_13
        case hy_13 => (intro w_ hS_; (try dsimp only at hS_); go_simp; try with_reducible rfl)
        try simp only [Act.put, List.setIfInBounds_toArray, List.set_cons_zero, List.set_cons_succ]
        refine wpAnyH_done (by kernel_rfl) ?_ _
        (go_wp2_with (fail); go_meet; first | exact ⟨_, F, F2, f, f2, rfl, rfl, var_late (below_drew (Below.refl _ _)) hb5 hat hoff⟩ | exact ⟨_, F, F2, f, f2, rfl, rfl, var_early (below_drew bx0) (heap_alloc_new _ _) (Nat.le_refl _) hb5 hat hoff⟩)
      case rest =>
        obtain ⟨g, F, F2, f, f2, rfl, rfl, JG, ATG, OFG, hg, BC⟩ := hcut
        obtain ⟨w7, hw7⟩ : ∃ w7 : World, w7 = wc := ⟨_, rfl⟩
        subst hw7
        have s7 : w.heap.size < w7.heap.size := by have := BC.out.size; omega
        have sg : g < w7.heap.size := (Array.getElem?_eq_some_iff.1 JG.out).1
        have JY := Lib.hid ((BC.out.block _ sr).trans JR.out)
        have ATY := Lib.hid ((ATR.out.below BC.out).more BC.out.size)
        have BW := Lib.hid (BR.out.trans (BC.out.mono BR.out.size))
        have gw : g ≠ w.heap.size := by omega
        clear KR CSZ hdo has
        by_cases hm : actM y r.a = 0
        case neg =>
          have e1 : qj = noJ := congrArg Prod.fst (HQ.out.symm.trans (doJ_bad OKR.out hm))
          have e2 : qe = actM y r.a := congrArg Prod.snd (HQ.out.symm.trans (doJ_bad OKR.out hm))
          have t7 : (qe != 0) = true := by rw [e2]; simpa using hm
          clear HQ e2 hm
          subst e1
          go_wp2
          go_roundw
          case rel =>
            have JY8 := JY.out
            rw [← hys.out] at JY8
            exact ⟨k + 1, y, E, E2, ee, e2, by omega, by simp, JY8, ATY, AWR, OKR, SZR, BW⟩
          case measure => simp [intOf]; omega
        case pos =>
          have e1 : qj = actD y r.a := congrArg Prod.fst (HQ.out.symm.trans (doJ_good OKR.out hm))
          have e2 : qe = 0 := congrArg Prod.snd (HQ.out.symm.trans (doJ_good OKR.out hm))
          clear HQ
          subst e1 e2
          have OKZ := Lib.hid (act_ok OKR.out hm)
          have LF := act_life OKR.out hm
          have SZZ := Lib.hid (act_sz SZR.out HM.out)
          have AZ : y.state = 2 → (actD y r.a).state = 2 → y.shape.kind ≠ 3 → (memL y.nodes).length = (memL (actD y r.a).nodes).length := act_size OKR.out hm
          obtain ⟨z, hzz⟩ : ∃ z, Hid (actD y r.a = z) := ⟨_, rfl⟩
          rw [hzz.out] at JG ATG OFG OKZ LF SZZ AZ
          clear hzz hm
          obtain ⟨gs, hgs⟩ : ∃ gs, Hid (jbA z F f F2 f2 = gs) := ⟨_, rfl⟩
          have HGS := Lib.hid (jbA_size z F f F2 f2)
          have HG1 := Lib.hid (jbA_one z F f F2 f2)
          rw [hgs.out] at JG HGS HG1
          have cy := Lib.hid (fun v => cnt09_any y.nodes v SZR.out.2)
          have cz := Lib.hid (fun v => cnt09_any z.nodes v SZZ.out.2)
          have hle := Lib.hid (fun v (hv : Below w7.heap.size w7 v) => least_any z.shape F f w7.heap.size v (ATG.out.1.below hv) hv.size ATG.out.2.2.1 ATG.out.2.2.2.2.1)
          have hmo := Lib.hid (fun v (hv : Below w7.heap.size w7 v) => most_any z.shape F f w7.heap.size v (ATG.out.1.below hv) hv.size ATG.out.2.2.1 ATG.out.2.2.2.2.1)
          have RS := fun h => Lib.hid (run_sizes OKZ.out h)
          have RW := fun h => Lib.hid (run_wrap OKZ.out h)
          unfold shV at hle hmo
          obtain ⟨na, HNA⟩ : ∃ q, Hid (z.shape.alts.length = q) := ⟨_, rfl⟩
          obtain ⟨ny, hny⟩ : ∃ q : Nat, (memL y.nodes).length = q := ⟨_, rfl⟩
          obtain ⟨nz, hnz⟩ : ∃ q : Nat, (memL z.nodes).length = q := ⟨_, rfl⟩
          obtain ⟨lo, hlo⟩ : ∃ q, leastS z.shape = q := ⟨_, rfl⟩
          obtain ⟨hi, hhi⟩ : ∃ q, mostS z.shape = q := ⟨_, rfl⟩
          rw [HNA.out] at hle hmo
          rw [hny] at cy AZ
          rw [hnz] at cz AZ RS
          rw [hlo] at hle RS
          rw [hhi] at hmo RS
          clear hny hnz hlo hhi hi0 HL LF
          have y18 : w7.cell? ⟨w.heap.size, 18, none⟩ = some (.int .u64 y.nodes) := (cell_of_row w7 _ 18 _ _ _ JY.out).trans (by rw [← hys.out]; rfl)
          have z18 : w7.cell? ⟨g, 18, none⟩ = some (.int .u64 z.nodes) := (cell_of_row w7 _ 18 _ _ _ JG.out).trans (by rw [← hgs.out]; rfl)
          go_upto_region 8 with (fail)
          refine wp_region_later (by kernel_rfl) (by kernel_rfl) ?_
          have hl_ := later_cell (w7)
          repeat (first | go_big_quiet_step (((first | (go_at_call 47; exact later_same (cy.out _)) | (go_at_call 47; exact later_same (cz.out _))))) | quiet_step (((first | (go_at_call 47; exact later_same (cy.out _)) | (go_at_call 47; exact later_same (cz.out _))))))
          refine wpQuiet_nil ?_
          intro w9 hx_
          obtain ⟨⟨w_, hb9⟩, e_⟩ := hx_
          have e2_ : w9 = w_ := e_
          clear e_
          subst e2_
          clear hl_
          have JG9 := Lib.hid ((hb9.block _ sg).trans JG.out)
          have JY9 := Lib.hid ((hb9.block _ s7).trans JY.out)
          clear y18 z18
          by_cases h2 : z.state = 2
          case neg =>
            have n2 : (z.state == 2) = false := by simpa using h2
            clear RS RW AZ hle hmo cy cz h2
            have y4 : w9.cell? ⟨w.heap.size, 4, none⟩ = some (.int .i64 y.shape.kind) := (cell_of_row w9 _ 4 _ _ _ JY9.out).trans (by rw [← hys.out]; rfl)
            have y11 : w9.cell? ⟨w.heap.size, 11, none⟩ = some (.int .i64 y.state) := (cell_of_row w9 _ 11 _ _ _ JY9.out).trans (by rw [← hys.out]; rfl)
            have z11 : w9.cell? ⟨g, 11, none⟩ = some (.int .i64 z.state) := (cell_of_row w9 _ 11 _ _ _ JG9.out).trans (by rw [← hgs.out]; rfl)
            have hb79 := Lib.hid hb9
            clear hb9
            cases t1 : y.state == 2
            all_goals
              go_upto_region 13 with (fail)
              go_wp2_with (first
                | (refine wpList_load_row rfl 30 _ rfl (g) rfl 30 _ (0, 0) _ JG9.out Tryz.underlying30 rfl (info30 HGS.out) ?_)
                | (refine wpList_store_row rfl 30 _ _ rfl (w.heap.size) _ rfl rfl 30 _ JY9.out (info30 HGS.out) (HT.out.trans HGS.out.symm) HG1.out ?_))
              go_roundw
              case rel =>
                refine ⟨k + 1, z, F, F2, f, f2, by omega, by simp, ?_, ?_, OFG.out.away sr, OKZ, SZZ, below_row (bt BW.out hb79.out) (Nat.le_refl _) _⟩
                · rw [hgs.out]; exact setRow_heap _ _ _ _ _ _ JY9.out
                · exact (((ATG.out.below hb79.out).more hb79.out.size).away (OFG.out.away sr) row_only).more (by rw [Go.setRow_size]; exact Nat.le_refl _)
              case measure => simp [intOf]; omega
          case pos =>
            have n2 : (z.state == 2) = true := by simpa using h2
            have r1 := (RS h2).out.1
            have r2 := (RS h2).out.2.1
            have r3 := (RS h2).out.2.2.1
            have d1 : decide ((nz : Int) < lo) = false := decide_eq_false (by omega)
            have d2 : decide (hi < (nz : Int)) = false := decide_eq_false (by omega)
            have d3 : decide (z.limit - z.start < 1) = false := decide_eq_false (by omega)
            have hw : IntKind.i64.wrap (z.limit - z.start) = z.limit - z.start := (RW h2).out
            have hend : (y.state == 2) = false ∨ ((y.state == 2) = true ∧ (y.shape.kind != 3) = false) ∨ ((y.state == 2) = true ∧ (y.shape.kind != 3) = true ∧ ny = nz) := by
              by_cases q1 : y.state = 2
              · right
                by_cases q2 : y.shape.kind = 3
                · left; exact ⟨by simp [q1], by simp [q2]⟩
                · right; exact ⟨by simp [q1], by simp [q2], AZ q1 h2 q2⟩
              · left; simp [q1]
            clear RS RW AZ r1 r2 r3 h2 cy cz
            have z11 : w9.cell? ⟨g, 11, none⟩ = some (.int .i64 z.state) := (cell_of_row w9 _ 11 _ _ _ JG9.out).trans (by rw [← hgs.out]; rfl)
            have z4 : w9.cell? ⟨g, 4, none⟩ = some (.int .i64 z.shape.kind) := (cell_of_row w9 _ 4 _ _ _ JG9.out).trans (by rw [← hgs.out]; rfl)
            have z5 : w9.cell? ⟨g, 5, none⟩ = some (.slice F na f) := (cell_of_row w9 _ 5 _ _ _ JG9.out).trans (by rw [← hgs.out, ← HNA.out]; rfl)
            have z6 : w9.cell? ⟨g, 6, none⟩ = some (.int .i64 z.shape.mn) := (cell_of_row w9 _ 6 _ _ _ JG9.out).trans (by rw [← hgs.out]; rfl)
            have z7 : w9.cell? ⟨g, 7, none⟩ = some (.int .i64 z.shape.mx) := (cell_of_row w9 _ 7 _ _ _ JG9.out).trans (by rw [← hgs.out]; rfl)
            have z8 : w9.cell? ⟨g, 8, none⟩ = some (.int .i64 z.shape.wall) := (cell_of_row w9 _ 8 _ _ _ JG9.out).trans (by rw [← hgs.out]; rfl)
            go_upto_region 11 with (first
              | (go_at_call 48; refine (hle.out _ hb9).mono ?_; rintro e w10 ⟨rfl, hb10⟩; have hbA := Lib.hid (bt hb9 hb10)
                 have JGA := Lib.hid ((hbA.out.block _ sg).trans JG.out)
                 have z4 : w10.cell? ⟨g, 4, none⟩ = some (.int .i64 z.shape.kind) := (cell_of_row w10 _ 4 _ _ _ JGA.out).trans (by rw [← hgs.out]; rfl)
                 have z5 : w10.cell? ⟨g, 5, none⟩ = some (.slice F na f) := (cell_of_row w10 _ 5 _ _ _ JGA.out).trans (by rw [← hgs.out, ← HNA.out]; rfl)
                 have z6 : w10.cell? ⟨g, 6, none⟩ = some (.int .i64 z.shape.mn) := (cell_of_row w10 _ 6 _ _ _ JGA.out).trans (by rw [← hgs.out]; rfl)
                 have z7 : w10.cell? ⟨g, 7, none⟩ = some (.int .i64 z.shape.mx) := (cell_of_row w10 _ 7 _ _ _ JGA.out).trans (by rw [← hgs.out]; rfl)
                 have z8 : w10.cell? ⟨g, 8, none⟩ = some (.int .i64 z.shape.wall) := (cell_of_row w10 _ 8 _ _ _ JGA.out).trans (by rw [← hgs.out]; rfl)
                 clear hb9 hb10 JG9 JY9)
              | (go_at_call 49; refine (hmo.out _ hbA.out).mono ?_; rintro e w11 ⟨rfl, hb11⟩; have hb79 := Lib.hid (bt hbA.out hb11)
                 have JG9 := Lib.hid ((hb79.out.block _ sg).trans JG.out)
                 have JY9 := Lib.hid ((hb79.out.block _ s7).trans JY.out)
                 have z11 : w11.cell? ⟨g, 11, none⟩ = some (.int .i64 z.state) := (cell_of_row w11 _ 11 _ _ _ JG9.out).trans (by rw [← hgs.out]; rfl)
                 have z16 : w11.cell? ⟨g, 16, none⟩ = some (.int .i64 z.start) := (cell_of_row w11 _ 16 _ _ _ JG9.out).trans (by rw [← hgs.out]; rfl)
                 have z17 : w11.cell? ⟨g, 17, none⟩ = some (.int .i64 z.limit) := (cell_of_row w11 _ 17 _ _ _ JG9.out).trans (by rw [← hgs.out]; rfl)
                 have y4 : w11.cell? ⟨w.heap.size, 4, none⟩ = some (.int .i64 y.shape.kind) := (cell_of_row w11 _ 4 _ _ _ JY9.out).trans (by rw [← hys.out]; rfl)
                 have y11 : w11.cell? ⟨w.heap.size, 11, none⟩ = some (.int .i64 y.state) := (cell_of_row w11 _ 11 _ _ _ JY9.out).trans (by rw [← hys.out]; rfl)
                 clear hbA hb11 JGA))
            rcases hend with a1 | ⟨a1, a2⟩ | ⟨a1, a2, rfl⟩
            all_goals
              go_upto_region 13 with (fail)
              go_wp2_with (first
                | (refine wpList_load_row rfl 30 _ rfl (g) rfl 30 _ (0, 0) _ JG9.out Tryz.underlying30 rfl (info30 HGS.out) ?_)
                | (refine wpList_store_row rfl 30 _ _ rfl (w.heap.size) _ rfl rfl 30 _ JY9.out (info30 HGS.out) (HT.out.trans HGS.out.symm) HG1.out ?_))
              go_roundw
              case rel =>
                refine ⟨k + 1, z, F, F2, f, f2, by omega, by simp, ?_, ?_, OFG.out.away sr, OKZ, SZZ, below_row (bt BW.out hb79.out) (Nat.le_refl _) _⟩
                · rw [hgs.out]; exact setRow_heap _ _ _ _ _ _ JY9.out
                · exact (((ATG.out.below hb79.out).more hb79.out.size).away (OFG.out.away sr) row_only).more (by rw [Go.setRow_size]; exact Nat.le_refl _)
              case measure => simp [intOf]; omega
    · obtain rfl : k = n := by omega
      have t0 : decide ((k : Int) < (k : Int)) = false := by simp
      go_wp2_with (go_at_call 17; refine (awake14_any _).mono ?_; rintro e w4 ⟨rfl, hw4⟩)
      go_ret
      exact ⟨rfl, bt BR.out hw4⟩
end Go.Proofs.YtfnmmbfngniheaaGreatDoor
