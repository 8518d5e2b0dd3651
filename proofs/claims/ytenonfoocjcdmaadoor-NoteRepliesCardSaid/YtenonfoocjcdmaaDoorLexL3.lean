/- Layer 5: the statement LexWritten. -/
import Derived.Test.YtenonfoocjcdmaaDoorK10
import Derived.Test.YtenonfoocjcdmaaDoorK1
namespace Go.Proofs.YtenonfoocjcdmaaDoor
set_option linter.unusedVariables false
open Go.RowKit
def fewP (l : List Tk) : Prop := l.length ≤ 100 ∧ ∀ t ∈ l, t.text.size ≤ 500
theorem few05_yes (A : Option Addr) (n c B : Nat) (l : List Tk) (w : World) (hr : Reads w B 4 A n (recs tkC l)) (h : fewP l) :
    Calls Tryd.prog 23 #[.slice A n c] w fun e w' => e = .returned (.bool true) ∧ w = w' := by
  have hlen := hr.rec_len tkC_len (by omega)
  have hn : n ≤ 100 := by have := h.1; have := hlen.out; omega
  have t1 : decide ((100 : Int) < (n : Int)) = false := by simp; omega
  have H := Lib.hid h
  clear h
  go_enter Tryd.func23, Tryd.ntmps23
  go_wp2
  go_loop [3] (fun i => ∃ k : Nat, k ≤ n ∧ i = .int .i64 k) (fun i => n - (intOf i).toNat)
  case atStart => exact ⟨0, Nat.zero_le _, rfl⟩
  case round =>
    obtain ⟨k, hk, rfl⟩ := hrel
    by_cases hlt : k < n
    · obtain ⟨b, o, u, rfl, hbb, hx, c0, c1, c2, c3⟩ := hr.tk_at hlt
      have hu := H.out.2 u (List.mem_of_getElem? hx.out)
      have t2 : decide ((500 : Int) < (u.text.size : Int)) = false := by simp; omega
      have hj0 : (0 : Int) ≤ (k : Int) := by omega
      have hj1 : (k : Int) < (n : Int) := by omega
      go_wp2
      go_round
      case rel => exact ⟨k + 1, by omega, by go_num⟩
      case measure => simp [intOf]; omega
    · go_wp2
      go_ret
      exact ⟨rfl, rfl⟩
theorem few05_no (A : Option Addr) (n c B : Nat) (l : List Tk) (w : World) (hr : Reads w B 4 A n (recs tkC l)) (hm : n ≤ maxLen) (h : ¬ fewP l) :
    Calls Tryd.prog 23 #[.slice A n c] w fun e w' => e = .returned (.bool false) ∧ w = w' := by
  have hlen := hr.rec_len tkC_len (by omega)
  by_cases hn : 100 < n
  · have t1 : decide ((100 : Int) < (n : Int)) = true := by simp; omega
    clear h
    unfold maxLen at hm
    go_enter Tryd.func23, Tryd.ntmps23
    go_wp2
    go_ret
    exact ⟨rfl, rfl⟩
  have t1 : decide ((100 : Int) < (n : Int)) = false := by simp; omega
  have H : Hid (¬ ∀ t ∈ l, t.text.size ≤ 500) := fun x => h ⟨by have := hlen.out; omega, x⟩
  clear h hm
  go_enter Tryd.func23, Tryd.ntmps23
  go_wp2
  go_loop [3] (fun i => ∃ k : Nat, k ≤ n ∧ i = .int .i64 k ∧ Hid (∀ t ∈ l.take k, t.text.size ≤ 500)) (fun i => n - (intOf i).toNat)
  case atStart => exact ⟨0, Nat.zero_le _, rfl, (by show ∀ t ∈ _, _; simp)⟩
  case round =>
    obtain ⟨k, hk, rfl, HA⟩ := hrel
    by_cases hlt : k < n
    · obtain ⟨b, o, u, rfl, hbb, hx, c0, c1, c2, c3⟩ := hr.tk_at hlt
      have hj0 : (0 : Int) ≤ (k : Int) := by omega
      have hj1 : (k : Int) < (n : Int) := by omega
      by_cases hu : u.text.size ≤ 500
      · have t2 : decide ((500 : Int) < (u.text.size : Int)) = false := by simp; omega
        have HB : Hid (∀ t ∈ l.take (k + 1), t.text.size ≤ 500) := by
          show ∀ t ∈ _, _
          intro t ht
          rw [take_snocT hx.out, List.mem_append] at ht
          rcases ht with ht | ht
          · exact HA.out t ht
          · rw [List.mem_singleton] at ht; subst ht; exact hu
        go_wp2
        go_round
        case rel => exact ⟨k + 1, by omega, by go_num, HB⟩
        case measure => simp [intOf]; omega
      · have t2 : decide ((500 : Int) < (u.text.size : Int)) = true := by simp; omega
        go_wp2
        go_ret
        exact ⟨rfl, rfl⟩
    · exfalso
      refine H.out (fun t ht => HA.out t ?_)
      rw [List.take_of_length_le (by rw [hlen.out]; omega)]; exact ht
set_option maxHeartbeats 2000000 in
theorem lexWritten_walk (A : Option Addr) (n c : Nat) (l : List Tk) (t : Tk) (w : World) (hr : Reads w w.heap.size 4 A n (recs tkC l)) (hm : n ≤ maxLen) (hT : Lib.TabIs Tryd.prog w "internal/strconv.uint64pow10" .u64 Lib.pow10Tab)
    (hl : ∀ x ∈ l, -9223372036854775808 ≤ x.num ∧ x.num ≤ 9223372036854775807) (ht0 : -9223372036854775808 ≤ t.num) (ht1 : t.num ≤ 9223372036854775807) :
    Calls Tryd.prog 8 #[.slice A n c, tkV t] w fun e w' => e = .returned (.bool true) ∧ Below w.heap.size w w' := by
  have hB := Lib.hid (boxW_below t w)
  have hbx := Lib.hid (heap_alloc_new w (.cells #[.int .i64 t.kind, .string t.text, .int .i64 t.num, .int .i64 t.at_] 42))
  have hr1 := Lib.hid (hr.alloc (Nat.le_refl _) (.cells #[.int .i64 t.kind, .string t.text, .int .i64 t.num, .int .i64 t.at_] 42))
  have hlen := hr.rec_len tkC_len (by omega)
  have hsz : (boxW t w).heap.size = w.heap.size + 1 := by simp [boxW]
  by_cases hf : fewP l
  case neg =>
    have hfw := Lib.hid (few05_no A n c _ l _ hr1.out hm hf)
    have haw := Lib.hid (fun v => awake05_any v)
    unfold tkV
    clear hf hr hl hT
    go_enter Tryd.func8, Tryd.ntmps8
    go_wp2_with (first
      | (go_at_call 23; refine Calls.mono hfw.out ?_; rintro e w1 ⟨rfl, rfl⟩)
      | (go_at_call 21; refine (haw.out _).mono ?_; rintro e w1 ⟨rfl, hb1⟩))
    go_ret
    exact ⟨rfl, hB.out.trans (hb1.mono (by simp))⟩
  have hfw := Lib.hid (few05_yes A n c _ l _ hr1.out hf)
  have hfl := Lib.hid hf
  have hn : n ≤ 100 := by have := hf.1; have := hlen.out; omega
  clear hf
  by_cases hf : fewP [t]
  case neg =>
    have hfw2 := Lib.hid (fun v (hv : Reads v (w.heap.size + 2) 4 (some ⟨w.heap.size + 1, 0, none⟩) 1 (recs tkC [t])) => few05_no _ 1 1 _ [t] v hv (by simp [maxLen]) hf)
    have haw := Lib.hid (fun v => awake05_any v)
    have hmd := Lib.hid (Reads.madeRec (enc := tkC) (w.alloc (.cells #[.int .i64 t.kind, .string t.text, .int .i64 t.num, .int .i64 t.at_] 42)) t 42 rfl)
    simp only [World.size_alloc] at hmd
    unfold tkV
    clear hf hr hl hT
    go_enter Tryd.func8, Tryd.ntmps8
    go_wp2_with (fail)
    refine Calls.mono hfw.out ?_; rintro e w1 ⟨rfl, rfl⟩
    go_wp2_with (fail)
    refine (hfw2.out _ hmd.out).mono ?_; rintro e w1 ⟨rfl, rfl⟩
    go_wp2_with (go_at_call 21; refine (haw.out _).mono ?_; rintro e w1 ⟨rfl, hb1⟩)
    go_ret
    exact ⟨rfl, (hB.out.alloc (by simp [boxW]) _).trans (hb1.mono (by simp; omega))⟩
  have hts : t.text.size ≤ 500 := hf.2 t (by simp)
  have hfw2 := Lib.hid (fun v (hv : Reads v (w.heap.size + 2) 4 (some ⟨w.heap.size + 1, 0, none⟩) 1 (recs tkC [t])) => few05_yes _ 1 1 _ [t] v hv hf)
  have hmd := Lib.hid (Reads.madeRec (enc := tkC) (w.alloc (.cells #[.int .i64 t.kind, .string t.text, .int .i64 t.num, .int .i64 t.at_] 42)) t 42 rfl)
  simp only [World.size_alloc] at hmd
  have hTl := Lib.hid (fun v (hb : Below w.heap.size w v) x (hx : x ∈ l) => (⟨by have := hfl.out.2 x hx; omega, fun _ => ⟨tab_below hT hb, hl x hx⟩⟩ : TkOk v x))
  have hRl := Lib.hid (fun x (hx : x ∈ l) => (⟨by have := hfl.out.2 x hx; omega, (hl x hx).2⟩ : TkR x))
  have hTt := Lib.hid (fun v (hb : Below w.heap.size w v) => (⟨by omega, fun _ => ⟨tab_below hT hb, ht0, ht1⟩⟩ : TkOk v t))
  have hRt : Hid (TkR t) := ⟨by omega, ht1⟩
  have hj := Lib.hid (fun v (hb : Below w.heap.size w v) => lexjoin_any A n c w.heap.size l v (hr.below hb) hb.size (by omega) (hTl.out v hb))
  have hj2 := Lib.hid (fun v (hb : Below w.heap.size w v) => join05_any A n c w.heap.size l v (hr.below hb) hb.size (by omega) hRl.out)
  have hx1 := Lib.hid (fun v (hb : Below w.heap.size w v) => lextext_any t v (hTt.out v hb))
  have hx2 := Lib.hid (fun v => text05t_any t v hRt.out)
  have hk1 := Lib.hid (fun v (hb : Below w.heap.size w v) => lexcheck_any t v (hTt.out v hb))
  have hk2 := Lib.hid (fun v => check05_any t v hRt.out)
  have haw := Lib.hid (fun v => awake05_any v)
  obtain ⟨js, hjs⟩ : ∃ js, Hid (joinP l = js) := ⟨_, rfl⟩
  obtain ⟨ts, hts2⟩ : ∃ ts, Hid ((if checkP t = 0 then writtenP t else ⟨#[]⟩ : ByteArray) = ts) := ⟨_, rfl⟩
  obtain ⟨q, hq⟩ : ∃ q, Hid (checkP t = q) := ⟨_, rfl⟩
  rw [hjs.out] at hj hj2
  rw [hts2.out] at hx1 hx2
  rw [hq.out] at hx1 hx2 hk1 hk2
  obtain ⟨j1, j2⟩ := js
  unfold tkV at *
  clear hf hr hl hT hts ht0 ht1 hTl hRl hTt hRt hts2 hq hjs
  go_enter Tryd.func8, Tryd.ntmps8
  go_wp2_with (fail)
  refine Calls.mono hfw.out ?_; rintro e w1 ⟨rfl, rfl⟩
  go_wp2_with (fail)
  refine (hfw2.out _ hmd.out).mono ?_; rintro e w1 ⟨rfl, rfl⟩
  have hB0 := Lib.hid ((boxW_below t w).alloc (by simp [boxW]) (.cells #[.int .i64 t.kind, .string t.text, .int .i64 t.num, .int .i64 t.at_] 42))
  go_wp2_with (fail)
  refine (hj.out _ hB0.out).mono ?_; rintro e w1 ⟨rfl, hb1⟩
  have hz1 := hb1.size
  simp only [World.size_alloc] at hz1
  have e1 := (hb1.block w.heap.size (by simp only [World.size_alloc]; omega)).trans ((Below.heap_alloc (w.alloc (.cells #[.int .i64 t.kind, .string t.text, .int .i64 t.num, .int .i64 t.at_] 42)) _ w.heap.size (by simp only [World.size_alloc]; omega)).trans hbx.out)
  have hB1 := Lib.hid (hB0.out.trans (hb1.mono (by simp; omega)))
  clear hb1
  dsimp only
  go_wp2_with (fail)
  refine (hj2.out _ hB1.out).mono ?_; rintro e w2 ⟨rfl, hb2⟩
  have hz2 := hb2.size
  have e2 := (hb2.block w.heap.size (by omega)).trans e1
  have hB2 := Lib.hid (hB1.out.trans (hb2.mono (by omega)))
  obtain ⟨f2, c20, c21, c22, c23⟩ := row4 e2
  clear hb2 e1
  dsimp only
  go_wp2_with (fail)
  refine (hx1.out _ hB2.out).mono ?_; rintro e w3 ⟨rfl, hb3⟩
  have hz3 := hb3.size
  have e3 := (hb3.block w.heap.size (by omega)).trans e2
  have hB3 := Lib.hid (hB2.out.trans (hb3.mono (by omega)))
  obtain ⟨f3, c30, c31, c32, c33⟩ := row4 e3
  clear hb3 e2 c20 c21 c22 c23 f2
  dsimp only
  go_wp2_with (fail)
  refine (hx2.out _).mono ?_; rintro e w4 ⟨rfl, hb4⟩
  have hz4 := hb4.size
  have e4 := (hb4.block w.heap.size (by omega)).trans e3
  have hB4 := Lib.hid (hB3.out.trans (hb4.mono (by omega)))
  obtain ⟨f4, c40, c41, c42, c43⟩ := row4 e4
  have hl4 : w.heap.size < w4.heap.size := by omega
  clear hb4 e3 c30 c31 c32 c33 f3 hz1 hz2 hz3 hz4 e4
  dsimp only
  go_wp2_with (fail)
  refine wp_region_later (by kernel_rfl) (by kernel_rfl) ?_
  have hl_ := later_cell (w4)
  repeat (first | go_big_quiet_step (((first | (go_at_call 28; exact later_of (hk1.out _ (hB4.out.trans ((Later.below _).mono (by omega))))) | (go_at_call 29; exact later_of (hk2.out _)) | (go_at_call 21; exact later_of (haw.out _))))) | quiet_step (((first | (go_at_call 28; exact later_of (hk1.out _ (hB4.out.trans ((Later.below _).mono (by omega))))) | (go_at_call 29; exact later_of (hk2.out _)) | (go_at_call 21; exact later_of (haw.out _))))))
  refine wpQuiet_nil ?_
  intro w9 hx_
  obtain ⟨⟨w_, hb9⟩, e_⟩ := hx_
  have e2_ : w9 = w_ := e_
  clear e_
  subst e2_
  clear hl_
  go_wp2
  go_ret
  exact ⟨rfl, hB4.out.trans (hb9.mono (by omega))⟩
end Go.Proofs.YtenonfoocjcdmaaDoor
