/- Layer 23: the statements NoteBack and NoteReplies. -/
import Derived.Test.YtenonfoocjcdmaaDoorNoW4
import Derived.Laws.StructEq
namespace Go.Proofs.YtenonfoocjcdmaaDoor
set_option linter.unusedVariables false
open Go.RowKit
def ntEq (x y : Nt) : Bool := (x.kind == y.kind) && (x.node == y.node) && (x.job == y.job) && (x.epoch == y.epoch)
theorem ntEq_self (x : Nt) : ntEq x x = true := by simp [ntEq]
set_option maxRecDepth 100000 in
theorem nt_equalIn (x y : Nt) (v : World) : (Op.equalIn 10000 57 (.agg #[.int .i64 x.kind, .int .i64 x.node, .int .i64 x.job, .int .i64 x.epoch]) (.agg #[.int .i64 y.kind, .int .i64 y.node, .int .i64 y.job, .int .i64 y.epoch])).run Tryd.prog v = .ok (ntEq x y) v := by
  rw [run_equalIn_agg v _ _ _ _ (by kernel_rfl) (by kernel_rfl)]
  have e : (Tryd.prog.fieldsOf 57).toList = [{ name := "Kind", type := 3, offset := 0, embedded := false, tag := "", pkgPath := "", byteOffset := 0 }, { name := "Node", type := 3, offset := 1, embedded := false, tag := "", pkgPath := "", byteOffset := 8 }, { name := "Job", type := 3, offset := 2, embedded := false, tag := "", pkgPath := "", byteOffset := 16 }, { name := "Epoch", type := 3, offset := 3, embedded := false, tag := "", pkgPath := "", byteOffset := 24 }] := by kernel_rfl
  rw [e]
  unfold ntEq
  simp [go_sem, Op.eqFields]
  repeat' split
  all_goals simp_all
theorem nt_eql (x y : Nt) (v : World) : (binOp .eql 57 (.agg #[.int .i64 x.kind, .int .i64 x.node, .int .i64 x.job, .int .i64 x.epoch]) (.agg #[.int .i64 y.kind, .int .i64 y.node, .int .i64 y.job, .int .i64 y.epoch])).run Tryd.prog v = .ok (.bool (ntEq x y)) v := by
  rw [run_eql_struct, nt_equalIn]; rfl
theorem nt_neq (x y : Nt) (v : World) : (binOp .neq 57 (.agg #[.int .i64 x.kind, .int .i64 x.node, .int .i64 x.job, .int .i64 x.epoch]) (.agg #[.int .i64 y.kind, .int .i64 y.node, .int .i64 y.job, .int .i64 y.epoch])).run Tryd.prog v = .ok (.bool (!ntEq x y)) v := by
  rw [run_neq_struct, nt_equalIn]; rfl
def aw23 : ByteArray := ⟨#[108, 97, 117, 110, 99, 104, 32, 48, 32, 53, 32, 49]⟩
theorem aw23_parse : parseN aw23 = (⟨1, 0, 5, 1⟩, 0) := by kernel_rfl
theorem aw23_show : showN ⟨1, 0, 5, 1⟩ = (aw23, 0) := by kernel_rfl
theorem aw23_r7 : replyN ⟨1, 0, 5, 1⟩ 7 = (⟨7, 0, 5, 1⟩, 0) := by kernel_rfl
theorem aw23_r8 : replyN ⟨1, 0, 5, 1⟩ 8 = (⟨0, 0, 0, 0⟩, 230) := by kernel_rfl
set_option maxHeartbeats 2000000 in
set_option maxRecDepth 100000 in
theorem awake23_any (w : World) (hT : Lib.TabIs Tryd.prog w "internal/strconv.uint64pow10" .u64 Lib.pow10Tab) : Calls Tryd.prog 33 #[] w fun e w' => e = .returned (.bool true) ∧ Below w.heap.size w w' := by
  have h1 := Lib.hid (fun v => parse23_any aw23 v)
  have h2 := Lib.hid (fun v hv => show23_any ⟨1, 0, 5, 1⟩ v hv)
  have h3 := Lib.hid (fun v => reply_any ⟨1, 0, 5, 1⟩ 7 v)
  have h4 := Lib.hid (fun v => reply_any ⟨1, 0, 5, 1⟩ 8 v)
  have h5 := Lib.hid (fun v => check23_any ⟨0, 0, 0, 0⟩ v)
  have hE : noteE ⟨0, 0, 0, 0⟩ = 230 := by kernel_rfl
  have h6 := Lib.hid (fun v => down_any 1 v)
  have h7 := Lib.hid (fun v => down_any 7 v)
  have h8 := Lib.hid (fun v => word23_any 14 v)
  have h9 := Lib.hid (fun v => replies_any 4 v)
  have q1 : downB 1 = true := by kernel_rfl
  have q2 : downB 7 = false := by kernel_rfl
  have q3 : wordP 14 = ⟨#[103, 111, 110, 101]⟩ := by kernel_rfl
  rw [aw23_parse] at h1
  rw [aw23_show] at h2
  rw [aw23_r7] at h3
  rw [aw23_r8] at h4
  rw [hE] at h5
  rw [q1] at h6
  rw [q2] at h7
  rw [q3] at h8
  unfold aw23 at h1 h2
  unfold ntV at h2 h3 h4 h5
  have hT2 := Lib.hid hT
  have heq : ∀ v : World, (binOp .eql 57 (.agg #[.int .i64 1, .int .i64 0, .int .i64 5, .int .i64 1]) (.agg #[.int .i64 1, .int .i64 0, .int .i64 5, .int .i64 1])).run Tryd.prog v = .ok (.bool true) v := fun v => nt_eql ⟨1, 0, 5, 1⟩ ⟨1, 0, 5, 1⟩ v
  clear hE q1 q2 q3 hT
  go_enter Tryd.func33, Tryd.ntmps33
  go_wp2_with (fail)
  refine (h1.out _).mono ?_; rintro e w1 ⟨rfl, hb1⟩
  unfold ntV
  have e1 := heap_alloc_new w1 (.cells #[.int .i64 1, .int .i64 0, .int .i64 5, .int .i64 1] 57)
  have hB1 := Lib.hid (hb1.alloc hb1.size (.cells #[.int .i64 1, .int .i64 0, .int .i64 5, .int .i64 1] 57))
  have hz1 := hb1.size
  clear hb1
  go_wp2_with (fail)
  refine (h2.out _ (tab_below hT2.out hB1.out)).mono ?_; rintro e w2 ⟨rfl, hb2⟩
  have hz2 := hb2.size
  simp only [World.size_alloc] at hz2
  have e2 := (hb2.block w1.heap.size (by simp)).trans e1
  have hB2 := Lib.hid (hB1.out.trans (hb2.mono (by simp; omega)))
  obtain ⟨f2, a0, a1, a2, a3⟩ := row4 e2
  clear hb2 e1
  dsimp only
  go_wp2_with (fail)
  refine (h3.out _).mono ?_; rintro e w3 ⟨rfl, hb3⟩
  unfold ntV
  have hz3 := hb3.size
  have e3 := (Below.heap_alloc w3 (.cells #[.int .i64 7, .int .i64 0, .int .i64 5, .int .i64 1] 57) w1.heap.size (by omega)).trans ((hb3.block w1.heap.size (by omega)).trans e2)
  have r3 := heap_alloc_new w3 (.cells #[.int .i64 7, .int .i64 0, .int .i64 5, .int .i64 1] 57)
  have hB3 := Lib.hid ((hB2.out.trans (hb3.mono (by omega))).alloc (by omega) (.cells #[.int .i64 7, .int .i64 0, .int .i64 5, .int .i64 1] 57))
  clear f2 a0 a1 a2 a3
  obtain ⟨f3, a0, a1, a2, a3⟩ := row4 e3
  clear hb3 e2
  go_wp2_with (fail)
  refine (h4.out _).mono ?_; rintro e w4 ⟨rfl, hb4⟩
  unfold ntV
  have hz4 := hb4.size
  simp only [World.size_alloc] at hz4
  have e4 := (hb4.block w1.heap.size (by simp; omega)).trans e3
  have r4 := (hb4.block w3.heap.size (by simp)).trans r3
  have hB4 := Lib.hid ((hB3.out.trans (hb4.mono (by simp; omega))).alloc (by omega) (.cells #[.int .i64 0, .int .i64 0, .int .i64 0, .int .i64 0] 57))
  have e5 := (Below.heap_alloc w4 (.cells #[.int .i64 0, .int .i64 0, .int .i64 0, .int .i64 0] 57) w1.heap.size (by omega)).trans e4
  have r5 := (Below.heap_alloc w4 (.cells #[.int .i64 0, .int .i64 0, .int .i64 0, .int .i64 0] 57) w3.heap.size (by omega)).trans r4
  clear f3 a0 a1 a2 a3 hb4 e3 r3 e4 r4
  obtain ⟨f4, a0, a1, a2, a3⟩ := row4 e5
  obtain ⟨f5, b0, b1, b2, b3⟩ := row4 r5
  have E5 := Lib.hid e5
  clear e5 r5
  dsimp only
  go_wp2_with (fail)
  refine (h6.out _).mono ?_; rintro e w5 ⟨rfl, rfl⟩
  go_wp2_with (fail)
  refine (h7.out _).mono ?_; rintro e w5 ⟨rfl, rfl⟩
  go_wp2_with (fail)
  refine (h8.out _).mono ?_; rintro e w5 ⟨rfl, hb5⟩
  have hB5 := Lib.hid (hB4.out.trans (hb5.mono (by simp; omega)))
  clear hb5
  go_wp2_with (fail)
  refine (h9.out _).mono ?_; rintro e w6 ⟨A, c, rfl, hc, hr, hb6⟩
  have hB6 := Lib.hid (bt hB5.out hb6)
  clear hb6 hr hc
  have hl4 : (repliesL 4).length = 3 := by kernel_rfl
  rw [hl4]
  clear hl4
  go_wp2_with (fail)
  refine (h5.out _).mono ?_; rintro e w7 ⟨rfl, hb7⟩
  go_wp2
  go_ret
  exact ⟨rfl, bt hB6.out hb7⟩
set_option maxHeartbeats 2000000 in
set_option maxRecDepth 100000 in
theorem noteReplies_walk (n : Nt) (k : Int) (w : World) (hT : Lib.TabIs Tryd.prog w "internal/strconv.uint64pow10" .u64 Lib.pow10Tab) :
    Calls Tryd.prog 11 #[ntV n, .int .i64 k] w fun e w' => e = .returned (.bool true) ∧ Below w.heap.size w w' := by
  have h1 := Lib.hid (fun v => reply_any n k v)
  have haw := Lib.hid (fun v hv => awake23_any v (tab_below hT hv))
  have hB0 := Lib.hid (boxN_below n w)
  have hsz : (boxN n w).heap.size = w.heap.size + 1 := by simp [boxN]
  have E0 := Lib.hid (heap_alloc_new w (.cells #[.int .i64 n.kind, .int .i64 n.node, .int .i64 n.job, .int .i64 n.epoch] 57))
  unfold ntV at h1 ⊢
  by_cases h : noteP n ∧ k ∈ repliesL n.kind
  case neg =>
    have hre : replyN n k = (⟨0, 0, 0, 0⟩, 230) := by unfold replyN; rw [if_neg h]; rfl
    rw [hre] at h1
    have heq : ∀ v : World, (binOp .eql 57 (.agg #[.int .i64 0, .int .i64 0, .int .i64 0, .int .i64 0]) (.agg #[.int .i64 0, .int .i64 0, .int .i64 0, .int .i64 0])).run Tryd.prog v = .ok (.bool true) v := fun v => nt_eql ⟨0, 0, 0, 0⟩ ⟨0, 0, 0, 0⟩ v
    clear hre h hT
    go_enter Tryd.func11, Tryd.ntmps11
    go_wp2_with (fail)
    refine (h1.out _).mono ?_; rintro e w1 ⟨rfl, hb1⟩
    have hB1 := Lib.hid ((hB0.out.trans (hb1.mono (by simp))).alloc (by have := hb1.size; simp at this; omega) (.cells #[.int .i64 0, .int .i64 0, .int .i64 0, .int .i64 0] 57))
    unfold ntV
    clear hb1
    dsimp only
    go_wp2_with (fail)
    refine (haw.out _ hB1.out).mono ?_; rintro e w2 ⟨rfl, hb2⟩
    go_wp2
    go_ret
    exact ⟨rfl, bt hB1.out hb2⟩
  obtain ⟨hp, k1, k2, k3, k4⟩ := reply_facts h.1 h.2
  have hre : replyN n k = (⟨k, n.node, n.job, n.epoch⟩, 0) := by unfold replyN; rw [if_pos h]
  have hre2 : replyN ⟨k, n.node, n.job, n.epoch⟩ k = (⟨0, 0, 0, 0⟩, 230) := by unfold replyN; rw [if_neg]; rfl; intro x; simp only [k4] at x; exact absurd x.2 (by simp)
  have h2 := Lib.hid (fun v => reply_any ⟨k, n.node, n.job, n.epoch⟩ k v)
  have h3 := Lib.hid (fun v => check23_any n v)
  have h4 := Lib.hid (fun v => check23_any ⟨k, n.node, n.job, n.epoch⟩ v)
  have c1 : noteE n = 0 := by unfold noteE; rw [if_pos h.1]
  have c2 : noteE ⟨k, n.node, n.job, n.epoch⟩ = 0 := by unfold noteE; rw [if_pos hp]
  have h5 := Lib.hid (fun v => down_any n.kind v)
  have h6 := Lib.hid (fun v => down_any k v)
  have d1 : downB n.kind = true := by unfold downB; simp; omega
  have d2 : downB k = false := by unfold downB; simp; omega
  have h7 := Lib.hid (fun v => replies_any k v)
  rw [hre] at h1
  rw [hre2] at h2
  rw [c1] at h3
  rw [c2] at h4
  rw [d1] at h5
  rw [d2] at h6
  rw [k4] at h7
  unfold ntV at h2 h3 h4
  clear hre hre2 c1 c2 d1 d2 hp k1 k2 k3 k4 h hT
  dsimp only at h1 h2 h3 h4
  go_enter Tryd.func11, Tryd.ntmps11
  go_wp2_with (fail)
  refine (h1.out _).mono ?_; rintro e w1 ⟨rfl, hb1⟩
  have hb1' : Below (boxN n w).heap.size (boxN n w) w1 := hb1
  have hz1 := hb1'.size
  have e1 := (Below.heap_alloc w1 (.cells #[.int .i64 k, .int .i64 n.node, .int .i64 n.job, .int .i64 n.epoch] 57) w.heap.size (by omega)).trans ((hb1'.block w.heap.size (by omega)).trans E0.out)
  have r1 := heap_alloc_new w1 (.cells #[.int .i64 k, .int .i64 n.node, .int .i64 n.job, .int .i64 n.epoch] 57)
  have hB1 := Lib.hid ((hB0.out.trans (hb1'.mono (by omega))).alloc (by omega) (.cells #[.int .i64 k, .int .i64 n.node, .int .i64 n.job, .int .i64 n.epoch] 57))
  unfold ntV
  clear hb1 hb1'
  dsimp only
  go_wp2_with (fail)
  refine (h2.out _).mono ?_; rintro e w2 ⟨rfl, hb2⟩
  unfold ntV
  have hz2 := hb2.size
  simp only [World.size_alloc] at hz2
  have e2 := (Below.heap_alloc w2 (.cells #[.int .i64 0, .int .i64 0, .int .i64 0, .int .i64 0] 57) w.heap.size (by omega)).trans ((hb2.block w.heap.size (by simp; omega)).trans e1)
  have r2 := (Below.heap_alloc w2 (.cells #[.int .i64 0, .int .i64 0, .int .i64 0, .int .i64 0] 57) w1.heap.size (by omega)).trans ((hb2.block w1.heap.size (by simp)).trans r1)
  have hB2 := Lib.hid ((hB1.out.trans (hb2.mono (by simp; omega))).alloc (by omega) (.cells #[.int .i64 0, .int .i64 0, .int .i64 0, .int .i64 0] 57))
  clear hb2 e1 r1
  obtain ⟨f2, a0, a1, a2, a3⟩ := row4 e2
  obtain ⟨g2, b0, b1, b2, b3⟩ := row4 r2
  have E2 := Lib.hid e2
  have R2 := Lib.hid r2
  clear e2 r2
  dsimp only
  go_wp2_with (fail)
  refine (h4.out _).mono ?_; rintro e w3 ⟨rfl, hb3⟩
  have hz3 := hb3.size
  simp only [World.size_alloc] at hz3
  have e3 := (hb3.block w.heap.size (by simp; omega)).trans E2.out
  have r3 := (hb3.block w1.heap.size (by simp; omega)).trans R2.out
  have hB3 := Lib.hid (hB2.out.trans (hb3.mono (by simp; omega)))
  clear hb3 f2 a0 a1 a2 a3 g2 b0 b1 b2 b3 E2 R2
  obtain ⟨f2, a0, a1, a2, a3⟩ := row4 e3
  obtain ⟨g2, b0, b1, b2, b3⟩ := row4 r3
  have E3 := Lib.hid e3
  have R3 := Lib.hid r3
  clear e3 r3
  go_wp2_with (fail)
  refine (h3.out _).mono ?_; rintro e w4 ⟨rfl, hb4⟩
  have hz4 := hb4.size
  have e4 := (hb4.block w.heap.size (by omega)).trans E3.out
  have r4 := (hb4.block w1.heap.size (by omega)).trans R3.out
  have hB4 := Lib.hid (bt hB3.out hb4)
  clear hb4 f2 a0 a1 a2 a3 g2 b0 b1 b2 b3 E3 R3
  obtain ⟨f2, a0, a1, a2, a3⟩ := row4 e4
  obtain ⟨g2, b0, b1, b2, b3⟩ := row4 r4
  clear e4 r4
  go_wp2_with (fail)
  refine (h5.out _).mono ?_; rintro e w5 ⟨rfl, rfl⟩
  go_wp2_with (fail)
  refine (h6.out _).mono ?_; rintro e w5 ⟨rfl, rfl⟩
  go_wp2_with (fail)
  refine (h7.out _).mono ?_; rintro e w5 ⟨A, c, rfl, hc, hr, hb5⟩
  have hB5 := Lib.hid (bt hB4.out hb5)
  clear hb5 hr hc
  dsimp only [List.length]
  go_wp2_with (fail)
  refine (haw.out _ hB5.out).mono ?_; rintro e w6 ⟨rfl, hb6⟩
  go_wp2
  go_ret
  exact ⟨rfl, bt hB5.out hb6⟩
theorem show_note {n : Nt} (h : noteP n) : ∃ S : ByteArray, showN n = (S, 0) ∧ parseN S = (n, 0) := by
  refine ⟨⟨(joinB (noteTs n)).toArray⟩, by unfold showN; rw [if_pos h], parse_note h (bl_mk _)⟩
set_option maxHeartbeats 4000000 in
set_option maxRecDepth 100000 in
theorem noteBack_walk (n : Nt) (s : ByteArray) (w : World) (hT : Lib.TabIs Tryd.prog w "internal/strconv.uint64pow10" .u64 Lib.pow10Tab) :
    Calls Tryd.prog 10 #[ntV n, .string s] w fun e w' => e = .returned (.bool true) ∧ Below w.heap.size w w' := by
  have hTb := Lib.hid (fun v (hv : Below w.heap.size w v) => tab_below hT hv)
  have haw := Lib.hid (fun v hv => awake23_any v (hTb.out v hv))
  have hB0 := Lib.hid (boxN_below n w)
  have hsz : (boxN n w).heap.size = w.heap.size + 1 := by simp [boxN]
  have E0 := Lib.hid (heap_alloc_new w (.cells #[.int .i64 n.kind, .int .i64 n.node, .int .i64 n.job, .int .i64 n.epoch] 57))
  have h1 := Lib.hid (show23_any n (boxN n w) (hTb.out _ hB0.out))
  have hs1 := Lib.hid (fun v => parse23_any s v)
  have hcs := parseN_cases s
  obtain ⟨r, hr⟩ : ∃ r, Hid (parseN s = r) := ⟨_, rfl⟩
  rw [hr.out] at hs1 hcs
  obtain ⟨m, er⟩ := r
  dsimp only at hcs
  have hcs2 := Lib.hid hcs
  unfold ntV at h1 ⊢
  clear hcs hT
  by_cases h : noteP n
  case' pos =>
    obtain ⟨S, hs, hps⟩ := show_note h
    rw [hs] at h1
    have h2 := Lib.hid (fun v => parse23_any S v)
    rw [hps] at h2
    have hne : ∀ v : World, (binOp .neq 57 (.agg #[.int .i64 n.kind, .int .i64 n.node, .int .i64 n.job, .int .i64 n.epoch]) (.agg #[.int .i64 n.kind, .int .i64 n.node, .int .i64 n.job, .int .i64 n.epoch])).run Tryd.prog v = .ok (.bool false) v := fun v => by rw [nt_neq n n v, ntEq_self]; rfl
    dsimp only at h1
    clear hs hps h
    go_enter Tryd.func10, Tryd.ntmps10
    go_wp2_with (fail)
    refine Calls.mono h1.out ?_; rintro e w1 ⟨rfl, hb1⟩
    have hb1' : Below (boxN n w).heap.size (boxN n w) w1 := hb1
    have hz1 := hb1'.size
    have e1 := (hb1'.block w.heap.size (by omega)).trans E0.out
    have hB1 := Lib.hid (hB0.out.trans (hb1'.mono (by omega)))
    clear hb1 hb1'
    go_wp2_with (fail)
    refine (h2.out _).mono ?_; rintro e w2 ⟨rfl, hb2⟩
    unfold ntV
    have hz2 := hb2.size
    have e2 := (Below.heap_alloc w2 (.cells #[.int .i64 n.kind, .int .i64 n.node, .int .i64 n.job, .int .i64 n.epoch] 57) w.heap.size (by omega)).trans ((hb2.block w.heap.size (by omega)).trans e1)
    have hB4 := Lib.hid ((hB1.out.trans (hb2.mono (by omega))).alloc (by omega) (.cells #[.int .i64 n.kind, .int .i64 n.node, .int .i64 n.job, .int .i64 n.epoch] 57))
    obtain ⟨f2, a0, a1, a2, a3⟩ := row4 e2
    clear hb2 e1 e2
    dsimp only
    go_wp2_with (fail)
    clear f2 a0 a1 a2 a3 hne h1 h2 hz1 hz2
    obtain ⟨w4, hw4⟩ : ∃ w4, w2.alloc (.cells #[.int .i64 n.kind, .int .i64 n.node, .int .i64 n.job, .int .i64 n.epoch] 57) = w4 := ⟨_, rfl⟩
    rw [hw4] at hB4 ⊢
    clear hw4
  case' neg =>
    have hs : showN n = (⟨#[]⟩, 230) := by unfold showN; rw [if_neg h]
    rw [hs] at h1
    dsimp only at h1
    clear hs h
    go_enter Tryd.func10, Tryd.ntmps10
    go_wp2_with (fail)
    refine Calls.mono h1.out ?_; rintro e w4 ⟨rfl, hb4⟩
    have hB4 := Lib.hid (hB0.out.trans (hb4.mono (by simp [boxN])))
    clear hb4 h1
    go_wp2_with (fail)
  all_goals
    refine (hs1.out _).mono ?_; rintro e w5 ⟨rfl, hb5⟩
    unfold ntV
    rcases hcs2.out with ⟨p1, p2⟩ | ⟨p1, p2⟩
    · obtain ⟨S, q1, q2⟩ := show_note p1
      dsimp only at p2 ⊢
      subst p2
      have hB5 := Lib.hid ((bt hB4.out hb5).alloc (by have := hB4.out.size; have := hb5.size; omega) (.cells #[.int .i64 m.kind, .int .i64 m.node, .int .i64 m.job, .int .i64 m.epoch] 57))
      have k1 := Lib.hid (show23_any m (w5.alloc (.cells #[.int .i64 m.kind, .int .i64 m.node, .int .i64 m.job, .int .i64 m.epoch] 57)) (hTb.out _ hB5.out))
      rw [q1] at k1
      have k2 := Lib.hid (fun v => parse23_any S v)
      rw [q2] at k2
      have k3 := Lib.hid (fun v => check23_any m v)
      have c1 : noteE m = 0 := by unfold noteE; rw [if_pos p1]
      rw [c1] at k3
      have heq : ∀ v : World, (binOp .eql 57 (.agg #[.int .i64 m.kind, .int .i64 m.node, .int .i64 m.job, .int .i64 m.epoch]) (.agg #[.int .i64 m.kind, .int .i64 m.node, .int .i64 m.job, .int .i64 m.epoch])).run Tryd.prog v = .ok (.bool true) v := fun v => by rw [nt_eql m m v, ntEq_self]
      have e5 := heap_alloc_new w5 (.cells #[.int .i64 m.kind, .int .i64 m.node, .int .i64 m.job, .int .i64 m.epoch] 57)
      unfold ntV at k1 k3
      dsimp only at k1
      clear p1 q1 q2 c1 hb5
      go_wp2_with (fail)
      refine Calls.mono k1.out ?_; rintro e w6 ⟨rfl, hb6⟩
      have hz6 := hb6.size
      simp only [World.size_alloc] at hz6
      have e6 := (hb6.block w5.heap.size (by simp)).trans e5
      have hB6 := Lib.hid (hB5.out.trans (hb6.mono hB5.out.size))
      clear hb6 e5 k1
      go_wp2_with (fail)
      refine (k2.out _).mono ?_; rintro e w7 ⟨rfl, hb7⟩
      unfold ntV
      have hz7 := hb7.size
      have e7 := (Below.heap_alloc w7 (.cells #[.int .i64 m.kind, .int .i64 m.node, .int .i64 m.job, .int .i64 m.epoch] 57) w5.heap.size (by omega)).trans ((hb7.block w5.heap.size (by omega)).trans e6)
      have hB7 := Lib.hid ((bt hB6.out hb7).alloc (by have := hB6.out.size; omega) (.cells #[.int .i64 m.kind, .int .i64 m.node, .int .i64 m.job, .int .i64 m.epoch] 57))
      obtain ⟨f7, a0, a1, a2, a3⟩ := row4 e7
      clear hb7 e6 e7
      dsimp only
      go_wp2_with (fail)
      refine (k3.out _).mono ?_; rintro e w8 ⟨rfl, hb8⟩
      have hB8 := Lib.hid (hB7.out.trans (hb8.mono hB7.out.size))
      clear hb8
      go_wp2_with (fail)
      refine (haw.out _ hB8.out).mono ?_; rintro e w9 ⟨rfl, hb9⟩
      go_wp2
      go_ret
      exact ⟨rfl, bt hB8.out hb9⟩
    · subst p1
      have t0 : (er != 0) = true := by simpa using p2
      have hB5 := Lib.hid ((bt hB4.out hb5).alloc (by have := hB4.out.size; have := hb5.size; omega) (.cells #[.int .i64 0, .int .i64 0, .int .i64 0, .int .i64 0] 57))
      have heq : ∀ v : World, (binOp .eql 57 (.agg #[.int .i64 0, .int .i64 0, .int .i64 0, .int .i64 0]) (.agg #[.int .i64 0, .int .i64 0, .int .i64 0, .int .i64 0])).run Tryd.prog v = .ok (.bool true) v := fun v => nt_eql ⟨0, 0, 0, 0⟩ ⟨0, 0, 0, 0⟩ v
      dsimp only [nt0]
      clear p2 hb5
      go_wp2_with (fail)
      refine (haw.out _ hB5.out).mono ?_; rintro e w6 ⟨rfl, hb6⟩
      go_wp2
      go_ret
      exact ⟨rfl, bt hB5.out hb6⟩
end Go.Proofs.YtenonfoocjcdmaaDoor
