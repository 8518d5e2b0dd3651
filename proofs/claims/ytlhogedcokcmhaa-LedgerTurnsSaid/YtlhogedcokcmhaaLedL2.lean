/- The statement LedgerDecay of layer 17, walked. -/
import Derived.Test.YtlhogedcokcmhaaLedL1
namespace Go.Proofs.Ytlhogedcokcmhaa
set_option linter.unusedVariables false
open Go.RowKit
def hN : Nat → List U → List U
  | 0, l => l
  | k + 1, l => (hN k l).map halfU
theorem hN_len (k : Nat) (l : List U) : (hN k l).length = l.length := by
  induction k with
  | zero => rfl
  | succ k ih => simp [hN, ih]
theorem half_good {u : U} (h : goodU u = true) : goodU (halfU u) = true ∧ 0 ≤ halfV u.share ∧ halfV u.share * 2 ≤ u.share := by
  unfold goodU at h
  simp only [Bool.and_eq_true, decide_eq_true_eq] at h
  have e : halfV u.share = u.share / 2 := by unfold halfV; rw [clamp_in (by omega) (by omega)]
  refine ⟨?_, by omega, by omega⟩
  show (nameV u.user && nameV u.acct && decide (0 ≤ u.used) && decide (u.used ≤ 1000000000000) && decide (0 ≤ halfV u.share) && decide (halfV u.share ≤ u.used)) = true
  simp only [Bool.and_eq_true, decide_eq_true_eq]
  obtain ⟨⟨⟨⟨⟨a1, a2⟩, a3⟩, a4⟩, a5⟩, a6⟩ := h
  exact ⟨⟨⟨⟨⟨a1, a2⟩, a3⟩, a4⟩, by omega⟩, by omega⟩
theorem half_goodB : ∀ {l : List U} {p q : Option U}, goodB l p = true → (∀ u, aheadO p u = aheadO q u) → goodB (l.map halfU) q = true
  | [], _, _, _, _ => rfl
  | u :: t, p, q, h, hp => by
    rw [goodB] at h
    simp only [Bool.and_eq_true] at h
    rw [List.map_cons, goodB]
    simp only [Bool.and_eq_true]
    refine ⟨⟨(half_good h.1.1).1, ?_⟩, half_goodB h.2 (fun v => ?_)⟩
    · rw [← hp]
      have h2 := h.1.2
      cases p with
      | none => rfl
      | some p => exact h2
    · rfl
theorem half_ledger {l : List U} (h : ledgerV l = true) : ledgerV (l.map halfU) = true := by
  unfold ledgerV at h ⊢
  simp only [Bool.and_eq_true, decide_eq_true_eq, List.length_map] at h ⊢
  exact ⟨h.1, half_goodB h.2 (fun _ => rfl)⟩
theorem hN_ledger {l : List U} (h : ledgerV l = true) (k : Nat) : ledgerV (hN k l) = true := by
  induction k with
  | zero => exact h
  | succ k ih => exact half_ledger ih
theorem hN_decay {l : List U} (h : ledgerV l = true) (k : Nat) : decayL (hN k l) = hN (k + 1) l := by
  unfold decayL; rw [if_pos (hN_ledger h k)]; rfl
theorem good_mem : ∀ {l : List U} {p : Option U} {u : U}, goodB l p = true → u ∈ l → goodU u = true
  | v :: t, p, u, h, hu => by
    rw [goodB] at h
    simp only [Bool.and_eq_true] at h
    rcases List.mem_cons.1 hu with rfl | hu
    · exact h.1.1
    · exact good_mem h.2 hu
theorem ledger_mem {l : List U} {u : U} (h : ledgerV l = true) (hu : u ∈ l) : goodU u = true := by
  unfold ledgerV at h
  simp only [Bool.and_eq_true] at h
  exact good_mem h.2 hu
theorem hN_share {l : List U} (h : ledgerV l = true) : ∀ (k : Nat) (u : U), u ∈ hN k l → 0 ≤ u.share ∧ u.share * 2 ^ k ≤ 1000000000000
  | 0, u, hu => by
    have hg := ledger_mem h hu
    unfold goodU at hg
    simp only [Bool.and_eq_true, decide_eq_true_eq] at hg
    simp; omega
  | k + 1, u, hu => by
    simp only [hN, List.mem_map] at hu
    obtain ⟨v, hv, rfl⟩ := hu
    obtain ⟨h1, h2⟩ := hN_share h k v hv
    have h3 := (half_good (ledger_mem (hN_ledger h k) hv)).2
    refine ⟨h3.1, ?_⟩
    have e : (halfU v).share * 2 ^ (k + 1) = (halfV v.share * 2) * 2 ^ k := by
      show halfV v.share * 2 ^ (k + 1) = _
      rw [Int.pow_succ, Int.mul_comm (2 ^ k) 2, ← Int.mul_assoc]
    rw [e]
    exact Int.le_trans (Int.mul_le_mul_of_nonneg_right h3.2 (Int.le_of_lt (Int.pow_pos (by omega)))) h2
theorem hN_zero {l : List U} (h : ledgerV l = true) {u : U} (hu : u ∈ hN 40 l) : u.share = 0 := by
  have h1 := hN_share h 40 u hu
  have e : (2 : Int) ^ 40 = 1099511627776 := by decide
  rw [e] at h1
  omega
theorem tog_half {l : List U} {f : U → Int} (h : ledgerV l = true) (hf : ∀ u, f (halfU u) = f u) : togV (l.map halfU) f = togV l f := by
  unfold togV
  rw [if_pos h, if_pos (half_ledger h), List.map_map]
  congr 2
  funext u; exact hf u
theorem hN_tog {l : List U} {f : U → Int} (h : ledgerV l = true) (hf : ∀ u, f (halfU u) = f u) (k : Nat) : togV (hN k l) f = togV l f := by
  induction k with
  | zero => rfl
  | succ k ih => rw [hN, tog_half (hN_ledger h k) hf, ih]
theorem tot_mono : ∀ {a b : List Int}, a.length = b.length → (∀ (i : Nat) (x y : Int), a[i]? = some x → b[i]? = some y → x ≤ y) → tot 1000000000000 a ≤ tot 1000000000000 b
  | [], [], _, _ => by simp
  | x :: a, y :: b, h, h2 => by
    simp only [tot]
    have h3 := clamp_mono (E := 1000000000000) (by omega) (h2 0 x y rfl rfl)
    have h4 := tot_mono (a := a) (b := b) (by simpa using h) (fun i x y hx hy => h2 (i + 1) x y hx hy)
    omega
theorem addV_mono {a b : List Int} (h : tot 1000000000000 a ≤ tot 1000000000000 b) : addV 1000000000000 a ≤ addV 1000000000000 b := by
  unfold addV; split <;> split <;> omega
theorem share_half {l : List U} (h : ledgerV l = true) (user : ByteArray) : togV (l.map halfU) (shareF user) ≤ togV l (shareF user) := by
  unfold togV
  rw [if_pos h, if_pos (half_ledger h)]
  refine addV_mono (tot_mono (by simp) (fun i x y hx hy => ?_))
  simp only [List.getElem?_map, Option.map_eq_some_iff] at hx hy
  obtain ⟨_, ⟨u, hu, rfl⟩, rfl⟩ := hx
  obtain ⟨v, hv, rfl⟩ := hy
  rw [hu] at hv; cases hv
  have h3 := half_good (ledger_mem h (List.mem_of_getElem? hu))
  unfold shareF halfU
  simp only
  split <;> omega
set_option maxHeartbeats 2000000 in
theorem ledgerDecay_walk (A : Option Addr) (n c : Nat) (l : List U) (user acct : ByteArray) (z : Int) (w : World) (hn : n ≤ maxLen) (hr : Reads w w.heap.size 4 A n (recs ucells l)) :
    Calls Try.prog 5 #[.slice A n c, .agg #[.string user, .string acct, .int .i64 z]] w fun e w' => e = .returned (.bool true) ∧ Below w.heap.size w w' := by
  have hlen := hr.rec_len ucells_len (by omega)
  have hr1 := hr.alloc (Nat.le_refl _) (.cells #[.string user, .string acct, .int .i64 z] 24)
  have b1 := (Below.refl w.heap.size w).alloc (Nat.le_refl _) (.cells #[.string user, .string acct, .int .i64 z] 24)
  clear hr
  by_cases hf : fewV l = true
  · by_cases hg : ledgerV l = true
    · have hE : chkE l = 0 := by unfold chkE; rw [if_pos hg]
      have HG := Lib.hid hg
      have hle : n ≤ 200 := by have h := hlen.out; simp [ledgerV] at hg; omega
      clear hg
      go_enter Try.func5, Try.ntmps5
      go_wp2_with (first
        | (go_at_call 6; refine (few_any A n c _ l _ hn hr1).mono ?_; rintro e w' ⟨rfl, rfl⟩)
        | (go_at_call 13; refine (check_any A n c _ l _ hn hr1 (by simp)).mono ?_; rintro e w2 ⟨rfl, hb2⟩; rw [hE]))
      simp only [World.size_alloc] at hb2
      go_loopw [5, 6] (fun v i wr => ∃ (k : Nat) (Am : Option Addr) (cm : Nat), k ≤ 40 ∧ i = .int .i64 k ∧ v = .slice Am n cm ∧ Reads wr wr.heap.size 4 Am n (recs ucells (hN k l)) ∧ Below (w.heap.size + 1) (w.alloc (.cells #[.string user, .string acct, .int .i64 z] 24)) wr) (fun _ i _ => 40 - (intOf i).toNat)
      case atStart => exact ⟨0, A, c, Nat.zero_le _, rfl, rfl, (hr1.below (hb2.mono (by omega))).more (by have := hb2.size; simp at this; omega), hb2⟩
      case round =>
        obtain ⟨k, Am, cm, hk, rfl, rfl, rm, b4⟩ := hrel
        have hz4 := b4.size
        simp only [World.size_alloc] at hz4
        by_cases hlt : k < 40
        · have x0 : wr.cell? ⟨w.heap.size, 0, none⟩ = some (.string user) := by rw [b4.cell (by simp)]; simp [go_sem]
          have x1 : wr.cell? ⟨w.heap.size, 1, none⟩ = some (.string acct) := by rw [b4.cell (by simp)]; simp [go_sem]
          have rl := (hr1.below (b4.mono (by omega))).more (B' := wr.heap.size) (by omega)
          have HD := Lib.hid (hN_decay HG.out k)
          have hlk : Hid ((hN (k + 1) l).length = n) := by show _ = _; rw [hN_len]; exact hlen.out
          go_wp2_with (first
            | (go_at_call 11; refine (decay_any Am n cm _ (hN k l) _ hn rm (Nat.le_refl _)).mono ?_; rintro e w5 ⟨v5, rfl, o5, hb5⟩; rw [HD.out, hlk.out] at o5; obtain ⟨A5, c5, rfl, hc5, _⟩ := o5.slice; have r5 := o5.reads; have rm5 := (rm.below hb5).more (B' := w5.heap.size) hb5.size; have rl5 := (rl.below hb5).more (B' := w5.heap.size) hb5.size; have hz5 := hb5.size
               have y0 := (hb5.cell (p := ⟨w.heap.size, 0, none⟩) (by simp; omega)).trans x0
               have y1 := (hb5.cell (p := ⟨w.heap.size, 1, none⟩) (by simp; omega)).trans x1
               have hw5 : w.heap.size < w5.heap.size := (by omega)
               clear x0 x1 rm rl o5 hc5))
          have t1 : (togV (hN (k + 1) l) (fun u => u.used) != togV l (fun u => u.used)) = false := by rw [hN_tog HG.out (fun _ => rfl)]; simp
          have t2 : decide (togV (hN k l) (shareF user) < togV (hN (k + 1) l) (shareF user)) = false := by
            exact decide_eq_false (Int.not_lt.2 (share_half (hN_ledger HG.out k) user))
          have t3 : (togV (hN (k + 1) l) (usedF user acct) != togV l (usedF user acct)) = false := by rw [hN_tog HG.out (fun _ => rfl)]; simp
          have t4 : (chkE (hN (k + 1) l) != 0) = false := by unfold chkE; rw [if_pos (hN_ledger HG.out _)]; rfl
          refine wp_region_later (by kernel_rfl) (by kernel_rfl) ?_
          have hl_ := later_cell (w5)
          repeat (first | go_big_quiet_step ((first | (go_at_call 15; exact later_of (total_any A5 n c5 _ (hN (k + 1) l) _ hn (r5.below (Later.below _)) (Later.below _).size)) | (go_at_call 15; exact later_of (total_any A n c _ l _ hn (rl5.below (Later.below _)) (Later.below _).size)) | (go_at_call 18; exact later_of (share_any A5 n c5 _ (hN (k + 1) l) user _ hn (r5.below (Later.below _)) (Later.below _).size)) | (go_at_call 18; exact later_of (share_any Am n cm _ (hN k l) user _ hn (rm5.below (Later.below _)) (Later.below _).size)) | (go_at_call 17; exact later_of (used_any A5 n c5 _ (hN (k + 1) l) user acct _ hn (r5.below (Later.below _)) (Later.below _).size)) | (go_at_call 17; exact later_of (used_any A n c _ l user acct _ hn (rl5.below (Later.below _)) (Later.below _).size)) | (go_at_call 13; exact later_of (check_any A5 n c5 _ (hN (k + 1) l) _ hn (r5.below (Later.below _)) (Later.below _).size)))) | quiet_step ((first | (go_at_call 15; exact later_of (total_any A5 n c5 _ (hN (k + 1) l) _ hn (r5.below (Later.below _)) (Later.below _).size)) | (go_at_call 15; exact later_of (total_any A n c _ l _ hn (rl5.below (Later.below _)) (Later.below _).size)) | (go_at_call 18; exact later_of (share_any A5 n c5 _ (hN (k + 1) l) user _ hn (r5.below (Later.below _)) (Later.below _).size)) | (go_at_call 18; exact later_of (share_any Am n cm _ (hN k l) user _ hn (rm5.below (Later.below _)) (Later.below _).size)) | (go_at_call 17; exact later_of (used_any A5 n c5 _ (hN (k + 1) l) user acct _ hn (r5.below (Later.below _)) (Later.below _).size)) | (go_at_call 17; exact later_of (used_any A n c _ l user acct _ hn (rl5.below (Later.below _)) (Later.below _).size)) | (go_at_call 13; exact later_of (check_any A5 n c5 _ (hN (k + 1) l) _ hn (r5.below (Later.below _)) (Later.below _).size)))))
          refine wpQuiet_nil ?_
          intro w9 hx_
          obtain ⟨⟨w_, hb9⟩, e_⟩ := hx_
          have e2_ : w9 = w_ := e_
          clear e_
          subst e2_
          clear hl_
          clear y0 y1
          go_wp2
          go_roundw
          case rel => exact ⟨k + 1, A5, c5, by omega, by go_num, rfl, (r5.below hb9).more hb9.size, (b4.trans (hb5.mono (by omega))).trans (hb9.mono (by omega))⟩
          case measure => simp [intOf]; omega
        · obtain rfl : k = 40 := by omega
          have b5 : Below w.heap.size w wr := b1.trans (b4.mono (by omega))
          clear b4 hr1 b1 hb2
          go_wp2
          go_loop [8] (fun i => ∃ j : Nat, j ≤ n ∧ i = .int .i64 j) (fun i => n - (intOf i).toNat)
          case atStart => exact ⟨0, Nat.zero_le _, rfl⟩
          case round =>
            obtain ⟨j, hj, rfl⟩ := hrel
            by_cases hjn : j < n
            · obtain ⟨b, o, u, rfl, hbb, hx, c0, c1, c2, c3⟩ := rm.u_at hjn
              have hs : (u.share != 0) = false := by rw [hN_zero HG.out (List.mem_of_getElem? hx.out)]; rfl
              clear rm hx
              go_wp2
              go_round
              case rel => exact ⟨j + 1, by omega, by go_num⟩
              case measure => simp [intOf]; omega
            · clear rm
              go_wp2_with (go_at_call 7; refine (awake_any _).mono ?_; rintro e w9 ⟨rfl, hb9⟩)
              go_ret
              exact ⟨rfl, bt b5 hb9⟩
    · have hE : chkE l = 2 := by unfold chkE; rw [if_neg hg]
      clear hg
      go_enter Try.func5, Try.ntmps5
      go_wp2_with (first
        | (go_at_call 6; refine (few_any A n c _ l _ hn hr1).mono ?_; rintro e w' ⟨rfl, rfl⟩)
        | (go_at_call 13; refine (check_any A n c _ l _ hn hr1 (by simp)).mono ?_; rintro e w2 ⟨rfl, hb2⟩; rw [hE])
        | (go_at_call 7; refine (awake_any _).mono ?_; rintro e w9 ⟨rfl, hb9⟩))
      go_ret
      exact ⟨rfl, b1.trans ((bt hb2 hb9).mono (by simp))⟩
  · have hf' : fewV l = false := by simpa using hf
    clear hf
    go_enter Try.func5, Try.ntmps5
    go_wp2_with (first
      | (go_at_call 6; refine (few_any A n c _ l _ hn hr1).mono ?_; rintro e w' ⟨rfl, rfl⟩)
      | (go_at_call 7; refine (awake_any _).mono ?_; rintro e w9 ⟨rfl, hb9⟩))
    go_ret
    exact ⟨rfl, b1.trans (hb9.mono (by simp))⟩
end Go.Proofs.Ytlhogedcokcmhaa
