/- Layer 5: the reference's digits, written, Check, Text. -/
import Derived.Test.YtjmhaoplablmnaaGreatDoorK9s
import Derived.Test.YtjmhaoplablmnaaGreatDoorK8s
import Derived.Test.YtjmhaoplablmnaaGreatDoorK4s
import Derived.Test.YtjmhaoplablmnaaGreatDoorK5s
namespace Go.Proofs.YtjmhaoplablmnaaGreatDoor
set_option linter.unusedVariables false
open Go.RowKit
theorem str_app1 {s : ByteArray} {l : List UInt8} {b : UInt8} (h : (⟨l.toArray⟩ : ByteArray) = s) : s ++ (⟨#[b]⟩ : ByteArray) = ⟨(l ++ [b]).toArray⟩ := by
  subst h
  apply Go.WideShapes.bytes_inj
  simp [ByteArray.data_append]
theorem dd_len : ∀ (k n : Nat), 0 < k → n < 10 ^ k → (Lib.decDigits n).length ≤ k := by
  intro k
  induction k with
  | zero => intro n h; omega
  | succ k ih =>
    intro n _ hn
    by_cases h : n < 10
    · rw [dd_lt h]; simp
    · rw [dd_ge h, List.length_append]
      have hk : 0 < k := by
        rcases Nat.eq_zero_or_pos k with h0 | h0
        · subst h0; simp at hn; omega
        · exact h0
      have := ih (n / 10) hk (by rw [Nat.pow_succ] at hn; omega)
      simp; omega
set_option maxRecDepth 10000 in
theorem digits05_lt (n : Nat) (w : World) (hn : n < 10) : Calls Tryz.prog 136 #[.int .i64 n] w fun e w' => e = .returned (.string ⟨(Lib.decDigits n).toArray⟩) ∧ Below w.heap.size w w' := by
  have H := Lib.hid (dd_lt hn)
  obtain ⟨b, h1, h2⟩ := byte_of (n := 48 + n) (by omega)
  have hc := conv_one w (48 + (n : Int)) b _ 1 rfl (by omega)
  have t0 : decide ((n : Int) < 0) = false := by simp
  clear h2
  go_enter Tryz.func136, Tryz.ntmps136
  go_wp2_with fail
  go_ret
  exact ⟨by rw [H.out, h1.out]; rfl, (Below.refl _ _).alloc (Nat.le_refl _) _⟩
set_option maxRecDepth 10000 in
theorem digits05_any : ∀ (n : Nat) (w : World), n ≤ 9223372036854775807 → Calls Tryz.prog 136 #[.int .i64 n] w fun e w' => e = .returned (.string ⟨(Lib.decDigits n).toArray⟩) ∧ Below w.heap.size w w' := by
  intro n
  induction n using Nat.strongRecOn with
  | _ n ih =>
  intro w hn
  by_cases h : n < 10
  · exact digits05_lt n w h
  · have H := Lib.hid (dd_ge h)
    obtain ⟨q, hq⟩ : ∃ q, Hid (n / 10 = q) := ⟨_, rfl⟩
    obtain ⟨r, hr⟩ : ∃ r, Hid (n % 10 = r) := ⟨_, rfl⟩
    have hq1 : q < n := by have := hq.out; omega
    have hr1 : r < 10 := by have := hr.out; omega
    have IH := Lib.hid (fun v => ih q hq1 v (by omega))
    have t0 : decide ((n : Int) < 0) = false := by simp
    have k1 : IntKind.i64.wrap ((n : Int) / 10) = (q : Int) := by rw [IntWalk.i64_in _ (by omega)]; have := hq.out; omega
    have k2 : (n : Int).tmod 10 = (r : Int) := by rw [Int.tmod_eq_emod_of_nonneg (by omega)]; have := hr.out; omega
    have k3 : IntKind.i64.wrap (48 + (r : Int)) = 48 + (r : Int) := IntWalk.i64_in _ (by omega)
    have k4 : IntKind.u8.wrap (48 + (r : Int)) = 48 + (r : Int) := IntWalk.u8_in _ (by omega)
    obtain ⟨b, h1, h2⟩ := byte_of (n := 48 + r) (by omega)
    have hc := fun (W : World) (g : Nat) => conv_cell (w := W) (b := g) (cap := 1) (x := 48 + (r : Int)) (n := b) (by omega)
    obtain ⟨D, hD1, hD2, hD3⟩ := ba_of (Lib.decDigits q)
    have HF : Hid (Lib.decDigits n = Lib.decDigits q ++ [b]) := by show _ = _; rw [H.out, hq.out, hr.out, h1.out]
    have HS := Lib.hid (str_app1 (b := b) hD2.out)
    have hD4 : D.size ≤ 20 := by rw [hD3]; exact dd_len 20 q (by omega) (by omega)
    clear h2 ih hD3
    go_enter Tryz.func136, Tryz.ntmps136
    go_wp2_with fail
    go_region_with (go_at_call 136; refine (IH.out _).mono ?_; rintro e w1 ⟨rfl, hb1⟩; rw [hD2.out]; have hcc := fun b o h => hb1.cell (p := ⟨b, o, none⟩) h)
    all_goals
      go_wp2_with fail
      go_ret
      refine ⟨by rw [HF.out, ← HS.out]; rfl, ?_⟩
      have hz1 := hb1.size
      (try simp only [World.size_alloc, World.size_drew] at hz1)
      first
      | exact ((below_drew (Below.refl _ _)).trans (hb1.mono (by simp))).alloc (by omega) _
      | exact (below_drew ((Below.refl _ _).alloc (Nat.le_refl _) _)).trans (hb1.mono (by simp))
theorem digits05_neg (n : Int) (w : World) (hn : n < 0) : Calls Tryz.prog 136 #[.int .i64 n] w fun e w' => e = .returned (.string ⟨#[]⟩) ∧ Below w.heap.size w w' := by
  go_enter Tryz.func136, Tryz.ntmps136
  go_wp2_with fail
  go_ret
  exact ⟨rfl, Below.refl _ _⟩
def TkR (t : Tk) : Prop := t.text.size ≤ 1000000 ∧ t.num ≤ 9223372036854775807
theorem written05_any (t : Tk) (w : World) (h : TkR t) :
    Calls Tryz.prog 101 #[tkV t] w fun e w' => e = .returned (.string (writtenR t)) ∧ Below w.heap.size w w' := by
  obtain ⟨hs, hn⟩ := h
  have hB := Lib.hid (boxW_below t w)
  unfold tkV
  by_cases h2 : t.kind = 2
  · have t2 : (t.kind == 2) = true := by simpa using h2
    by_cases h0 : t.num < 0
    · have hd := Lib.hid (digits05_neg t.num (boxW t w) h0)
      have hP2 : Hid (writtenR t = ⟨#[]⟩) := by show _ = _; unfold writtenR; rw [if_pos ⟨h2, h0⟩]
      clear h0 h2
      go_enter Tryz.func101, Tryz.ntmps101
      go_wp2_with (go_at_call 136; refine Calls.mono hd.out ?_; rintro e w1 ⟨rfl, hb1⟩)
      go_ret
      exact ⟨by rw [hP2.out]; first | done | rfl, hB.out.trans (hb1.mono (by simp [boxW]))⟩
    · obtain ⟨n, hnn⟩ := Int.eq_ofNat_of_zero_le (show 0 ≤ t.num by omega)
      have hd := Lib.hid (digits05_any n (boxW t w) (by omega))
      have hP2 : Hid (writtenR t = ⟨(Lib.decDigits n).toArray⟩) := by show _ = _; unfold writtenR writtenP; rw [if_neg (fun x => h0 x.2), if_pos h2, hnn, itoa_nat]
      rw [← hnn] at hd
      clear h0 h2 hnn
      go_enter Tryz.func101, Tryz.ntmps101
      go_wp2_with (go_at_call 136; refine Calls.mono hd.out ?_; rintro e w1 ⟨rfl, hb1⟩)
      go_ret
      exact ⟨by rw [hP2.out]; first | done | rfl, hB.out.trans (hb1.mono (by simp [boxW]))⟩
  · have t2 : (t.kind == 2) = false := by simpa using h2
    have hw : writtenR t = writtenP t := by unfold writtenR; rw [if_neg (fun x => h2 x.1)]
    rw [hw]
    clear hw
    by_cases h4 : t.kind = 4
    · have t4 : (t.kind == 4) = true := by simpa using h4
      by_cases hok : okL (bl t.text) = true
      · have hq := Lib.hid (rquote_ok t.text (boxW t w) (by omega) hok)
        have hP2 : Hid (writtenP t = ⟨(quoteL (bl t.text)).toArray⟩) := by show _ = _; unfold writtenP; rw [if_neg h2, if_pos h4, if_pos hok]
        clear h2 h4 hok
        go_enter Tryz.func101, Tryz.ntmps101
        go_wp2_with (go_at_call 28; refine Calls.mono hq.out ?_; rintro e w1 ⟨rfl, hb1⟩)
        go_ret
        exact ⟨by rw [hP2.out]; first | done | rfl, hB.out.trans (hb1.mono (by simp [boxW]))⟩
      · have hq := Lib.hid (rquote_bad t.text (boxW t w) (by unfold maxLen; omega) (by simpa using hok))
        have hP2 : Hid (writtenP t = ⟨#[]⟩) := by show _ = _; unfold writtenP; rw [if_neg h2, if_pos h4, if_neg hok]
        clear h2 h4 hok
        go_enter Tryz.func101, Tryz.ntmps101
        go_wp2_with (go_at_call 28; refine Calls.mono hq.out ?_; rintro e w1 ⟨rfl, hb1⟩)
        go_ret
        exact ⟨by rw [hP2.out]; first | done | rfl, hB.out.trans (hb1.mono (by simp [boxW]))⟩
    · have t4 : (t.kind == 4) = false := by simpa using h4
      have hP2 : Hid (writtenP t = t.text) := by show _ = _; unfold writtenP; rw [if_neg h2, if_neg h4]
      clear h2 h4
      go_enter Tryz.func101, Tryz.ntmps101
      go_wp2
      go_ret
      exact ⟨by rw [hP2.out]; first | done | rfl, hB.out⟩
theorem neq_text {a b : ByteArray} : (a.toList != b.toList) = true ↔ a ≠ b := by
  rw [bne_iff_ne, ne_eq, ne_eq, not_congr]
  constructor
  · intro h; rw [ByteArray.toList_eq, ByteArray.toList_eq] at h; exact Go.WideShapes.bytes_inj h
  · intro h; rw [h]
set_option maxHeartbeats 1000000 in
theorem check05_any (t : Tk) (w : World) (h : TkR t) :
    Calls Tryz.prog 57 #[tkV t] w fun e w' => e = .returned (.int .i64 (checkP t)) ∧ Below w.heap.size w w' := by
  rw [← checkR_eq]
  have hB := Lib.hid (boxW_below t w)
  have hwr := Lib.hid (written05_any t (boxW t w) h)
  have htk := Lib.hid (fun v => tokens05_any (writtenR t) v)
  have hbx := Lib.hid (heap_alloc_new w (.cells #[.int .i64 t.kind, .string t.text, .int .i64 t.num, .int .i64 t.at_] 96))
  have hP : Hid (checkR t = if (tokP (writtenR t)).2.2 = 0 then (match (tokP (writtenR t)).1 with | [x] => if x.kind = t.kind ∧ x.text = t.text ∧ x.num = t.num then 0 else 50 | _ => 50) else 50) := rfl
  have hsz : (boxW t w).heap.size = w.heap.size + 1 := by simp [boxW]
  obtain ⟨s, hs⟩ : ∃ s, Hid (writtenR t = s) := ⟨_, rfl⟩
  rw [hs.out] at hwr htk hP
  obtain ⟨r, hr⟩ : ∃ r, Hid (tokP s = r) := ⟨_, rfl⟩
  rw [hr.out] at htk hP
  obtain ⟨ts, n, er⟩ := r
  dsimp only at hP
  unfold tkV at hwr ⊢
  clear h
  go_enter Tryz.func57, Tryz.ntmps57
  go_wp2_with (fail)
  refine Calls.mono hwr.out ?_
  rintro e w1 ⟨rfl, hb1⟩
  have hz1 := hb1.size
  dsimp only
  go_wp2_with (fail)
  refine (htk.out _).mono ?_
  rintro e w2 ⟨v, rfl, ho2, hb2⟩
  have hz2 := hb2.size
  have e2 := (hb2.block _ (by omega)).trans ((hb1.block _ (by omega)).trans hbx.out)
  have hB2 := Lib.hid (hB.out.trans ((hb1.trans (hb2.mono (by omega))).mono (by omega)))
  obtain ⟨f2, c20, c21, c22, c23⟩ := row4 e2
  obtain ⟨A, c, rfl, hcap, hcm⟩ := ho2.slice
  dsimp only at ho2
  replace ho2 := Lib.hid ho2
  have hlt2 := lt_of_block e2
  replace e2 := Lib.hid e2
  clear hb1 hb2 hz1 hz2 hsz
  dsimp only
  by_cases her : er = 0
  case neg =>
    have te : (er != 0) = true := by simpa using her
    have hP2 : Hid (checkR t = 50) := by show _ = _; rw [hP.out, if_neg her]
    clear her hP
    go_wp2
    go_ret
    exact ⟨by rw [hP2.out]; first | done | rfl, hB2.out⟩
  subst her
  rcases ts with _ | ⟨x, _ | ⟨y, l⟩⟩
  · have hP2 : Hid (checkR t = 50) := by show _ = _; rw [hP.out, if_pos rfl]
    clear hP
    go_wp2
    go_ret
    exact ⟨by rw [hP2.out]; first | done | rfl, hB2.out⟩
  · obtain ⟨g, c', hv, hg, hgl, _, _, hcells, _⟩ := ho2.out.at_ (by simp)
    injection hv with hA _ _
    subst hA
    have x0 : w2.cell? ⟨g, 0, none⟩ = some (.int .i64 x.kind) := hcells 0 _ rfl
    have x1 : w2.cell? ⟨g, 1, none⟩ = some (.string x.text) := hcells 1 _ rfl
    have x2 : w2.cell? ⟨g, 2, none⟩ = some (.int .i64 x.num) := hcells 2 _ rfl
    have x3 : w2.cell? ⟨g, 3, none⟩ = some (.int .i64 x.at_) := hcells 3 _ rfl
    clear hcells
    have hno : ¬ (x.kind = t.kind ∧ x.text = t.text ∧ x.num = t.num) → Hid (checkR t = 50) := fun hh => by show _ = _; rw [hP.out, if_pos rfl]; dsimp only; rw [if_neg hh]
    by_cases d1 : x.kind = t.kind
    case neg =>
      have hP2 := hno (fun hh => d1 hh.1)
      have t1 : (x.kind != t.kind) = true := by simpa using d1
      clear hP hno d1
      go_wp2
      go_ret
      exact ⟨by rw [hP2.out]; first | done | rfl, hB2.out.alloc (by omega) _⟩
    have t1 : (x.kind != t.kind) = false := by simpa using d1
    by_cases d2 : x.text = t.text
    case neg =>
      have hP2 := hno (fun hh => d2 hh.2.1)
      have t2 : (x.text.toList != t.text.toList) = true := neq_text.2 d2
      have t2' : (x.text.toList == t.text.toList) = false := by simpa using t2
      clear hP hno d1 d2
      go_wp2
      go_ret
      exact ⟨by rw [hP2.out]; first | done | rfl, hB2.out.alloc (by omega) _⟩
    have t2 : (x.text.toList != t.text.toList) = false := by rw [d2]; simp
    have t2' : (x.text.toList == t.text.toList) = true := by rw [d2]; simp
    by_cases d3 : x.num = t.num
    case neg =>
      have hP2 := hno (fun hh => d3 hh.2.2)
      have t3 : (x.num != t.num) = true := by simpa using d3
      clear hP hno d1 d2 d3
      go_wp2
      go_ret
      exact ⟨by rw [hP2.out]; first | done | rfl, hB2.out.alloc (by omega) _⟩
    have t3 : (x.num != t.num) = false := by simpa using d3
    have hP2 : Hid (checkR t = 0) := by show _ = _; rw [hP.out, if_pos rfl]; dsimp only; rw [if_pos ⟨d1, d2, d3⟩]
    clear hP hno d1 d2 d3
    go_wp2
    go_ret
    exact ⟨by rw [hP2.out]; first | done | rfl, hB2.out.alloc (by omega) _⟩
  · have hP2 : Hid (checkR t = 50) := by show _ = _; rw [hP.out, if_pos rfl]
    have hl2 : ((((x :: y :: l).length : Nat) : Int) != 1) = true := by simp; omega
    obtain ⟨N, hN⟩ : ∃ N, Hid ((x :: y :: l).length = N) := ⟨_, rfl⟩
    rw [hN.out] at hl2 ⊢
    clear hP
    go_wp2
    go_ret
    exact ⟨by rw [hP2.out]; first | done | rfl, hB2.out⟩
end Go.Proofs.YtjmhaoplablmnaaGreatDoor
