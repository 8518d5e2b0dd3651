/- Layer 5: the statement LexTokens. -/
import Derived.Test.YtenonfoocjcdmaaDoorLexR6
import Derived.Test.YtenonfoocjcdmaaDoorLexS1
namespace Go.Proofs.YtenonfoocjcdmaaDoor
set_option linter.unusedVariables false
open Go.RowKit
/-- a token without its place -/
def bare (t : Tk) : Tk := ⟨t.kind, t.text, t.num, 0⟩
theorem Reads.tk_at {w : World} {B n k : Nat} {A : Option Addr} {l : List Tk} (h : Reads w B 4 A n (recs tkC l)) (hk : k < n) :
    ∃ b o u, A = some ⟨b, o, none⟩ ∧ b < B ∧ Hid (l[k]? = some u) ∧ w.cell? ⟨b, o + k * 4, none⟩ = some (.int .i64 u.kind) ∧ w.cell? ⟨b, o + k * 4 + 1, none⟩ = some (.string u.text) ∧ w.cell? ⟨b, o + k * 4 + 2, none⟩ = some (.int .i64 u.num) ∧ w.cell? ⟨b, o + k * 4 + 3, none⟩ = some (.int .i64 u.at_) := by
  obtain ⟨b, o, u, e, hb, hx, hc⟩ := h.rec_at tkC_len (by omega) hk
  exact ⟨b, o, u, e, hb, hx, hc 0 _ rfl, hc 1 _ rfl, hc 2 _ rfl, hc 3 _ rfl⟩
set_option maxHeartbeats 1000000 in
theorem same05_true (A A2 : Option Addr) (n c c2 B B2 : Nat) (l : List Tk) (w : World) (hn : n ≤ maxLen) (hr : Reads w B 4 A n (recs tkC l)) (hr2 : Reads w B2 4 A2 n (recs tkC l)) :
    Calls Tryd.prog 20 #[.slice A n c, .slice A2 n c2, .bool true] w fun e w' => e = .returned (.bool true) ∧ ∃ k, w' = w.drewN k := by
  unfold maxLen at hn
  go_enter Tryd.func20, Tryd.ntmps20
  go_wp2
  go_loopw [7] (fun i wr => ∃ k m : Nat, k ≤ n ∧ i = .int .i64 k ∧ wr = w.drewN m) (fun i _ => n - (intOf i).toNat)
  case atStart => exact ⟨0, 0, Nat.zero_le _, rfl, rfl⟩
  case round =>
    obtain ⟨k, q, hk, rfl, rfl⟩ := hrel
    by_cases hlt : k < n
    · obtain ⟨b, o, u, rfl, hbb, hx, c0, c1, c2, c3⟩ := hr.tk_at hlt
      obtain ⟨b', o', v, rfl, hbb', hx', d0, d1, d2, d3⟩ := hr2.tk_at hlt
      obtain rfl : u = v := by have h := hx'.out; rw [hx.out] at h; exact Option.some.inj h
      have hj0 : (0 : Int) ≤ (k : Int) := by omega
      have hj1 : (k : Int) < (n : Int) := by omega
      clear hr hr2 hx hx'
      go_wp2
      go_quiet (fail)
      go_wp2
      go_roundw
      case rel => exact ⟨k + 1, _, by omega, by go_num, by first | rfl | exact World.drewN_drewN _ _ _⟩
      case measure => simp [intOf]; omega
    · clear hr hr2
      go_wp2
      go_ret
      exact ⟨rfl, q, rfl⟩
set_option maxHeartbeats 1000000 in
theorem same05_false (A A2 : Option Addr) (n c c2 B B2 : Nat) (l m : List Tk) (w : World) (hn : n ≤ maxLen) (hr : Reads w B 4 A n (recs tkC l)) (hr2 : Reads w B2 4 A2 n (recs tkC m)) (hs : l.map bare = m.map bare) :
    Calls Tryd.prog 20 #[.slice A n c, .slice A2 n c2, .bool false] w fun e w' => e = .returned (.bool true) ∧ ∃ k, w' = w.drewN k := by
  unfold maxLen at hn
  have hS := Lib.hid hs
  clear hs
  go_enter Tryd.func20, Tryd.ntmps20
  go_wp2
  go_loopw [7] (fun i wr => ∃ k m : Nat, k ≤ n ∧ i = .int .i64 k ∧ wr = w.drewN m) (fun i _ => n - (intOf i).toNat)
  case atStart => exact ⟨0, 0, Nat.zero_le _, rfl, rfl⟩
  case round =>
    obtain ⟨k, q, hk, rfl, rfl⟩ := hrel
    by_cases hlt : k < n
    · obtain ⟨b, o, u, rfl, hbb, hx, c0, c1, c2, c3⟩ := hr.tk_at hlt
      obtain ⟨b', o', v, rfl, hbb', hx', d0, d1, d2, d3⟩ := hr2.tk_at hlt
      have huv : bare u = bare v := by
        have h1 := congrArg (fun z => z[k]?) hS.out
        simp only [List.getElem?_map, hx.out, hx'.out, Option.map_some] at h1
        exact Option.some.inj h1
      have huv2 : u.kind = v.kind ∧ u.text = v.text ∧ u.num = v.num := by
        unfold bare at huv; injection huv with h1 h2 h3 _; exact ⟨h1, h2, h3⟩
      rw [← huv2.1] at d0
      rw [← huv2.2.1] at d1
      rw [← huv2.2.2] at d2
      have hj0 : (0 : Int) ≤ (k : Int) := by omega
      have hj1 : (k : Int) < (n : Int) := by omega
      clear hr hr2 hx hx' huv huv2
      go_wp2
      go_quiet (fail)
      go_wp2
      go_roundw
      case rel => exact ⟨k + 1, _, by omega, by go_num, by first | rfl | exact World.drewN_drewN _ _ _⟩
      case measure => simp [intOf]; omega
    · clear hr hr2
      go_wp2
      go_ret
      exact ⟨rfl, q, rfl⟩
theorem same05_any (A A2 : Option Addr) (n c c2 B B2 : Nat) (l m : List Tk) (pl : Bool) (w : World) (hn : n ≤ maxLen) (hr : Reads w B 4 A n (recs tkC l)) (hr2 : Reads w B2 4 A2 n (recs tkC m)) (hs : l.map bare = m.map bare) (hp : pl = true → l = m) :
    Calls Tryd.prog 20 #[.slice A n c, .slice A2 n c2, .bool pl] w fun e w' => e = .returned (.bool true) ∧ Below w.heap.size w w' :=
  by
  have key : Calls Tryd.prog 20 #[.slice A n c, .slice A2 n c2, .bool pl] w fun e w' => e = .returned (.bool true) ∧ ∃ k, w' = w.drewN k := by
    cases pl with
    | false => exact same05_false A A2 n c c2 B B2 l m w hn hr hr2 hs
    | true =>
      have h := hp rfl
      subst h
      exact same05_true A A2 n c c2 B B2 l w hn hr hr2
  exact key.mono (fun e w' ⟨h1, k, h2⟩ => ⟨h1, by rw [h2]; exact below_drewN (Below.refl _ _) _⟩)
def aw1 : ByteArray := ⟨#[83, 117, 98, 109, 105, 116, 32, 97, 50, 32, 110, 111, 100, 101, 115, 61, 52, 32, 49, 104, 32, 34, 120, 32, 121, 34]⟩
def aw2 : ByteArray := ⟨#[97, 32, 48, 48, 55]⟩
def awT : List Tk := [⟨1, ⟨#[115, 117, 98, 109, 105, 116]⟩, 0, 0⟩, ⟨1, ⟨#[97, 50]⟩, 0, 7⟩, ⟨1, ⟨#[110, 111, 100, 101, 115]⟩, 0, 10⟩, ⟨5, ⟨#[61]⟩, 0, 15⟩, ⟨2, ⟨#[]⟩, 4, 16⟩, ⟨3, ⟨#[49, 104]⟩, 0, 18⟩, ⟨4, ⟨#[120, 32, 121]⟩, 0, 21⟩]
theorem aw1_is : tokP aw1 = (awT, 26, 0) := by kernel_rfl
theorem aw2_is : tokP aw2 = ([], 2, 50) := by kernel_rfl
def awK : Tk := ⟨4, ⟨#[97, 34, 98]⟩, 0, 0⟩
theorem awK_is : checkP awK = 0 ∧ writtenP awK = ⟨#[34, 97, 92, 34, 98, 34]⟩ := ⟨by kernel_rfl, by kernel_rfl⟩
theorem aw0_is : checkP ⟨0, ⟨#[]⟩, 0, 0⟩ = 50 := by kernel_rfl
set_option maxHeartbeats 1000000 in
theorem awake05_any (w : World) : Calls Tryd.prog 21 #[] w fun e w' => e = .returned (.bool true) ∧ Below w.heap.size w w' := by
  have h1 := Lib.hid (fun v => tokens_any aw1 v)
  have h2 := Lib.hid (fun v => tokens_any aw2 v)
  have h3 := Lib.hid (fun v => lextext_any awK v ⟨by decide, fun h => absurd h (by decide)⟩)
  have h4 := Lib.hid (fun v => lexcheck_any ⟨0, ⟨#[]⟩, 0, 0⟩ v ⟨by decide, fun h => absurd h (by decide)⟩)
  rw [aw1_is] at h1
  rw [aw2_is] at h2
  rw [awK_is.1, awK_is.2, if_pos rfl] at h3
  rw [aw0_is] at h4
  unfold aw1 at h1
  unfold aw2 at h2
  unfold awK tkV at h3
  unfold tkV at h4
  go_enter Tryd.func21, Tryd.ntmps21
  go_wp2_with (fail)
  refine (h1.out _).mono ?_
  rintro e w1 ⟨v, rfl, ho1, hb1⟩
  obtain ⟨A, c, rfl, hcap, hcm⟩ := ho1.slice
  obtain ⟨g, c', hv, hg, hgl, _, _, hcells, _⟩ := ho1.at_ (by decide)
  injection hv with hA _ _
  subst hA
  have x0 : w1.cell? ⟨g, 1, none⟩ = some (.string ⟨#[115, 117, 98, 109, 105, 116]⟩) := hcells 1 _ rfl
  have x1 : w1.cell? ⟨g, 11, none⟩ = some (.int .i64 10) := hcells 11 _ rfl
  have x2 : w1.cell? ⟨g, 18, none⟩ = some (.int .i64 4) := hcells 18 _ rfl
  have x3 : w1.cell? ⟨g, 20, none⟩ = some (.int .i64 3) := hcells 20 _ rfl
  have x4 : w1.cell? ⟨g, 25, none⟩ = some (.string ⟨#[120, 32, 121]⟩) := hcells 25 _ rfl
  clear hcells ho1
  replace hb1 := Lib.hid hb1
  dsimp only [awT, List.length]
  go_wp2_with (fail)
  refine (h2.out _).mono ?_
  rintro e w2 ⟨v2, rfl, ho2, hb2⟩
  obtain ⟨A2, c2, rfl, hcap2, hcm2⟩ := ho2.slice
  have hgl2 : g < w2.heap.size := by have := hb2.size; omega
  rw [← hb2.cell (p := ⟨g, 1, none⟩) hgl] at x0
  rw [← hb2.cell (p := ⟨g, 11, none⟩) hgl] at x1
  rw [← hb2.cell (p := ⟨g, 18, none⟩) hgl] at x2
  rw [← hb2.cell (p := ⟨g, 20, none⟩) hgl] at x3
  rw [← hb2.cell (p := ⟨g, 25, none⟩) hgl] at x4
  replace hb2 := Lib.hid hb2
  clear ho2 hgl
  dsimp only [List.length]
  go_wp2_with (fail)
  refine (h3.out _).mono ?_
  rintro e w3 ⟨rfl, hb3⟩
  rw [← hb3.cell (p := ⟨g, 1, none⟩) hgl2] at x0
  rw [← hb3.cell (p := ⟨g, 11, none⟩) hgl2] at x1
  rw [← hb3.cell (p := ⟨g, 18, none⟩) hgl2] at x2
  rw [← hb3.cell (p := ⟨g, 20, none⟩) hgl2] at x3
  rw [← hb3.cell (p := ⟨g, 25, none⟩) hgl2] at x4
  replace hb3 := Lib.hid hb3
  dsimp only
  go_wp2_with (fail)
  refine (h4.out _).mono ?_
  rintro e w4 ⟨rfl, hb4⟩
  dsimp only
  go_wp2
  go_ret
  exact ⟨rfl, bt (bt (bt hb1.out hb2.out) hb3.out) hb4⟩
set_option maxHeartbeats 1000000 in
theorem lexTokens_walk (s : ByteArray) (w : World) : Calls Tryd.prog 6 #[.string s] w fun e w' => e = .returned (.bool true) ∧ Below w.heap.size w w' := by
  have h1 := Lib.hid (fun v => tokens_any s v)
  have h2 := Lib.hid (fun v => tokens05_any s v)
  obtain ⟨r, hr⟩ : ∃ r, Hid (tokP s = r) := ⟨_, rfl⟩
  rw [hr.out] at h1 h2
  obtain ⟨ts, n, er⟩ := r
  go_enter Tryd.func6, Tryd.ntmps6
  go_wp2_with (first
    | (go_at_call 18; refine (h1.out _).mono ?_; rintro e w1 ⟨v1, rfl, ho1, hb1⟩; obtain ⟨A1, c1, rfl, hcap1, hcm1⟩ := ho1.slice; replace ho1 := Lib.hid ho1; dsimp only at ho1 hcap1 ⊢)
    | (go_at_call 19; refine (h2.out _).mono ?_; rintro e w2 ⟨v2, rfl, ho2, hb2⟩; obtain ⟨A2, c2, rfl, hcap2, hcm2⟩ := ho2.slice; have hr1 := Lib.hid ((ho1.out.below hb2).reads); have hr2 := Lib.hid ho2.reads; clear ho2; dsimp only at hcap2 ⊢)
    | (go_at_call 20; refine (same05_any A1 A2 _ c1 c2 _ _ ts ts true _ (by omega) hr1.out hr2.out rfl (fun _ => rfl)).mono ?_; rintro e w3 ⟨rfl, hb3⟩)
    | (go_at_call 21; refine (awake05_any _).mono ?_; rintro e w4 ⟨rfl, hb4⟩))
  go_ret
  exact ⟨rfl, bt (bt (bt hb1 hb2) hb3) hb4⟩
end Go.Proofs.YtenonfoocjcdmaaDoor
