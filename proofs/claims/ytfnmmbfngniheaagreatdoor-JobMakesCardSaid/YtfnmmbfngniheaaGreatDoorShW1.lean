/- Layer 7: pairs in slices; a function that is handed over; what may be. -/
import Derived.Test.YtfnmmbfngniheaaGreatDoorShP
import Derived.Shelf.Abstract
namespace Go.Proofs.YtfnmmbfngniheaaGreatDoor
set_option linter.unusedVariables false
open Go.RowKit
theorem Reads.pr_at {w : World} {B n k : Nat} {A : Option Addr} {l : List Pr} (h : Reads w B 2 A n (recs prC l)) (hk : k < n) :
    ∃ (b o : Nat) (x : Pr), A = some ⟨b, o, none⟩ ∧ b < B ∧ Hid (l[k]? = some x) ∧ w.cell? ⟨b, o + k * 2, none⟩ = some (.int .i64 x.1) ∧ w.cell? ⟨b, o + k * 2 + 1, none⟩ = some (.int .i64 x.2) := by
  obtain ⟨b, o, x, e, hb, hx, hc⟩ := h.rec_at prC_len (by omega) hk
  exact ⟨b, o, x, e, hb, hx, hc 0 _ rfl, hc 1 _ rfl⟩
/-- what is asked of a function that tells of pairs, and may lay memory of its own -/
def PredB (g : Nat) (lb : Array Value) (p : Pr → Bool) (w : World) : Prop :=
  ∀ (W : World) (x : Pr), Below w.heap.size w W → Calls Tryz.prog g (#[.agg #[.int .i64 x.1, .int .i64 x.2]] ++ lb) W fun e w' => e = .returned (.bool (p x)) ∧ Below w.heap.size w w'
def idxP (p : Pr → Bool) (l : List Pr) : Int := match l.findIdx? p with | some i => (i : Int) | none => -1
theorem idxP_hit {p : Pr → Bool} {l : List Pr} {k : Nat} {x : Pr} (hx : l[k]? = some x) (hp : p x = true) (hn : ∀ j y, j < k → l[j]? = some y → p y = false) : idxP p l = (k : Int) := by
  have h : l.findIdx? p = some k := by
    rw [List.findIdx?_eq_some_iff_getElem]
    obtain ⟨h1, h2⟩ := List.getElem?_eq_some_iff.1 hx
    refine ⟨h1, by rw [h2]; exact hp, fun j hj => ?_⟩
    rw [hn j _ hj (List.getElem?_eq_getElem (by omega))]; decide
  unfold idxP; rw [h]
theorem idxP_miss {p : Pr → Bool} {l : List Pr} (hn : ∀ j y, j < l.length → l[j]? = some y → p y = false) : idxP p l = -1 := by
  have h : l.findIdx? p = none := by
    rw [List.findIdx?_eq_none_iff]
    intro x hx
    obtain ⟨j, hj, rfl⟩ := List.mem_iff_getElem.1 hx
    exact hn j _ hj (List.getElem?_eq_getElem hj)
  unfold idxP; rw [h]
theorem idxP_any (p : Pr → Bool) (l : List Pr) : decide (0 ≤ idxP p l) = l.any p := by
  unfold idxP
  cases h : l.findIdx? p with
  | none =>
    rw [List.findIdx?_eq_none_iff] at h
    have : l.any p = false := by rw [List.any_eq_false]; intro x hx; rw [h x hx]; decide
    rw [this]; rfl
  | some i =>
    rw [List.findIdx?_eq_some_iff_getElem] at h
    obtain ⟨h1, h2, _⟩ := h
    have : l.any p = true := List.any_eq_true.2 ⟨_, List.getElem_mem h1, h2⟩
    rw [this]; simp
theorem fine_any (a : Pr) (w : World) : Calls Tryz.prog 189 #[.agg #[.int .i64 a.1, .int .i64 a.2]] w fun e w' => e = .returned (.bool (fineA a)) ∧ Below w.heap.size w w' := by
  obtain ⟨x, y⟩ := a
  unfold fineA
  dsimp only
  cases h1 : decide (1 ≤ x) <;> cases h2 : decide (x ≤ 48) <;> cases h3 : decide (1 ≤ y) <;> cases h4 : decide (y ≤ 100000)
  all_goals
    go_enter Tryz.func189, Tryz.ntmps189
    go_wp2
    go_ret
    exact ⟨rfl, (Below.refl _ _).alloc (Nat.le_refl _) _⟩
set_option maxHeartbeats 1000000 in
theorem idxA_any (p : Pr → Bool) (g : Nat) (lb : Array Value) (eg : ∀ args w, (callFunc g args).run Tryz.prog w = .ok (.enter g args) w) (A : Option Addr) (n c B : Nat) (l : List Pr) (w : World)
    (hr : Reads w B 2 A n (recs prC l)) (hB : B ≤ w.heap.size) (hn : n ≤ 1000000) (hp : PredB g lb p w) :
    Calls Tryz.prog 202 #[.slice A n c, .func (.func g) #[] lb] w fun e w' => e = .returned (.int .i64 (idxP p l)) ∧ Below w.heap.size w w' := by
  have hlen := hr.rec_len prC_len (by omega)
  have HP := Lib.hid hp
  clear hp
  go_enter Tryz.func202, Tryz.ntmps202
  go_wp2
  go_loopw [5, 8] (fun _ i wr => ∃ k : Nat, k ≤ n ∧ i = .int .i64 k ∧ Below w.heap.size w wr ∧ Hid (∀ j y, j < k → l[j]? = some y → p y = false)) (fun _ i _ => n - (intOf i).toNat)
  case atStart => exact ⟨0, Nat.zero_le _, rfl, Below.refl _ _, Lib.hid (fun j y hj => by omega)⟩
  case round =>
    obtain ⟨k, hk, rfl, hbr, HN⟩ := hrel
    by_cases hlt : k < n
    · have hr1 := hr.below (hbr.mono hB)
      obtain ⟨b, o, x, rfl, hbb, hx, c0, c1⟩ := hr1.pr_at hlt
      have hcall := Lib.hid (HP.out wr x hbr)
      have hj0 : (0 : Int) ≤ (k : Int) := by omega
      have hj1 : (k : Int) < (n : Int) := by omega
      have t0 : decide ((k : Int) < (n : Int)) = true := by simp; omega
      clear hr1
      cases hq : p x with
      | true =>
        rw [hq] at hcall
        have HR : Hid (idxP p l = (k : Int)) := by show _ = _; exact idxP_hit hx.out hq HN.out
        go_wp2_with (go_at_fn g; refine hcall.out.mono ?_; rintro e w' ⟨rfl, hb'⟩)
        go_ret
        exact ⟨by rw [HR.out]; rfl, hb'⟩
      | false =>
        rw [hq] at hcall
        have HN2 : Hid (∀ j y, j < k + 1 → l[j]? = some y → p y = false) := Lib.hid (fun j y hj hy => by
          by_cases e : j = k
          · subst e; rw [hx.out] at hy; rw [← Option.some.inj hy]; exact hq
          · exact HN.out j y (by omega) hy)
        go_wp2_with (go_at_fn g; refine hcall.out.mono ?_; rintro e w' ⟨rfl, hb'⟩)
        go_roundw
        case rel => exact ⟨k + 1, by omega, by simp, hb', HN2⟩
        case measure => simp [intOf]; omega
    · obtain rfl : k = n := by omega
      have t0 : decide ((k : Int) < (k : Int)) = false := by simp
      have HR : Hid (idxP p l = -1) := by show _ = _; exact idxP_miss (fun j y hj hy => HN.out j y (by rw [← hlen.out]; exact hj) hy)
      go_wp2
      go_ret
      exact ⟨by rw [HR.out]; rfl, hbr⟩
theorem hasA_any (p : Pr → Bool) (g : Nat) (lb : Array Value) (eg : ∀ args w, (callFunc g args).run Tryz.prog w = .ok (.enter g args) w) (A : Option Addr) (n c B : Nat) (l : List Pr) (w : World)
    (hr : Reads w B 2 A n (recs prC l)) (hB : B ≤ w.heap.size) (hn : n ≤ 1000000) (hp : PredB g lb p w) :
    Calls Tryz.prog 191 #[.slice A n c, .func (.func g) #[] lb] w fun e w' => e = .returned (.bool (l.any p)) ∧ Below w.heap.size w w' := by
  have hc := Lib.hid (idxA_any p g lb eg A n c B l w hr hB hn hp)
  have HR := Lib.hid (idxP_any p l)
  obtain ⟨i, hi⟩ : ∃ i, Hid (idxP p l = i) := ⟨_, rfl⟩
  rw [hi.out] at hc HR
  clear hr hp
  go_enter Tryz.func191, Tryz.ntmps191
  go_wp2_with (fail)
  refine hc.out.mono ?_; rintro e w' ⟨rfl, hb'⟩
  go_wp2
  go_ret
  exact ⟨by rw [← HR.out]; rfl, hb'⟩
end Go.Proofs.YtfnmmbfngniheaaGreatDoor
