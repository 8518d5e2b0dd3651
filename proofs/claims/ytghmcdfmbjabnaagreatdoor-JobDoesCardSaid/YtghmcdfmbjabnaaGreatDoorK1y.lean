/- Words for memory used by all contracts of this family: a slice that reads as a list of cells, and small closing lemmas. Slices of structs: a list of records reads as the cells of its records, one behind the other. append onto a row of the call's own: the laws that the walks below use. The call's own slices, those without room among them; append onto them. Regions that draw their order, whose operations read and whose calls make memory: one walk of the text serves, in the class of the worlds that keep all old blocks. Arguments opened: a slice of records reads as a list. Plain arithmetic for layer 1: clamped sums and products, no program in sight. Contracts of the functions of layer 1 (sat) and of its reference: what each call returns, for every input. -/
import Derived.Test.YtghmcdfmbjabnaaGreatDoorK1t
import Derived.Test.YtghmcdfmbjabnaaGreatDoorRows
import Derived.WalkKit
import Derived.WalkSpells
import Derived.WalkLawsBesides
import Derived.Lib.Hide
import Derived.Laws.OwnMore
import Derived.Deep.AppendLies
import Derived.Deep.Draws
import Derived.Maps.AppendAt
import Derived.RegionTactic
import Derived.OwnWalk
import Derived.Lib.UnsafeStr
import Derived.Lib.OthersKept
import Derived.Deep.QuietTactic
import Derived.BigQuiet
import Derived.Deep.Slices
import Derived.Deep.Fields
import Derived.ChangeArms
namespace Go.Proofs.YtghmcdfmbjabnaaGreatDoor
set_option linter.unusedVariables false
open Go.RowKit
section
variable {w w' : World} {B B' size n : Nat} {A : Option Addr} {xs : List Value}
end
theorem Reads.int_at {w : World} {B n k : Nat} {A : Option Addr} {xs : List Int} (h : Reads w B 1 A n (ints xs)) (hk : k < n) :
    ∃ ad x, A = some ad ∧ ad.block < B ∧ Hid (xs[k]? = some x) ∧ w.cell? (ad.add k) = some (.int .i64 x) := by
  obtain ⟨ad, u, e, hb, hx, hc⟩ := h.at_ hk
  simp only [ints, List.getElem?_map, Option.map_eq_some_iff] at hx
  obtain ⟨x, hx, rfl⟩ := hx
  exact ⟨ad, x, e, hb, hx, hc⟩
section
variable {P : Program} (w : World)
end
section
variable {w w' : World} {B : Nat} {e : TypeId} {size n : Nat} {v : Value} {xs : List Value}
end
section
variable {P : Program} (w : World)
end
end Go.Proofs.YtghmcdfmbjabnaaGreatDoor
namespace Go.Proofs.YtghmcdfmbjabnaaGreatDoor
set_option linter.unusedVariables false
open Go.RowKit Go.ChangeShapes Go.WideShapes Go.Deep
section
variable {H : Type} {enc0 : TypeId × Value → H} {w : World} {base : Nat} {held : Bool}
end
end Go.Proofs.YtghmcdfmbjabnaaGreatDoor
namespace Go.Proofs.YtghmcdfmbjabnaaGreatDoor
set_option linter.unusedVariables false
theorem clamp_bd (n : Int) {E : Int} (h : 0 ≤ E) : 0 ≤ clamp n 0 E ∧ clamp n 0 E ≤ E := by unfold clamp; split <;> (try split) <;> omega
theorem clamp_cases (n : Int) {E : Int} (h : 0 ≤ E) : (n < 0 ∧ clamp n 0 E = 0) ∨ (0 ≤ n ∧ n ≤ E ∧ clamp n 0 E = n) ∨ (E < n ∧ clamp n 0 E = E) := by
  unfold clamp; split <;> (try split) <;> omega
/-- the sum of clamped numbers -/
def tot (E : Int) : List Int → Int
  | [] => 0
  | x :: r => clamp x 0 E + tot E r
theorem tot_nonneg (E : Int) (h : 0 ≤ E) (l : List Int) : 0 ≤ tot E l := by
  induction l with
  | nil => simp [tot]
  | cons x r ih => have := clamp_bd x h; simp only [tot]; omega
theorem tot_append (E : Int) (a b : List Int) : tot E (a ++ b) = tot E a + tot E b := by
  induction a with
  | nil => simp [tot]
  | cons x r ih => simp only [List.cons_append, tot, ih]; omega
theorem tot_take_succ (E : Int) (l : List Int) (k : Nat) (h : k < l.length) : tot E (l.take (k + 1)) = tot E (l.take k) + clamp (l.getD k 0) 0 E := by
  rw [List.take_succ_eq_append_getElem h, tot_append]
  simp [tot, List.getD, List.getElem?_eq_getElem h]
theorem tot_take_next {E : Int} {l : List Int} {k : Nat} {x : Int} (h : l[k]? = some x) : tot E (l.take (k + 1)) = tot E (l.take k) + clamp x 0 E := by
  obtain ⟨hk, hx⟩ := List.getElem?_eq_some_iff.1 h
  rw [tot_take_succ E l k hk]; simp [List.getD, h]
theorem tot_take_le (E : Int) (hE : 0 ≤ E) (l : List Int) (k : Nat) : tot E (l.take k) ≤ tot E l := by
  have h := tot_append E (l.take k) (l.drop k)
  rw [List.take_append_drop] at h
  have := tot_nonneg E hE (l.drop k)
  omega
/-- what is added, held at an end -/
def addV (E : Int) (l : List Int) : Int := if tot E l ≤ E then tot E l else E
/-- it was not too much -/
def fitsV (E : Int) (l : List Int) : Bool := decide (tot E l ≤ E)
theorem addV_bd (E : Int) (h : 0 ≤ E) (l : List Int) : 0 ≤ addV E l ∧ addV E l ≤ E := by
  have := tot_nonneg E h l
  unfold addV; split <;> omega
theorem addV_of_le {E : Int} {l : List Int} (h : tot E l ≤ E) : addV E l = tot E l := by simp [addV, h]
theorem addV_of_gt {E : Int} {l : List Int} (h : E < tot E l) : addV E l = E := by unfold addV; rw [if_neg (by omega)]
theorem fitsV_of_le {E : Int} {l : List Int} (h : tot E l ≤ E) : fitsV E l = true := by simp [fitsV, h]
theorem fitsV_of_gt {E : Int} {l : List Int} (h : E < tot E l) : fitsV E l = false := by simp [fitsV]; omega
/-- one step of the reference's sum -/
theorem addV_step (E : Int) (hE : 0 ≤ E) (l : List Int) (k : Nat) (x : Int) (h : l[k]? = some x) : clamp (addV E (l.take k) + clamp x 0 E) 0 E = addV E (l.take (k + 1)) := by
  have h1 := tot_take_next (E := E) h
  have h2 := clamp_bd x hE
  have h3 := tot_nonneg E hE (l.take k)
  unfold addV
  rw [h1]
  rcases clamp_cases ((if tot E (l.take k) ≤ E then tot E (l.take k) else E) + clamp x 0 E) hE with h4 | h4 | h4 <;> (try rw [h4.2.2]) <;> (try rw [h4.2]) <;> split at h4 <;> (try split) <;> omega
end Go.Proofs.YtghmcdfmbjabnaaGreatDoor
namespace Go.Proofs.YtghmcdfmbjabnaaGreatDoor
set_option linter.unusedVariables false
open Go.RowKit
set_option maxHeartbeats 400000 in
theorem sum_any (E : Int) (A : Option Addr) (n c B : Nat) (xs : List Int) (w : World) (hE : 0 ≤ E) (hE2 : E ≤ 1000000000000) (hn : n ≤ maxLen)
    (hr : Reads w B 1 A n (ints xs)) :
    Calls Tryz.prog 158 #[.int .i64 E, .slice A n c] w fun e w' => e = .returned (.tuple #[.int .i64 (addV E xs), .bool (fitsV E xs)]) ∧ w = w' := by
  have hlen : Hid (xs.length = n) := hr.len
  unfold maxLen at hn
  go_enter Tryz.func158, Tryz.ntmps158
  go_wp2
  go_loop [6, 12] (fun l i => ∃ k : Nat, k ≤ n ∧ i = .int .i64 k ∧ l = .int .i64 (E - tot E (xs.take k)) ∧ tot E (xs.take k) ≤ E) (fun _ i => n - (intOf i).toNat)
  case atStart => exact ⟨0, Nat.zero_le _, rfl, by simp [tot], by simp [tot]; omega⟩
  case round =>
    obtain ⟨k, hk, rfl, rfl, ht⟩ := hrel
    have h0 := tot_nonneg E hE (xs.take k)
    by_cases hlt : k < n
    · obtain ⟨ad, x, rfl, hb, hx, hc⟩ := hr.int_at hlt
      have hs := Lib.hid (tot_take_next (E := E) hx.out)
      have hle := tot_take_le E hE xs (k + 1)
      have hcl := clamp_bd x hE
      clear hr
      by_cases hgt : E - tot E (xs.take k) < clamp x 0 E
      · go_wp2_with (go_at_call 159; refine (within_any _ _ _ _).mono ?_; rintro e w' ⟨rfl, rfl⟩)
        go_ret2
        have h2 : E < tot E xs := by have := hs.out; omega
        exact ⟨ret_v (by rw [addV_of_gt h2, fitsV_of_gt h2]; rfl), rfl⟩
      · go_wp2_with (go_at_call 159; refine (within_any _ _ _ _).mono ?_; rintro e w' ⟨rfl, rfl⟩)
        go_round
        case rel => exact ⟨k + 1, by omega, by go_num, by rw [hs.out]; go_num, by have := hs.out; omega⟩
        case measure => simp [intOf]; omega
    · go_wp2
      go_ret2
      have e : xs.take k = xs := List.take_of_length_le (by have := hlen.out; omega)
      rw [e] at ht
      exact ⟨ret_v (by rw [addV_of_le ht, fitsV_of_le ht, e]; simp; omega), rfl⟩
theorem plus_any (A : Option Addr) (n c B : Nat) (xs : List Int) (w : World) (hn : n ≤ maxLen) (hr : Reads w B 1 A n (ints xs)) :
    Calls Tryz.prog 127 #[.slice A n c] w fun e w' => e = .returned (.int .i64 (addV 1000000000000 xs)) ∧ w = w' := by
  go_enter Tryz.func127, Tryz.ntmps127
  go_wp2_with (go_at_call 158; refine (sum_any _ _ _ _ B xs _ (by omega) (by omega) hn hr).mono ?_; rintro e w' ⟨rfl, rfl⟩)
  go_ret
  exact ⟨rfl, rfl⟩
theorem over_any (A : Option Addr) (n c B : Nat) (xs : List Int) (w : World) (hn : n ≤ maxLen) (hr : Reads w B 1 A n (ints xs)) :
    Calls Tryz.prog 101 #[.slice A n c] w fun e w' => e = .returned (.bool (!fitsV 1000000 xs)) ∧ w = w' := by
  go_enter Tryz.func101, Tryz.ntmps101
  go_wp2_with (go_at_call 158; refine (sum_any _ _ _ _ B xs _ (by omega) (by omega) hn hr).mono ?_; rintro e w' ⟨rfl, rfl⟩)
  go_ret
  exact ⟨rfl, rfl⟩
end Go.Proofs.YtghmcdfmbjabnaaGreatDoor
