/- Contracts of layer 17: Charge. -/
import Derived.Test.YtmkmmggimokagaaGreatDoorLedW5
namespace Go.Proofs.YtmkmmggimokagaaGreatDoor
set_option linter.unusedVariables false
open Go.RowKit
def bump (n : Int) (u : U) : U := { u with used := addV 1000000000000 [u.used, n], share := addV 1000000000000 [u.share, n] }
/-- the entries among which the one that is charged stands -/
def baseL (l : List U) (x : U) : List U := if foundU l x then l else l.take (lowU l x) ++ x :: l.drop (lowU l x)
def newU (user acct : ByteArray) : U := ⟨user, acct, 0, 0⟩
def chargeE (l : List U) (user acct : ByteArray) (n : Int) : Int :=
  if !ledgerV l then 2 else if !nameV user || !nameV acct || decide (n < 0) then 2 else if !foundU l (newU user acct) && decide (l.length = 200) then 3 else 0
def chargeL (l : List U) (user acct : ByteArray) (n : Int) : List U :=
  if chargeE l user acct n = 0 then (baseL l (newU user acct)).modify (lowU l (newU user acct)) (bump n) else []
def RetLE (w : World) (l : List U) (er : Int) (en : Ending) (w' : World) : Prop := RetOwnE w 48 4 l.length (recs ucells l) er en w'
theorem plus2 (x y : Int) (W : World) (g : Nat) (c0 : W.cell? ⟨g, 0, none⟩ = some (.int .i64 x)) (c1 : W.cell? ⟨g, 1, none⟩ = some (.int .i64 y)) :
    Calls Tryz.prog 45 #[.slice (some ⟨g, 0, none⟩) 2 2] W fun e w' => e = .returned (.int .i64 (addV 1000000000000 [x, y])) ∧ W = w' := by
  refine plus_any (some ⟨g, 0, none⟩) 2 2 (g + 1) [x, y] W (by simp [maxLen]) ⟨rfl, fun _ => ⟨_, rfl, by simp, fun j u hu => ?_⟩⟩
  have hj : j < 2 := by simpa [ints] using (List.getElem?_eq_some_iff.1 hu).1
  rcases j with _ | _ | j
  · simp [ints] at hu; subst hu; simpa [Addr.add] using c0
  · simp [ints] at hu; subst hu; simpa [Addr.add] using c1
  · omega
theorem charge_close {w w3 w' : World} {g n c i : Nat} {z : Int} {L : List U} {u : U} (hb : Below w.heap.size w w3) (ho : Owns w3 w.heap.size 48 4 (.slice (some ⟨g, 0, none⟩) n c) n (recs ucells L)) (hB : w.heap.size ≤ g) (hlen : L.length = n) (hx : L[i]? = some u)
    (hm : Below w3.heap.size ((w3.setCell ⟨g, i * 4 + 2, none⟩ (.int .i64 (addV 1000000000000 [u.used, z]))).setCell ⟨g, i * 4 + 3, none⟩ (.int .i64 (addV 1000000000000 [u.share, z]))) w') :
    RetLE w (L.set i (bump z u)) 0 (.returned (.tuple #[.slice (some ⟨g, 0, none⟩) n c, .int .i64 0])) w' := by
  have hi := (List.getElem?_eq_some_iff.1 hx).1
  have hz := hb.size
  refine ⟨_, rfl, ?_, ((hb.setCell hB _).setCell hB _).trans (hm.mono hz)⟩
  have o1 := (ho.stored (by omega) (i * 4 + 2) (.int .i64 (addV 1000000000000 [u.used, z]))).stored (by omega) (i * 4 + 3) (.int .i64 (addV 1000000000000 [u.share, z]))
  rw [recs_set ucells_len hx (by omega) (y := { u with used := addV 1000000000000 [u.used, z] }) rfl, recs_set ucells_len (x := { u with used := addV 1000000000000 [u.used, z] }) (y := bump z u) (by rw [List.getElem?_set_self hi]) (by omega) rfl, List.set_set] at o1
  rw [List.length_set, hlen]; exact o1.below (by simpa [World.setCell] using hm)
end Go.Proofs.YtmkmmggimokagaaGreatDoor
