/- Plain Lean on ledgers: entries, their order, what may be a ledger. -/
import Derived.Test.YtmkmmggimokagaaGreatDoorK1
namespace Go.Proofs.YtmkmmggimokagaaGreatDoor
set_option linter.unusedVariables false
open Go.RowKit
/-- an entry of a ledger -/
structure U where
  user : ByteArray
  acct : ByteArray
  used : Int
  share : Int
def ucells (u : U) : List Value := [.string u.user, .string u.acct, .int .i64 u.used, .int .i64 u.share]
theorem ucells_len (u : U) : (ucells u).length = 4 := rfl
theorem Reads.u_at {w : World} {B n k : Nat} {A : Option Addr} {l : List U} (h : Reads w B 4 A n (recs ucells l)) (hk : k < n) :
    ∃ b o u, A = some ⟨b, o, none⟩ ∧ b < B ∧ Hid (l[k]? = some u) ∧ w.cell? ⟨b, o + k * 4, none⟩ = some (.string u.user) ∧ w.cell? ⟨b, o + k * 4 + 1, none⟩ = some (.string u.acct) ∧ w.cell? ⟨b, o + k * 4 + 2, none⟩ = some (.int .i64 u.used) ∧ w.cell? ⟨b, o + k * 4 + 3, none⟩ = some (.int .i64 u.share) := by
  obtain ⟨b, o, u, e, hb, hx, hc⟩ := h.rec_at ucells_len (by omega) hk
  exact ⟨b, o, u, e, hb, hx, hc 0 _ rfl, hc 1 _ rfl, hc 2 _ rfl, hc 3 _ rfl⟩

/-- texts compared, as cmp.Compare does -/
def cmpS (a b : ByteArray) : Int := if Op.bytesLess a.toList b.toList then -1 else if a.toList == b.toList then 0 else 1
def orV (a b : Int) : Int := if a = 0 then b else a
/-- entries in order -/
def ordU (u v : U) : Int := orV (cmpS u.user v.user) (cmpS u.acct v.acct)

/-- may a text be a name -/
def nameV (s : ByteArray) : Bool := decide (1 ≤ s.size) && decide (s.size ≤ 64)
/-- an entry by itself -/
def goodU (u : U) : Bool := nameV u.user && nameV u.acct && decide (0 ≤ u.used) && decide (u.used ≤ 1000000000000) && decide (0 ≤ u.share) && decide (u.share ≤ u.used)
def aheadO : Option U → U → Bool
  | none, _ => true
  | some p, u => decide (ordU p u < 0)
def goodB : List U → Option U → Bool
  | [], _ => true
  | u :: t, p => goodU u && aheadO p u && goodB t (some u)
def ledgerV (l : List U) : Bool := decide (l.length ≤ 200) && goodB l none
def chkE (l : List U) : Int := if ledgerV l then 0 else 2
def prevK (l : List U) (k : Nat) : Option U := if k = 0 then none else l[k - 1]?
theorem dropU {l : List U} {k : Nat} {u : U} (h : l[k]? = some u) : l.drop k = u :: l.drop (k + 1) := by
  obtain ⟨hk, e⟩ := List.getElem?_eq_some_iff.1 h
  rw [← e, List.getElem_cons_drop]
theorem good_step {l : List U} {k : Nat} {u : U} (h : l[k]? = some u) : goodB (l.drop k) (prevK l k) = (goodU u && aheadO (prevK l k) u && goodB (l.drop (k + 1)) (prevK l (k + 1))) := by
  rw [dropU h, goodB]
  have e : prevK l (k + 1) = some u := by simp [prevK, h]
  rw [e]
end Go.Proofs.YtmkmmggimokagaaGreatDoor
