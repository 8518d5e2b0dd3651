/- Layer 7, plain: shapes, their options. -/
import Derived.Test.YtfnmmbfngniheaaGreatDoorK1
namespace Go.Proofs.YtfnmmbfngniheaaGreatDoor
set_option linter.unusedVariables false
open Go.RowKit
/-- a pair of numbers: how many, and how long; or how, and whose -/
abbrev Pr := Int × Int
def prC (a : Pr) : List Value := [.int .i64 a.1, .int .i64 a.2]
theorem prC_len (a : Pr) : (prC a).length = 2 := rfl
/-- what a job asks for -/
structure Sh where
  kind : Int
  alts : List Pr
  mn : Int
  mx : Int
  wall : Int
deriving DecidableEq
def fineA (a : Pr) : Bool := decide (1 ≤ a.1) && decide (a.1 ≤ 48) && decide (1 ≤ a.2) && decide (a.2 ≤ 100000)
def bareS (s : Sh) : Bool := (s.mn == 0) && (s.mx == 0) && (s.wall == 0)
/-- no two of one size -/
def apartL (l : List Pr) : Bool := decide (l.map Prod.fst).Nodup
def okS (s : Sh) : Bool :=
  if s.kind = 1 then bareS s && decide (s.alts.length = 1) && s.alts.all fineA
  else if s.kind = 2 then bareS s && decide (1 ≤ s.alts.length) && decide (s.alts.length ≤ 6) && apartL s.alts && s.alts.all fineA
  else if s.kind = 3 then decide (s.alts.length = 0) && decide (s.mn ≤ s.mx) && fineA (s.mn, s.wall) && decide (s.mx ≤ 48)
  else false
def shE (s : Sh) : Int := if okS s = true then 0 else 70
def optS (s : Sh) : List Pr := if okS s = true then (if s.kind = 3 then (List.range (s.mx - s.mn + 1).toNat).map (fun (i : Nat) => (s.mx - (i : Int), s.wall)) else s.alts) else []
def allowS (s : Sh) (c n : Int) : Bool :=
  if c < 0 ∨ ((optS s).length : Int) ≤ c then false
  else if s.kind = 3 then decide (s.mn ≤ n) && decide (n ≤ s.mx)
  else ((optS s).getD c.toNat (0, 0)).1 == n
def sameS (a b : Sh) : Bool := (a.kind == b.kind) && (a.mn == b.mn) && (a.mx == b.mx) && (a.wall == b.wall) && decide (a.alts = b.alts)
/-- a shape as a value: its list lies at A -/
def shC (s : Sh) (A : Option Addr) (c : Nat) : List Value := [.int .i64 s.kind, .slice A s.alts.length c, .int .i64 s.mn, .int .i64 s.mx, .int .i64 s.wall]
def shV (s : Sh) (A : Option Addr) (c : Nat) : Value := .agg #[.int .i64 s.kind, .slice A s.alts.length c, .int .i64 s.mn, .int .i64 s.mx, .int .i64 s.wall]
theorem apart_iff (l : List Pr) : apartL l = true ↔ ∀ (i j : Nat) (a b : Pr), i < j → l[i]? = some a → l[j]? = some b → a.1 ≠ b.1 := by
  unfold apartL
  rw [decide_eq_true_eq, List.nodup_iff_pairwise_ne, List.pairwise_iff_getElem]
  constructor
  · intro h i j a b hij ha hb
    obtain ⟨h1, h2⟩ := List.getElem?_eq_some_iff.1 ha
    obtain ⟨h3, h4⟩ := List.getElem?_eq_some_iff.1 hb
    have := h i j (by simpa using h1) (by simpa using h3) hij
    simp only [List.getElem_map] at this
    rw [h2, h4] at this
    exact this
  · intro h i j hi hj hij
    have hi' : i < l.length := by simpa using hi
    have hj' : j < l.length := by simpa using hj
    have := h i j _ _ hij (List.getElem?_eq_getElem hi') (List.getElem?_eq_getElem hj')
    simpa using this
end Go.Proofs.YtfnmmbfngniheaaGreatDoor
