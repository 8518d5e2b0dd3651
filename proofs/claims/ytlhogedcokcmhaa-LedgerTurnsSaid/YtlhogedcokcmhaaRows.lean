/-
  No cell of these rows narrows 'for every input' (looked for: loops, veiled, ifaces, maps, wideKeys, modest, calm, conditions, laid).
  DERIVED. THE GIVEN ROWS OF THIS SEAT. 3 by the template 'for every input the law returns true; each argument reads behind the call as it read before'; 0 by the template 'total and deterministic' (their statements: YtlhogedcokcmhaaTotals.lean).
  GIVEN WITH THE SEED: the statements are not yours to turn. If you find one false, say at which input.
  Laid BY PROGRAM, IN A SANDBOX (cutbox-rows.mjs): the forced cells as the released guide's own fill.sh prints them over the translation b683f6c95f61147b… (all of the seat's roots in one cut). By AI agents, Wed Nov 11 2026. No macro, syntax, notation, axiom, sorry.
-/
import Derived.Test.YtlhogedcokcmhaaChecked
import GoSem.Claim
import GoSem.ClaimJoined
import GoSem.ClaimMapViews
import Derived.JoinedTies
import Derived.KernelRfl
namespace Go.Proofs.Ytlhogedcokcmhaa
/- THE CELL 'sum', in the pinned program and in every row, IS THE sha256 OF THE DUMP (.gsa) THAT YtlhogedcokcmhaaProg.lean LOADS. Nothing in Lean hashes anything: it is a label: what it is worth is what the hold of that sum in a sandbox is worth. -/
noncomputable def Try.pinned : Pinned := { name := "ytlhogedcokcmhaa", sum := "b683f6c95f61147b87fa396b5b1301f70f6662ba8f059391fcd2428b476a52ff", checked := Try.checked }
namespace Rows
def none {H : Type} : Left H := { results := [], args := [] }

/-- 'musterlaw17.LedgerTurns': WHATEVER THE INPUT: true; the input reads as it did. -/
def ledgerTurnsSpec : ChangeSpec := { name := "ledgerTurns", fn := fun _ => fun
  | [d1, d2] => { results := [.lit (.bool true)], args := [d1, d2] }
  | _ => none }
def ledgerTurnsRow : OpenClaim := { program := "ytlhogedcokcmhaa", sum := "b683f6c95f61147b87fa396b5b1301f70f6662ba8f059391fcd2428b476a52ff", func := "muster/musterlaw17.LedgerTurns", spec := "ledgerTurns", unfollowed := true, recurses := true, apart := false }
def LedgerTurnsSaid : Prop := ledgerTurnsRow.holds Try.pinned (OpenSpec.ofChange ledgerTurnsSpec)

/-- ITS FALSE NEIGHBOUR: 'it returns false'. Refute it at one input. -/
def ledgerTurnsWrong : ChangeSpec := { name := "ledgerTurns", fn := fun _ => fun
  | [d1, d2] => { results := [.lit (.bool false)], args := [d1, d2] }
  | _ => none }
def LedgerTurnsWrongFalsely : Prop := ledgerTurnsRow.holds Try.pinned (OpenSpec.ofChange ledgerTurnsWrong)

/-- 'musterlaw17.LedgerTotal': WHATEVER THE INPUT: true; the input reads as it did. -/
def ledgerTotalSpec : ChangeSpec := { name := "ledgerTotal", fn := fun _ => fun
  | [d1, d2, d3] => { results := [.lit (.bool true)], args := [d1, d2, d3] }
  | _ => none }
def ledgerTotalRow : OpenClaim := { program := "ytlhogedcokcmhaa", sum := "b683f6c95f61147b87fa396b5b1301f70f6662ba8f059391fcd2428b476a52ff", func := "muster/musterlaw17.LedgerTotal", spec := "ledgerTotal", unfollowed := true, recurses := true, apart := false }
def LedgerTotalSaid : Prop := ledgerTotalRow.holds Try.pinned (OpenSpec.ofChange ledgerTotalSpec)

/-- ITS FALSE NEIGHBOUR: 'it returns false'. Refute it at one input. -/
def ledgerTotalWrong : ChangeSpec := { name := "ledgerTotal", fn := fun _ => fun
  | [d1, d2, d3] => { results := [.lit (.bool false)], args := [d1, d2, d3] }
  | _ => none }
def LedgerTotalWrongFalsely : Prop := ledgerTotalRow.holds Try.pinned (OpenSpec.ofChange ledgerTotalWrong)

/-- 'musterlaw17.LedgerDecay': WHATEVER THE INPUT: true; the input reads as it did. -/
def ledgerDecaySpec : ChangeSpec := { name := "ledgerDecay", fn := fun _ => fun
  | [d1, d2] => { results := [.lit (.bool true)], args := [d1, d2] }
  | _ => none }
def ledgerDecayRow : OpenClaim := { program := "ytlhogedcokcmhaa", sum := "b683f6c95f61147b87fa396b5b1301f70f6662ba8f059391fcd2428b476a52ff", func := "muster/musterlaw17.LedgerDecay", spec := "ledgerDecay", unfollowed := true, recurses := true, apart := false }
def LedgerDecaySaid : Prop := ledgerDecayRow.holds Try.pinned (OpenSpec.ofChange ledgerDecaySpec)

/-- ITS FALSE NEIGHBOUR: 'it returns false'. Refute it at one input. -/
def ledgerDecayWrong : ChangeSpec := { name := "ledgerDecay", fn := fun _ => fun
  | [d1, d2] => { results := [.lit (.bool false)], args := [d1, d2] }
  | _ => none }
def LedgerDecayWrongFalsely : Prop := ledgerDecayRow.holds Try.pinned (OpenSpec.ofChange ledgerDecayWrong)

/- THE SECOND FORM. 'bulk': how many values and letters a reading holds, each counted each time it is reached (what is shared counts as often as it is met; a slice's spare places count too). A statement '..UptoSaid' is the law's where the arguments, and the package variables that the reading takes, are together of bulk at most 1048576: NARROWER than '..Said'. Prove '..Said' where nothing that the law and all that it calls make is longer than what came in: it says more and counts as full. Else prove '..UptoSaid'. A law counts once. -/
mutual
def uptoBulk {H : Type} : DataW H → Nat
  | .lit (.string bytes) => bytes.length + 1
  | .lit _ => 1
  | .nil => 1
  | .ptr d => uptoBulk d + 1
  | .slice elems spare => uptoBulkAll elems + uptoBulkAll spare + 1
  | .agg parts => uptoBulkAll parts + 1
  | .iface _ d => uptoBulk d + 1
  | .map entries => uptoBulkEntries entries + 1
  | .held _ => 1
def uptoBulkAll {H : Type} : List (DataW H) → Nat
  | [] => 0
  | d :: r => uptoBulk d + uptoBulkAll r
def uptoBulkEntries {H : Type} : List (Lit × DataW H) → Nat
  | [] => 0
  | x :: r => uptoBulkEntry x + uptoBulkEntries r
def uptoBulkEntry {H : Type} : Lit × DataW H → Nat
  | (.string bytes, d) => bytes.length + uptoBulk d + 1
  | (_, d) => uptoBulk d + 1
 end
def uptoSmall : (H : Type) → List (DataW H) → Bool := fun _ ds => decide (uptoBulkAll ds ≤ 1048576)
def OpenSpec.upto (s : _root_.Go.ChangeSpec) : _root_.Go.OpenSpec := { _root_.Go.OpenSpec.ofChange s with cond := some uptoSmall }

/-- 'musterlaw17.LedgerTurns', WHERE WHAT IT READS IS OF BULK AT MOST 1048576: true; the input reads as it did. -/
def ledgerTurnsUptoRow : OpenClaim := { program := "ytlhogedcokcmhaa", sum := "b683f6c95f61147b87fa396b5b1301f70f6662ba8f059391fcd2428b476a52ff", func := "muster/musterlaw17.LedgerTurns", spec := "ledgerTurns", unfollowed := true, recurses := true, apart := false, narrowed := true }
def LedgerTurnsUptoSaid : Prop := ledgerTurnsUptoRow.holds Try.pinned (OpenSpec.upto ledgerTurnsSpec)

/-- 'musterlaw17.LedgerTotal', WHERE WHAT IT READS IS OF BULK AT MOST 1048576: true; the input reads as it did. -/
def ledgerTotalUptoRow : OpenClaim := { program := "ytlhogedcokcmhaa", sum := "b683f6c95f61147b87fa396b5b1301f70f6662ba8f059391fcd2428b476a52ff", func := "muster/musterlaw17.LedgerTotal", spec := "ledgerTotal", unfollowed := true, recurses := true, apart := false, narrowed := true }
def LedgerTotalUptoSaid : Prop := ledgerTotalUptoRow.holds Try.pinned (OpenSpec.upto ledgerTotalSpec)

/-- 'musterlaw17.LedgerDecay', WHERE WHAT IT READS IS OF BULK AT MOST 1048576: true; the input reads as it did. -/
def ledgerDecayUptoRow : OpenClaim := { program := "ytlhogedcokcmhaa", sum := "b683f6c95f61147b87fa396b5b1301f70f6662ba8f059391fcd2428b476a52ff", func := "muster/musterlaw17.LedgerDecay", spec := "ledgerDecay", unfollowed := true, recurses := true, apart := false, narrowed := true }
def LedgerDecayUptoSaid : Prop := ledgerDecayUptoRow.holds Try.pinned (OpenSpec.upto ledgerDecaySpec)

end Rows
end Go.Proofs.Ytlhogedcokcmhaa
