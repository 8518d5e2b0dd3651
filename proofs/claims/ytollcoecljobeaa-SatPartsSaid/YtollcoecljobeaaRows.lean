/-
  No cell of these rows narrows 'for every input' (looked for: loops, veiled, ifaces, maps, wideKeys, modest, calm, conditions, laid).
  DERIVED. THE GIVEN ROWS OF THIS SEAT. 4 by the template 'for every input the law returns true; each argument reads behind the call as it read before'; 0 by the template 'total and deterministic' (their statements: YtollcoecljobeaaTotals.lean).
  GIVEN WITH THE SEED: the statements are not yours to turn. If you find one false, say at which input.
  Laid BY PROGRAM, IN A SANDBOX (cutbox-rows.mjs): the forced cells as the released guide's own fill.sh prints them over the translation 0b19a19d8d79a896… (all of the seat's roots in one cut). By AI agents, Wed Nov 11 2026. No macro, syntax, notation, axiom, sorry.
-/
import Derived.Test.YtollcoecljobeaaChecked
import GoSem.Claim
import GoSem.ClaimJoined
import GoSem.ClaimMapViews
import Derived.JoinedTies
import Derived.KernelRfl
namespace Go.Proofs.Ytollcoecljobeaa
/- THE CELL 'sum', in the pinned program and in every row, IS THE sha256 OF THE DUMP (.gsa) THAT YtollcoecljobeaaProg.lean LOADS. Nothing in Lean hashes anything: it is a label: what it is worth is what the hold of that sum in a sandbox is worth. -/
noncomputable def Try.pinned : Pinned := { name := "ytollcoecljobeaa", sum := "0b19a19d8d79a896761b66ac561c57d6c7d7cc18f52b5864d8a98a2df66fabcd", checked := Try.checked }
namespace Rows
def none {H : Type} : Left H := { results := [], args := [] }

/-- 'musterlaw01.SatTimes': WHATEVER THE INPUT: true; the input reads as it did. -/
def satTimesSpec : ChangeSpec := { name := "satTimes", fn := fun _ => fun
  | [d1, d2, d3] => { results := [.lit (.bool true)], args := [d1, d2, d3] }
  | _ => none }
def satTimesRow : OpenClaim := { program := "ytollcoecljobeaa", sum := "0b19a19d8d79a896761b66ac561c57d6c7d7cc18f52b5864d8a98a2df66fabcd", func := "muster/musterlaw01.SatTimes", spec := "satTimes", apart := false }
def SatTimesSaid : Prop := satTimesRow.holds Try.pinned (OpenSpec.ofChange satTimesSpec)

/-- ITS FALSE NEIGHBOUR: 'it returns false'. Refute it at one input. -/
def satTimesWrong : ChangeSpec := { name := "satTimes", fn := fun _ => fun
  | [d1, d2, d3] => { results := [.lit (.bool false)], args := [d1, d2, d3] }
  | _ => none }
def SatTimesWrongFalsely : Prop := satTimesRow.holds Try.pinned (OpenSpec.ofChange satTimesWrong)

/-- 'musterlaw01.SatUsages': WHATEVER THE INPUT: true; the input reads as it did. -/
def satUsagesSpec : ChangeSpec := { name := "satUsages", fn := fun _ => fun
  | [d1, d2, d3] => { results := [.lit (.bool true)], args := [d1, d2, d3] }
  | _ => none }
def satUsagesRow : OpenClaim := { program := "ytollcoecljobeaa", sum := "0b19a19d8d79a896761b66ac561c57d6c7d7cc18f52b5864d8a98a2df66fabcd", func := "muster/musterlaw01.SatUsages", spec := "satUsages", apart := false }
def SatUsagesSaid : Prop := satUsagesRow.holds Try.pinned (OpenSpec.ofChange satUsagesSpec)

/-- ITS FALSE NEIGHBOUR: 'it returns false'. Refute it at one input. -/
def satUsagesWrong : ChangeSpec := { name := "satUsages", fn := fun _ => fun
  | [d1, d2, d3] => { results := [.lit (.bool false)], args := [d1, d2, d3] }
  | _ => none }
def SatUsagesWrongFalsely : Prop := satUsagesRow.holds Try.pinned (OpenSpec.ofChange satUsagesWrong)

/-- 'musterlaw01.SatParts': WHATEVER THE INPUT: true; the input reads as it did. -/
def satPartsSpec : ChangeSpec := { name := "satParts", fn := fun _ => fun
  | [d1, d2, d3] => { results := [.lit (.bool true)], args := [d1, d2, d3] }
  | _ => none }
def satPartsRow : OpenClaim := { program := "ytollcoecljobeaa", sum := "0b19a19d8d79a896761b66ac561c57d6c7d7cc18f52b5864d8a98a2df66fabcd", func := "muster/musterlaw01.SatParts", spec := "satParts", apart := false }
def SatPartsSaid : Prop := satPartsRow.holds Try.pinned (OpenSpec.ofChange satPartsSpec)

/-- ITS FALSE NEIGHBOUR: 'it returns false'. Refute it at one input. -/
def satPartsWrong : ChangeSpec := { name := "satParts", fn := fun _ => fun
  | [d1, d2, d3] => { results := [.lit (.bool false)], args := [d1, d2, d3] }
  | _ => none }
def SatPartsWrongFalsely : Prop := satPartsRow.holds Try.pinned (OpenSpec.ofChange satPartsWrong)

/-- 'musterlaw01.SatOrder': WHATEVER THE INPUT: true; the input reads as it did. -/
def satOrderSpec : ChangeSpec := { name := "satOrder", fn := fun _ => fun
  | [d1, d2, d3] => { results := [.lit (.bool true)], args := [d1, d2, d3] }
  | _ => none }
def satOrderRow : OpenClaim := { program := "ytollcoecljobeaa", sum := "0b19a19d8d79a896761b66ac561c57d6c7d7cc18f52b5864d8a98a2df66fabcd", func := "muster/musterlaw01.SatOrder", spec := "satOrder", apart := false }
def SatOrderSaid : Prop := satOrderRow.holds Try.pinned (OpenSpec.ofChange satOrderSpec)

/-- ITS FALSE NEIGHBOUR: 'it returns false'. Refute it at one input. -/
def satOrderWrong : ChangeSpec := { name := "satOrder", fn := fun _ => fun
  | [d1, d2, d3] => { results := [.lit (.bool false)], args := [d1, d2, d3] }
  | _ => none }
def SatOrderWrongFalsely : Prop := satOrderRow.holds Try.pinned (OpenSpec.ofChange satOrderWrong)

/- THE SECOND FORM. 'bulk': how many values and letters a reading holds, each counted each time it is reached (what is shared counts as often as it is met; a slice's spare places count too). A statement '..UptoSaid' is the law's where the arguments, and the package variables that the reading takes, are together of bulk at most 1048576: NARROWER than '..Said'. Prove '..Said' where nothing that the law and all that it calls make is longer than what came in: it says more and counts as full. Else prove '..UptoSaid'. A law counts once. -/
mutual
def uptoBulk {H : Type} : DataW H → Nat
  | .lit (.string bytes) => bytes.length + 1
  | .lit _ => 1
  | .nil => 1
  | .ptr d => uptoBulk d + 1
  | .slice elems spare => uptoBulkAll elems + uptoBulkAll spare + 1
  | .agg parts => uptoBulkAll parts + 1
  | .iface _ d => uptoBulk d + 1
  | .map entries => uptoBulkEntries entries + 1
  | .held _ => 1
def uptoBulkAll {H : Type} : List (DataW H) → Nat
  | [] => 0
  | d :: r => uptoBulk d + uptoBulkAll r
def uptoBulkEntries {H : Type} : List (Lit × DataW H) → Nat
  | [] => 0
  | x :: r => uptoBulkEntry x + uptoBulkEntries r
def uptoBulkEntry {H : Type} : Lit × DataW H → Nat
  | (.string bytes, d) => bytes.length + uptoBulk d + 1
  | (_, d) => uptoBulk d + 1
 end
def uptoSmall : (H : Type) → List (DataW H) → Bool := fun _ ds => decide (uptoBulkAll ds ≤ 1048576)
def OpenSpec.upto (s : _root_.Go.ChangeSpec) : _root_.Go.OpenSpec := { _root_.Go.OpenSpec.ofChange s with cond := some uptoSmall }

/-- 'musterlaw01.SatTimes', WHERE WHAT IT READS IS OF BULK AT MOST 1048576: true; the input reads as it did. -/
def satTimesUptoRow : OpenClaim := { program := "ytollcoecljobeaa", sum := "0b19a19d8d79a896761b66ac561c57d6c7d7cc18f52b5864d8a98a2df66fabcd", func := "muster/musterlaw01.SatTimes", spec := "satTimes", apart := false, narrowed := true }
def SatTimesUptoSaid : Prop := satTimesUptoRow.holds Try.pinned (OpenSpec.upto satTimesSpec)

/-- 'musterlaw01.SatUsages', WHERE WHAT IT READS IS OF BULK AT MOST 1048576: true; the input reads as it did. -/
def satUsagesUptoRow : OpenClaim := { program := "ytollcoecljobeaa", sum := "0b19a19d8d79a896761b66ac561c57d6c7d7cc18f52b5864d8a98a2df66fabcd", func := "muster/musterlaw01.SatUsages", spec := "satUsages", apart := false, narrowed := true }
def SatUsagesUptoSaid : Prop := satUsagesUptoRow.holds Try.pinned (OpenSpec.upto satUsagesSpec)

/-- 'musterlaw01.SatParts', WHERE WHAT IT READS IS OF BULK AT MOST 1048576: true; the input reads as it did. -/
def satPartsUptoRow : OpenClaim := { program := "ytollcoecljobeaa", sum := "0b19a19d8d79a896761b66ac561c57d6c7d7cc18f52b5864d8a98a2df66fabcd", func := "muster/musterlaw01.SatParts", spec := "satParts", apart := false, narrowed := true }
def SatPartsUptoSaid : Prop := satPartsUptoRow.holds Try.pinned (OpenSpec.upto satPartsSpec)

/-- 'musterlaw01.SatOrder', WHERE WHAT IT READS IS OF BULK AT MOST 1048576: true; the input reads as it did. -/
def satOrderUptoRow : OpenClaim := { program := "ytollcoecljobeaa", sum := "0b19a19d8d79a896761b66ac561c57d6c7d7cc18f52b5864d8a98a2df66fabcd", func := "muster/musterlaw01.SatOrder", spec := "satOrder", apart := false, narrowed := true }
def SatOrderUptoSaid : Prop := satOrderUptoRow.holds Try.pinned (OpenSpec.upto satOrderSpec)

end Rows
end Go.Proofs.Ytollcoecljobeaa
