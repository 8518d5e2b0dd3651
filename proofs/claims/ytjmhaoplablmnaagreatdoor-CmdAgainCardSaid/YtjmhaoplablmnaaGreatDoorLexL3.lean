/- Layer 5: the statement LexWritten. -/
import Derived.Test.YtjmhaoplablmnaaGreatDoorK10
import Derived.Test.YtjmhaoplablmnaaGreatDoorK1
namespace Go.Proofs.YtjmhaoplablmnaaGreatDoor
set_option linter.unusedVariables false
open Go.RowKit
def fewP (l : List Tk) : Prop := l.length ≤ 100 ∧ ∀ t ∈ l, t.text.size ≤ 500
end Go.Proofs.YtjmhaoplablmnaaGreatDoor
