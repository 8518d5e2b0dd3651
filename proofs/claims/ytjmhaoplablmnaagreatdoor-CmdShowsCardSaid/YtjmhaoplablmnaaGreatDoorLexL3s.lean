/- Layer 5: the statement LexWritten. -/
import Derived.Test.YtjmhaoplablmnaaGreatDoorK10s
import Derived.Test.YtjmhaoplablmnaaGreatDoorK1s
namespace Go.Proofs.YtjmhaoplablmnaaGreatDoor
set_option linter.unusedVariables false
open Go.RowKit
end Go.Proofs.YtjmhaoplablmnaaGreatDoor
