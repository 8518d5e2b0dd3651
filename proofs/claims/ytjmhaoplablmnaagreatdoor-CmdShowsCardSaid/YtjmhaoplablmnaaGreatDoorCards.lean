/-
  DERIVED. GIVEN WITH THE SEED: THE CARDS: each row of YtjmhaoplablmnaaGreatDoorRows.lean that lists a variable, with what it lists TIED to the program's text (the seventh form; the later family's looks); each row that meets fmt, with fmt's text TOLD by the authors' own Lean function (tested against real Go, not proved from fmt's source: count such statements apart). THE CARD IS WHAT COUNTS. Prove the row's statement (the work); the ties are given (YtjmhaoplablmnaaGreatDoorTie.lean); close each card by the builder's one call (the guide's Derived/Test/ToyasCard.lean, 'card_holds'). Laid BY PROGRAM, IN A SANDBOX (cutbox-door.mjs). By AI agents, Wed Nov 11 2026. No macro, syntax, notation, axiom, sorry.
-/
import Derived.Test.YtjmhaoplablmnaaGreatDoorRows
import GoSem.ClaimSeven
namespace Go.Proofs.YtjmhaoplablmnaaGreatDoor
namespace Rows

/-- THE TIED CARD OF 'musterlaw08.CmdShows'. -/
def cmdShowsCard : Claim7 := { stood := { row := cmdShowsRow, standIns := [], harness := (true, "cf74da7909e9f94cdcbcf29c045801276b1929ba966a787b26dbb0d9f1823ddc"), looks := true }, kinds := [], alts := [], laidByText := true, laidKinds := [.data, .data, .data, .sentinel, .sentinel], laidTests := true, laidLooks := .later }
def CmdShowsCardSaid : Prop := Claim7.holds Tryz.pinned (.plain (OpenSpec.ofChange cmdShowsSpec)) cmdShowsCard

/-- THE TIED CARD OF 'musterlaw08.CmdSame'. -/
def cmdSameCard : Claim7 := { stood := { row := cmdSameRow, standIns := [], harness := (true, "cf74da7909e9f94cdcbcf29c045801276b1929ba966a787b26dbb0d9f1823ddc"), looks := true }, kinds := [], alts := [], laidByText := true, laidKinds := [.data, .data, .data, .sentinel, .sentinel], laidTests := true, laidLooks := .later }
def CmdSameCardSaid : Prop := Claim7.holds Tryz.pinned (.plain (OpenSpec.ofChange cmdSameSpec)) cmdSameCard

/-- THE TIED CARD OF 'musterlaw08.CmdBack'. -/
def cmdBackCard : Claim7 := { stood := { row := cmdBackRow, standIns := [], harness := (true, "cf74da7909e9f94cdcbcf29c045801276b1929ba966a787b26dbb0d9f1823ddc"), looks := true }, kinds := [], alts := [], laidByText := true, laidKinds := [.data, .data, .data, .sentinel, .sentinel], laidTests := true, laidLooks := .later }
def CmdBackCardSaid : Prop := Claim7.holds Tryz.pinned (.plain (OpenSpec.ofChange cmdBackSpec)) cmdBackCard

/-- THE TIED CARD OF 'musterlaw08.CmdAgain'. -/
def cmdAgainCard : Claim7 := { stood := { row := cmdAgainRow, standIns := [], harness := (true, "cf74da7909e9f94cdcbcf29c045801276b1929ba966a787b26dbb0d9f1823ddc"), looks := true }, kinds := [], alts := [], laidByText := true, laidKinds := [.data, .data, .data, .sentinel, .sentinel], laidTests := true, laidLooks := .later }
def CmdAgainCardSaid : Prop := Claim7.holds Tryz.pinned (.plain (OpenSpec.ofChange cmdAgainSpec)) cmdAgainCard

/-- THE SECOND FORM's CARD OF 'musterlaw08.CmdShows'. -/
def cmdShowsUptoCard : Claim7 := { stood := { row := cmdShowsUptoRow, standIns := [], harness := (true, "cf74da7909e9f94cdcbcf29c045801276b1929ba966a787b26dbb0d9f1823ddc"), looks := true }, kinds := [], alts := [], laidByText := true, laidKinds := [.data, .data, .data, .sentinel, .sentinel], laidTests := true, laidLooks := .later }
def CmdShowsUptoCardSaid : Prop := Claim7.holds Tryz.pinned (.plain (OpenSpec.upto cmdShowsSpec)) cmdShowsUptoCard

/-- THE SECOND FORM's CARD OF 'musterlaw08.CmdSame'. -/
def cmdSameUptoCard : Claim7 := { stood := { row := cmdSameUptoRow, standIns := [], harness := (true, "cf74da7909e9f94cdcbcf29c045801276b1929ba966a787b26dbb0d9f1823ddc"), looks := true }, kinds := [], alts := [], laidByText := true, laidKinds := [.data, .data, .data, .sentinel, .sentinel], laidTests := true, laidLooks := .later }
def CmdSameUptoCardSaid : Prop := Claim7.holds Tryz.pinned (.plain (OpenSpec.upto cmdSameSpec)) cmdSameUptoCard

/-- THE SECOND FORM's CARD OF 'musterlaw08.CmdBack'. -/
def cmdBackUptoCard : Claim7 := { stood := { row := cmdBackUptoRow, standIns := [], harness := (true, "cf74da7909e9f94cdcbcf29c045801276b1929ba966a787b26dbb0d9f1823ddc"), looks := true }, kinds := [], alts := [], laidByText := true, laidKinds := [.data, .data, .data, .sentinel, .sentinel], laidTests := true, laidLooks := .later }
def CmdBackUptoCardSaid : Prop := Claim7.holds Tryz.pinned (.plain (OpenSpec.upto cmdBackSpec)) cmdBackUptoCard

/-- THE SECOND FORM's CARD OF 'musterlaw08.CmdAgain'. -/
def cmdAgainUptoCard : Claim7 := { stood := { row := cmdAgainUptoRow, standIns := [], harness := (true, "cf74da7909e9f94cdcbcf29c045801276b1929ba966a787b26dbb0d9f1823ddc"), looks := true }, kinds := [], alts := [], laidByText := true, laidKinds := [.data, .data, .data, .sentinel, .sentinel], laidTests := true, laidLooks := .later }
def CmdAgainUptoCardSaid : Prop := Claim7.holds Tryz.pinned (.plain (OpenSpec.upto cmdAgainSpec)) cmdAgainUptoCard
end Rows
end Go.Proofs.YtjmhaoplablmnaaGreatDoor
