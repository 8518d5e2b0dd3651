/-
  DERIVED. GIVEN WITH THE SEED: THE CARDS: each row of YtenonfoocjcdmaaDoorRows.lean that lists a variable, with what it lists TIED to the program's text (the seventh form; the later family's looks); each row that meets fmt, with fmt's text TOLD by the authors' own Lean function (tested against real Go, not proved from fmt's source: count such statements apart). THE CARD IS WHAT COUNTS. Prove the row's statement (the work); the ties are given (YtenonfoocjcdmaaDoorTie.lean); close each card by the builder's one call (the guide's Derived/Test/ToyasCard.lean, 'card_holds'). Laid BY PROGRAM, IN A SANDBOX (cutbox-door.mjs). By AI agents, Wed Nov 11 2026. No macro, syntax, notation, axiom, sorry.
-/
import Derived.Test.YtenonfoocjcdmaaDoorRows
import GoSem.ClaimSeven
namespace Go.Proofs.YtenonfoocjcdmaaDoor
namespace Rows

/-- THE TIED CARD OF 'musterlaw06.HoursShows'. -/
def hoursShowsCard : Claim7 := { stood := { row := hoursShowsRow, standIns := [], harness := (true, "1bc526f0019f2366d822ca88508e69351e2c66f9cdb683bdab916ee564947f98"), looks := true }, kinds := [], alts := [], laidByText := true, laidKinds := [.data, .data, .data, .sentinel, .sentinel], laidTests := true, laidLooks := .later }
def HoursShowsCardSaid : Prop := Claim7.holds Tryd.pinned (.plain (OpenSpec.ofChange hoursShowsSpec)) hoursShowsCard

/-- THE TIED CARD OF 'musterlaw06.HoursBack'. -/
def hoursBackCard : Claim7 := { stood := { row := hoursBackRow, standIns := [], harness := (true, "1bc526f0019f2366d822ca88508e69351e2c66f9cdb683bdab916ee564947f98"), looks := true }, kinds := [], alts := [], laidByText := true, laidKinds := [.data, .data, .data, .sentinel, .sentinel], laidTests := true, laidLooks := .later }
def HoursBackCardSaid : Prop := Claim7.holds Tryd.pinned (.plain (OpenSpec.ofChange hoursBackSpec)) hoursBackCard

/-- THE TIED CARD OF 'musterlaw06.HoursOnce'. -/
def hoursOnceCard : Claim7 := { stood := { row := hoursOnceRow, standIns := [], harness := (true, "1bc526f0019f2366d822ca88508e69351e2c66f9cdb683bdab916ee564947f98"), looks := true }, kinds := [], alts := [], laidByText := true, laidKinds := [.data, .data, .data, .sentinel, .sentinel], laidTests := true, laidLooks := .later }
def HoursOnceCardSaid : Prop := Claim7.holds Tryd.pinned (.plain (OpenSpec.ofChange hoursOnceSpec)) hoursOnceCard

/-- THE TIED CARD OF 'musterlaw05.LexTokens'. -/
def lexTokensCard : Claim7 := { stood := { row := lexTokensRow, standIns := [], harness := (true, "1bc526f0019f2366d822ca88508e69351e2c66f9cdb683bdab916ee564947f98"), looks := true }, kinds := [], alts := [], laidByText := true, laidKinds := [.data, .data, .data, .sentinel, .sentinel], laidTests := true, laidLooks := .later }
def LexTokensCardSaid : Prop := Claim7.holds Tryd.pinned (.plain (OpenSpec.ofChange lexTokensSpec)) lexTokensCard

/-- THE TIED CARD OF 'musterlaw05.LexPlaces'. -/
def lexPlacesCard : Claim7 := { stood := { row := lexPlacesRow, standIns := [], harness := (true, "1bc526f0019f2366d822ca88508e69351e2c66f9cdb683bdab916ee564947f98"), looks := true }, kinds := [], alts := [], laidByText := true, laidKinds := [.data, .data, .data, .sentinel, .sentinel], laidTests := true, laidLooks := .later }
def LexPlacesCardSaid : Prop := Claim7.holds Tryd.pinned (.plain (OpenSpec.ofChange lexPlacesSpec)) lexPlacesCard

/-- THE TIED CARD OF 'musterlaw05.LexWritten'. -/
def lexWrittenCard : Claim7 := { stood := { row := lexWrittenRow, standIns := [], harness := (true, "1bc526f0019f2366d822ca88508e69351e2c66f9cdb683bdab916ee564947f98"), looks := true }, kinds := [], alts := [], laidByText := true, laidKinds := [.data, .data, .data, .sentinel, .sentinel], laidTests := true, laidLooks := .later }
def LexWrittenCardSaid : Prop := Claim7.holds Tryd.pinned (.plain (OpenSpec.ofChange lexWrittenSpec)) lexWrittenCard

/-- THE TIED CARD OF 'musterlaw05.LexBack'. -/
def lexBackCard : Claim7 := { stood := { row := lexBackRow, standIns := [], harness := (true, "1bc526f0019f2366d822ca88508e69351e2c66f9cdb683bdab916ee564947f98"), looks := true }, kinds := [], alts := [], laidByText := true, laidKinds := [.data, .data, .data, .sentinel, .sentinel], laidTests := true, laidLooks := .later }
def LexBackCardSaid : Prop := Claim7.holds Tryd.pinned (.plain (OpenSpec.ofChange lexBackSpec)) lexBackCard

/-- THE TIED CARD OF 'musterlaw23.NoteBack'. -/
def noteBackCard : Claim7 := { stood := { row := noteBackRow, standIns := [], harness := (true, "1bc526f0019f2366d822ca88508e69351e2c66f9cdb683bdab916ee564947f98"), looks := true }, kinds := [], alts := [], laidByText := true, laidKinds := [.data, .data, .data, .sentinel, .sentinel], laidTests := true, laidLooks := .later }
def NoteBackCardSaid : Prop := Claim7.holds Tryd.pinned (.plain (OpenSpec.ofChange noteBackSpec)) noteBackCard

/-- THE TIED CARD OF 'musterlaw23.NoteReplies'. -/
def noteRepliesCard : Claim7 := { stood := { row := noteRepliesRow, standIns := [], harness := (true, "1bc526f0019f2366d822ca88508e69351e2c66f9cdb683bdab916ee564947f98"), looks := true }, kinds := [], alts := [], laidByText := true, laidKinds := [.data, .data, .data, .sentinel, .sentinel], laidTests := true, laidLooks := .later }
def NoteRepliesCardSaid : Prop := Claim7.holds Tryd.pinned (.plain (OpenSpec.ofChange noteRepliesSpec)) noteRepliesCard

/-- THE SECOND FORM's CARD OF 'musterlaw06.HoursShows'. -/
def hoursShowsUptoCard : Claim7 := { stood := { row := hoursShowsUptoRow, standIns := [], harness := (true, "1bc526f0019f2366d822ca88508e69351e2c66f9cdb683bdab916ee564947f98"), looks := true }, kinds := [], alts := [], laidByText := true, laidKinds := [.data, .data, .data, .sentinel, .sentinel], laidTests := true, laidLooks := .later }
def HoursShowsUptoCardSaid : Prop := Claim7.holds Tryd.pinned (.plain (OpenSpec.upto hoursShowsSpec)) hoursShowsUptoCard

/-- THE SECOND FORM's CARD OF 'musterlaw06.HoursBack'. -/
def hoursBackUptoCard : Claim7 := { stood := { row := hoursBackUptoRow, standIns := [], harness := (true, "1bc526f0019f2366d822ca88508e69351e2c66f9cdb683bdab916ee564947f98"), looks := true }, kinds := [], alts := [], laidByText := true, laidKinds := [.data, .data, .data, .sentinel, .sentinel], laidTests := true, laidLooks := .later }
def HoursBackUptoCardSaid : Prop := Claim7.holds Tryd.pinned (.plain (OpenSpec.upto hoursBackSpec)) hoursBackUptoCard

/-- THE SECOND FORM's CARD OF 'musterlaw06.HoursOnce'. -/
def hoursOnceUptoCard : Claim7 := { stood := { row := hoursOnceUptoRow, standIns := [], harness := (true, "1bc526f0019f2366d822ca88508e69351e2c66f9cdb683bdab916ee564947f98"), looks := true }, kinds := [], alts := [], laidByText := true, laidKinds := [.data, .data, .data, .sentinel, .sentinel], laidTests := true, laidLooks := .later }
def HoursOnceUptoCardSaid : Prop := Claim7.holds Tryd.pinned (.plain (OpenSpec.upto hoursOnceSpec)) hoursOnceUptoCard

/-- THE SECOND FORM's CARD OF 'musterlaw05.LexTokens'. -/
def lexTokensUptoCard : Claim7 := { stood := { row := lexTokensUptoRow, standIns := [], harness := (true, "1bc526f0019f2366d822ca88508e69351e2c66f9cdb683bdab916ee564947f98"), looks := true }, kinds := [], alts := [], laidByText := true, laidKinds := [.data, .data, .data, .sentinel, .sentinel], laidTests := true, laidLooks := .later }
def LexTokensUptoCardSaid : Prop := Claim7.holds Tryd.pinned (.plain (OpenSpec.upto lexTokensSpec)) lexTokensUptoCard

/-- THE SECOND FORM's CARD OF 'musterlaw05.LexPlaces'. -/
def lexPlacesUptoCard : Claim7 := { stood := { row := lexPlacesUptoRow, standIns := [], harness := (true, "1bc526f0019f2366d822ca88508e69351e2c66f9cdb683bdab916ee564947f98"), looks := true }, kinds := [], alts := [], laidByText := true, laidKinds := [.data, .data, .data, .sentinel, .sentinel], laidTests := true, laidLooks := .later }
def LexPlacesUptoCardSaid : Prop := Claim7.holds Tryd.pinned (.plain (OpenSpec.upto lexPlacesSpec)) lexPlacesUptoCard

/-- THE SECOND FORM's CARD OF 'musterlaw05.LexWritten'. -/
def lexWrittenUptoCard : Claim7 := { stood := { row := lexWrittenUptoRow, standIns := [], harness := (true, "1bc526f0019f2366d822ca88508e69351e2c66f9cdb683bdab916ee564947f98"), looks := true }, kinds := [], alts := [], laidByText := true, laidKinds := [.data, .data, .data, .sentinel, .sentinel], laidTests := true, laidLooks := .later }
def LexWrittenUptoCardSaid : Prop := Claim7.holds Tryd.pinned (.plain (OpenSpec.upto lexWrittenSpec)) lexWrittenUptoCard

/-- THE SECOND FORM's CARD OF 'musterlaw05.LexBack'. -/
def lexBackUptoCard : Claim7 := { stood := { row := lexBackUptoRow, standIns := [], harness := (true, "1bc526f0019f2366d822ca88508e69351e2c66f9cdb683bdab916ee564947f98"), looks := true }, kinds := [], alts := [], laidByText := true, laidKinds := [.data, .data, .data, .sentinel, .sentinel], laidTests := true, laidLooks := .later }
def LexBackUptoCardSaid : Prop := Claim7.holds Tryd.pinned (.plain (OpenSpec.upto lexBackSpec)) lexBackUptoCard

/-- THE SECOND FORM's CARD OF 'musterlaw23.NoteBack'. -/
def noteBackUptoCard : Claim7 := { stood := { row := noteBackUptoRow, standIns := [], harness := (true, "1bc526f0019f2366d822ca88508e69351e2c66f9cdb683bdab916ee564947f98"), looks := true }, kinds := [], alts := [], laidByText := true, laidKinds := [.data, .data, .data, .sentinel, .sentinel], laidTests := true, laidLooks := .later }
def NoteBackUptoCardSaid : Prop := Claim7.holds Tryd.pinned (.plain (OpenSpec.upto noteBackSpec)) noteBackUptoCard

/-- THE SECOND FORM's CARD OF 'musterlaw23.NoteReplies'. -/
def noteRepliesUptoCard : Claim7 := { stood := { row := noteRepliesUptoRow, standIns := [], harness := (true, "1bc526f0019f2366d822ca88508e69351e2c66f9cdb683bdab916ee564947f98"), looks := true }, kinds := [], alts := [], laidByText := true, laidKinds := [.data, .data, .data, .sentinel, .sentinel], laidTests := true, laidLooks := .later }
def NoteRepliesUptoCardSaid : Prop := Claim7.holds Tryd.pinned (.plain (OpenSpec.upto noteRepliesSpec)) noteRepliesUptoCard
end Rows
end Go.Proofs.YtenonfoocjcdmaaDoor
