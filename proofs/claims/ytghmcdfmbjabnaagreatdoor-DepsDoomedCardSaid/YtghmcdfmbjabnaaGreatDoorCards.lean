/-
  DERIVED. GIVEN WITH THE SEED: THE CARDS: each row of YtghmcdfmbjabnaaGreatDoorRows.lean that lists a variable, with what it lists TIED to the program's text (the seventh form; the later family's looks); each row that meets fmt, with fmt's text TOLD by the authors' own Lean function (tested against real Go, not proved from fmt's source: count such statements apart). THE CARD IS WHAT COUNTS. Prove the row's statement (the work); the ties are given (YtghmcdfmbjabnaaGreatDoorTie.lean); close each card by the builder's one call (the guide's Derived/Test/ToyasCard.lean, 'card_holds'). Laid BY PROGRAM, IN A SANDBOX (cutbox-door.mjs). By AI agents, Wed Nov 11 2026. No macro, syntax, notation, axiom, sorry.
-/
import Derived.Test.YtghmcdfmbjabnaaGreatDoorRows
import GoSem.ClaimSeven
namespace Go.Proofs.YtghmcdfmbjabnaaGreatDoor
namespace Rows

/-- THE TIED CARD OF 'musterlaw14.JobDoes'. -/
def jobDoesCard : Claim7 := { stood := { row := jobDoesRow, standIns := [], harness := (true, "c0dc36fd43d5d850b20f1f75659bef294f3160f33c1c3bd9e65d3f3f764dda84"), looks := true }, kinds := [], alts := [], laidByText := true, laidKinds := [.data, .data, .data, .sentinel, .sentinel], laidTests := true, laidLooks := .later }
def JobDoesCardSaid : Prop := Claim7.holds Tryz.pinned (.plain (OpenSpec.ofChange jobDoesSpec)) jobDoesCard

/-- THE TIED CARD OF 'musterlaw15.TableLooks'. -/
def tableLooksCard : Claim7 := { stood := { row := tableLooksRow, standIns := [], harness := (true, "c0dc36fd43d5d850b20f1f75659bef294f3160f33c1c3bd9e65d3f3f764dda84"), looks := true }, kinds := [], alts := [], laidByText := true, laidKinds := [.data, .data, .data, .sentinel, .sentinel], laidTests := true, laidLooks := .later }
def TableLooksCardSaid : Prop := Claim7.holds Tryz.pinned (.plain (OpenSpec.ofChange tableLooksSpec)) tableLooksCard

/-- THE TIED CARD OF 'musterlaw15.TableTurns'. -/
def tableTurnsCard : Claim7 := { stood := { row := tableTurnsRow, standIns := [], harness := (true, "c0dc36fd43d5d850b20f1f75659bef294f3160f33c1c3bd9e65d3f3f764dda84"), looks := true }, kinds := [], alts := [], laidByText := true, laidKinds := [.data, .data, .data, .sentinel, .sentinel], laidTests := true, laidLooks := .later }
def TableTurnsCardSaid : Prop := Claim7.holds Tryz.pinned (.plain (OpenSpec.ofChange tableTurnsSpec)) tableTurnsCard

/-- THE TIED CARD OF 'musterlaw15.TableKeeps'. -/
def tableKeepsCard : Claim7 := { stood := { row := tableKeepsRow, standIns := [], harness := (true, "c0dc36fd43d5d850b20f1f75659bef294f3160f33c1c3bd9e65d3f3f764dda84"), looks := true }, kinds := [], alts := [], laidByText := true, laidKinds := [.data, .data, .data, .sentinel, .sentinel], laidTests := true, laidLooks := .later }
def TableKeepsCardSaid : Prop := Claim7.holds Tryz.pinned (.plain (OpenSpec.ofChange tableKeepsSpec)) tableKeepsCard

/-- THE TIED CARD OF 'musterlaw15.TableUsers'. -/
def tableUsersCard : Claim7 := { stood := { row := tableUsersRow, standIns := [], harness := (true, "c0dc36fd43d5d850b20f1f75659bef294f3160f33c1c3bd9e65d3f3f764dda84"), looks := true }, kinds := [], alts := [], laidByText := true, laidKinds := [.data, .data, .data, .sentinel, .sentinel], laidTests := true, laidLooks := .later }
def TableUsersCardSaid : Prop := Claim7.holds Tryz.pinned (.plain (OpenSpec.ofChange tableUsersSpec)) tableUsersCard

/-- THE TIED CARD OF 'musterlaw16.DepsStand'. -/
def depsStandCard : Claim7 := { stood := { row := depsStandRow, standIns := [], harness := (true, "c0dc36fd43d5d850b20f1f75659bef294f3160f33c1c3bd9e65d3f3f764dda84"), looks := true }, kinds := [], alts := [], laidByText := true, laidKinds := [.data, .data, .data, .sentinel, .sentinel], laidTests := true, laidLooks := .later }
def DepsStandCardSaid : Prop := Claim7.holds Tryz.pinned (.plain (OpenSpec.ofChange depsStandSpec)) depsStandCard

/-- THE TIED CARD OF 'musterlaw16.DepsDoom'. -/
def depsDoomCard : Claim7 := { stood := { row := depsDoomRow, standIns := [], harness := (true, "c0dc36fd43d5d850b20f1f75659bef294f3160f33c1c3bd9e65d3f3f764dda84"), looks := true }, kinds := [], alts := [], laidByText := true, laidKinds := [.data, .data, .data, .sentinel, .sentinel], laidTests := true, laidLooks := .later }
def DepsDoomCardSaid : Prop := Claim7.holds Tryz.pinned (.plain (OpenSpec.ofChange depsDoomSpec)) depsDoomCard

/-- THE TIED CARD OF 'musterlaw16.DepsOnce'. -/
def depsOnceCard : Claim7 := { stood := { row := depsOnceRow, standIns := [], harness := (true, "c0dc36fd43d5d850b20f1f75659bef294f3160f33c1c3bd9e65d3f3f764dda84"), looks := true }, kinds := [], alts := [], laidByText := true, laidKinds := [.data, .data, .data, .sentinel, .sentinel], laidTests := true, laidLooks := .later }
def DepsOnceCardSaid : Prop := Claim7.holds Tryz.pinned (.plain (OpenSpec.ofChange depsOnceSpec)) depsOnceCard

/-- THE TIED CARD OF 'musterlaw16.DepsDoomed'. -/
def depsDoomedCard : Claim7 := { stood := { row := depsDoomedRow, standIns := [], harness := (true, "c0dc36fd43d5d850b20f1f75659bef294f3160f33c1c3bd9e65d3f3f764dda84"), looks := true }, kinds := [], alts := [], laidByText := true, laidKinds := [.data, .data, .data, .sentinel, .sentinel], laidTests := true, laidLooks := .later }
def DepsDoomedCardSaid : Prop := Claim7.holds Tryz.pinned (.plain (OpenSpec.ofChange depsDoomedSpec)) depsDoomedCard

/-- THE SECOND FORM's CARD OF 'musterlaw14.JobDoes'. -/
def jobDoesUptoCard : Claim7 := { stood := { row := jobDoesUptoRow, standIns := [], harness := (true, "c0dc36fd43d5d850b20f1f75659bef294f3160f33c1c3bd9e65d3f3f764dda84"), looks := true }, kinds := [], alts := [], laidByText := true, laidKinds := [.data, .data, .data, .sentinel, .sentinel], laidTests := true, laidLooks := .later }
def JobDoesUptoCardSaid : Prop := Claim7.holds Tryz.pinned (.plain (OpenSpec.upto jobDoesSpec)) jobDoesUptoCard

/-- THE SECOND FORM's CARD OF 'musterlaw15.TableLooks'. -/
def tableLooksUptoCard : Claim7 := { stood := { row := tableLooksUptoRow, standIns := [], harness := (true, "c0dc36fd43d5d850b20f1f75659bef294f3160f33c1c3bd9e65d3f3f764dda84"), looks := true }, kinds := [], alts := [], laidByText := true, laidKinds := [.data, .data, .data, .sentinel, .sentinel], laidTests := true, laidLooks := .later }
def TableLooksUptoCardSaid : Prop := Claim7.holds Tryz.pinned (.plain (OpenSpec.upto tableLooksSpec)) tableLooksUptoCard

/-- THE SECOND FORM's CARD OF 'musterlaw15.TableTurns'. -/
def tableTurnsUptoCard : Claim7 := { stood := { row := tableTurnsUptoRow, standIns := [], harness := (true, "c0dc36fd43d5d850b20f1f75659bef294f3160f33c1c3bd9e65d3f3f764dda84"), looks := true }, kinds := [], alts := [], laidByText := true, laidKinds := [.data, .data, .data, .sentinel, .sentinel], laidTests := true, laidLooks := .later }
def TableTurnsUptoCardSaid : Prop := Claim7.holds Tryz.pinned (.plain (OpenSpec.upto tableTurnsSpec)) tableTurnsUptoCard

/-- THE SECOND FORM's CARD OF 'musterlaw15.TableKeeps'. -/
def tableKeepsUptoCard : Claim7 := { stood := { row := tableKeepsUptoRow, standIns := [], harness := (true, "c0dc36fd43d5d850b20f1f75659bef294f3160f33c1c3bd9e65d3f3f764dda84"), looks := true }, kinds := [], alts := [], laidByText := true, laidKinds := [.data, .data, .data, .sentinel, .sentinel], laidTests := true, laidLooks := .later }
def TableKeepsUptoCardSaid : Prop := Claim7.holds Tryz.pinned (.plain (OpenSpec.upto tableKeepsSpec)) tableKeepsUptoCard

/-- THE SECOND FORM's CARD OF 'musterlaw15.TableUsers'. -/
def tableUsersUptoCard : Claim7 := { stood := { row := tableUsersUptoRow, standIns := [], harness := (true, "c0dc36fd43d5d850b20f1f75659bef294f3160f33c1c3bd9e65d3f3f764dda84"), looks := true }, kinds := [], alts := [], laidByText := true, laidKinds := [.data, .data, .data, .sentinel, .sentinel], laidTests := true, laidLooks := .later }
def TableUsersUptoCardSaid : Prop := Claim7.holds Tryz.pinned (.plain (OpenSpec.upto tableUsersSpec)) tableUsersUptoCard

/-- THE SECOND FORM's CARD OF 'musterlaw16.DepsStand'. -/
def depsStandUptoCard : Claim7 := { stood := { row := depsStandUptoRow, standIns := [], harness := (true, "c0dc36fd43d5d850b20f1f75659bef294f3160f33c1c3bd9e65d3f3f764dda84"), looks := true }, kinds := [], alts := [], laidByText := true, laidKinds := [.data, .data, .data, .sentinel, .sentinel], laidTests := true, laidLooks := .later }
def DepsStandUptoCardSaid : Prop := Claim7.holds Tryz.pinned (.plain (OpenSpec.upto depsStandSpec)) depsStandUptoCard

/-- THE SECOND FORM's CARD OF 'musterlaw16.DepsDoom'. -/
def depsDoomUptoCard : Claim7 := { stood := { row := depsDoomUptoRow, standIns := [], harness := (true, "c0dc36fd43d5d850b20f1f75659bef294f3160f33c1c3bd9e65d3f3f764dda84"), looks := true }, kinds := [], alts := [], laidByText := true, laidKinds := [.data, .data, .data, .sentinel, .sentinel], laidTests := true, laidLooks := .later }
def DepsDoomUptoCardSaid : Prop := Claim7.holds Tryz.pinned (.plain (OpenSpec.upto depsDoomSpec)) depsDoomUptoCard

/-- THE SECOND FORM's CARD OF 'musterlaw16.DepsOnce'. -/
def depsOnceUptoCard : Claim7 := { stood := { row := depsOnceUptoRow, standIns := [], harness := (true, "c0dc36fd43d5d850b20f1f75659bef294f3160f33c1c3bd9e65d3f3f764dda84"), looks := true }, kinds := [], alts := [], laidByText := true, laidKinds := [.data, .data, .data, .sentinel, .sentinel], laidTests := true, laidLooks := .later }
def DepsOnceUptoCardSaid : Prop := Claim7.holds Tryz.pinned (.plain (OpenSpec.upto depsOnceSpec)) depsOnceUptoCard

/-- THE SECOND FORM's CARD OF 'musterlaw16.DepsDoomed'. -/
def depsDoomedUptoCard : Claim7 := { stood := { row := depsDoomedUptoRow, standIns := [], harness := (true, "c0dc36fd43d5d850b20f1f75659bef294f3160f33c1c3bd9e65d3f3f764dda84"), looks := true }, kinds := [], alts := [], laidByText := true, laidKinds := [.data, .data, .data, .sentinel, .sentinel], laidTests := true, laidLooks := .later }
def DepsDoomedUptoCardSaid : Prop := Claim7.holds Tryz.pinned (.plain (OpenSpec.upto depsDoomedSpec)) depsDoomedUptoCard
end Rows
end Go.Proofs.YtghmcdfmbjabnaaGreatDoor
