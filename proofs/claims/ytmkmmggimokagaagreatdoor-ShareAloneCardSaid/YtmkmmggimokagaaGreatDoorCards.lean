/-
  DERIVED. GIVEN WITH THE SEED: THE CARDS: each row of YtmkmmggimokagaaGreatDoorRows.lean that lists a variable, with what it lists TIED to the program's text (the seventh form; the later family's looks); each row that meets fmt, with fmt's text TOLD by the authors' own Lean function (tested against real Go, not proved from fmt's source: count such statements apart). THE CARD IS WHAT COUNTS. Prove the row's statement (the work); the ties are given (YtmkmmggimokagaaGreatDoorTie.lean); close each card by the builder's one call (the guide's Derived/Test/ToyasCard.lean, 'card_holds'). Laid BY PROGRAM, IN A SANDBOX (cutbox-door.mjs). By AI agents, Wed Nov 11 2026. No macro, syntax, notation, axiom, sorry.
-/
import Derived.Test.YtmkmmggimokagaaGreatDoorRows
import GoSem.ClaimSeven
namespace Go.Proofs.YtmkmmggimokagaaGreatDoor
namespace Rows

/-- THE TIED CARD OF 'musterlaw18.ShareOrder'. -/
def shareOrderCard : Claim7 := { stood := { row := shareOrderRow, standIns := [], harness := (true, "753054a1de0dc08f4c975aa1e0fab865063a1cc2f5b346b00dd0c506815a9875"), looks := true }, kinds := [], alts := [], laidByText := true, laidKinds := [.data, .data, .data, .sentinel, .sentinel], laidTests := true, laidLooks := .later }
def ShareOrderCardSaid : Prop := Claim7.holds Tryz.pinned (.plain (OpenSpec.ofChange shareOrderSpec)) shareOrderCard

/-- THE TIED CARD OF 'musterlaw18.ShareAlone'. -/
def shareAloneCard : Claim7 := { stood := { row := shareAloneRow, standIns := [], harness := (true, "753054a1de0dc08f4c975aa1e0fab865063a1cc2f5b346b00dd0c506815a9875"), looks := true }, kinds := [], alts := [], laidByText := true, laidKinds := [.data, .data, .data, .sentinel, .sentinel], laidTests := true, laidLooks := .later }
def ShareAloneCardSaid : Prop := Claim7.holds Tryz.pinned (.plain (OpenSpec.ofChange shareAloneSpec)) shareAloneCard

/-- THE SECOND FORM's CARD OF 'musterlaw18.ShareOrder'. -/
def shareOrderUptoCard : Claim7 := { stood := { row := shareOrderUptoRow, standIns := [], harness := (true, "753054a1de0dc08f4c975aa1e0fab865063a1cc2f5b346b00dd0c506815a9875"), looks := true }, kinds := [], alts := [], laidByText := true, laidKinds := [.data, .data, .data, .sentinel, .sentinel], laidTests := true, laidLooks := .later }
def ShareOrderUptoCardSaid : Prop := Claim7.holds Tryz.pinned (.plain (OpenSpec.upto shareOrderSpec)) shareOrderUptoCard

/-- THE SECOND FORM's CARD OF 'musterlaw18.ShareAlone'. -/
def shareAloneUptoCard : Claim7 := { stood := { row := shareAloneUptoRow, standIns := [], harness := (true, "753054a1de0dc08f4c975aa1e0fab865063a1cc2f5b346b00dd0c506815a9875"), looks := true }, kinds := [], alts := [], laidByText := true, laidKinds := [.data, .data, .data, .sentinel, .sentinel], laidTests := true, laidLooks := .later }
def ShareAloneUptoCardSaid : Prop := Claim7.holds Tryz.pinned (.plain (OpenSpec.upto shareAloneSpec)) shareAloneUptoCard
end Rows
end Go.Proofs.YtmkmmggimokagaaGreatDoor
