/-
  DERIVED. GIVEN WITH THE SEED: THE CARDS: each row of YtfpioijfocmfcaaGreatDoorRows.lean that lists a variable, with what it lists TIED to the program's text (the seventh form; the later family's looks); each row that meets fmt, with fmt's text TOLD by the authors' own Lean function (tested against real Go, not proved from fmt's source: count such statements apart). THE CARD IS WHAT COUNTS. Prove the row's statement (the work); the ties are given (YtfpioijfocmfcaaGreatDoorTie.lean); close each card by the builder's one call (the guide's Derived/Test/ToyasCard.lean, 'card_holds'). Laid BY PROGRAM, IN A SANDBOX (cutbox-door.mjs). By AI agents, Wed Nov 11 2026. No macro, syntax, notation, axiom, sorry.
-/
import Derived.Test.YtfpioijfocmfcaaGreatDoorRows
import GoSem.ClaimSeven
namespace Go.Proofs.YtfpioijfocmfcaaGreatDoor
namespace Rows

/-- THE TIED CARD OF 'chartroomlaw21.ViewOdd'. -/
def viewOddCard : Claim7 := { stood := { row := viewOddRow, standIns := [], harness := (true, "d42eb021e87a7a5214fb13d9abede5ecbf150ed8b32c413af818066e7c755d04"), looks := true }, kinds := [], alts := [], laidByText := true, laidKinds := [.data, .data, .data, .data, .sentinel, .sentinel, .pinned], laidTests := true, laidLooks := .later }
def ViewOddCardSaid : Prop := Claim7.holds Tryz.pinned (.plain (OpenSpec.ofChange viewOddSpec)) viewOddCard

/-- THE TIED CARD OF 'chartroomlaw21.ViewTells'. -/
def viewTellsCard : Claim7 := { stood := { row := viewTellsRow, standIns := [], harness := (true, "d42eb021e87a7a5214fb13d9abede5ecbf150ed8b32c413af818066e7c755d04"), looks := true }, kinds := [], alts := [], laidByText := true, laidKinds := [.data, .data, .data, .data, .sentinel, .sentinel, .pinned], laidTests := true, laidLooks := .later }
def ViewTellsCardSaid : Prop := Claim7.holds Tryz.pinned (.plain (OpenSpec.ofChange viewTellsSpec)) viewTellsCard

/-- THE TIED CARD OF 'chartroomlaw21.ViewStays'. -/
def viewStaysCard : Claim7 := { stood := { row := viewStaysRow, standIns := [], harness := (true, "d42eb021e87a7a5214fb13d9abede5ecbf150ed8b32c413af818066e7c755d04"), looks := true }, kinds := [], alts := [], laidByText := true, laidKinds := [.data, .data, .data, .data, .sentinel, .sentinel, .pinned], laidTests := true, laidLooks := .later }
def ViewStaysCardSaid : Prop := Claim7.holds Tryz.pinned (.plain (OpenSpec.ofChange viewStaysSpec)) viewStaysCard

/-- THE TIED CARD OF 'chartroomlaw21.ViewKnown'. -/
def viewKnownCard : Claim7 := { stood := { row := viewKnownRow, standIns := [], harness := (true, "d42eb021e87a7a5214fb13d9abede5ecbf150ed8b32c413af818066e7c755d04"), looks := true }, kinds := [], alts := [], laidByText := true, laidKinds := [.data, .data, .data, .data, .sentinel, .sentinel, .pinned], laidTests := true, laidLooks := .later }
def ViewKnownCardSaid : Prop := Claim7.holds Tryz.pinned (.plain (OpenSpec.ofChange viewKnownSpec)) viewKnownCard

/-- THE SECOND FORM's CARD OF 'chartroomlaw21.ViewOdd'. -/
def viewOddUptoCard : Claim7 := { stood := { row := viewOddUptoRow, standIns := [], harness := (true, "d42eb021e87a7a5214fb13d9abede5ecbf150ed8b32c413af818066e7c755d04"), looks := true }, kinds := [], alts := [], laidByText := true, laidKinds := [.data, .data, .data, .data, .sentinel, .sentinel, .pinned], laidTests := true, laidLooks := .later }
def ViewOddUptoCardSaid : Prop := Claim7.holds Tryz.pinned (.plain (OpenSpec.upto viewOddSpec)) viewOddUptoCard

/-- THE SECOND FORM's CARD OF 'chartroomlaw21.ViewTells'. -/
def viewTellsUptoCard : Claim7 := { stood := { row := viewTellsUptoRow, standIns := [], harness := (true, "d42eb021e87a7a5214fb13d9abede5ecbf150ed8b32c413af818066e7c755d04"), looks := true }, kinds := [], alts := [], laidByText := true, laidKinds := [.data, .data, .data, .data, .sentinel, .sentinel, .pinned], laidTests := true, laidLooks := .later }
def ViewTellsUptoCardSaid : Prop := Claim7.holds Tryz.pinned (.plain (OpenSpec.upto viewTellsSpec)) viewTellsUptoCard

/-- THE SECOND FORM's CARD OF 'chartroomlaw21.ViewStays'. -/
def viewStaysUptoCard : Claim7 := { stood := { row := viewStaysUptoRow, standIns := [], harness := (true, "d42eb021e87a7a5214fb13d9abede5ecbf150ed8b32c413af818066e7c755d04"), looks := true }, kinds := [], alts := [], laidByText := true, laidKinds := [.data, .data, .data, .data, .sentinel, .sentinel, .pinned], laidTests := true, laidLooks := .later }
def ViewStaysUptoCardSaid : Prop := Claim7.holds Tryz.pinned (.plain (OpenSpec.upto viewStaysSpec)) viewStaysUptoCard

/-- THE SECOND FORM's CARD OF 'chartroomlaw21.ViewKnown'. -/
def viewKnownUptoCard : Claim7 := { stood := { row := viewKnownUptoRow, standIns := [], harness := (true, "d42eb021e87a7a5214fb13d9abede5ecbf150ed8b32c413af818066e7c755d04"), looks := true }, kinds := [], alts := [], laidByText := true, laidKinds := [.data, .data, .data, .data, .sentinel, .sentinel, .pinned], laidTests := true, laidLooks := .later }
def ViewKnownUptoCardSaid : Prop := Claim7.holds Tryz.pinned (.plain (OpenSpec.upto viewKnownSpec)) viewKnownUptoCard
end Rows
end Go.Proofs.YtfpioijfocmfcaaGreatDoor
