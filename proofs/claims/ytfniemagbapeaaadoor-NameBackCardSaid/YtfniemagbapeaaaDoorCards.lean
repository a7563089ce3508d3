/-
  DERIVED. GIVEN WITH THE SEED: THE CARDS: each row of YtfniemagbapeaaaDoorRows.lean that lists a variable, with what it lists TIED to the program's text (the seventh form; the later family's looks); each row that meets fmt, with fmt's text TOLD by the authors' own Lean function (tested against real Go, not proved from fmt's source: count such statements apart). THE CARD IS WHAT COUNTS. Prove the row's statement (the work); the ties are given (YtfniemagbapeaaaDoorTie.lean); close each card by the builder's one call (the guide's Derived/Test/ToyasCard.lean, 'card_holds'). Laid BY PROGRAM, IN A SANDBOX (cutbox-door.mjs). By AI agents, Wed Nov 11 2026. No macro, syntax, notation, axiom, sorry.
-/
import Derived.Test.YtfniemagbapeaaaDoorRows
import GoSem.ClaimSeven
namespace Go.Proofs.YtfniemagbapeaaaDoor
namespace Rows

/-- THE TIED CARD OF 'chartroomlaw04.NameReads'. -/
def nameReadsCard : Claim7 := { stood := { row := nameReadsRow, standIns := [], harness := (true, "ff53c68dada272456fc9f4b41925c959d24435430c6e16211e0b27670e7a6645"), looks := true }, kinds := [], alts := [], laidByText := true, laidKinds := [.data, .data, .data, .data, .sentinel, .sentinel, .pinned], laidTests := true, laidLooks := .later }
def NameReadsCardSaid : Prop := Claim7.holds Tryd.pinned (.plain (OpenSpec.ofChange nameReadsSpec)) nameReadsCard

/-- THE TIED CARD OF 'chartroomlaw04.NameOf'. -/
def nameOfCard : Claim7 := { stood := { row := nameOfRow, standIns := [], harness := (true, "ff53c68dada272456fc9f4b41925c959d24435430c6e16211e0b27670e7a6645"), looks := true }, kinds := [], alts := [], laidByText := true, laidKinds := [.data, .data, .data, .data, .sentinel, .sentinel, .pinned], laidTests := true, laidLooks := .later }
def NameOfCardSaid : Prop := Claim7.holds Tryd.pinned (.plain (OpenSpec.ofChange nameOfSpec)) nameOfCard

/-- THE TIED CARD OF 'chartroomlaw04.NamePuts'. -/
def namePutsCard : Claim7 := { stood := { row := namePutsRow, standIns := [], harness := (true, "ff53c68dada272456fc9f4b41925c959d24435430c6e16211e0b27670e7a6645"), looks := true }, kinds := [], alts := [], laidByText := true, laidKinds := [.data, .data, .data, .data, .sentinel, .sentinel, .pinned], laidTests := true, laidLooks := .later }
def NamePutsCardSaid : Prop := Claim7.holds Tryd.pinned (.plain (OpenSpec.ofChange namePutsSpec)) namePutsCard

/-- THE TIED CARD OF 'chartroomlaw04.NameBack'. -/
def nameBackCard : Claim7 := { stood := { row := nameBackRow, standIns := [], harness := (true, "ff53c68dada272456fc9f4b41925c959d24435430c6e16211e0b27670e7a6645"), looks := true }, kinds := [], alts := [], laidByText := true, laidKinds := [.data, .data, .data, .data, .sentinel, .sentinel, .pinned], laidTests := true, laidLooks := .later }
def NameBackCardSaid : Prop := Claim7.holds Tryd.pinned (.plain (OpenSpec.ofChange nameBackSpec)) nameBackCard

/-- THE SECOND FORM's CARD OF 'chartroomlaw04.NameReads'. -/
def nameReadsUptoCard : Claim7 := { stood := { row := nameReadsUptoRow, standIns := [], harness := (true, "ff53c68dada272456fc9f4b41925c959d24435430c6e16211e0b27670e7a6645"), looks := true }, kinds := [], alts := [], laidByText := true, laidKinds := [.data, .data, .data, .data, .sentinel, .sentinel, .pinned], laidTests := true, laidLooks := .later }
def NameReadsUptoCardSaid : Prop := Claim7.holds Tryd.pinned (.plain (OpenSpec.upto nameReadsSpec)) nameReadsUptoCard

/-- THE SECOND FORM's CARD OF 'chartroomlaw04.NameOf'. -/
def nameOfUptoCard : Claim7 := { stood := { row := nameOfUptoRow, standIns := [], harness := (true, "ff53c68dada272456fc9f4b41925c959d24435430c6e16211e0b27670e7a6645"), looks := true }, kinds := [], alts := [], laidByText := true, laidKinds := [.data, .data, .data, .data, .sentinel, .sentinel, .pinned], laidTests := true, laidLooks := .later }
def NameOfUptoCardSaid : Prop := Claim7.holds Tryd.pinned (.plain (OpenSpec.upto nameOfSpec)) nameOfUptoCard

/-- THE SECOND FORM's CARD OF 'chartroomlaw04.NamePuts'. -/
def namePutsUptoCard : Claim7 := { stood := { row := namePutsUptoRow, standIns := [], harness := (true, "ff53c68dada272456fc9f4b41925c959d24435430c6e16211e0b27670e7a6645"), looks := true }, kinds := [], alts := [], laidByText := true, laidKinds := [.data, .data, .data, .data, .sentinel, .sentinel, .pinned], laidTests := true, laidLooks := .later }
def NamePutsUptoCardSaid : Prop := Claim7.holds Tryd.pinned (.plain (OpenSpec.upto namePutsSpec)) namePutsUptoCard

/-- THE SECOND FORM's CARD OF 'chartroomlaw04.NameBack'. -/
def nameBackUptoCard : Claim7 := { stood := { row := nameBackUptoRow, standIns := [], harness := (true, "ff53c68dada272456fc9f4b41925c959d24435430c6e16211e0b27670e7a6645"), looks := true }, kinds := [], alts := [], laidByText := true, laidKinds := [.data, .data, .data, .data, .sentinel, .sentinel, .pinned], laidTests := true, laidLooks := .later }
def NameBackUptoCardSaid : Prop := Claim7.holds Tryd.pinned (.plain (OpenSpec.upto nameBackSpec)) nameBackUptoCard
end Rows
end Go.Proofs.YtfniemagbapeaaaDoor
