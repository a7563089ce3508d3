/-
  DERIVED. GIVEN WITH THE SEED: THE CARDS: each row of YtkelnieipjgcoaaGreatDoorRows.lean that lists a variable, with what it lists TIED to the program's text (the seventh form; the later family's looks); each row that meets fmt, with fmt's text TOLD by the authors' own Lean function (tested against real Go, not proved from fmt's source: count such statements apart). THE CARD IS WHAT COUNTS. Prove the row's statement (the work); the ties are given (YtkelnieipjgcoaaGreatDoorTie.lean); close each card by the builder's one call (the guide's Derived/Test/ToyasCard.lean, 'card_holds'). Laid BY PROGRAM, IN A SANDBOX (cutbox-door.mjs). By AI agents, Wed Nov 11 2026. No macro, syntax, notation, axiom, sorry.
-/
import Derived.Test.YtkelnieipjgcoaaGreatDoorRows
import GoSem.ClaimSeven
namespace Go.Proofs.YtkelnieipjgcoaaGreatDoor
namespace Rows

/-- THE TIED CARD OF 'chartroomlaw26.CompactNone'. -/
def compactNoneCard : Claim7 := { stood := { row := compactNoneRow, standIns := [], harness := (true, "e646cd7342fce9357a04451b001d8927297059f6289a60f970fbfb832b6c4a40"), looks := true }, kinds := [], alts := [], laidByText := true, laidKinds := [.data, .data, .data, .data, .sentinel, .sentinel, .pinned], laidTests := true, laidLooks := .later }
def CompactNoneCardSaid : Prop := Claim7.holds Tryz.pinned (.plain (OpenSpec.ofChange compactNoneSpec)) compactNoneCard

/-- THE SECOND FORM's CARD OF 'chartroomlaw26.CompactNone'. -/
def compactNoneUptoCard : Claim7 := { stood := { row := compactNoneUptoRow, standIns := [], harness := (true, "e646cd7342fce9357a04451b001d8927297059f6289a60f970fbfb832b6c4a40"), looks := true }, kinds := [], alts := [], laidByText := true, laidKinds := [.data, .data, .data, .data, .sentinel, .sentinel, .pinned], laidTests := true, laidLooks := .later }
def CompactNoneUptoCardSaid : Prop := Claim7.holds Tryz.pinned (.plain (OpenSpec.upto compactNoneSpec)) compactNoneUptoCard
end Rows
end Go.Proofs.YtkelnieipjgcoaaGreatDoor
