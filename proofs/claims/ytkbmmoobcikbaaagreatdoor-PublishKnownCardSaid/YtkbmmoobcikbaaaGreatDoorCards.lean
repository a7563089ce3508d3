/-
  DERIVED. GIVEN WITH THE SEED: THE CARDS: each row of YtkbmmoobcikbaaaGreatDoorRows.lean that lists a variable, with what it lists TIED to the program's text (the seventh form; the later family's looks); each row that meets fmt, with fmt's text TOLD by the authors' own Lean function (tested against real Go, not proved from fmt's source: count such statements apart). THE CARD IS WHAT COUNTS. Prove the row's statement (the work); the ties are given (YtkbmmoobcikbaaaGreatDoorTie.lean); close each card by the builder's one call (the guide's Derived/Test/ToyasCard.lean, 'card_holds'). Laid BY PROGRAM, IN A SANDBOX (cutbox-door.mjs). By AI agents, Wed Nov 11 2026. No macro, syntax, notation, axiom, sorry.
-/
import Derived.Test.YtkbmmoobcikbaaaGreatDoorRows
import GoSem.ClaimSeven
namespace Go.Proofs.YtkbmmoobcikbaaaGreatDoor
namespace Rows

/-- THE TIED CARD OF 'chartroomlaw24.PublishKnown'. -/
def publishKnownCard : Claim7 := { stood := { row := publishKnownRow, standIns := [], harness := (true, "cf7cd0688ddf99b851cb24427c2a944069fb605f4a74ef30c4a8e59385f89bac"), looks := true }, kinds := [], alts := [], laidByText := true, laidKinds := [.data, .data, .data, .data, .sentinel, .sentinel, .pinned], laidTests := true, laidLooks := .later }
def PublishKnownCardSaid : Prop := Claim7.holds Tryz.pinned (.plain (OpenSpec.ofChange publishKnownSpec)) publishKnownCard

/-- THE SECOND FORM's CARD OF 'chartroomlaw24.PublishKnown'. -/
def publishKnownUptoCard : Claim7 := { stood := { row := publishKnownUptoRow, standIns := [], harness := (true, "cf7cd0688ddf99b851cb24427c2a944069fb605f4a74ef30c4a8e59385f89bac"), looks := true }, kinds := [], alts := [], laidByText := true, laidKinds := [.data, .data, .data, .data, .sentinel, .sentinel, .pinned], laidTests := true, laidLooks := .later }
def PublishKnownUptoCardSaid : Prop := Claim7.holds Tryz.pinned (.plain (OpenSpec.upto publishKnownSpec)) publishKnownUptoCard
end Rows
end Go.Proofs.YtkbmmoobcikbaaaGreatDoor
