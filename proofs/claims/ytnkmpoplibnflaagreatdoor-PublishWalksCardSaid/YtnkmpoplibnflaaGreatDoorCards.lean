/-
  DERIVED. GIVEN WITH THE SEED: THE CARDS: each row of YtnkmpoplibnflaaGreatDoorRows.lean that lists a variable, with what it lists TIED to the program's text (the seventh form; the later family's looks); each row that meets fmt, with fmt's text TOLD by the authors' own Lean function (tested against real Go, not proved from fmt's source: count such statements apart). THE CARD IS WHAT COUNTS. Prove the row's statement (the work); the ties are given (YtnkmpoplibnflaaGreatDoorTie.lean); close each card by the builder's one call (the guide's Derived/Test/ToyasCard.lean, 'card_holds'). Laid BY PROGRAM, IN A SANDBOX (cutbox-door.mjs). By AI agents, Wed Nov 11 2026. No macro, syntax, notation, axiom, sorry.
-/
import Derived.Test.YtnkmpoplibnflaaGreatDoorRows
import GoSem.ClaimSeven
namespace Go.Proofs.YtnkmpoplibnflaaGreatDoor
namespace Rows

/-- THE TIED CARD OF 'chartroomlaw24.PublishWalks'. -/
def publishWalksCard : Claim7 := { stood := { row := publishWalksRow, standIns := [], harness := (true, "a505ffd601f2db83c54e7849bfc86538fadd539efbfce6b5c58da9b90d120fca"), looks := true }, kinds := [], alts := [], laidByText := true, laidKinds := [.data, .data, .data, .data, .sentinel, .sentinel, .pinned], laidTests := true, laidLooks := .later }
def PublishWalksCardSaid : Prop := Claim7.holds Tryz.pinned (.plain (OpenSpec.ofChange publishWalksSpec)) publishWalksCard

/-- THE SECOND FORM's CARD OF 'chartroomlaw24.PublishWalks'. -/
def publishWalksUptoCard : Claim7 := { stood := { row := publishWalksUptoRow, standIns := [], harness := (true, "a505ffd601f2db83c54e7849bfc86538fadd539efbfce6b5c58da9b90d120fca"), looks := true }, kinds := [], alts := [], laidByText := true, laidKinds := [.data, .data, .data, .data, .sentinel, .sentinel, .pinned], laidTests := true, laidLooks := .later }
def PublishWalksUptoCardSaid : Prop := Claim7.holds Tryz.pinned (.plain (OpenSpec.upto publishWalksSpec)) publishWalksUptoCard
end Rows
end Go.Proofs.YtnkmpoplibnflaaGreatDoor
