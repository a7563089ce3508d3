/-
  DERIVED. GIVEN WITH THE SEED: THE CARDS: each row of YtbjpkfaiofkmdaaGreatDoorRows.lean that lists a variable, with what it lists TIED to the program's text (the seventh form; the later family's looks); each row that meets fmt, with fmt's text TOLD by the authors' own Lean function (tested against real Go, not proved from fmt's source: count such statements apart). THE CARD IS WHAT COUNTS. Prove the row's statement (the work); the ties are given (YtbjpkfaiofkmdaaGreatDoorTie.lean); close each card by the builder's one call (the guide's Derived/Test/ToyasCard.lean, 'card_holds'). Laid BY PROGRAM, IN A SANDBOX (cutbox-door.mjs). By AI agents, Wed Nov 11 2026. No macro, syntax, notation, axiom, sorry.
-/
import Derived.Test.YtbjpkfaiofkmdaaGreatDoorRows
import GoSem.ClaimSeven
namespace Go.Proofs.YtbjpkfaiofkmdaaGreatDoor
namespace Rows

/-- THE TIED CARD OF 'chartroomlaw28.ProcNone'. -/
def procNoneCard : Claim7 := { stood := { row := procNoneRow, standIns := [], harness := (true, "a16d92cb219534d3489041a959e5c8626b3704ccc163e0eb25e512a5bbe764b6"), looks := true }, kinds := [], alts := [], laidByText := true, laidKinds := [.data, .data, .data, .data, .sentinel, .sentinel, .pinned], laidTests := true, laidLooks := .later }
def ProcNoneCardSaid : Prop := Claim7.holds Tryz.pinned (.plain (OpenSpec.ofChange procNoneSpec)) procNoneCard

/-- THE SECOND FORM's CARD OF 'chartroomlaw28.ProcNone'. -/
def procNoneUptoCard : Claim7 := { stood := { row := procNoneUptoRow, standIns := [], harness := (true, "a16d92cb219534d3489041a959e5c8626b3704ccc163e0eb25e512a5bbe764b6"), looks := true }, kinds := [], alts := [], laidByText := true, laidKinds := [.data, .data, .data, .data, .sentinel, .sentinel, .pinned], laidTests := true, laidLooks := .later }
def ProcNoneUptoCardSaid : Prop := Claim7.holds Tryz.pinned (.plain (OpenSpec.upto procNoneSpec)) procNoneUptoCard
end Rows
end Go.Proofs.YtbjpkfaiofkmdaaGreatDoor
