/-
  DERIVED. GIVEN WITH THE SEED: THE CARDS: each row of YtiddcnmgjabbeaaGreatDoorRows.lean that lists a variable, with what it lists TIED to the program's text (the seventh form; the later family's looks); each row that meets fmt, with fmt's text TOLD by the authors' own Lean function (tested against real Go, not proved from fmt's source: count such statements apart). THE CARD IS WHAT COUNTS. Prove the row's statement (the work); the ties are given (YtiddcnmgjabbeaaGreatDoorTie.lean); close each card by the builder's one call (the guide's Derived/Test/ToyasCard.lean, 'card_holds'). Laid BY PROGRAM, IN A SANDBOX (cutbox-door.mjs). By AI agents, Wed Nov 11 2026. No macro, syntax, notation, axiom, sorry.
-/
import Derived.Test.YtiddcnmgjabbeaaGreatDoorRows
import GoSem.ClaimSeven
namespace Go.Proofs.YtiddcnmgjabbeaaGreatDoor
namespace Rows

/-- THE TIED CARD OF 'chartroomlaw25.ActNone'. -/
def actNoneCard : Claim7 := { stood := { row := actNoneRow, standIns := [], harness := (true, "e1737ab4d48a4874e1f49b9e001ab2a73dcda508b81e2508e39ab29c6539a7cc"), looks := true }, kinds := [], alts := [], laidByText := true, laidKinds := [.data, .data, .data, .data, .sentinel, .sentinel, .pinned], laidTests := true, laidLooks := .later }
def ActNoneCardSaid : Prop := Claim7.holds Tryz.pinned (.plain (OpenSpec.ofChange actNoneSpec)) actNoneCard

/-- THE SECOND FORM's CARD OF 'chartroomlaw25.ActNone'. -/
def actNoneUptoCard : Claim7 := { stood := { row := actNoneUptoRow, standIns := [], harness := (true, "e1737ab4d48a4874e1f49b9e001ab2a73dcda508b81e2508e39ab29c6539a7cc"), looks := true }, kinds := [], alts := [], laidByText := true, laidKinds := [.data, .data, .data, .data, .sentinel, .sentinel, .pinned], laidTests := true, laidLooks := .later }
def ActNoneUptoCardSaid : Prop := Claim7.holds Tryz.pinned (.plain (OpenSpec.upto actNoneSpec)) actNoneUptoCard
end Rows
end Go.Proofs.YtiddcnmgjabbeaaGreatDoor
