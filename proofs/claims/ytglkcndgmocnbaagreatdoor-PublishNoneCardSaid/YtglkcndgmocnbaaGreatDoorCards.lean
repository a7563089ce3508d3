/-
  DERIVED. GIVEN WITH THE SEED: THE CARDS: each row of YtglkcndgmocnbaaGreatDoorRows.lean that lists a variable, with what it lists TIED to the program's text (the seventh form; the later family's looks); each row that meets fmt, with fmt's text TOLD by the authors' own Lean function (tested against real Go, not proved from fmt's source: count such statements apart). THE CARD IS WHAT COUNTS. Prove the row's statement (the work); the ties are given (YtglkcndgmocnbaaGreatDoorTie.lean); close each card by the builder's one call (the guide's Derived/Test/ToyasCard.lean, 'card_holds'). Laid BY PROGRAM, IN A SANDBOX (cutbox-door.mjs). By AI agents, Wed Nov 11 2026. No macro, syntax, notation, axiom, sorry.
-/
import Derived.Test.YtglkcndgmocnbaaGreatDoorRows
import GoSem.ClaimSeven
namespace Go.Proofs.YtglkcndgmocnbaaGreatDoor
namespace Rows

/-- THE TIED CARD OF 'chartroomlaw24.PublishNone'. -/
def publishNoneCard : Claim7 := { stood := { row := publishNoneRow, standIns := [], harness := (true, "b4acb33008790692fe4f8128a541e123aae1965400067e14cb1ab627d3d688e1"), looks := true }, kinds := [], alts := [], laidByText := true, laidKinds := [.data, .data, .data, .data, .sentinel, .sentinel, .pinned], laidTests := true, laidLooks := .later }
def PublishNoneCardSaid : Prop := Claim7.holds Tryz.pinned (.plain (OpenSpec.ofChange publishNoneSpec)) publishNoneCard

/-- THE SECOND FORM's CARD OF 'chartroomlaw24.PublishNone'. -/
def publishNoneUptoCard : Claim7 := { stood := { row := publishNoneUptoRow, standIns := [], harness := (true, "b4acb33008790692fe4f8128a541e123aae1965400067e14cb1ab627d3d688e1"), looks := true }, kinds := [], alts := [], laidByText := true, laidKinds := [.data, .data, .data, .data, .sentinel, .sentinel, .pinned], laidTests := true, laidLooks := .later }
def PublishNoneUptoCardSaid : Prop := Claim7.holds Tryz.pinned (.plain (OpenSpec.upto publishNoneSpec)) publishNoneUptoCard
end Rows
end Go.Proofs.YtglkcndgmocnbaaGreatDoor
