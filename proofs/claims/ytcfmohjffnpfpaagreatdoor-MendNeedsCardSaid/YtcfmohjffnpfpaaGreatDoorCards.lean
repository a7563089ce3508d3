/-
  DERIVED. GIVEN WITH THE SEED: THE CARDS: each row of YtcfmohjffnpfpaaGreatDoorRows.lean that lists a variable, with what it lists TIED to the program's text (the seventh form; the later family's looks); each row that meets fmt, with fmt's text TOLD by the authors' own Lean function (tested against real Go, not proved from fmt's source: count such statements apart). THE CARD IS WHAT COUNTS. Prove the row's statement (the work); the ties are given (YtcfmohjffnpfpaaGreatDoorTie.lean); close each card by the builder's one call (the guide's Derived/Test/ToyasCard.lean, 'card_holds'). Laid BY PROGRAM, IN A SANDBOX (cutbox-door.mjs). By AI agents, Wed Nov 11 2026. No macro, syntax, notation, axiom, sorry.
-/
import Derived.Test.YtcfmohjffnpfpaaGreatDoorRows
import GoSem.ClaimSeven
namespace Go.Proofs.YtcfmohjffnpfpaaGreatDoor
namespace Rows

/-- THE TIED CARD OF 'chartroomlaw27.MendNeeds'. -/
def mendNeedsCard : Claim7 := { stood := { row := mendNeedsRow, standIns := [], harness := (true, "ba09b9e8541811a3ff728be260343ccda5a218c1baf4b64bfab8cb6c961bf1f2"), looks := true }, kinds := [], alts := [], laidByText := true, laidKinds := [.data, .data, .data, .data, .sentinel, .sentinel, .pinned], laidTests := true, laidLooks := .later }
def MendNeedsCardSaid : Prop := Claim7.holds Tryz.pinned (.plain (OpenSpec.ofChange mendNeedsSpec)) mendNeedsCard

/-- THE SECOND FORM's CARD OF 'chartroomlaw27.MendNeeds'. -/
def mendNeedsUptoCard : Claim7 := { stood := { row := mendNeedsUptoRow, standIns := [], harness := (true, "ba09b9e8541811a3ff728be260343ccda5a218c1baf4b64bfab8cb6c961bf1f2"), looks := true }, kinds := [], alts := [], laidByText := true, laidKinds := [.data, .data, .data, .data, .sentinel, .sentinel, .pinned], laidTests := true, laidLooks := .later }
def MendNeedsUptoCardSaid : Prop := Claim7.holds Tryz.pinned (.plain (OpenSpec.upto mendNeedsSpec)) mendNeedsUptoCard
end Rows
end Go.Proofs.YtcfmohjffnpfpaaGreatDoor
