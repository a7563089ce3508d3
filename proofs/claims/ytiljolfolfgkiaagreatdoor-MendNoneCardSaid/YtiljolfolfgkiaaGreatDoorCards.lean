/-
  DERIVED. GIVEN WITH THE SEED: THE CARDS: each row of YtiljolfolfgkiaaGreatDoorRows.lean that lists a variable, with what it lists TIED to the program's text (the seventh form; the later family's looks); each row that meets fmt, with fmt's text TOLD by the authors' own Lean function (tested against real Go, not proved from fmt's source: count such statements apart). THE CARD IS WHAT COUNTS. Prove the row's statement (the work); the ties are given (YtiljolfolfgkiaaGreatDoorTie.lean); close each card by the builder's one call (the guide's Derived/Test/ToyasCard.lean, 'card_holds'). Laid BY PROGRAM, IN A SANDBOX (cutbox-door.mjs). By AI agents, Wed Nov 11 2026. No macro, syntax, notation, axiom, sorry.
-/
import Derived.Test.YtiljolfolfgkiaaGreatDoorRows
import GoSem.ClaimSeven
namespace Go.Proofs.YtiljolfolfgkiaaGreatDoor
namespace Rows

/-- THE TIED CARD OF 'chartroomlaw27.MendNone'. -/
def mendNoneCard : Claim7 := { stood := { row := mendNoneRow, standIns := [], harness := (true, "c30524d97f6acae45eaa000eb32176ec4962832c22c8a70a34527ae4d1981115"), looks := true }, kinds := [], alts := [], laidByText := true, laidKinds := [.data, .data, .data, .data, .sentinel, .sentinel, .pinned], laidTests := true, laidLooks := .later }
def MendNoneCardSaid : Prop := Claim7.holds Tryz.pinned (.plain (OpenSpec.ofChange mendNoneSpec)) mendNoneCard

/-- THE SECOND FORM's CARD OF 'chartroomlaw27.MendNone'. -/
def mendNoneUptoCard : Claim7 := { stood := { row := mendNoneUptoRow, standIns := [], harness := (true, "c30524d97f6acae45eaa000eb32176ec4962832c22c8a70a34527ae4d1981115"), looks := true }, kinds := [], alts := [], laidByText := true, laidKinds := [.data, .data, .data, .data, .sentinel, .sentinel, .pinned], laidTests := true, laidLooks := .later }
def MendNoneUptoCardSaid : Prop := Claim7.holds Tryz.pinned (.plain (OpenSpec.upto mendNoneSpec)) mendNoneUptoCard
end Rows
end Go.Proofs.YtiljolfolfgkiaaGreatDoor
