/-
  DERIVED. GIVEN WITH THE SEED: THE CARDS: each row of YtejhglmjgiameaaGreatDoorRows.lean that lists a variable, with what it lists TIED to the program's text (the seventh form; the later family's looks); each row that meets fmt, with fmt's text TOLD by the authors' own Lean function (tested against real Go, not proved from fmt's source: count such statements apart). THE CARD IS WHAT COUNTS. Prove the row's statement (the work); the ties are given (YtejhglmjgiameaaGreatDoorTie.lean); close each card by the builder's one call (the guide's Derived/Test/ToyasCard.lean, 'card_holds'). Laid BY PROGRAM, IN A SANDBOX (cutbox-door.mjs). By AI agents, Wed Nov 11 2026. No macro, syntax, notation, axiom, sorry.
-/
import Derived.Test.YtejhglmjgiameaaGreatDoorRows
import GoSem.ClaimSeven
namespace Go.Proofs.YtejhglmjgiameaaGreatDoor
namespace Rows

/-- THE TIED CARD OF 'chartroomlaw23.ObserveNone'. -/
def observeNoneCard : Claim7 := { stood := { row := observeNoneRow, standIns := [], harness := (true, "9378e3434de23fc74648f7400d410abfcf595ac3345a8707cf2a945d488e1efb"), looks := true }, kinds := [], alts := [], laidByText := true, laidKinds := [.data, .data, .data, .data, .sentinel, .sentinel, .pinned], laidTests := true, laidLooks := .later }
def ObserveNoneCardSaid : Prop := Claim7.holds Tryz.pinned (.plain (OpenSpec.ofChange observeNoneSpec)) observeNoneCard

/-- THE SECOND FORM's CARD OF 'chartroomlaw23.ObserveNone'. -/
def observeNoneUptoCard : Claim7 := { stood := { row := observeNoneUptoRow, standIns := [], harness := (true, "9378e3434de23fc74648f7400d410abfcf595ac3345a8707cf2a945d488e1efb"), looks := true }, kinds := [], alts := [], laidByText := true, laidKinds := [.data, .data, .data, .data, .sentinel, .sentinel, .pinned], laidTests := true, laidLooks := .later }
def ObserveNoneUptoCardSaid : Prop := Claim7.holds Tryz.pinned (.plain (OpenSpec.upto observeNoneSpec)) observeNoneUptoCard
end Rows
end Go.Proofs.YtejhglmjgiameaaGreatDoor
