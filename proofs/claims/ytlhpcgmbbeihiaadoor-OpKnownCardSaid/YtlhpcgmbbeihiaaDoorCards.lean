/-
  DERIVED. GIVEN WITH THE SEED: THE CARDS: each row of YtlhpcgmbbeihiaaDoorRows.lean that lists a variable, with what it lists TIED to the program's text (the seventh form; the later family's looks); each row that meets fmt, with fmt's text TOLD by the authors' own Lean function (tested against real Go, not proved from fmt's source: count such statements apart). THE CARD IS WHAT COUNTS. Prove the row's statement (the work); the ties are given (YtlhpcgmbbeihiaaDoorTie.lean); close each card by the builder's one call (the guide's Derived/Test/ToyasCard.lean, 'card_holds'). Laid BY PROGRAM, IN A SANDBOX (cutbox-door.mjs). By AI agents, Wed Nov 11 2026. No macro, syntax, notation, axiom, sorry.
-/
import Derived.Test.YtlhpcgmbbeihiaaDoorRows
import GoSem.ClaimSeven
namespace Go.Proofs.YtlhpcgmbbeihiaaDoor
namespace Rows

/-- THE TIED CARD OF 'chartroomlaw19.OpBytes'. -/
def opBytesCard : Claim7 := { stood := { row := opBytesRow, standIns := [], harness := (true, "e33bb559bc6b034d893bef1050787c2b6de4d2abcbe252a0a00dee9a8a57ab7c"), looks := false }, kinds := [], alts := [], laidByText := true, laidKinds := [.data, .data, .data], laidTests := true, laidLooks := .later }
def OpBytesCardSaid : Prop := Claim7.holds Tryd.pinned (.plain (OpenSpec.ofChange opBytesSpec)) opBytesCard

/-- THE TIED CARD OF 'chartroomlaw19.OpBack'. -/
def opBackCard : Claim7 := { stood := { row := opBackRow, standIns := [], harness := (true, "e33bb559bc6b034d893bef1050787c2b6de4d2abcbe252a0a00dee9a8a57ab7c"), looks := false }, kinds := [], alts := [], laidByText := true, laidKinds := [.data, .data, .data], laidTests := true, laidLooks := .later }
def OpBackCardSaid : Prop := Claim7.holds Tryd.pinned (.plain (OpenSpec.ofChange opBackSpec)) opBackCard

/-- THE TIED CARD OF 'chartroomlaw19.OpTells'. -/
def opTellsCard : Claim7 := { stood := { row := opTellsRow, standIns := [], harness := (true, "e33bb559bc6b034d893bef1050787c2b6de4d2abcbe252a0a00dee9a8a57ab7c"), looks := false }, kinds := [], alts := [], laidByText := true, laidKinds := [.data, .data, .data], laidTests := true, laidLooks := .later }
def OpTellsCardSaid : Prop := Claim7.holds Tryd.pinned (.plain (OpenSpec.ofChange opTellsSpec)) opTellsCard

/-- THE TIED CARD OF 'chartroomlaw19.OpShows'. -/
def opShowsCard : Claim7 := { stood := { row := opShowsRow, standIns := [], harness := (true, "e33bb559bc6b034d893bef1050787c2b6de4d2abcbe252a0a00dee9a8a57ab7c"), looks := false }, kinds := [], alts := [], laidByText := true, laidKinds := [.data, .data, .data], laidTests := true, laidLooks := .later }
def OpShowsCardSaid : Prop := Claim7.holds Tryd.pinned (.plain (OpenSpec.ofChange opShowsSpec)) opShowsCard

/-- THE TIED CARD OF 'chartroomlaw19.OpKnown'. -/
def opKnownCard : Claim7 := { stood := { row := opKnownRow, standIns := [], harness := (true, "e33bb559bc6b034d893bef1050787c2b6de4d2abcbe252a0a00dee9a8a57ab7c"), looks := false }, kinds := [], alts := [], laidByText := true, laidKinds := [.data, .data, .data], laidTests := true, laidLooks := .later }
def OpKnownCardSaid : Prop := Claim7.holds Tryd.pinned (.plain (OpenSpec.ofChange opKnownSpec)) opKnownCard

/-- THE SECOND FORM's CARD OF 'chartroomlaw19.OpBytes'. -/
def opBytesUptoCard : Claim7 := { stood := { row := opBytesUptoRow, standIns := [], harness := (true, "e33bb559bc6b034d893bef1050787c2b6de4d2abcbe252a0a00dee9a8a57ab7c"), looks := false }, kinds := [], alts := [], laidByText := true, laidKinds := [.data, .data, .data], laidTests := true, laidLooks := .later }
def OpBytesUptoCardSaid : Prop := Claim7.holds Tryd.pinned (.plain (OpenSpec.upto opBytesSpec)) opBytesUptoCard

/-- THE SECOND FORM's CARD OF 'chartroomlaw19.OpBack'. -/
def opBackUptoCard : Claim7 := { stood := { row := opBackUptoRow, standIns := [], harness := (true, "e33bb559bc6b034d893bef1050787c2b6de4d2abcbe252a0a00dee9a8a57ab7c"), looks := false }, kinds := [], alts := [], laidByText := true, laidKinds := [.data, .data, .data], laidTests := true, laidLooks := .later }
def OpBackUptoCardSaid : Prop := Claim7.holds Tryd.pinned (.plain (OpenSpec.upto opBackSpec)) opBackUptoCard

/-- THE SECOND FORM's CARD OF 'chartroomlaw19.OpTells'. -/
def opTellsUptoCard : Claim7 := { stood := { row := opTellsUptoRow, standIns := [], harness := (true, "e33bb559bc6b034d893bef1050787c2b6de4d2abcbe252a0a00dee9a8a57ab7c"), looks := false }, kinds := [], alts := [], laidByText := true, laidKinds := [.data, .data, .data], laidTests := true, laidLooks := .later }
def OpTellsUptoCardSaid : Prop := Claim7.holds Tryd.pinned (.plain (OpenSpec.upto opTellsSpec)) opTellsUptoCard

/-- THE SECOND FORM's CARD OF 'chartroomlaw19.OpShows'. -/
def opShowsUptoCard : Claim7 := { stood := { row := opShowsUptoRow, standIns := [], harness := (true, "e33bb559bc6b034d893bef1050787c2b6de4d2abcbe252a0a00dee9a8a57ab7c"), looks := false }, kinds := [], alts := [], laidByText := true, laidKinds := [.data, .data, .data], laidTests := true, laidLooks := .later }
def OpShowsUptoCardSaid : Prop := Claim7.holds Tryd.pinned (.plain (OpenSpec.upto opShowsSpec)) opShowsUptoCard

/-- THE SECOND FORM's CARD OF 'chartroomlaw19.OpKnown'. -/
def opKnownUptoCard : Claim7 := { stood := { row := opKnownUptoRow, standIns := [], harness := (true, "e33bb559bc6b034d893bef1050787c2b6de4d2abcbe252a0a00dee9a8a57ab7c"), looks := false }, kinds := [], alts := [], laidByText := true, laidKinds := [.data, .data, .data], laidTests := true, laidLooks := .later }
def OpKnownUptoCardSaid : Prop := Claim7.holds Tryd.pinned (.plain (OpenSpec.upto opKnownSpec)) opKnownUptoCard
end Rows
end Go.Proofs.YtlhpcgmbbeihiaaDoor
