/-
  WHAT THE CARD OF THE LAW PublishKnown ASKS OF ITS ROW, joined. No condition.
-/
import Derived.Test.YtkbmmoobcikbaaaGreatDoorCPublishKnownJ0
import Derived.Test.YtkbmmoobcikbaaaGreatDoorCPublishKnownJ1
namespace Go.Proofs.YtkbmmoobcikbaaaGreatDoor
open Go Go.ChangeShapes Go.WideShapes Go.ChangeAt Go.RowKit

set_option maxRecDepth 100000
theorem publishKnown_joined : joinedFacts Tryz.pinned.checked.prog 3 Tryz.f3 Rows.publishKnownSpec Rows.publishKnownRow = true :=
  (Bool.and_eq_true_iff.2 ⟨(Bool.and_eq_true_iff.2 ⟨(Bool.and_eq_true_iff.2 ⟨(Bool.and_eq_true_iff.2 ⟨(Bool.and_eq_true_iff.2 ⟨(Bool.and_eq_true_iff.2 ⟨(Bool.and_eq_true_iff.2 ⟨(Bool.and_eq_true_iff.2 ⟨(Bool.and_eq_true_iff.2 ⟨(Bool.and_eq_true_iff.2 ⟨(Bool.and_eq_true_iff.2 ⟨(Bool.and_eq_true_iff.2 ⟨(Bool.and_eq_true_iff.2 ⟨(Bool.and_eq_true_iff.2 ⟨(Bool.and_eq_true_iff.2 ⟨(Bool.and_eq_true_iff.2 ⟨(Bool.and_eq_true_iff.2 ⟨(Bool.and_eq_true_iff.2 ⟨(Bool.and_eq_true_iff.2 ⟨(Bool.and_eq_true_iff.2 ⟨(Bool.and_eq_true_iff.2 ⟨(Bool.and_eq_true_iff.2 ⟨(Bool.and_eq_true_iff.2 ⟨(Bool.and_eq_true_iff.2 ⟨(Bool.and_eq_true_iff.2 ⟨(Bool.and_eq_true_iff.2 ⟨(Bool.and_eq_true_iff.2 ⟨(Bool.and_eq_true_iff.2 ⟨(Bool.and_eq_true_iff.2 ⟨(Bool.and_eq_true_iff.2 ⟨(Bool.and_eq_true_iff.2 ⟨publishKnown_j0, publishKnown_j1⟩), publishKnown_j2⟩), publishKnown_j3⟩), publishKnown_j4⟩), publishKnown_j5⟩), publishKnown_j6⟩), publishKnown_j7⟩), publishKnown_j8⟩), publishKnown_j9⟩), publishKnown_j10⟩), publishKnown_j11⟩), publishKnown_j12⟩), publishKnown_j13⟩), publishKnown_j14⟩), publishKnown_j15⟩), publishKnown_j16⟩), publishKnown_j17⟩), publishKnown_j18⟩), publishKnown_j19⟩), publishKnown_j20⟩), publishKnown_j21⟩), publishKnown_j22⟩), publishKnown_j23⟩), publishKnown_j24⟩), publishKnown_j25⟩), publishKnown_j26⟩), publishKnown_j27⟩), publishKnown_j28⟩), publishKnown_j29⟩), publishKnown_j30⟩), publishKnown_j31⟩)
end Go.Proofs.YtkbmmoobcikbaaaGreatDoor
