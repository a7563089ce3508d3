/-
  WHAT THE CARD OF THE LAW PublishNone ASKS OF ITS ROW, joined. No condition.
-/
import Derived.Test.YtglkcndgmocnbaaGreatDoorCPublishNoneJ0
import Derived.Test.YtglkcndgmocnbaaGreatDoorCPublishNoneJ1
namespace Go.Proofs.YtglkcndgmocnbaaGreatDoor
open Go Go.ChangeShapes Go.WideShapes Go.ChangeAt Go.RowKit

set_option maxRecDepth 100000
theorem publishNone_joined : joinedFacts Tryz.pinned.checked.prog 3 Tryz.f3 Rows.publishNoneSpec Rows.publishNoneRow = true :=
  (Bool.and_eq_true_iff.2 ⟨(Bool.and_eq_true_iff.2 ⟨(Bool.and_eq_true_iff.2 ⟨(Bool.and_eq_true_iff.2 ⟨(Bool.and_eq_true_iff.2 ⟨(Bool.and_eq_true_iff.2 ⟨(Bool.and_eq_true_iff.2 ⟨(Bool.and_eq_true_iff.2 ⟨(Bool.and_eq_true_iff.2 ⟨(Bool.and_eq_true_iff.2 ⟨(Bool.and_eq_true_iff.2 ⟨(Bool.and_eq_true_iff.2 ⟨(Bool.and_eq_true_iff.2 ⟨(Bool.and_eq_true_iff.2 ⟨(Bool.and_eq_true_iff.2 ⟨(Bool.and_eq_true_iff.2 ⟨(Bool.and_eq_true_iff.2 ⟨(Bool.and_eq_true_iff.2 ⟨(Bool.and_eq_true_iff.2 ⟨(Bool.and_eq_true_iff.2 ⟨(Bool.and_eq_true_iff.2 ⟨(Bool.and_eq_true_iff.2 ⟨(Bool.and_eq_true_iff.2 ⟨(Bool.and_eq_true_iff.2 ⟨(Bool.and_eq_true_iff.2 ⟨(Bool.and_eq_true_iff.2 ⟨(Bool.and_eq_true_iff.2 ⟨(Bool.and_eq_true_iff.2 ⟨(Bool.and_eq_true_iff.2 ⟨(Bool.and_eq_true_iff.2 ⟨(Bool.and_eq_true_iff.2 ⟨publishNone_j0, publishNone_j1⟩), publishNone_j2⟩), publishNone_j3⟩), publishNone_j4⟩), publishNone_j5⟩), publishNone_j6⟩), publishNone_j7⟩), publishNone_j8⟩), publishNone_j9⟩), publishNone_j10⟩), publishNone_j11⟩), publishNone_j12⟩), publishNone_j13⟩), publishNone_j14⟩), publishNone_j15⟩), publishNone_j16⟩), publishNone_j17⟩), publishNone_j18⟩), publishNone_j19⟩), publishNone_j20⟩), publishNone_j21⟩), publishNone_j22⟩), publishNone_j23⟩), publishNone_j24⟩), publishNone_j25⟩), publishNone_j26⟩), publishNone_j27⟩), publishNone_j28⟩), publishNone_j29⟩), publishNone_j30⟩), publishNone_j31⟩)
end Go.Proofs.YtglkcndgmocnbaaGreatDoor
