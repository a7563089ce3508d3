/-
  WHAT THE CARD OF THE LAW PublishWalks ASKS OF ITS ROW, joined. No condition.
-/
import Derived.Test.YtnkmpoplibnflaaGreatDoorCPublishWalksJ0
import Derived.Test.YtnkmpoplibnflaaGreatDoorCPublishWalksJ1
set_option maxRecDepth 100000
set_option maxHeartbeats 16000000
namespace Go.Proofs.YtnkmpoplibnflaaGreatDoor
open Go Go.ChangeShapes Go.WideShapes Go.ChangeAt Go.RowKit
set_option maxRecDepth 100000
theorem publishWalks_joined : joinedFacts Tryz.pinned.checked.prog 3 Tryz.f3 Rows.publishWalksSpec Rows.publishWalksRow = true :=
 (Bool.and_eq_true_iff.2 ⟨(Bool.and_eq_true_iff.2 ⟨(Bool.and_eq_true_iff.2 ⟨(Bool.and_eq_true_iff.2 ⟨(Bool.and_eq_true_iff.2 ⟨(Bool.and_eq_true_iff.2 ⟨(Bool.and_eq_true_iff.2 ⟨(Bool.and_eq_true_iff.2 ⟨(Bool.and_eq_true_iff.2 ⟨(Bool.and_eq_true_iff.2 ⟨(Bool.and_eq_true_iff.2 ⟨(Bool.and_eq_true_iff.2 ⟨(Bool.and_eq_true_iff.2 ⟨(Bool.and_eq_true_iff.2 ⟨(Bool.and_eq_true_iff.2 ⟨(Bool.and_eq_true_iff.2 ⟨(Bool.and_eq_true_iff.2 ⟨(Bool.and_eq_true_iff.2 ⟨(Bool.and_eq_true_iff.2 ⟨(Bool.and_eq_true_iff.2 ⟨(Bool.and_eq_true_iff.2 ⟨(Bool.and_eq_true_iff.2 ⟨(Bool.and_eq_true_iff.2 ⟨(Bool.and_eq_true_iff.2 ⟨(Bool.and_eq_true_iff.2 ⟨(Bool.and_eq_true_iff.2 ⟨(Bool.and_eq_true_iff.2 ⟨(Bool.and_eq_true_iff.2 ⟨(Bool.and_eq_true_iff.2 ⟨(Bool.and_eq_true_iff.2 ⟨(Bool.and_eq_true_iff.2 ⟨publishWalks_j0, publishWalks_j1⟩), publishWalks_j2⟩), publishWalks_j3⟩), publishWalks_j4⟩), publishWalks_j5⟩), publishWalks_j6⟩), publishWalks_j7⟩), publishWalks_j8⟩), publishWalks_j9⟩), publishWalks_j10⟩), publishWalks_j11⟩), publishWalks_j12⟩), publishWalks_j13⟩), publishWalks_j14⟩), publishWalks_j15⟩), publishWalks_j16⟩), publishWalks_j17⟩), publishWalks_j18⟩), publishWalks_j19⟩), publishWalks_j20⟩), publishWalks_j21⟩), publishWalks_j22⟩), publishWalks_j23⟩), publishWalks_j24⟩), publishWalks_j25⟩), publishWalks_j26⟩), publishWalks_j27⟩), publishWalks_j28⟩), publishWalks_j29⟩), publishWalks_j30⟩), publishWalks_j31⟩)
end Go.Proofs.YtnkmpoplibnflaaGreatDoor
