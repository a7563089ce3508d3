/-
  WHAT THE CARD OF THE LAW CompactNone ASKS OF ITS ROW, joined. No condition.
-/
import Derived.Test.YtkelnieipjgcoaaGreatDoorCCompactNoneJ0
import Derived.Test.YtkelnieipjgcoaaGreatDoorCCompactNoneJ1
import Derived.Test.YtkelnieipjgcoaaGreatDoorCCompactNoneJ2
import Derived.Test.YtkelnieipjgcoaaGreatDoorCCompactNoneJ3
namespace Go.Proofs.YtkelnieipjgcoaaGreatDoor
open Go Go.ChangeShapes Go.WideShapes Go.ChangeAt Go.RowKit

set_option maxRecDepth 100000
theorem compactNone_joined : joinedFacts Tryz.pinned.checked.prog 3 Tryz.f3 Rows.compactNoneSpec Rows.compactNoneRow = true :=
  (Bool.and_eq_true_iff.2 ⟨(Bool.and_eq_true_iff.2 ⟨(Bool.and_eq_true_iff.2 ⟨(Bool.and_eq_true_iff.2 ⟨(Bool.and_eq_true_iff.2 ⟨(Bool.and_eq_true_iff.2 ⟨(Bool.and_eq_true_iff.2 ⟨(Bool.and_eq_true_iff.2 ⟨(Bool.and_eq_true_iff.2 ⟨(Bool.and_eq_true_iff.2 ⟨(Bool.and_eq_true_iff.2 ⟨(Bool.and_eq_true_iff.2 ⟨(Bool.and_eq_true_iff.2 ⟨(Bool.and_eq_true_iff.2 ⟨(Bool.and_eq_true_iff.2 ⟨(Bool.and_eq_true_iff.2 ⟨(Bool.and_eq_true_iff.2 ⟨(Bool.and_eq_true_iff.2 ⟨(Bool.and_eq_true_iff.2 ⟨(Bool.and_eq_true_iff.2 ⟨(Bool.and_eq_true_iff.2 ⟨(Bool.and_eq_true_iff.2 ⟨(Bool.and_eq_true_iff.2 ⟨(Bool.and_eq_true_iff.2 ⟨(Bool.and_eq_true_iff.2 ⟨(Bool.and_eq_true_iff.2 ⟨(Bool.and_eq_true_iff.2 ⟨(Bool.and_eq_true_iff.2 ⟨(Bool.and_eq_true_iff.2 ⟨(Bool.and_eq_true_iff.2 ⟨(Bool.and_eq_true_iff.2 ⟨compactNone_j0, compactNone_j1⟩), compactNone_j2⟩), compactNone_j3⟩), compactNone_j4⟩), compactNone_j5⟩), compactNone_j6⟩), compactNone_j7⟩), compactNone_j8⟩), compactNone_j9⟩), compactNone_j10⟩), compactNone_j11⟩), compactNone_j12⟩), compactNone_j13⟩), compactNone_j14⟩), compactNone_j15⟩), compactNone_j16⟩), compactNone_j17⟩), compactNone_j18⟩), compactNone_j19⟩), compactNone_j20⟩), compactNone_j21⟩), compactNone_j22⟩), compactNone_j23⟩), compactNone_j24⟩), compactNone_j25⟩), compactNone_j26⟩), compactNone_j27⟩), compactNone_j28⟩), compactNone_j29⟩), compactNone_j30⟩), compactNone_j31⟩)
end Go.Proofs.YtkelnieipjgcoaaGreatDoor
