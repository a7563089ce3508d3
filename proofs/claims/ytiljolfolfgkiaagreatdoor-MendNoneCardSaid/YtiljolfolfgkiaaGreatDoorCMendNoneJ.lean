/-
  WHAT THE CARD OF THE LAW MendNone ASKS OF ITS ROW, joined. No condition.
-/
import Derived.Test.YtiljolfolfgkiaaGreatDoorCMendNoneJ0
import Derived.Test.YtiljolfolfgkiaaGreatDoorCMendNoneJ1
import Derived.Test.YtiljolfolfgkiaaGreatDoorCMendNoneJ2
import Derived.Test.YtiljolfolfgkiaaGreatDoorCMendNoneJ3
namespace Go.Proofs.YtiljolfolfgkiaaGreatDoor
open Go Go.ChangeShapes Go.WideShapes Go.ChangeAt Go.RowKit

set_option maxRecDepth 100000
theorem mendNone_joined : joinedFacts Tryz.pinned.checked.prog 3 Tryz.f3 Rows.mendNoneSpec Rows.mendNoneRow = true :=
  (Bool.and_eq_true_iff.2 ⟨(Bool.and_eq_true_iff.2 ⟨(Bool.and_eq_true_iff.2 ⟨(Bool.and_eq_true_iff.2 ⟨(Bool.and_eq_true_iff.2 ⟨(Bool.and_eq_true_iff.2 ⟨(Bool.and_eq_true_iff.2 ⟨(Bool.and_eq_true_iff.2 ⟨(Bool.and_eq_true_iff.2 ⟨(Bool.and_eq_true_iff.2 ⟨(Bool.and_eq_true_iff.2 ⟨(Bool.and_eq_true_iff.2 ⟨(Bool.and_eq_true_iff.2 ⟨(Bool.and_eq_true_iff.2 ⟨(Bool.and_eq_true_iff.2 ⟨(Bool.and_eq_true_iff.2 ⟨(Bool.and_eq_true_iff.2 ⟨(Bool.and_eq_true_iff.2 ⟨(Bool.and_eq_true_iff.2 ⟨(Bool.and_eq_true_iff.2 ⟨(Bool.and_eq_true_iff.2 ⟨(Bool.and_eq_true_iff.2 ⟨(Bool.and_eq_true_iff.2 ⟨(Bool.and_eq_true_iff.2 ⟨(Bool.and_eq_true_iff.2 ⟨(Bool.and_eq_true_iff.2 ⟨(Bool.and_eq_true_iff.2 ⟨(Bool.and_eq_true_iff.2 ⟨(Bool.and_eq_true_iff.2 ⟨(Bool.and_eq_true_iff.2 ⟨(Bool.and_eq_true_iff.2 ⟨mendNone_j0, mendNone_j1⟩), mendNone_j2⟩), mendNone_j3⟩), mendNone_j4⟩), mendNone_j5⟩), mendNone_j6⟩), mendNone_j7⟩), mendNone_j8⟩), mendNone_j9⟩), mendNone_j10⟩), mendNone_j11⟩), mendNone_j12⟩), mendNone_j13⟩), mendNone_j14⟩), mendNone_j15⟩), mendNone_j16⟩), mendNone_j17⟩), mendNone_j18⟩), mendNone_j19⟩), mendNone_j20⟩), mendNone_j21⟩), mendNone_j22⟩), mendNone_j23⟩), mendNone_j24⟩), mendNone_j25⟩), mendNone_j26⟩), mendNone_j27⟩), mendNone_j28⟩), mendNone_j29⟩), mendNone_j30⟩), mendNone_j31⟩)
end Go.Proofs.YtiljolfolfgkiaaGreatDoor
