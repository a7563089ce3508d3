/-
  WHAT THE CARD OF THE LAW MendNeeds ASKS OF ITS ROW, joined. No condition.
-/
import Derived.Test.YtcfmohjffnpfpaaGreatDoorCMendNeedsJ0
import Derived.Test.YtcfmohjffnpfpaaGreatDoorCMendNeedsJ1
import Derived.Test.YtcfmohjffnpfpaaGreatDoorCMendNeedsJ2
import Derived.Test.YtcfmohjffnpfpaaGreatDoorCMendNeedsJ3
namespace Go.Proofs.YtcfmohjffnpfpaaGreatDoor
open Go Go.ChangeShapes Go.WideShapes Go.ChangeAt Go.RowKit

set_option maxRecDepth 100000
theorem mendNeeds_joined : joinedFacts Tryz.pinned.checked.prog 3 Tryz.f3 Rows.mendNeedsSpec Rows.mendNeedsRow = true :=
  (Bool.and_eq_true_iff.2 ⟨(Bool.and_eq_true_iff.2 ⟨(Bool.and_eq_true_iff.2 ⟨(Bool.and_eq_true_iff.2 ⟨(Bool.and_eq_true_iff.2 ⟨(Bool.and_eq_true_iff.2 ⟨(Bool.and_eq_true_iff.2 ⟨(Bool.and_eq_true_iff.2 ⟨(Bool.and_eq_true_iff.2 ⟨(Bool.and_eq_true_iff.2 ⟨(Bool.and_eq_true_iff.2 ⟨(Bool.and_eq_true_iff.2 ⟨(Bool.and_eq_true_iff.2 ⟨(Bool.and_eq_true_iff.2 ⟨(Bool.and_eq_true_iff.2 ⟨(Bool.and_eq_true_iff.2 ⟨(Bool.and_eq_true_iff.2 ⟨(Bool.and_eq_true_iff.2 ⟨(Bool.and_eq_true_iff.2 ⟨(Bool.and_eq_true_iff.2 ⟨(Bool.and_eq_true_iff.2 ⟨(Bool.and_eq_true_iff.2 ⟨(Bool.and_eq_true_iff.2 ⟨(Bool.and_eq_true_iff.2 ⟨(Bool.and_eq_true_iff.2 ⟨(Bool.and_eq_true_iff.2 ⟨(Bool.and_eq_true_iff.2 ⟨(Bool.and_eq_true_iff.2 ⟨(Bool.and_eq_true_iff.2 ⟨(Bool.and_eq_true_iff.2 ⟨(Bool.and_eq_true_iff.2 ⟨mendNeeds_j0, mendNeeds_j1⟩), mendNeeds_j2⟩), mendNeeds_j3⟩), mendNeeds_j4⟩), mendNeeds_j5⟩), mendNeeds_j6⟩), mendNeeds_j7⟩), mendNeeds_j8⟩), mendNeeds_j9⟩), mendNeeds_j10⟩), mendNeeds_j11⟩), mendNeeds_j12⟩), mendNeeds_j13⟩), mendNeeds_j14⟩), mendNeeds_j15⟩), mendNeeds_j16⟩), mendNeeds_j17⟩), mendNeeds_j18⟩), mendNeeds_j19⟩), mendNeeds_j20⟩), mendNeeds_j21⟩), mendNeeds_j22⟩), mendNeeds_j23⟩), mendNeeds_j24⟩), mendNeeds_j25⟩), mendNeeds_j26⟩), mendNeeds_j27⟩), mendNeeds_j28⟩), mendNeeds_j29⟩), mendNeeds_j30⟩), mendNeeds_j31⟩)
end Go.Proofs.YtcfmohjffnpfpaaGreatDoor
