/-
  WHAT THE CARD OF THE LAW ProcNone ASKS OF ITS ROW, each found by the kernel. No condition.
-/
import Derived.Test.YtbjpkfaiofkmdaaGreatDoorEvShut
import Derived.Test.YtbjpkfaiofkmdaaGreatDoorCards
import Derived.Test.YtbjpkfaiofkmdaaGreatDoorTie
namespace Go.Proofs.YtbjpkfaiofkmdaaGreatDoor
open Go Go.ChangeShapes Go.WideShapes Go.ChangeAt Go.RowKit

set_option maxRecDepth 100000
theorem procNone_j0 : (Rows.procNoneRow.wf (OpenSpec.ofChange Rows.procNoneSpec)) = true := by kernel_rfl
theorem procNone_j1 : (laidOutB Tryz.pinned.checked.prog) = true := by kernel_rfl
theorem procNone_j2 : (mapsRowed Tryz.pinned.checked.prog) = true := by kernel_rfl
theorem procNone_j3 : (Tryz.f3.params.all (Tryz.pinned.checked.prog.readableRec ·)) = true := by kernel_rfl
theorem procNone_j4 : (namedTie Tryz.pinned.checked.prog Rows.procNoneRow.named Rows.procNoneSpec.vars) = true := by kernel_rfl
theorem procNone_j5 : ((Rows.procNoneRow.stops == [])) = true := by kernel_rfl
theorem procNone_j6 : ((Tryz.pinned.checked.prog.stops == [])) = true := by kernel_rfl
theorem procNone_j7 : ((Rows.procNoneRow.knobs == [])) = true := by kernel_rfl
theorem procNone_j8 : ((Tryz.pinned.checked.prog.stopKnobs == [])) = true := by kernel_rfl
theorem procNone_j9 : ((Rows.procNoneRow.inPlace == Tryz.pinned.checked.prog.inPlace 3)) = true := by kernel_rfl
theorem procNone_j10 : ((Rows.procNoneRow.unfollowed == Tryz.pinned.checked.prog.unfollowed 3)) = true := by kernel_rfl
theorem procNone_j11 : ((Rows.procNoneRow.recurses == Tryz.pinned.checked.prog.recurses 3)) = true := by kernel_rfl
theorem procNone_j12 : ((Rows.procNoneRow.named == Tryz.pinned.checked.prog.varsNamed 3)) = true := by kernel_rfl
theorem procNone_j13 : ((Rows.procNoneRow.maps == (Tryz.f3.params.toList ++ Rows.procNoneSpec.plain.varTypes Tryz.pinned.checked.prog).any (Tryz.pinned.checked.prog.mapsRec ·))) = true := by kernel_rfl
theorem procNone_j14 : ((Rows.procNoneRow.ifaces == (Tryz.f3.params.toList ++ Rows.procNoneSpec.plain.varTypes Tryz.pinned.checked.prog).any (Tryz.pinned.checked.prog.ifacesRec ·))) = true := by kernel_rfl
theorem procNone_j15 : ((Rows.procNoneRow.mapsOut == Tryz.pinned.checked.prog.mapsAmong Tryz.f3.resultTypes.toList)) = true := by kernel_rfl
theorem procNone_j16 : ((Rows.procNoneRow.loops == (Tryz.f3.params.toList ++ Rows.procNoneSpec.plain.varTypes Tryz.pinned.checked.prog).any (Tryz.pinned.checked.prog.loopsFrom ·))) = true := by kernel_rfl
theorem procNone_j17 : ((Rows.procNoneRow.wideKeys == (Tryz.f3.params.toList ++ Rows.procNoneSpec.plain.varTypes Tryz.pinned.checked.prog ++ Tryz.f3.resultTypes.toList).any (Tryz.pinned.checked.prog.wideKeysFrom ·))) = true := by kernel_rfl
theorem procNone_j18 : (Rows.procNoneSpec.vars.all (Tryz.pinned.checked.prog.varReadable ·)) = true := by kernel_rfl
theorem procNone_j19 : (Tryz.f3.resultTypes.all (fun t => Tryz.pinned.checked.prog.readableRec t && decide (t < Tryz.pinned.checked.prog.types.size))) = true := by kernel_rfl
theorem procNone_j20 : ((Rows.procNoneRow.ifacesOut == Tryz.f3.resultTypes.toList.any (Tryz.pinned.checked.prog.ifacesRec ·))) = true := by kernel_rfl
theorem procNone_j21 : ((Rows.procNoneRow.loopsOut == Tryz.f3.resultTypes.toList.any (Tryz.pinned.checked.prog.loopsFrom ·))) = true := by kernel_rfl
theorem procNone_j22 : ((Rows.procNoneRow.plainKeys == Tryz.pinned.checked.prog.plainKeys)) = true := by kernel_rfl
theorem procNone_j23 : (Rows.procNoneRow.shortTexts.isNone) = true := by kernel_rfl
theorem procNone_j24 : (Tryz.pinned.checked.prog.stopsHeard) = true := by kernel_rfl
theorem procNone_j25 : (Tryz.pinned.checked.prog.mayEnter) = true := by kernel_rfl
theorem procNone_j26 : ((Rows.procNoneRow.lifted == Tryz.pinned.checked.prog.liftsFinal)) = true := by kernel_rfl
theorem procNone_j27 : ((Tryz.pinned.checked.prog.make == some Rows.procNoneRow.make)) = true := by kernel_rfl
theorem procNone_j28 : ((Rows.procNoneRow.kinds == (if Rows.procNoneRow.domain.isEmpty then [] else Tryz.f3.params.toList.map fun t => match Tryz.pinned.checked.prog.underlying t with | some (.int k) => some k | _ => none))) = true := by kernel_rfl
theorem procNone_j29 : ((Rows.procNoneRow.pinned == Rows.procNoneRow.pinnedBy)) = true := by kernel_rfl
theorem procNone_j30 : ((Rows.procNoneRow.veiled == (Tryz.f3.params.toList ++ Rows.procNoneSpec.plain.varTypes Tryz.pinned.checked.prog ++ Tryz.f3.resultTypes.toList).any (Tryz.pinned.checked.prog.veiledRec ·))) = true := by kernel_rfl
theorem procNone_j31 : (Rows.procNoneRow.veiledFits Tryz.pinned.checked.prog Tryz.f3.params.toList (Tryz.f3.params.toList ++ Rows.procNoneSpec.plain.varTypes Tryz.pinned.checked.prog ++ Tryz.f3.resultTypes.toList)) = true := by kernel_rfl
theorem procNone_joined : joinedFacts Tryz.pinned.checked.prog 3 Tryz.f3 Rows.procNoneSpec Rows.procNoneRow = true :=
  (Bool.and_eq_true_iff.2 ⟨(Bool.and_eq_true_iff.2 ⟨(Bool.and_eq_true_iff.2 ⟨(Bool.and_eq_true_iff.2 ⟨(Bool.and_eq_true_iff.2 ⟨(Bool.and_eq_true_iff.2 ⟨(Bool.and_eq_true_iff.2 ⟨(Bool.and_eq_true_iff.2 ⟨(Bool.and_eq_true_iff.2 ⟨(Bool.and_eq_true_iff.2 ⟨(Bool.and_eq_true_iff.2 ⟨(Bool.and_eq_true_iff.2 ⟨(Bool.and_eq_true_iff.2 ⟨(Bool.and_eq_true_iff.2 ⟨(Bool.and_eq_true_iff.2 ⟨(Bool.and_eq_true_iff.2 ⟨(Bool.and_eq_true_iff.2 ⟨(Bool.and_eq_true_iff.2 ⟨(Bool.and_eq_true_iff.2 ⟨(Bool.and_eq_true_iff.2 ⟨(Bool.and_eq_true_iff.2 ⟨(Bool.and_eq_true_iff.2 ⟨(Bool.and_eq_true_iff.2 ⟨(Bool.and_eq_true_iff.2 ⟨(Bool.and_eq_true_iff.2 ⟨(Bool.and_eq_true_iff.2 ⟨(Bool.and_eq_true_iff.2 ⟨(Bool.and_eq_true_iff.2 ⟨(Bool.and_eq_true_iff.2 ⟨(Bool.and_eq_true_iff.2 ⟨(Bool.and_eq_true_iff.2 ⟨procNone_j0, procNone_j1⟩), procNone_j2⟩), procNone_j3⟩), procNone_j4⟩), procNone_j5⟩), procNone_j6⟩), procNone_j7⟩), procNone_j8⟩), procNone_j9⟩), procNone_j10⟩), procNone_j11⟩), procNone_j12⟩), procNone_j13⟩), procNone_j14⟩), procNone_j15⟩), procNone_j16⟩), procNone_j17⟩), procNone_j18⟩), procNone_j19⟩), procNone_j20⟩), procNone_j21⟩), procNone_j22⟩), procNone_j23⟩), procNone_j24⟩), procNone_j25⟩), procNone_j26⟩), procNone_j27⟩), procNone_j28⟩), procNone_j29⟩), procNone_j30⟩), procNone_j31⟩)
end Go.Proofs.YtbjpkfaiofkmdaaGreatDoor
