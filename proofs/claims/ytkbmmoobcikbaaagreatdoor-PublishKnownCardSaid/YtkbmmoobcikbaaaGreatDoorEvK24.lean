/-
  PublishKnown, reckoned: the chapter's examples as a function by hand; the tables. No condition.
-/
import Derived.Test.YtkbmmoobcikbaaaGreatDoorEvSeat
import Derived.Test.YtkbmmoobcikbaaaGreatDoorEvClosed
import Derived.Test.YtkbmmoobcikbaaaGreatDoorGEH
namespace Go.Proofs.YtkbmmoobcikbaaaGreatDoor.Ev
open Go Go.RowKit

set_option maxRecDepth 1000000 in
theorem works_any (w : World) : Calls Tryz.prog 11 #[] w fun r w' => r = .returned (.bool true) ∧ Same w w' :=
  topF_true tb_ok hook_ok (d := 60) (us := []) (by kernel_rfl) Tryz.call11 .nil w
noncomputable def hksK : List (FuncId × HookF) := (11, trueH) :: hksP
noncomputable def tbK : Tb := tbOf tys fns eqs (hkL hksK) mths
theorem hksK_ok : ∀ p ∈ hksK, HookOk Tryz.prog tbK.sz tbK.lo p.1 p.2 := List.forall_mem_cons.2 ⟨true_ok Tryz.call11 works_any, hksP_ok⟩
theorem tbK_ok : TbOk Tryz.prog tbK := tbOf_ok tys_ok fns_ok eqs_ok (by kernel_rfl) mths_ok
theorem hookK_ok : CallOk Tryz.prog tbK tbK.hook := hkL_ok hksK_ok
noncomputable def body0 : Code := Tryz.f3.body.getD .skip
end Go.Proofs.YtkbmmoobcikbaaaGreatDoor.Ev
