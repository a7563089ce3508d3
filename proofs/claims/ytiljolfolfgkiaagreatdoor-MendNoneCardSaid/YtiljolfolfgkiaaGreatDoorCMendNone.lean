/-
  PROVED: THE TIED CARD of the law MendNone: whatever comes in, the call hands back true, and what came in reads as before. No condition.
-/
import Derived.Test.YtiljolfolfgkiaaGreatDoorCMendNoneL
import Derived.Test.YtiljolfolfgkiaaGreatDoorCMendNoneJ
import Derived.Test.YtiljolfolfgkiaaGreatDoorCMendNoneK
namespace Go.Proofs.YtiljolfolfgkiaaGreatDoor
open Go Go.ChangeShapes Go.WideShapes Go.ChangeAt Go.RowKit

set_option maxRecDepth 100000
theorem mendNone_holds : Rows.MendNoneSaid :=
  OpenClaim.holds_of_wide 3 Tryz.f3 rfl rfl rfl rfl rfl rfl rfl ⟨rfl, rfl, rfl, rfl, rfl⟩ rfl rfl rfl rfl rfl mendNone_named Tryz.func3 mendNone_joined
    (of_decide_eq_true (by kernel_rfl)) mendNone_wrap
    (fun os started H enc _ => mendNone_lifted os started H enc)
theorem mendNone_card : Rows.MendNoneCardSaid :=
  Claim7.holds_tied_plain_at .later [] [.data, .data, .data, .data, .sentinel, .sentinel, .pinned] true (true, "c30524d97f6acae45eaa000eb32176ec4962832c22c8a70a34527ae4d1981115") true
    mendNone_holds (fun _ h => by cases h) mendNone_wf (fun _ h => by cases h) mendNone_row_tie rfl ⟨rfl, rfl⟩ mendNone_main rfl
    (fun f fn hf hfn => by
      obtain rfl : f = 3 := Option.some.inj (mendNone_named.symm.trans hf) |>.symm
      obtain rfl : fn = Tryz.f3 := (Option.some.inj (Tryz.func3.symm.trans hfn)).symm
      exact ⟨mendNone_looks, fun j t ht => by
        rw [Tryz.params3] at ht
        have hm : t ∈ ([26] : List TypeId) := by simpa using Array.mem_of_getElem? ht
        exact (show Tryz.prog.wantsStandIn t = false by simpa using List.all_eq_true.1 mendNone_stand t hm)⟩)
    mendNone_goes
#print axioms mendNone_card
end Go.Proofs.YtiljolfolfgkiaaGreatDoor
