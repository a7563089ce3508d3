/-
  PROVED: THE TIED CARD of the law MendNeeds: whatever comes in, the call hands back true, and what came in reads as before. No condition.
-/
import Derived.Test.YtcfmohjffnpfpaaGreatDoorCMendNeedsL
import Derived.Test.YtcfmohjffnpfpaaGreatDoorCMendNeedsJ
import Derived.Test.YtcfmohjffnpfpaaGreatDoorCMendNeedsK
namespace Go.Proofs.YtcfmohjffnpfpaaGreatDoor
open Go Go.ChangeShapes Go.WideShapes Go.ChangeAt Go.RowKit

set_option maxRecDepth 100000
theorem mendNeeds_holds : Rows.MendNeedsSaid :=
  OpenClaim.holds_of_wide 3 Tryz.f3 rfl rfl rfl rfl rfl rfl rfl ⟨rfl, rfl, rfl, rfl, rfl⟩ rfl rfl rfl rfl rfl mendNeeds_named Tryz.func3 mendNeeds_joined
    (of_decide_eq_true (by kernel_rfl)) mendNeeds_wrap
    (fun os started H enc _ => mendNeeds_lifted os started H enc)
theorem mendNeeds_card : Rows.MendNeedsCardSaid :=
  Claim7.holds_tied_plain_at .later [] [.data, .data, .data, .data, .sentinel, .sentinel, .pinned] true (true, "ba09b9e8541811a3ff728be260343ccda5a218c1baf4b64bfab8cb6c961bf1f2") true
    mendNeeds_holds (fun _ h => by cases h) mendNeeds_wf (fun _ h => by cases h) mendNeeds_row_tie rfl ⟨rfl, rfl⟩ mendNeeds_main rfl
    (fun f fn hf hfn => by
      obtain rfl : f = 3 := Option.some.inj (mendNeeds_named.symm.trans hf) |>.symm
      obtain rfl : fn = Tryz.f3 := (Option.some.inj (Tryz.func3.symm.trans hfn)).symm
      exact ⟨mendNeeds_looks, fun j t ht => by
        rw [Tryz.params3] at ht
        have hm : t ∈ ([23] : List TypeId) := by simpa using Array.mem_of_getElem? ht
        exact (show Tryz.prog.wantsStandIn t = false by simpa using List.all_eq_true.1 mendNeeds_stand t hm)⟩)
    mendNeeds_goes
#print axioms mendNeeds_card
end Go.Proofs.YtcfmohjffnpfpaaGreatDoor
