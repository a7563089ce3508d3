/-
  PROVED: THE TIED CARD of the law PublishNone: whatever comes in, the call hands back true, and what came in reads as before. No condition.
-/
import Derived.Test.YtglkcndgmocnbaaGreatDoorCPublishNoneL
import Derived.Test.YtglkcndgmocnbaaGreatDoorCPublishNoneJ
import Derived.Test.YtglkcndgmocnbaaGreatDoorCPublishNoneK
namespace Go.Proofs.YtglkcndgmocnbaaGreatDoor
open Go Go.ChangeShapes Go.WideShapes Go.ChangeAt Go.RowKit

set_option maxRecDepth 100000
theorem publishNone_holds : Rows.PublishNoneSaid :=
  OpenClaim.holds_of_wide 3 Tryz.f3 rfl rfl rfl rfl rfl rfl rfl ⟨rfl, rfl, rfl, rfl, rfl⟩ rfl rfl rfl rfl rfl publishNone_named Tryz.func3 publishNone_joined
    (of_decide_eq_true (by kernel_rfl)) publishNone_wrap
    (fun os started H enc _ => publishNone_lifted os started H enc)
theorem publishNone_card : Rows.PublishNoneCardSaid :=
  Claim7.holds_tied_plain_at .later [] [.data, .data, .data, .data, .sentinel, .sentinel, .pinned] true (true, "b4acb33008790692fe4f8128a541e123aae1965400067e14cb1ab627d3d688e1") true
    publishNone_holds (fun _ h => by cases h) publishNone_wf (fun _ h => by cases h) publishNone_row_tie rfl ⟨rfl, rfl⟩ publishNone_main rfl
    (fun f fn hf hfn => by
      obtain rfl : f = 3 := Option.some.inj (publishNone_named.symm.trans hf) |>.symm
      obtain rfl : fn = Tryz.f3 := (Option.some.inj (Tryz.func3.symm.trans hfn)).symm
      exact ⟨publishNone_looks, fun j t ht => by
        rw [Tryz.params3] at ht
        have hm : t ∈ ([25, 29] : List TypeId) := by simpa using Array.mem_of_getElem? ht
        exact (show Tryz.prog.wantsStandIn t = false by simpa using List.all_eq_true.1 publishNone_stand t hm)⟩)
    publishNone_goes
#print axioms publishNone_card
end Go.Proofs.YtglkcndgmocnbaaGreatDoor
