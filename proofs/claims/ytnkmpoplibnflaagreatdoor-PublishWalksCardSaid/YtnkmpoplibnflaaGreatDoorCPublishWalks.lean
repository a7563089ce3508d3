/-
  PROVED: THE TIED CARD of the law PublishWalks: whatever comes in, the call hands back true, and what came in reads as before. No condition.
-/
import Derived.Test.YtnkmpoplibnflaaGreatDoorCPublishWalksL
import Derived.Test.YtnkmpoplibnflaaGreatDoorCPublishWalksJ
import Derived.Test.YtnkmpoplibnflaaGreatDoorCPublishWalksK
set_option maxRecDepth 100000
set_option maxHeartbeats 16000000
namespace Go.Proofs.YtnkmpoplibnflaaGreatDoor
open Go Go.ChangeShapes Go.WideShapes Go.ChangeAt Go.RowKit
set_option maxRecDepth 100000
theorem publishWalks_holds : Rows.PublishWalksSaid :=
 OpenClaim.holds_of_wide 3 Tryz.f3 rfl rfl rfl rfl rfl rfl rfl ⟨rfl, rfl, rfl, rfl, rfl⟩ rfl rfl rfl rfl rfl publishWalks_named Tryz.func3 publishWalks_joined
  (of_decide_eq_true (by kernel_rfl)) publishWalks_wrap
  (fun os started H enc _ => publishWalks_lifted os started H enc)
theorem publishWalks_card : Rows.PublishWalksCardSaid :=
 Claim7.holds_tied_plain_at .later [] [.data, .data, .data, .data, .sentinel, .sentinel, .pinned] true (true, "a505ffd601f2db83c54e7849bfc86538fadd539efbfce6b5c58da9b90d120fca") true
  publishWalks_holds (fun _ h => by cases h) publishWalks_wf (fun _ h => by cases h) publishWalks_row_tie rfl ⟨rfl, rfl⟩ publishWalks_main rfl
  (fun f fn hf hfn => by
   obtain rfl : f = 3 := Option.some.inj (publishWalks_named.symm.trans hf) |>.symm
   obtain rfl : fn = Tryz.f3 := (Option.some.inj (Tryz.func3.symm.trans hfn)).symm
   exact ⟨publishWalks_looks, fun j t ht => by
    rw [Tryz.params3] at ht
    have hm : t ∈ ([25, 26] : List TypeId) := by simpa using Array.mem_of_getElem? ht
    exact (show Tryz.prog.wantsStandIn t = false by simpa using List.all_eq_true.1 publishWalks_stand t hm)⟩)
  publishWalks_goes
#print axioms publishWalks_card
end Go.Proofs.YtnkmpoplibnflaaGreatDoor
