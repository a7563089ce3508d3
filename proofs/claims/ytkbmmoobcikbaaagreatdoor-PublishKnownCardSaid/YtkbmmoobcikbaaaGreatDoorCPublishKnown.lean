/-
  PROVED: THE TIED CARD of the law PublishKnown: whatever comes in, the call hands back true, and what came in reads as before. No condition.
-/
import Derived.Test.YtkbmmoobcikbaaaGreatDoorCPublishKnownL
import Derived.Test.YtkbmmoobcikbaaaGreatDoorCPublishKnownJ
import Derived.Test.YtkbmmoobcikbaaaGreatDoorCPublishKnownK
namespace Go.Proofs.YtkbmmoobcikbaaaGreatDoor
open Go Go.ChangeShapes Go.WideShapes Go.ChangeAt Go.RowKit

set_option maxRecDepth 100000
theorem publishKnown_holds : Rows.PublishKnownSaid :=
  OpenClaim.holds_of_wide 3 Tryz.f3 rfl rfl rfl rfl rfl rfl rfl ⟨rfl, rfl, rfl, rfl, rfl⟩ rfl rfl rfl rfl rfl publishKnown_named Tryz.func3 publishKnown_joined
    (of_decide_eq_true (by kernel_rfl)) publishKnown_wrap
    (fun os started H enc _ => publishKnown_lifted os started H enc)
theorem publishKnown_card : Rows.PublishKnownCardSaid :=
  Claim7.holds_tied_plain_at .later [] [.data, .data, .data, .data, .sentinel, .sentinel, .pinned] true (true, "cf7cd0688ddf99b851cb24427c2a944069fb605f4a74ef30c4a8e59385f89bac") true
    publishKnown_holds (fun _ h => by cases h) publishKnown_wf (fun _ h => by cases h) publishKnown_row_tie rfl ⟨rfl, rfl⟩ publishKnown_main rfl
    (fun f fn hf hfn => by
      obtain rfl : f = 3 := Option.some.inj (publishKnown_named.symm.trans hf) |>.symm
      obtain rfl : fn = Tryz.f3 := (Option.some.inj (Tryz.func3.symm.trans hfn)).symm
      exact ⟨publishKnown_looks, fun j t ht => by
        rw [Tryz.params3] at ht
        have hm : t ∈ ([] : List TypeId) := by simpa using Array.mem_of_getElem? ht
        exact (show Tryz.prog.wantsStandIn t = false by simpa using List.all_eq_true.1 publishKnown_stand t hm)⟩)
    publishKnown_goes
#print axioms publishKnown_card
end Go.Proofs.YtkbmmoobcikbaaaGreatDoor
