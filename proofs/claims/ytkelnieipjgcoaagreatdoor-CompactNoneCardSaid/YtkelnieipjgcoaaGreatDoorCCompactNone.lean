/-
  PROVED: THE TIED CARD of the law CompactNone: whatever comes in, the call hands back true, and what came in reads as before. No condition.
-/
import Derived.Test.YtkelnieipjgcoaaGreatDoorCCompactNoneL
import Derived.Test.YtkelnieipjgcoaaGreatDoorCCompactNoneJ
import Derived.Test.YtkelnieipjgcoaaGreatDoorCCompactNoneK
namespace Go.Proofs.YtkelnieipjgcoaaGreatDoor
open Go Go.ChangeShapes Go.WideShapes Go.ChangeAt Go.RowKit

set_option maxRecDepth 100000
theorem compactNone_holds : Rows.CompactNoneSaid :=
  OpenClaim.holds_of_wide 3 Tryz.f3 rfl rfl rfl rfl rfl rfl rfl ⟨rfl, rfl, rfl, rfl, rfl⟩ rfl rfl rfl rfl rfl compactNone_named Tryz.func3 compactNone_joined
    (of_decide_eq_true (by kernel_rfl)) compactNone_wrap
    (fun os started H enc _ => compactNone_lifted os started H enc)
theorem compactNone_card : Rows.CompactNoneCardSaid :=
  Claim7.holds_tied_plain_at .later [] [.data, .data, .data, .data, .sentinel, .sentinel, .pinned] true (true, "e646cd7342fce9357a04451b001d8927297059f6289a60f970fbfb832b6c4a40") true
    compactNone_holds (fun _ h => by cases h) compactNone_wf (fun _ h => by cases h) compactNone_row_tie rfl ⟨rfl, rfl⟩ compactNone_main rfl
    (fun f fn hf hfn => by
      obtain rfl : f = 3 := Option.some.inj (compactNone_named.symm.trans hf) |>.symm
      obtain rfl : fn = Tryz.f3 := (Option.some.inj (Tryz.func3.symm.trans hfn)).symm
      exact ⟨compactNone_looks, fun j t ht => by
        rw [Tryz.params3] at ht
        have hm : t ∈ ([22, 27] : List TypeId) := by simpa using Array.mem_of_getElem? ht
        exact (show Tryz.prog.wantsStandIn t = false by simpa using List.all_eq_true.1 compactNone_stand t hm)⟩)
    compactNone_goes
#print axioms compactNone_card
end Go.Proofs.YtkelnieipjgcoaaGreatDoor
