/-
  PROVED: THE TIED CARD of the law ProcNone: whatever comes in, the call hands back true, and what came in reads as before. No condition.
-/
import Derived.Test.YtbjpkfaiofkmdaaGreatDoorCProcNoneL
import Derived.Test.YtbjpkfaiofkmdaaGreatDoorCProcNoneJ
import Derived.Test.YtbjpkfaiofkmdaaGreatDoorCProcNoneK
namespace Go.Proofs.YtbjpkfaiofkmdaaGreatDoor
open Go Go.ChangeShapes Go.WideShapes Go.ChangeAt Go.RowKit

set_option maxRecDepth 100000
theorem procNone_holds : Rows.ProcNoneSaid :=
  OpenClaim.holds_of_wide 3 Tryz.f3 rfl rfl rfl rfl rfl rfl rfl ⟨rfl, rfl, rfl, rfl, rfl⟩ rfl rfl rfl rfl rfl procNone_named Tryz.func3 procNone_joined
    (of_decide_eq_true (by kernel_rfl)) procNone_wrap
    (fun os started H enc _ => procNone_lifted os started H enc)
theorem procNone_card : Rows.ProcNoneCardSaid :=
  Claim7.holds_tied_plain_at .later [] [.data, .data, .data, .data, .sentinel, .sentinel, .pinned] true (true, "a16d92cb219534d3489041a959e5c8626b3704ccc163e0eb25e512a5bbe764b6") true
    procNone_holds (fun _ h => by cases h) procNone_wf (fun _ h => by cases h) procNone_row_tie rfl ⟨rfl, rfl⟩ procNone_main rfl
    (fun f fn hf hfn => by
      obtain rfl : f = 3 := Option.some.inj (procNone_named.symm.trans hf) |>.symm
      obtain rfl : fn = Tryz.f3 := (Option.some.inj (Tryz.func3.symm.trans hfn)).symm
      exact ⟨procNone_looks, fun j t ht => by
        rw [Tryz.params3] at ht
        have hm : t ∈ ([25, 22] : List TypeId) := by simpa using Array.mem_of_getElem? ht
        exact (show Tryz.prog.wantsStandIn t = false by simpa using List.all_eq_true.1 procNone_stand t hm)⟩)
    procNone_goes
#print axioms procNone_card
end Go.Proofs.YtbjpkfaiofkmdaaGreatDoor
