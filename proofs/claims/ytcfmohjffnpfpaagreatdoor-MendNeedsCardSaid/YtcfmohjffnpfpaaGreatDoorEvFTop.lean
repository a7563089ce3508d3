/-
  A FASTER RECKONER OF CLOSED CALLS: a closed call that is reckoned answers so. No program in sight; no condition.
-/
import Derived.Test.YtcfmohjffnpfpaaGreatDoorEvF6
import Derived.Test.YtcfmohjffnpfpaaGreatDoorEvTop
namespace Go.Proofs.YtcfmohjffnpfpaaGreatDoor.Ev
open Go Go.RowKit

variable {P : Program} {T : Tb}
noncomputable def drD (T : Tb) : DF := fun call N => drawV T call N
/-- What a call is reckoned to. -/
noncomputable def topF (T : Tb) (d : Nat) (g : FuncId) (us : List AV) : Option AV := match ev2 T (drD T) d g us topH with
  | some (v, _) => some v
  | none => none
theorem topF_true (hT : TbOk P T) (hh : CallOk P T T.hook) {d : Nat} {g : FuncId} {us : List AV} (e : topF T d g us = some (.bool true)) (hg : ∀ args w, (callFunc g args).run P w = .ok (.enter g args) w) {xs : List Value} (hx : VRs envG us xs) (w : World) :
    Calls P g xs.toArray w fun r w' => r = .returned (.bool true) ∧ Same w w' := by
  unfold topF at e
  split at e
  · rename_i v0 H' he
    cases e
    have := ev2_ok hT hh (D := drD T) (fun call N hc => drawV_ok (N := N) hT hc) d g us topH _ H' he envG w xs (top_hr _ w) hx
    rcases this with ⟨x, w', h1, -⟩ | ⟨-, h2⟩
    · rw [hg] at h1; cases h1
    · refine Calls.mono h2 fun r w' => ?_
      rintro ⟨x, rfl, l', h3, h4⟩
      cases h3
      exact ⟨rfl, h4.os, h4.tape, h4.output, h4.size, fun k hk => h4.block k hk fun b y _ _ hs => absurd hs (by simp [topH, Hp.get, Tr.get_e])⟩
  · cases e
/-- .. whatever it is reckoned to. -/
theorem topF_ok (hT : TbOk P T) (hh : CallOk P T T.hook) {d : Nat} {g : FuncId} {us : List AV} {v : AV} (e : topF T d g us = some v) (hg : ∀ args w, (callFunc g args).run P w = .ok (.enter g args) w) {xs : List Value} (hx : VRs envG us xs) (w : World) :
    Calls P g xs.toArray w fun r w' => ∃ x l', r = .returned x ∧ VR l' v x ∧ Same w w' := by
  unfold topF at e
  split at e
  · rename_i v0 H' he
    cases e
    have := ev2_ok hT hh (D := drD T) (fun call N hc => drawV_ok (N := N) hT hc) d g us topH _ H' he envG w xs (top_hr _ w) hx
    rcases this with ⟨x, w', h1, -⟩ | ⟨-, h2⟩
    · rw [hg] at h1; cases h1
    · refine Calls.mono h2 fun r w' => ?_
      rintro ⟨x, rfl, l', h3, h4⟩
      exact ⟨x, l', rfl, h3, h4.os, h4.tape, h4.output, h4.size, fun k hk => h4.block k hk fun b y _ _ hs => absurd hs (by simp [topH, Hp.get, Tr.get_e])⟩
  · cases e
end Go.Proofs.YtcfmohjffnpfpaaGreatDoor.Ev
