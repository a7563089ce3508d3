/-
  A RECKONER OF CLOSED CALLS: a closed call that is reckoned answers so. No program in sight; no condition.
-/
import Derived.Test.YtfpioijfocmfcaaGreatDoorEv19
import Derived.Test.YtfpioijfocmfcaaGreatDoorEvTab
namespace Go.Proofs.YtfpioijfocmfcaaGreatDoor.Ev
open Go Go.RowKit

variable {P : Program} {T : Tb}

noncomputable def envG : Env := fun g => if g < 1000 then some (g, 0) else none
noncomputable def topH : Hp := ⟨.e, 1000⟩
theorem top_hr (sz : TypeId → Nat) (w : World) : HR sz envG topH w :=
  ⟨(fun b o e => by cases e), (fun b b' o o' x x' e => by cases e), fun b x e => (by
    unfold envG at e
    split at e
    · assumption
    · cases e), fun g hg => by simp [envG, hg]⟩
/-- What a closed call is reckoned to. -/
noncomputable def topV (T : Tb) (d : Nat) (g : FuncId) : Option AV := match ev T (drawV T) d g [] topH with
  | some (v, _) => some v
  | none => none
/-- What a closed call leaves as it was. -/
structure Same (w w' : World) : Prop where
  os : w'.os = w.os
  tape : w'.tape = w.tape
  output : w'.output = w.output
  size : w.heap.size ≤ w'.heap.size
  block : ∀ k, k < w.heap.size → w'.heap[k]? = w.heap[k]?
theorem top_ok (hT : TbOk P T) (hh : CallOk P T T.hook) {d : Nat} {g : FuncId} {v : AV} (e : topV T d g = some v) (hg : ∀ args w, (callFunc g args).run P w = .ok (.enter g args) w) (w : World) :
    Calls P g #[] w fun r w' => ∃ x l', r = .returned x ∧ VR l' v x ∧ Same w w' := by
  unfold topV at e
  split at e
  · rename_i v0 H' he
    cases e
    have := ev_ok hT hh (fun call N hc => drawV_ok (N := N) hT hc) d g [] topH v H' he envG w [] (top_hr _ w) .nil
    rcases this with ⟨x, w', h1, -⟩ | ⟨-, h2⟩
    · rw [hg] at h1; cases h1
    · refine Calls.mono h2 fun r w' => ?_
      rintro ⟨x, rfl, l', h3, h4⟩
      exact ⟨x, l', rfl, h3, h4.os, h4.tape, h4.output, h4.size, fun k hk => h4.block k hk fun b y _ _ hs => absurd hs (by simp [topH, Hp.get, Tr.get_e])⟩
  · cases e
theorem top_true (hT : TbOk P T) (hh : CallOk P T T.hook) {d : Nat} {g : FuncId} (e : topV T d g = some (.bool true)) (hg : ∀ args w, (callFunc g args).run P w = .ok (.enter g args) w) (w : World) :
    Calls P g #[] w fun r w' => r = .returned (.bool true) ∧ Same w w' := by
  refine Calls.mono (top_ok hT hh e hg w) fun r w' => ?_
  rintro ⟨x, l', rfl, h1, h2⟩
  cases h1
  exact ⟨rfl, h2⟩

/-- The same, of a call that is handed values. -/
noncomputable def topVA (T : Tb) (d : Nat) (g : FuncId) (us : List AV) : Option AV := match ev T (drawV T) d g us topH with
  | some (v, _) => some v
  | none => none
theorem top_trueA (hT : TbOk P T) (hh : CallOk P T T.hook) {d : Nat} {g : FuncId} {us : List AV} (e : topVA T d g us = some (.bool true)) (hg : ∀ args w, (callFunc g args).run P w = .ok (.enter g args) w) {xs : List Value} (hx : VRs envG us xs) (w : World) :
    Calls P g xs.toArray w fun r w' => r = .returned (.bool true) ∧ Same w w' := by
  unfold topVA at e
  split at e
  · rename_i v0 H' he
    cases e
    have := ev_ok hT hh (fun call N hc => drawV_ok (N := N) hT hc) d g us topH _ H' he envG w xs (top_hr _ w) hx
    rcases this with ⟨x, w', h1, -⟩ | ⟨-, h2⟩
    · rw [hg] at h1; cases h1
    · refine Calls.mono h2 fun r w' => ?_
      rintro ⟨x, rfl, l', h3, h4⟩
      cases h3
      exact ⟨rfl, h4.os, h4.tape, h4.output, h4.size, fun k hk => h4.block k hk fun b y _ _ hs => absurd hs (by simp [topH, Hp.get, Tr.get_e])⟩
  · cases e
end Go.Proofs.YtfpioijfocmfcaaGreatDoor.Ev
