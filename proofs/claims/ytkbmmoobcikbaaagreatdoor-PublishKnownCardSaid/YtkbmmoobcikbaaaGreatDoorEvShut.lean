/-
  WHAT COMES IN, AND WHAT A ROW GIVES ITS WALK: what the cards of the reckoned laws share. No condition.
-/
import Derived.Test.YtkbmmoobcikbaaaGreatDoorProg
import Derived.HandedShaped
import Derived.Handed
import Derived.Deep.Slices
import Derived.LaidMore
import Derived.Stop.LaidErr
import Derived.SevenTiedAt
import Derived.Lay
import Derived.ProofKit
import Derived.OpenShut
import Derived.ShutString
import Derived.ChangeOld
import Derived.Below
namespace Go.Proofs.YtkbmmoobcikbaaaGreatDoor
open Go Go.ChangeShapes Go.WideShapes Go.ChangeAt Go.RowKit

variable {H : Type} {enc : TypeId × Value → H}
/-- The plain wrap, the variables' condition and the world's shape kept. -/
theorem returnsInHanded_and_shaped {a : Assume} {C : Checked} {os : Os} {f : FuncId} {fn : Func} {s : ChangeSpec} {conds : List PathCond} {apart fresh handsOn again : Bool} {X : World → Array Value → Prop}
    (hX : ∀ (w w' : World) (args : Array Value), w.heap = w'.heap → X w args → X w' args)
    (own : ownKnob C.prog.godebug = none) (started : os.Started) (noInit : C.prog.inits.idxOf? f = none) (hfn : C.prog.funcs[f]? = some fn)
    (witness : ∃ (w : World) (tape : Tape) (i : Input), w.os = os ∧ (w.forCall tape i).Shaped C.prog ∧ i.vars = [] ∧ Input.okWide C.prog (w.forCall tape i) .any w.heap.size f i ∧
      ((s.pre enc C.prog fn conds apart (w.forCall tape i).memory i.args ∧ X (w.forCall tape i).memory i.args) ∧ sizedMet enc C.prog fn (OpenSpec.ofChange s) apart (w.forCall tape i).memory i.args) ∧ a.holds C.prog (lone (Frame.enter C.prog f i.args .normal) [] (w.forCall tape i)))
    (contract : ∀ (W : World) (base : Nat) (args : Array Value) (ds gs : List (DataW H)) (before : List MemPlace),
      (∀ (j : Nat) t v, fn.params[j]? = some t → args[j]? = some v → Value.okWide C.prog W .any base t v) →
      DataW.Whole enc C.prog fn.params.toList s.vars apart W args.toList ds gs before →
      conds.all (PathCond.test C.prog ⟨fn.params.toList, ds, s.plain.varTypes C.prog, gs⟩) = true →
      (DataW.weightsEach C.prog (fn.params.toList ++ s.plain.varTypes C.prog) (ds ++ gs)).all (· ≤ reachBytes) = true → X W args → W.ShapedOpen C.prog →
      a.holds C.prog (lone (Frame.enter C.prog f args .normal) [] W) →
      Calls C.prog f args W fun e W' => ∃ v, e = .returned v ∧ s.post enc C.prog fn apart fresh handsOn again W args v W') :
    ReturnsInHanded a C os f .any (fun w args => (s.pre enc C.prog fn conds apart w args ∧ X w args) ∧ sizedMet enc C.prog fn (OpenSpec.ofChange s) apart w args) (s.post enc C.prog fn apart fresh handsOn again) := by
  refine returnsInHanded_of_calls own started noInit witness ?_
  intro w tape i _ hsh _ hok hpre hholds
  obtain ⟨_, _, _, fn', hfn', _, _, _, _, hval⟩ := hok
  have e : fn' = fn := Option.some.inj (hfn'.symm.trans hfn)
  subst e
  obtain ⟨⟨⟨ds, gs, before, hw, hc⟩, hx⟩, hz⟩ := hpre
  have hw' := DataW.Whole.of_heap (w' := w.forCall tape i) (by rfl) hw
  refine (contract (w.forCall tape i) w.heap.size i.args ds gs before hval hw' hc (hz.weights hw) (hX _ _ _ (by rfl) hx) hsh hholds).mono fun e W' ⟨v, he, hp⟩ => ?_
  subst he
  exact ChangeSpec.post_blind hp
theorem arr1 {xs : Array Value} (h : xs.size = 1) : ∃ a0, xs = #[a0] := by
  obtain ⟨l⟩ := xs
  match l, h with
  | [a0], _ => exact ⟨a0, rfl⟩
theorem arr2 {xs : Array Value} (h : xs.size = 2) : ∃ a0 a1, xs = #[a0, a1] := by
  obtain ⟨l⟩ := xs
  match l, h with
  | [a0, a1], _ => exact ⟨a0, a1, rfl⟩
theorem arr3 {xs : Array Value} (h : xs.size = 3) : ∃ a0 a1 a2, xs = #[a0, a1, a2] := by
  obtain ⟨l⟩ := xs
  match l, h with
  | [a0, a1, a2], _ => exact ⟨a0, a1, a2, rfl⟩
theorem arr4 {xs : Array Value} (h : xs.size = 4) : ∃ a0 a1 a2 a3, xs = #[a0, a1, a2, a3] := by
  obtain ⟨l⟩ := xs
  match l, h with
  | [a0, a1, a2, a3], _ => exact ⟨a0, a1, a2, a3, rfl⟩
theorem arr5 {xs : Array Value} (h : xs.size = 5) : ∃ a0 a1 a2 a3 a4, xs = #[a0, a1, a2, a3, a4] := by
  obtain ⟨l⟩ := xs
  match l, h with
  | [a0, a1, a2, a3, a4], _ => exact ⟨a0, a1, a2, a3, a4, rfl⟩
theorem arr6 {xs : Array Value} (h : xs.size = 6) : ∃ a0 a1 a2 a3 a4 a5, xs = #[a0, a1, a2, a3, a4, a5] := by
  obtain ⟨l⟩ := xs
  match l, h with
  | [a0, a1, a2, a3, a4, a5], _ => exact ⟨a0, a1, a2, a3, a4, a5, rfl⟩
theorem arr7 {xs : Array Value} (h : xs.size = 7) : ∃ a0 a1 a2 a3 a4 a5 a6, xs = #[a0, a1, a2, a3, a4, a5, a6] := by
  obtain ⟨l⟩ := xs
  match l, h with
  | [a0, a1, a2, a3, a4, a5, a6], _ => exact ⟨a0, a1, a2, a3, a4, a5, a6, rfl⟩
theorem arr8 {xs : Array Value} (h : xs.size = 8) : ∃ a0 a1 a2 a3 a4 a5 a6 a7, xs = #[a0, a1, a2, a3, a4, a5, a6, a7] := by
  obtain ⟨l⟩ := xs
  match l, h with
  | [a0, a1, a2, a3, a4, a5, a6, a7], _ => exact ⟨a0, a1, a2, a3, a4, a5, a6, a7, rfl⟩
theorem arr9 {xs : Array Value} (h : xs.size = 9) : ∃ a0 a1 a2 a3 a4 a5 a6 a7 a8, xs = #[a0, a1, a2, a3, a4, a5, a6, a7, a8] := by
  obtain ⟨l⟩ := xs
  match l, h with
  | [a0, a1, a2, a3, a4, a5, a6, a7, a8], _ => exact ⟨a0, a1, a2, a3, a4, a5, a6, a7, a8, rfl⟩
theorem arr10 {xs : Array Value} (h : xs.size = 10) : ∃ a0 a1 a2 a3 a4 a5 a6 a7 a8 a9, xs = #[a0, a1, a2, a3, a4, a5, a6, a7, a8, a9] := by
  obtain ⟨l⟩ := xs
  match l, h with
  | [a0, a1, a2, a3, a4, a5, a6, a7, a8, a9], _ => exact ⟨a0, a1, a2, a3, a4, a5, a6, a7, a8, a9, rfl⟩
theorem arr11 {xs : Array Value} (h : xs.size = 11) : ∃ a0 a1 a2 a3 a4 a5 a6 a7 a8 a9 a10, xs = #[a0, a1, a2, a3, a4, a5, a6, a7, a8, a9, a10] := by
  obtain ⟨l⟩ := xs
  match l, h with
  | [a0, a1, a2, a3, a4, a5, a6, a7, a8, a9, a10], _ => exact ⟨a0, a1, a2, a3, a4, a5, a6, a7, a8, a9, a10, rfl⟩
theorem arr12 {xs : Array Value} (h : xs.size = 12) : ∃ a0 a1 a2 a3 a4 a5 a6 a7 a8 a9 a10 a11, xs = #[a0, a1, a2, a3, a4, a5, a6, a7, a8, a9, a10, a11] := by
  obtain ⟨l⟩ := xs
  match l, h with
  | [a0, a1, a2, a3, a4, a5, a6, a7, a8, a9, a10, a11], _ => exact ⟨a0, a1, a2, a3, a4, a5, a6, a7, a8, a9, a10, a11, rfl⟩
theorem Tryz.own : ownKnob Tryz.prog.godebug = none := by kernel_rfl
theorem Tryz.laidOut : laidOutB Tryz.prog = true := by kernel_rfl
end Go.Proofs.YtkbmmoobcikbaaaGreatDoor
