/-
  CALLS RECKONED FROM A HEAP that holds one known block. No program in sight; no condition.
-/
import Derived.Test.YtglkcndgmocnbaaGreatDoorEvFTop
namespace Go.Proofs.YtglkcndgmocnbaaGreatDoor.Ev
open Go Go.RowKit

variable {P : Program} {T : Tb} {sz : TypeId → Nat} {lo : Nat} {l l' : Env} {H H' : Hp} {w w' : World} {s : Nat}
noncomputable def env1 (B : Nat) : Env := fun g => if g = 1000 then some (B, 0) else envG g
noncomputable def hp1 (t : TypeId) (cs : List AV) : Hp := topH.new (.cells t cs false)
theorem env1_at (B : Nat) : env1 B 1000 = some (B, 0) := by simp [env1]
theorem hp1_hr {B : Nat} {t : TypeId} {cs : List AV} {xs : List Value} (h : w.heap[B]? = some (.cells xs.toArray t (0, 0))) (hv : VRs (env1 B) cs xs) : HR sz (env1 B) (hp1 t cs) w := by
  refine ⟨?_, ?_, ?_, ?_⟩
  · intro b o e
    rcases Hp.new_get e with ⟨e1, e2⟩ | ⟨-, e⟩
    · subst e2
      have e1 : b = 1000 := e1
      subst e1
      exact ⟨B, 0, _, env1_at B, h, .shut hv (.inl rfl)⟩
    · cases e
  · intro b b' o o' x x' e e' _ _ _
    rcases Hp.new_get e with ⟨e1, -⟩ | ⟨-, e⟩
    · rcases Hp.new_get e' with ⟨e2, -⟩ | ⟨-, e'⟩
      · rw [e1, e2]
      · cases e'
    · cases e
  · intro b x e
    show b < 1001
    unfold env1 at e
    split at e
    · omega
    · unfold envG at e
      split at e
      · omega
      · cases e
  · intro g hg
    unfold env1 envG
    rw [if_neg (by omega), if_pos hg]
/-- All blocks that are known lie from a place on. -/
def Fr1 (l : Env) (H : Hp) (s : Nat) : Prop := ∀ b x, l b = some x → (H.get b).isSome → s ≤ x.1
theorem hp1_fr {B : Nat} {t : TypeId} {cs : List AV} (h : s ≤ B) : Fr1 (env1 B) (hp1 t cs) s := by
  intro b x e g
  obtain ⟨o, ho⟩ := Option.isSome_iff_exists.1 g
  rcases Hp.new_get ho with ⟨e1, -⟩ | ⟨-, e'⟩
  · have e1 : b = 1000 := e1
    subst e1
    rw [env1_at] at e
    cases e
    exact h
  · cases e'
theorem Fr1.next (hf : Fr1 l H s) (hr : HR sz l H w) (k : Kp sz lo l H w l' H' w') (hs : s ≤ w.heap.size) : Fr1 l' H' s := fun b x e g => by
  rcases k.fresh b x e with h | ⟨h1, h2 | ⟨b0, -, h3, h4⟩⟩
  · exact hf b x h (k.old b (hr.dom b x h) g)
  · omega
  · obtain ⟨y, hy1, hy2⟩ := Option.map_eq_some_iff.1 h4
    have := hf b0 y hy1 h3
    omega
/-- What lies ahead of a place has not turned. -/
structure Kept (s : Nat) (w w' : World) : Prop where
  os : w'.os = w.os
  tape : w'.tape = w.tape
  output : w'.output = w.output
  size : w.heap.size ≤ w'.heap.size
  block : ∀ k, k < s → w'.heap[k]? = w.heap[k]?
theorem Kept.trans {w1 w2 w3 : World} (a : Kept s w1 w2) (b : Kept s w2 w3) : Kept s w1 w3 :=
  ⟨b.os.trans a.os, b.tape.trans a.tape, b.output.trans a.output, Nat.le_trans a.size b.size, fun k hk => (b.block k hk).trans (a.block k hk)⟩
theorem Kp.kept (hf : Fr1 l H s) (k : Kp sz lo l H w l' H' w') (hs : s ≤ w.heap.size) : Kept s w w' :=
  ⟨k.os, k.tape, k.output, k.size, fun j hj => k.block j (by omega) fun b x _ hl hg e => by have := hf b x hl hg; omega⟩
/-- One call, reckoned from a heap. -/
theorem step_ok (hT : TbOk P T) (hh : CallOk P T T.hook) {d : Nat} {g : FuncId} {us : List AV} {v : AV} (e : ev2 T (drD T) d g us H = some (v, H')) (hg : ∀ args w, (callFunc g args).run P w = .ok (.enter g args) w) {xs : List Value} (hr : HR T.sz l H w) (hx : VRs l us xs) :
    Calls P g xs.toArray w fun r w' => ∃ x l', r = .returned x ∧ VR l' v x ∧ Kp T.sz T.lo l H w l' H' w' := by
  have := ev2_ok hT hh (D := drD T) (fun call N hc => drawV_ok (N := N) hT hc) d g us H v H' e l w xs hr hx
  rcases this with ⟨x, w', h1, -⟩ | ⟨-, h2⟩
  · rw [hg] at h1; cases h1
  · refine Calls.mono h2 fun r w' => ?_
    rintro ⟨x, rfl, l', h3, h4⟩
    exact ⟨x, l', rfl, h3, h4⟩
/-- Three calls, one behind the other. -/
noncomputable def three (T : Tb) (f g h : FuncId) (ua ub uc : List AV) (H0 : Hp) : Option (AV × AV × AV) := match ev2 T (drD T) 60 f ua H0 with
  | some (a, H1) => match ev2 T (drD T) 60 g ub H1 with
    | some (b, H2) => match ev2 T (drD T) 60 h uc H2 with
      | some (c, _) => some (a, b, c)
      | none => none
    | none => none
  | none => none
theorem three_ok {f g h : FuncId} {ua ub uc : List AV} {H0 : Hp} {a b c : AV} (e : three T f g h ua ub uc H0 = some (a, b, c)) :
    ∃ H1 H2 H3, ev2 T (drD T) 60 f ua H0 = some (a, H1) ∧ ev2 T (drD T) 60 g ub H1 = some (b, H2) ∧ ev2 T (drD T) 60 h uc H2 = some (c, H3) := by
  unfold three at e
  split at e
  · rename_i a1 H1 h1
    split at e
    · rename_i b1 H2 h2
      split at e
      · rename_i c1 H3 h3
        cases e
        exact ⟨H1, H2, H3, h1, h2, h3⟩
      · cases e
    · cases e
  · cases e
end Go.Proofs.YtglkcndgmocnbaaGreatDoor.Ev
