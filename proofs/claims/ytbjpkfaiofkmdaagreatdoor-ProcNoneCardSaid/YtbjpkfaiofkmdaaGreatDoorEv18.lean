/-
  A RECKONER OF CLOSED CALLS, EIGHTEENTH PART: regions that draw, reckoned once, are right: the join. No program in sight; no condition.
-/
import Derived.Test.YtbjpkfaiofkmdaaGreatDoorEv17
namespace Go.Proofs.YtbjpkfaiofkmdaaGreatDoor.Ev
open Go Go.RowKit

variable {P : Program} {T : Tb} {l : Env} {H : Hp} {w : World} {N : Nat} {call : CallF} {ops : Array Oper} {dm : Tr Nat} {S : Nat → PS}

section
variable (hS : Run T call N ops dm S) (h0 : (S 0).ms = .e) (hp0 : (S 0).pend = []) {l0 : Env} {H0 : Hp} {w0 : World} (hr0 : HR T.sz l0 H0 w0) (hx0 : H0.nx = (S 0).nx) (ht0 : H0.t = (S 0).Hc)
  {p : Nat} {L : Nat → Bool} {vals : Nat → Value} {w1 : World}
include hr0
theorem JF.hrn (h : JF T ops S l0 H0 w0 l p L vals w1) : HR T.sz l ⟨(S p).Hc, (S ops.size).nx⟩ w1 :=
  ⟨fun b o e => let ⟨k, κ, x, g1, g2, g3⟩ := h.obj b o _ (.inl ⟨e, rfl⟩); ⟨k, κ, x, g1, g2, g3.mono (Env.cut_le _ _)⟩,
    fun b b' o o' x x' e e' => h.inj b b' o o' _ _ x x' (.inl ⟨e, rfl⟩) (.inl ⟨e', rfl⟩), h.dom, fun g hg => h.le _ _ (hr0.glob g hg)⟩
include hS hx0 ht0
theorem JF.start {w1 : World} (hx : Ext w0 w1) (hh : w1.heap = w0.heap) : JF T ops S l0 H0 w0 l0 0 (fun _ => false) (fun _ => undef) w1 := by
  have hG : ∀ b o c, Gq S ops.size 0 (fun _ => false) b o c → H0.get b = some o ∧ c = H0.nx := by
    rintro b o c (⟨g1, g2⟩ | ⟨j, g1, -⟩)
    · exact ⟨by rw [← g1, ← ht0]; rfl, by rw [g2, hx0]⟩
    · cases g1
  refine ⟨Nat.zero_le _, (fun _ _ _ e => by cases e), fun j _ _ => ⟨(fun e => by cases e), fun e => by omega⟩, .refl _, fun b x e => ?_, fun i hi _ b hb _ => ?_, fun _ _ e => (by cases e), fun b o c g => ?_, fun b b' o o' c c' x x' g g' => ?_, fun b o e => ?_, fun j u hw => ?_, fun b hb hs => ?_,
    hx.os, hx.tape, hx.output, (by rw [hh]; exact Nat.le_refl _), (fun k _ _ => by rw [hh]), fun b x e => .inl e⟩
  · have := hr0.dom b x e
    have := hS.nx_le (i := 0) (j := ops.size) (by omega) (Nat.le_refl _); omega
  · cases e : l0 b with
    | none => rfl
    | some x =>
      have := hr0.dom b x e
      have := hS.nx_le (i := 0) (j := i) (by omega) (by omega); omega
  · obtain ⟨g1, rfl⟩ := hG b o c g
    obtain ⟨k, κ, x, e1, e2, e3⟩ := hr0.obj b o g1
    refine ⟨k, κ, x, e1, by rw [hh]; exact e2, e3.mono fun b y e => ?_⟩
    rw [Env.cut_at (hr0.dom b y e)]; exact e
  · exact hr0.inj b b' o o' x x' (hG b o c g).1 (hG b' o' c' g').1
  · have e' : H0.get b = some o := by rw [← e, ← ht0]; rfl
    obtain ⟨k, κ, x, e1, -⟩ := hr0.obj b o e'
    rw [← hx0]; exact hr0.dom b _ e1
  · cases e : (S 0).Hc.get (S j).nx with
    | none => rfl
    | some u' =>
      have e' : H0.get (S j).nx = some u' := by rw [← e, ← ht0]; rfl
      obtain ⟨k, κ, x, e1, -⟩ := hr0.obj _ _ e'
      have := hr0.dom _ _ e1
      have := hS.nx_le (i := 0) (j := j) (by omega) (by have := hw.1; omega); omega
  · rw [← ht0] at hs; exact hs
omit ht0
include h0 hp0
theorem JF.finish (h : JF T ops S l0 H0 w0 l p L vals w1) (hall : ∀ i, i < ops.size → L i = true) : Kp T.sz T.lo l0 H0 w0 l ⟨putAll (S ops.size).pend (S ops.size).Hc, (S ops.size).nx⟩ w1 := by
  have hHc : (S ops.size).Hc = (S p).Hc := hS.same_to h.hp (Nat.le_refl _) fun j hj1 hj2 hw => by
    have := (h.chain j hj2 hw).1 (hall j hj2); omega
  have hG : ∀ b o, (putAll (S ops.size).pend (S ops.size).Hc).get b = some o → ∃ c, Gq S ops.size p L b o c ∧ ((S p).Hc.get b = some o ∨ H0.nx ≤ b) := by
    intro b o e
    rcases putAll_get e with ⟨j, h1⟩ | h1
    · obtain ⟨g1, g2, g3⟩ := (hS.pend h0 hp0 ops.size (Nat.le_refl _) j b o).1 h1
      refine ⟨_, .inr ⟨j, hall j g1, g2.le h.hp, g3, rfl⟩, .inr ?_⟩
      have := hS.nx_le (i := 0) (j := j) (by omega) (by omega); omega
    · rw [hHc] at h1
      exact ⟨_, .inl ⟨h1, rfl⟩, .inl h1⟩
  refine ⟨h.le, ⟨fun b o e => ?_, fun b b' o o' x x' e e' => ?_, h.dom, fun g hg => h.le _ _ (hr0.glob g hg)⟩, ?_, fun b hb hs => ?_, h.os, h.tape, h.output, h.size, h.block, fun b x e => ?_⟩
  · obtain ⟨c, g, -⟩ := hG b o e
    obtain ⟨k, κ, x, g1, g2, g3⟩ := h.obj b o c g
    exact ⟨k, κ, x, g1, g2, g3.mono (Env.cut_le _ _)⟩
  · obtain ⟨c, g, -⟩ := hG b o e
    obtain ⟨c', g', -⟩ := hG b' o' e'
    exact h.inj b b' o o' c c' x x' g g'
  · show H0.nx ≤ (S ops.size).nx
    rw [hx0]; exact hS.nx_le (by omega) (Nat.le_refl _)
  · obtain ⟨o, e⟩ := Option.isSome_iff_exists.1 hs
    obtain ⟨c, -, g | g⟩ := hG b o e
    · exact h.old b hb (by rw [g]; rfl)
    · omega
  · rcases h.fresh b x e with g | ⟨g1, g2 | ⟨b0, g0, g2, g3⟩⟩
    · exact .inl g
    · exact .inr ⟨g1, .inl g2⟩
    · exact .inr ⟨g1, .inr ⟨b0, g0, g2, g3⟩⟩
end
/-- What a read beside writers reads. -/
def Conc (T : Tb) (ops : Array Oper) (S : Nat → PS) : Prop := ∀ (i : Nat) (o : Oper) (j : Nat), ops[i]? = some o → j < ops.size → (S (i + 1)).info.cl = .R → (S (j + 1)).info.cl = .W → bit (S (i + 1)).info.mask j = false → bit (S (j + 1)).info.mask i = false →
  ropV T (S (i + 1)).info.fo (S j).Hc o.op = some (S (i + 1)).info.v ∧ ropV T (S (i + 1)).info.fo (S (j + 1)).Hc o.op = some (S (i + 1)).info.v
theorem conc_of {L : List PS} (hL : ∀ k, k ≤ ops.size → L[k]? = some (S k)) (h : concD T L 0 ops.toList L = true) : Conc T ops S := by
  intro i o j ho hj ci cj h1 h2
  have hi := (Array.getElem?_eq_some_iff.1 ho).1
  have a1 := concD_ok h i o _ _ (by simpa using ho) (hL i (by omega)) (hL (i + 1) (by omega)) (by rw [ci]; rfl)
  have a2 := besideAll_ok a1 j _ _ (hL j (by omega)) (hL (j + 1) (by omega)) (by rw [cj]; rfl)
  rw [Nat.zero_add, Nat.zero_add] at a2
  exact besideV_ok a2 h1 h2
/-- The last writer of a stretch. -/
theorem last_W (S : Nat → PS) (a : Nat) : ∀ b, a ≤ b → (∀ j, a ≤ j → j < b → (S (j + 1)).info.cl ≠ .W) ∨ ∃ j, a ≤ j ∧ j < b ∧ (S (j + 1)).info.cl = .W ∧ ∀ k, j < k → k < b → (S (k + 1)).info.cl ≠ .W := by
  intro b hb
  induction hb with
  | refl => exact .inl fun j h1 h2 => by omega
  | @step m hm ih =>
    by_cases hw : (S (m + 1)).info.cl = .W
    · exact .inr ⟨m, hm, by omega, hw, fun k h1 h2 => by omega⟩
    · rcases ih with ih | ⟨j, g1, g2, g3, g4⟩
      · refine .inl fun j h1 h2 => ?_
        by_cases e : j = m
        · rw [e]; exact hw
        · exact ih j h1 (by omega)
      · refine .inr ⟨j, g1, by omega, g3, fun k h1 h2 => ?_⟩
        by_cases e : k = m
        · rw [e]; exact hw
        · exact g4 k h1 (by omega)
/-- The first writer of a stretch. -/
theorem first_W (S : Nat → PS) (a : Nat) : ∀ b, a ≤ b → (∀ j, a ≤ j → j < b → (S (j + 1)).info.cl ≠ .W) ∨ ∃ j, a ≤ j ∧ j < b ∧ (S (j + 1)).info.cl = .W ∧ ∀ k, a ≤ k → k < j → (S (k + 1)).info.cl ≠ .W := by
  intro b hb
  induction hb with
  | refl => exact .inl fun j h1 h2 => by omega
  | @step m hm ih =>
    rcases ih with ih | ⟨j, g1, g2, g3, g4⟩
    · by_cases hw : (S (m + 1)).info.cl = .W
      · exact .inr ⟨m, hm, by omega, hw, ih⟩
      · refine .inl fun j h1 h2 => ?_
        by_cases e : j = m
        · rw [e]; exact hw
        · exact ih j h1 (by omega)
    · exact .inr ⟨j, g1, by omega, g3, g4⟩
theorem JF.reads (hS : Run T call N ops dm S) (h0 : (S 0).ms = .e) (hC : Conc T ops S) {l0 : Env} {H0 : Hp} {w0 : World} {p : Nat} {L : Nat → Bool} {vals : Nat → Value} {w1 : World} (h : JF T ops S l0 H0 w0 l p L vals w1)
    {i : Nat} {o : Oper} (ho : ops[i]? = some o) (hL : L i = false) (hE : ∀ e ∈ o.after.toList, Region.binds .any e = true → L e.on = true) (hc : (S (i + 1)).info.cl = .R) (hv : ropV T (S (i + 1)).info.fo (S i).Hc o.op = some (S (i + 1)).info.v) :
    ropV T (S (i + 1)).info.fo (S p).Hc o.op = some (S (i + 1)).info.v := by
  have hi := (Array.getElem?_eq_some_iff.1 ho).1
  have hA := hS.listed h0 h.ideal i o ho hE
  rcases Nat.lt_or_ge i p with hip | hpi
  · rcases last_W S i p (by omega) with hno | ⟨j, g1, g2, g3, g4⟩
    · rw [hS.same_to (by omega) h.hp hno]; exact hv
    · have hjn : j < ops.size := by have := h.hp; omega
      have hLj := (h.chain j hjn g3).2 g2
      have hji : i ≠ j := by rintro rfl; rw [hc] at g3; cases g3
      have b1 : bit (S (i + 1)).info.mask j = false := by
        rw [Bool.eq_false_iff]; intro hb
        have := hS.lt h0 i j hi hb; omega
      have b2 : bit (S (j + 1)).info.mask i = false := by
        rw [Bool.eq_false_iff]; intro hb
        have := hS.listed h0 h.ideal j _ (Array.getElem?_eq_getElem hjn) (h.ideal j _ (Array.getElem?_eq_getElem hjn) hLj) i hb
        rw [hL] at this; cases this
      have := (hC i o j ho hjn hc g3 b1 b2).2
      rw [hS.same_to (p := j + 1) (q := p) (by omega) h.hp fun k k1 k2 => g4 k (by omega) k2]
      exact this
  · rcases first_W S p i hpi with hno | ⟨j, g1, g2, g3, g4⟩
    · rw [← hS.same_to hpi (by omega) hno]; exact hv
    · have hjn : j < ops.size := by omega
      have b1 : bit (S (i + 1)).info.mask j = false := by
        rw [Bool.eq_false_iff]; intro hb
        have := (h.chain j hjn g3).1 (hA j hb); omega
      have b2 : bit (S (j + 1)).info.mask i = false := by
        rw [Bool.eq_false_iff]; intro hb
        have := hS.lt h0 j i hjn hb; omega
      have := (hC i o j ho hjn hc g3 b1 b2).1
      rw [← hS.same_to (p := p) (q := j) g1 (by omega) g4]
      exact this
end Go.Proofs.YtbjpkfaiofkmdaaGreatDoor.Ev
