/-
  A RECKONER OF CLOSED CALLS, SIXTEENTH PART: a writer's step amid a region that draws. No program in sight; no condition.
-/
import Derived.Test.YtbjpkfaiofkmdaaGreatDoorEv15
namespace Go.Proofs.YtbjpkfaiofkmdaaGreatDoor.Ev
open Go Go.RowKit

variable {P : Program} {T : Tb} {l : Env} {H : Hp} {w : World} {N : Nat} {call : CallF} {ops : Array Oper} {dm : Tr Nat} {S : Nat → PS}

theorem Run.blk (h : Run T call N ops dm S) {j : Nat} (hj : j < ops.size) {o : AObj} (hb : (S (j + 1)).info.blk = some o) : (S (j + 1)).nx = (S j).nx + 1 ∧ (S (j + 1)).info.cl ≠ .W := by
  obtain ⟨s', v', h3, h4, -, -, h6, -⟩ := h.did hj
  rw [h6] at hb ⊢
  rw [h4]
  cases h3 <;> first | (cases hb; done) | exact ⟨rfl, fun e => by cases e⟩
theorem Wt.le {n p q j : Nat} {o : AObj} (h : Wt S n q j o) (hpq : p ≤ q) : Wt S n p j o := ⟨h.1, h.2.1, fun i hi => h.2.2 i (by omega)⟩
/-- The place that the chain has come to, ahead of a writer. -/
theorem JF.place {l0 : Env} {H0 : Hp} {w0 : World} {p : Nat} {L : Nat → Bool} {vals : Nat → Value} {w1 : World} (hS : Run T call N ops dm S) (h : JF T ops S l0 H0 w0 l p L vals w1) {i : Nat} (hi : i < ops.size) (hL : L i = false) (hc : (S (i + 1)).info.cl = .W)
    (hA : ∀ j, bit (S (i + 1)).info.mask j = true → L j = true) : p ≤ i ∧ (∀ j, p ≤ j → j < i → (S (j + 1)).info.cl ≠ .W) ∧ (S i).Hc = (S p).Hc := by
  have h1 : p ≤ i := by
    rcases Nat.lt_or_ge i p with e | e
    · have := (h.chain i hi hc).2 e; rw [hL] at this; cases this
    · exact e
  have h2 : ∀ j, p ≤ j → j < i → (S (j + 1)).info.cl ≠ .W := fun j hp hj hw => by
    have := (h.chain j (by omega) hw).1 (hA j (hS.chain hi hj hc hw))
    omega
  exact ⟨h1, h2, hS.same_to h1 (by omega) h2⟩
/-- What a writer sees. -/
theorem JF.seen {l0 : Env} {H0 : Hp} {w0 : World} {p : Nat} {L : Nat → Bool} {vals : Nat → Value} {w1 : World} (hS : Run T call N ops dm S) (h0 : (S 0).ms = .e) (hp0 : (S 0).pend = []) (h : JF T ops S l0 H0 w0 l p L vals w1) {i : Nat} (hi : i < ops.size) (hpi : p ≤ i) (hHc : (S i).Hc = (S p).Hc)
    (hA : ∀ j, bit (S (i + 1)).info.mask j = true → L j = true) {b : Nat} {o : AObj} (hb : (putP (S (i + 1)).info.mask (S i).pend (S i).Hc).get b = some o) :
    b < (S i).nx ∧ ∃ c, c ≤ (S i).nx ∧ Gq S ops.size p L b o c ∧ ((S p).Hc.get b = some o ∨ ∃ j, bit (S (i + 1)).info.mask j = true ∧ Wt S ops.size p j o ∧ b = (S j).nx ∧ j < i) := by
  rcases putP_get hb with ⟨j, h1, h2⟩ | h1
  · obtain ⟨g1, g2, g3⟩ := (hS.pend h0 hp0 i (by omega) j b o).1 h1
    have g4 := hS.blk g2.1 g2.2.1
    have g5 := hS.nx_le (i := j + 1) (j := i) (by omega) (by omega)
    exact ⟨by omega, _, g5, .inr ⟨j, hA j h2, g2.le hpi, g3, rfl⟩, .inr ⟨j, h2, g2.le hpi, g3, g1⟩⟩
  · rw [hHc] at h1
    have g5 := hS.nx_le (i := p) (j := i) hpi (by omega)
    exact ⟨Nat.lt_of_lt_of_le (h.bnd b o h1) g5, _, g5, .inl ⟨h1, rfl⟩, .inl h1⟩
theorem JF.input {l0 : Env} {H0 : Hp} {w0 : World} {p : Nat} {L : Nat → Bool} {vals : Nat → Value} {w1 : World} (hS : Run T call N ops dm S) (h0 : (S 0).ms = .e) (hp0 : (S 0).pend = []) (hr0 : HR T.sz l0 H0 w0) (hx0 : H0.nx = (S 0).nx) (h : JF T ops S l0 H0 w0 l p L vals w1) {i : Nat} (hi : i < ops.size) (hpi : p ≤ i) (hHc : (S i).Hc = (S p).Hc)
    (hA : ∀ j, bit (S (i + 1)).info.mask j = true → L j = true) : HR T.sz (l.cut (S i).nx) ⟨putP (S (i + 1)).info.mask (S i).pend (S i).Hc, (S i).nx⟩ w1 := by
  refine ⟨fun b o e => ?_, fun b b' o o' x x' e e' g g' hx => ?_, fun b x e => (Env.cut_of e).1, fun g hg => ?_⟩
  · obtain ⟨f1, c, f2, f3, -⟩ := h.seen hS h0 hp0 hi hpi hHc hA e
    obtain ⟨k, κ, x, g1, g2, g3⟩ := h.obj b o c f3
    exact ⟨k, κ, x, by rw [Env.cut_at f1]; exact g1, g2, g3.mono (Env.cut_mono l f2)⟩
  · obtain ⟨-, c, -, f3, -⟩ := h.seen hS h0 hp0 hi hpi hHc hA e
    obtain ⟨-, c', -, f3', -⟩ := h.seen hS h0 hp0 hi hpi hHc hA e'
    exact h.inj b b' o o' c c' x x' f3 f3' (Env.cut_of g).2 (Env.cut_of g').2 hx
  · have := hr0.glob g hg
    have h2 := hr0.dom g _ this
    have h3 := hS.nx_le (i := 0) (j := i) (by omega) (by omega)
    rw [Env.cut_at (by omega)]
    exact h.le _ _ this
/-- The environment behind a step. -/
def Env.join (l l' : Env) (a b : Nat) : Env := fun x => if a ≤ x ∧ x < b then l' x else l x
theorem JF.write (hS : Run T call N ops dm S) (h0 : (S 0).ms = .e) (hp0 : (S 0).pend = []) {l0 : Env} {H0 : Hp} {w0 : World} {p : Nat} {L : Nat → Bool} {vals : Nat → Value} {w1 w2 : World} (hr0 : HR T.sz l0 H0 w0) (hx0 : H0.nx = (S 0).nx) (h : JF T ops S l0 H0 w0 l p L vals w1)
    {i : Nat} {o : Oper} (ho : ops[i]? = some o) (hL : L i = false) (hE : ∀ e ∈ o.after.toList, Region.binds .any e = true → L e.on = true) (hc : (S (i + 1)).info.cl = .W)
    {l' : Env} {H' : Hp} {x : Value} (hn : H'.nx = (S (i + 1)).nx) (ht : H'.t = (S (i + 1)).Hc) (hv : VR l' (S (i + 1)).info.v x) (hk : Kp T.sz T.lo (l.cut (S i).nx) ⟨putP (S (i + 1)).info.mask (S i).pend (S i).Hc, (S i).nx⟩ w1 l' H' w2) :
    JF T ops S l0 H0 w0 (l.join l' (S i).nx (S (i + 1)).nx) (i + 1) (mrkL L i) (mrkV vals i x) w2 := by
  have hi := (Array.getElem?_eq_some_iff.1 ho).1
  have hA := hS.listed h0 h.ideal i o ho hE
  obtain ⟨hpi, hno, hHc⟩ := h.place hS hi hL hc hA
  have hni := hS.nx hi
  have hle : l.le (l.join l' (S i).nx (S (i + 1)).nx) := fun b y e => by
    unfold Env.join
    split
    · rename_i hb
      rw [h.no i hi hL b hb.1 hb.2] at e; cases e
    · exact e
  have hnew : l'.le ((l.join l' (S i).nx (S (i + 1)).nx).cut (S (i + 1)).nx) := fun b y e => by
    have hb : b < (S (i + 1)).nx := by rw [← hn]; exact hk.hr.dom b y e
    rw [Env.cut_at hb]
    unfold Env.join
    split
    · exact e
    · rename_i hb2
      rcases hk.fresh b y e with g | ⟨g, -⟩
      · exact (Env.cut_of g).2
      · exact absurd ⟨g, hb⟩ hb2
  have hcut : ∀ n, (l.cut n).le ((l.join l' (S i).nx (S (i + 1)).nx).cut n) := fun n b y hb2 => by
    obtain ⟨e1, e2⟩ := Env.cut_of hb2
    rw [Env.cut_at e1]; exact hle _ _ e2
  have hget : ∀ b u, (S (i + 1)).Hc.get b = some u ↔ H'.get b = some u := fun b u => by rw [← ht]; rfl
  -- a waiting block is not seen
  have hun : ∀ j u, Wt S ops.size (i + 1) j u → ∀ u', (putP (S (i + 1)).info.mask (S i).pend (S i).Hc).get (S j).nx ≠ some u' := by
    intro j u hw u' e
    obtain ⟨-, c, -, -, f | ⟨j', f1, f2, f3, f4⟩⟩ := h.seen hS h0 hp0 hi hpi hHc hA e
    · rw [h.free j u (hw.le (by omega))] at f; cases f
    · have hjj : j = j' := by
        have b1 := hS.blk hw.1 hw.2.1
        have b2 := hS.blk f2.1 f2.2.1
        have := f2.1
        have := hw.1
        rcases Nat.lt_trichotomy j j' with e | e | e
        · have := hS.nx_le (i := j + 1) (j := j') (by omega) (by omega); omega
        · exact e
        · have := hS.nx_le (i := j' + 1) (j := j) (by omega) (by omega); omega
      subst hjj
      rw [hw.2.2 i (by omega) hc] at f1; cases f1
  have hji : ∀ j u, Wt S ops.size (i + 1) j u → j ≠ i := by
    rintro j u hw rfl
    exact (hS.blk hw.1 hw.2.1).2 hc
  have hL' : ∀ j, j ≠ i → mrkL L i j = L j := fun j hj => mrkL_ne L hj
  have hGr : ∀ b u c, Gq S ops.size (i + 1) (mrkL L i) b u c → ((S (i + 1)).Hc.get b = some u ∧ c = (S (i + 1)).nx) ∨ (Gq S ops.size p L b u c ∧ ∃ j, Wt S ops.size (i + 1) j u ∧ b = (S j).nx) := by
    rintro b u c (g | ⟨j, g1, g2, g3, g4⟩)
    · exact .inl g
    · rw [hL' j (hji j u g2)] at g1
      exact .inr ⟨.inr ⟨j, g1, g2.le (by omega), g3, g4⟩, j, g2, g3⟩
  have seen : ∀ b u, (putP (S (i + 1)).info.mask (S i).pend (S i).Hc).get b = some u → b < (S i).nx ∧ ∃ c, Gq S ops.size p L b u c := fun b u e => by
    obtain ⟨f1, c, -, f3, -⟩ := h.seen hS h0 hp0 hi hpi hHc hA e
    exact ⟨f1, c, f3⟩
  -- a waiting block lies apart from all that a writer sees
  have apart : ∀ b u c k κ, Gq S ops.size p L b u c → (∃ j, Wt S ops.size (i + 1) j u ∧ b = (S j).nx) → l b = some (k, κ) → ∀ b' y u', (putP (S (i + 1)).info.mask (S i).pend (S i).Hc).get b' = some u' → l b' = some y → y.1 ≠ k := by
    rintro b u c k κ hg ⟨j, hw, rfl⟩ hl b' y u' e hy hyk
    obtain ⟨-, c', hg'⟩ := seen b' u' e
    have := h.inj b' _ u' u c' c y (k, κ) hg' hg hy hl hyk
    subst this
    exact hun j u hw u' e
  have hkeep : ∀ b u c k κ, Gq S ops.size p L b u c → (∃ j, Wt S ops.size (i + 1) j u ∧ b = (S j).nx) → l b = some (k, κ) → k < w1.heap.size → w2.heap[k]? = w1.heap[k]? := by
    intro b u c k κ hg hj hl hlt
    refine hk.block k hlt fun b' y _ hy hs => ?_
    obtain ⟨u', e⟩ := Option.isSome_iff_exists.1 hs
    exact apart b u c k κ hg hj hl b' y u' e (Env.cut_of hy).2
  have lr : ∀ b u b' u' c' y y', H'.get b = some u → l' b = some y → Gq S ops.size p L b' u' c' → (∃ j, Wt S ops.size (i + 1) j u' ∧ b' = (S j).nx) → l b' = some y' → y.1 = y'.1 → b = b' := by
    intro b u b' u' c' y y' e hy hg hj hy' hx
    obtain ⟨k, κ, z, g1, g2, -⟩ := h.obj b' u' c' hg
    rw [hy'] at g1
    cases g1
    have hlt := (Array.getElem?_eq_some_iff.1 g2).1
    rcases hk.fresh b y hy with f | ⟨-, f | ⟨b0, -, f1, f2⟩⟩
    · exfalso
      obtain ⟨hb1, hb2⟩ := Env.cut_of f
      obtain ⟨u2, e2⟩ := Option.isSome_iff_exists.1 (hk.old b hb1 (by rw [e]; rfl))
      exact apart b' u' c' _ _ hg hj hy' b y u2 e2 hb2 hx
    · simp only at hx; omega
    · exfalso
      obtain ⟨u2, e2⟩ := Option.isSome_iff_exists.1 f1
      cases e3 : (l.cut (S i).nx) b0 with
      | none => rw [e3] at f2; cases f2
      | some y0 =>
        rw [e3] at f2
        have hy0 : y0.1 = y.1 := by simpa using f2
        exact apart b' u' c' _ _ hg hj hy' b0 y0 u2 e2 (Env.cut_of e3).2 (by rw [hy0]; exact hx)
  have hl2 : ∀ b u y, H'.get b = some u → (l.join l' (S i).nx (S (i + 1)).nx) b = some y → l' b = some y := by
    intro b u y e hy
    obtain ⟨k, κ, z, g1, -⟩ := hk.hr.obj b u e
    have := (Env.cut_of (hnew _ _ g1)).2
    rw [hy] at this
    cases this; exact g1
  have hwl : ∀ b u c y, Gq S ops.size p L b u c → (l.join l' (S i).nx (S (i + 1)).nx) b = some y → l b = some y := by
    intro b u c y hg hy
    obtain ⟨k, κ, z, g1, -⟩ := h.obj b u c hg
    have := hle _ _ g1
    rw [hy] at this
    cases this; exact g1
  refine ⟨by omega, fun j oj hoj hj e he hbe => ?_, fun j hj hw => ?_, h.le.trans hle, fun b y hb2 => ?_, fun j hj hjL b hb1 hb2 => ?_, fun j hj hjL => ?_, fun b u c g => ?_, fun b b' u u' c c' y y' g g' e e' hx => ?_, fun b u e => ?_, fun j u hw => ?_, fun b hb hs => ?_,
    hk.os.trans h.os, hk.tape.trans h.tape, hk.output.trans h.output, Nat.le_trans h.size hk.size, fun k hk0 hne => ?_, fun b y hb2 => ?_⟩
  · by_cases ej : j = i
    · subst ej
      rw [ho] at hoj
      cases hoj
      by_cases ee : e.on = j
      · rw [ee]; exact mrkL_at L j
      · rw [mrkL_ne L ee]; exact hE e he hbe
    · rw [mrkL_ne L ej] at hj
      have := h.ideal j oj hoj hj e he hbe
      by_cases ee : e.on = i
      · rw [ee]; exact mrkL_at L i
      · rw [mrkL_ne L ee]; exact this
  · by_cases ej : j = i
    · subst ej
      rw [mrkL_at]
      exact ⟨fun _ => by omega, fun _ => rfl⟩
    · rw [mrkL_ne L ej, h.chain j hj hw]
      constructor
      · intro hh; omega
      · intro hh
        rcases Nat.lt_or_ge j p with e | e
        · exact e
        · exact absurd hw (hno j e (by omega))
  · unfold Env.join at hb2
    split at hb2
    · rename_i hb3
      exact Nat.lt_of_lt_of_le hb3.2 (hS.nx_le (by omega) (Nat.le_refl _))
    · exact h.dom b y hb2
  · have ej : j ≠ i := by rintro rfl; rw [mrkL_at] at hjL; cases hjL
    rw [mrkL_ne L ej] at hjL
    unfold Env.join
    rw [if_neg (by
      rintro ⟨e1, e2⟩
      rcases Nat.lt_or_gt_of_ne ej with hlt' | hgt
      · have := hS.nx_le (i := j + 1) (j := i) (by omega) (by omega); omega
      · have := hS.nx_le (i := i + 1) (j := j) (by omega) (by omega); omega)]
    exact h.no j hj hjL b hb1 hb2
  · by_cases ej : j = i
    · subst ej
      rw [mrkV_at]; exact hv.mono hnew
    · rw [mrkL_ne L ej] at hjL
      rw [mrkV_ne vals x ej]
      exact (h.val j hj hjL).mono (hcut _)
  · rcases hGr b u c g with ⟨g1, rfl⟩ | ⟨g1, g2⟩
    · obtain ⟨k, κ, z, e1, e2, e3⟩ := hk.hr.obj b u ((hget b u).1 g1)
      exact ⟨k, κ, z, (Env.cut_of (hnew _ _ e1)).2, e2, e3.mono hnew⟩
    · obtain ⟨k, κ, z, e1, e2, e3⟩ := h.obj b u c g1
      exact ⟨k, κ, z, hle _ _ e1, (hkeep b u c k κ g1 g2 e1 (Array.getElem?_eq_some_iff.1 e2).1).trans e2, e3.mono (hcut _)⟩
  · rcases hGr b u c g with ⟨g1, rfl⟩ | ⟨g1, g2⟩
    · have a1 := (hget b u).1 g1
      have a2 := hl2 b u y a1 e
      rcases hGr b' u' c' g' with ⟨k1, rfl⟩ | ⟨k1, k2⟩
      · have b1 := (hget b' u').1 k1
        exact hk.hr.inj b b' u u' y y' a1 b1 a2 (hl2 b' u' y' b1 e') hx
      · exact lr b u b' u' c' y y' a1 a2 k1 k2 (hwl _ _ _ _ k1 e') hx
    · rcases hGr b' u' c' g' with ⟨k1, rfl⟩ | ⟨k1, k2⟩
      · have b1 := (hget b' u').1 k1
        exact (lr b' u' b u c y' y b1 (hl2 b' u' y' b1 e') g1 g2 (hwl _ _ _ _ g1 e) hx.symm).symm
      · exact h.inj b b' u u' c c' y y' g1 k1 (hwl _ _ _ _ g1 e) (hwl _ _ _ _ k1 e') hx
  · obtain ⟨k, κ, z, e1, -⟩ := hk.hr.obj b u ((hget b u).1 e)
    rw [← hn]; exact hk.hr.dom b _ e1
  · cases e : (S (i + 1)).Hc.get (S j).nx with
    | none => rfl
    | some u' =>
      exfalso
      have e1 := (hget _ _).1 e
      have hj := hji j u hw
      have b1 := hS.blk hw.1 hw.2.1
      have hjn := hw.1
      obtain ⟨k, κ, z, e2, -⟩ := hk.hr.obj _ _ e1
      have e3 := hk.hr.dom _ _ e2
      rw [hn] at e3
      rcases Nat.lt_or_ge (S j).nx (S i).nx with f | f
      · obtain ⟨u2, e4⟩ := Option.isSome_iff_exists.1 (hk.old _ f (by rw [e1]; rfl))
        exact hun j u hw u2 e4
      · rcases Nat.lt_or_gt_of_ne hj with g | g
        · have := hS.nx_le (i := j + 1) (j := i) (by omega) (by omega); omega
        · have := hS.nx_le (i := i + 1) (j := j) (by omega) (by omega); omega
  · obtain ⟨u, e⟩ := Option.isSome_iff_exists.1 hs
    have hlt : b < (S i).nx := by have := hS.nx_le (i := 0) (j := i) (by omega) (by omega); omega
    obtain ⟨u2, e4⟩ := Option.isSome_iff_exists.1 (hk.old b hlt (by rw [(hget b u).1 e]; rfl))
    obtain ⟨-, c, -, -, f | ⟨j', f1, f2, f3, f4⟩⟩ := h.seen hS h0 hp0 hi hpi hHc hA e4
    · exact h.old b hb (by rw [f]; rfl)
    · exfalso
      have := hS.nx_le (i := 0) (j := j') (by omega) (by omega); omega
  · rw [hk.block k (by have := h.size; omega) fun b' y hlo hy hs => ?_]
    · exact h.block k hk0 hne
    · obtain ⟨u', e⟩ := Option.isSome_iff_exists.1 hs
      obtain ⟨hy1, hy2⟩ := Env.cut_of hy
      rcases h.fresh b' y hy2 with f | ⟨-, f | ⟨b0, f0, f1, f2⟩⟩
      · obtain ⟨-, c, -, -, g | ⟨j', g1, g2, g3, g4⟩⟩ := h.seen hS h0 hp0 hi hpi hHc hA e
        · exact hne b' y hlo f (h.old b' (hr0.dom _ _ f) (by rw [g]; rfl))
        · exfalso
          have := hr0.dom _ _ f
          have := hS.nx_le (i := 0) (j := j') (by omega) (by omega); omega
      · omega
      · cases e3 : l0 b0 with
        | none => rw [e3] at f2; cases f2
        | some y0 =>
          rw [e3] at f2
          have hy0 : y0.1 = y.1 := by simpa using f2
          rw [← hy0]; exact hne b0 y0 f0 e3 f1
  · unfold Env.join at hb2
    split at hb2
    · rename_i hb3
      have hge : H0.nx ≤ b := by have := hS.nx_le (i := 0) (j := i) (by omega) (by omega); omega
      rcases hk.fresh b y hb2 with f | ⟨-, f | ⟨b0, f0, f1, f2⟩⟩
      · have := (Env.cut_of f).1; omega
      · exact .inr ⟨hge, .inl (by have := h.size; omega)⟩
      · cases e3 : (l.cut (S i).nx) b0 with
        | none => rw [e3] at f2; cases f2
        | some y0 =>
          rw [e3] at f2
          have hy0 : y0.1 = y.1 := by simpa using f2
          obtain ⟨u2, e2⟩ := Option.isSome_iff_exists.1 f1
          obtain ⟨hz1, hz2⟩ := Env.cut_of e3
          rcases h.fresh b0 y0 hz2 with g | ⟨-, g | ⟨b1, g0, g1, g2⟩⟩
          · obtain ⟨-, c, -, -, q | ⟨j', q1, q2, q3, q4⟩⟩ := h.seen hS h0 hp0 hi hpi hHc hA e2
            · exact .inr ⟨hge, .inr ⟨b0, f0, h.old b0 (hr0.dom _ _ g) (by rw [q]; rfl), by rw [g]; simpa using hy0⟩⟩
            · exfalso
              have := hr0.dom _ _ g
              have := hS.nx_le (i := 0) (j := j') (by omega) (by omega); omega
          · exact .inr ⟨hge, .inl (by omega)⟩
          · exact .inr ⟨hge, .inr ⟨b1, g0, g1, by rw [g2, hy0]⟩⟩
    · exact h.fresh b y hb2
end Go.Proofs.YtbjpkfaiofkmdaaGreatDoor.Ev
