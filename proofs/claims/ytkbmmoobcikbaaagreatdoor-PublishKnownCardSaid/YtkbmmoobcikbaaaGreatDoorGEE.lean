/-
  A RECKONER OF CLOSED CALLS, FIFTEENTH PART: what stands amid a region that draws. No program in sight; no condition.
  A RECKONER OF CLOSED CALLS, SIXTEENTH PART: a writer's step amid a region that draws. No program in sight; no condition.
  A RECKONER OF CLOSED CALLS, SEVENTEENTH PART: regions that draw, reckoned once, are right. No program in sight; no condition.
  A RECKONER OF CLOSED CALLS, EIGHTEENTH PART: regions that draw, reckoned once, are right: the join. No program in sight; no condition.
  A RECKONER OF CLOSED CALLS, NINETEENTH PART: regions that draw: the reckoning is right. No program in sight; no condition.
  A RECKONER OF CLOSED CALLS: a closed call that is reckoned answers so. No program in sight; no condition.
-/
import Derived.Test.YtkbmmoobcikbaaaGreatDoorGED
import Derived.Test.YtkbmmoobcikbaaaGreatDoorGN
import Derived.Test.YtkbmmoobcikbaaaGreatDoorEvTab
namespace Go.Proofs.YtkbmmoobcikbaaaGreatDoor.Ev
open Go Go.RowKit

variable {P : Program} {T : Tb} {l : Env} {H : Hp} {w : World} {N : Nat} {call : CallF} {ops : Array Oper} {dm : Tr Nat} {S : Nat → PS}

/-- An operation's block that waits at a place of the chain. -/
noncomputable def Wt (S : Nat → PS) (n p j : Nat) (o : AObj) : Prop := j < n ∧ (S (j + 1)).info.blk = some o ∧ ∀ i, i < p → (S (i + 1)).info.cl = .W → bit (S (i + 1)).info.mask j = false
theorem Run.pend (h : Run T call N ops dm S) (h0 : (S 0).ms = .e) (hp : (S 0).pend = []) : ∀ (i : Nat), i ≤ ops.size → ∀ j b o, (j, b, o) ∈ (S i).pend ↔ j < i ∧ Wt S ops.size i j o ∧ b = (S j).nx
  | 0, _, j, b, o => by rw [hp]; simp
  | i + 1, hi, j, b, o => by
    have ih := Run.pend h h0 hp i (by omega) j b o
    obtain ⟨s', v', h3, -, -, -, h6, h7⟩ := h.did (show i < ops.size by omega)
    have noW : (S (i + 1)).info.cl ≠ .W → (Wt S ops.size (i + 1) j o ↔ Wt S ops.size i j o) := by
      intro hc
      refine ⟨fun ⟨a1, a2, a3⟩ => ⟨a1, a2, fun i' hi' => a3 i' (by omega)⟩, fun ⟨a1, a2, a3⟩ => ⟨a1, a2, fun i' hi' hw => ?_⟩⟩
      by_cases e : i' = i
      · subst e; exact absurd hw hc
      · exact a3 i' (by omega) hw
    have plain : (S (i + 1)).info.cl ≠ .W → (S (i + 1)).info.blk = none → (S (i + 1)).pend = (S i).pend → ((j, b, o) ∈ (S (i + 1)).pend ↔ j < i + 1 ∧ Wt S ops.size (i + 1) j o ∧ b = (S j).nx) := by
      intro hc hb hpe
      rw [hpe, ih, noW hc]
      refine ⟨fun ⟨a1, a2⟩ => ⟨by omega, a2⟩, fun ⟨a1, a2⟩ => ⟨?_, a2⟩⟩
      by_cases e : j = i
      · subst e
        have := a2.1.2.1
        rw [hb] at this; cases this
      · omega
    cases h3 with
    | U => exact plain (by rw [h6]; intro e; cases e) (by rw [h6]) h7
    | R => exact plain (by rw [h6]; intro e; cases e) (by rw [h6]) h7
    | M => exact plain (by rw [h6]; intro e; cases e) (by rw [h6]) h7
    | W _ _ _ _ =>
      rw [h7]
      simp only
      rw [waitP_mem, ih]
      have hcl : (S (i + 1)).info.cl = .W := by rw [h6]
      constructor
      · rintro ⟨⟨a1, ⟨a2, a3, a4⟩, a5⟩, a6⟩
        refine ⟨by omega, ⟨a2, a3, fun i' hi' hw => ?_⟩, a5⟩
        by_cases e : i' = i
        · subst e; exact a6
        · exact a4 i' (by omega) hw
      · rintro ⟨a1, ⟨a2, a3, a4⟩, a5⟩
        have hji : j ≠ i := by
          rintro rfl
          rw [h6] at a3; cases a3
        exact ⟨⟨by omega, ⟨a2, a3, fun i' hi' => a4 i' (by omega)⟩, a5⟩, a4 i (by omega) hcl⟩
    | B _ _ _ _ =>
      rename_i x _ _ _ _
      rw [h7]
      simp only
      have hc : (S (i + 1)).info.cl ≠ .W := by rw [h6]; intro e; cases e
      rw [List.mem_cons, ih, noW hc]
      constructor
      · rintro (e | ⟨a1, a2⟩)
        · cases e
          refine ⟨by omega, ⟨by omega, by rw [h6], fun i' hi' hw => ?_⟩, rfl⟩
          rw [Bool.eq_false_iff]
          intro hb
          have := h.lt h0 i' _ (by omega) hb
          omega
        · exact ⟨by omega, a2⟩
      · rintro ⟨a1, a2, a3⟩
        by_cases e : j = i
        · subst e
          left
          have := a2.2.1
          rw [h6] at this
          cases this
          rw [a3]
        · exact .inr ⟨by omega, a2, a3⟩
/-- The blocks that are known at a place of the chain, and what their values know. -/
noncomputable def Gq (S : Nat → PS) (n p : Nat) (L : Nat → Bool) (b : Nat) (o : AObj) (c : Nat) : Prop :=
  ((S p).Hc.get b = some o ∧ c = (S p).nx) ∨ ∃ j, L j = true ∧ Wt S n p j o ∧ b = (S j).nx ∧ c = (S (j + 1)).nx
structure JF (T : Tb) (ops : Array Oper) (S : Nat → PS) (l0 : Env) (H0 : Hp) (w0 : World) (l : Env) (p : Nat) (L : Nat → Bool) (vals : Nat → Value) (w1 : World) : Prop where
  hp : p ≤ ops.size
  ideal : ∀ (i : Nat) (o : Oper), ops[i]? = some o → L i = true → ∀ e ∈ o.after.toList, Region.binds .any e = true → L e.on = true
  chain : ∀ j, j < ops.size → (S (j + 1)).info.cl = .W → (L j = true ↔ j < p)
  le : l0.le l
  dom : ∀ b x, l b = some x → b < (S ops.size).nx
  no : ∀ i, i < ops.size → L i = false → ∀ b, (S i).nx ≤ b → b < (S (i + 1)).nx → l b = none
  val : ∀ i, i < ops.size → L i = true → VR (l.cut (S (i + 1)).nx) (S (i + 1)).info.v (vals i)
  obj : ∀ b o c, Gq S ops.size p L b o c → ∃ k κ x, l b = some (k, κ) ∧ w1.heap[k]? = some x ∧ OR T.sz (l.cut c) κ o x
  inj : ∀ b b' o o' c c' x x', Gq S ops.size p L b o c → Gq S ops.size p L b' o' c' → l b = some x → l b' = some x' → x.1 = x'.1 → b = b'
  bnd : ∀ b o, (S p).Hc.get b = some o → b < (S p).nx
  free : ∀ j u, Wt S ops.size p j u → (S p).Hc.get (S j).nx = none
  old : ∀ b, b < H0.nx → ((S p).Hc.get b).isSome → (H0.get b).isSome
  os : w1.os = w0.os
  tape : w1.tape = w0.tape
  output : w1.output = w0.output
  size : w0.heap.size ≤ w1.heap.size
  block : ∀ k, k < w0.heap.size → (∀ b x, T.lo ≤ b → l0 b = some x → (H0.get b).isSome → x.1 ≠ k) → w1.heap[k]? = w0.heap[k]?
  fresh : ∀ b x, l b = some x → l0 b = some x ∨ (H0.nx ≤ b ∧ (w0.heap.size ≤ x.1 ∨ ∃ b0, T.lo ≤ b0 ∧ (H0.get b0).isSome ∧ (l0 b0).map (·.1) = some x.1))
theorem mrkL_at (L : Nat → Bool) (i : Nat) : mrkL L i i = true := by simp [mrkL]
theorem mrkL_ne (L : Nat → Bool) {i j : Nat} (h : j ≠ i) : mrkL L i j = L j := by simp [mrkL, h]
theorem mrkV_at (v : Nat → Value) (i : Nat) (x : Value) : mrkV v i x i = x := by simp [mrkV]
theorem mrkV_ne (v : Nat → Value) {i j : Nat} (x : Value) (h : j ≠ i) : mrkV v i x j = v j := by simp [mrkV, h]
/-- A step that turns no old block. -/
theorem JF.more (hS : Run T call N ops dm S) {l0 : Env} {H0 : Hp} {w0 : World} {p : Nat} {L : Nat → Bool} {vals : Nat → Value} {w1 w2 : World} (hx0 : H0.nx ≤ (S 0).nx) (h : JF T ops S l0 H0 w0 l p L vals w1) {i : Nat} {o : Oper} (ho : ops[i]? = some o) (hL : L i = false)
    (hE : ∀ e ∈ o.after.toList, Region.binds .any e = true → L e.on = true) (hc : (S (i + 1)).info.cl ≠ .W) {l2 : Env} {x : Value} (hle : l.le l2)
    (hdom : ∀ b y, l2 b = some y → l b = some y ∨ ((S i).nx ≤ b ∧ b < (S (i + 1)).nx ∧ w1.heap.size ≤ y.1)) (hs : w1.heap.size ≤ w2.heap.size) (hb : ∀ k, k < w1.heap.size → w2.heap[k]? = w1.heap[k]?)
    (h1 : w2.os = w1.os) (h2 : w2.tape = w1.tape) (h3 : w2.output = w1.output) (hv : VR (l2.cut (S (i + 1)).nx) (S (i + 1)).info.v x)
    (hn : ∀ u, (S (i + 1)).info.blk = some u → ∃ k κ y, l2 (S i).nx = some (k, κ) ∧ w1.heap.size ≤ k ∧ w2.heap[k]? = some y ∧ OR T.sz (l2.cut (S (i + 1)).nx) κ u y) :
    JF T ops S l0 H0 w0 l2 p (mrkL L i) (mrkV vals i x) w2 := by
  have hi := (Array.getElem?_eq_some_iff.1 ho).1
  have hcut : ∀ n, (l.cut n).le (l2.cut n) := fun n b y hb2 => by
    obtain ⟨e1, e2⟩ := Env.cut_of hb2
    rw [Env.cut_at e1]; exact hle _ _ e2
  have hG : ∀ b u c, Gq S ops.size p (mrkL L i) b u c → Gq S ops.size p L b u c ∨ ((S (i + 1)).info.blk = some u ∧ b = (S i).nx ∧ c = (S (i + 1)).nx) := by
    rintro b u c (g | ⟨j, g1, g2, g3, g4⟩)
    · exact .inl (.inl g)
    · by_cases e : j = i
      · subst e; exact .inr ⟨g2.2.1, g3, g4⟩
      · rw [mrkL_ne L e] at g1
        exact .inl (.inr ⟨j, g1, g2, g3, g4⟩)
  have hlt : ∀ b u c y, Gq S ops.size p L b u c → l2 b = some y → y.1 < w1.heap.size ∧ l b = some y := by
    intro b u c y g e
    obtain ⟨k, κ, z, g1, g2, -⟩ := h.obj b u c g
    have := hle _ _ g1
    rw [e] at this
    cases this
    exact ⟨(Array.getElem?_eq_some_iff.1 g2).1, g1⟩
  refine ⟨h.hp, fun j oj hoj hj e he hbe => ?_, fun j hj hw => ?_, h.le.trans hle, fun b y hb2 => ?_, fun j hj hjL b hb1 hb2 => ?_, fun j hj hjL => ?_, fun b u c g => ?_, fun b b' u u' c c' y y' g g' e e' hx => ?_, h.bnd, h.free, h.old, h1.trans h.os, h2.trans h.tape, h3.trans h.output, Nat.le_trans h.size hs, fun k hk hne => ?_, fun b y hb2 => ?_⟩
  · by_cases ej : j = i
    · subst ej
      rw [ho] at hoj
      cases hoj
      have := hE e he hbe
      by_cases ee : e.on = j
      · rw [ee]; exact mrkL_at L j
      · rw [mrkL_ne L ee]; exact this
    · rw [mrkL_ne L ej] at hj
      have := h.ideal j oj hoj hj e he hbe
      by_cases ee : e.on = i
      · rw [ee]; exact mrkL_at L i
      · rw [mrkL_ne L ee]; exact this
  · have ej : j ≠ i := by rintro rfl; exact hc hw
    rw [mrkL_ne L ej]; exact h.chain j hj hw
  · rcases hdom b y hb2 with e | ⟨e1, e2, -⟩
    · exact h.dom b y e
    · exact Nat.lt_of_lt_of_le e2 (hS.nx_le (by omega) (Nat.le_refl _))
  · have ej : j ≠ i := by rintro rfl; rw [mrkL_at] at hjL; cases hjL
    rw [mrkL_ne L ej] at hjL
    cases e : l2 b with
    | none => rfl
    | some y =>
      exfalso
      rcases hdom b y e with e1 | ⟨e1, e2, -⟩
      · rw [h.no j hj hjL b hb1 hb2] at e1; cases e1
      · rcases Nat.lt_or_gt_of_ne ej with hlt' | hgt
        · have := hS.nx_le (i := j + 1) (j := i) (by omega) (by omega); omega
        · have := hS.nx_le (i := i + 1) (j := j) (by omega) (by omega); omega
  · by_cases ej : j = i
    · subst ej
      rw [mrkV_at]; exact hv
    · rw [mrkL_ne L ej] at hjL
      rw [mrkV_ne vals x ej]
      exact (h.val j hj hjL).mono (hcut _)
  · rcases hG b u c g with g | ⟨g1, g2, g3⟩
    · obtain ⟨k, κ, z, e1, e2, e3⟩ := h.obj b u c g
      exact ⟨k, κ, z, hle _ _ e1, (hb k (Array.getElem?_eq_some_iff.1 e2).1).trans e2, e3.mono (hcut _)⟩
    · obtain ⟨k, κ, y, e1, -, e2, e3⟩ := hn u g1
      subst g2 g3
      exact ⟨k, κ, y, e1, e2, e3⟩
  · have hnew : ∀ u b c y, (S (i + 1)).info.blk = some u ∧ b = (S i).nx ∧ c = (S (i + 1)).nx → l2 b = some y → w1.heap.size ≤ y.1 := by
      rintro u b c y ⟨g1, rfl, -⟩ ey
      obtain ⟨k, κ, z, f1, f2, -⟩ := hn u g1
      rw [ey] at f1
      cases f1; exact f2
    rcases hG b u c g with g | g
    · rcases hG b' u' c' g' with g' | g'
      · exact h.inj b b' u u' c c' y y' g g' (hlt _ _ _ _ g e).2 (hlt _ _ _ _ g' e').2 hx
      · have a1 := (hlt _ _ _ _ g e).1
        have a2 := hnew _ _ _ _ g' e'
        omega
    · rcases hG b' u' c' g' with g' | g'
      · have a1 := (hlt _ _ _ _ g' e').1
        have a2 := hnew _ _ _ _ g e
        omega
      · rw [g.2.1, g'.2.1]
  · rw [hb k (by have := h.size; omega)]
    exact h.block k hk hne
  · rcases hdom b y hb2 with e | ⟨e1, -, e3⟩
    · exact h.fresh b y e
    · refine .inr ⟨?_, .inl (by have := h.size; omega)⟩
      have := hS.nx_le (i := 0) (j := i) (by omega) (by omega); omega
end Go.Proofs.YtkbmmoobcikbaaaGreatDoor.Ev
namespace Go.Proofs.YtkbmmoobcikbaaaGreatDoor.Ev
open Go Go.RowKit

variable {P : Program} {T : Tb} {l : Env} {H : Hp} {w : World} {N : Nat} {call : CallF} {ops : Array Oper} {dm : Tr Nat} {S : Nat → PS}

theorem Run.blk (h : Run T call N ops dm S) {j : Nat} (hj : j < ops.size) {o : AObj} (hb : (S (j + 1)).info.blk = some o) : (S (j + 1)).nx = (S j).nx + 1 ∧ (S (j + 1)).info.cl ≠ .W := by
  obtain ⟨s', v', h3, h4, -, -, h6, -⟩ := h.did hj
  rw [h6] at hb ⊢
  rw [h4]
  cases h3 <;> first | (cases hb; done) | exact ⟨rfl, fun e => by cases e⟩
theorem Wt.le {n p q j : Nat} {o : AObj} (h : Wt S n q j o) (hpq : p ≤ q) : Wt S n p j o := ⟨h.1, h.2.1, fun i hi => h.2.2 i (by omega)⟩
/-- The place that the chain has come to, ahead of a writer. -/
theorem JF.place {l0 : Env} {H0 : Hp} {w0 : World} {p : Nat} {L : Nat → Bool} {vals : Nat → Value} {w1 : World} (hS : Run T call N ops dm S) (h : JF T ops S l0 H0 w0 l p L vals w1) {i : Nat} (hi : i < ops.size) (hL : L i = false) (hc : (S (i + 1)).info.cl = .W)
    (hA : ∀ j, bit (S (i + 1)).info.mask j = true → L j = true) : p ≤ i ∧ (∀ j, p ≤ j → j < i → (S (j + 1)).info.cl ≠ .W) ∧ (S i).Hc = (S p).Hc := by
  have h1 : p ≤ i := by
    rcases Nat.lt_or_ge i p with e | e
    · have := (h.chain i hi hc).2 e; rw [hL] at this; cases this
    · exact e
  have h2 : ∀ j, p ≤ j → j < i → (S (j + 1)).info.cl ≠ .W := fun j hp hj hw => by
    have := (h.chain j (by omega) hw).1 (hA j (hS.chain hi hj hc hw))
    omega
  exact ⟨h1, h2, hS.same_to h1 (by omega) h2⟩
/-- What a writer sees. -/
theorem JF.seen {l0 : Env} {H0 : Hp} {w0 : World} {p : Nat} {L : Nat → Bool} {vals : Nat → Value} {w1 : World} (hS : Run T call N ops dm S) (h0 : (S 0).ms = .e) (hp0 : (S 0).pend = []) (h : JF T ops S l0 H0 w0 l p L vals w1) {i : Nat} (hi : i < ops.size) (hpi : p ≤ i) (hHc : (S i).Hc = (S p).Hc)
    (hA : ∀ j, bit (S (i + 1)).info.mask j = true → L j = true) {b : Nat} {o : AObj} (hb : (putP (S (i + 1)).info.mask (S i).pend (S i).Hc).get b = some o) :
    b < (S i).nx ∧ ∃ c, c ≤ (S i).nx ∧ Gq S ops.size p L b o c ∧ ((S p).Hc.get b = some o ∨ ∃ j, bit (S (i + 1)).info.mask j = true ∧ Wt S ops.size p j o ∧ b = (S j).nx ∧ j < i) := by
  rcases putP_get hb with ⟨j, h1, h2⟩ | h1
  · obtain ⟨g1, g2, g3⟩ := (hS.pend h0 hp0 i (by omega) j b o).1 h1
    have g4 := hS.blk g2.1 g2.2.1
    have g5 := hS.nx_le (i := j + 1) (j := i) (by omega) (by omega)
    exact ⟨by omega, _, g5, .inr ⟨j, hA j h2, g2.le hpi, g3, rfl⟩, .inr ⟨j, h2, g2.le hpi, g3, g1⟩⟩
  · rw [hHc] at h1
    have g5 := hS.nx_le (i := p) (j := i) hpi (by omega)
    exact ⟨Nat.lt_of_lt_of_le (h.bnd b o h1) g5, _, g5, .inl ⟨h1, rfl⟩, .inl h1⟩
theorem JF.input {l0 : Env} {H0 : Hp} {w0 : World} {p : Nat} {L : Nat → Bool} {vals : Nat → Value} {w1 : World} (hS : Run T call N ops dm S) (h0 : (S 0).ms = .e) (hp0 : (S 0).pend = []) (hr0 : HR T.sz l0 H0 w0) (hx0 : H0.nx = (S 0).nx) (h : JF T ops S l0 H0 w0 l p L vals w1) {i : Nat} (hi : i < ops.size) (hpi : p ≤ i) (hHc : (S i).Hc = (S p).Hc)
    (hA : ∀ j, bit (S (i + 1)).info.mask j = true → L j = true) : HR T.sz (l.cut (S i).nx) ⟨putP (S (i + 1)).info.mask (S i).pend (S i).Hc, (S i).nx⟩ w1 := by
  refine ⟨fun b o e => ?_, fun b b' o o' x x' e e' g g' hx => ?_, fun b x e => (Env.cut_of e).1, fun g hg => ?_⟩
  · obtain ⟨f1, c, f2, f3, -⟩ := h.seen hS h0 hp0 hi hpi hHc hA e
    obtain ⟨k, κ, x, g1, g2, g3⟩ := h.obj b o c f3
    exact ⟨k, κ, x, by rw [Env.cut_at f1]; exact g1, g2, g3.mono (Env.cut_mono l f2)⟩
  · obtain ⟨-, c, -, f3, -⟩ := h.seen hS h0 hp0 hi hpi hHc hA e
    obtain ⟨-, c', -, f3', -⟩ := h.seen hS h0 hp0 hi hpi hHc hA e'
    exact h.inj b b' o o' c c' x x' f3 f3' (Env.cut_of g).2 (Env.cut_of g').2 hx
  · have := hr0.glob g hg
    have h2 := hr0.dom g _ this
    have h3 := hS.nx_le (i := 0) (j := i) (by omega) (by omega)
    rw [Env.cut_at (by omega)]
    exact h.le _ _ this
/-- The environment behind a step. -/
noncomputable def Env.join (l l' : Env) (a b : Nat) : Env := fun x => if a ≤ x ∧ x < b then l' x else l x
theorem JF.write (hS : Run T call N ops dm S) (h0 : (S 0).ms = .e) (hp0 : (S 0).pend = []) {l0 : Env} {H0 : Hp} {w0 : World} {p : Nat} {L : Nat → Bool} {vals : Nat → Value} {w1 w2 : World} (hr0 : HR T.sz l0 H0 w0) (hx0 : H0.nx = (S 0).nx) (h : JF T ops S l0 H0 w0 l p L vals w1)
    {i : Nat} {o : Oper} (ho : ops[i]? = some o) (hL : L i = false) (hE : ∀ e ∈ o.after.toList, Region.binds .any e = true → L e.on = true) (hc : (S (i + 1)).info.cl = .W)
    {l' : Env} {H' : Hp} {x : Value} (hn : H'.nx = (S (i + 1)).nx) (ht : H'.t = (S (i + 1)).Hc) (hv : VR l' (S (i + 1)).info.v x) (hk : Kp T.sz T.lo (l.cut (S i).nx) ⟨putP (S (i + 1)).info.mask (S i).pend (S i).Hc, (S i).nx⟩ w1 l' H' w2) :
    JF T ops S l0 H0 w0 (l.join l' (S i).nx (S (i + 1)).nx) (i + 1) (mrkL L i) (mrkV vals i x) w2 := by
  have hi := (Array.getElem?_eq_some_iff.1 ho).1
  have hA := hS.listed h0 h.ideal i o ho hE
  obtain ⟨hpi, hno, hHc⟩ := h.place hS hi hL hc hA
  have hni := hS.nx hi
  have hle : l.le (l.join l' (S i).nx (S (i + 1)).nx) := fun b y e => by
    unfold Env.join
    split
    · rename_i hb
      rw [h.no i hi hL b hb.1 hb.2] at e; cases e
    · exact e
  have hnew : l'.le ((l.join l' (S i).nx (S (i + 1)).nx).cut (S (i + 1)).nx) := fun b y e => by
    have hb : b < (S (i + 1)).nx := by rw [← hn]; exact hk.hr.dom b y e
    rw [Env.cut_at hb]
    unfold Env.join
    split
    · exact e
    · rename_i hb2
      rcases hk.fresh b y e with g | ⟨g, -⟩
      · exact (Env.cut_of g).2
      · exact absurd ⟨g, hb⟩ hb2
  have hcut : ∀ n, (l.cut n).le ((l.join l' (S i).nx (S (i + 1)).nx).cut n) := fun n b y hb2 => by
    obtain ⟨e1, e2⟩ := Env.cut_of hb2
    rw [Env.cut_at e1]; exact hle _ _ e2
  have hget : ∀ b u, (S (i + 1)).Hc.get b = some u ↔ H'.get b = some u := fun b u => by rw [← ht]; rfl
  -- a waiting block is not seen
  have hun : ∀ j u, Wt S ops.size (i + 1) j u → ∀ u', (putP (S (i + 1)).info.mask (S i).pend (S i).Hc).get (S j).nx ≠ some u' := by
    intro j u hw u' e
    obtain ⟨-, c, -, -, f | ⟨j', f1, f2, f3, f4⟩⟩ := h.seen hS h0 hp0 hi hpi hHc hA e
    · rw [h.free j u (hw.le (by omega))] at f; cases f
    · have hjj : j = j' := by
        have b1 := hS.blk hw.1 hw.2.1
        have b2 := hS.blk f2.1 f2.2.1
        have := f2.1
        have := hw.1
        rcases Nat.lt_trichotomy j j' with e | e | e
        · have := hS.nx_le (i := j + 1) (j := j') (by omega) (by omega); omega
        · exact e
        · have := hS.nx_le (i := j' + 1) (j := j) (by omega) (by omega); omega
      subst hjj
      rw [hw.2.2 i (by omega) hc] at f1; cases f1
  have hji : ∀ j u, Wt S ops.size (i + 1) j u → j ≠ i := by
    rintro j u hw rfl
    exact (hS.blk hw.1 hw.2.1).2 hc
  have hL' : ∀ j, j ≠ i → mrkL L i j = L j := fun j hj => mrkL_ne L hj
  have hGr : ∀ b u c, Gq S ops.size (i + 1) (mrkL L i) b u c → ((S (i + 1)).Hc.get b = some u ∧ c = (S (i + 1)).nx) ∨ (Gq S ops.size p L b u c ∧ ∃ j, Wt S ops.size (i + 1) j u ∧ b = (S j).nx) := by
    rintro b u c (g | ⟨j, g1, g2, g3, g4⟩)
    · exact .inl g
    · rw [hL' j (hji j u g2)] at g1
      exact .inr ⟨.inr ⟨j, g1, g2.le (by omega), g3, g4⟩, j, g2, g3⟩
  have seen : ∀ b u, (putP (S (i + 1)).info.mask (S i).pend (S i).Hc).get b = some u → b < (S i).nx ∧ ∃ c, Gq S ops.size p L b u c := fun b u e => by
    obtain ⟨f1, c, -, f3, -⟩ := h.seen hS h0 hp0 hi hpi hHc hA e
    exact ⟨f1, c, f3⟩
  -- a waiting block lies apart from all that a writer sees
  have apart : ∀ b u c k κ, Gq S ops.size p L b u c → (∃ j, Wt S ops.size (i + 1) j u ∧ b = (S j).nx) → l b = some (k, κ) → ∀ b' y u', (putP (S (i + 1)).info.mask (S i).pend (S i).Hc).get b' = some u' → l b' = some y → y.1 ≠ k := by
    rintro b u c k κ hg ⟨j, hw, rfl⟩ hl b' y u' e hy hyk
    obtain ⟨-, c', hg'⟩ := seen b' u' e
    have := h.inj b' _ u' u c' c y (k, κ) hg' hg hy hl hyk
    subst this
    exact hun j u hw u' e
  have hkeep : ∀ b u c k κ, Gq S ops.size p L b u c → (∃ j, Wt S ops.size (i + 1) j u ∧ b = (S j).nx) → l b = some (k, κ) → k < w1.heap.size → w2.heap[k]? = w1.heap[k]? := by
    intro b u c k κ hg hj hl hlt
    refine hk.block k hlt fun b' y _ hy hs => ?_
    obtain ⟨u', e⟩ := Option.isSome_iff_exists.1 hs
    exact apart b u c k κ hg hj hl b' y u' e (Env.cut_of hy).2
  have lr : ∀ b u b' u' c' y y', H'.get b = some u → l' b = some y → Gq S ops.size p L b' u' c' → (∃ j, Wt S ops.size (i + 1) j u' ∧ b' = (S j).nx) → l b' = some y' → y.1 = y'.1 → b = b' := by
    intro b u b' u' c' y y' e hy hg hj hy' hx
    obtain ⟨k, κ, z, g1, g2, -⟩ := h.obj b' u' c' hg
    rw [hy'] at g1
    cases g1
    have hlt := (Array.getElem?_eq_some_iff.1 g2).1
    rcases hk.fresh b y hy with f | ⟨-, f | ⟨b0, -, f1, f2⟩⟩
    · exfalso
      obtain ⟨hb1, hb2⟩ := Env.cut_of f
      obtain ⟨u2, e2⟩ := Option.isSome_iff_exists.1 (hk.old b hb1 (by rw [e]; rfl))
      exact apart b' u' c' _ _ hg hj hy' b y u2 e2 hb2 hx
    · simp only at hx; omega
    · exfalso
      obtain ⟨u2, e2⟩ := Option.isSome_iff_exists.1 f1
      cases e3 : (l.cut (S i).nx) b0 with
      | none => rw [e3] at f2; cases f2
      | some y0 =>
        rw [e3] at f2
        have hy0 : y0.1 = y.1 := by simpa using f2
        exact apart b' u' c' _ _ hg hj hy' b0 y0 u2 e2 (Env.cut_of e3).2 (by rw [hy0]; exact hx)
  have hl2 : ∀ b u y, H'.get b = some u → (l.join l' (S i).nx (S (i + 1)).nx) b = some y → l' b = some y := by
    intro b u y e hy
    obtain ⟨k, κ, z, g1, -⟩ := hk.hr.obj b u e
    have := (Env.cut_of (hnew _ _ g1)).2
    rw [hy] at this
    cases this; exact g1
  have hwl : ∀ b u c y, Gq S ops.size p L b u c → (l.join l' (S i).nx (S (i + 1)).nx) b = some y → l b = some y := by
    intro b u c y hg hy
    obtain ⟨k, κ, z, g1, -⟩ := h.obj b u c hg
    have := hle _ _ g1
    rw [hy] at this
    cases this; exact g1
  refine ⟨by omega, fun j oj hoj hj e he hbe => ?_, fun j hj hw => ?_, h.le.trans hle, fun b y hb2 => ?_, fun j hj hjL b hb1 hb2 => ?_, fun j hj hjL => ?_, fun b u c g => ?_, fun b b' u u' c c' y y' g g' e e' hx => ?_, fun b u e => ?_, fun j u hw => ?_, fun b hb hs => ?_,
    hk.os.trans h.os, hk.tape.trans h.tape, hk.output.trans h.output, Nat.le_trans h.size hk.size, fun k hk0 hne => ?_, fun b y hb2 => ?_⟩
  · by_cases ej : j = i
    · subst ej
      rw [ho] at hoj
      cases hoj
      by_cases ee : e.on = j
      · rw [ee]; exact mrkL_at L j
      · rw [mrkL_ne L ee]; exact hE e he hbe
    · rw [mrkL_ne L ej] at hj
      have := h.ideal j oj hoj hj e he hbe
      by_cases ee : e.on = i
      · rw [ee]; exact mrkL_at L i
      · rw [mrkL_ne L ee]; exact this
  · by_cases ej : j = i
    · subst ej
      rw [mrkL_at]
      exact ⟨fun _ => by omega, fun _ => rfl⟩
    · rw [mrkL_ne L ej, h.chain j hj hw]
      constructor
      · intro hh; omega
      · intro hh
        rcases Nat.lt_or_ge j p with e | e
        · exact e
        · exact absurd hw (hno j e (by omega))
  · unfold Env.join at hb2
    split at hb2
    · rename_i hb3
      exact Nat.lt_of_lt_of_le hb3.2 (hS.nx_le (by omega) (Nat.le_refl _))
    · exact h.dom b y hb2
  · have ej : j ≠ i := by rintro rfl; rw [mrkL_at] at hjL; cases hjL
    rw [mrkL_ne L ej] at hjL
    unfold Env.join
    rw [if_neg (by
      rintro ⟨e1, e2⟩
      rcases Nat.lt_or_gt_of_ne ej with hlt' | hgt
      · have := hS.nx_le (i := j + 1) (j := i) (by omega) (by omega); omega
      · have := hS.nx_le (i := i + 1) (j := j) (by omega) (by omega); omega)]
    exact h.no j hj hjL b hb1 hb2
  · by_cases ej : j = i
    · subst ej
      rw [mrkV_at]; exact hv.mono hnew
    · rw [mrkL_ne L ej] at hjL
      rw [mrkV_ne vals x ej]
      exact (h.val j hj hjL).mono (hcut _)
  · rcases hGr b u c g with ⟨g1, rfl⟩ | ⟨g1, g2⟩
    · obtain ⟨k, κ, z, e1, e2, e3⟩ := hk.hr.obj b u ((hget b u).1 g1)
      exact ⟨k, κ, z, (Env.cut_of (hnew _ _ e1)).2, e2, e3.mono hnew⟩
    · obtain ⟨k, κ, z, e1, e2, e3⟩ := h.obj b u c g1
      exact ⟨k, κ, z, hle _ _ e1, (hkeep b u c k κ g1 g2 e1 (Array.getElem?_eq_some_iff.1 e2).1).trans e2, e3.mono (hcut _)⟩
  · rcases hGr b u c g with ⟨g1, rfl⟩ | ⟨g1, g2⟩
    · have a1 := (hget b u).1 g1
      have a2 := hl2 b u y a1 e
      rcases hGr b' u' c' g' with ⟨k1, rfl⟩ | ⟨k1, k2⟩
      · have b1 := (hget b' u').1 k1
        exact hk.hr.inj b b' u u' y y' a1 b1 a2 (hl2 b' u' y' b1 e') hx
      · exact lr b u b' u' c' y y' a1 a2 k1 k2 (hwl _ _ _ _ k1 e') hx
    · rcases hGr b' u' c' g' with ⟨k1, rfl⟩ | ⟨k1, k2⟩
      · have b1 := (hget b' u').1 k1
        exact (lr b' u' b u c y' y b1 (hl2 b' u' y' b1 e') g1 g2 (hwl _ _ _ _ g1 e) hx.symm).symm
      · exact h.inj b b' u u' c c' y y' g1 k1 (hwl _ _ _ _ g1 e) (hwl _ _ _ _ k1 e') hx
  · obtain ⟨k, κ, z, e1, -⟩ := hk.hr.obj b u ((hget b u).1 e)
    rw [← hn]; exact hk.hr.dom b _ e1
  · cases e : (S (i + 1)).Hc.get (S j).nx with
    | none => rfl
    | some u' =>
      exfalso
      have e1 := (hget _ _).1 e
      have hj := hji j u hw
      have b1 := hS.blk hw.1 hw.2.1
      have hjn := hw.1
      obtain ⟨k, κ, z, e2, -⟩ := hk.hr.obj _ _ e1
      have e3 := hk.hr.dom _ _ e2
      rw [hn] at e3
      rcases Nat.lt_or_ge (S j).nx (S i).nx with f | f
      · obtain ⟨u2, e4⟩ := Option.isSome_iff_exists.1 (hk.old _ f (by rw [e1]; rfl))
        exact hun j u hw u2 e4
      · rcases Nat.lt_or_gt_of_ne hj with g | g
        · have := hS.nx_le (i := j + 1) (j := i) (by omega) (by omega); omega
        · have := hS.nx_le (i := i + 1) (j := j) (by omega) (by omega); omega
  · obtain ⟨u, e⟩ := Option.isSome_iff_exists.1 hs
    have hlt : b < (S i).nx := by have := hS.nx_le (i := 0) (j := i) (by omega) (by omega); omega
    obtain ⟨u2, e4⟩ := Option.isSome_iff_exists.1 (hk.old b hlt (by rw [(hget b u).1 e]; rfl))
    obtain ⟨-, c, -, -, f | ⟨j', f1, f2, f3, f4⟩⟩ := h.seen hS h0 hp0 hi hpi hHc hA e4
    · exact h.old b hb (by rw [f]; rfl)
    · exfalso
      have := hS.nx_le (i := 0) (j := j') (by omega) (by omega); omega
  · rw [hk.block k (by have := h.size; omega) fun b' y hlo hy hs => ?_]
    · exact h.block k hk0 hne
    · obtain ⟨u', e⟩ := Option.isSome_iff_exists.1 hs
      obtain ⟨hy1, hy2⟩ := Env.cut_of hy
      rcases h.fresh b' y hy2 with f | ⟨-, f | ⟨b0, f0, f1, f2⟩⟩
      · obtain ⟨-, c, -, -, g | ⟨j', g1, g2, g3, g4⟩⟩ := h.seen hS h0 hp0 hi hpi hHc hA e
        · exact hne b' y hlo f (h.old b' (hr0.dom _ _ f) (by rw [g]; rfl))
        · exfalso
          have := hr0.dom _ _ f
          have := hS.nx_le (i := 0) (j := j') (by omega) (by omega); omega
      · omega
      · cases e3 : l0 b0 with
        | none => rw [e3] at f2; cases f2
        | some y0 =>
          rw [e3] at f2
          have hy0 : y0.1 = y.1 := by simpa using f2
          rw [← hy0]; exact hne b0 y0 f0 e3 f1
  · unfold Env.join at hb2
    split at hb2
    · rename_i hb3
      have hge : H0.nx ≤ b := by have := hS.nx_le (i := 0) (j := i) (by omega) (by omega); omega
      rcases hk.fresh b y hb2 with f | ⟨-, f | ⟨b0, f0, f1, f2⟩⟩
      · have := (Env.cut_of f).1; omega
      · exact .inr ⟨hge, .inl (by have := h.size; omega)⟩
      · cases e3 : (l.cut (S i).nx) b0 with
        | none => rw [e3] at f2; cases f2
        | some y0 =>
          rw [e3] at f2
          have hy0 : y0.1 = y.1 := by simpa using f2
          obtain ⟨u2, e2⟩ := Option.isSome_iff_exists.1 f1
          obtain ⟨hz1, hz2⟩ := Env.cut_of e3
          rcases h.fresh b0 y0 hz2 with g | ⟨-, g | ⟨b1, g0, g1, g2⟩⟩
          · obtain ⟨-, c, -, -, q | ⟨j', q1, q2, q3, q4⟩⟩ := h.seen hS h0 hp0 hi hpi hHc hA e2
            · exact .inr ⟨hge, .inr ⟨b0, f0, h.old b0 (hr0.dom _ _ g) (by rw [q]; rfl), by rw [g]; simpa using hy0⟩⟩
            · exfalso
              have := hr0.dom _ _ g
              have := hS.nx_le (i := 0) (j := j') (by omega) (by omega); omega
          · exact .inr ⟨hge, .inl (by omega)⟩
          · exact .inr ⟨hge, .inr ⟨b1, g0, g1, by rw [g2, hy0]⟩⟩
    · exact h.fresh b y hb2
end Go.Proofs.YtkbmmoobcikbaaaGreatDoor.Ev
namespace Go.Proofs.YtkbmmoobcikbaaaGreatDoor.Ev
open Go Go.RowKit

variable {P : Program} {T : Tb} {l : Env} {H : Hp} {w : World} {N : Nat} {call : CallF} {ops : Array Oper} {dm : Tr Nat} {S : Nat → PS}

theorem besideAll_ok {i : Nat} {op : Op} {r : OI} : ∀ {L : List PS} {j : Nat}, besideAll T i op r j L = true → ∀ k a b, L[k]? = some a → L[k + 1]? = some b → isW b.info.cl = true → besideV T i op r (j + k) a b = true
  | [], _, _, _, _, _, e, _, _ => by cases e
  | [_], _, _, 0, _, _, _, e, _ => by cases e
  | [_], _, _, k + 1, _, _, e, _, _ => by simp at e
  | s :: s' :: rest, j, h, k, a, b, e1, e2, e3 => by
    unfold besideAll at h
    cases k with
    | zero =>
      cases e1
      have : s' = b := by simpa using e2
      subst this
      rw [e3] at h
      simp only at h
      split at h
      · assumption
      · cases h
    | succ k =>
      have key : besideAll T i op r (j + 1) (s' :: rest) = true := by
        split at h
        · split at h
          · exact h
          · cases h
        · exact h
      have := besideAll_ok key k a b (by simpa using e1) (by simpa using e2) e3
      rw [show j + (k + 1) = j + 1 + k from by omega]; exact this
theorem concD_ok {all : List PS} : ∀ {os : List Oper} {L : List PS} {i : Nat}, concD T all i os L = true → ∀ k o a b, os[k]? = some o → L[k]? = some a → L[k + 1]? = some b → isR b.info.cl = true → besideAll T (i + k) o.op b.info 0 all = true
  | [], _, _, _, k, _, _, _, e, _, _, _ => by cases e
  | _ :: _, [], _, _, _, _, _, _, _, e, _, _ => by cases e
  | _ :: _, [_], _, _, k, _, _, _, _, _, e, _ => by simp at e
  | o0 :: os, s :: s' :: rest, i, h, k, o, a, b, e0, e1, e2, e3 => by
    unfold concD at h
    cases k with
    | zero =>
      cases e0
      have : s' = b := by simpa using e2
      subst this
      rw [e3] at h
      simp only at h
      split at h
      · assumption
      · cases h
    | succ k =>
      have key : concD T all (i + 1) os (s' :: rest) = true := by
        split at h
        · split at h
          · exact h
          · cases h
        · exact h
      have := concD_ok key k o a b (by simpa using e0) (by simpa using e1) (by simpa using e2) e3
      rw [show i + (k + 1) = i + 1 + k from by omega]; exact this
theorem besideV_ok {i j : Nat} {op : Op} {r : OI} {a b : PS} (h : besideV T i op r j a b = true) (h1 : bit r.mask j = false) (h2 : bit b.info.mask i = false) : ropV T r.fo a.Hc op = some r.v ∧ ropV T r.fo b.Hc op = some r.v := by
  unfold besideV at h
  rw [h1, h2] at h
  simp only at h
  split at h
  · rename_i x y hx hy
    simp only [Bool.and_eq_true] at h
    rw [eqA_ok h.1] at hx
    rw [eqA_ok h.2] at hy
    exact ⟨hx, hy⟩
  · cases h
theorem ropV_ok (hT : TbOk P T) {fo : Tr AV} {t : Tr AObj} {n : Nat} (hr : HR T.sz l ⟨t, n⟩ w) {ρ : Operand → Value} (hρ : ∀ x, Ev l fo ρ x) {o : Oper} {v : AV} (e : ropV T fo t o.op = some v) : ∃ x, (execOp ρ o).run P w = .ok (.value x) w ∧ VR l v x := by
  unfold execOp
  generalize o.op = op at e
  unfold ropV at e
  split at e
  · rename_i ty a
    split at e
    · rename_i b off ha
      have ha := hρ _ _ ha
      obtain ⟨k, κ, x, h1, h2, h3⟩ := loadV_ok (P := P) hT hr (show loadV T ⟨t, n⟩ ty b off = some v from e)
      generalize hav : ρ a = av at ha
      cases ha with | ptr _ hl => ?_
      rw [hl] at h1
      cases h1
      simp only [hav]
      exact ⟨x, by simp [Instr.loadAt, Instr.sureAddr, h2], h3⟩
    · cases e
  · rename_i ty a k ok
    split at e
    · rename_i av kv ha hk
      obtain ⟨x, h1, h2⟩ := lookupV_ok (P := P) hT hr (show lookupV T ⟨t, n⟩ ty av kv ok = some v from e) (hρ _ _ ha) (hρ _ _ hk)
      exact ⟨x, by rw [Sem.run_bind, h1]; rfl, h2⟩
    · cases e
  · rename_i ty d a
    split at e
    · rename_i av ha
      have ha := hρ _ _ ha
      split at e
      · rename_i hc
        cases e
        obtain ⟨x, h1, h2⟩ := convV_ok (P := P) (w := w) hT hc ha
        exact ⟨x, by rw [Sem.run_bind, h1]; rfl, h2⟩
      · obtain ⟨x, h1, h2⟩ := stringR_ok (P := P) hT hr (show stringR T ⟨t, n⟩ ty d av = some v from e) ha
        exact ⟨x, by rw [Sem.run_bind, h1]; rfl, h2⟩
    · cases e
  · cases e
theorem putAll_get : ∀ {ps : List (Nat × Nat × AObj)} {t : Tr AObj} {b : Nat} {o : AObj}, (putAll ps t).get b = some o → (∃ j, (j, b, o) ∈ ps) ∨ t.get b = some o
  | [], _, _, _, h => .inr h
  | (j, b0, o0) :: r, t, b, o, h => by
    unfold putAll at h
    rcases putAll_get h with ⟨j', h1⟩ | h1
    · exact .inl ⟨j', by simp [h1]⟩
    · rcases Tr.set_get _ _ _ _ _ _ h1 with ⟨rfl, e⟩ | ⟨-, e⟩
      · cases e; exact .inl ⟨j, by simp⟩
      · exact .inr e

/-! the act behind the region -/
theorem fillAll_size {a : Act} {dst : Nat → Tmp} {v : Nat → Value} : ∀ n, (fillAll a dst v n).tmps.size = a.tmps.size ∧ (fillAll a dst v n).defers = a.defers
  | 0 => ⟨rfl, rfl⟩
  | n + 1 => by
    obtain ⟨h1, h2⟩ := fillAll_size (a := a) (dst := dst) (v := v) n
    exact ⟨by simp [fillAll, Act.put, h1], by simp [fillAll, Act.put, h2]⟩
theorem fillAll_other {a : Act} {dst : Nat → Tmp} {v : Nat → Value} {t : Nat} : ∀ n, (∀ j, j < n → dst j ≠ t) → (fillAll a dst v n).tmps[t]? = a.tmps[t]?
  | 0, _ => rfl
  | n + 1, h => by
    have ih := fillAll_other (a := a) (v := v) n fun j hj => h j (by omega)
    simp only [fillAll, Act.put]
    rw [Array.getElem?_setIfInBounds_ne (h n (by omega))]; exact ih
theorem fillAll_at {a : Act} {dst : Nat → Tmp} {v : Nat → Value} {i : Nat} (hs : dst i < a.tmps.size) : ∀ n, (∀ j k, j < n → k < n → dst j = dst k → j = k) → i < n → (fillAll a dst v n).tmps[dst i]? = some (v i)
  | 0, _, h => by omega
  | n + 1, hd, h => by
    simp only [fillAll, Act.put]
    by_cases e : i = n
    · subst e
      have := (fillAll_size (a := a) (dst := dst) (v := v) i).1
      simp [this, hs]
    · rw [Array.getElem?_setIfInBounds_ne (fun e2 => e (hd n i (by omega) h e2).symm)]
      exact fillAll_at hs n (fun j k hj hk => hd j k (by omega) (by omega)) (by omega)
end Go.Proofs.YtkbmmoobcikbaaaGreatDoor.Ev
namespace Go.Proofs.YtkbmmoobcikbaaaGreatDoor.Ev
open Go Go.RowKit

variable {P : Program} {T : Tb} {l : Env} {H : Hp} {w : World} {N : Nat} {call : CallF} {ops : Array Oper} {dm : Tr Nat} {S : Nat → PS}

section
variable (hS : Run T call N ops dm S) (h0 : (S 0).ms = .e) (hp0 : (S 0).pend = []) {l0 : Env} {H0 : Hp} {w0 : World} (hr0 : HR T.sz l0 H0 w0) (hx0 : H0.nx = (S 0).nx) (ht0 : H0.t = (S 0).Hc)
  {p : Nat} {L : Nat → Bool} {vals : Nat → Value} {w1 : World}
include hr0
theorem JF.hrn (h : JF T ops S l0 H0 w0 l p L vals w1) : HR T.sz l ⟨(S p).Hc, (S ops.size).nx⟩ w1 :=
  ⟨fun b o e => let ⟨k, κ, x, g1, g2, g3⟩ := h.obj b o _ (.inl ⟨e, rfl⟩); ⟨k, κ, x, g1, g2, g3.mono (Env.cut_le _ _)⟩,
    fun b b' o o' x x' e e' => h.inj b b' o o' _ _ x x' (.inl ⟨e, rfl⟩) (.inl ⟨e', rfl⟩), h.dom, fun g hg => h.le _ _ (hr0.glob g hg)⟩
include hS hx0 ht0
theorem JF.start {w1 : World} (hx : Ext w0 w1) (hh : w1.heap = w0.heap) : JF T ops S l0 H0 w0 l0 0 (fun _ => false) (fun _ => undef) w1 := by
  have hG : ∀ b o c, Gq S ops.size 0 (fun _ => false) b o c → H0.get b = some o ∧ c = H0.nx := by
    rintro b o c (⟨g1, g2⟩ | ⟨j, g1, -⟩)
    · exact ⟨by rw [← g1, ← ht0]; rfl, by rw [g2, hx0]⟩
    · cases g1
  refine ⟨Nat.zero_le _, (fun _ _ _ e => by cases e), fun j _ _ => ⟨(fun e => by cases e), fun e => by omega⟩, .refl _, fun b x e => ?_, fun i hi _ b hb _ => ?_, fun _ _ e => (by cases e), fun b o c g => ?_, fun b b' o o' c c' x x' g g' => ?_, fun b o e => ?_, fun j u hw => ?_, fun b hb hs => ?_,
    hx.os, hx.tape, hx.output, (by rw [hh]; exact Nat.le_refl _), (fun k _ _ => by rw [hh]), fun b x e => .inl e⟩
  · have := hr0.dom b x e
    have := hS.nx_le (i := 0) (j := ops.size) (by omega) (Nat.le_refl _); omega
  · cases e : l0 b with
    | none => rfl
    | some x =>
      have := hr0.dom b x e
      have := hS.nx_le (i := 0) (j := i) (by omega) (by omega); omega
  · obtain ⟨g1, rfl⟩ := hG b o c g
    obtain ⟨k, κ, x, e1, e2, e3⟩ := hr0.obj b o g1
    refine ⟨k, κ, x, e1, by rw [hh]; exact e2, e3.mono fun b y e => ?_⟩
    rw [Env.cut_at (hr0.dom b y e)]; exact e
  · exact hr0.inj b b' o o' x x' (hG b o c g).1 (hG b' o' c' g').1
  · have e' : H0.get b = some o := by rw [← e, ← ht0]; rfl
    obtain ⟨k, κ, x, e1, -⟩ := hr0.obj b o e'
    rw [← hx0]; exact hr0.dom b _ e1
  · cases e : (S 0).Hc.get (S j).nx with
    | none => rfl
    | some u' =>
      have e' : H0.get (S j).nx = some u' := by rw [← e, ← ht0]; rfl
      obtain ⟨k, κ, x, e1, -⟩ := hr0.obj _ _ e'
      have := hr0.dom _ _ e1
      have := hS.nx_le (i := 0) (j := j) (by omega) (by have := hw.1; omega); omega
  · rw [← ht0] at hs; exact hs
omit ht0
include h0 hp0
theorem JF.finish (h : JF T ops S l0 H0 w0 l p L vals w1) (hall : ∀ i, i < ops.size → L i = true) : Kp T.sz T.lo l0 H0 w0 l ⟨putAll (S ops.size).pend (S ops.size).Hc, (S ops.size).nx⟩ w1 := by
  have hHc : (S ops.size).Hc = (S p).Hc := hS.same_to h.hp (Nat.le_refl _) fun j hj1 hj2 hw => by
    have := (h.chain j hj2 hw).1 (hall j hj2); omega
  have hG : ∀ b o, (putAll (S ops.size).pend (S ops.size).Hc).get b = some o → ∃ c, Gq S ops.size p L b o c ∧ ((S p).Hc.get b = some o ∨ H0.nx ≤ b) := by
    intro b o e
    rcases putAll_get e with ⟨j, h1⟩ | h1
    · obtain ⟨g1, g2, g3⟩ := (hS.pend h0 hp0 ops.size (Nat.le_refl _) j b o).1 h1
      refine ⟨_, .inr ⟨j, hall j g1, g2.le h.hp, g3, rfl⟩, .inr ?_⟩
      have := hS.nx_le (i := 0) (j := j) (by omega) (by omega); omega
    · rw [hHc] at h1
      exact ⟨_, .inl ⟨h1, rfl⟩, .inl h1⟩
  refine ⟨h.le, ⟨fun b o e => ?_, fun b b' o o' x x' e e' => ?_, h.dom, fun g hg => h.le _ _ (hr0.glob g hg)⟩, ?_, fun b hb hs => ?_, h.os, h.tape, h.output, h.size, h.block, fun b x e => ?_⟩
  · obtain ⟨c, g, -⟩ := hG b o e
    obtain ⟨k, κ, x, g1, g2, g3⟩ := h.obj b o c g
    exact ⟨k, κ, x, g1, g2, g3.mono (Env.cut_le _ _)⟩
  · obtain ⟨c, g, -⟩ := hG b o e
    obtain ⟨c', g', -⟩ := hG b' o' e'
    exact h.inj b b' o o' c c' x x' g g'
  · show H0.nx ≤ (S ops.size).nx
    rw [hx0]; exact hS.nx_le (by omega) (Nat.le_refl _)
  · obtain ⟨o, e⟩ := Option.isSome_iff_exists.1 hs
    obtain ⟨c, -, g | g⟩ := hG b o e
    · exact h.old b hb (by rw [g]; rfl)
    · omega
  · rcases h.fresh b x e with g | ⟨g1, g2 | ⟨b0, g0, g2, g3⟩⟩
    · exact .inl g
    · exact .inr ⟨g1, .inl g2⟩
    · exact .inr ⟨g1, .inr ⟨b0, g0, g2, g3⟩⟩
end
/-- What a read beside writers reads. -/
noncomputable def Conc (T : Tb) (ops : Array Oper) (S : Nat → PS) : Prop := ∀ (i : Nat) (o : Oper) (j : Nat), ops[i]? = some o → j < ops.size → (S (i + 1)).info.cl = .R → (S (j + 1)).info.cl = .W → bit (S (i + 1)).info.mask j = false → bit (S (j + 1)).info.mask i = false →
  ropV T (S (i + 1)).info.fo (S j).Hc o.op = some (S (i + 1)).info.v ∧ ropV T (S (i + 1)).info.fo (S (j + 1)).Hc o.op = some (S (i + 1)).info.v
theorem conc_of {L : List PS} (hL : ∀ k, k ≤ ops.size → L[k]? = some (S k)) (h : concD T L 0 ops.toList L = true) : Conc T ops S := by
  intro i o j ho hj ci cj h1 h2
  have hi := (Array.getElem?_eq_some_iff.1 ho).1
  have a1 := concD_ok h i o _ _ (by simpa using ho) (hL i (by omega)) (hL (i + 1) (by omega)) (by rw [ci]; rfl)
  have a2 := besideAll_ok a1 j _ _ (hL j (by omega)) (hL (j + 1) (by omega)) (by rw [cj]; rfl)
  rw [Nat.zero_add, Nat.zero_add] at a2
  exact besideV_ok a2 h1 h2
/-- The last writer of a stretch. -/
theorem last_W (S : Nat → PS) (a : Nat) : ∀ b, a ≤ b → (∀ j, a ≤ j → j < b → (S (j + 1)).info.cl ≠ .W) ∨ ∃ j, a ≤ j ∧ j < b ∧ (S (j + 1)).info.cl = .W ∧ ∀ k, j < k → k < b → (S (k + 1)).info.cl ≠ .W := by
  intro b hb
  induction hb with
  | refl => exact .inl fun j h1 h2 => by omega
  | @step m hm ih =>
    by_cases hw : (S (m + 1)).info.cl = .W
    · exact .inr ⟨m, hm, by omega, hw, fun k h1 h2 => by omega⟩
    · rcases ih with ih | ⟨j, g1, g2, g3, g4⟩
      · refine .inl fun j h1 h2 => ?_
        by_cases e : j = m
        · rw [e]; exact hw
        · exact ih j h1 (by omega)
      · refine .inr ⟨j, g1, by omega, g3, fun k h1 h2 => ?_⟩
        by_cases e : k = m
        · rw [e]; exact hw
        · exact g4 k h1 (by omega)
/-- The first writer of a stretch. -/
theorem first_W (S : Nat → PS) (a : Nat) : ∀ b, a ≤ b → (∀ j, a ≤ j → j < b → (S (j + 1)).info.cl ≠ .W) ∨ ∃ j, a ≤ j ∧ j < b ∧ (S (j + 1)).info.cl = .W ∧ ∀ k, a ≤ k → k < j → (S (k + 1)).info.cl ≠ .W := by
  intro b hb
  induction hb with
  | refl => exact .inl fun j h1 h2 => by omega
  | @step m hm ih =>
    rcases ih with ih | ⟨j, g1, g2, g3, g4⟩
    · by_cases hw : (S (m + 1)).info.cl = .W
      · exact .inr ⟨m, hm, by omega, hw, ih⟩
      · refine .inl fun j h1 h2 => ?_
        by_cases e : j = m
        · rw [e]; exact hw
        · exact ih j h1 (by omega)
    · exact .inr ⟨j, g1, by omega, g3, g4⟩
theorem JF.reads (hS : Run T call N ops dm S) (h0 : (S 0).ms = .e) (hC : Conc T ops S) {l0 : Env} {H0 : Hp} {w0 : World} {p : Nat} {L : Nat → Bool} {vals : Nat → Value} {w1 : World} (h : JF T ops S l0 H0 w0 l p L vals w1)
    {i : Nat} {o : Oper} (ho : ops[i]? = some o) (hL : L i = false) (hE : ∀ e ∈ o.after.toList, Region.binds .any e = true → L e.on = true) (hc : (S (i + 1)).info.cl = .R) (hv : ropV T (S (i + 1)).info.fo (S i).Hc o.op = some (S (i + 1)).info.v) :
    ropV T (S (i + 1)).info.fo (S p).Hc o.op = some (S (i + 1)).info.v := by
  have hi := (Array.getElem?_eq_some_iff.1 ho).1
  have hA := hS.listed h0 h.ideal i o ho hE
  rcases Nat.lt_or_ge i p with hip | hpi
  · rcases last_W S i p (by omega) with hno | ⟨j, g1, g2, g3, g4⟩
    · rw [hS.same_to (by omega) h.hp hno]; exact hv
    · have hjn : j < ops.size := by have := h.hp; omega
      have hLj := (h.chain j hjn g3).2 g2
      have hji : i ≠ j := by rintro rfl; rw [hc] at g3; cases g3
      have b1 : bit (S (i + 1)).info.mask j = false := by
        rw [Bool.eq_false_iff]; intro hb
        have := hS.lt h0 i j hi hb; omega
      have b2 : bit (S (j + 1)).info.mask i = false := by
        rw [Bool.eq_false_iff]; intro hb
        have := hS.listed h0 h.ideal j _ (Array.getElem?_eq_getElem hjn) (h.ideal j _ (Array.getElem?_eq_getElem hjn) hLj) i hb
        rw [hL] at this; cases this
      have := (hC i o j ho hjn hc g3 b1 b2).2
      rw [hS.same_to (p := j + 1) (q := p) (by omega) h.hp fun k k1 k2 => g4 k (by omega) k2]
      exact this
  · rcases first_W S p i hpi with hno | ⟨j, g1, g2, g3, g4⟩
    · rw [← hS.same_to hpi (by omega) hno]; exact hv
    · have hjn : j < ops.size := by omega
      have b1 : bit (S (i + 1)).info.mask j = false := by
        rw [Bool.eq_false_iff]; intro hb
        have := (h.chain j hjn g3).1 (hA j hb); omega
      have b2 : bit (S (j + 1)).info.mask i = false := by
        rw [Bool.eq_false_iff]; intro hb
        have := hS.lt h0 j i hjn hb; omega
      have := (hC i o j ho hjn hc g3 b1 b2).1
      rw [← hS.same_to (p := p) (q := j) g1 (by omega) g4]
      exact this
end Go.Proofs.YtkbmmoobcikbaaaGreatDoor.Ev
namespace Go.Proofs.YtkbmmoobcikbaaaGreatDoor.Ev
open Go Go.RowKit

variable {P : Program} {T : Tb} {N : Nat} {call : CallF}

noncomputable def dstN (N : Nat) (ops : Array Oper) (i : Nat) : Tmp := match ops[i]? with
  | some o => match o.dst with
    | some d => d
    | none => N + i
  | none => N + i
theorem dstN_some {ops : Array Oper} {i : Nat} {o : Oper} {d : Tmp} (ho : ops[i]? = some o) (hd : o.dst = some d) : dstN N ops i = d := by simp [dstN, ho, hd]
theorem dstN_none {ops : Array Oper} {i : Nat} {o : Oper} (ho : ops[i]? = some o) (hd : o.dst = none) : dstN N ops i = N + i := by simp [dstN, ho, hd]
theorem put_dstN {ops : Array Oper} {i : Nat} {o : Oper} (ho : ops[i]? = some o) {b : Act} (hb : b.tmps.size = N) (x : Value) : b.put o.dst x = b.put (some (dstN N ops i)) x := by
  cases hd : o.dst with
  | some d => rw [dstN_some ho hd]
  | none =>
    rw [dstN_none ho hd]
    simp only [Act.put]
    rw [Array.setIfInBounds_eq_of_size_le (by rw [hb]; exact Nat.le_add_right _ _)]
theorem eval_tmps (b : Act) (x : Operand) : ({ tmps := b.tmps, defers := [] } : Act).eval x = b.eval x := by cases x <;> rfl
theorem draw_run (hT : TbOk P T) (hcall : CallOk P T call) {ops : Array Oper} {f : Tr AV} {H : Hp} {Ds : List Deferred} {l : Env} {a : Act} {w : World} {Q : Exit → Act → World → Prop} {id : Nat} {dm : Tr Nat} (hdm : dmOf ops.toList 0 .e = some dm) {S : Nat → PS} (hS0 : S 0 = s0 f H) (hS : Run T call N ops dm S) (hC : Conc T ops S) (hf : FR N Ds l f a) (hr : HR T.sz l H w)
    (hQ : ∀ l' a' w', FR N Ds l' (S ops.size).f a' → Kp T.sz T.lo l H w l' ⟨putAll (S ops.size).pend (S ops.size).Hc, (S ops.size).nx⟩ w' → Q .normal a' w') : (Code.region id ops true).wp P Q a w := by
  have h0 : (S 0).ms = .e := by rw [hS0]; rfl
  have hp0 : (S 0).pend = [] := by rw [hS0]; rfl
  have hx0 : H.nx = (S 0).nx := by rw [hS0]; rfl
  have ht0 : H.t = (S 0).Hc := by rw [hS0]; rfl
  have hf0 : f = (S 0).f := by rw [hS0]; rfl
  obtain ⟨d1, -, -⟩ := dmOf_ok hdm
  have hdN : ∀ (j : Nat) (o : Oper) (d : Tmp), ops[j]? = some o → o.dst = some d → d < N := by
    intro j o d ho hd
    obtain ⟨s', g1, -⟩ := hS.step j o ho
    rw [hd] at g1
    simpa [dstOk, Nat.blt_eq] using g1
  have dinj : ∀ j k, j < ops.size → k < ops.size → dstN N ops j = dstN N ops k → j = k := by
    intro j k hj hk e
    have oj := Array.getElem?_eq_getElem hj
    have ok := Array.getElem?_eq_getElem hk
    cases dj : (ops[j]).dst with
    | none =>
      rw [dstN_none oj dj] at e
      cases dk : (ops[k]).dst with
      | none =>
        rw [dstN_none ok dk] at e
        exact Nat.add_left_cancel e
      | some d =>
        rw [dstN_some ok dk] at e
        have := hdN k _ d ok dk
        rw [← e] at this
        exact absurd this (Nat.not_lt.2 (Nat.le_add_right _ _))
    | some d =>
      rw [dstN_some oj dj] at e
      cases dk : (ops[k]).dst with
      | none =>
        rw [dstN_none ok dk] at e
        have := hdN j _ d oj dj
        rw [e] at this
        exact absurd this (Nat.not_lt.2 (Nat.le_add_right _ _))
      | some d' =>
        rw [dstN_some ok dk] at e
        subst e
        have e1 := d1 j _ d (by simp) dj
        have e2 := d1 k _ d (by simp) dk
        rw [e1] at e2
        have := Option.some.inj e2
        omega
  refine wp_region_K (dstN N ops) N (fun L v w1 => ∃ l1 p, JF T ops S l H w l1 p L v w1) hT.mixed ?_ ?_ hf.size ?_ ?_ ?_
  · rw [List.all_eq_true]
    intro i hi
    have hi' := List.mem_range.1 hi
    have ho := Array.getElem?_eq_getElem hi'
    rw [ho]
    simp only [List.all_eq_true]
    intro ed hed
    cases hb : Region.binds .any ed with
    | false => rfl
    | true => simpa using hS.edge h0 ho hed hb
  · rw [List.all_eq_true]
    intro j hj
    rw [List.all_eq_true]
    intro k hk
    exact decide_eq_true (dinj j k (List.mem_range.1 hj) (List.mem_range.1 hk))
  · intro w1 hx hh
    exact ⟨l, 0, JF.start hS hr hx0 ht0 hx hh⟩
  · rintro i o b L v w1 ho hLi hE hval hoth hbs ⟨l1, p, hJ⟩
    have hi := (Array.getElem?_eq_some_iff.1 ho).1
    have hE' : ∀ e ∈ o.after.toList, Region.binds .any e = true → L e.on = true := fun e he => hE e (by simpa using he)
    have hA := hS.listed h0 hJ.ideal i o ho hE'
    have hnx0 := hS.nx_le (i := 0) (j := i) (by omega) (by omega)
    have lecut : l.le (l1.cut (S i).nx) := fun b y e => by
      have := hr.dom b y e
      rw [Env.cut_at (by omega)]; exact hJ.le _ _ e
    have hglob : ∀ g, g < 1000 → (l1.cut (S i).nx) g = some (g, 0) := fun g hg => lecut _ _ (hr.glob g hg)
    have FRb : FR N [] (l1.cut (S i).nx) (S (i + 1)).info.fo { tmps := b.tmps, defers := [] } := by
      refine ⟨hbs, fun t u eu => ?_, rfl, hglob⟩
      rcases hS.sees h0 hdm ho eu with ⟨g1, g2⟩ | ⟨j, oj, g1, g2, g3, g4⟩
      · rw [← hf0] at g2
        obtain ⟨x, k1, k2⟩ := hf.get t u g2
        have htN : t < a.tmps.size := (Array.getElem?_eq_some_iff.1 k1).1
        have hb := hoth t fun j hj hlj hd => by
          have oj := Array.getElem?_eq_getElem hj
          cases dj : (ops[j]).dst with
          | none =>
            rw [dstN_none oj dj] at hd
            rw [hf.size, ← hd] at htN
            exact absurd htN (Nat.not_lt.2 (Nat.le_add_right _ _))
          | some d =>
            rw [dstN_some oj dj] at hd
            subst hd
            have h7 := hS.listed h0 hJ.ideal j _ oj (hJ.ideal j _ oj hlj) i (g1 j _ oj dj)
            rw [hLi] at h7
            cases h7
        refine ⟨x, ?_, k2.mono lecut⟩
        have htb : t < b.tmps.size := by rw [hbs, ← hf.size]; exact htN
        have e1 : b.tmps.getD t undef = b.tmps[t] := by simp [htb]
        have e2 : a.tmps.getD t undef = x := by simp [k1]
        show b.tmps[t]? = some x
        rw [Array.getElem?_eq_getElem htb, ← e1, hb, e2]
      · have hj := (Array.getElem?_eq_some_iff.1 g2).1
        have hji := hS.lt h0 i j hi g1
        have hd := dstN_some (N := N) g2 g3
        have htN := hdN j oj t g2 g3
        have hb := hval j hj (hA j g1) (by rw [hd]; exact htN)
        rw [hd] at hb
        refine ⟨v j, ?_, ?_⟩
        · have htb : t < b.tmps.size := by rw [hbs]; exact htN
          have e1 : b.tmps.getD t undef = b.tmps[t] := by simp [htb]
          show b.tmps[t]? = some (v j)
          rw [Array.getElem?_eq_getElem htb, ← e1, hb]
        · rw [g4]
          exact (hJ.val j hj (hA j g1)).mono (Env.cut_mono _ (hS.nx_le (by omega) (by omega)))
    have hEv : ∀ x, Ev (l1.cut (S i).nx) (S (i + 1)).info.fo b.eval x := fun x u eu => by
      rw [← eval_tmps]; exact FRb.ev x u eu
    have hwant : ∀ t, wantV ops (S (i + 1)).info.fo o = some t → Region.wanted o (yielded ops b.tmps) = t := fun t ht => wantV_ok FRb ht
    have hno : ∀ u, (S (i + 1)).info.blk = none → (S (i + 1)).info.blk = some u → False := fun u h1 h2 => by rw [h1] at h2; cases h2
    obtain ⟨s', -, -, hD, -, hSi⟩ := hS.step i o ho
    have e1 : (S (i + 1)).info = s'.info := by rw [hSi]
    have e2 : (S (i + 1)).nx = s'.nx := by rw [hSi]
    have e3 : (S (i + 1)).Hc = s'.Hc := by rw [hSi]
    obtain ⟨V, hV⟩ : ∃ V, (S (i + 1)).info.v = V := ⟨_, rfl⟩
    rw [hV] at hD
    have plain : ∀ {l2 : Env} {w2 : World} {x : Value}, (S (i + 1)).info.cl ≠ .W → l1.le l2 → (∀ b y, l2 b = some y → l1 b = some y ∨ ((S i).nx ≤ b ∧ b < (S (i + 1)).nx ∧ w1.heap.size ≤ y.1)) → w1.heap.size ≤ w2.heap.size → (∀ k, k < w1.heap.size → w2.heap[k]? = w1.heap[k]?) →
        w2.os = w1.os → w2.tape = w1.tape → w2.output = w1.output → VR (l2.cut (S (i + 1)).nx) V x → (∀ u, (S (i + 1)).info.blk = some u → ∃ k κ y, l2 (S i).nx = some (k, κ) ∧ w1.heap.size ≤ k ∧ w2.heap[k]? = some y ∧ OR T.sz (l2.cut (S (i + 1)).nx) κ u y) →
        ∃ l1 p, JF T ops S l H w l1 p (mrkL L i) (mrkV v i x) w2 := fun {l2 w2 x} g1 g2 g3 g4 g5 g6 g7 g8 g9 g10 =>
      ⟨l2, p, JF.more hS (by omega) hJ ho hLi hE' g1 g2 g3 g4 g5 g6 g7 g8 (by rw [hV]; exact g9) g10⟩
    cases hD with
    | U hw hd =>
      refine .inr ⟨hwant _ hw, ?_, plain (by rw [e1]; intro e; cases e) (.refl _) (fun b y e => .inl e) (Nat.le_refl _) (fun _ _ => rfl) rfl rfl rfl (.tup .nil) (fun u h => by rw [e1] at h; cases h)⟩
      cases hdd : o.dst with
      | none => rw [hdd] at hd; cases hd
      | some d => rw [dstN_some ho hdd]
    | R hw hrd hbel =>
      have hc : (S (i + 1)).info.cl = .R := by rw [e1]
      have hrd2 := hJ.reads hS h0 hC ho hLi hE' hc (by rw [hV]; exact hrd)
      rw [hV] at hrd2
      obtain ⟨x, g1, g2⟩ := ropV_ok (P := P) hT (hJ.hrn hr) (ρ := b.eval) (fun y u eu => (hEv y u eu).mono (Env.cut_le _ _)) hrd2
      refine .inl ⟨hwant _ hw, ?_⟩
      unfold Oper.wp
      rw [g1]
      refine ⟨x, put_dstN ho hbs x, plain (by rw [hc]; intro e; cases e) (.refl _) (fun b y e => .inl e) (Nat.le_refl _) (fun _ _ => rfl) rfl rfl rfl ?_ (fun u h => by rw [e1] at h; cases h)⟩
      rw [e2]
      exact belA_ok hbel g2
    | W hw hm hnn hop =>
      rename_i H1
      have hc : (S (i + 1)).info.cl = .W := by rw [e1]
      obtain ⟨hpi, hnoW, hHc⟩ := hJ.place hS hi hLi hc hA
      refine .inl ⟨hwant _ hw, opV_ok hT hcall (hJ.input hS h0 hp0 hr hx0 hi hpi hHc hA) hEv hop fun l' x w2 g1 g2 => ?_⟩
      exact ⟨x, put_dstN ho hbs x, _, _, hJ.write hS h0 hp0 hr hx0 ho hLi hE' hc e2.symm e3.symm (by rw [hV]; exact g1) g2⟩
    | M hw hop hnn =>
      rename_i H1
      have hre : HR T.sz (l1.cut (S i).nx) ⟨.e, (S i).nx⟩ w1 := ⟨(fun b o e => by cases e), (fun b b' o o' x x' e => by cases e), fun b x e => (Env.cut_of e).1, hglob⟩
      refine .inl ⟨hwant _ hw, (vop_ok hT hre hEv hop).wp fun l' x w2 g1 g2 => ?_⟩
      have e2' : (S (i + 1)).nx = (S i).nx := e2
      refine ⟨x, put_dstN ho hbs x, plain (by rw [e1]; intro e; cases e) (.refl _) (fun b y e => .inl e) g2.size (fun k hk => g2.block k hk fun b x _ _ hs => absurd hs (by simp [Hp.get, Tr.get_e])) g2.os g2.tape g2.output ?_ (fun u h => by rw [e1] at h; cases h)⟩
      refine g1.mono fun b y e => ?_
      have hb := g2.hr.dom b y e
      rw [hnn] at hb
      rw [e2']
      rcases g2.fresh b y e with k | ⟨k, -⟩
      · exact k
      · exact absurd (show b < (S i).nx from hb) (Nat.not_lt.2 (show (S i).nx ≤ b from k))
    | B hw hop hnn hx =>
      rename_i H1 u0
      have hre : HR T.sz (l1.cut (S i).nx) ⟨.e, (S i).nx⟩ w1 := ⟨(fun b o e => by cases e), (fun b b' o o' x x' e => by cases e), fun b x e => (Env.cut_of e).1, hglob⟩
      refine .inl ⟨hwant _ hw, (vop_ok hT hre hEv hop).wp fun l' x w2 g1 g2 => ?_⟩
      have e2' : (S (i + 1)).nx = (S i).nx + 1 := e2
      have fr : ∀ b y, l' b = some y → (l1.cut (S i).nx) b = some y ∨ ((S i).nx ≤ b ∧ w1.heap.size ≤ y.1) := fun b y e => by
        rcases g2.fresh b y e with k | ⟨k, k2 | ⟨b0, -, k3, -⟩⟩
        · exact .inl k
        · exact .inr ⟨k, k2⟩
        · exact absurd k3 (by simp [Hp.get, Tr.get_e])
      have hle : l1.le (l1.join l' (S i).nx (S (i + 1)).nx) := fun b y e => by
        unfold Env.join
        split
        · rename_i hb
          rw [hJ.no i hi hLi b hb.1 hb.2] at e; cases e
        · exact e
      have hnew : l'.le ((l1.join l' (S i).nx (S (i + 1)).nx).cut (S (i + 1)).nx) := fun b y e => by
        have hb : b < (S (i + 1)).nx := by have := g2.hr.dom b y e; omega
        rw [Env.cut_at hb]
        unfold Env.join
        split
        · exact e
        · rename_i hb2
          rcases fr b y e with g | ⟨g, -⟩
          · exact (Env.cut_of g).2
          · exact absurd ⟨g, hb⟩ hb2
      refine ⟨x, put_dstN ho hbs x, plain (by rw [e1]; intro e; cases e) hle (fun b y e => ?_) g2.size (fun k hk => g2.block k hk fun b x _ _ hs => absurd hs (by simp [Hp.get, Tr.get_e])) g2.os g2.tape g2.output (g1.mono hnew) (fun u h => ?_)⟩
      · unfold Env.join at e
        split at e
        · rename_i hb
          rcases fr b y e with g | ⟨-, g⟩
          · have := (Env.cut_of g).1; omega
          · exact .inr ⟨hb.1, hb.2, g⟩
        · exact .inl e
      · rw [e1] at h
        cases h
        obtain ⟨k, κ, y, k1, k2, k3⟩ := g2.hr.obj _ _ hx
        refine ⟨k, κ, y, (Env.cut_of (hnew _ _ k1)).2, ?_, k2, k3.mono hnew⟩
        rcases fr _ _ k1 with g | ⟨-, g⟩
        · have := (Env.cut_of g).1; omega
        · exact g
  · rintro L v w1 hall ⟨l1, p, hJ⟩
    have hK := hJ.finish hS h0 hp0 hr hx0 hall
    refine hQ l1 _ _ ⟨(fillAll_size _).1.trans hf.size, fun t u eu => ?_, (fillAll_size _).2.trans hf.defers, fun g hg => hJ.le _ _ (hf.glob g hg)⟩ hK
    rcases hS.slot ops.size (Nat.le_refl _) t u eu with ⟨j, oj, g1, g2, g3, rfl⟩ | ⟨g1, g2⟩
    · have hd := dstN_some (N := N) g2 g3
      refine ⟨v j, ?_, (hJ.val j g1 (hall j g1)).mono (Env.cut_le _ _)⟩
      have := fillAll_at (a := a) (v := v) (dst := dstN N ops) (i := j) (by rw [hd, hf.size]; exact hdN j oj t g2 g3) ops.size dinj g1
      rw [hd] at this
      exact this
    · rw [← hf0] at g2
      obtain ⟨x, k1, k2⟩ := hf.get t u g2
      have htN : t < a.tmps.size := (Array.getElem?_eq_some_iff.1 k1).1
      refine ⟨x, ?_, k2.mono hJ.le⟩
      rw [fillAll_other ops.size fun j hj hd => ?_]
      · exact k1
      · have oj := Array.getElem?_eq_getElem hj
        cases dj : (ops[j]).dst with
        | none =>
          rw [dstN_none oj dj] at hd
          rw [hf.size, ← hd] at htN
          exact absurd htN (Nat.not_lt.2 (Nat.le_add_right _ _))
        | some d =>
          rw [dstN_some oj dj] at hd
          subst hd
          exact g1 j _ hj oj dj
theorem drawV_ok (hT : TbOk P T) (hcall : CallOk P T call) : DrawOk P T N (drawV T call N) := by
  intro ops f H f' H' e Ds l a w Q id hf hr hQ
  unfold drawV at e
  split at e
  · cases e
  rename_i dm hdm
  split at e
  · cases e
  rename_i Ls hpass
  split at e
  · cases e
  rename_i hconc
  obtain ⟨S, hS0, hS, hSn, hSL⟩ := passD_run hpass
  have hC := conc_of hSL hconc
  rw [← hSn] at e
  cases e
  exact draw_run hT hcall hdm hS0 hS hC hf hr hQ
end Go.Proofs.YtkbmmoobcikbaaaGreatDoor.Ev
namespace Go.Proofs.YtkbmmoobcikbaaaGreatDoor.Ev
open Go Go.RowKit

variable {P : Program} {T : Tb}

noncomputable def envG : Env := fun g => if g < 1000 then some (g, 0) else none
noncomputable def topH : Hp := ⟨.e, 1000⟩
theorem top_hr (sz : TypeId → Nat) (w : World) : HR sz envG topH w :=
  ⟨(fun b o e => by cases e), (fun b b' o o' x x' e => by cases e), fun b x e => (by
    unfold envG at e
    split at e
    · assumption
    · cases e), fun g hg => by simp [envG, hg]⟩
/-- What a closed call is reckoned to. -/
noncomputable def topV (T : Tb) (d : Nat) (g : FuncId) : Option AV := match ev T (drawV T) d g [] topH with
  | some (v, _) => some v
  | none => none
/-- What a closed call leaves as it was. -/
structure Same (w w' : World) : Prop where
  os : w'.os = w.os
  tape : w'.tape = w.tape
  output : w'.output = w.output
  size : w.heap.size ≤ w'.heap.size
  block : ∀ k, k < w.heap.size → w'.heap[k]? = w.heap[k]?
theorem top_ok (hT : TbOk P T) (hh : CallOk P T T.hook) {d : Nat} {g : FuncId} {v : AV} (e : topV T d g = some v) (hg : ∀ args w, (callFunc g args).run P w = .ok (.enter g args) w) (w : World) :
    Calls P g #[] w fun r w' => ∃ x l', r = .returned x ∧ VR l' v x ∧ Same w w' := by
  unfold topV at e
  split at e
  · rename_i v0 H' he
    cases e
    have := ev_ok hT hh (fun call N hc => drawV_ok (N := N) hT hc) d g [] topH v H' he envG w [] (top_hr _ w) .nil
    rcases this with ⟨x, w', h1, -⟩ | ⟨-, h2⟩
    · rw [hg] at h1; cases h1
    · refine Calls.mono h2 fun r w' => ?_
      rintro ⟨x, rfl, l', h3, h4⟩
      exact ⟨x, l', rfl, h3, h4.os, h4.tape, h4.output, h4.size, fun k hk => h4.block k hk fun b y _ _ hs => absurd hs (by simp [topH, Hp.get, Tr.get_e])⟩
  · cases e
theorem top_true (hT : TbOk P T) (hh : CallOk P T T.hook) {d : Nat} {g : FuncId} (e : topV T d g = some (.bool true)) (hg : ∀ args w, (callFunc g args).run P w = .ok (.enter g args) w) (w : World) :
    Calls P g #[] w fun r w' => r = .returned (.bool true) ∧ Same w w' := by
  refine Calls.mono (top_ok hT hh e hg w) fun r w' => ?_
  rintro ⟨x, l', rfl, h1, h2⟩
  cases h1
  exact ⟨rfl, h2⟩

/-- The same, of a call that is handed values. -/
noncomputable def topVA (T : Tb) (d : Nat) (g : FuncId) (us : List AV) : Option AV := match ev T (drawV T) d g us topH with
  | some (v, _) => some v
  | none => none
theorem top_trueA (hT : TbOk P T) (hh : CallOk P T T.hook) {d : Nat} {g : FuncId} {us : List AV} (e : topVA T d g us = some (.bool true)) (hg : ∀ args w, (callFunc g args).run P w = .ok (.enter g args) w) {xs : List Value} (hx : VRs envG us xs) (w : World) :
    Calls P g xs.toArray w fun r w' => r = .returned (.bool true) ∧ Same w w' := by
  unfold topVA at e
  split at e
  · rename_i v0 H' he
    cases e
    have := ev_ok hT hh (fun call N hc => drawV_ok (N := N) hT hc) d g us topH _ H' he envG w xs (top_hr _ w) hx
    rcases this with ⟨x, w', h1, -⟩ | ⟨-, h2⟩
    · rw [hg] at h1; cases h1
    · refine Calls.mono h2 fun r w' => ?_
      rintro ⟨x, rfl, l', h3, h4⟩
      cases h3
      exact ⟨rfl, h4.os, h4.tape, h4.output, h4.size, fun k hk => h4.block k hk fun b y _ _ hs => absurd hs (by simp [topH, Hp.get, Tr.get_e])⟩
  · cases e
end Go.Proofs.YtkbmmoobcikbaaaGreatDoor.Ev
