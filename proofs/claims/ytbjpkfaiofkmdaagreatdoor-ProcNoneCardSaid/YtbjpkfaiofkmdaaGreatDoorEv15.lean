/-
  A RECKONER OF CLOSED CALLS, FIFTEENTH PART: what stands amid a region that draws. No program in sight; no condition.
-/
import Derived.Test.YtbjpkfaiofkmdaaGreatDoorEv14
import Derived.Test.YtbjpkfaiofkmdaaGreatDoorNInvJ
namespace Go.Proofs.YtbjpkfaiofkmdaaGreatDoor.Ev
open Go Go.RowKit

variable {P : Program} {T : Tb} {l : Env} {H : Hp} {w : World} {N : Nat} {call : CallF} {ops : Array Oper} {dm : Tr Nat} {S : Nat → PS}

/-- An operation's block that waits at a place of the chain. -/
def Wt (S : Nat → PS) (n p j : Nat) (o : AObj) : Prop := j < n ∧ (S (j + 1)).info.blk = some o ∧ ∀ i, i < p → (S (i + 1)).info.cl = .W → bit (S (i + 1)).info.mask j = false
theorem Run.pend (h : Run T call N ops dm S) (h0 : (S 0).ms = .e) (hp : (S 0).pend = []) : ∀ (i : Nat), i ≤ ops.size → ∀ j b o, (j, b, o) ∈ (S i).pend ↔ j < i ∧ Wt S ops.size i j o ∧ b = (S j).nx
  | 0, _, j, b, o => by rw [hp]; simp
  | i + 1, hi, j, b, o => by
    have ih := Run.pend h h0 hp i (by omega) j b o
    obtain ⟨s', v', h3, -, -, -, h6, h7⟩ := h.did (show i < ops.size by omega)
    have noW : (S (i + 1)).info.cl ≠ .W → (Wt S ops.size (i + 1) j o ↔ Wt S ops.size i j o) := by
      intro hc
      refine ⟨fun ⟨a1, a2, a3⟩ => ⟨a1, a2, fun i' hi' => a3 i' (by omega)⟩, fun ⟨a1, a2, a3⟩ => ⟨a1, a2, fun i' hi' hw => ?_⟩⟩
      by_cases e : i' = i
      · subst e; exact absurd hw hc
      · exact a3 i' (by omega) hw
    have plain : (S (i + 1)).info.cl ≠ .W → (S (i + 1)).info.blk = none → (S (i + 1)).pend = (S i).pend → ((j, b, o) ∈ (S (i + 1)).pend ↔ j < i + 1 ∧ Wt S ops.size (i + 1) j o ∧ b = (S j).nx) := by
      intro hc hb hpe
      rw [hpe, ih, noW hc]
      refine ⟨fun ⟨a1, a2⟩ => ⟨by omega, a2⟩, fun ⟨a1, a2⟩ => ⟨?_, a2⟩⟩
      by_cases e : j = i
      · subst e
        have := a2.1.2.1
        rw [hb] at this; cases this
      · omega
    cases h3 with
    | U => exact plain (by rw [h6]; intro e; cases e) (by rw [h6]) h7
    | R => exact plain (by rw [h6]; intro e; cases e) (by rw [h6]) h7
    | M => exact plain (by rw [h6]; intro e; cases e) (by rw [h6]) h7
    | W _ _ _ _ =>
      rw [h7]
      simp only
      rw [waitP_mem, ih]
      have hcl : (S (i + 1)).info.cl = .W := by rw [h6]
      constructor
      · rintro ⟨⟨a1, ⟨a2, a3, a4⟩, a5⟩, a6⟩
        refine ⟨by omega, ⟨a2, a3, fun i' hi' hw => ?_⟩, a5⟩
        by_cases e : i' = i
        · subst e; exact a6
        · exact a4 i' (by omega) hw
      · rintro ⟨a1, ⟨a2, a3, a4⟩, a5⟩
        have hji : j ≠ i := by
          rintro rfl
          rw [h6] at a3; cases a3
        exact ⟨⟨by omega, ⟨a2, a3, fun i' hi' => a4 i' (by omega)⟩, a5⟩, a4 i (by omega) hcl⟩
    | B _ _ _ _ =>
      rename_i x _ _ _ _
      rw [h7]
      simp only
      have hc : (S (i + 1)).info.cl ≠ .W := by rw [h6]; intro e; cases e
      rw [List.mem_cons, ih, noW hc]
      constructor
      · rintro (e | ⟨a1, a2⟩)
        · cases e
          refine ⟨by omega, ⟨by omega, by rw [h6], fun i' hi' hw => ?_⟩, rfl⟩
          rw [Bool.eq_false_iff]
          intro hb
          have := h.lt h0 i' _ (by omega) hb
          omega
        · exact ⟨by omega, a2⟩
      · rintro ⟨a1, a2, a3⟩
        by_cases e : j = i
        · subst e
          left
          have := a2.2.1
          rw [h6] at this
          cases this
          rw [a3]
        · exact .inr ⟨by omega, a2, a3⟩
/-- The blocks that are known at a place of the chain, and what their values know. -/
def Gq (S : Nat → PS) (n p : Nat) (L : Nat → Bool) (b : Nat) (o : AObj) (c : Nat) : Prop :=
  ((S p).Hc.get b = some o ∧ c = (S p).nx) ∨ ∃ j, L j = true ∧ Wt S n p j o ∧ b = (S j).nx ∧ c = (S (j + 1)).nx
structure JF (T : Tb) (ops : Array Oper) (S : Nat → PS) (l0 : Env) (H0 : Hp) (w0 : World) (l : Env) (p : Nat) (L : Nat → Bool) (vals : Nat → Value) (w1 : World) : Prop where
  hp : p ≤ ops.size
  ideal : ∀ (i : Nat) (o : Oper), ops[i]? = some o → L i = true → ∀ e ∈ o.after.toList, Region.binds .any e = true → L e.on = true
  chain : ∀ j, j < ops.size → (S (j + 1)).info.cl = .W → (L j = true ↔ j < p)
  le : l0.le l
  dom : ∀ b x, l b = some x → b < (S ops.size).nx
  no : ∀ i, i < ops.size → L i = false → ∀ b, (S i).nx ≤ b → b < (S (i + 1)).nx → l b = none
  val : ∀ i, i < ops.size → L i = true → VR (l.cut (S (i + 1)).nx) (S (i + 1)).info.v (vals i)
  obj : ∀ b o c, Gq S ops.size p L b o c → ∃ k κ x, l b = some (k, κ) ∧ w1.heap[k]? = some x ∧ OR T.sz (l.cut c) κ o x
  inj : ∀ b b' o o' c c' x x', Gq S ops.size p L b o c → Gq S ops.size p L b' o' c' → l b = some x → l b' = some x' → x.1 = x'.1 → b = b'
  bnd : ∀ b o, (S p).Hc.get b = some o → b < (S p).nx
  free : ∀ j u, Wt S ops.size p j u → (S p).Hc.get (S j).nx = none
  old : ∀ b, b < H0.nx → ((S p).Hc.get b).isSome → (H0.get b).isSome
  os : w1.os = w0.os
  tape : w1.tape = w0.tape
  output : w1.output = w0.output
  size : w0.heap.size ≤ w1.heap.size
  block : ∀ k, k < w0.heap.size → (∀ b x, T.lo ≤ b → l0 b = some x → (H0.get b).isSome → x.1 ≠ k) → w1.heap[k]? = w0.heap[k]?
  fresh : ∀ b x, l b = some x → l0 b = some x ∨ (H0.nx ≤ b ∧ (w0.heap.size ≤ x.1 ∨ ∃ b0, T.lo ≤ b0 ∧ (H0.get b0).isSome ∧ (l0 b0).map (·.1) = some x.1))
theorem mrkL_at (L : Nat → Bool) (i : Nat) : mrkL L i i = true := by simp [mrkL]
theorem mrkL_ne (L : Nat → Bool) {i j : Nat} (h : j ≠ i) : mrkL L i j = L j := by simp [mrkL, h]
theorem mrkV_at (v : Nat → Value) (i : Nat) (x : Value) : mrkV v i x i = x := by simp [mrkV]
theorem mrkV_ne (v : Nat → Value) {i j : Nat} (x : Value) (h : j ≠ i) : mrkV v i x j = v j := by simp [mrkV, h]
/-- A step that turns no old block. -/
theorem JF.more (hS : Run T call N ops dm S) {l0 : Env} {H0 : Hp} {w0 : World} {p : Nat} {L : Nat → Bool} {vals : Nat → Value} {w1 w2 : World} (hx0 : H0.nx ≤ (S 0).nx) (h : JF T ops S l0 H0 w0 l p L vals w1) {i : Nat} {o : Oper} (ho : ops[i]? = some o) (hL : L i = false)
    (hE : ∀ e ∈ o.after.toList, Region.binds .any e = true → L e.on = true) (hc : (S (i + 1)).info.cl ≠ .W) {l2 : Env} {x : Value} (hle : l.le l2)
    (hdom : ∀ b y, l2 b = some y → l b = some y ∨ ((S i).nx ≤ b ∧ b < (S (i + 1)).nx ∧ w1.heap.size ≤ y.1)) (hs : w1.heap.size ≤ w2.heap.size) (hb : ∀ k, k < w1.heap.size → w2.heap[k]? = w1.heap[k]?)
    (h1 : w2.os = w1.os) (h2 : w2.tape = w1.tape) (h3 : w2.output = w1.output) (hv : VR (l2.cut (S (i + 1)).nx) (S (i + 1)).info.v x)
    (hn : ∀ u, (S (i + 1)).info.blk = some u → ∃ k κ y, l2 (S i).nx = some (k, κ) ∧ w1.heap.size ≤ k ∧ w2.heap[k]? = some y ∧ OR T.sz (l2.cut (S (i + 1)).nx) κ u y) :
    JF T ops S l0 H0 w0 l2 p (mrkL L i) (mrkV vals i x) w2 := by
  have hi := (Array.getElem?_eq_some_iff.1 ho).1
  have hcut : ∀ n, (l.cut n).le (l2.cut n) := fun n b y hb2 => by
    obtain ⟨e1, e2⟩ := Env.cut_of hb2
    rw [Env.cut_at e1]; exact hle _ _ e2
  have hG : ∀ b u c, Gq S ops.size p (mrkL L i) b u c → Gq S ops.size p L b u c ∨ ((S (i + 1)).info.blk = some u ∧ b = (S i).nx ∧ c = (S (i + 1)).nx) := by
    rintro b u c (g | ⟨j, g1, g2, g3, g4⟩)
    · exact .inl (.inl g)
    · by_cases e : j = i
      · subst e; exact .inr ⟨g2.2.1, g3, g4⟩
      · rw [mrkL_ne L e] at g1
        exact .inl (.inr ⟨j, g1, g2, g3, g4⟩)
  have hlt : ∀ b u c y, Gq S ops.size p L b u c → l2 b = some y → y.1 < w1.heap.size ∧ l b = some y := by
    intro b u c y g e
    obtain ⟨k, κ, z, g1, g2, -⟩ := h.obj b u c g
    have := hle _ _ g1
    rw [e] at this
    cases this
    exact ⟨(Array.getElem?_eq_some_iff.1 g2).1, g1⟩
  refine ⟨h.hp, fun j oj hoj hj e he hbe => ?_, fun j hj hw => ?_, h.le.trans hle, fun b y hb2 => ?_, fun j hj hjL b hb1 hb2 => ?_, fun j hj hjL => ?_, fun b u c g => ?_, fun b b' u u' c c' y y' g g' e e' hx => ?_, h.bnd, h.free, h.old, h1.trans h.os, h2.trans h.tape, h3.trans h.output, Nat.le_trans h.size hs, fun k hk hne => ?_, fun b y hb2 => ?_⟩
  · by_cases ej : j = i
    · subst ej
      rw [ho] at hoj
      cases hoj
      have := hE e he hbe
      by_cases ee : e.on = j
      · rw [ee]; exact mrkL_at L j
      · rw [mrkL_ne L ee]; exact this
    · rw [mrkL_ne L ej] at hj
      have := h.ideal j oj hoj hj e he hbe
      by_cases ee : e.on = i
      · rw [ee]; exact mrkL_at L i
      · rw [mrkL_ne L ee]; exact this
  · have ej : j ≠ i := by rintro rfl; exact hc hw
    rw [mrkL_ne L ej]; exact h.chain j hj hw
  · rcases hdom b y hb2 with e | ⟨e1, e2, -⟩
    · exact h.dom b y e
    · exact Nat.lt_of_lt_of_le e2 (hS.nx_le (by omega) (Nat.le_refl _))
  · have ej : j ≠ i := by rintro rfl; rw [mrkL_at] at hjL; cases hjL
    rw [mrkL_ne L ej] at hjL
    cases e : l2 b with
    | none => rfl
    | some y =>
      exfalso
      rcases hdom b y e with e1 | ⟨e1, e2, -⟩
      · rw [h.no j hj hjL b hb1 hb2] at e1; cases e1
      · rcases Nat.lt_or_gt_of_ne ej with hlt' | hgt
        · have := hS.nx_le (i := j + 1) (j := i) (by omega) (by omega); omega
        · have := hS.nx_le (i := i + 1) (j := j) (by omega) (by omega); omega
  · by_cases ej : j = i
    · subst ej
      rw [mrkV_at]; exact hv
    · rw [mrkL_ne L ej] at hjL
      rw [mrkV_ne vals x ej]
      exact (h.val j hj hjL).mono (hcut _)
  · rcases hG b u c g with g | ⟨g1, g2, g3⟩
    · obtain ⟨k, κ, z, e1, e2, e3⟩ := h.obj b u c g
      exact ⟨k, κ, z, hle _ _ e1, (hb k (Array.getElem?_eq_some_iff.1 e2).1).trans e2, e3.mono (hcut _)⟩
    · obtain ⟨k, κ, y, e1, -, e2, e3⟩ := hn u g1
      subst g2 g3
      exact ⟨k, κ, y, e1, e2, e3⟩
  · have hnew : ∀ u b c y, (S (i + 1)).info.blk = some u ∧ b = (S i).nx ∧ c = (S (i + 1)).nx → l2 b = some y → w1.heap.size ≤ y.1 := by
      rintro u b c y ⟨g1, rfl, -⟩ ey
      obtain ⟨k, κ, z, f1, f2, -⟩ := hn u g1
      rw [ey] at f1
      cases f1; exact f2
    rcases hG b u c g with g | g
    · rcases hG b' u' c' g' with g' | g'
      · exact h.inj b b' u u' c c' y y' g g' (hlt _ _ _ _ g e).2 (hlt _ _ _ _ g' e').2 hx
      · have a1 := (hlt _ _ _ _ g e).1
        have a2 := hnew _ _ _ _ g' e'
        omega
    · rcases hG b' u' c' g' with g' | g'
      · have a1 := (hlt _ _ _ _ g' e').1
        have a2 := hnew _ _ _ _ g e
        omega
      · rw [g.2.1, g'.2.1]
  · rw [hb k (by have := h.size; omega)]
    exact h.block k hk hne
  · rcases hdom b y hb2 with e | ⟨e1, -, e3⟩
    · exact h.fresh b y e
    · refine .inr ⟨?_, .inl (by have := h.size; omega)⟩
      have := hS.nx_le (i := 0) (j := i) (by omega) (by omega); omega
end Go.Proofs.YtbjpkfaiofkmdaaGreatDoor.Ev
