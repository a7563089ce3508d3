/-
  WHAT ALL WALKS OF THIS SEAT SHARE: 'Upd' (what may have turned between two worlds), 'Row' (a slice that reads as a list of cells), small laws on both; texts' rows. No condition.
  A REGION THAT DRAWS ITS ORDER, BY AN INVARIANT: each operation is shown once, in whatever order it comes up: what it yields meets its own clause, which stays when nothing old turns. No program in sight. (Chapter 29's GFar has the same.)
  A REGION THAT DRAWS ITS ORDER, BY ONE INVARIANT OF ALL: what is listed, what it yielded, and the world. No program in sight.
-/
import Derived.Test.YtkbmmoobcikbaaaGreatDoorRows
import Derived.WalkKit
import Derived.WalkSpells
import Derived.WalkLawsBesides
import Derived.Lib.Hide
import Derived.Deep.QuietTactic
import Derived.BigQuiet
import Derived.Deep.RegionHeld3
import Derived.StillTailTactics
import Derived.Laws.AppendOwnNone
import Derived.Deep.AppendLies
import Derived.Deep.DrawnRows
import Derived.Deep.MidRow
import Derived.Laws.BytesArg
import Derived.Laws.OwnMore
namespace Go.Proofs.YtkbmmoobcikbaaaGreatDoor
open Go.RowKit

/-- Of the blocks that were there, those in S alone may have turned; the streams are as they were. -/
structure Upd (S : Nat → Prop) (w w' : World) : Prop where
  os : w'.os = w.os
  tape : w'.tape = w.tape
  output : w'.output = w.output
  size : w.heap.size ≤ w'.heap.size
  block : ∀ k, k < w.heap.size → ¬ S k → w'.heap[k]? = w.heap[k]?

def Nothing : Nat → Prop := fun _ => False
abbrev Ext (w w' : World) : Prop := Upd Nothing w w'
def At (r : Nat) : Nat → Prop := fun k => k = r
def From (B : Nat) : Nat → Prop := fun k => B ≤ k
def Till (B : Nat) : Nat → Prop := fun k => k < B

namespace Upd
variable {S T : Nat → Prop} {w w1 w2 : World}
theorem refl (S : Nat → Prop) (w : World) : Upd S w w := ⟨rfl, rfl, rfl, Nat.le_refl _, fun _ _ _ => rfl⟩
theorem step (h : Upd S w w1) (k : Upd T w1 w2) (hT : ∀ i, i < w.heap.size → T i → S i) : Upd S w w2 :=
  ⟨k.os.trans h.os, k.tape.trans h.tape, k.output.trans h.output, Nat.le_trans h.size k.size, fun i hi hs =>
    (k.block i (Nat.lt_of_lt_of_le hi h.size) (fun ht => hs (hT i hi ht))).trans (h.block i hi hs)⟩
theorem trans (h : Upd S w w1) (k : Upd S w1 w2) : Upd S w w2 := h.step k fun _ _ h => h
theorem ext (h : Upd S w w1) (k : Ext w1 w2) : Upd S w w2 := h.step k fun _ _ h => h.elim
theorem mono (h : Upd S w w1) (k : ∀ i, i < w.heap.size → S i → T i) : Upd T w w1 := ⟨h.os, h.tape, h.output, h.size, fun i hi ht => h.block i hi fun hs => ht (k i hi hs)⟩
theorem drew (h : Upd S w w1) : Upd S w w1.drew := ⟨h.os, h.tape, h.output, h.size, h.block⟩
theorem drewN (h : Upd S w w1) (n : Nat) : Upd S w (w1.drewN n) := ⟨h.os, h.tape, h.output, h.size, h.block⟩
theorem alloc (h : Upd S w w1) (o : Obj) : Upd S w (w1.alloc o) :=
  h.step (T := Nothing) ⟨rfl, rfl, rfl, by simp, fun k hk _ => Below.heap_alloc _ _ _ hk⟩ fun _ _ h => h.elim
theorem setCell (h : Upd S w w1) {p : Addr} (hp : p.block < w.heap.size → S p.block) (u : Value) : Upd S w (w1.setCell p u) :=
  h.step (T := At p.block) ⟨rfl, rfl, rfl, by simp [World.setCell], fun k _ hk => Below.heap_setCell _ _ _ _ hk⟩ fun i hi e => by cases e; exact hp hi
theorem own (w : World) (r i : Nat) (u : Value) : Upd (At r) w (w.setCell ⟨r, i, none⟩ u) := (refl (At r) w).setCell (p := ⟨r, i, none⟩) (fun _ => rfl) u
theorem grown (h : Upd S w w1) {row : Option Nat} (hg : w1.grownBy w2 row) (hr : ∀ k, row = some k → k < w.heap.size → S k) : Upd S w w2 :=
  h.step (T := fun k => some k = row) ⟨hg.os, hg.tape, hg.output, hg.size, fun k hk e => hg.block k hk e⟩ fun i hi e => hr i e.symm hi
theorem row (w : World) (g : Nat) (cs : Array Value) : Upd (At g) w (w.setRow g cs) := ⟨rfl, rfl, rfl, by simp, fun k _ hk => setRow_other w g k cs hk⟩
theorem till (h : Upd S w w1) {B : Nat} (k : Below B w1 w2) (hB : w.heap.size ≤ B) : Upd S w w2 := h.step (T := From B) ⟨k.os, k.tape, k.output, k.size, fun i _ hs => k.block i (by unfold From at hs; omega)⟩ fun i hi e => by unfold From at e; omega
theorem of_below {B : Nat} (h : Below B w w1) : Upd (From B) w w1 := ⟨h.os, h.tape, h.output, h.size, fun k _ hs => h.block k (by unfold From at hs; omega)⟩
theorem below (h : Ext w w1) : Below w.heap.size w w1 := ⟨h.os, h.tape, h.output, h.size, fun k hk => h.block k hk fun e => e⟩
theorem cell (h : Upd S w w1) {a : Addr} {v : Value} (hc : w.cell? a = some v) (hs : ¬ S a.block) : w1.cell? a = some v :=
  (World.cell?_of_block (w := w) (h.block _ (World.block_lt_of_cell? w a hc) hs)).trans hc
theorem at_ (h : Upd S w w1) {k : Nat} {o : Obj} (hc : w.heap[k]? = some o) (hs : ¬ S k) : w1.heap[k]? = some o :=
  (h.block k (Array.getElem?_eq_some_iff.1 hc).1 hs).trans hc
theorem ownsRow (h : Upd S w w1) {base e size n : Nat} {v : Value} {xs : List Value} (ho : w.ownsRow base e size v n xs) (hs : ∀ k, v.ownBlock = some k → ¬ S k) : w1.ownsRow base e size v n xs := by
  refine ⟨ho.1, ?_⟩
  rcases ho.2 with hn | ⟨g, cap, cur, rfl, hb, hgg, rest⟩
  · exact .inl hn
  · exact .inr ⟨g, cap, cur, rfl, hb, h.at_ hgg (hs g rfl), rest⟩
end Upd

theorem _root_.Go.World.ownsRow.mono_base {w : World} {base base' e size n : Nat} {v : Value} {xs : List Value} (h : w.ownsRow base e size v n xs) (hb : base' ≤ base) : w.ownsRow base' e size v n xs := by
  refine ⟨h.1, ?_⟩
  rcases h.2 with hn | ⟨g, cap, cur, rfl, hb2, rest⟩
  · exact .inl hn
  · exact .inr ⟨g, cap, cur, rfl, by omega, rest⟩

theorem owns_tag {w : World} {base e size n k : Nat} {v : Value} {xs : List Value} (h : w.ownsRow base e size v n xs) (hk : v.ownBlock = some k) : ∃ cur, w.heap[k]? = some (.cells cur e (0, 0)) := by
  rcases h.2 with ⟨rfl, _⟩ | ⟨g, cap, cur, rfl, _, hg, _⟩
  · simp [Value.ownBlock] at hk
  · simp only [Value.ownBlock, Option.some.injEq] at hk; subst hk; exact ⟨_, hg⟩
/-- Blocks of another element type may turn. -/
theorem Upd.ownsT {S : Nat → Prop} {w w' : World} (hu : Upd S w w') {base e size n : Nat} {v : Value} {xs : List Value} (h : w.ownsRow base e size v n xs) (hS : ∀ k cur, S k → w.heap[k]? ≠ some (.cells cur e (0, 0))) : w'.ownsRow base e size v n xs :=
  hu.ownsRow h fun k hk hs => by obtain ⟨cur, hc⟩ := owns_tag h hk; exact hS k cur hs hc
theorem grownUpd {w w' : World} {row : Option Nat} (hg : w.grownBy w' row) : Upd (fun k => row = some k) w w' := ⟨hg.os, hg.tape, hg.output, hg.size, fun k hk e => hg.block k hk (fun e' => e e'.symm)⟩

theorem ownsForm {w : World} {base e size n : Nat} {v : Value} {xs : List Value} (h : w.ownsRow base e size v n xs) : ∃ a m c, v = .slice a m c := by
  rcases h.2 with ⟨rfl, _⟩ | ⟨g, cap, cur, rfl, _⟩ <;> exact ⟨_, _, _, rfl⟩

theorem lt_of_heap {w : World} {k : Nat} {o : Obj} (h : w.heap[k]? = some o) : k < w.heap.size := (Array.getElem?_eq_some_iff.1 h).1

/-- A slice value of n elements whose cells are cs, all in blocks of S. -/
def Row (S : Nat → Prop) (w : World) (v : Value) (n : Nat) (cs : List Value) : Prop :=
  ∃ a c, v = .slice a n c ∧ n ≤ c ∧ c ≤ maxLen ∧ (a = none → c = 0) ∧ (∀ x, a = some x → 0 < n ∨ cs ≠ [] → x.spot = none ∧ S x.block) ∧
    (∀ b o, a = some ⟨b, o, none⟩ → ∀ j u, cs[j]? = some u → w.cell? ⟨b, o + j, none⟩ = some u)

namespace Row
variable {S T : Nat → Prop} {w w1 : World} {v : Value} {n : Nat} {cs : List Value}
theorem upd (h : Row S w v n cs) (hu : Upd T w w1) (hs : ∀ k, S k → ¬ T k) : Row S w1 v n cs := by
  obtain ⟨a, c, rfl, h1, h2, h3, h4, h5⟩ := h
  exact ⟨a, c, rfl, h1, h2, h3, h4, fun b o e j u hj => hu.cell (h5 b o e j u hj) (hs _ (h4 _ e (.inr (fun h => by rw [h] at hj; cases hj))).2)⟩
theorem ext (h : Row S w v n cs) (hu : Ext w w1) : Row S w1 v n cs := h.upd hu fun _ _ e => e
theorem mono (h : Row S w v n cs) (hs : ∀ k, S k → T k) : Row T w v n cs := by
  obtain ⟨a, c, rfl, h1, h2, h3, h4, h5⟩ := h
  exact ⟨a, c, rfl, h1, h2, h3, fun x e g => ⟨(h4 x e g).1, hs _ (h4 x e g).2⟩, h5⟩
theorem lt (h : Row S w v n cs) (h0 : 0 < cs.length) : Row (fun k => S k ∧ k < w.heap.size) w v n cs := by
  obtain ⟨a, c, rfl, h1, h2, h3, h4, h5⟩ := h
  refine ⟨a, c, rfl, h1, h2, h3, fun x e g => ⟨(h4 x e g).1, (h4 x e g).2, ?_⟩, h5⟩
  obtain ⟨b, o, s⟩ := x
  have hs := (h4 _ e g).1
  simp only at hs; subst hs
  exact World.block_lt_of_cell? w ⟨b, o + 0, none⟩ (h5 b o e 0 cs[0] (by simp [List.getElem?_eq_getElem h0]))
/-- The address of a slice that is not empty. -/
theorem addr (h : Row S w v n cs) (h0 : 0 < n) : ∃ b o c, v = .slice (some ⟨b, o, none⟩) n c ∧ S b ∧ n ≤ c ∧ c ≤ maxLen ∧ ∀ j u, cs[j]? = some u → w.cell? ⟨b, o + j, none⟩ = some u := by
  obtain ⟨a, c, rfl, h1, h2, h3, h4, h5⟩ := h
  cases a with
  | none => have := h3 rfl; omega
  | some x =>
    obtain ⟨b, o, s⟩ := x
    have hs := (h4 _ rfl (.inl h0)).1
    simp only at hs; subst hs
    exact ⟨b, o, c, rfl, (h4 _ rfl (.inl h0)).2, h1, h2, h5 b o rfl⟩
theorem nil (S : Nat → Prop) (w : World) : Row S w (.slice none 0 0) 0 [] :=
  ⟨none, 0, rfl, Nat.le_refl _, (by simp [maxLen]), fun _ => rfl, fun _ e => (by cases e), fun _ _ e => (by cases e)⟩
theorem of_owns {base e size : Nat} (h : w.ownsRow base e size v n cs) : Row (From base) w v n cs := by
  obtain ⟨hl, h2⟩ := h
  rcases h2 with ⟨rfl, rfl⟩ | ⟨g, cap, cur, rfl, hb, hg, h3, h4, h5, h6⟩
  · have : cs = [] := List.eq_nil_of_length_eq_zero (by simpa using hl)
    subst this; exact nil _ _
  · refine ⟨_, _, rfl, h3, h4, fun e => (by cases e), fun x e _ => by cases e; exact ⟨rfl, hb⟩, fun b o e j u hj => ?_⟩
    cases e
    rw [Nat.zero_add, cell_of_row w g j cur _ (0, 0) hg]
    rw [← h6, List.getElem?_take] at hj
    split at hj
    · simpa using hj
    · cases hj
end Row

/-- The slice type t, of elements e of 'size' cells, 'bytes' bytes. -/
structure SliceT (P : Program) (t e size bytes : Nat) : Prop where
  under : P.underlying t = some (.slice e)
  info : ∃ i z, P.info? e = some i ∧ i.zero = some z ∧ i.size = size ∧ i.bytes = bytes ∧ z.cells.size = size
  pos : 0 < size
theorem sliceT_of {P : Program} {t e size bytes : Nat} (h1 : P.underlying t = some (.slice e)) (h2 : (P.info? e).map (fun i => (i.zero.map (·.cells.size), i.size, i.bytes)) = some (some size, size, bytes)) (h3 : 0 < size) : SliceT P t e size bytes := by
  obtain ⟨i, hi, hz⟩ := Option.map_eq_some_iff.1 h2
  simp only [Prod.mk.injEq] at hz
  obtain ⟨z, hz1, hz2⟩ := Option.map_eq_some_iff.1 hz.1
  exact ⟨h1, ⟨i, z, hi, hz1, hz.2.1, hz.2.2, hz2⟩, h3⟩

def OneCells (l : List Value) : Prop := ∀ u ∈ l, u.oneCell' = true

section
variable {P : Program} {w : World} {ops : Array Oper} {rest : List Oper} {o : Oper} {a : Act} {Q : Exit → Act → World → Prop}
/-- 'append(s, src...)', s the call's own, src whatever reads as a row. -/
theorem wpList_append_row (hgd : o.guard = none) (s x : Operand) (t : TypeId) (ho : o.op = .call { callee := .builtin .append, args := #[s, x], argTypes := #[t, t] })
    {base e size bytes : Nat} (T : SliceT P t e size bytes) {v : Value} {n : Nat} {xs : List Value} (hs : a.eval s = v) (hown : w.ownsRow base e size v n xs)
    {S : Nat → Prop} {src : Value} {m : Nat} {news : List Value} (hx : a.eval x = src) (hsrc : Row S w src m news) (hl : news.length = m * size) (h1 : OneCells news)
    (h63 : n + m ≤ maxLen) (hbytes : (n + m) * bytes ≤ 140737488355328) (hbase : base ≤ w.heap.size)
    (h : ∀ v' w', w'.ownsRow base e size v' (n + m) (xs ++ news) → w.grownBy w' v.ownBlock → (v' = .slice none 0 0 ↔ v = .slice none 0 0 ∧ m = 0) → wpList P ops Q rest (a.put o.dst v') w') : wpList P ops Q (o :: rest) a w := by
  obtain ⟨hu, ⟨i, z, hi, hz, h2, h3, h4⟩, hp⟩ := T
  obtain ⟨ad, c, rfl, g1, g2, g3, g4, g5⟩ := hsrc
  cases ad with
  | some ad =>
    exact wpList_append_own w hgd s x t ho base e i z size bytes hu hi hz h2 h3 h4 hp v n xs hs hown ad m c news hx hl
      (fun j u hj => by
        obtain ⟨b, of, sp⟩ := ad
        have hsp := (g4 _ rfl (.inr (fun h => by rw [h] at hj; cases hj))).1
        simp only at hsp; subst hsp
        have := g5 b of rfl j u hj
        rw [show (⟨b, of, none⟩ : Addr).add j = ⟨b, of + j, none⟩ from by unfold Addr.add; split <;> simp_all]; exact this) h1 h63 hbytes hbase h
  | none =>
    have hc := g3 rfl
    subst hc
    have hm : m = 0 := by omega
    subst hm
    have hn : news = [] := List.eq_nil_of_length_eq_zero (by simpa using hl)
    subst hn
    exact wpList_append_own_none hgd s x t ho base e i size hu hi v n xs hs hown hx (h v w (by simpa using hown) ⟨rfl, rfl, rfl, Nat.le_refl _, fun _ _ _ => rfl⟩ (by simp))
end

/-- The row that a composite literal has just laid. -/
theorem row_new (w : World) (cs : Array Value) (e : TypeId) (m n : Nat) (hm : m ≤ maxLen) (hn : n = w.heap.size) : Row (At n) (w.alloc (.cells cs e)) (.slice (some ⟨n, 0, none⟩) m m) m cs.toList := by
  subst hn
  refine ⟨_, _, rfl, Nat.le_refl _, hm, fun e => (by cases e), fun x e _ => by cases e; exact ⟨rfl, rfl⟩, fun b o h j u hj => ?_⟩
  cases h
  rw [Nat.zero_add, World.cell?_alloc_at _ _ _ _ rfl]
  simpa using hj

/-- What a whole block gives a walk. -/
theorem cellAt {w : World} {b : Nat} {cs : Array Value} {T : TypeId} {fr : Nat × Nat} (hb : w.heap[b]? = some (.cells cs T fr)) (j : Nat) (u : Value) (hj : cs[j]? = some u) : w.cell? ⟨b, j, none⟩ = some u := by
  simp [World.cell?, hb, hj]
theorem freeAt {w : World} {b : Nat} {cs : Array Value} {T : TypeId} (hb : w.heap[b]? = some (.cells cs T (0, 0))) (j : Nat) : w.frozen? ⟨b, j, none⟩ = false := by
  simp [World.frozen?, hb]
theorem setAt {w : World} {b j : Nat} {cs : Array Value} {T : TypeId} {u : Value} (hb : w.heap[b]? = some (.cells cs T (0, 0))) : (w.setCell ⟨b, j, none⟩ u).heap[b]? = some (.cells (cs.setIfInBounds j u) T (0, 0)) := by
  have hlt := lt_of_heap hb
  have h' : w.heap[b] = .cells cs T (0, 0) := by simpa [Array.getElem?_eq_getElem hlt] using hb
  show (w.heap.modify b _)[b]? = _
  rw [Array.getElem?_eq_getElem (by simpa using hlt), Array.getElem_modify_self, h']
  rfl
/-- A block behind an append: behind a new block and a draw. -/
theorem grownAt {w w' : World} {o ob : Obj} {k : Nat} {row : Option Nat} (h : w.heap[k]? = some o) (hg : (w.alloc ob).drew.grownBy w' row) (hne : ∀ j, row = some j → ¬ j = k) : w'.heap[k]? = some o := by
  have hlt := lt_of_heap h
  rw [hg.block k (by show k < (w.alloc ob).heap.size; simp; omega) (fun e => hne k e.symm rfl)]
  exact (Below.heap_alloc w ob k hlt).trans h
theorem newAt (w : World) (o : Obj) : (w.alloc o).heap[w.heap.size]? = some o := heap_alloc_new w o
theorem three {w : World} {b : Nat} {x y z : Value} {T : TypeId} {fr : Nat × Nat} (hb : w.heap[b]? = some (.cells #[x, y, z] T fr)) : w.cell? ⟨b, 0, none⟩ = some x ∧ w.cell? ⟨b, 1, none⟩ = some y ∧ w.cell? ⟨b, 2, none⟩ = some z :=
  ⟨cellAt hb 0 x rfl, cellAt hb 1 y rfl, cellAt hb 2 z rfl⟩

/-- The type ty is a struct or an array of n cells. -/
def StructT (P : Program) (ty n : Nat) : Prop := ∃ d, P.underlying ty = some d ∧ (match d with | .struct _ | .array _ _ => true | _ => false) = true ∧ (P.info? ty).map (·.size) = some n
def AllOne (cs : Array Value) : Prop := cs.all (·.oneCell') = true
/-- Cells laid over others from o on. -/
def setL (cs : Array Value) : Nat → List Value → Array Value
  | _, [] => cs
  | o, v :: r => setL (cs.setIfInBounds o v) (o + 1) r
theorem Upd.cells (b : Nat) : ∀ (vs : List Value) (w : World) (o : Nat), Upd (At b) w (w.setCells b o vs)
  | [], w, _ => Upd.refl _ w
  | v :: vs, w, o => (Upd.own w b o v).trans (Upd.cells b vs _ (o + 1))
theorem setCellsAt {b : Nat} {T : TypeId} : ∀ (vs : List Value) (w : World) (o : Nat) (cs : Array Value), w.heap[b]? = some (.cells cs T (0, 0)) → (w.setCells b o vs).heap[b]? = some (.cells (setL cs o vs) T (0, 0))
  | [], _, _, _, h => h
  | _ :: vs, _, o, _, h => setCellsAt vs _ (o + 1) _ (setAt h)
section
variable {P : Program} {w : World} {ops : Array Oper} {rest : List Oper} {o : Oper} {a : Act} {Q : Exit → Act → World → Prop}
theorem wpList_load_blk (hgd : o.guard = none) (ty : TypeId) (x : Operand) (ho : o.op = .load ty x) {g : Nat} (hx : a.eval x = .pointer (some ⟨g, 0, none⟩)) {t : TypeId} {cs : Array Value} {fr : Nat × Nat}
    (hg : w.heap[g]? = some (.cells cs t fr)) (T : StructT P ty cs.size) (h : wpList P ops Q rest (a.put o.dst (.agg cs)) w) : wpList P ops Q (o :: rest) a w := by
  obtain ⟨d, h1, h2, h3⟩ := T
  exact wpList_load_row hgd ty x ho g hx t cs fr d hg h1 (by cases d <;> simp_all) h3 h
theorem wpList_store_blk (hgd : o.guard = none) (ty : TypeId) (x y : Operand) (ho : o.op = .store ty x y) {g : Nat} {cells : Array Value} (hx : a.eval x = .pointer (some ⟨g, 0, none⟩)) (hy : a.eval y = .agg cells)
    {t : TypeId} {old : Array Value} (hg : w.heap[g]? = some (.cells old t (0, 0))) (T : StructT P ty cells.size) (hold : old.size = cells.size) (h1 : AllOne cells)
    (h : wpList P ops Q rest (a.put o.dst undef) (w.setRow g cells)) : wpList P ops Q (o :: rest) a w := by
  obtain ⟨d, _, _, h3⟩ := T
  exact wpList_store_row hgd ty x y ho g cells hx hy t old hg h3 hold h1 h
theorem wpList_store_in (hgd : o.guard = none) (ty : TypeId) (x y : Operand) (ho : o.op = .store ty x y) {g i : Nat} {cells : Array Value} (hx : a.eval x = .pointer (some ⟨g, i, none⟩)) (hy : a.eval y = .agg cells)
    {t : TypeId} {old : Array Value} (hg : w.heap[g]? = some (.cells old t (0, 0))) (T : StructT P ty cells.size) (hold : i + cells.size ≤ old.size) (h1 : AllOne cells)
    (h : ∀ w', Upd (At g) w w' → w'.heap[g]? = some (.cells (setL old i cells.toList) t (0, 0)) → wpList P ops Q rest (a.put o.dst undef) w') : wpList P ops Q (o :: rest) a w := by
  obtain ⟨d, _, _, h3⟩ := T
  exact wpList_store_mid hgd ty x y ho g i cells hx hy (fun j hj => ⟨by rw [cell_of_row w g _ old t (0, 0) hg, Array.getElem?_eq_getElem (by omega)]; rfl, freeAt hg _⟩) h3 h1 (h _ (Upd.cells _ _ _ _) (setCellsAt _ _ _ _ hg))
theorem bodyPost_blk {fn : Func} {R : Ending → World → Prop} {p : Tmp} {ty : TypeId} (hr : fn.results = #[.cell p ty]) (hd : a.defers = []) {g : Nat} (hp : a.tmps.getD p undef = .pointer (some ⟨g, 0, none⟩)) {t : TypeId} {cs : Array Value} {fr : Nat × Nat}
    (hg : w.heap[g]? = some (.cells cs t fr)) (T : StructT P ty cs.size) (h : R (.returned (.agg cs)) w) : bodyPost P fn R .ret a w := by
  obtain ⟨d, h1, h2, h3⟩ := T
  exact bodyPost_ret_by (results_cell_row hr _ _ g t cs fr d hp hg h1 (by cases d <;> simp_all) h3) hd h
end
theorem bodyPost_blk2 {P : Program} {w : World} {a : Act} {fn : Func} {R : Ending → World → Prop} {p u : Tmp} {ty : TypeId} (hr : fn.results = #[.cell p ty, .tmp u]) (hd : a.defers = []) {g : Nat} (hp : a.tmps.getD p undef = .pointer (some ⟨g, 0, none⟩)) {t : TypeId} {cs : Array Value} {fr : Nat × Nat}
    (hg : w.heap[g]? = some (.cells cs t fr)) (T : StructT P ty cs.size) (h : R (.returned (.tuple #[.agg cs, a.tmps.getD u undef])) w) : bodyPost P fn R .ret a w := by
  obtain ⟨d, h1, h2, h3⟩ := T
  refine bodyPost_ret_by ?_ hd h
  rw [results_cell_tmp hr, hp]
  have hl := run_loadVar_row (P := P) w g t ty cs fr d hg h1 (by cases d <;> simp_all) h3
  simp [asAddr, Result.andThen, hl]
/-- A range over a text: its iterator in a block. -/
theorem next_at {P : Program} (w : World) (it : Nat) (ps : List UInt8) (k : Nat) (c : UInt8) (m : Int) (h : w.heap[it]? = some (.stringIter ⟨ps.toArray⟩ k)) (hc : ps[k]? = some c) (ha : c.toNat < 128) (hm : (c.toNat : Int) = m) :
    ∃ ws, (∀ ty, (Instr.next (.pointer (some ⟨it, 0, none⟩)) true ty).run P w = .ok (.tuple #[.bool true, .int .i64 k, .int .i32 m]) ws) ∧ Upd (At it) w ws ∧ ws.heap[it]? = some (.stringIter ⟨ps.toArray⟩ (k + 1)) := by
  subst hm
  have hlt := lt_of_heap h
  obtain ⟨hk, hck⟩ := List.getElem?_eq_some_iff.1 hc
  have hp : k < (⟨ps.toArray⟩ : ByteArray).size := hk
  have hget : (⟨ps.toArray⟩ : ByteArray)[k]'hp = c := hck
  have hdec := decode_ascii ⟨ps.toArray⟩ k hp (by rw [hget]; exact ha)
  rw [hget] at hdec
  refine ⟨{ w with heap := w.heap.setIfInBounds it (.stringIter ⟨ps.toArray⟩ (k + 1)) }, fun ty => ?_, ⟨rfl, rfl, rfl, by simp, fun j _ hj => ?_⟩, ?_⟩
  · simp [Instr.next, getObj, setObj, Sem.run, h, hp, hdec, goInt, Result.andThen]
  · simp only [Array.getElem?_setIfInBounds]; rw [if_neg]; exact fun e => hj e.symm
  · simp [hlt]
theorem next_done {P : Program} (w : World) (it : Nat) (ps : List UInt8) (h : w.heap[it]? = some (.stringIter ⟨ps.toArray⟩ ps.length)) (ty : TypeId) :
    (Instr.next (.pointer (some ⟨it, 0, none⟩)) true ty).run P w = .ok (.tuple #[.bool false]) w := by
  have hp : ¬ ps.length < (⟨ps.toArray⟩ : ByteArray).size := by simp [ByteArray.size]
  simp [Instr.next, getObj, Sem.run, h, hp]
theorem iterPos_at {w : World} {it : Nat} {s : ByteArray} {k : Nat} (h : w.heap[it]? = some (.stringIter s k)) : w.iterPos it = k := by simp [World.iterPos, h]

abbrev u8 (x : UInt8) : Value := .int .u8 x.toNat
theorem u8_of (x : UInt8) : Value.int .u8 (x.toNat : Int) = u8 x := rfl
theorem u8_one (l : List UInt8) : OneCells (l.map u8) := by intro u hu; obtain ⟨x, _, rfl⟩ := List.mem_map.1 hu; rfl
abbrev Bytes (S : Nat → Prop) (w : World) (v : Value) (l : List UInt8) : Prop := Row S w v l.length (l.map u8)
/-- A text as a value. -/
abbrev str (l : List UInt8) : Value := .string ⟨l.toArray⟩

theorem run_convert_bytes_empty {P : Program} {w : World} (src e : TypeId) (hs : P.underlying src = some (.slice e)) (he : P.underlying e = some (.int .u8)) (x : Addr) (c : Nat) :
    ∀ dst, P.underlying dst = some .string → (convert src dst (.slice (some x) 0 c)).run P w = .ok (.string ByteArray.empty) w := by
  intro dst hd
  have hl : (loadCells x 0).run P w = .ok #[] w := run_loadCells_list (P := P) w x [] (fun j v hj => by cases hj)
  rw [run_convert_bytes_string w src dst e _ 0 c hs he hd, run_bytesToString w _ 0 c [] hl]
  rfl
/-- 'string(b)'. -/
theorem row_string {P : Program} {S : Nat → Prop} {w : World} {v : Value} {l : List UInt8} (h : Bytes S w v l) {src e dst : TypeId} (hs : P.underlying src = some (.slice e)) (he : P.underlying e = some (.int .u8)) (hd : P.underlying dst = some .string) :
    (convert src dst v).run P w = .ok (str l) w := by
  obtain ⟨a, c, rfl, h1, h2, h3, h4, h5⟩ := h
  cases a with
  | none =>
    have hl : l = [] := List.eq_nil_of_length_eq_zero (by have := h3 rfl; omega)
    subst hl
    exact run_convert_bytes_nil _ src e hs he _ _ dst hd
  | some x =>
    by_cases hl0 : l = []
    · subst hl0
      exact run_convert_bytes_empty src e hs he x c dst hd
    obtain ⟨b, o, s⟩ := x
    have hsp := (h4 _ rfl (.inl (List.length_pos_iff.2 hl0))).1
    simp only at hsp; subst hsp
    rw [run_convert_bytes_arg w src e hs he b o l.length c (l.map fun x => (x.toNat : Int)) (by simp) (fun i hi => by
      have := h5 b o rfl i (u8 l[i]) (by simp [hi])
      rw [this]; simp [hi]) dst hd]
    congr 2
    simp only [strOfNums, List.map_map]
    congr 2
    conv => rhs; rw [← List.map_id l]
    apply List.map_congr_left
    intro x _; simp
theorem bytes_cell {l : List UInt8} {w : World} {b o : Nat} (h : ∀ j u, (l.map u8)[j]? = some u → w.cell? ⟨b, o + j, none⟩ = some u) (k : Nat) (hk : k < l.length) :
    w.cell? ⟨b, o + k, none⟩ = some (.int .u8 (l[k].toNat)) := h k _ (by simp [hk, u8])

/-- THE CLASS OF THE WORLDS BEHIND SOME CALLS THAT TURN NOTHING OLD: for regions that draw their order and hold such calls. -/
structure More (w : World) where
  at_ : World
  ext : Ext w at_
def Later (w : World) : World → Prop := fun w' => ∃ x : More w, w' = x.at_
theorem later_of {w w' : World} (h : Ext w w') : Later w w' := ⟨⟨w', h⟩, rfl⟩
theorem Later.ext {w w' : World} (h : Later w w') : Ext w w' := by obtain ⟨x, rfl⟩ := h; exact x.ext
theorem later_drew (w : World) : Later w { w with drawn := w.drawn + 1 } := later_of ⟨rfl, rfl, rfl, Nat.le_refl _, fun _ _ _ => rfl⟩

abbrev strs (l : List (List UInt8)) : List Value := l.map str
abbrev Texts (S : Nat → Prop) (w : World) (v : Value) (l : List (List UInt8)) : Prop := Row S w v l.length (strs l)
theorem strs_one (l : List (List UInt8)) : OneCells (strs l) := by intro u hu; obtain ⟨x, _, rfl⟩ := List.mem_map.1 hu; rfl
theorem Tryz.textsT : SliceT Tryz.prog 24 9 1 16 := sliceT_of Tryz.underlying24 (by kernel_rfl) (by decide)
theorem texts_cell {l : List (List UInt8)} {w : World} {b o : Nat} (h : ∀ j u, (strs l)[j]? = some u → w.cell? ⟨b, o + j, none⟩ = some u) (k : Nat) (hk : k < l.length) :
    w.cell? ⟨b, o + k, none⟩ = some (str l[k]) := h k _ (by simp [hk])

/-- Are two the same? (A name, so that no walk takes it apart.) -/
def eqB {α : Type} [DecidableEq α] (a b : α) : Bool := decide (a = b)
theorem eqB_self {α : Type} [DecidableEq α] (a : α) : eqB a a = true := by simp [eqB]
theorem eqB_ne {α : Type} [DecidableEq α] {a b : α} (h : ¬ a = b) : eqB a b = false := by simp [eqB, h]
theorem bytes_toList (l : List UInt8) : (⟨l.toArray⟩ : ByteArray).toList = l := by rw [ByteArray.toList_eq]
theorem index_str {P : Program} {T : TypeId} (hT : P.underlying T = some .string) {ps : List UInt8} {k : Nat} {c : UInt8} {m : Int} (hc : ps[k]? = some c) (hm : (c.toNat : Int) = m) (w : World) : (Instr.index T (str ps) (.int .i64 k)).run P w = .ok (.int .u8 m) w := by
  subst hm
  obtain ⟨hk, hck⟩ := List.getElem?_eq_some_iff.1 hc
  have hk' : k < (⟨ps.toArray⟩ : ByteArray).size := hk
  have hget : (⟨ps.toArray⟩ : ByteArray)[k]'hk' = c := hck
  rw [run_index_string _ _ _ _ _ hT, dif_pos ⟨by omega, by exact_mod_cast hk'⟩]
  congr 3
  simp only [Int.toNat_natCast]; rw [hget]
end Go.Proofs.YtkbmmoobcikbaaaGreatDoor
namespace Go.Proofs.YtkbmmoobcikbaaaGreatDoor
open Go.RowKit

/-- The act a, with the slots dst i of those that are listed filled. -/
def fillN (a : Act) (dst : Nat → Tmp) (listed : Array Bool) (v : Nat → Value) : Nat → Act
  | 0 => a
  | n + 1 => if listed.getD n false then (fillN a dst listed v n).put (some (dst n)) (v n) else fillN a dst listed v n
def fillAll (a : Act) (dst : Nat → Tmp) (v : Nat → Value) : Nat → Act
  | 0 => a
  | n + 1 => (fillAll a dst v n).put (some (dst n)) (v n)
theorem fillN_congr {a : Act} {dst : Nat → Tmp} {l l' : Array Bool} {v v' : Nat → Value} : ∀ n, (∀ i, i < n → l.getD i false = l'.getD i false) → (∀ i, i < n → l.getD i false = true → v i = v' i) → fillN a dst l v n = fillN a dst l' v' n
  | 0, _, _ => rfl
  | n + 1, h1, h2 => by
    have ih := fillN_congr (a := a) (dst := dst) n (fun i hi => h1 i (by omega)) (fun i hi => h2 i (by omega))
    unfold fillN
    rw [← h1 n (by omega), ih]
    split
    · rename_i hl; rw [h2 n (by omega) hl]
    · rfl
theorem fillN_all {a : Act} {dst : Nat → Tmp} {l : Array Bool} {v : Nat → Value} : ∀ n, (∀ i, i < n → l.getD i false = true) → fillN a dst l v n = fillAll a dst v n
  | 0, _ => rfl
  | n + 1, h => by unfold fillN fillAll; rw [if_pos (h n (by omega)), fillN_all n (fun i hi => h i (by omega))]
theorem fillN_none {a : Act} {dst : Nat → Tmp} {l : Array Bool} {v : Nat → Value} : ∀ n, (∀ i, i < n → l.getD i false = false) → fillN a dst l v n = a
  | 0, _ => rfl
  | n + 1, h => by unfold fillN; rw [if_neg (by rw [h n (by omega)]; decide), fillN_none n (fun i hi => h i (by omega))]
theorem getD_set_eq' {l : Array Bool} {i : Nat} (h : i < l.size) : (l.setIfInBounds i true).getD i false = true := by
  simp [Array.getD, h]
theorem fillN_put {a : Act} {dst : Nat → Tmp} {l : Array Bool} {v : Nat → Value} {i : Nat} (x : Value) (hl : l.getD i false = false) : ∀ n, (∀ j, j < n → j ≠ i → dst j ≠ dst i) → i < l.size →
    (i < n → (fillN a dst l v n).put (some (dst i)) x = fillN a dst (l.setIfInBounds i true) (fun j => if j = i then x else v j) n) ∧ (n ≤ i → fillN a dst l v n = fillN a dst (l.setIfInBounds i true) (fun j => if j = i then x else v j) n)
  | 0, _, _ => ⟨fun h => absurd h (Nat.not_lt_zero _), fun _ => rfl⟩
  | n + 1, hd, hs => by
    obtain ⟨ih1, ih2⟩ := fillN_put (a := a) (v := v) x hl n (fun j hj => hd j (by omega)) hs
    refine ⟨fun hi => ?_, fun hi => ?_⟩
    · by_cases hn : n = i
      · subst hn
        have h2 := ih2 (Nat.le_refl _)
        simp only [fillN]
        rw [hl, if_neg (by decide), h2, getD_set_eq' hs, if_pos rfl]
        simp
      · have h1 := ih1 (by omega)
        simp only [fillN]
        rw [getD_set_ne false (fun e => hn e.symm), if_neg hn]
        split
        · rw [Act.put_comm _ _ _ (fun d hq e => hd n (by omega) hn (Option.some.inj (hq.trans e.symm))), h1]
        · exact h1
    · simp only [fillN]
      rw [getD_set_ne false (show i ≠ n by omega), if_neg (show ¬ n = i by omega), ih2 (by omega)]
theorem fillN_defers {a : Act} {dst : Nat → Tmp} {l : Array Bool} {v : Nat → Value} : ∀ n, (fillN a dst l v n).defers = a.defers
  | 0 => rfl
  | n + 1 => by
    unfold fillN
    split
    · have : ∀ (b : Act) x y, (b.put x y).defers = b.defers := fun b x y => by unfold Act.put; split <;> rfl
      rw [this, fillN_defers n]
    · exact fillN_defers n

/-- The clauses of what is listed. -/
def InvN (S : Nat → Prop) (big : Nat) (md : Region.Mode) (ops : Array Oper) (a : Act) (w0 : World) (dst : Nat → Tmp) (Φ : Nat → Value → World → Prop) (listed : Array Bool) (b : Act) (w : World) : Prop :=
  ∃ v : Nat → Value, listed.size = ops.size ∧ b = fillN a dst listed v ops.size ∧ Upd S w0 w ∧ (listed.getD big false = false → Ext w0 w) ∧ (∀ i, i < ops.size → listed.getD i false = true → Φ i (v i) w) ∧ ∀ (i : Nat) (o : Oper), ops[i]? = some o → listed.getD i false = true → ∀ e ∈ o.after, Region.binds md e = true → listed.getD e.on false = true
/-- A slot of an act that is filled. -/
theorem fillN_at {a : Act} {dst : Nat → Tmp} {l : Array Bool} {v : Nat → Value} {i : Nat} (hl : l.getD i false = true) (hs : dst i < a.tmps.size) : ∀ n, (∀ j k, j < n → k < n → dst j = dst k → j = k) → i < n → (fillN a dst l v n).tmps.getD (dst i) undef = v i ∧ (fillN a dst l v n).tmps.size = a.tmps.size := by
  have size : ∀ n, (fillN a dst l v n).tmps.size = a.tmps.size := by
    intro n
    induction n with
    | zero => rfl
    | succ n ih => unfold fillN; split <;> simp [Act.put, ih]
  intro n
  induction n with
  | zero => intro _ h; exact absurd h (Nat.not_lt_zero _)
  | succ n ih =>
    intro hd hi
    refine ⟨?_, size _⟩
    by_cases hn : n = i
    · subst hn
      unfold fillN
      rw [if_pos hl]
      have h1 : dst n < (fillN a dst l v n).tmps.size := by rw [size]; exact hs
      simp [Act.put, h1]
    · have h2 := (ih (fun j k hj hk => hd j k (by omega) (by omega)) (by omega)).1
      unfold fillN
      split
      · have hne : dst n ≠ dst i := fun e => hn (hd n i (by omega) (by omega) e)
        simpa [Act.put, Array.getElem?_setIfInBounds_ne hne] using h2
      · exact h2
/-- How many are still to come. -/
def leftN (l : Array Bool) : Nat → Nat
  | 0 => 0
  | n + 1 => leftN l n + if l.getD n false then 0 else 1
theorem leftN_set {l : Array Bool} {i : Nat} (hl : l.getD i false = false) (hs : i < l.size) : ∀ n, (i < n → leftN (l.setIfInBounds i true) n + 1 = leftN l n) ∧ (n ≤ i → leftN (l.setIfInBounds i true) n = leftN l n)
  | 0 => ⟨fun h => absurd h (Nat.not_lt_zero _), fun _ => rfl⟩
  | n + 1 => by
    obtain ⟨h1, h2⟩ := leftN_set hl hs n
    refine ⟨fun hi => ?_, fun hi => ?_⟩
    · by_cases hn : n = i
      · subst hn
        have := h2 (Nat.le_refl _)
        simp only [leftN]
        rw [getD_set_eq' hs, hl, this]; simp
      · have := h1 (by omega)
        simp only [leftN]
        rw [getD_set_ne false (fun e => hn e.symm)]; omega
    · simp only [leftN]
      rw [getD_set_ne false (show i ≠ n by omega), h2 (by omega)]
theorem leftN_zero {l : Array Bool} : ∀ n, leftN l n = 0 → ∀ i, i < n → l.getD i false = true
  | 0, _, i, hi => absurd hi (Nat.not_lt_zero _)
  | n + 1, h, i, hi => by
    simp only [leftN] at h
    by_cases hn : i = n
    · subst hn
      cases hq : l.getD i false with
      | true => rfl
      | false => rw [hq] at h; simp at h
    · exact leftN_zero n (by omega) i (by omega)
theorem leftN_le {l : Array Bool} : ∀ n, leftN l n ≤ n
  | 0 => Nat.le_refl _
  | n + 1 => by have := leftN_le (l := l) n; simp only [leftN]; split <;> omega
theorem getD_flip {l : Array Bool} {i : Nat} (h : i < l.size) : l.getD i true = l.getD i false := by simp [Array.getD, h]
/-- Where nothing may come up all has come up: each waits for earlier ones alone. -/
theorem all_listed {md : Region.Mode} {ops : Array Oper} {l : Array Bool} (hs : l.size = ops.size) (hac : ∀ (i : Nat) (o : Oper), ops[i]? = some o → ∀ e ∈ o.after, e.on < i) (hr : Region.ready md ops l = []) : ∀ n i, i < n → i < ops.size → l.getD i false = true
  | 0, i, h, _ => absurd h (Nat.not_lt_zero _)
  | n + 1, i, h, hi => by
    by_cases hn : i < n
    · exact all_listed hs hac hr n i hn hi
    · cases hq : l.getD i false with
      | true => rfl
      | false =>
        exfalso
        have hm : i ∈ Region.ready md ops l := mem_ready.2 ⟨by rw [getD_flip (by omega), hq], ops[i], by simp [hi], fun e he _ => all_listed hs hac hr n e.on (by have := hac i ops[i] (by simp [hi]) e he; omega) (by have := hac i ops[i] (by simp [hi]) e he; omega)⟩
        rw [hr] at hm; cases hm

/-- A slot that nothing listed fills. -/
theorem fillN_other {a : Act} {dst : Nat → Tmp} {l : Array Bool} {v : Nat → Value} {t : Nat} : ∀ n, (∀ j, j < n → l.getD j false = true → dst j ≠ t) → (fillN a dst l v n).tmps.getD t undef = a.tmps.getD t undef
  | 0, _ => rfl
  | n + 1, h => by
    have ih := fillN_other (a := a) (v := v) n (fun j hj => h j (by omega))
    unfold fillN
    split
    · rename_i hl
      have hne : dst n ≠ t := h n (by omega) hl
      simpa [Act.put, Array.getElem?_setIfInBounds_ne hne] using ih
    · exact ih
/-- Does j wait for i, through others too? -/
def anc (md : Region.Mode) (ops : Array Oper) (i : Nat) : Nat → Nat → Bool
  | 0, _ => false
  | n + 1, j => match ops[j]? with | some o => o.after.toList.any fun e => Region.binds md e && (e.on == i || anc md ops i n e.on) | none => false
theorem anc_listed {md : Region.Mode} {ops : Array Oper} {l : Array Bool} {i : Nat} (hcl : ∀ (j : Nat) (o : Oper), ops[j]? = some o → l.getD j false = true → ∀ e ∈ o.after, Region.binds md e = true → l.getD e.on false = true) :
    ∀ n j, l.getD j false = true → anc md ops i n j = true → l.getD i false = true
  | 0, _, _, h => by cases h
  | n + 1, j, hj, h => by
    unfold anc at h
    split at h
    · rename_i o ho
      rw [List.any_eq_true] at h
      obtain ⟨e, he, hb⟩ := h
      simp only [Bool.and_eq_true, Bool.or_eq_true, beq_iff_eq] at hb
      have h1 := hcl j o ho hj e (by simpa using he) hb.1
      rcases hb.2 with h2 | h2
      · rw [← h2]; exact h1
      · exact anc_listed hcl n e.on h1 h2
    · cases h
theorem wpAny_inv {S : Nat → Prop} {R : Nat → World → World → Prop} {big : Nat} {P : Program} {md : Region.Mode} {ops : Array Oper} {Q : Exit → Act → World → Prop} {a : Act} {w0 : World} {dst : Nat → Tmp} {Φ : Nat → Value → World → Prop}
    (hac : ∀ (i : Nat) (o : Oper), ops[i]? = some o → ∀ e ∈ o.after, e.on < i)
    (hinj : ∀ j k, j < ops.size → k < ops.size → dst j = dst k → j = k) (hsz : ∀ i, i < ops.size → dst i < a.tmps.size)
    (hR : ∀ i w w', R i w w' → Upd S w w' ∧ (i ≠ big → Ext w w')) (hΦ : ∀ i j v w w', i < ops.size → j < ops.size → i ≠ j → anc md ops i ops.size j = false → Φ j v w → R i w w' → Φ j v w')
    (step : ∀ (i : Nat) (o : Oper) (b : Act) (w : World), ops[i]? = some o → Upd S w0 w → (∀ e ∈ o.after, Region.binds md e = true → Φ e.on (b.tmps.getD (dst e.on) undef) w) → (∀ t, (∀ (j : Nat) (oj : Oper), ops[j]? = some oj → dst j = t → j = i ∨ ∃ e ∈ oj.after, Region.binds md e = true ∧ e.on = i) → b.tmps.getD t undef = a.tmps.getD t undef) → (i = big → Ext w0 w) →
      Region.wanted o (yielded ops b.tmps) = true ∧ o.wp P b w (fun b' w' => ∃ v, b' = b.put (some (dst i)) v ∧ Φ i v w' ∧ R i w w') Q)
    (fin : ∀ v w, Upd S w0 w → (∀ i, i < ops.size → Φ i (v i) w) → Q .normal (fillAll a dst v ops.size) w) :
    ∀ (fuel : Nat) (listed : Array Bool) (b : Act) (w : World), leftN listed ops.size ≤ fuel → InvN S big md ops a w0 dst Φ listed b w → wpAny P md ops Q fuel listed b w := by
  have done : ∀ (listed : Array Bool) (b : Act) (w : World), InvN S big md ops a w0 dst Φ listed b w → Region.ready md ops listed = [] → Q .normal b w := by
    intro listed b w hI hr
    obtain ⟨v, hs, rfl, hx, hbg, hp, hcl⟩ := hI
    have hall := fun i hi => all_listed hs hac hr ops.size i hi hi
    rw [fillN_all _ hall]
    exact fin v w hx (fun i hi => hp i hi (hall i hi))
  intro fuel
  induction fuel with
  | zero =>
    intro listed b w hl hI
    have hall := leftN_zero (l := listed) ops.size (by omega)
    have hr : Region.ready md ops listed = [] := by
      rw [List.eq_nil_iff_forall_not_mem]
      intro i hi
      obtain ⟨h0, o, ho, -⟩ := mem_ready.1 hi
      obtain ⟨v, hs, -⟩ := hI
      have hlt : i < ops.size := (Array.getElem?_eq_some_iff.1 ho).1
      rw [getD_flip (by omega), hall i hlt] at h0; cases h0
    exact ⟨hr, done _ _ _ hI hr⟩
  | succ fuel ih =>
    intro listed b w hl hI
    refine ⟨done _ _ _ hI, fun i hi => ?_⟩
    obtain ⟨h0, o, ho, hall⟩ := mem_ready.1 hi
    obtain ⟨v, hs, rfl, hx, hbg, hp, hcl⟩ := hI
    have hlt : i < ops.size := (Array.getElem?_eq_some_iff.1 ho).1
    rw [getD_flip (by omega)] at h0
    have hw := step i o (fillN a dst listed v ops.size) w ho hx (fun e he hb => by
      have h1 := hac i o ho e he
      have h2 := hall e he hb
      rw [(fillN_at h2 (hsz _ (by omega)) ops.size hinj (by omega)).1]
      exact hp _ (by omega) h2) (fun t ht => fillN_other ops.size fun j hj hlj he => by
        obtain ⟨oj, hoj⟩ : ∃ oj, ops[j]? = some oj := ⟨ops[j], by simp [hj]⟩
        rcases ht j oj hoj he with rfl | ⟨e, he1, he2, he3⟩
        · rw [h0] at hlj; cases hlj
        · have := hcl j oj hoj hlj e he1 he2
          rw [he3, h0] at this; cases this) (fun e => hbg (by rw [← e]; exact h0))
    unfold wpOp
    rw [ho]
    simp only [hw.1, if_true]
    refine .inl (Oper.wp_mono ?_ hw.2)
    rintro b' w' ⟨x, rfl, hx1, hx2⟩
    have hp2 := (fillN_put (a := a) (v := v) x h0 ops.size (fun j hj hne he => hne (hinj j i hj hlt he)) (by omega)).1 hlt
    refine ih _ _ _ (by have := (leftN_set h0 (show i < listed.size by omega) ops.size).1 hlt; omega) ⟨fun j => if j = i then x else v j, by simp [hs], hp2, hx.trans (hR _ _ _ hx2).1, fun hb0 => ?_, fun j hj hlj => ?_, fun j oj hoj hlj e he hb => ?_⟩
    · by_cases hbi : big = i
      · rw [hbi, getD_set_eq' (by omega)] at hb0; cases hb0
      · rw [getD_set_ne false (fun e => hbi e.symm)] at hb0
        exact (hbg hb0).trans ((hR _ _ _ hx2).2 (fun e => hbi e.symm))
    rotate_left
    · by_cases hji : j = i
      · subst hji
        rw [ho] at hoj; cases hoj
        exact getD_set_true (hall e he hb)
      · rw [getD_set_ne false (fun e => hji e.symm)] at hlj
        exact getD_set_true (hcl j oj hoj hlj e he hb)
    by_cases hji : j = i
    · subst hji; simpa using hx1
    · show Φ j (if j = i then x else v j) w'
      rw [if_neg hji]
      rw [getD_set_ne false (fun e => hji e.symm)] at hlj
      refine hΦ i j _ _ _ hlt hj (fun e => hji e.symm) ?_ (hp j hj hlj) hx2
      cases hq : anc md ops i ops.size j with
      | false => rfl
      | true => have := anc_listed hcl _ _ hlj hq; rw [h0] at this; cases this
/-- **A REGION THAT DRAWS ITS ORDER.** -/
theorem wp_region_inv (S : Nat → Prop) (R : Nat → World → World → Prop) (big : Nat) {P : Program} {id : Nat} {ops : Array Oper} {Q : Exit → Act → World → Prop} {a : Act} {w : World} (dst : Nat → Tmp) (Φ : Nat → Value → World → Prop) (hm : P.follows .mixedOrders = true)
    (hac : ∀ (i : Nat) (o : Oper), ops[i]? = some o → ∀ e ∈ o.after, e.on < i)
    (hinj : ∀ j k, j < ops.size → k < ops.size → dst j = dst k → j = k) (hsz : ∀ i, i < ops.size → dst i < a.tmps.size)
    (hR : ∀ i w w', R i w w' → Upd S w w' ∧ (i ≠ big → Ext w w')) (hΦ : ∀ i j v w w', i < ops.size → j < ops.size → i ≠ j → anc .any ops i ops.size j = false → Φ j v w → R i w w' → Φ j v w')
    (step : ∀ (i : Nat) (o : Oper) (b : Act) (w1 : World), ops[i]? = some o → Upd S w w1 → (∀ e ∈ o.after, Region.binds .any e = true → Φ e.on (b.tmps.getD (dst e.on) undef) w1) → (∀ t, (∀ (j : Nat) (oj : Oper), ops[j]? = some oj → dst j = t → j = i ∨ ∃ e ∈ oj.after, Region.binds .any e = true ∧ e.on = i) → b.tmps.getD t undef = a.tmps.getD t undef) → (i = big → Ext w w1) →
      Region.wanted o (yielded ops b.tmps) = true ∧ o.wp P b w1 (fun b' w' => ∃ v, b' = b.put (some (dst i)) v ∧ Φ i v w' ∧ R i w1 w') Q)
    (fin : ∀ v w1, Upd S w w1 → (∀ i, i < ops.size → Φ i (v i) w1) → Q .normal (fillAll a dst v ops.size) w1) : (Code.region id ops true).wp P Q a w := by
  have hx : Upd S w { w with drawn := w.drawn + 1 } := ⟨rfl, rfl, rfl, Nat.le_refl _, fun _ _ _ => rfl⟩
  refine wp_region_any hm (wpAny_inv (w0 := { w with drawn := w.drawn + 1 }) hac hinj hsz hR hΦ (fun i o b w1 ho h1 hd hk hE0 => have hE : i = big → Ext w w1 := fun e => (show Ext w { w with drawn := w.drawn + 1 } from ⟨rfl, rfl, rfl, Nat.le_refl _, fun _ _ _ => rfl⟩).trans (hE0 e); step i o b w1 ho (hx.trans h1) hd hk hE) (fun v w1 h1 hp => fin v w1 (hx.trans h1) hp) _ _ _ _ (leftN_le _) ⟨fun _ => undef, by simp, ?_, Upd.refl _ _, fun _ => Upd.refl _ _, fun i hi hl => ?_, fun i o ho hl => ?_⟩)
  · rw [fillN_none _ (fun i hi => by simp [hi])]
  · simp [hi] at hl
  · have hi : i < ops.size := (Array.getElem?_eq_some_iff.1 ho).1
    simp [hi] at hl
/-- .. the side conditions as Bools. -/
theorem wp_region_inv' (S : Nat → Prop) (R : Nat → World → World → Prop) (big : Nat) {P : Program} {id : Nat} {ops : Array Oper} {Q : Exit → Act → World → Prop} {a : Act} {w : World} (dst : Nat → Tmp) (Φ : Nat → Value → World → Prop) (N : Nat) (hm : P.follows .mixedOrders = true)
    (hgd : (ops.toList.all fun o => o.guard.isNone) = true) (hac : ((List.range ops.size).all fun i => match ops[i]? with | some o => o.after.toList.all fun e => decide (e.on < i) | none => true) = true)
    (hinj : ((List.range ops.size).all fun j => (List.range ops.size).all fun k => decide (dst j = dst k → j = k)) = true) (hN : a.tmps.size = N) (hsz : ((List.range ops.size).all fun i => decide (dst i < N)) = true)
    (hR : ∀ i w w', R i w w' → Upd S w w' ∧ (i ≠ big → Ext w w')) (hΦ : ∀ i j v w w', i < ops.size → j < ops.size → i ≠ j → anc .any ops i ops.size j = false → Φ j v w → R i w w' → Φ j v w')
    (step : ∀ (i : Nat) (o : Oper) (b : Act) (w1 : World), ops[i]? = some o → Upd S w w1 → (∀ e ∈ o.after, Region.binds .any e = true → Φ e.on (b.tmps.getD (dst e.on) undef) w1) → (∀ t, (∀ (j : Nat) (oj : Oper), ops[j]? = some oj → dst j = t → j = i ∨ ∃ e ∈ oj.after, Region.binds .any e = true ∧ e.on = i) → b.tmps.getD t undef = a.tmps.getD t undef) → (i = big → Ext w w1) →
      o.wp P b w1 (fun b' w' => ∃ v, b' = b.put (some (dst i)) v ∧ Φ i v w' ∧ R i w1 w') Q)
    (fin : ∀ v w1, Upd S w w1 → (∀ i, i < ops.size → Φ i (v i) w1) → Q .normal (fillAll a dst v ops.size) w1) : (Code.region id ops true).wp P Q a w := by
  subst hN
  simp only [List.all_eq_true, List.mem_range, decide_eq_true_eq] at hinj hsz
  refine wp_region_inv S R big dst Φ hm (fun i o ho e he => ?_) (fun j k hj hk => hinj j hj k hk) (fun i hi => hsz i hi) hR hΦ (fun i o b w1 ho h1 h2 h3 h4 => ⟨?_, step i o b w1 ho h1 h2 h3 h4⟩) fin
  rotate_left
  · obtain ⟨h1, h2⟩ := Array.getElem?_eq_some_iff.1 ho
    rw [List.all_eq_true] at hgd
    have hn : o.guard = none := by simpa using hgd o (by rw [← h2]; simp)
    simp [Region.wanted, hn]
  · have hlt : i < ops.size := (Array.getElem?_eq_some_iff.1 ho).1
    rw [List.all_eq_true] at hac
    have := hac i (List.mem_range.2 hlt)
    rw [ho] at this
    simp only [List.all_eq_true, decide_eq_true_eq] at this
    exact this e (by simpa using he)
/-- .. with guards: each step shows besides that its operation is wanted. -/
theorem wp_region_invG (S : Nat → Prop) (R : Nat → World → World → Prop) (big : Nat) {P : Program} {id : Nat} {ops : Array Oper} {Q : Exit → Act → World → Prop} {a : Act} {w : World} (dst : Nat → Tmp) (Φ : Nat → Value → World → Prop) (N : Nat) (hm : P.follows .mixedOrders = true)
    (hac : ((List.range ops.size).all fun i => match ops[i]? with | some o => o.after.toList.all fun e => decide (e.on < i) | none => true) = true)
    (hinj : ((List.range ops.size).all fun j => (List.range ops.size).all fun k => decide (dst j = dst k → j = k)) = true) (hN : a.tmps.size = N) (hsz : ((List.range ops.size).all fun i => decide (dst i < N)) = true)
    (hR : ∀ i w w', R i w w' → Upd S w w' ∧ (i ≠ big → Ext w w')) (hΦ : ∀ i j v w w', i < ops.size → j < ops.size → i ≠ j → anc .any ops i ops.size j = false → Φ j v w → R i w w' → Φ j v w')
    (step : ∀ (i : Nat) (o : Oper) (b : Act) (w1 : World), ops[i]? = some o → Upd S w w1 → (∀ e ∈ o.after, Region.binds .any e = true → Φ e.on (b.tmps.getD (dst e.on) undef) w1) → (∀ t, (∀ (j : Nat) (oj : Oper), ops[j]? = some oj → dst j = t → j = i ∨ ∃ e ∈ oj.after, Region.binds .any e = true ∧ e.on = i) → b.tmps.getD t undef = a.tmps.getD t undef) → (i = big → Ext w w1) →
      Region.wanted o (yielded ops b.tmps) = true ∧ o.wp P b w1 (fun b' w' => ∃ v, b' = b.put (some (dst i)) v ∧ Φ i v w' ∧ R i w1 w') Q)
    (fin : ∀ v w1, Upd S w w1 → (∀ i, i < ops.size → Φ i (v i) w1) → Q .normal (fillAll a dst v ops.size) w1) : (Code.region id ops true).wp P Q a w := by
  subst hN
  simp only [List.all_eq_true, List.mem_range, decide_eq_true_eq] at hinj hsz
  refine wp_region_inv S R big dst Φ hm (fun i o ho e he => ?_) (fun j k hj hk => hinj j hj k hk) (fun i hi => hsz i hi) hR hΦ step fin
  have hlt : i < ops.size := (Array.getElem?_eq_some_iff.1 ho).1
  rw [List.all_eq_true] at hac
  have := hac i (List.mem_range.2 hlt)
  rw [ho] at this
  simp only [List.all_eq_true, decide_eq_true_eq] at this
  exact this e (by simpa using he)
theorem tmp_some {b : Act} {t : Tmp} {v : Bool} (h : b.tmps.getD t undef = .bool v) : b.tmps[t]? = some (.bool v) := by
  cases hq : b.tmps[t]? with
  | none => simp [hq] at h; cases h
  | some x => simp [hq] at h; rw [h]

theorem wpList_load_blk_g {P : Program} {w : World} {ops : Array Oper} {rest : List Oper} {o : Oper} {a : Act} {Q : Exit → Act → World → Prop} (hw : Region.wanted o (yielded ops a.tmps) = true) (ty : TypeId) (x : Operand) (ho : o.op = .load ty x) {g : Nat} (hx : a.eval x = .pointer (some ⟨g, 0, none⟩)) {t : TypeId} {cs : Array Value} {fr : Nat × Nat}
    (hg : w.heap[g]? = some (.cells cs t fr)) (T : StructT P ty cs.size) (h : wpList P ops Q rest (a.put o.dst (.agg cs)) w) : wpList P ops Q (o :: rest) a w := by
  obtain ⟨d, h1, h2, h3⟩ := T
  show (if _ then _ else _)
  rw [if_pos hw]
  exact .inl (wp_load_row ty x ho g hx t cs fr d hg h1 (by cases d <;> simp_all) h3 h)

/-- Where nothing may come up all has come up: each waits for earlier ones alone. -/
theorem all_listedB {md : Region.Mode} {ops : Array Oper} {l : Array Bool} (hs : l.size = ops.size) (hac : ∀ (i : Nat) (o : Oper), ops[i]? = some o → ∀ e ∈ o.after, Region.binds md e = true → e.on < i) (hr : Region.ready md ops l = []) : ∀ n i, i < n → i < ops.size → l.getD i false = true
  | 0, i, h, _ => absurd h (Nat.not_lt_zero _)
  | n + 1, i, h, hi => by
    by_cases hn : i < n
    · exact all_listedB hs hac hr n i hn hi
    · cases hq : l.getD i false with
      | true => rfl
      | false =>
        exfalso
        have hm : i ∈ Region.ready md ops l := mem_ready.2 ⟨by rw [getD_flip (by omega), hq], ops[i], by simp [hi], fun e he hb => all_listedB hs hac hr n e.on (by have := hac i ops[i] (by simp [hi]) e he hb; omega) (by have := hac i ops[i] (by simp [hi]) e he hb; omega)⟩
        rw [hr] at hm; cases hm

theorem fillN_size {a : Act} {dst : Nat → Tmp} {l : Array Bool} {v : Nat → Value} : ∀ n, (fillN a dst l v n).tmps.size = a.tmps.size
  | 0 => rfl
  | n + 1 => by
    have ih := fillN_size (a := a) (dst := dst) (l := l) (v := v) n
    unfold fillN
    split
    · simp [Act.put, ih]
    · exact ih
theorem wpAny_invH {S : Nat → Prop} {R : Nat → World → World → Prop} {big : Nat} {P : Program} {md : Region.Mode} {ops : Array Oper} {Q : Exit → Act → World → Prop} {a : Act} {w0 : World} {dst : Nat → Tmp} {Φ : Nat → Value → World → Prop}
    (hac : ∀ (i : Nat) (o : Oper), ops[i]? = some o → ∀ e ∈ o.after, Region.binds md e = true → e.on < i)
    (hinj : ∀ j k, j < ops.size → k < ops.size → dst j = dst k → j = k) (hsz : ∀ i, i < ops.size → dst i < a.tmps.size ∨ ∀ v v' w, Φ i v w → Φ i v' w)
    (hR : ∀ i w w', R i w w' → Upd S w w' ∧ (i ≠ big → Ext w w')) (hΦ : ∀ i j v w w', i < ops.size → j < ops.size → i ≠ j → anc md ops i ops.size j = false → Φ j v w → R i w w' → Φ j v w')
    (step : ∀ (i : Nat) (o : Oper) (b : Act) (w : World), ops[i]? = some o → Upd S w0 w → (∀ e ∈ o.after, Region.binds md e = true → Φ e.on (b.tmps.getD (dst e.on) undef) w) → (∀ t, (∀ (j : Nat) (oj : Oper), ops[j]? = some oj → dst j = t → j = i ∨ ∃ e ∈ oj.after, Region.binds md e = true ∧ e.on = i) → b.tmps.getD t undef = a.tmps.getD t undef) → ((i = big ∨ anc md ops i ops.size big = true) → Ext w0 w) → b.tmps.size = a.tmps.size →
      (Region.wanted o (yielded ops b.tmps) = true ∧ o.wp P b w (fun b' w' => ∃ v, b' = b.put (some (dst i)) v ∧ Φ i v w' ∧ R i w w') Q) ∨ (Region.wanted o (yielded ops b.tmps) = false ∧ o.dst = some (dst i) ∧ Φ i undef w ∧ R i w w))
    (fin : ∀ v w, Upd S w0 w → (∀ i, i < ops.size → Φ i (v i) w) → Q .normal (fillAll a dst v ops.size) w) :
    ∀ (fuel : Nat) (listed : Array Bool) (b : Act) (w : World), leftN listed ops.size ≤ fuel → InvN S big md ops a w0 dst Φ listed b w → wpAny P md ops Q fuel listed b w := by
  have done : ∀ (listed : Array Bool) (b : Act) (w : World), InvN S big md ops a w0 dst Φ listed b w → Region.ready md ops listed = [] → Q .normal b w := by
    intro listed b w hI hr
    obtain ⟨v, hs, rfl, hx, hbg, hp, hcl⟩ := hI
    have hall := fun i hi => all_listedB hs hac hr ops.size i hi hi
    rw [fillN_all _ hall]
    exact fin v w hx (fun i hi => hp i hi (hall i hi))
  intro fuel
  induction fuel with
  | zero =>
    intro listed b w hl hI
    have hall := leftN_zero (l := listed) ops.size (by omega)
    have hr : Region.ready md ops listed = [] := by
      rw [List.eq_nil_iff_forall_not_mem]
      intro i hi
      obtain ⟨h0, o, ho, -⟩ := mem_ready.1 hi
      obtain ⟨v, hs, -⟩ := hI
      have hlt : i < ops.size := (Array.getElem?_eq_some_iff.1 ho).1
      rw [getD_flip (by omega), hall i hlt] at h0; cases h0
    exact ⟨hr, done _ _ _ hI hr⟩
  | succ fuel ih =>
    intro listed b w hl hI
    refine ⟨done _ _ _ hI, fun i hi => ?_⟩
    obtain ⟨h0, o, ho, hall⟩ := mem_ready.1 hi
    obtain ⟨v, hs, rfl, hx, hbg, hp, hcl⟩ := hI
    have hlt : i < ops.size := (Array.getElem?_eq_some_iff.1 ho).1
    rw [getD_flip (by omega)] at h0
    have hw := step i o (fillN a dst listed v ops.size) w ho hx (fun e he hb => by
      have h1 := hac i o ho e he hb
      have h2 := hall e he hb
      rcases hsz e.on (by omega) with h3 | h3
      · rw [(fillN_at h2 h3 ops.size hinj (by omega)).1]
        exact hp _ (by omega) h2
      · exact h3 _ _ _ (hp _ (by omega) h2)) (fun t ht => fillN_other ops.size fun j hj hlj he => by
        obtain ⟨oj, hoj⟩ : ∃ oj, ops[j]? = some oj := ⟨ops[j], by simp [hj]⟩
        rcases ht j oj hoj he with rfl | ⟨e, he1, he2, he3⟩
        · rw [h0] at hlj; cases hlj
        · have := hcl j oj hoj hlj e he1 he2
          rw [he3, h0] at this; cases this) (fun e => hbg (by
        rcases e with e | e
        · rw [← e]; exact h0
        · cases hq : listed.getD big false with
          | false => rfl
          | true => have := anc_listed hcl _ _ hq e; rw [h0] at this; cases this)) (fillN_size _)
    have fin2 : ∀ x w', Φ i x w' → R i w w' → wpAny P md ops Q fuel (listed.setIfInBounds i true) ((fillN a dst listed v ops.size).put (some (dst i)) x) w' := by
      intro x w' hx1 hx2
      have hp2 := (fillN_put (a := a) (v := v) x h0 ops.size (fun j hj hne he => hne (hinj j i hj hlt he)) (by omega)).1 hlt
      refine ih _ _ _ (by have := (leftN_set h0 (show i < listed.size by omega) ops.size).1 hlt; omega) ⟨fun j => if j = i then x else v j, by simp [hs], hp2, hx.trans (hR _ _ _ hx2).1, fun hb0 => ?_, fun j hj hlj => ?_, fun j oj hoj hlj e he hb => ?_⟩
      · by_cases hbi : big = i
        · rw [hbi, getD_set_eq' (by omega)] at hb0; cases hb0
        · rw [getD_set_ne false (fun e => hbi e.symm)] at hb0
          exact (hbg hb0).trans ((hR _ _ _ hx2).2 (fun e => hbi e.symm))
      rotate_left
      · by_cases hji : j = i
        · subst hji
          rw [ho] at hoj; cases hoj
          exact getD_set_true (hall e he hb)
        · rw [getD_set_ne false (fun e => hji e.symm)] at hlj
          exact getD_set_true (hcl j oj hoj hlj e he hb)
      by_cases hji : j = i
      · subst hji; simpa using hx1
      · show Φ j (if j = i then x else v j) w'
        rw [if_neg hji]
        rw [getD_set_ne false (fun e => hji e.symm)] at hlj
        refine hΦ i j _ _ _ hlt hj (fun e => hji e.symm) ?_ (hp j hj hlj) hx2
        cases hq : anc md ops i ops.size j with
        | false => rfl
        | true => have := anc_listed hcl _ _ hlj hq; rw [h0] at this; cases this
    unfold wpOp
    rw [ho]
    rcases hw with hw | hw
    · simp only [hw.1, if_true]
      refine .inl (Oper.wp_mono ?_ hw.2)
      rintro b' w' ⟨x, rfl, hx1, hx2⟩
      exact fin2 x w' hx1 hx2
    · simp only [hw.1]
      rw [if_neg (by decide), hw.2.1]
      exact fin2 undef w hw.2.2.1 hw.2.2.2
/-- **A REGION THAT DRAWS ITS ORDER.** -/
theorem wp_region_invH0 (S : Nat → Prop) (R : Nat → World → World → Prop) (big : Nat) {P : Program} {id : Nat} {ops : Array Oper} {Q : Exit → Act → World → Prop} {a : Act} {w : World} (dst : Nat → Tmp) (Φ : Nat → Value → World → Prop) (hm : P.follows .mixedOrders = true)
    (hac : ∀ (i : Nat) (o : Oper), ops[i]? = some o → ∀ e ∈ o.after, Region.binds .any e = true → e.on < i)
    (hinj : ∀ j k, j < ops.size → k < ops.size → dst j = dst k → j = k) (hsz : ∀ i, i < ops.size → dst i < a.tmps.size ∨ ∀ v v' w, Φ i v w → Φ i v' w)
    (hR : ∀ i w w', R i w w' → Upd S w w' ∧ (i ≠ big → Ext w w')) (hΦ : ∀ i j v w w', i < ops.size → j < ops.size → i ≠ j → anc .any ops i ops.size j = false → Φ j v w → R i w w' → Φ j v w')
    (step : ∀ (i : Nat) (o : Oper) (b : Act) (w1 : World), ops[i]? = some o → Upd S w w1 → (∀ e ∈ o.after, Region.binds .any e = true → Φ e.on (b.tmps.getD (dst e.on) undef) w1) → (∀ t, (∀ (j : Nat) (oj : Oper), ops[j]? = some oj → dst j = t → j = i ∨ ∃ e ∈ oj.after, Region.binds .any e = true ∧ e.on = i) → b.tmps.getD t undef = a.tmps.getD t undef) → ((i = big ∨ anc .any ops i ops.size big = true) → Ext w w1) → b.tmps.size = a.tmps.size →
      (Region.wanted o (yielded ops b.tmps) = true ∧ o.wp P b w1 (fun b' w' => ∃ v, b' = b.put (some (dst i)) v ∧ Φ i v w' ∧ R i w1 w') Q) ∨ (Region.wanted o (yielded ops b.tmps) = false ∧ o.dst = some (dst i) ∧ Φ i undef w1 ∧ R i w1 w1))
    (fin : ∀ v w1, Upd S w w1 → (∀ i, i < ops.size → Φ i (v i) w1) → Q .normal (fillAll a dst v ops.size) w1) : (Code.region id ops true).wp P Q a w := by
  have hx : Upd S w { w with drawn := w.drawn + 1 } := ⟨rfl, rfl, rfl, Nat.le_refl _, fun _ _ _ => rfl⟩
  refine wp_region_any hm (wpAny_invH (w0 := { w with drawn := w.drawn + 1 }) hac hinj hsz hR hΦ (fun i o b w1 ho h1 hd hk hE0 hS => have hE : (i = big ∨ anc .any ops i ops.size big = true) → Ext w w1 := fun e => (show Ext w { w with drawn := w.drawn + 1 } from ⟨rfl, rfl, rfl, Nat.le_refl _, fun _ _ _ => rfl⟩).trans (hE0 e); step i o b w1 ho (hx.trans h1) hd hk hE hS) (fun v w1 h1 hp => fin v w1 (hx.trans h1) hp) _ _ _ _ (leftN_le _) ⟨fun _ => undef, by simp, ?_, Upd.refl _ _, fun _ => Upd.refl _ _, fun i hi hl => ?_, fun i o ho hl => ?_⟩)
  · rw [fillN_none _ (fun i hi => by simp [hi])]
  · simp [hi] at hl
  · have hi : i < ops.size := (Array.getElem?_eq_some_iff.1 ho).1
    simp [hi] at hl
/-- .. with guards and stores: each step shows besides whether its operation is wanted; a slot that is none may be named by a number past the frame. -/
theorem wp_region_invH (S : Nat → Prop) (R : Nat → World → World → Prop) (big : Nat) {P : Program} {id : Nat} {ops : Array Oper} {Q : Exit → Act → World → Prop} {a : Act} {w : World} (dst : Nat → Tmp) (Φ : Nat → Value → World → Prop) (N : Nat) (hm : P.follows .mixedOrders = true)
    (hac : ((List.range ops.size).all fun i => match ops[i]? with | some o => o.after.toList.all fun e => !(Region.binds .any e) || decide (e.on < i) | none => true) = true)
    (hinj : ((List.range ops.size).all fun j => (List.range ops.size).all fun k => decide (dst j = dst k → j = k)) = true) (hN : a.tmps.size = N) (hsz : ∀ i, i < ops.size → dst i < N ∨ ∀ v v' w, Φ i v w → Φ i v' w)
    (hR : ∀ i w w', R i w w' → Upd S w w' ∧ (i ≠ big → Ext w w')) (hΦ : ∀ i j v w w', i < ops.size → j < ops.size → i ≠ j → anc .any ops i ops.size j = false → Φ j v w → R i w w' → Φ j v w')
    (step : ∀ (i : Nat) (o : Oper) (b : Act) (w1 : World), ops[i]? = some o → Upd S w w1 → (∀ e ∈ o.after, Region.binds .any e = true → Φ e.on (b.tmps.getD (dst e.on) undef) w1) → (∀ t, (∀ (j : Nat) (oj : Oper), ops[j]? = some oj → dst j = t → j = i ∨ ∃ e ∈ oj.after, Region.binds .any e = true ∧ e.on = i) → b.tmps.getD t undef = a.tmps.getD t undef) → ((i = big ∨ anc .any ops i ops.size big = true) → Ext w w1) → b.tmps.size = a.tmps.size →
      (Region.wanted o (yielded ops b.tmps) = true ∧ o.wp P b w1 (fun b' w' => ∃ v, b' = b.put (some (dst i)) v ∧ Φ i v w' ∧ R i w1 w') Q) ∨ (Region.wanted o (yielded ops b.tmps) = false ∧ o.dst = some (dst i) ∧ Φ i undef w1 ∧ R i w1 w1))
    (fin : ∀ v w1, Upd S w w1 → (∀ i, i < ops.size → Φ i (v i) w1) → Q .normal (fillAll a dst v ops.size) w1) : (Code.region id ops true).wp P Q a w := by
  subst hN
  simp only [List.all_eq_true, List.mem_range, decide_eq_true_eq] at hinj
  refine wp_region_invH0 S R big dst Φ hm (fun i o ho e he hb => ?_) (fun j k hj hk => hinj j hj k hk) (fun i hi => hsz i hi) hR hΦ step fin
  have hlt : i < ops.size := (Array.getElem?_eq_some_iff.1 ho).1
  rw [List.all_eq_true] at hac
  have := hac i (List.mem_range.2 hlt)
  rw [ho] at this
  simp only [List.all_eq_true] at this
  have := this e (by simpa using he)
  rw [hb] at this
  simpa using this
theorem put_past {b : Act} {d : Tmp} {v : Value} (h : b.tmps.size ≤ d) : b = b.put (some d) v := by
  unfold Act.put
  cases b
  simp only [Act.mk.injEq, and_true]
  exact (Array.setIfInBounds_eq_of_size_le h).symm
/-- For shortened texts (minify.py): a slot read; a guard that holds, that does not, that yields nothing. -/
theorem tAt {b : Act} {t : Tmp} {v : Value} (h : b.tmps.getD t undef = v) : b.tmps[t]?.getD undef = v := by simpa using h
theorem gAt {o : Oper} {ops : Array Oper} {b : Act} {i : Nat} {v : Bool} {t : Tmp} (hg : o.guard = some (i, v)) (ht : (ops[i]?).bind (·.dst) = some t) (h : b.tmps.getD t undef = .bool v) : Region.wanted o (yielded ops b.tmps) = true := by
  have := tmp_some h
  simp [Region.wanted, yielded, hg, ht, this]
theorem gNot {o : Oper} {ops : Array Oper} {b : Act} {i : Nat} {v : Bool} {t : Tmp} (hg : o.guard = some (i, v)) (ht : (ops[i]?).bind (·.dst) = some t) (h : b.tmps.getD t undef = .bool (!v)) : Region.wanted o (yielded ops b.tmps) = false := by
  have := tmp_some h
  simp [Region.wanted, yielded, hg, ht, this]
theorem gUn {o : Oper} {ops : Array Oper} {b : Act} {i : Nat} {v : Bool} {t : Tmp} (hg : o.guard = some (i, v)) (ht : (ops[i]?).bind (·.dst) = some t) (h : b.tmps.getD t undef = undef) : Region.wanted o (yielded ops b.tmps) = false := by
  cases hq : b.tmps[t]? with
  | none => simp [Region.wanted, yielded, hg, ht, hq]
  | some u =>
    obtain rfl : u = undef := by simpa [hq] using h
    simp [Region.wanted, yielded, hg, ht, hq, undef]
end Go.Proofs.YtkbmmoobcikbaaaGreatDoor
namespace Go.Proofs.YtkbmmoobcikbaaaGreatDoor
open Go.RowKit

def mrkL (L : Nat → Bool) (i : Nat) : Nat → Bool := fun k => if k = i then true else L k
def mrkV (v : Nat → Value) (i : Nat) (x : Value) : Nat → Value := fun k => if k = i then x else v k
theorem getD_mrkL {l : Array Bool} {i : Nat} (h : i < l.size) : (fun k => (l.setIfInBounds i true).getD k false) = mrkL (fun k => l.getD k false) i := by
  funext k
  by_cases hk : k = i
  · subst hk; rw [getD_set_eq' h]; simp [mrkL]
  · rw [getD_set_ne false (fun e => hk e.symm)]; simp [mrkL, hk]
theorem wp_region_K {P : Program} {id : Nat} {ops : Array Oper} {Q : Exit → Act → World → Prop} {a : Act} {w : World} (dst : Nat → Tmp) (N : Nat) (J : (Nat → Bool) → (Nat → Value) → World → Prop) (hm : P.follows .mixedOrders = true)
    (hac : ((List.range ops.size).all fun i => match ops[i]? with | some o => o.after.toList.all fun e => !(Region.binds .any e) || decide (e.on < i) | none => true) = true)
    (hinj : ((List.range ops.size).all fun j => (List.range ops.size).all fun k => decide (dst j = dst k → j = k)) = true) (hN : a.tmps.size = N)
    (h0 : ∀ w0, Ext w w0 → w0.heap = w.heap → J (fun _ => false) (fun _ => undef) w0)
    (step : ∀ (i : Nat) (o : Oper) (b : Act) (L : Nat → Bool) (v : Nat → Value) (w1 : World), ops[i]? = some o → L i = false → (∀ e ∈ o.after, Region.binds .any e = true → L e.on = true) →
      (∀ j, j < ops.size → L j = true → dst j < N → b.tmps.getD (dst j) undef = v j) → (∀ t, (∀ j, j < ops.size → L j = true → dst j ≠ t) → b.tmps.getD t undef = a.tmps.getD t undef) → b.tmps.size = N → J L v w1 →
      (Region.wanted o (yielded ops b.tmps) = true ∧ o.wp P b w1 (fun b' w' => ∃ x, b' = b.put (some (dst i)) x ∧ J (mrkL L i) (mrkV v i x) w') Q) ∨ (Region.wanted o (yielded ops b.tmps) = false ∧ o.dst = some (dst i) ∧ J (mrkL L i) (mrkV v i undef) w1))
    (fin : ∀ L v w1, (∀ i, i < ops.size → L i = true) → J L v w1 → Q .normal (fillAll a dst v ops.size) w1) : (Code.region id ops true).wp P Q a w := by
  subst hN
  simp only [List.all_eq_true, List.mem_range, decide_eq_true_eq] at hinj
  have hacc : ∀ (i : Nat) (o : Oper), ops[i]? = some o → ∀ e ∈ o.after, Region.binds .any e = true → e.on < i := by
    intro i o ho e he hb
    have hlt : i < ops.size := (Array.getElem?_eq_some_iff.1 ho).1
    rw [List.all_eq_true] at hac
    have := hac i (List.mem_range.2 hlt)
    rw [ho] at this
    simp only [List.all_eq_true] at this
    have := this e (by simpa using he)
    rw [hb] at this
    simpa using this
  have done : ∀ (listed : Array Bool) (v : Nat → Value) (w1 : World), listed.size = ops.size → J (fun k => listed.getD k false) v w1 → Region.ready .any ops listed = [] → Q .normal (fillN a dst listed v ops.size) w1 := by
    intro listed v w1 hs hJ hr
    have hall := fun i hi => all_listedB hs hacc hr ops.size i hi hi
    rw [fillN_all _ hall]
    exact fin _ v w1 hall hJ
  have main : ∀ (fuel : Nat) (listed : Array Bool) (v : Nat → Value) (w1 : World), leftN listed ops.size ≤ fuel → listed.size = ops.size → J (fun k => listed.getD k false) v w1 → wpAny P .any ops Q fuel listed (fillN a dst listed v ops.size) w1 := by
    intro fuel
    induction fuel with
    | zero =>
      intro listed v w1 hl hs hJ
      have hall := leftN_zero (l := listed) ops.size (by omega)
      have hr : Region.ready .any ops listed = [] := by
        rw [List.eq_nil_iff_forall_not_mem]
        intro i hi
        obtain ⟨hh, o, ho, -⟩ := mem_ready.1 hi
        have hlt : i < ops.size := (Array.getElem?_eq_some_iff.1 ho).1
        rw [getD_flip (by omega), hall i hlt] at hh; cases hh
      exact ⟨hr, done _ _ _ hs hJ hr⟩
    | succ fuel ih =>
      intro listed v w1 hl hs hJ
      refine ⟨done _ _ _ hs hJ, fun i hi => ?_⟩
      obtain ⟨hh, o, ho, hall⟩ := mem_ready.1 hi
      have hlt : i < ops.size := (Array.getElem?_eq_some_iff.1 ho).1
      rw [getD_flip (by omega)] at hh
      have hw := step i o (fillN a dst listed v ops.size) (fun k => listed.getD k false) v w1 ho hh (fun e he hb => hall e he hb) (fun j hj hlj hd => (fillN_at hlj hd ops.size (fun j k hj hk => hinj j hj k hk) hj).1) (fun t ht => fillN_other ops.size fun j hj hl => ht j hj hl) (fillN_size _) hJ
      have fin2 : ∀ x w', J (mrkL (fun k => listed.getD k false) i) (mrkV v i x) w' → wpAny P .any ops Q fuel (listed.setIfInBounds i true) ((fillN a dst listed v ops.size).put (some (dst i)) x) w' := by
        intro x w' hJ'
        have hp2 := (fillN_put (a := a) (v := v) x hh ops.size (fun j hj hne he => hne (hinj j hj i hlt he)) (by omega)).1 hlt
        rw [hp2]
        refine ih _ _ _ (by have := (leftN_set hh (show i < listed.size by omega) ops.size).1 hlt; omega) (by simp [hs]) ?_
        rw [getD_mrkL (by omega)]
        exact hJ'
      unfold wpOp
      rw [ho]
      rcases hw with hw | hw
      · simp only [hw.1, if_true]
        refine .inl (Oper.wp_mono ?_ hw.2)
        rintro b' w' ⟨x, rfl, hJ'⟩
        exact fin2 x w' hJ'
      · simp only [hw.1]
        rw [if_neg (by decide), hw.2.1]
        exact fin2 undef w1 hw.2.2
  have hx : Ext w { w with drawn := w.drawn + 1 } := ⟨rfl, rfl, rfl, Nat.le_refl _, fun _ _ _ => rfl⟩
  have hn : fillN a dst (Array.replicate ops.size false) (fun _ => undef) ops.size = a := fillN_none _ (fun i hi => by simp [hi])
  refine wp_region_any hm ?_
  have := main ops.size (Array.replicate ops.size false) (fun _ => undef) { w with drawn := w.drawn + 1 } (leftN_le _) (by simp) (by
    rw [show (fun k => (Array.replicate ops.size false).getD k false) = fun _ => false from by funext k; simp [Array.getD]]
    exact h0 _ hx rfl)
  rw [hn] at this
  exact this
theorem wp_region_J {P : Program} {id : Nat} {ops : Array Oper} {Q : Exit → Act → World → Prop} {a : Act} {w : World} (dst : Nat → Tmp) (N : Nat) (J : (Nat → Bool) → (Nat → Value) → World → Prop) (hm : P.follows .mixedOrders = true)
    (hac : ((List.range ops.size).all fun i => match ops[i]? with | some o => o.after.toList.all fun e => !(Region.binds .any e) || decide (e.on < i) | none => true) = true)
    (hinj : ((List.range ops.size).all fun j => (List.range ops.size).all fun k => decide (dst j = dst k → j = k)) = true) (hN : a.tmps.size = N)
    (h0 : ∀ w0, Ext w w0 → w0.heap = w.heap → J (fun _ => false) (fun _ => undef) w0)
    (step : ∀ (i : Nat) (o : Oper) (b : Act) (L : Nat → Bool) (v : Nat → Value) (w1 : World), ops[i]? = some o → L i = false → (∀ e ∈ o.after, Region.binds .any e = true → L e.on = true) →
      (∀ j, j < ops.size → L j = true → dst j < N → b.tmps.getD (dst j) undef = v j) → (∀ t, (∀ j, j < ops.size → dst j ≠ t) → b.tmps.getD t undef = a.tmps.getD t undef) → b.tmps.size = N → J L v w1 →
      (Region.wanted o (yielded ops b.tmps) = true ∧ o.wp P b w1 (fun b' w' => ∃ x, b' = b.put (some (dst i)) x ∧ J (mrkL L i) (mrkV v i x) w') Q) ∨ (Region.wanted o (yielded ops b.tmps) = false ∧ o.dst = some (dst i) ∧ J (mrkL L i) (mrkV v i undef) w1))
    (fin : ∀ L v w1, (∀ i, i < ops.size → L i = true) → J L v w1 → Q .normal (fillAll a dst v ops.size) w1) : (Code.region id ops true).wp P Q a w :=
  wp_region_K dst N J hm hac hinj hN h0 (fun i o b L v w1 p1 p2 p3 p4 p5 p6 p7 => step i o b L v w1 p1 p2 p3 p4 (fun t ht => p5 t fun j hj _ => ht j hj) p6 p7) fin
end Go.Proofs.YtkbmmoobcikbaaaGreatDoor
