/-
  WHAT COMES IN, AND WHAT A ROW GIVES ITS WALK: what the cards of the reckoned laws share. No condition.
  NO FUNCTION OF THE PROGRAM STARTS A GOROUTINE: so no call does. Condition: that none does by its own text.
  WHAT ALL WALKS OF THIS SEAT SHARE: 'Upd' (what may have turned between two worlds), 'Row' (a slice that reads as a list of cells), small laws on both; texts' rows. No condition.
-/
import Derived.Test.YtnkmpoplibnflaaGreatDoorProg
import Derived.HandedShaped
import Derived.Handed
import Derived.Deep.Slices
import Derived.LaidMore
import Derived.Stop.LaidErr
import Derived.SevenTiedAt
import Derived.Lay
import Derived.ProofKit
import Derived.OpenShut
import Derived.ShutString
import Derived.ChangeOld
import Derived.Below
import Derived.Test.YtnkmpoplibnflaaGreatDoorCards
import Derived.Test.YtnkmpoplibnflaaGreatDoorRows
import Derived.WalkKit
import Derived.WalkSpells
import Derived.WalkLawsBesides
import Derived.Lib.Hide
import Derived.Deep.QuietTactic
import Derived.BigQuiet
import Derived.Deep.RegionHeld3
import Derived.StillTailTactics
import Derived.Laws.AppendOwnNone
import Derived.Deep.AppendLies
import Derived.Deep.DrawnRows
import Derived.Deep.MidRow
import Derived.Laws.BytesArg
set_option maxRecDepth 100000
set_option maxHeartbeats 16000000
namespace Go.Proofs.YtnkmpoplibnflaaGreatDoor
open Go Go.ChangeShapes Go.WideShapes Go.ChangeAt Go.RowKit
variable {H : Type} {enc : TypeId × Value -> H}
theorem returnsInHanded_and_shaped {a : Assume} {C : Checked} {os : Os} {f : FuncId} {fn : Func} {s : ChangeSpec} {conds : List PathCond} {apart fresh handsOn again : Bool} {X : World -> Array Value -> Prop}
  (hX : ∀ (w w' : World) (args : Array Value), w.heap = w'.heap -> X w args -> X w' args)
  (own : ownKnob C.prog.godebug = none) (started : os.Started) (noInit : C.prog.inits.idxOf? f = none) (hfn : C.prog.funcs[f]? = some fn)
  (witness : ∃ (w : World) (tape : Tape) (i : Input), w.os = os /\ (w.forCall tape i).Shaped C.prog /\ i.vars = [] /\ Input.okWide C.prog (w.forCall tape i) .any w.heap.size f i ∧
   ((s.pre enc C.prog fn conds apart (w.forCall tape i).memory i.args /\ X (w.forCall tape i).memory i.args) /\ sizedMet enc C.prog fn (OpenSpec.ofChange s) apart (w.forCall tape i).memory i.args) /\ a.holds C.prog (lone (Frame.enter C.prog f i.args .normal) [] (w.forCall tape i)))
  (contract : ∀ (W : World) (base : Nat) (args : Array Value) (ds gs : List (DataW H)) (before : List MemPlace),
   (∀ (j : Nat) t v, fn.params[j]? = some t -> args[j]? = some v -> Value.okWide C.prog W .any base t v) →
   DataW.Whole enc C.prog fn.params.toList s.vars apart W args.toList ds gs before →
   conds.all (PathCond.test C.prog ⟨fn.params.toList, ds, s.plain.varTypes C.prog, gs⟩) = true →
   (DataW.weightsEach C.prog (fn.params.toList ++ s.plain.varTypes C.prog) (ds ++ gs)).all (· <= reachBytes) = true -> X W args -> W.ShapedOpen C.prog →
   a.holds C.prog (lone (Frame.enter C.prog f args .normal) [] W) →
   Calls C.prog f args W fun e W' => ∃ v, e = .returned v /\ s.post enc C.prog fn apart fresh handsOn again W args v W') :
  ReturnsInHanded a C os f .any (fun w args => (s.pre enc C.prog fn conds apart w args /\ X w args) /\ sizedMet enc C.prog fn (OpenSpec.ofChange s) apart w args) (s.post enc C.prog fn apart fresh handsOn again) := by
 refine returnsInHanded_of_calls own started noInit witness ?_
 intro w tape i _ hsh _ hok hpre hholds
 obtain ⟨_, _, _, fn', hfn', _, _, _, _, hval⟩ := hok
 have e : fn' = fn := Option.some.inj (hfn'.symm.trans hfn)
 subst e
 obtain ⟨⟨⟨ds, gs, before, hw, hc⟩, hx⟩, hz⟩ := hpre
 have hw' := DataW.Whole.of_heap (w' := w.forCall tape i) (by rfl) hw
 refine (contract (w.forCall tape i) w.heap.size i.args ds gs before hval hw' hc (hz.weights hw) (hX _ _ _ (by rfl) hx) hsh hholds).mono fun e W' ⟨v, he, hp⟩ => ?_
 subst he
 exact ChangeSpec.post_blind hp
theorem arr4 {xs : Array Value} (h : xs.size = 4) : ∃ a0 a1 a2 a3, xs = #[a0, a1, a2, a3] := by
 obtain ⟨l⟩ := xs
 match l, h with
 | [a0, a1, a2, a3], _ => exact ⟨a0, a1, a2, a3, rfl⟩
theorem Tryz.own : ownKnob Tryz.prog.godebug = none := by kernel_rfl
theorem Tryz.laidOut : laidOutB Tryz.prog = true := by kernel_rfl
end Go.Proofs.YtnkmpoplibnflaaGreatDoor
set_option maxRecDepth 100000
set_option maxHeartbeats 16000000
namespace Go.Proofs.YtnkmpoplibnflaaGreatDoor
open Go
theorem goes_none {P : Program} (h : P.funcs.toList.all (fun fn => !fn.goes) = true) (f : FuncId) : P.goes f = false := by
 have h1 : ∀ fn ∈ P.funcs.toList, fn.goes = false := fun fn hfn => by simpa using List.all_eq_true.1 h fn hfn
 have h2 : P.funcs.any Func.goes = false := by
  rw [<- Array.any_toList]
  exact List.any_eq_false.2 (fun fn hfn => by rw [h1 fn hfn]; decide)
 have h3 : ∀ g : FuncId, (P.funcs[g]?).any Func.goes = false := fun g => by
  cases hg : P.funcs[g]? with
  | none => rfl
  | some fn => exact h1 fn (by simpa using Array.mem_of_getElem? hg)
 unfold Program.goes
 rw [h2]
 simp [h3]
theorem goesBy_none {P : Program} (h : P.funcs.toList.all (fun fn => !fn.goes) = true) (c : OpenClaim) : false = c.goesBy P := by
 unfold OpenClaim.goesBy Program.goesAt Program.goesFrom
 have h1 : (P.funcNamed c.func).any P.goes = false := by
  cases P.funcNamed c.func with
  | none => rfl
  | some f => exact goes_none h f
 rw [h1]
 have h2 : P.inits.toList.any P.goes = false := List.any_eq_false.2 fun f _ => by rw [goes_none h f]; decide
 rw [h2]
 cases c.start <;> rfl
theorem Tryz.noGo : (Tryz.pinned.checked.prog.funcs.toList.all fun fn => !fn.goes) = true := by kernel_rfl
end Go.Proofs.YtnkmpoplibnflaaGreatDoor
set_option maxRecDepth 100000
set_option maxHeartbeats 16000000
namespace Go.Proofs.YtnkmpoplibnflaaGreatDoor
open Go.RowKit

structure Upd (S : Nat -> Prop) (w w' : World) : Prop where
 os : w'.os = w.os
 tape : w'.tape = w.tape
 output : w'.output = w.output
 size : w.heap.size <= w'.heap.size
 block : ∀ k, k < w.heap.size -> ¬ S k -> w'.heap[k]? = w.heap[k]?

def Nothing : Nat -> Prop := fun _ => False
abbrev Ext (w w' : World) : Prop := Upd Nothing w w'
def At (r : Nat) : Nat -> Prop := fun k => k = r
def From (B : Nat) : Nat -> Prop := fun k => B <= k
def Till (B : Nat) : Nat -> Prop := fun k => k < B

namespace Upd
variable {S T : Nat -> Prop} {w w1 w2 : World}
theorem refl (S : Nat -> Prop) (w : World) : Upd S w w := ⟨rfl, rfl, rfl, Nat.le_refl _, fun _ _ _ => rfl⟩
theorem step (h : Upd S w w1) (k : Upd T w1 w2) (hT : ∀ i, i < w.heap.size -> T i -> S i) : Upd S w w2 :=
 ⟨k.os.trans h.os, k.tape.trans h.tape, k.output.trans h.output, Nat.le_trans h.size k.size, fun i hi hs =>
  (k.block i (Nat.lt_of_lt_of_le hi h.size) (fun ht => hs (hT i hi ht))).trans (h.block i hi hs)⟩
theorem trans (h : Upd S w w1) (k : Upd S w1 w2) : Upd S w w2 := h.step k fun _ _ h => h
theorem ext (h : Upd S w w1) (k : Ext w1 w2) : Upd S w w2 := h.step k fun _ _ h => h.elim
theorem mono (h : Upd S w w1) (k : ∀ i, i < w.heap.size -> S i -> T i) : Upd T w w1 := ⟨h.os, h.tape, h.output, h.size, fun i hi ht => h.block i hi fun hs => ht (k i hi hs)⟩
theorem drew (h : Upd S w w1) : Upd S w w1.drew := ⟨h.os, h.tape, h.output, h.size, h.block⟩
theorem drewN (h : Upd S w w1) (n : Nat) : Upd S w (w1.drewN n) := ⟨h.os, h.tape, h.output, h.size, h.block⟩
theorem alloc (h : Upd S w w1) (o : Obj) : Upd S w (w1.alloc o) :=
 h.step (T := Nothing) ⟨rfl, rfl, rfl, by simp, fun k hk _ => Below.heap_alloc _ _ _ hk⟩ fun _ _ h => h.elim
theorem setCell (h : Upd S w w1) {p : Addr} (hp : p.block < w.heap.size -> S p.block) (u : Value) : Upd S w (w1.setCell p u) :=
 h.step (T := At p.block) ⟨rfl, rfl, rfl, by simp [World.setCell], fun k _ hk => Below.heap_setCell _ _ _ _ hk⟩ fun i hi e => by cases e; exact hp hi
theorem own (w : World) (r i : Nat) (u : Value) : Upd (At r) w (w.setCell ⟨r, i, none⟩ u) := (refl (At r) w).setCell (p := ⟨r, i, none⟩) (fun _ => rfl) u
theorem grown (h : Upd S w w1) {row : Option Nat} (hg : w1.grownBy w2 row) (hr : ∀ k, row = some k -> k < w.heap.size -> S k) : Upd S w w2 :=
 h.step (T := fun k => some k = row) ⟨hg.os, hg.tape, hg.output, hg.size, fun k hk e => hg.block k hk e⟩ fun i hi e => hr i e.symm hi
theorem row (w : World) (g : Nat) (cs : Array Value) : Upd (At g) w (w.setRow g cs) := ⟨rfl, rfl, rfl, by simp, fun k _ hk => setRow_other w g k cs hk⟩
theorem cell (h : Upd S w w1) {a : Addr} {v : Value} (hc : w.cell? a = some v) (hs : ¬ S a.block) : w1.cell? a = some v :=
 (World.cell?_of_block (w := w) (h.block _ (World.block_lt_of_cell? w a hc) hs)).trans hc
theorem at_ (h : Upd S w w1) {k : Nat} {o : Obj} (hc : w.heap[k]? = some o) (hs : ¬ S k) : w1.heap[k]? = some o :=
 (h.block k (Array.getElem?_eq_some_iff.1 hc).1 hs).trans hc
theorem ownsRow (h : Upd S w w1) {base e size n : Nat} {v : Value} {xs : List Value} (ho : w.ownsRow base e size v n xs) (hs : ∀ k, v.ownBlock = some k -> ¬ S k) : w1.ownsRow base e size v n xs := by
 refine ⟨ho.1, ?_⟩
 rcases ho.2 with hn | ⟨g, cap, cur, rfl, hb, hgg, rest⟩
 ·exact .inl hn
 ·exact .inr ⟨g, cap, cur, rfl, hb, h.at_ hgg (hs g rfl), rest⟩
end Upd

theorem _root_.Go.World.ownsRow.mono_base {w : World} {base base' e size n : Nat} {v : Value} {xs : List Value} (h : w.ownsRow base e size v n xs) (hb : base' <= base) : w.ownsRow base' e size v n xs := by
 refine ⟨h.1, ?_⟩
 rcases h.2 with hn | ⟨g, cap, cur, rfl, hb2, rest⟩
 ·exact .inl hn
 ·exact .inr ⟨g, cap, cur, rfl, by omega, rest⟩

theorem owns_tag {w : World} {base e size n k : Nat} {v : Value} {xs : List Value} (h : w.ownsRow base e size v n xs) (hk : v.ownBlock = some k) : ∃ cur, w.heap[k]? = some (.cells cur e (0, 0)) := by
 rcases h.2 with ⟨rfl, _⟩ | ⟨g, cap, cur, rfl, _, hg, _⟩
 ·simp [Value.ownBlock] at hk
 ·simp only [Value.ownBlock, Option.some.injEq] at hk; subst hk; exact ⟨_, hg⟩
theorem Upd.ownsT {S : Nat -> Prop} {w w' : World} (hu : Upd S w w') {base e size n : Nat} {v : Value} {xs : List Value} (h : w.ownsRow base e size v n xs) (hS : ∀ k cur, S k -> w.heap[k]? ≠ some (.cells cur e (0, 0))) : w'.ownsRow base e size v n xs :=
 hu.ownsRow h fun k hk hs => by obtain ⟨cur, hc⟩ := owns_tag h hk; exact hS k cur hs hc
theorem grownUpd {w w' : World} {row : Option Nat} (hg : w.grownBy w' row) : Upd (fun k => row = some k) w w' := ⟨hg.os, hg.tape, hg.output, hg.size, fun k hk e => hg.block k hk (fun e' => e e'.symm)⟩

theorem ownsForm {w : World} {base e size n : Nat} {v : Value} {xs : List Value} (h : w.ownsRow base e size v n xs) : ∃ a m c, v = .slice a m c := by
 rcases h.2 with ⟨rfl, _⟩ | ⟨g, cap, cur, rfl, _⟩ <;> exact ⟨_, _, _, rfl⟩

theorem lt_of_heap {w : World} {k : Nat} {o : Obj} (h : w.heap[k]? = some o) : k < w.heap.size := (Array.getElem?_eq_some_iff.1 h).1

def Row (S : Nat -> Prop) (w : World) (v : Value) (n : Nat) (cs : List Value) : Prop :=
 ∃ a c, v = .slice a n c /\ n <= c /\ c <= maxLen /\ (a = none -> c = 0) /\ (∀ x, a = some x -> 0 < n \/ cs ≠ [] -> x.spot = none /\ S x.block) ∧
  (∀ b o, a = some ⟨b, o, none⟩ -> ∀ j u, cs[j]? = some u -> w.cell? ⟨b, o + j, none⟩ = some u)

namespace Row
variable {S T : Nat -> Prop} {w w1 : World} {v : Value} {n : Nat} {cs : List Value}
theorem upd (h : Row S w v n cs) (hu : Upd T w w1) (hs : ∀ k, S k -> ¬ T k) : Row S w1 v n cs := by
 obtain ⟨a, c, rfl, h1, h2, h3, h4, h5⟩ := h
 exact ⟨a, c, rfl, h1, h2, h3, h4, fun b o e j u hj => hu.cell (h5 b o e j u hj) (hs _ (h4 _ e (.inr (fun h => by rw [h] at hj; cases hj))).2)⟩
theorem ext (h : Row S w v n cs) (hu : Ext w w1) : Row S w1 v n cs := h.upd hu fun _ _ e => e
theorem mono (h : Row S w v n cs) (hs : ∀ k, S k -> T k) : Row T w v n cs := by
 obtain ⟨a, c, rfl, h1, h2, h3, h4, h5⟩ := h
 exact ⟨a, c, rfl, h1, h2, h3, fun x e g => ⟨(h4 x e g).1, hs _ (h4 x e g).2⟩, h5⟩
theorem lt (h : Row S w v n cs) (h0 : 0 < cs.length) : Row (fun k => S k /\ k < w.heap.size) w v n cs := by
 obtain ⟨a, c, rfl, h1, h2, h3, h4, h5⟩ := h
 refine ⟨a, c, rfl, h1, h2, h3, fun x e g => ⟨(h4 x e g).1, (h4 x e g).2, ?_⟩, h5⟩
 obtain ⟨b, o, s⟩ := x
 have hs := (h4 _ e g).1
 simp only at hs; subst hs
 exact World.block_lt_of_cell? w ⟨b, o + 0, none⟩ (h5 b o e 0 cs[0] (by simp [List.getElem?_eq_getElem h0]))
theorem addr (h : Row S w v n cs) (h0 : 0 < n) : ∃ b o c, v = .slice (some ⟨b, o, none⟩) n c /\ S b /\ n <= c /\ c <= maxLen /\ ∀ j u, cs[j]? = some u -> w.cell? ⟨b, o + j, none⟩ = some u := by
 obtain ⟨a, c, rfl, h1, h2, h3, h4, h5⟩ := h
 cases a with
 | none => have := h3 rfl; omega
 | some x =>
  obtain ⟨b, o, s⟩ := x
  have hs := (h4 _ rfl (.inl h0)).1
  simp only at hs; subst hs
  exact ⟨b, o, c, rfl, (h4 _ rfl (.inl h0)).2, h1, h2, h5 b o rfl⟩
theorem nil (S : Nat -> Prop) (w : World) : Row S w (.slice none 0 0) 0 [] :=
 ⟨none, 0, rfl, Nat.le_refl _, (by simp [maxLen]), fun _ => rfl, fun _ e => (by cases e), fun _ _ e => (by cases e)⟩
theorem of_owns {base e size : Nat} (h : w.ownsRow base e size v n cs) : Row (From base) w v n cs := by
 obtain ⟨hl, h2⟩ := h
 rcases h2 with ⟨rfl, rfl⟩ | ⟨g, cap, cur, rfl, hb, hg, h3, h4, h5, h6⟩
 ·have : cs = [] := List.eq_nil_of_length_eq_zero (by simpa using hl)
  subst this; exact nil _ _
 ·refine ⟨_, _, rfl, h3, h4, fun e => (by cases e), fun x e _ => by cases e; exact ⟨rfl, hb⟩, fun b o e j u hj => ?_⟩
  cases e
  rw [Nat.zero_add, cell_of_row w g j cur _ (0, 0) hg]
  rw [<- h6, List.getElem?_take] at hj
  split at hj
  ·simpa using hj
  ·cases hj
end Row

structure SliceT (P : Program) (t e size bytes : Nat) : Prop where
 under : P.underlying t = some (.slice e)
 info : ∃ i z, P.info? e = some i /\ i.zero = some z /\ i.size = size /\ i.bytes = bytes /\ z.cells.size = size
 pos : 0 < size
theorem sliceT_of {P : Program} {t e size bytes : Nat} (h1 : P.underlying t = some (.slice e)) (h2 : (P.info? e).map (fun i => (i.zero.map (·.cells.size), i.size, i.bytes)) = some (some size, size, bytes)) (h3 : 0 < size) : SliceT P t e size bytes := by
 obtain ⟨i, hi, hz⟩ := Option.map_eq_some_iff.1 h2
 simp only [Prod.mk.injEq] at hz
 obtain ⟨z, hz1, hz2⟩ := Option.map_eq_some_iff.1 hz.1
 exact ⟨h1, ⟨i, z, hi, hz1, hz.2.1, hz.2.2, hz2⟩, h3⟩

def OneCells (l : List Value) : Prop := ∀ u ∈ l, u.oneCell' = true

section
variable {P : Program} {w : World} {ops : Array Oper} {rest : List Oper} {o : Oper} {a : Act} {Q : Exit -> Act -> World -> Prop}
theorem wpList_append_row (hgd : o.guard = none) (s x : Operand) (t : TypeId) (ho : o.op = .call { callee := .builtin .append, args := #[s, x], argTypes := #[t, t] })
  {base e size bytes : Nat} (T : SliceT P t e size bytes) {v : Value} {n : Nat} {xs : List Value} (hs : a.eval s = v) (hown : w.ownsRow base e size v n xs)
  {S : Nat -> Prop} {src : Value} {m : Nat} {news : List Value} (hx : a.eval x = src) (hsrc : Row S w src m news) (hl : news.length = m * size) (h1 : OneCells news)
  (h63 : n + m <= maxLen) (hbytes : (n + m) * bytes <= 140737488355328) (hbase : base <= w.heap.size)
  (h : ∀ v' w', w'.ownsRow base e size v' (n + m) (xs ++ news) -> w.grownBy w' v.ownBlock -> (v' = .slice none 0 0 ↔ v = .slice none 0 0 /\ m = 0) -> wpList P ops Q rest (a.put o.dst v') w') : wpList P ops Q (o :: rest) a w := by
 obtain ⟨hu, ⟨i, z, hi, hz, h2, h3, h4⟩, hp⟩ := T
 obtain ⟨ad, c, rfl, g1, g2, g3, g4, g5⟩ := hsrc
 cases ad with
 | some ad =>
  exact wpList_append_own w hgd s x t ho base e i z size bytes hu hi hz h2 h3 h4 hp v n xs hs hown ad m c news hx hl
   (fun j u hj => by
    obtain ⟨b, of, sp⟩ := ad
    have hsp := (g4 _ rfl (.inr (fun h => by rw [h] at hj; cases hj))).1
    simp only at hsp; subst hsp
    have := g5 b of rfl j u hj
    rw [show (⟨b, of, none⟩ : Addr).add j = ⟨b, of + j, none⟩ from by unfold Addr.add; split <;> simp_all]; exact this) h1 h63 hbytes hbase h
 | none =>
  have hc := g3 rfl
  subst hc
  have hm : m = 0 := by omega
  subst hm
  have hn : news = [] := List.eq_nil_of_length_eq_zero (by simpa using hl)
  subst hn
  exact wpList_append_own_none hgd s x t ho base e i size hu hi v n xs hs hown hx (h v w (by simpa using hown) ⟨rfl, rfl, rfl, Nat.le_refl _, fun _ _ _ => rfl⟩ (by simp))
end

theorem row_new (w : World) (cs : Array Value) (e : TypeId) (m n : Nat) (hm : m <= maxLen) (hn : n = w.heap.size) : Row (At n) (w.alloc (.cells cs e)) (.slice (some ⟨n, 0, none⟩) m m) m cs.toList := by
 subst hn
 refine ⟨_, _, rfl, Nat.le_refl _, hm, fun e => (by cases e), fun x e _ => by cases e; exact ⟨rfl, rfl⟩, fun b o h j u hj => ?_⟩
 cases h
 rw [Nat.zero_add, World.cell?_alloc_at _ _ _ _ rfl]
 simpa using hj

theorem cellAt {w : World} {b : Nat} {cs : Array Value} {T : TypeId} {fr : Nat × Nat} (hb : w.heap[b]? = some (.cells cs T fr)) (j : Nat) (u : Value) (hj : cs[j]? = some u) : w.cell? ⟨b, j, none⟩ = some u := by
 simp [World.cell?, hb, hj]
theorem freeAt {w : World} {b : Nat} {cs : Array Value} {T : TypeId} (hb : w.heap[b]? = some (.cells cs T (0, 0))) (j : Nat) : w.frozen? ⟨b, j, none⟩ = false := by
 simp [World.frozen?, hb]
theorem setAt {w : World} {b j : Nat} {cs : Array Value} {T : TypeId} {u : Value} (hb : w.heap[b]? = some (.cells cs T (0, 0))) : (w.setCell ⟨b, j, none⟩ u).heap[b]? = some (.cells (cs.setIfInBounds j u) T (0, 0)) := by
 have hlt := lt_of_heap hb
 have h' : w.heap[b] = .cells cs T (0, 0) := by simpa [Array.getElem?_eq_getElem hlt] using hb
 show (w.heap.modify b _)[b]? = _
 rw [Array.getElem?_eq_getElem (by simpa using hlt), Array.getElem_modify_self, h']
 rfl
theorem grownAt {w w' : World} {o ob : Obj} {k : Nat} {row : Option Nat} (h : w.heap[k]? = some o) (hg : (w.alloc ob).drew.grownBy w' row) (hne : ∀ j, row = some j -> ¬ j = k) : w'.heap[k]? = some o := by
 have hlt := lt_of_heap h
 rw [hg.block k (by show k < (w.alloc ob).heap.size; simp; omega) (fun e => hne k e.symm rfl)]
 exact (Below.heap_alloc w ob k hlt).trans h
theorem newAt (w : World) (o : Obj) : (w.alloc o).heap[w.heap.size]? = some o := heap_alloc_new w o
theorem three {w : World} {b : Nat} {x y z : Value} {T : TypeId} {fr : Nat × Nat} (hb : w.heap[b]? = some (.cells #[x, y, z] T fr)) : w.cell? ⟨b, 0, none⟩ = some x /\ w.cell? ⟨b, 1, none⟩ = some y /\ w.cell? ⟨b, 2, none⟩ = some z :=
 ⟨cellAt hb 0 x rfl, cellAt hb 1 y rfl, cellAt hb 2 z rfl⟩

def StructT (P : Program) (ty n : Nat) : Prop := ∃ d, P.underlying ty = some d /\ (match d with | .struct _ | .array _ _ => true | _ => false) = true /\ (P.info? ty).map (·.size) = some n
def AllOne (cs : Array Value) : Prop := cs.all (·.oneCell') = true
def setL (cs : Array Value) : Nat -> List Value -> Array Value
 | _, [] => cs
 | o, v :: r => setL (cs.setIfInBounds o v) (o + 1) r
theorem Upd.cells (b : Nat) : ∀ (vs : List Value) (w : World) (o : Nat), Upd (At b) w (w.setCells b o vs)
 | [], w, _ => Upd.refl _ w
 | v :: vs, w, o => (Upd.own w b o v).trans (Upd.cells b vs _ (o + 1))
theorem setCellsAt {b : Nat} {T : TypeId} : ∀ (vs : List Value) (w : World) (o : Nat) (cs : Array Value), w.heap[b]? = some (.cells cs T (0, 0)) -> (w.setCells b o vs).heap[b]? = some (.cells (setL cs o vs) T (0, 0))
 | [], _, _, _, h => h
 | _ :: vs, _, o, _, h => setCellsAt vs _ (o + 1) _ (setAt h)
section
variable {P : Program} {w : World} {ops : Array Oper} {rest : List Oper} {o : Oper} {a : Act} {Q : Exit -> Act -> World -> Prop}
theorem wpList_load_blk (hgd : o.guard = none) (ty : TypeId) (x : Operand) (ho : o.op = .load ty x) {g : Nat} (hx : a.eval x = .pointer (some ⟨g, 0, none⟩)) {t : TypeId} {cs : Array Value} {fr : Nat × Nat}
  (hg : w.heap[g]? = some (.cells cs t fr)) (T : StructT P ty cs.size) (h : wpList P ops Q rest (a.put o.dst (.agg cs)) w) : wpList P ops Q (o :: rest) a w := by
 obtain ⟨d, h1, h2, h3⟩ := T
 exact wpList_load_row hgd ty x ho g hx t cs fr d hg h1 (by cases d <;> simp_all) h3 h
theorem wpList_store_blk (hgd : o.guard = none) (ty : TypeId) (x y : Operand) (ho : o.op = .store ty x y) {g : Nat} {cells : Array Value} (hx : a.eval x = .pointer (some ⟨g, 0, none⟩)) (hy : a.eval y = .agg cells)
  {t : TypeId} {old : Array Value} (hg : w.heap[g]? = some (.cells old t (0, 0))) (T : StructT P ty cells.size) (hold : old.size = cells.size) (h1 : AllOne cells)
  (h : wpList P ops Q rest (a.put o.dst undef) (w.setRow g cells)) : wpList P ops Q (o :: rest) a w := by
 obtain ⟨d, _, _, h3⟩ := T
 exact wpList_store_row hgd ty x y ho g cells hx hy t old hg h3 hold h1 h
theorem wpList_store_in (hgd : o.guard = none) (ty : TypeId) (x y : Operand) (ho : o.op = .store ty x y) {g i : Nat} {cells : Array Value} (hx : a.eval x = .pointer (some ⟨g, i, none⟩)) (hy : a.eval y = .agg cells)
  {t : TypeId} {old : Array Value} (hg : w.heap[g]? = some (.cells old t (0, 0))) (T : StructT P ty cells.size) (hold : i + cells.size <= old.size) (h1 : AllOne cells)
  (h : ∀ w', Upd (At g) w w' -> w'.heap[g]? = some (.cells (setL old i cells.toList) t (0, 0)) -> wpList P ops Q rest (a.put o.dst undef) w') : wpList P ops Q (o :: rest) a w := by
 obtain ⟨d, _, _, h3⟩ := T
 exact wpList_store_mid hgd ty x y ho g i cells hx hy (fun j hj => ⟨by rw [cell_of_row w g _ old t (0, 0) hg, Array.getElem?_eq_getElem (by omega)]; rfl, freeAt hg _⟩) h3 h1 (h _ (Upd.cells _ _ _ _) (setCellsAt _ _ _ _ hg))
theorem bodyPost_blk {fn : Func} {R : Ending -> World -> Prop} {p : Tmp} {ty : TypeId} (hr : fn.results = #[.cell p ty]) (hd : a.defers = []) {g : Nat} (hp : a.tmps.getD p undef = .pointer (some ⟨g, 0, none⟩)) {t : TypeId} {cs : Array Value} {fr : Nat × Nat}
  (hg : w.heap[g]? = some (.cells cs t fr)) (T : StructT P ty cs.size) (h : R (.returned (.agg cs)) w) : bodyPost P fn R .ret a w := by
 obtain ⟨d, h1, h2, h3⟩ := T
 exact bodyPost_ret_by (results_cell_row hr _ _ g t cs fr d hp hg h1 (by cases d <;> simp_all) h3) hd h
end
theorem bodyPost_blk2 {P : Program} {w : World} {a : Act} {fn : Func} {R : Ending -> World -> Prop} {p u : Tmp} {ty : TypeId} (hr : fn.results = #[.cell p ty, .tmp u]) (hd : a.defers = []) {g : Nat} (hp : a.tmps.getD p undef = .pointer (some ⟨g, 0, none⟩)) {t : TypeId} {cs : Array Value} {fr : Nat × Nat}
  (hg : w.heap[g]? = some (.cells cs t fr)) (T : StructT P ty cs.size) (h : R (.returned (.tuple #[.agg cs, a.tmps.getD u undef])) w) : bodyPost P fn R .ret a w := by
 obtain ⟨d, h1, h2, h3⟩ := T
 refine bodyPost_ret_by ?_ hd h
 rw [results_cell_tmp hr, hp]
 have hl := run_loadVar_row (P := P) w g t ty cs fr d hg h1 (by cases d <;> simp_all) h3
 simp [asAddr, Result.andThen, hl]
abbrev u8 (x : UInt8) : Value := .int .u8 x.toNat
theorem u8_one (l : List UInt8) : OneCells (l.map u8) := by intro u hu; obtain ⟨x, _, rfl⟩ := List.mem_map.1 hu; rfl
abbrev Bytes (S : Nat -> Prop) (w : World) (v : Value) (l : List UInt8) : Prop := Row S w v l.length (l.map u8)
abbrev str (l : List UInt8) : Value := .string ⟨l.toArray⟩

theorem run_convert_bytes_empty {P : Program} {w : World} (src e : TypeId) (hs : P.underlying src = some (.slice e)) (he : P.underlying e = some (.int .u8)) (x : Addr) (c : Nat) :
  ∀ dst, P.underlying dst = some .string -> (convert src dst (.slice (some x) 0 c)).run P w = .ok (.string ByteArray.empty) w := by
 intro dst hd
 have hl : (loadCells x 0).run P w = .ok #[] w := run_loadCells_list (P := P) w x [] (fun j v hj => by cases hj)
 rw [run_convert_bytes_string w src dst e _ 0 c hs he hd, run_bytesToString w _ 0 c [] hl]
 rfl
theorem row_string {P : Program} {S : Nat -> Prop} {w : World} {v : Value} {l : List UInt8} (h : Bytes S w v l) {src e dst : TypeId} (hs : P.underlying src = some (.slice e)) (he : P.underlying e = some (.int .u8)) (hd : P.underlying dst = some .string) :
  (convert src dst v).run P w = .ok (str l) w := by
 obtain ⟨a, c, rfl, h1, h2, h3, h4, h5⟩ := h
 cases a with
 | none =>
  have hl : l = [] := List.eq_nil_of_length_eq_zero (by have := h3 rfl; omega)
  subst hl
  exact run_convert_bytes_nil _ src e hs he _ _ dst hd
 | some x =>
  by_cases hl0 : l = []
  ·subst hl0
   exact run_convert_bytes_empty src e hs he x c dst hd
  obtain ⟨b, o, s⟩ := x
  have hsp := (h4 _ rfl (.inl (List.length_pos_iff.2 hl0))).1
  simp only at hsp; subst hsp
  rw [run_convert_bytes_arg w src e hs he b o l.length c (l.map fun x => (x.toNat : Int)) (by simp) (fun i hi => by
   have := h5 b o rfl i (u8 l[i]) (by simp [hi])
   rw [this]; simp [hi]) dst hd]
  congr 2
  simp only [strOfNums, List.map_map]
  congr 2
  conv => rhs; rw [<- List.map_id l]
  apply List.map_congr_left
  intro x _; simp
theorem bytes_cell {l : List UInt8} {w : World} {b o : Nat} (h : ∀ j u, (l.map u8)[j]? = some u -> w.cell? ⟨b, o + j, none⟩ = some u) (k : Nat) (hk : k < l.length) :
  w.cell? ⟨b, o + k, none⟩ = some (.int .u8 (l[k].toNat)) := h k _ (by simp [hk, u8])

structure More (w : World) where
 at_ : World
 ext : Ext w at_
def Later (w : World) : World -> Prop := fun w' => ∃ x : More w, w' = x.at_
theorem Later.ext {w w' : World} (h : Later w w') : Ext w w' := by obtain ⟨x, rfl⟩ := h; exact x.ext
abbrev strs (l : List (List UInt8)) : List Value := l.map str
abbrev Texts (S : Nat -> Prop) (w : World) (v : Value) (l : List (List UInt8)) : Prop := Row S w v l.length (strs l)
theorem strs_one (l : List (List UInt8)) : OneCells (strs l) := by intro u hu; obtain ⟨x, _, rfl⟩ := List.mem_map.1 hu; rfl
theorem Tryz.textsT : SliceT Tryz.prog 45 9 1 16 := sliceT_of Tryz.underlying45 (by kernel_rfl) (by decide)
theorem texts_cell {l : List (List UInt8)} {w : World} {b o : Nat} (h : ∀ j u, (strs l)[j]? = some u -> w.cell? ⟨b, o + j, none⟩ = some u) (k : Nat) (hk : k < l.length) :
  w.cell? ⟨b, o + k, none⟩ = some (str l[k]) := h k _ (by simp [hk])

def eqB {α : Type} [DecidableEq α] (a b : α) : Bool := decide (a = b)
theorem eqB_self {α : Type} [DecidableEq α] (a : α) : eqB a a = true := by simp [eqB]
theorem eqB_ne {α : Type} [DecidableEq α] {a b : α} (h : ¬ a = b) : eqB a b = false := by simp [eqB, h]
theorem bytes_toList (l : List UInt8) : (⟨l.toArray⟩ : ByteArray).toList = l := by rw [ByteArray.toList_eq]
theorem index_str {P : Program} {T : TypeId} (hT : P.underlying T = some .string) {ps : List UInt8} {k : Nat} {c : UInt8} {m : Int} (hc : ps[k]? = some c) (hm : (c.toNat : Int) = m) (w : World) : (Instr.index T (str ps) (.int .i64 k)).run P w = .ok (.int .u8 m) w := by
 subst hm
 obtain ⟨hk, hck⟩ := List.getElem?_eq_some_iff.1 hc
 have hk' : k < (⟨ps.toArray⟩ : ByteArray).size := hk
 have hget : (⟨ps.toArray⟩ : ByteArray)[k]'hk' = c := hck
 rw [run_index_string _ _ _ _ _ hT, dif_pos ⟨by omega, by exact_mod_cast hk'⟩]
 congr 3
 simp only [Int.toNat_natCast]; rw [hget]
theorem zq {p : Prop} (h : p) : Go.RowKit.Hid p := Lib.hid h
theorem uZ {S : Nat → Prop} {w : World} : Upd S w w := Upd.refl S w
theorem cZ {w : World} {b : Nat} {cs : Array Value} {T : TypeId} {fr : Nat × Nat} (hb : w.heap[b]? = some (.cells cs T fr)) (j : Nat) (u : Value) (hj : cs[j]? = some u) : w.cell? ⟨b, j, none⟩ = some u := cellAt hb j u hj
theorem lZ {w : World} {k : Nat} {o : Obj} (h : w.heap[k]? = some o) : k < w.heap.size := lt_of_heap h
end Go.Proofs.YtnkmpoplibnflaaGreatDoor
