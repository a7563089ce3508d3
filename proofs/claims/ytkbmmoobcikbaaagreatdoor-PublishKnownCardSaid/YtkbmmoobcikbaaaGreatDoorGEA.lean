/-
  A RECKONER OF CLOSED CALLS, FIRST PART: what its values and blocks are, and how they stand to the machine's. No program in sight; no condition.
  A RECKONER OF CLOSED CALLS, SECOND PART: frames, tables, and what operations upon values alone give. No program in sight; no condition.
  A RECKONER OF CLOSED CALLS, THIRD PART: blocks read, written and made. No program in sight; no condition.
  A RECKONER OF CLOSED CALLS, FOURTH PART: what operations give. No program in sight; no condition.
  A RECKONER OF CLOSED CALLS, FIFTH PART: what is built and what is made. No program in sight; no condition.
  A RECKONER OF CLOSED CALLS, SIXTH PART: equality, operators, parts of slices and texts, conversions. No program in sight; no condition.
-/
import Derived.Calls
import Derived.Tactics
import Derived.RowKit
import Derived.Laws.Strings
import Derived.Deep.MidRow
import Derived.Laws.Append
import Derived.Laws.AppendOwn
import Derived.Laws.StructEq
import Derived.Laws.MakeOwn
import Derived.Laws.Entries
import Derived.Great.FillDense
import Derived.Laws.Tables
import Derived.Laws.Slices
namespace Go.Proofs.YtkbmmoobcikbaaaGreatDoor.Ev
open Go

/-- A value as the reckoner has it: a block is a number of its own. -/
inductive AV where
  | bool (b : Bool)
  | int (k : IntKind) (n : Int)
  | str (l : List Nat)
  | nilp
  | ptr (b o : Nat)
  | nils
  | sl (b o n c : Nat)
  | slo (b o n d : Nat)
  /-- A slice of no element, not nil, of which neither place nor capacity is known. -/
  | sle
  | map (m : Option Nat)
  | chan (c : Option Nat)
  | fn (f : Fn) (first cap : List AV)
  | nilfn
  | ifc (t : TypeId) (v : AV)
  | nilif
  | agg (l : List AV)
  | tup (l : List AV)
  | cst (v : Value)
  | yld (b : Nat)
deriving Inhabited

/-- Where the reckoner's blocks lie: the machine's block, and the capacity that an open one has. -/
abbrev Env := Nat → Option (Nat × Nat)
def Env.le (l l' : Env) : Prop := ∀ b x, l b = some x → l' b = some x
theorem Env.le.refl (l : Env) : l.le l := fun _ _ h => h
theorem Env.le.trans {a b c : Env} (h : a.le b) (h' : b.le c) : a.le c := fun _ _ e => h' _ _ (h _ _ e)

def bs (l : List Nat) : ByteArray := ⟨(l.map UInt8.ofNat).toArray⟩

mutual
inductive VR (l : Env) : AV → Value → Prop where
  | bool (b) : VR l (.bool b) (.bool b)
  | int (k n) : VR l (.int k n) (.int k n)
  | str (s) (h : ∀ x ∈ s, x < 256) : VR l (.str s) (.string (bs s))
  | nilp : VR l .nilp (.pointer none)
  | ptr {b k κ} (o) (h : l b = some (k, κ)) : VR l (.ptr b o) (.pointer (some ⟨k, o, none⟩))
  | nils : VR l .nils (.slice none 0 0)
  | sl {b k κ} (o n c) (h : l b = some (k, κ)) : VR l (.sl b o n c) (.slice (some ⟨k, o, none⟩) n c)
  | slo {b k κ} (o n d) (h : l b = some (k, κ)) (hd : d + n ≤ κ) : VR l (.slo b o n d) (.slice (some ⟨k, o, none⟩) n (κ - d))
  | sle (p c) : VR l .sle (.slice (some p) 0 c)
  | nilmap : VR l (.map none) (.map none)
  | map {b k κ} (h : l b = some (k, κ)) : VR l (.map (some b)) (.map (some k))
  | nilchan : VR l (.chan none) (.chan none)
  | chan {b k κ} (h : l b = some (k, κ)) : VR l (.chan (some b)) (.chan (some k))
  | fn {a c a' c'} (f) (h : VRs l a a') (h' : VRs l c c') : VR l (.fn f a c) (.func f a'.toArray c'.toArray)
  | nilfn : VR l .nilfn .nilFunc
  | ifc {v v'} (t) (h : VR l v v') : VR l (.ifc t v) (.iface t v')
  | nilif : VR l .nilif .nilIface
  | agg {a a'} (h : VRs l a a') : VR l (.agg a) (.agg a'.toArray)
  | tup {a a'} (h : VRs l a a') : VR l (.tup a) (.tuple a'.toArray)
  | cst (v) : VR l (.cst v) v
  | yld {b k κ} (h : l b = some (k, κ)) : VR l (.yld b) (.func (.yield k) #[] #[])
inductive VRs (l : Env) : List AV → List Value → Prop where
  | nil : VRs l [] []
  | cons {v v' a a'} (h : VR l v v') (h' : VRs l a a') : VRs l (v :: a) (v' :: a')
end
mutual
theorem VR.mono {l l' : Env} (hl : l.le l') : ∀ {v x}, VR l v x → VR l' v x
  | _, _, .bool b => .bool b
  | _, _, .int k n => .int k n
  | _, _, .str s h => .str s h
  | _, _, .nilp => .nilp
  | _, _, .ptr o h => .ptr o (hl _ _ h)
  | _, _, .nils => .nils
  | _, _, .sl o n c h => .sl o n c (hl _ _ h)
  | _, _, .slo o n d h hd => .slo o n d (hl _ _ h) hd
  | _, _, .sle p c => .sle p c
  | _, _, .nilmap => .nilmap
  | _, _, .map h => .map (hl _ _ h)
  | _, _, .nilchan => .nilchan
  | _, _, .chan h => .chan (hl _ _ h)
  | _, _, .fn f h h' => .fn f (VRs.mono hl h) (VRs.mono hl h')
  | _, _, .nilfn => .nilfn
  | _, _, .ifc t h => .ifc t (VR.mono hl h)
  | _, _, .nilif => .nilif
  | _, _, .agg h => .agg (VRs.mono hl h)
  | _, _, .tup h => .tup (VRs.mono hl h)
  | _, _, .cst v => .cst v
  | _, _, .yld h => .yld (hl _ _ h)
theorem VRs.mono {l l' : Env} (hl : l.le l') : ∀ {v x}, VRs l v x → VRs l' v x
  | _, _, .nil => .nil
  | _, _, .cons h h' => .cons (VR.mono hl h) (VRs.mono hl h')
end
theorem VRs.length {l : Env} : ∀ {a x}, VRs l a x → a.length = x.length
  | _, _, .nil => rfl
  | _, _, .cons _ h => by rw [List.length_cons, List.length_cons, VRs.length h]
theorem VRs.get {l : Env} : ∀ {a x} {i : Nat} {v}, VRs l a x → a[i]? = some v → ∃ u, x[i]? = some u ∧ VR l v u
  | _, _, 0, _, .cons h _, e => by cases e; exact ⟨_, rfl, h⟩
  | _, _, i + 1, _, .cons _ h, e => VRs.get (i := i) h (by simpa using e)
theorem VRs.append {l : Env} : ∀ {a x b y}, VRs l a x → VRs l b y → VRs l (a ++ b) (x ++ y)
  | _, _, _, _, .nil, h => h
  | _, _, _, _, .cons h h', h2 => .cons h (VRs.append h' h2)
theorem VRs.take {l : Env} : ∀ {a x} (n : Nat), VRs l a x → VRs l (a.take n) (x.take n)
  | _, _, 0, _ => by simpa using VRs.nil
  | _, _, _ + 1, .nil => .nil
  | _, _, n + 1, .cons h h' => .cons h (VRs.take n h')
theorem VRs.drop {l : Env} : ∀ {a x} (n : Nat), VRs l a x → VRs l (a.drop n) (x.drop n)
  | _, _, 0, h => h
  | _, _, _ + 1, .nil => .nil
  | _, _, n + 1, .cons _ h' => VRs.drop n h'

/-! trees -/
inductive Tr (α : Type) where
  | e
  | n (l : Tr α) (v : Option α) (r : Tr α)
namespace Tr
variable {α : Type}
def left : Tr α → Tr α
  | .e => .e
  | .n l _ _ => l
def right : Tr α → Tr α
  | .e => .e
  | .n _ _ r => r
def top : Tr α → Option α
  | .e => none
  | .n _ v _ => v
/-! by their recursors, so that the kernel goes straight -/
noncomputable def getS (_ : Tr α) (v : Option α) (_ : Tr α) (gl gr : Nat → Option α) (i : Nat) : Option α :=
  @Bool.rec (fun _ => Option α) (@Bool.rec (fun _ => Option α) (gr (Nat.sub (Nat.div i 2) 1)) (gl (Nat.div i 2)) (Nat.beq (Nat.mod i 2) 1)) v (Nat.beq i 0)
noncomputable def get (t : Tr α) : Nat → Option α := @Tr.rec α (fun _ => Nat → Option α) (fun _ => none) getS t
noncomputable def leftQ (t : Tr α) : Tr α := @Tr.rec α (fun _ => Tr α) .e (fun l _ _ _ _ => l) t
noncomputable def rightQ (t : Tr α) : Tr α := @Tr.rec α (fun _ => Tr α) .e (fun _ _ r _ _ => r) t
noncomputable def topQ (t : Tr α) : Option α := @Tr.rec α (fun _ => Option α) none (fun _ v _ _ _ => v) t
noncomputable def setS (_ : Nat) (ih : Tr α → Nat → Option α → Tr α) (t : Tr α) (i : Nat) (x : Option α) : Tr α :=
  @Bool.rec (fun _ => Tr α) (@Bool.rec (fun _ => Tr α) (.n (leftQ t) (topQ t) (ih (rightQ t) (Nat.sub (Nat.div i 2) 1) x)) (.n (ih (leftQ t) (Nat.div i 2) x) (topQ t) (rightQ t)) (Nat.beq (Nat.mod i 2) 1)) (.n (leftQ t) x (rightQ t)) (Nat.beq i 0)
noncomputable def setR (d : Nat) : Tr α → Nat → Option α → Tr α := @Nat.rec (fun _ => Tr α → Nat → Option α → Tr α) (fun _ _ _ => .e) setS d
noncomputable def set (d : Nat) (t : Tr α) (i : Nat) (x : Option α) : Tr α := setR d t i x
theorem get_e (i : Nat) : (.e : Tr α).get i = none := rfl
theorem get_n (t : Tr α) (i : Nat) : t.get i = match Nat.beq i 0 with | true => t.top | false => match Nat.beq (i % 2) 1 with | true => t.left.get (i / 2) | false => t.right.get (i / 2 - 1) := by
  cases t with
  | e => cases Nat.beq i 0 <;> cases Nat.beq (i % 2) 1 <;> rfl
  | n l v r =>
    show @Bool.rec (fun _ => Option α) (@Bool.rec (fun _ => Option α) (r.get (i / 2 - 1)) (l.get (i / 2)) (Nat.beq (i % 2) 1)) v (Nat.beq i 0) = _
    cases Nat.beq i 0 <;> cases Nat.beq (i % 2) 1 <;> rfl
theorem leftQ_eq (t : Tr α) : leftQ t = t.left := by cases t <;> rfl
theorem rightQ_eq (t : Tr α) : rightQ t = t.right := by cases t <;> rfl
theorem topQ_eq (t : Tr α) : topQ t = t.top := by cases t <;> rfl
theorem set_z (t : Tr α) (i : Nat) (x : Option α) : t.set 0 i x = .e := rfl
theorem set_n (d : Nat) (t : Tr α) (i : Nat) (x : Option α) : t.set (d + 1) i x = match Nat.beq i 0 with
    | true => .n t.left x t.right
    | false => match Nat.beq (i % 2) 1 with
      | true => .n (t.left.set d (i / 2) x) t.top t.right
      | false => .n t.left t.top (t.right.set d (i / 2 - 1) x) := by
  rw [← leftQ_eq, ← rightQ_eq, ← topQ_eq]
  show @Bool.rec (fun _ => Tr α) (@Bool.rec (fun _ => Tr α) (.n (leftQ t) (topQ t) ((rightQ t).set d (i / 2 - 1) x)) (.n ((leftQ t).set d (i / 2) x) (topQ t) (rightQ t)) (Nat.beq (i % 2) 1)) (.n (leftQ t) x (rightQ t)) (Nat.beq i 0) = _
  cases Nat.beq i 0 <;> cases Nat.beq (i % 2) 1 <;> rfl
theorem set_get : ∀ (d : Nat) (t : Tr α) (i : Nat) (x : Option α) (j : Nat) (u : α), (t.set d i x).get j = some u → (j = i ∧ x = some u) ∨ (j ≠ i ∧ t.get j = some u)
  | 0, _, _, _, _, _, h => by rw [set_z, get_e] at h; cases h
  | d + 1, t, i, x, j, u, h => by
    rw [get_n t j]
    rw [set_n] at h
    cases hi : Nat.beq i 0 with
    | true =>
      have hi0 : i = 0 := Nat.eq_of_beq_eq_true hi
      rw [hi] at h
      rw [get_n] at h
      cases hj : Nat.beq j 0 with
      | true =>
        have hj0 : j = 0 := Nat.eq_of_beq_eq_true hj
        rw [hj] at h
        exact .inl ⟨by rw [hj0, hi0], h⟩
      | false =>
        rw [hj] at h
        refine .inr ⟨fun e => ?_, h⟩
        rw [e, hi] at hj; cases hj
    | false =>
      have hi0 : i ≠ 0 := Nat.ne_of_beq_eq_false hi
      rw [hi] at h
      cases hp : Nat.beq (i % 2) 1 with
      | true =>
        have hp1 := Nat.eq_of_beq_eq_true hp
        rw [hp] at h
        rw [get_n] at h
        cases hj : Nat.beq j 0 with
        | true =>
          have hj0 : j = 0 := Nat.eq_of_beq_eq_true hj
          rw [hj] at h
          exact .inr ⟨by omega, h⟩
        | false =>
          have hj0 : j ≠ 0 := Nat.ne_of_beq_eq_false hj
          rw [hj] at h
          cases hq : Nat.beq (j % 2) 1 with
          | true =>
            have hq1 := Nat.eq_of_beq_eq_true hq
            rw [hq] at h
            rcases set_get d t.left (i / 2) x (j / 2) u h with ⟨e, h'⟩ | ⟨e, h'⟩
            · exact .inl ⟨by omega, h'⟩
            · exact .inr ⟨by omega, h'⟩
          | false =>
            have hq1 := Nat.ne_of_beq_eq_false hq
            rw [hq] at h
            exact .inr ⟨by omega, h⟩
      | false =>
        have hp1 := Nat.ne_of_beq_eq_false hp
        rw [hp] at h
        rw [get_n] at h
        cases hj : Nat.beq j 0 with
        | true =>
          have hj0 : j = 0 := Nat.eq_of_beq_eq_true hj
          rw [hj] at h
          exact .inr ⟨by omega, h⟩
        | false =>
          have hj0 : j ≠ 0 := Nat.ne_of_beq_eq_false hj
          rw [hj] at h
          cases hq : Nat.beq (j % 2) 1 with
          | true =>
            have hq1 := Nat.eq_of_beq_eq_true hq
            rw [hq] at h
            exact .inr ⟨by omega, h⟩
          | false =>
            have hq1 := Nat.ne_of_beq_eq_false hq
            rw [hq] at h
            rcases set_get d t.right (i / 2 - 1) x (j / 2 - 1) u h with ⟨e, h'⟩ | ⟨e, h'⟩
            · exact .inl ⟨by omega, h'⟩
            · exact .inr ⟨by omega, h'⟩
end Tr

/-! blocks -/
inductive AObj where
  | cells (t : TypeId) (cs : List AV) (opn : Bool)
  | map (es : List (AV × AV × Nat)) (clock : Nat)
  | chan (cap : Nat) (buf : List AV) (closed : Bool) (s r : Nat)
  | strIter (s : List Nat) (pos : Nat)
  | mapIter (m : Nat)
  /-- The record of a range over a function, amid no round: the frame's slots as they were at its start. -/
  | loop (N : Nat) (ps : List Nat) (asg bd : Code) (f : Tr AV)
  /-- A row of pairs of numbers, of which the order is not known. -/
  | bag (t : TypeId) (cs : List (Int × Int))
deriving Inhabited
def flatP (l : List (Int × Int)) : List Value := l.flatMap fun p => [.int .i64 p.1, .int .i64 p.2]
inductive ERs (l : Env) : List (AV × AV × Nat) → List MapEntry → Prop where
  | nil : ERs l [] []
  | cons {k v n k' v' a a'} (hk : VR l k k') (hv : VR l v v') (h' : ERs l a a') : ERs l ((k, v, n) :: a) (⟨k', v', n⟩ :: a')
theorem ERs.mono {l l' : Env} (hl : l.le l') : ∀ {v x}, ERs l v x → ERs l' v x
  | _, _, .nil => .nil
  | _, _, .cons h h1 h' => .cons (h.mono hl) (h1.mono hl) (ERs.mono hl h')
/-- No cell of the block is frozen. -/
def frOk (fr : Nat × Nat) (n : Nat) : Prop := fr = (0, 0) ∨ n ≤ fr.1
/-- A block as the reckoner has it (sz: how many cells an element of a type has). -/
inductive OR (sz : TypeId → Nat) (l : Env) (κ : Nat) : AObj → Obj → Prop where
  | shut {t cs xs fr} (h : VRs l cs xs) (hf : frOk fr xs.length) : OR sz l κ (.cells t cs false) (.cells xs.toArray t fr)
  | opn {t cs xs rest fr} (h : VRs l cs xs) (hs : (xs ++ rest).length = κ * sz t) (hf : frOk fr (xs ++ rest).length) : OR sz l κ (.cells t cs true) (.cells (xs ++ rest).toArray t fr)
  | map {es xs} (c) (h : ERs l es xs) : OR sz l κ (.map es c) (.map xs.toArray c)
  | chan {buf xs} (c cl s r) (h : VRs l buf xs) : OR sz l κ (.chan c buf cl s r) (.chan c xs.toArray cl s r false)
  | strIter (s p) (h : ∀ x ∈ s, x < 256) : OR sz l κ (.strIter s p) (.stringIter (bs s) p)
  | mapIter {m k κ'} (since c0) (h : l m = some (k, κ')) : OR sz l κ (.mapIter m) (.mapIter (some k) since #[] c0)
  | loop {N ps asg bd f} {r : Loop} (h1 : r.state = .ready) (h2 : r.pending = none) (h3 : r.params.toList = ps) (h4 : r.assign = asg) (h5 : r.body = bd) (h6 : r.tmps.size = N) (h : ∀ i v, f.get i = some v → ∃ x, r.tmps[i]? = some x ∧ VR l v x) : OR sz l κ (.loop N ps asg bd f) (.loop r)
  | bag {t cs xs rest fr} (h : List.Perm xs cs) (hs : (flatP xs ++ rest).length = κ * sz t) (hf : frOk fr (flatP xs ++ rest).length) : OR sz l κ (.bag t cs) (.cells (flatP xs ++ rest).toArray t fr)
theorem OR.mono {sz : TypeId → Nat} {l l' : Env} {κ : Nat} (hl : l.le l') {o : AObj} {x : Obj} (h : OR sz l κ o x) : OR sz l' κ o x := by
  cases h with
  | shut h hf => exact .shut (h.mono hl) hf
  | opn h hs hf => exact .opn (h.mono hl) hs hf
  | map c h => exact .map c (h.mono hl)
  | chan c cl s r h => exact .chan c cl s r (h.mono hl)
  | strIter s p h => exact .strIter s p h
  | mapIter s c h => exact .mapIter s c (hl _ _ h)
  | loop h1 h2 h3 h4 h5 h6 h => exact .loop h1 h2 h3 h4 h5 h6 fun i v e => let ⟨x, g1, g2⟩ := h i v e; ⟨x, g1, g2.mono hl⟩
  | bag h hs hf => exact .bag h hs hf
structure Hp where
  t : Tr AObj
  nx : Nat
namespace Hp
noncomputable def get (H : Hp) (b : Nat) : Option AObj := H.t.get b
noncomputable def put (H : Hp) (b : Nat) (o : AObj) : Hp := ⟨H.t.set 24 b (some o), H.nx⟩
noncomputable def drop (H : Hp) (b : Nat) : Hp := ⟨H.t.set 24 b none, H.nx⟩
noncomputable def new (H : Hp) (o : AObj) : Hp := ⟨H.t.set 24 H.nx (some o), H.nx + 1⟩
theorem get_of {t : Tr AObj} {n b : Nat} {x : Option AObj} (e : (⟨t, n⟩ : Hp).get b = x) : t.get b = x := e
theorem put_get {H : Hp} {b : Nat} {o : AObj} {j : Nat} {u : AObj} (h : (H.put b o).get j = some u) : (j = b ∧ u = o) ∨ (j ≠ b ∧ H.get j = some u) := by
  have h : (H.t.set 24 b (some o)).get j = some u := h
  rcases Tr.set_get _ _ _ _ _ _ h with ⟨e, e'⟩ | ⟨e, e'⟩
  · cases e'; exact .inl ⟨e, rfl⟩
  · exact .inr ⟨e, e'⟩
theorem new_get {H : Hp} {o : AObj} {j : Nat} {u : AObj} (h : (H.new o).get j = some u) : (j = H.nx ∧ u = o) ∨ (j ≠ H.nx ∧ H.get j = some u) := by
  have h : (H.t.set 24 H.nx (some o)).get j = some u := h
  rcases Tr.set_get _ _ _ _ _ _ h with ⟨e, e'⟩ | ⟨e, e'⟩
  · cases e'; exact .inl ⟨e, rfl⟩
  · exact .inr ⟨e, e'⟩
theorem drop_get {H : Hp} {b : Nat} {j : Nat} {u : AObj} (h : (H.drop b).get j = some u) : j ≠ b ∧ H.get j = some u := by
  have h : (H.t.set 24 b none).get j = some u := h
  rcases Tr.set_get _ _ _ _ _ _ h with ⟨e, e'⟩ | ⟨e, e'⟩
  · cases e'
  · exact ⟨e, e'⟩
end Hp
/-- How the blocks stand: each lies where the environment says, no two at one place. -/
structure HR (sz : TypeId → Nat) (l : Env) (H : Hp) (w : World) : Prop where
  obj : ∀ b o, H.get b = some o → ∃ k κ x, l b = some (k, κ) ∧ w.heap[k]? = some x ∧ OR sz l κ o x
  inj : ∀ b b' o o' x x', H.get b = some o → H.get b' = some o' → l b = some x → l b' = some x' → x.1 = x'.1 → b = b'
  dom : ∀ b x, l b = some x → b < H.nx
  glob : ∀ g, g < 1000 → l g = some (g, 0)
/-- What an operation leaves: new blocks from nx on; of old blocks none has turned but those from lo on. -/
structure Kp (sz : TypeId → Nat) (lo : Nat) (l : Env) (H : Hp) (w : World) (l' : Env) (H' : Hp) (w' : World) : Prop where
  le : l.le l'
  hr : HR sz l' H' w'
  nx : H.nx ≤ H'.nx
  old : ∀ b, b < H.nx → (H'.get b).isSome → (H.get b).isSome
  os : w'.os = w.os
  tape : w'.tape = w.tape
  output : w'.output = w.output
  size : w.heap.size ≤ w'.heap.size
  block : ∀ k, k < w.heap.size → (∀ b x, lo ≤ b → l b = some x → (H.get b).isSome → x.1 ≠ k) → w'.heap[k]? = w.heap[k]?
  fresh : ∀ b x, l' b = some x → l b = some x ∨ (H.nx ≤ b ∧ (w.heap.size ≤ x.1 ∨ ∃ b0, lo ≤ b0 ∧ (H.get b0).isSome ∧ (l b0).map (·.1) = some x.1))
end Go.Proofs.YtkbmmoobcikbaaaGreatDoor.Ev
namespace Go.Proofs.YtkbmmoobcikbaaaGreatDoor.Ev
open Go Go.RowKit

theorem Kp.refl {sz : TypeId → Nat} {lo : Nat} {l : Env} {H : Hp} {w : World} (h : HR sz l H w) : Kp sz lo l H w l H w :=
  ⟨.refl _, h, Nat.le_refl _, fun _ _ h => h, rfl, rfl, rfl, Nat.le_refl _, fun _ _ _ => rfl, fun _ _ h => .inl h⟩

/-- A type's row. -/
structure TI where
  und : TypeDesc
  size : Nat
  bytes : Nat
  zero : Option AV
  agg : Bool
structure FI where
  ntmps : Nat
  body : Code
  results : List ResultVar
structure Tb where
  ty : TypeId → Option TI
  fn : FuncId → Option FI
  sz : TypeId → Nat
  eqOk : TypeId → Bool
  hook : FuncId → List AV → Hp → Option (AV × Hp)
  mth : TypeId → String → Option FuncId
  lo : Nat
noncomputable def rowDesc : TypeDesc → Bool
  | .struct _ | .array _ _ => true
  | _ => false
structure TbOk (P : Program) (T : Tb) : Prop where
  und : ∀ t i, T.ty t = some i → P.underlying t = some i.und
  info : ∀ t i, T.ty t = some i → ∃ f, P.info? t = some f ∧ f.size = i.size ∧ f.bytes = i.bytes ∧ ∀ z, i.zero = some z → (∀ u, z ≠ .cst u) ∧ ∃ x, f.zero = some x ∧ ∀ l, VR l z x
  agg : ∀ t i, T.ty t = some i → i.agg = rowDesc i.und
  sz : ∀ t i, T.ty t = some i → T.sz t = i.size
  fn : ∀ (f : FuncId) i, T.fn f = some i → ∃ fn, P.funcs[f]? = some fn ∧ fn.body = some i.body ∧ fn.ntmps = i.ntmps ∧ fn.results.toList = i.results ∧ ∀ args w, (callFunc f args).run P w = .ok (.enter f args) w
  eqOk : ∀ t, T.eqOk t = true → P.stoodInHeld t = false ∧ P.eqGuardType P.depth t = false ∧ ∀ f ∈ (P.fieldsOf t).toList, f.name ≠ "_"
  mixed : P.follows .mixedOrders = true
  mth : ∀ t n f, T.mth t n = some f → ∀ v w, (method (P.types.size + Made.depth) t v n).run P w = .ok (f, v) w ∧ (nilAhead (P.types.size + Made.depth) t v n).run P w = .ok (some false) w

/-- The same table, where no block ahead of one is turned. -/
noncomputable def Tb.from (T : Tb) (n : Nat) : Tb := { T with lo := n }
theorem TbOk.from {P : Program} {T : Tb} (h : TbOk P T) (n : Nat) : TbOk P (T.from n) := ⟨h.und, h.info, h.agg, h.sz, h.fn, h.eqOk, h.mixed, h.mth⟩

/-- A frame: what is known of its slots. -/
structure FR (N : Nat) (Ds : List Deferred) (l : Env) (f : Tr AV) (a : Act) : Prop where
  size : a.tmps.size = N
  get : ∀ i v, f.get i = some v → ∃ x, a.tmps[i]? = some x ∧ VR l v x
  defers : a.defers = Ds
  glob : ∀ g, g < 1000 → l g = some (g, 0)
theorem FR.mono {N : Nat} {Ds : List Deferred} {l l' : Env} {f : Tr AV} {a : Act} (h : FR N Ds l f a) (hl : l.le l') : FR N Ds l' f a :=
  ⟨h.size, fun i v e => let ⟨x, h1, h2⟩ := h.get i v e; ⟨x, h1, h2.mono hl⟩, h.defers, fun g hg => hl _ _ (h.glob g hg)⟩
noncomputable def putF (N : Nat) (f : Tr AV) (dst : Option Tmp) (v : AV) : Option (Tr AV) := match dst with
  | none => some f
  | some d => match Nat.blt d N with
    | true => some (f.set 10 d (some v))
    | false => none
theorem FR.put {N : Nat} {Ds : List Deferred} {l : Env} {f f' : Tr AV} {a : Act} (h : FR N Ds l f a) {dst : Option Tmp} {v : AV} {x : Value} (hv : VR l v x) (hp : putF N f dst v = some f') : FR N Ds l f' (a.put dst x) := by
  unfold putF at hp
  cases dst with
  | none => cases hp; exact h
  | some d =>
    simp only at hp
    split at hp
    · rename_i hd
      have hd' : d < N := by simpa [Nat.blt_eq] using hd
      cases hp
      refine ⟨by simp [Act.put, h.size], fun i u e => ?_, h.defers, h.glob⟩
      rcases Tr.set_get _ _ _ _ _ _ e with ⟨e1, e2⟩ | ⟨e1, e2⟩
      · cases e2; subst e1
        exact ⟨x, by simp [Act.put, h.size, hd'], hv⟩
      · obtain ⟨y, h1, h2⟩ := h.get i u e2
        refine ⟨y, ?_, h2⟩
        simp only [Act.put]
        rw [Array.getElem?_setIfInBounds_ne (fun e => e1 e.symm)]; exact h1
    · cases hp

noncomputable def leafV : Value → Option AV
  | .bool b => some (.bool b)
  | .int k n => some (.int k n)
  | .string s => some (.str (s.data.toList.map UInt8.toNat))
  | .pointer none => some .nilp
  | .slice none 0 0 => some .nils
  | .map none => some (.map none)
  | .chan none => some (.chan none)
  | .nilFunc => some .nilfn
  | .nilIface => some .nilif
  | .func f ⟨[]⟩ ⟨[]⟩ => some (.fn f [] [])
  | _ => none
theorem bs_of (s : ByteArray) : bs (s.data.toList.map UInt8.toNat) = s := by
  obtain ⟨⟨d⟩⟩ := s
  unfold bs
  congr 2
  rw [List.map_map]
  conv => rhs; rw [← List.map_id d]
  apply List.map_congr_left
  intro x _
  simp
theorem leafV_ok {v : Value} {a : AV} (h : leafV v = some a) (l : Env) : VR l a v := by
  unfold leafV at h
  split at h <;> cases h
  · exact .bool _
  · exact .int _ _
  · rename_i s
    conv => rhs; rw [← bs_of s]
    refine .str _ (fun x hx => ?_)
    obtain ⟨c, -, rfl⟩ := List.mem_map.1 hx
    exact c.toNat_lt
  · exact .nilp
  · exact .nils
  · exact .nilmap
  · exact .nilchan
  · exact .nilfn
  · exact .nilif
  · exact .fn _ .nil .nil
noncomputable def leafs : List Value → Option (List AV)
  | [] => some []
  | v :: r => match leafV v with
    | none => none
    | some a => match leafs r with
      | none => none
      | some l => some (a :: l)
theorem leafs_ok : ∀ {vs : List Value} {a : List AV}, leafs vs = some a → ∀ l : Env, VRs l a vs
  | [], a, h, l => by cases h; exact .nil
  | v :: r, a, h, l => by
    unfold leafs at h
    split at h
    · cases h
    · rename_i x hx
      split at h
      · cases h
      · rename_i y hy
        cases h
        exact .cons (leafV_ok hx l) (leafs_ok hy l)
noncomputable def absV : Value → Option AV
  | .agg ⟨cs⟩ => match leafs cs with | some l => some (.agg l) | none => none
  | .tuple ⟨cs⟩ => match leafs cs with | some l => some (.tup l) | none => none
  | v => leafV v
theorem absV_ok {v : Value} {a : AV} (h : absV v = some a) (l : Env) : VR l a v := by
  unfold absV at h
  split at h
  · split at h <;> cases h
    rename_i hl
    exact .agg (leafs_ok hl l)
  · split at h <;> cases h
    rename_i hl
    exact .tup (leafs_ok hl l)
  · exact leafV_ok h l
noncomputable def evalO (f : Tr AV) : Operand → Option AV
  | .tmp t => f.get t
  | .const v => absV v
  | .global g => match Nat.blt g 1000 with
    | true => some (.ptr g 0)
    | false => none
  | .func g => some (.fn (.func g) [] [])
theorem evalO_ok {N : Nat} {Ds : List Deferred} {l : Env} {f : Tr AV} {a : Act} (h : FR N Ds l f a) {o : Operand} {v : AV} (e : evalO f o = some v) : VR l v (a.eval o) := by
  cases o with
  | tmp t =>
    obtain ⟨x, h1, h2⟩ := h.get t v e
    have : a.eval (.tmp t) = x := by simp [Act.eval, h1]
    rw [this]; exact h2
  | const c => exact absV_ok e l
  | global g =>
    simp only [evalO] at e
    split at e
    · rename_i hg
      have hg : g < 1000 := by simpa [Nat.blt_eq] using hg
      cases e
      exact .ptr 0 (h.glob g hg)
    · cases e
  | func g => cases e; exact .fn _ .nil .nil
noncomputable def evalOs (f : Tr AV) : List Operand → Option (List AV)
  | [] => some []
  | o :: r => match evalO f o with
    | none => none
    | some v => match evalOs f r with
      | none => none
      | some l => some (v :: l)
theorem evalOs_ok {N : Nat} {Ds : List Deferred} {l : Env} {f : Tr AV} {a : Act} (h : FR N Ds l f a) : ∀ {os : List Operand} {vs : List AV}, evalOs f os = some vs → VRs l vs (os.map a.eval)
  | [], vs, e => by cases e; exact .nil
  | o :: r, vs, e => by
    unfold evalOs at e
    split at e
    · cases e
    · rename_i v hv
      split at e
      · cases e
      · rename_i t ht
        cases e
        exact .cons (evalO_ok h hv) (evalOs_ok h ht)

/-! what an operation gives -/
noncomputable def Gives (P : Program) (sz : TypeId → Nat) (lo : Nat) (l : Env) (H : Hp) (w : World) (s : Sem Value) (v : AV) (H' : Hp) : Prop :=
  ∃ l' x w', s.run P w = .ok x w' ∧ VR l' v x ∧ Kp sz lo l H w l' H' w'
theorem Gives.pure {P : Program} {sz : TypeId → Nat} {lo : Nat} {l : Env} {H : Hp} {w : World} {s : Sem Value} {v : AV} {x : Value} (hr : HR sz l H w) (h : s.run P w = .ok x w) (hv : VR l v x) : Gives P sz lo l H w s v H :=
  ⟨l, x, w, h, hv, .refl hr⟩

/-! operators -/
noncomputable def intOp (op : BinOp) (k : IntKind) (a b : Int) : Option AV :=
  match op with
  | .add => some (.int k (k.wrap (a + b)))
  | .sub => some (.int k (k.wrap (a - b)))
  | .mul => some (.int k (k.wrap (a * b)))
  | .quo => if b = 0 then none else some (.int k (k.wrap (a.tdiv b)))
  | .rem => if b = 0 then none else some (.int k (a.tmod b))
  | .and => some (.int k (k.wrap (BitVec.ofInt k.bits a &&& BitVec.ofInt k.bits b).toNat))
  | .or => some (.int k (k.wrap (BitVec.ofInt k.bits a ||| BitVec.ofInt k.bits b).toNat))
  | .xor => some (.int k (k.wrap (BitVec.ofInt k.bits a ^^^ BitVec.ofInt k.bits b).toNat))
  | .andNot => some (.int k (k.wrap (BitVec.ofInt k.bits a &&& ~~~ (BitVec.ofInt k.bits b)).toNat))
  | .eql => some (.bool (a == b))
  | .neq => some (.bool (a != b))
  | .lss => some (.bool (a < b))
  | .leq => some (.bool (a ≤ b))
  | .gtr => some (.bool (a > b))
  | .geq => some (.bool (a ≥ b))
  | _ => none
theorem intOp_ok {P : Program} {w : World} {op : BinOp} {k : IntKind} {a b : Int} {v : AV} (t : TypeId) (h : intOp op k a b = some v) (l : Env) : ∃ x, (binOp op t (.int k a) (.int k b)).run P w = .ok x w ∧ VR l v x := by
  cases op <;> simp only [intOp] at h
  case quo => split at h <;> cases h; rename_i hb; exact ⟨_, by simp [binOp, Op.intDiv, hb], .int _ _⟩
  case rem => split at h <;> cases h; rename_i hb; exact ⟨_, by simp [binOp, Op.intDiv, hb], .int _ _⟩
  all_goals first
    | (cases h; refine ⟨_, ?_, .int _ _⟩; simp [binOp, Op.intArith, Op.intBits])
    | (cases h; refine ⟨_, ?_, .bool _⟩; simp [binOp, Op.intCmp])
    | cases h
theorem bs_inj {x y : List Nat} (hx : ∀ c ∈ x, c < 256) (hy : ∀ c ∈ y, c < 256) : (bs x).toList = (bs y).toList ↔ x = y := by
  constructor
  · intro h
    unfold bs at h
    rw [ByteArray.toList_eq, ByteArray.toList_eq] at h
    simp only at h
    have h : x.map UInt8.ofNat = y.map UInt8.ofNat := h
    have e : ∀ l : List Nat, (∀ c ∈ l, c < 256) → (l.map UInt8.ofNat).map UInt8.toNat = l := by
      intro l hl
      rw [List.map_map]
      conv => rhs; rw [← List.map_id l]
      apply List.map_congr_left
      intro c hc
      simp [Nat.mod_eq_of_lt (hl c hc)]
    rw [← e x hx, ← e y hy, h]
  · rintro rfl; rfl
noncomputable def strLt : List Nat → List Nat → Bool
  | _, [] => false
  | [], _ :: _ => true
  | a :: x, b :: y => match Nat.blt a b with
    | true => true
    | false => match Nat.beq a b with
      | true => strLt x y
      | false => false
theorem strLt_ok : ∀ (x y : List Nat), (∀ c ∈ x, c < 256) → (∀ c ∈ y, c < 256) → Op.bytesLess (x.map UInt8.ofNat) (y.map UInt8.ofNat) = strLt x y
  | x, [], _, _ => by cases x <;> rfl
  | [], _ :: _, _, _ => rfl
  | a :: x, b :: y, hx, hy => by
    have ha := hx a (by simp)
    have hb := hy b (by simp)
    have ih := strLt_ok x y (fun c h => hx c (by simp [h])) (fun c h => hy c (by simp [h]))
    simp only [List.map_cons, Op.bytesLess, strLt, ih]
    have e1 : decide (UInt8.ofNat a < UInt8.ofNat b) = Nat.blt a b := by
      rw [Bool.eq_iff_iff]
      simp [UInt8.lt_iff_toNat_lt, Nat.mod_eq_of_lt ha, Nat.mod_eq_of_lt hb, Nat.blt_eq]
    have e2 : (UInt8.ofNat a == UInt8.ofNat b) = Nat.beq a b := by
      rw [Bool.eq_iff_iff]
      simp [← UInt8.toNat_inj, Nat.mod_eq_of_lt ha, Nat.mod_eq_of_lt hb]
    rw [e1, e2]
    cases Nat.blt a b <;> cases Nat.beq a b <;> rfl
noncomputable def strEq : List Nat → List Nat → Bool
  | [], [] => true
  | a :: x, b :: y => match Nat.beq a b with
    | true => strEq x y
    | false => false
  | _, _ => false
theorem strEq_iff : ∀ {x y : List Nat}, strEq x y = true ↔ x = y
  | [], [] => by simp [strEq]
  | [], _ :: _ => by simp [strEq]
  | _ :: _, [] => by simp [strEq]
  | a :: x, b :: y => by
    unfold strEq
    cases h : Nat.beq a b with
    | true => have := Nat.eq_of_beq_eq_true h; simp [this, strEq_iff]
    | false => have := Nat.ne_of_beq_eq_false h; simp [this]
noncomputable def strOp (op : BinOp) (a b : List Nat) : Option AV :=
  match op with
  | .add => match Nat.blt (a.length + b.length) 1000000 with | true => some (.str (a ++ b)) | false => none
  | .eql => some (.bool (strEq a b))
  | .neq => some (.bool (!(strEq a b)))
  | .lss => some (.bool (strLt a b))
  | .leq => some (.bool (strLt a b || strEq a b))
  | .gtr => some (.bool (!(strLt a b || strEq a b)))
  | .geq => some (.bool (!(strLt a b)))
  | _ => none
theorem bs_append (a b : List Nat) : bs (a ++ b) = bs a ++ bs b := by
  unfold bs
  apply ByteArray.ext
  simp
theorem strOp_ok {P : Program} {w : World} {op : BinOp} {a b : List Nat} {v : AV} (t : TypeId) (h : strOp op a b = some v) (ha : ∀ c ∈ a, c < 256) (hb : ∀ c ∈ b, c < 256) (l : Env) : ∃ x, (binOp op t (.string (bs a)) (.string (bs b))).run P w = .ok x w ∧ VR l v x := by
  have e1 : ((bs a).toList == (bs b).toList) = strEq a b := by
    rw [Bool.eq_iff_iff, strEq_iff, beq_iff_eq, bs_inj ha hb]
  have e2 : Op.bytesLess (bs a).toList (bs b).toList = strLt a b := by
    rw [← strLt_ok a b ha hb]
    unfold bs
    rw [ByteArray.toList_eq, ByteArray.toList_eq]
  have hz : (bs a).size + (bs b).size = a.length + b.length := by simp [bs, ByteArray.size]
  cases op <;> simp only [strOp] at h
  case add =>
    split at h <;> cases h
    rename_i hl
    have hl' : a.length + b.length < 1000000 := by simpa [Nat.blt_eq] using hl
    refine ⟨_, ?_, .str (a ++ b) (fun c hc => ?_)⟩
    · rw [bs_append]
      have : ¬ ((((bs a).size + (bs b).size : Nat) : Int) > IntKind.i64.max) := by
        rw [hz, show IntKind.i64.max = 9223372036854775807 from by decide]; omega
      simp only [binOp, Op.stringOp]
      rw [if_neg this]; rfl
    · rw [List.mem_append] at hc
      rcases hc with hc | hc
      · exact ha c hc
      · exact hb c hc
  all_goals first
    | (cases h; exact ⟨_, by simp only [binOp, Op.stringOp, e1, e2]; rfl, .bool _⟩)
    | cases h
end Go.Proofs.YtkbmmoobcikbaaaGreatDoor.Ev
namespace Go.Proofs.YtkbmmoobcikbaaaGreatDoor.Ev
open Go Go.RowKit

variable {P : Program} {T : Tb} {sz : TypeId → Nat} {lo : Nat} {l : Env} {H : Hp} {w : World}

/-- A value of one cell. -/
noncomputable def one : AV → Bool
  | .agg _ | .tup _ | .cst _ => false
  | _ => true
noncomputable def ones : List AV → Bool
  | [] => true
  | v :: r => match one v with
    | true => ones r
    | false => false
theorem one_ok {v : AV} {x : Value} (h : VR l v x) (h1 : one v = true) : x.oneCell' = true := by
  cases h <;> first | rfl | cases h1
theorem ones_ok : ∀ {v : List AV} {x : List Value}, VRs l v x → ones v = true → ∀ u ∈ x, u.oneCell' = true
  | _, _, .nil, _, u, hu => by cases hu
  | _, _, .cons h h', h1, u, hu => by
    unfold ones at h1
    split at h1
    · rename_i e
      rcases List.mem_cons.1 hu with rfl | hu
      · exact one_ok h e
      · exact ones_ok h' h1 u hu
    · cases h1
/-- The cells that a value takes. -/
noncomputable def avCells : AV → List AV
  | .agg c => c
  | v => [v]
theorem avCells_ok {v : AV} {x : Value} (h : VR l v x) (hc : ∀ u, v ≠ .cst u) : VRs l (avCells v) x.cells.toList := by
  cases h
  case agg h => simpa [avCells, Value.cells] using h
  case cst => exact absurd rfl (hc _)
  all_goals exact .cons (by constructor <;> assumption) .nil

/-! a block of cells -/
theorem HR.at_ (h : HR sz l H w) {b : Nat} {t : TypeId} {cs : List AV} {p : Bool} (hb : H.get b = some (.cells t cs p)) :
    ∃ k κ xs rest fr, l b = some (k, κ) ∧ w.heap[k]? = some (.cells (xs ++ rest).toArray t fr) ∧ VRs l cs xs ∧ (p = false → rest = []) ∧ (p = true → (xs ++ rest).length = κ * sz t) ∧ frOk fr (xs ++ rest).length := by
  obtain ⟨k, κ, x, h1, h2, h3⟩ := h.obj b _ hb
  cases h3 with
  | shut h hf => exact ⟨k, κ, _, [], _, h1, by simpa using h2, h, fun _ => rfl, (fun e => by cases e), by simpa using hf⟩
  | opn h hs hf => exact ⟨k, κ, _, _, _, h1, h2, h, (fun e => by cases e), fun _ => hs, hf⟩
theorem cell_get {k : Nat} {xs : List Value} {t : TypeId} {fr : Nat × Nat} (h : w.heap[k]? = some (.cells xs.toArray t fr)) (j : Nat) (u : Value) (hj : xs[j]? = some u) : w.cell? ⟨k, j, none⟩ = some u := by
  simp [World.cell?, h, hj]
theorem frOk_len {fr : Nat × Nat} {n m : Nat} (h : frOk fr n) (e : m = n) : frOk fr m := e ▸ h
theorem frOk_not {k : Nat} {xs : List Value} {t : TypeId} {fr : Nat × Nat} (h : frOk fr xs.length) (hk : w.heap[k]? = some (.cells xs.toArray t fr)) {j : Nat} (hj : j < xs.length) : w.frozen? ⟨k, j, none⟩ = false := by
  unfold World.frozen?
  simp only [hk]
  rcases h with rfl | h
  · simp
  · simp; omega
/-- Some cells of a block. -/
noncomputable def loadL (H : Hp) (b o n : Nat) : Option (List AV) :=
  match H.get b with
  | some (.cells _ cs _) => match Nat.ble (o + n) cs.length with
    | true => some ((cs.drop o).take n)
    | false => none
  | _ => none
theorem loadL_ok (h : HR sz l H w) {b o n : Nat} {vs : List AV} (e : loadL H b o n = some vs) : ∃ k κ xs, l b = some (k, κ) ∧ w.rangeAt k o xs ∧ VRs l vs xs ∧ xs.length = n := by
  unfold loadL at e
  split at e
  · rename_i t cs p hb
    split at e
    · rename_i hle
      cases e
      obtain ⟨k, κ, xs, rest, fr, h1, h2, h3, -, -, -⟩ := h.at_ hb
      have hlen := h3.length
      have hle' : o + n ≤ cs.length := by simpa [Nat.ble_eq] using hle
      refine ⟨k, κ, (xs.drop o).take n, h1, fun j u hj => ?_, (h3.drop o).take n, by simp; omega⟩
      refine cell_get h2 (o + j) u ?_
      have hjn : j < n := by
        have := (List.getElem?_eq_some_iff.1 hj).1
        simp at this; omega
      rw [List.getElem?_take_of_lt hjn, List.getElem?_drop] at hj
      rw [List.getElem?_append_left (by omega)]; exact hj
    · cases e
  · cases e
theorem loadCells_run {k o : Nat} {xs : List Value} (h : w.rangeAt k o xs) : (loadCells ⟨k, o, none⟩ xs.length).run P w = .ok xs.toArray w :=
  run_loadCells_list (P := P) w ⟨k, o, none⟩ xs (fun j v hv => by rw [Addr.add_mid]; exact h j v hv)

/-! the same block, turned -/
theorem Kp.turn (h : HR sz l H w) {b k κ : Nat} {o o' : AObj} (hb : H.get b = some o) (hl : l b = some (k, κ)) (hlo : lo ≤ b) {w' : World} (hs : w'.heap.size = w.heap.size) (ho : ∀ j, j ≠ k → w'.heap[j]? = w.heap[j]?)
    {x : Obj} (hk : w'.heap[k]? = some x) (hor : OR sz l κ o' x) (h1 : w'.os = w.os) (h2 : w'.tape = w.tape) (h3 : w'.output = w.output) : Kp sz lo l H w l (H.put b o') w' := by
  refine ⟨.refl _, ⟨fun b2 o2 e => ?_, fun b2 b3 o2 o3 x2 x3 e2 e3 l2 l3 hx => ?_, h.dom, h.glob⟩, Nat.le_refl _, fun b2 _ hs2 => ?_, h1, h2, h3, by omega, fun j hj hne => ho j (fun e => hne b (k, κ) hlo hl (by simp [hb]) e.symm), fun _ _ e => .inl e⟩
  · rcases Hp.put_get e with ⟨rfl, rfl⟩ | ⟨hne, e⟩
    · exact ⟨k, κ, x, hl, hk, hor⟩
    · obtain ⟨k2, κ2, x2, l2, e2, r2⟩ := h.obj b2 o2 e
      refine ⟨k2, κ2, x2, l2, (ho k2 fun ek => hne (h.inj b2 b o2 o _ _ e hb l2 hl ek)).trans e2, r2⟩
  · have g2 : ∃ o2', H.get b2 = some o2' := by
      rcases Hp.put_get e2 with ⟨rfl, -⟩ | ⟨-, e⟩
      · exact ⟨_, hb⟩
      · exact ⟨_, e⟩
    have g3 : ∃ o3', H.get b3 = some o3' := by
      rcases Hp.put_get e3 with ⟨rfl, -⟩ | ⟨-, e⟩
      · exact ⟨_, hb⟩
      · exact ⟨_, e⟩
    obtain ⟨_, g2⟩ := g2
    obtain ⟨_, g3⟩ := g3
    exact h.inj b2 b3 _ _ x2 x3 g2 g3 l2 l3 hx
  · obtain ⟨o2, e⟩ := Option.isSome_iff_exists.1 hs2
    rcases Hp.put_get e with ⟨rfl, -⟩ | ⟨-, e⟩
    · rw [hb]; rfl
    · rw [e]; rfl
/-! a new block -/
noncomputable def Env.upd (l : Env) (n : Nat) (x : Nat × Nat) : Env := fun b => if b = n then some x else l b
theorem Env.upd_le (h : HR sz l H w) (x : Nat × Nat) : l.le (l.upd H.nx x) := fun b y hb => by
  unfold Env.upd
  rw [if_neg (fun e => by have := h.dom b y hb; omega)]; exact hb
theorem Kp.born (h : HR sz l H w) (κ : Nat) {o : AObj} {x : Obj} {w' : World} (hor : OR sz (l.upd H.nx (w.heap.size, κ)) κ o x) (hs : w'.heap.size = w.heap.size + 1) (hn : w'.heap[w.heap.size]? = some x) (ho : ∀ j, j < w.heap.size → w'.heap[j]? = w.heap[j]?)
    (h1 : w'.os = w.os) (h2 : w'.tape = w.tape) (h3 : w'.output = w.output) : Kp sz lo l H w (l.upd H.nx (w.heap.size, κ)) (H.new o) w' := by
  have hle := Env.upd_le h (w.heap.size, κ)
  have hlt : ∀ b o2 x2, H.get b = some o2 → l b = some x2 → x2.1 < w.heap.size := fun b o2 x2 e e2 => by
    obtain ⟨k2, κ2, y, l2, g2, -⟩ := h.obj b o2 e
    rw [e2] at l2
    cases l2
    exact (Array.getElem?_eq_some_iff.1 g2).1
  have hup : (l.upd H.nx (w.heap.size, κ)) H.nx = some (w.heap.size, κ) := by simp [Env.upd]
  have hot : ∀ b, b ≠ H.nx → (l.upd H.nx (w.heap.size, κ)) b = l b := fun b hb => by simp [Env.upd, hb]
  refine ⟨hle, ⟨fun b2 o2 e => ?_, fun b2 b3 o2 o3 x2 x3 e2 e3 l2 l3 hx => ?_, fun b y hb => ?_, fun g hg => hle _ _ (h.glob g hg)⟩, Nat.le_succ _, fun b2 hlt2 hs2 => ?_, h1, h2, h3, by omega, fun j hj _ => ho j hj, fun b y hb => ?_⟩
  · rcases Hp.new_get e with ⟨rfl, rfl⟩ | ⟨hne, e⟩
    · exact ⟨_, κ, x, hup, hn, hor⟩
    · obtain ⟨k2, κ2, y, l2, g2, r2⟩ := h.obj b2 o2 e
      refine ⟨k2, κ2, y, hle _ _ l2, (ho k2 (hlt b2 o2 _ e l2)).trans g2, r2.mono hle⟩
  · rcases Hp.new_get e2 with ⟨rfl, -⟩ | ⟨n2, e2⟩
    · rcases Hp.new_get e3 with ⟨rfl, -⟩ | ⟨n3, e3⟩
      · rfl
      · rw [hup] at l2
        rw [hot _ n3] at l3
        cases l2
        have := hlt b3 o3 x3 e3 l3
        simp only at hx; omega
    · rcases Hp.new_get e3 with ⟨rfl, -⟩ | ⟨n3, e3⟩
      · rw [hup] at l3
        rw [hot _ n2] at l2
        cases l3
        have := hlt b2 o2 x2 e2 l2
        simp only at hx; omega
      · rw [hot _ n2] at l2
        rw [hot _ n3] at l3
        exact h.inj b2 b3 _ _ x2 x3 e2 e3 l2 l3 hx
  · show b < H.nx + 1
    by_cases hb2 : b = H.nx
    · omega
    · rw [hot b hb2] at hb
      have := h.dom b y hb; omega
  · obtain ⟨o2, e⟩ := Option.isSome_iff_exists.1 hs2
    rcases Hp.new_get e with ⟨rfl, -⟩ | ⟨-, e⟩
    · omega
    · rw [e]; rfl
  · by_cases hb2 : b = H.nx
    · subst hb2
      rw [hup] at hb
      cases hb
      exact .inr ⟨Nat.le_refl _, .inl (Nat.le_refl _)⟩
    · rw [hot b hb2] at hb
      exact .inl hb
theorem Kp.alloc (h : HR sz l H w) (κ : Nat) {o : AObj} {x : Obj} (hor : OR sz (l.upd H.nx (w.heap.size, κ)) κ o x) : Kp sz lo l H w (l.upd H.nx (w.heap.size, κ)) (H.new o) { w with heap := w.heap.push x } :=
  Kp.born h κ hor (by simp) (by simp) (fun j hj => by simp [Array.getElem?_push, Nat.ne_of_lt hj]) rfl rfl rfl
theorem Env.upd_at (l : Env) (n : Nat) (x : Nat × Nat) : (l.upd n x) n = some x := by simp [Env.upd]

/-! stores -/
noncomputable def storeL (cs : List AV) (o : Nat) (vs : List AV) : List AV := cs.take o ++ (vs ++ cs.drop (o + vs.length))
noncomputable def storeH (H : Hp) (lo b o : Nat) (vs : List AV) : Option Hp :=
  match Nat.ble lo b with
  | false => none
  | true => match H.get b with
    | some (.cells t cs p) => match Nat.ble (o + vs.length) cs.length with
      | false => none
      | true => match ones vs with
        | true => some (H.put b (.cells t (storeL cs o vs) p))
        | false => none
    | _ => none
theorem setCells_heap (b : Nat) : ∀ (vs : List Value) (w : World) (o : Nat) (A M R : List Value) (t : TypeId) (fr : Nat × Nat), w.heap[b]? = some (.cells (A ++ (M ++ R)).toArray t fr) → A.length = o → M.length = vs.length →
    (w.setCells b o vs).heap[b]? = some (.cells (A ++ (vs ++ R)).toArray t fr)
  | [], w, o, A, [], R, t, _, h, _, _ => by simpa [World.setCells] using h
  | v :: vs, w, o, A, m :: M, R, t, fr, h, ho, hm => by
    show ((w.setCell ⟨b, o, none⟩ v).setCells b (o + 1) vs).heap[b]? = _
    have h1 : (w.setCell ⟨b, o, none⟩ v).heap[b]? = some (.cells ((A ++ [v]) ++ (M ++ R)).toArray t fr) := by
      have hlt := (Array.getElem?_eq_some_iff.1 h).1
      have h' : w.heap[b] = .cells (A ++ ((m :: M) ++ R)).toArray t fr := by simpa [Array.getElem?_eq_getElem hlt] using h
      show (w.heap.modify b _)[b]? = _
      rw [Array.getElem?_eq_getElem (by simpa using hlt), Array.getElem_modify_self, h']
      simp only [Option.some.injEq, Obj.cells.injEq, and_true]
      apply Array.ext'
      subst ho
      simp
    have := setCells_heap b vs _ (o + 1) (A ++ [v]) M R t fr h1 (by simp [ho]) (by simpa using hm)
    rw [this]; simp
  | [], _, _, _, _ :: _, _, _, _, _, _, hm => by simp at hm
  | _ :: _, _, _, _, [], _, _, _, _, _, hm => by simp at hm
theorem setCells_other (b : Nat) : ∀ (vs : List Value) (w : World) (o j : Nat), j ≠ b → (w.setCells b o vs).heap[j]? = w.heap[j]?
  | [], _, _, _, _ => rfl
  | v :: vs, w, o, j, hj => by
    show ((w.setCell ⟨b, o, none⟩ v).setCells b (o + 1) vs).heap[j]? = _
    rw [setCells_other b vs _ _ j hj]
    show (w.heap.modify b _)[j]? = _
    rw [Array.getElem?_modify, if_neg (fun e => hj e.symm)]
theorem setCells_size (b : Nat) : ∀ (vs : List Value) (w : World) (o : Nat), (w.setCells b o vs).heap.size = w.heap.size
  | [], _, _ => rfl
  | v :: vs, w, o => by
    show ((w.setCell ⟨b, o, none⟩ v).setCells b (o + 1) vs).heap.size = _
    rw [setCells_size b vs]
    show (w.heap.modify b _).size = _
    simp
theorem setCells_rest (b : Nat) : ∀ (vs : List Value) (w : World) (o : Nat), (w.setCells b o vs).os = w.os ∧ (w.setCells b o vs).tape = w.tape ∧ (w.setCells b o vs).output = w.output
  | [], _, _ => ⟨rfl, rfl, rfl⟩
  | v :: vs, w, o => setCells_rest b vs (w.setCell ⟨b, o, none⟩ v) (o + 1)
theorem storeH_ok (h : HR sz l H w) {b o : Nat} {vs : List AV} {H' : Hp} (e : storeH H lo b o vs = some H') {xs : List Value} (hx : VRs l vs xs) :
    ∃ k κ, l b = some (k, κ) ∧ w.there k o xs.length ∧ (∀ u ∈ xs, u.oneCell' = true) ∧ Kp sz lo l H w l H' (w.setCells k o xs) := by
  unfold storeH at e
  split at e
  · cases e
  rename_i hlo
  have hlo : lo ≤ b := by simpa [Nat.ble_eq] using hlo
  split at e
  · rename_i t cs p hb
    split at e
    · cases e
    rename_i hle
    have hle : o + vs.length ≤ cs.length := by simpa [Nat.ble_eq] using hle
    split at e
    · rename_i h1
      cases e
      obtain ⟨k, κ, ys, rest, fr, g1, g2, g3, g4, g5, g6⟩ := h.at_ hb
      have hlen := g3.length
      have hvl := hx.length
      have hsplit : ys ++ rest = ys.take o ++ ((ys.drop o).take xs.length ++ (ys.drop (o + xs.length) ++ rest)) := by
        conv => lhs; rw [← List.take_append_drop o ys]
        rw [List.append_assoc]
        congr 1
        conv => lhs; rw [← List.take_append_drop xs.length (ys.drop o)]
        rw [List.append_assoc, List.drop_drop]
      have hm : ((ys.drop o).take xs.length).length = xs.length := by simp; omega
      have ha : (ys.take o).length = o := by simp; omega
      have hset := setCells_heap k xs w o (ys.take o) ((ys.drop o).take xs.length) (ys.drop (o + xs.length) ++ rest) t fr (by rw [← hsplit]; exact g2) ha hm
      have e2 : ys.take o ++ (xs ++ (ys.drop (o + xs.length) ++ rest)) = (ys.take o ++ (xs ++ ys.drop (o + xs.length))) ++ rest := by simp
      rw [e2] at hset
      have hvr : VRs l (storeL cs o vs) (ys.take o ++ (xs ++ ys.drop (o + xs.length))) := by
        unfold storeL
        rw [hvl]
        exact (g3.take o).append (hx.append (g3.drop _))
      obtain ⟨r1, r2, r3⟩ := setCells_rest k xs w o
      refine ⟨k, κ, g1, fun j hj => ⟨?_, ?_⟩, ones_ok hx h1, Kp.turn h hb g1 hlo (setCells_size _ _ _ _) (fun j hj => setCells_other _ _ _ _ _ hj) hset ?_ r1 r2 r3⟩
      · have hj2 : o + j < (ys ++ rest).length := by simp; omega
        rw [cell_get g2 (o + j) _ (List.getElem?_eq_getElem hj2)]; rfl
      · have hj3 : o + j < (ys ++ rest).length := by simp; omega
        exact frOk_not g6 g2 hj3
      · cases p with
        | false =>
          have := g4 rfl
          subst this
          rw [List.append_nil]; exact .shut hvr (frOk_len g6 (by simp; omega))
        | true =>
          have := g5 rfl
          refine .opn hvr ?_ (frOk_len g6 (by simp; omega))
          simp only [List.length_append, List.length_take, List.length_drop] at this ⊢; omega
    · cases e
  · cases e
end Go.Proofs.YtkbmmoobcikbaaaGreatDoor.Ev
namespace Go.Proofs.YtkbmmoobcikbaaaGreatDoor.Ev
open Go Go.RowKit

variable {P : Program} {T : Tb} {lo : Nat} {l : Env} {H : Hp} {w : World}

theorem run_und (hT : TbOk P T) {t : TypeId} {i : TI} (h : T.ty t = some i) : (underlying t).run P w = .ok i.und w := run_underlying (hT.und t i h) w
theorem run_size (hT : TbOk P T) {t : TypeId} {i : TI} (h : T.ty t = some i) : (Go.sizeOf t).run P w = .ok i.size w := by
  obtain ⟨f, h1, h2, -⟩ := hT.info t i h
  simp [Go.sizeOf, typeInfo, h1, h2]
theorem run_agg (hT : TbOk P T) {t : TypeId} {i : TI} (h : T.ty t = some i) : (isAgg t).run P w = .ok i.agg w := by
  unfold isAgg
  rw [Sem.run_bind, run_und hT h, hT.agg t i h]
  cases i.und <;> rfl
theorem run_zeroV (hT : TbOk P T) {t : TypeId} {i : TI} (h : T.ty t = some i) {z : AV} (hz : i.zero = some z) : ∃ x, (zeroValue t).run P w = .ok x w ∧ ∀ l, VR l z x := by
  obtain ⟨f, h1, -, -, h2⟩ := hT.info t i h
  obtain ⟨-, x, h3, h4⟩ := h2 z hz
  exact ⟨x, by simp [zeroValue, typeInfo, h1, h3], h4⟩
theorem run_zero (hT : TbOk P T) {t : TypeId} {i : TI} (h : T.ty t = some i) {z : AV} (hz : i.zero = some z) : ∃ x, (zeroValue t).run P w = .ok x w ∧ ∀ l, VRs l (avCells z) x.cells.toList := by
  obtain ⟨f, h1, -, -, h2⟩ := hT.info t i h
  obtain ⟨h0, x, h3, h4⟩ := h2 z hz
  exact ⟨x, by simp [zeroValue, typeInfo, h1, h3], fun l => avCells_ok (h4 l) h0⟩

/-! loads, stores -/
noncomputable def loadV (T : Tb) (H : Hp) (t : TypeId) (b o : Nat) : Option AV :=
  match T.ty t with
  | none => none
  | some i => match i.agg with
    | true => match loadL H b o i.size with
      | some c => some (.agg c)
      | none => none
    | false => match loadL H b o 1 with
      | some [v] => some v
      | _ => none
theorem loadV_ok (hT : TbOk P T) (h : HR T.sz l H w) {t : TypeId} {b o : Nat} {v : AV} (e : loadV T H t b o = some v) :
    ∃ k κ x, l b = some (k, κ) ∧ (loadVar t ⟨k, o, none⟩).run P w = .ok x w ∧ VR l v x := by
  unfold loadV at e
  split at e
  · cases e
  rename_i i hi
  split at e
  · rename_i ha
    split at e
    · rename_i c hc
      cases e
      obtain ⟨k, κ, xs, h1, h2, h3, h4⟩ := loadL_ok h hc
      refine ⟨k, κ, _, h1, ?_, .agg h3⟩
      unfold loadVar
      rw [Sem.run_bind, run_agg hT hi, ha]
      simp only [Result.andThen_ok, if_true]
      rw [Sem.run_bind, run_size hT hi]
      simp only [Result.andThen_ok]
      rw [Sem.run_bind, ← h4, loadCells_run h2]; rfl
    · cases e
  · rename_i ha
    split at e
    · rename_i c hc
      cases e
      obtain ⟨k, κ, xs, h1, h2, h3, h4⟩ := loadL_ok h hc
      cases h3 with
      | cons hv hn =>
        cases hn
        refine ⟨k, κ, _, h1, ?_, hv⟩
        have := h2 0 _ rfl
        rw [Nat.add_zero] at this
        unfold loadVar
        rw [Sem.run_bind, run_agg hT hi, ha]
        simp [this]
    · cases e
noncomputable def isCst : AV → Bool
  | .cst _ => true
  | _ => false
theorem isCst_ne {v : AV} (h : isCst v = false) : ∀ u, v ≠ .cst u := by
  rintro u rfl; cases h
noncomputable def storeV (T : Tb) (H : Hp) (lo : Nat) (t : TypeId) (b o : Nat) (v : AV) : Option Hp :=
  match T.ty t, isCst v with
  | some i, false => match Nat.beq (avCells v).length i.size with
    | true => storeH H lo b o (avCells v)
    | false => none
  | _, _ => none
theorem storeV_ok (hT : TbOk P T) (h : HR T.sz l H w) {t : TypeId} {b o : Nat} {v : AV} {H' : Hp} (e : storeV T H lo t b o v = some H') {x : Value} (hx : VR l v x) :
    ∃ k κ w', l b = some (k, κ) ∧ (storeVar t ⟨k, o, none⟩ x).run P w = .ok () w' ∧ Kp T.sz lo l H w l H' w' := by
  unfold storeV at e
  split at e
  · rename_i i hi hc
    split at e
    · rename_i hn
      have hn := Nat.eq_of_beq_eq_true hn
      have hcs := avCells_ok hx (isCst_ne hc)
      obtain ⟨k, κ, h1, h2, h3, h4⟩ := storeH_ok h e hcs
      refine ⟨k, κ, _, h1, ?_, h4⟩
      have hlen : x.cells.size = i.size := by have := hcs.length; rw [← hn, this]; simp
      have := run_storeCells_cells (P := P) k o x.cells.toList 0 w (fun j hj => by simpa using (h2 j (by simpa using hj)).1) (fun j hj => by simpa using (h2 j (by simpa using hj)).2) h3
      unfold storeVar
      rw [Sem.run_bind, run_size hT hi]
      simp only [Result.andThen_ok, hlen, ne_eq, not_true_eq_false, if_false]
      simpa using this
    · cases e
  · cases e
  
/-! places -/
theorem partAt_ok {k o : Nat} (n : Nat) : (⟨k, o, none⟩ : Addr).add n = ⟨k, o + n, none⟩ := Addr.add_mid k o n
noncomputable def fieldV (T : Tb) (t : TypeId) (x : AV) (n : Nat) : Option AV :=
  match T.ty t with
  | some ⟨.struct fs, _, _, _, _⟩ => match x, fs[n]? with
    | .ptr b o, some f => match T.ty f.type with
      | some i => match Nat.beq i.size 0 with
        | false => some (.ptr b (o + f.offset))
        | true => none
      | none => none
    | _, _ => none
  | _ => none
theorem fieldV_ok (hT : TbOk P T) {t : TypeId} {x v : AV} {n : Nat} (e : fieldV T t x n = some v) {y : Value} (hx : VR l x y) : ∃ z, (Instr.fieldAt t y n).run P w = .ok z w ∧ VR l v z := by
  unfold fieldV at e
  split at e
  · rename_i fs _ _ _ _ ht
    split at e
    · rename_i b o f hf
      split at e
      · rename_i i hi
        split at e
        · rename_i hz
          have hz := Nat.ne_of_beq_eq_false hz
          cases e
          cases hx with
          | ptr _ hl =>
            refine ⟨_, ?_, .ptr _ hl⟩
            unfold Instr.fieldAt
            rw [Sem.run_bind, run_und hT ht]
            simp only [Result.andThen_ok, hf]
            simp [Instr.sureAddr, fieldPlace, run_size hT hi, hz, Addr.add_mid]
        · cases e
      · cases e
    · cases e
  · cases e
noncomputable def natV : AV → Option Nat
  | .int _ (.ofNat n) => some n
  | _ => none
theorem natV_ok {v : AV} {n : Nat} (h : natV v = some n) {x : Value} (hx : VR l v x) : ∃ k, x = .int k (n : Int) := by
  unfold natV at h
  split at h
  · cases h; cases hx; exact ⟨_, rfl⟩
  · cases h
noncomputable def indexAtV (T : Tb) (t : TypeId) (x : AV) (n : Nat) : Option AV :=
  match T.ty t with
  | some ⟨.array m e, _, _, _, _⟩ => match T.ty e, x with
    | some i, .ptr b o => match Nat.blt n m with
      | true => some (.ptr b (o + n * i.size))
      | false => none
    | _, _ => none
  | some ⟨.slice e, _, _, _, _⟩ => match T.ty e, x with
    | some i, .sl b o m _ => match Nat.blt n m with
      | true => some (.ptr b (o + n * i.size))
      | false => none
    | some i, .slo b o m _ => match Nat.blt n m with
      | true => some (.ptr b (o + n * i.size))
      | false => none
    | _, _ => none
  | _ => none
theorem indexAtV_ok (hT : TbOk P T) {t : TypeId} {x v : AV} {n : Nat} (e : indexAtV T t x n = some v) {y : Value} (hx : VR l x y) (k : IntKind) : ∃ z, (Instr.indexAt t y (.int k (n : Int))).run P w = .ok z w ∧ VR l v z := by
  unfold indexAtV at e
  split at e
  · rename_i m el _ _ _ _ ht
    split at e
    · rename_i i b o hi
      split at e
      · rename_i hn
        have hn : n < m := by simpa [Nat.blt_eq] using hn
        cases e
        cases hx with
        | ptr _ hl =>
          refine ⟨_, ?_, .ptr _ hl⟩
          unfold Instr.indexAt
          simp [asIntOf, run_und hT ht, Instr.sureAddr, run_size hT hi, hn, Addr.add_mid]
      · cases e
    · cases e
  · rename_i el _ _ _ _ ht
    split at e
    · rename_i i b o m _ hi
      split at e
      · rename_i hn
        have hn : n < m := by simpa [Nat.blt_eq] using hn
        cases e
        cases hx with
        | sl _ _ _ hl =>
          refine ⟨_, ?_, .ptr _ hl⟩
          unfold Instr.indexAt
          simp [asIntOf, run_und hT ht, run_size hT hi, hn, Addr.add_mid]
      · cases e
    · rename_i i b o m _ hi
      split at e
      · rename_i hn
        have hn : n < m := by simpa [Nat.blt_eq] using hn
        cases e
        cases hx with
        | slo _ _ _ hl _ =>
          refine ⟨_, ?_, .ptr _ hl⟩
          unfold Instr.indexAt
          simp [asIntOf, run_und hT ht, run_size hT hi, hn, Addr.add_mid]
      · cases e
    · cases e
  · cases e
/-! parts of values -/
noncomputable def partV (T : Tb) (t : TypeId) (cs : List AV) (o : Nat) : Option AV :=
  match T.ty t with
  | none => none
  | some i => match i.agg with
    | true => some (.agg ((cs.drop o).take i.size))
    | false => cs[o]?
theorem partV_ok (hT : TbOk P T) {t : TypeId} {cs : List AV} {o : Nat} {v : AV} (e : partV T t cs o = some v) {xs : List Value} (hx : VRs l cs xs) : ∃ z, (part t xs.toArray o).run P w = .ok z w ∧ VR l v z := by
  unfold partV at e
  split at e
  · cases e
  rename_i i hi
  split at e
  · rename_i ha
    cases e
    refine ⟨.agg (xs.toArray.extract o (o + i.size)), ?_, ?_⟩
    · unfold part
      rw [Sem.run_bind, run_agg hT hi, ha]
      simp [run_size hT hi]
    · have e2 : (xs.toArray.extract o (o + i.size)) = ((xs.drop o).take i.size).toArray := by
        apply Array.ext'
        simp [List.take_drop]
      rw [e2]
      exact .agg ((hx.drop o).take _)
  · rename_i ha
    obtain ⟨u, h1, h2⟩ := hx.get e
    refine ⟨u, ?_, h2⟩
    unfold part
    rw [Sem.run_bind, run_agg hT hi, ha]
    simp [h1]
noncomputable def fieldOfV (T : Tb) (t : TypeId) (x : AV) (n : Nat) : Option AV :=
  match T.ty t with
  | some ⟨.struct fs, _, _, _, _⟩ => match x, fs[n]? with
    | .agg cs, some f => partV T f.type cs f.offset
    | _, _ => none
  | _ => none
theorem fieldOfV_ok (hT : TbOk P T) {t : TypeId} {x v : AV} {n : Nat} (e : fieldOfV T t x n = some v) {y : Value} (hx : VR l x y) : ∃ z, (Instr.field t y n).run P w = .ok z w ∧ VR l v z := by
  unfold fieldOfV at e
  split at e
  · rename_i fs _ _ _ _ ht
    split at e
    · rename_i cs f hf
      cases hx with
      | agg hcs =>
        obtain ⟨z, h1, h2⟩ := partV_ok (w := w) hT e hcs
        refine ⟨z, ?_, h2⟩
        unfold Instr.field
        rw [Sem.run_bind, run_und hT ht]
        simp [hf, asAgg, h1]
    · cases e
  · cases e
noncomputable def indexV (T : Tb) (t : TypeId) (x : AV) (n : Nat) : Option AV :=
  match T.ty t with
  | some ⟨.array m e, _, _, _, _⟩ => match T.ty e, x with
    | some i, .agg cs => match Nat.blt n m with
      | true => partV T e cs (n * i.size)
      | false => none
    | _, _ => none
  | some ⟨.string, _, _, _, _⟩ => match x with
    | .str s => match s[n]? with
      | some c => some (.int .u8 (.ofNat c))
      | none => none
    | _ => none
  | _ => none
theorem indexV_ok (hT : TbOk P T) {t : TypeId} {x v : AV} {n : Nat} (e : indexV T t x n = some v) {y : Value} (hx : VR l x y) (k : IntKind) : ∃ z, (Instr.index t y (.int k (n : Int))).run P w = .ok z w ∧ VR l v z := by
  unfold indexV at e
  split at e
  · rename_i m el _ _ _ _ ht
    split at e
    · rename_i i cs hi
      split at e
      · rename_i hn
        have hn : n < m := by simpa [Nat.blt_eq] using hn
        cases hx with
        | agg hcs =>
          obtain ⟨z, h1, h2⟩ := partV_ok (w := w) hT e hcs
          refine ⟨z, ?_, h2⟩
          unfold Instr.index
          simp [asIntOf, run_und hT ht, run_size hT hi, hn, h1]
      · cases e
    · cases e
  · rename_i ht
    split at e
    · rename_i s
      split at e
      · rename_i c hc
        cases e
        cases hx with
        | str _ hlt =>
          have hcl : c < 256 := hlt c (List.mem_of_getElem? hc)
          have hn : n < s.length := (List.getElem?_eq_some_iff.1 hc).1
          have hsz : n < (bs s).size := by simpa [bs, ByteArray.size] using hn
          have hget : (bs s)[n]'hsz = UInt8.ofNat c := by
            have hg := (List.getElem?_eq_some_iff.1 hc).2
            show ((s.map UInt8.ofNat).toArray)[n]'(by simpa using hn) = _
            simp [hg]
          refine ⟨_, ?_, .int _ _⟩
          unfold Instr.index
          simp only [Sem.run_bind, asIntOf, Sem.run_pure, Result.andThen_ok, run_und hT ht]
          have h0 : (0 : Int) ≤ (n : Int) := by omega
          have hq : (bs s)[n]? = some (UInt8.ofNat c) := by rw [getElem?_pos (bs s) n hsz, hget]
          simp [hq, Nat.mod_eq_of_lt hcl]
      · cases e
    · cases e
  · cases e
end Go.Proofs.YtkbmmoobcikbaaaGreatDoor.Ev
namespace Go.Proofs.YtkbmmoobcikbaaaGreatDoor.Ev
open Go Go.RowKit

variable {P : Program} {T : Tb} {lo : Nat} {l : Env} {H : Hp} {w : World} {f : Tr AV} {ρ : Operand → Value}

/-- The operands are what the frame says. -/
noncomputable def Ev (l : Env) (f : Tr AV) (ρ : Operand → Value) (o : Operand) : Prop := ∀ v, evalO f o = some v → VR l v (ρ o)
inductive PRs (l : Env) : List (Nat × AV) → List (Nat × Value) → Prop where
  | nil : PRs l [] []
  | cons {v v' a a'} (i) (h : VR l v v') (h' : PRs l a a') : PRs l ((i, v) :: a) ((i, v') :: a')
noncomputable def evalP (f : Tr AV) : List (Nat × Operand) → Option (List (Nat × AV))
  | [] => some []
  | (i, o) :: r => match evalO f o with
    | none => none
    | some v => match evalP f r with
      | none => none
      | some l => some ((i, v) :: l)
theorem evalP_ok : ∀ {os : List (Nat × Operand)} {vs : List (Nat × AV)}, (∀ p ∈ os, Ev l f ρ p.2) → evalP f os = some vs → PRs l vs (os.map fun (i, x) => (i, ρ x))
  | [], vs, _, e => by cases e; exact .nil
  | (i, o) :: r, vs, hρ, e => by
    unfold evalP at e
    split at e
    · cases e
    · rename_i v hv
      split at e
      · cases e
      · rename_i t ht
        cases e
        exact .cons i (hρ (i, o) (by simp) _ hv) (evalP_ok (fun p hp => hρ p (by simp [hp])) ht)
theorem evalOs_ok' : ∀ {os : List Operand} {vs : List AV}, (∀ p ∈ os, Ev l f ρ p) → evalOs f os = some vs → VRs l vs (os.map ρ)
  | [], vs, _, e => by cases e; exact .nil
  | o :: r, vs, hρ, e => by
    unfold evalOs at e
    split at e
    · cases e
    · rename_i v hv
      split at e
      · cases e
      · rename_i t ht
        cases e
        exact .cons (hρ o (by simp) _ hv) (evalOs_ok' (fun p hp => hρ p (by simp [hp])) ht)

/-! parts put in their places -/
noncomputable def fillL (place : Nat → Option (Nat × Nat)) : List AV → List (Nat × AV) → Option (List AV)
  | cells, [] => some cells
  | cells, (i, v) :: r => match isCst v with
    | true => none
    | false => match place i with
      | none => none
      | some (off, size) => match Nat.beq (avCells v).length size with
        | false => none
        | true => match Nat.ble (off + size) cells.length with
          | false => none
          | true => fillL place (storeL cells off (avCells v)) r
theorem fold_storeL (xs vs : List Value) (off : Nat) (h : off + vs.length ≤ xs.length) :
    (vs.zipIdx 0).foldl (fun cs (x : Value × Nat) => cs.setIfInBounds (off + x.2) x.1) xs.toArray = (xs.take off ++ (vs ++ xs.drop (off + vs.length))).toArray := by
  obtain ⟨h1, h2⟩ := Go.Great.foldl_set off vs 0 xs.toArray
  apply Array.ext_getElem?
  intro k
  rw [h2 k]
  simp only [Nat.add_zero, List.size_toArray, List.getElem?_toArray]
  rw [List.getElem?_append]
  have hto : (xs.take off).length = off := by simp; omega
  rw [hto]
  by_cases hk : k < off
  · rw [if_pos hk, if_neg (by omega), List.getElem?_take_of_lt hk]
  · rw [if_neg hk, List.getElem?_append]
    by_cases hk2 : k - off < vs.length
    · rw [if_pos hk2, if_pos (by omega)]
    · rw [if_neg hk2, if_neg (by omega), List.getElem?_drop]
      congr 1; omega
theorem fillL_ok (place : Nat → Option (Nat × Nat)) : ∀ {parts : List (Nat × AV)} {cells r : List AV} {ps : List (Nat × Value)} {xs : List Value}, fillL place cells parts = some r → VRs l cells xs → PRs l parts ps →
    ∃ ys : List Value, Instr.fill place xs.toArray ps = some ys.toArray ∧ VRs l r ys
  | [], cells, r, ps, xs, e, hx, hp => by
    cases hp
    cases e
    exact ⟨xs, rfl, hx⟩
  | (i, v) :: parts, cells, r, ps, xs, e, hx, hp => by
    cases hp with
    | cons _ hv hr =>
      rename_i x ps
      unfold fillL at e
      split at e
      · cases e
      rename_i hc
      split at e
      · cases e
      rename_i off size hpl
      split at e
      · cases e
      rename_i hn
      split at e
      · cases e
      rename_i hle
      have hn := Nat.eq_of_beq_eq_true hn
      have hle : off + size ≤ cells.length := by simpa [Nat.ble_eq] using hle
      have hcs := avCells_ok hv (isCst_ne hc)
      have hlx := hx.length
      have hl1 := hcs.length
      have hsz : x.cells.size = size := by rw [← hn, hl1]; simp
      obtain ⟨ys, h1, h2⟩ := fillL_ok place (xs := xs.take off ++ (x.cells.toList ++ xs.drop (off + x.cells.toList.length))) e (by
        unfold storeL
        rw [hl1]
        exact (hx.take _).append (hcs.append (hx.drop _))) hr
      refine ⟨ys, ?_, h2⟩
      unfold Instr.fill
      simp only [hpl, hsz]
      rw [if_neg (by simp; omega), ← h1, ← fold_storeL xs x.cells.toList off (by simp; omega)]
      congr 1
      rw [← Array.foldl_toList, Array.toList_zipIdx]
noncomputable def placesL (T : Tb) : List Field → Option (List (Nat × Nat))
  | [] => some []
  | fd :: r => match T.ty fd.type with
    | none => none
    | some i => match placesL T r with
      | none => none
      | some l => some ((fd.offset, i.size) :: l)
theorem placesL_ok (hT : TbOk P T) : ∀ {fs : List Field} {ps : List (Nat × Nat)}, placesL T fs = some ps → fs.mapM (fun f => (P.info? f.type).map fun i => (f.offset, i.size)) = some ps
  | [], _, h => by cases h; rfl
  | fd :: r, ps, h => by
    unfold placesL at h
    split at h
    · cases h
    rename_i i hi
    split at h
    · cases h
    rename_i q hq
    cases h
    obtain ⟨g, h1, h2, -⟩ := hT.info _ _ hi
    simp [h1, h2, placesL_ok hT hq]
noncomputable def buildV (T : Tb) (t : TypeId) (parts : List (Nat × AV)) : Option AV :=
  match T.ty t with
  | some ⟨.struct fs, _, _, some z, _⟩ => match placesL T fs.toList with
    | some ps => match fillL (fun k => ps[k]?) (avCells z) parts with
      | some c => some (.agg c)
      | none => none
    | none => none
  | some ⟨.array _ e, _, _, some z, _⟩ => match T.ty e with
    | some i => match fillL (fun k => some (k * i.size, i.size)) (avCells z) parts with
      | some c => some (.agg c)
      | none => none
    | none => none
  | _ => none
theorem buildV_ok (hT : TbOk P T) {t : TypeId} {parts : List (Nat × AV)} {v : AV} (e : buildV T t parts = some v) {ps : Array (Nat × Value)} (hp : PRs l parts ps.toList) : ∃ z, (Instr.build t ps).run P w = .ok z w ∧ VR l v z := by
  unfold buildV at e
  split at e
  · rename_i fs _ _ z _ ht
    split at e
    · rename_i pl hpl
      split at e
      · rename_i c hc
        cases e
        obtain ⟨g, h1, -, -, h2⟩ := hT.info _ _ ht
        obtain ⟨h0, x, h3, h4⟩ := h2 z rfl
        obtain ⟨ys, h5, h6⟩ := fillL_ok _ hc (avCells_ok (h4 l) h0) hp
        refine ⟨_, run_build w t ps ys.toArray ?_, .agg h6⟩
        unfold Program.built
        rw [h1, hT.und _ _ ht]
        simp only [h3, placesL_ok hT hpl]
        simpa using h5
      · cases e
    · cases e
  · rename_i el _ _ z _ ht
    split at e
    · rename_i i hi
      split at e
      · rename_i c hc
        cases e
        obtain ⟨g, h1, -, -, h2⟩ := hT.info _ _ ht
        obtain ⟨h0, x, h3, h4⟩ := h2 z rfl
        obtain ⟨q, h7, h8, -⟩ := hT.info _ _ hi
        obtain ⟨ys, h5, h6⟩ := fillL_ok _ hc (avCells_ok (h4 l) h0) hp
        refine ⟨_, run_build w t ps ys.toArray ?_, .agg h6⟩
        unfold Program.built
        rw [h1, hT.und _ _ ht]
        simp only [h3, h7, h8]
        simpa using h5
      · cases e
    · cases e
  · cases e

/-! new blocks -/
theorem newRow_ok (h : HR T.sz l H w) (t : TypeId) {cs : List AV} {xs : List Value} (hx : VRs l cs xs) :
    ∃ l', (newRow t xs.toArray).run P w = .ok ⟨w.heap.size, 0, none⟩ { w with heap := w.heap.push (.cells xs.toArray t (0, 0)) } ∧ l' H.nx = some (w.heap.size, 0) ∧ Kp T.sz lo l H w l' (H.new (.cells t cs false)) { w with heap := w.heap.push (.cells xs.toArray t (0, 0)) } :=
  ⟨l.upd H.nx (w.heap.size, 0), by simp [newRow], Env.upd_at _ _ _, Kp.alloc h 0 (.shut (hx.mono (Env.upd_le h _)) (.inl rfl))⟩
noncomputable def allocV (T : Tb) (H : Hp) (t : TypeId) : Option (AV × Hp) :=
  match T.ty t with
  | some ⟨_, _, _, some z, _⟩ => some (.ptr H.nx 0, H.new (.cells t (avCells z) false))
  | _ => none
theorem allocV_ok (hT : TbOk P T) (h : HR T.sz l H w) {t : TypeId} {v : AV} {H' : Hp} (e : allocV T H t = some (v, H')) : Gives P T.sz lo l H w (Instr.alloc t true (.tuple #[])) v H' := by
  unfold allocV at e
  split at e
  · rename_i z _ ht
    cases e
    obtain ⟨x, h1, h2⟩ := run_zero (w := w) hT ht rfl
    obtain ⟨l', h3, h4, h5⟩ := newRow_ok (P := P) (lo := lo) h t (h2 l)
    refine ⟨l', _, _, ?_, .ptr _ h4, h5⟩
    unfold Instr.alloc
    rw [Sem.run_bind, h1]
    simp only [Result.andThen_ok, newVar]
    rw [Sem.run_bind, show (newRow t x.cells).run P w = _ from h3]
    rfl
  · cases e
noncomputable def boxV (H : Hp) (t : TypeId) (v : AV) : Option (AV × Hp) :=
  match isCst v with
  | true => none
  | false => some (.ptr H.nx 0, H.new (.cells t (avCells v) false))
theorem boxV_ok (h : HR T.sz l H w) {t : TypeId} {u v : AV} {H' : Hp} (e : boxV H t u = some (v, H')) {x : Value} (hx : VR l u x) : Gives P T.sz lo l H w (Instr.box t x) v H' := by
  unfold boxV at e
  split at e
  · cases e
  rename_i hc
  cases e
  obtain ⟨l', h3, h4, h5⟩ := newRow_ok (P := P) (lo := lo) h t (avCells_ok hx (isCst_ne hc))
  refine ⟨l', _, _, ?_, .ptr _ h4, h5⟩
  unfold Instr.box
  simp only [newVar]
  rw [Sem.run_bind, show (newRow t x.cells).run P w = _ from h3]
  rfl
noncomputable def zerosL (z : List AV) (n : Nat) : List AV := (List.range n).map fun i => z.getD (i % z.length) .nilp
theorem VRs.map {g : Nat → AV} {h : Nat → Value} : ∀ (ns : List Nat), (∀ i ∈ ns, VR l (g i) (h i)) → VRs l (ns.map g) (ns.map h)
  | [], _ => .nil
  | n :: ns, hn => .cons (hn n (by simp)) (VRs.map ns fun i hi => hn i (by simp [hi]))
theorem VRs.getD {a : List AV} {x : List Value} (h : VRs l a x) {i : Nat} (hi : i < a.length) : VR l (a.getD i .nilp) (x.getD i undef) := by
  have h1 : a[i]? = some a[i] := List.getElem?_eq_getElem hi
  obtain ⟨u, h2, h3⟩ := h.get h1
  simp only [List.getD, h1, h2, Option.getD_some]
  exact h3
noncomputable def buildSliceV (T : Tb) (H : Hp) (t : TypeId) (len : Nat) (parts : List (Nat × AV)) : Option (AV × Hp) :=
  match T.ty t with
  | some ⟨.slice e, _, _, _, _⟩ => match T.ty e with
    | some ⟨_, size, _, some z, _⟩ => match Nat.ble (len * size) 1000000 with
      | false => none
      | true => match Nat.beq (avCells z).length size with
        | false => none
        | true => match Nat.beq size 0 with
          | true => none
          | false => match fillL (fun k => some (k * size, size)) (zerosL (avCells z) (len * size)) parts with
            | none => none
            | some c => some (.sl H.nx 0 len len, H.new (.cells e c false))
    | _ => none
  | _ => none
theorem buildSliceV_ok (hT : TbOk P T) (h : HR T.sz l H w) {t : TypeId} {len : Nat} {parts : List (Nat × AV)} {v : AV} {H' : Hp} (e : buildSliceV T H t len parts = some (v, H')) {ps : Array (Nat × Value)} (hp : PRs l parts ps.toList) :
    Gives P T.sz lo l H w (Instr.buildSlice t len ps) v H' := by
  unfold buildSliceV at e
  split at e
  · rename_i el _ _ _ _ ht
    split at e
    · rename_i size _ z _ hel
      split at e
      · cases e
      rename_i hle
      split at e
      · cases e
      rename_i hzl
      split at e
      · cases e
      rename_i hs0
      split at e
      · cases e
      rename_i c hc
      cases e
      have hle : len * size ≤ 1000000 := by simpa [Nat.ble_eq] using hle
      have hzl := Nat.eq_of_beq_eq_true hzl
      have hs0 := Nat.ne_of_beq_eq_false hs0
      obtain ⟨x, h1, h2⟩ := run_zero (w := w) hT hel rfl
      have hxl := (h2 l).length
      have hz : VRs l (zerosL (avCells z) (len * size)) ((List.range (len * size)).map fun i => x.cells.toList.getD (i % (avCells z).length) undef) :=
        VRs.map _ fun i _ => (h2 l).getD (Nat.mod_lt _ (by omega))
      obtain ⟨ys, h5, h6⟩ := fillL_ok _ hc hz hp
      obtain ⟨l', h3, h4, h7⟩ := newRow_ok (P := P) (lo := lo) h el h6
      refine ⟨l', _, _, ?_, .sl _ _ _ h4, h7⟩
      unfold Instr.buildSlice
      rw [Sem.run_bind, run_und hT ht]
      simp only [Result.andThen_ok]
      rw [Sem.run_bind, run_size hT hel]
      have hne : ¬ (len * size > 2 ^ 24) := by omega
      have hfl : Instr.fill (fun i => some (i * size, size)) ((Array.range (len * size)).map (x.cells[· % x.cells.size]!)) ps.toList = some ys.toArray := by
        rw [← h5]
        congr 1
        apply Array.ext'
        simp only [Array.toList_map, Array.toList_range]
        apply List.map_congr_left
        intro i _
        have e1 : x.cells.size = (avCells z).length := by rw [hxl]; simp
        rw [e1]
        have e2 : i % (avCells z).length < x.cells.size := by rw [e1]; exact Nat.mod_lt _ (by omega)
        rw [getElem!_pos x.cells _ e2]
        simp [List.getD, e2]
      by_cases hl0 : len = 0
      · subst hl0
        have r0 : ∀ g : Nat → Value, (Array.range 0).map g = #[] := fun g => by apply Array.ext'; simp
        have hfl2 : Instr.fill (fun i => some (i * size, size)) #[] ps.toList = some ys.toArray := by
          rw [← hfl, Nat.zero_mul, r0]
        simp [r0, hfl2, h3]
      · have hl1 : ¬ (len * size = 0) := Nat.mul_ne_zero hl0 hs0
        simp only [Result.andThen_ok, hne, if_false, hl1]
        simp [h1, hfl, h3]
    · cases e
  · cases e
end Go.Proofs.YtkbmmoobcikbaaaGreatDoor.Ev
namespace Go.Proofs.YtkbmmoobcikbaaaGreatDoor.Ev
open Go Go.RowKit

variable {P : Program} {T : Tb} {lo : Nat} {l : Env} {H : Hp} {w : World} {f : Tr AV} {ρ : Operand → Value}

noncomputable def eqFieldsV (T : Tb) (eq : TypeId → AV → AV → Option Bool) (xs ys : List AV) : List Field → Option Bool
  | [] => some true
  | f :: r => match partV T f.type xs f.offset, partV T f.type ys f.offset with
    | some a, some b => match eq f.type a b with
      | some true => eqFieldsV T eq xs ys r
      | some false => some false
      | none => none
    | _, _ => none
noncomputable def eqV (T : Tb) : Nat → TypeId → AV → AV → Option Bool
  | 0, _, _, _ => none
  | d + 1, t, x, y => match T.ty t with
    | none => none
    | some i => match i.und, x, y with
      | .bool, .bool a, .bool b => some (a == b)
      | .int _, .int k a, .int k' b => match decide (k = k') with
        | true => some (a == b)
        | false => none
      | .string, .str a, .str b => some (strEq a b)
      | .pointer _, .nilp, .nilp => some true
      | .pointer _, .nilp, .ptr _ _ => some false
      | .pointer _, .ptr _ _, .nilp => some false
      | .pointer e, .ptr b o, .ptr b' o' => match T.ty e with
        | some j => match Nat.beq j.size 0, Nat.beq b b' with
          | false, true => some (Nat.beq o o')
          | _, _ => none
        | none => none
      | .slice _, .nils, .nils => some true
      | .slice _, .nils, .sl _ _ _ _ => some false
      | .slice _, .nils, .slo _ _ _ _ => some false
      | .slice _, .sl _ _ _ _, .nils => some false
      | .slice _, .slo _ _ _ _, .nils => some false
      | .slice _, .nils, .sle => some false
      | .slice _, .sle, .nils => some false
      | .map _ _, .map none, .map none => some true
      | .map _ _, .map none, .map (some _) => some false
      | .map _ _, .map (some _), .map none => some false
      | .func _ _ _, .nilfn, .nilfn => some true
      | .func _ _ _, .nilfn, .fn _ _ _ => some false
      | .func _ _ _, .fn _ _ _, .nilfn => some false
      | .struct fs, .agg xs, .agg ys => match T.eqOk t with
        | true => eqFieldsV T (eqV T d) xs ys fs.toList
        | false => none
      | _, _, _ => none
theorem eqFieldsV_ok (hT : TbOk P T) (D : Nat) (eq : TypeId → AV → AV → Option Bool) (heq : ∀ t x y r a b, eq t x y = some r → VR l x a → VR l y b → (Op.equalIn D t a b).run P w = .ok r w) {xs ys : List AV} {as bs : List Value} (hx : VRs l xs as) (hy : VRs l ys bs) :
    ∀ (fs : List Field) (r : Bool), (∀ f ∈ fs, f.name ≠ "_") → eqFieldsV T eq xs ys fs = some r → (Op.eqFields D as.toArray bs.toArray fs).run P w = .ok r w
  | [], r, _, h => by cases h; rfl
  | g :: fs, r, hn, h => by
    unfold eqFieldsV at h
    split at h
    · rename_i a b ha hb
      obtain ⟨a', e1, r1⟩ := partV_ok (w := w) hT ha hx
      obtain ⟨b', e2, r2⟩ := partV_ok (w := w) hT hb hy
      unfold Op.eqFields
      rw [if_pos (hn g (by simp))]
      rw [Sem.run_bind, e1]
      simp only [Result.andThen_ok]
      rw [Sem.run_bind, e2]
      simp only [Result.andThen_ok]
      split at h
      · rename_i he
        rw [Sem.run_bind, heq _ _ _ _ _ _ he r1 r2]
        simp only [Result.andThen_ok]
        exact eqFieldsV_ok hT D eq heq hx hy fs r (fun f hf => hn f (by simp [hf])) h
      · rename_i he
        cases h
        rw [Sem.run_bind, heq _ _ _ _ _ _ he r1 r2]
        rfl
      · cases h
    · cases h
set_option maxHeartbeats 1000000 in
theorem eqV_ok (hT : TbOk P T) : ∀ (d : Nat) (t : TypeId) (x y : AV) (r : Bool) (a b : Value), eqV T d t x y = some r → VR l x a → VR l y b → ∀ e, (Op.equalIn (d + e) t a b).run P w = .ok r w
  | 0, _, _, _, _, _, _, h, _, _ => by cases h
  | d + 1, t, x, y, r, a, b, h, hx, hy => fun e => by
    unfold eqV at h
    split at h
    · cases h
    rename_i i hi
    have hu := hT.und t i hi
    have ed : d + 1 + e = (d + e) + 1 := by omega
    rw [ed]
    split at h
    · rename_i hd; cases h; cases hx; cases hy; simp [Op.equalIn, run_underlying (hu.trans (congrArg some hd))]
    · rename_i hd
      split at h
      · rename_i hk
        have hk : _ = _ := of_decide_eq_true hk
        cases h; cases hx; cases hy; simp [Op.equalIn, run_underlying (hu.trans (congrArg some hd)), hk]
      · cases h
    · rename_i hd
      cases h
      cases hx with | str _ h1 => ?_
      cases hy with | str _ h2 => ?_
      rename_i s1 s2
      simp only [Op.equalIn, Sem.run_bind, run_underlying (hu.trans (congrArg some hd)), Result.andThen_ok, Sem.run_pure, beq_toListBytes]
      congr 1
      rw [Bool.eq_iff_iff, strEq_iff, beq_iff_eq, bs_inj h1 h2]
    · rename_i hd; cases h; cases hx; cases hy; simp [Op.equalIn, run_underlying (hu.trans (congrArg some hd))]
    · rename_i hd; cases h; cases hx; cases hy; simp [Op.equalIn, run_underlying (hu.trans (congrArg some hd))]
    · rename_i hd; cases h; cases hx; cases hy; simp [Op.equalIn, run_underlying (hu.trans (congrArg some hd))]
    · rename_i hd
      split at h
      · rename_i j hj
        split at h
        · rename_i h0 hb
          have h0 := Nat.ne_of_beq_eq_false h0
          have hb := Nat.eq_of_beq_eq_true hb
          cases h
          cases hx with | ptr _ l1 => ?_
          cases hy with | ptr _ l2 => ?_
          subst hb
          rw [l1] at l2
          cases l2
          simp only [Op.equalIn, Sem.run_bind, run_underlying (hu.trans (congrArg some hd)), Result.andThen_ok, run_size hT hj]
          rw [if_pos h0]
          simp [sameAddr]
          rw [Bool.eq_iff_iff]
          simp
        · cases h
      · cases h
    · rename_i hd; cases h; cases hx; cases hy; simp [Op.equalIn, run_underlying (hu.trans (congrArg some hd))]
    · rename_i hd; cases h; cases hx; cases hy; simp [Op.equalIn, run_underlying (hu.trans (congrArg some hd))]
    · rename_i hd; cases h; cases hx; cases hy; simp [Op.equalIn, run_underlying (hu.trans (congrArg some hd))]
    · rename_i hd; cases h; cases hx; cases hy; simp [Op.equalIn, run_underlying (hu.trans (congrArg some hd))]
    · rename_i hd; cases h; cases hx; cases hy; simp [Op.equalIn, run_underlying (hu.trans (congrArg some hd))]
    · rename_i hd; cases h; cases hx; cases hy; simp [Op.equalIn, run_underlying (hu.trans (congrArg some hd))]
    · rename_i hd; cases h; cases hx; cases hy; simp [Op.equalIn, run_underlying (hu.trans (congrArg some hd))]
    · rename_i hd; cases h; cases hx; cases hy; simp [Op.equalIn, run_underlying (hu.trans (congrArg some hd))]
    · rename_i hd; cases h; cases hx; cases hy; simp [Op.equalIn, run_underlying (hu.trans (congrArg some hd))]
    · rename_i hd; cases h; cases hx; cases hy; simp [Op.equalIn, run_underlying (hu.trans (congrArg some hd))]
    · rename_i hd; cases h; cases hx; cases hy; simp [Op.equalIn, run_underlying (hu.trans (congrArg some hd))]
    · rename_i hd; cases h; cases hx; cases hy; simp [Op.equalIn, run_underlying (hu.trans (congrArg some hd))]
    · rename_i hd; cases h; cases hx; cases hy; simp [Op.equalIn, run_underlying (hu.trans (congrArg some hd))]
    · rename_i fs xs ys hd
      split at h
      · rename_i ho
        obtain ⟨o1, o2, o3⟩ := hT.eqOk t ho
        have hfs : P.fieldsOf t = fs := by simp [Program.fieldsOf, hu, hd]
        rw [hfs] at o3
        cases hx with | agg h1 => ?_
        cases hy with | agg h2 => ?_
        rw [run_equalIn_struct w (d + e) t _ _ (by rw [hfs, hu, hd]) o1, hfs]
        exact eqFieldsV_ok hT (d + e) (eqV T d) (fun t x y r a b h3 h4 h5 => eqV_ok hT d t x y r a b h3 h4 h5 e) h1 h2 fs.toList r o3 h
      · cases h
    · cases h
noncomputable def cmpOp (T : Tb) (op : BinOp) (t : TypeId) (x y : AV) : Option AV :=
  match op with
  | .eql => match eqV T 50 t x y with
    | some b => some (.bool b)
    | none => none
  | .neq => match eqV T 50 t x y with
    | some b => some (.bool (!b))
    | none => none
  | _ => none
noncomputable def isNum : AV → Bool
  | .int _ _ => true
  | .str _ => true
  | .nilif => true
  | .cst _ => true
  | .agg _ => true
  | _ => false
noncomputable def binV (T : Tb) (op : BinOp) (t : TypeId) (x y : AV) : Option AV :=
  match x, y with
  | .int k a, .int k' b => match op with
    | .shl => match b with
      | .ofNat n => match Nat.ble n k.bits with
        | true => some (.int k (k.wrap (a * 2 ^ n)))
        | false => none
      | _ => none
    | .shr => match b with
      | .ofNat n => match Nat.ble n k.bits with
        | true => some (.int k (a / 2 ^ n))
        | false => none
      | _ => none
    | _ => match decide (k = k') with
      | true => intOp op k a b
      | false => none
  | .str a, .str b => strOp op a b
  | .agg a, .agg b => match T.eqOk t with
    | true => cmpOp T op t (.agg a) (.agg b)
    | false => none
  | x, y => match isNum x, isNum y with
    | false, false => cmpOp T op t x y
    | _, _ => none
theorem cmpOp_ok (hT : TbOk P T) {op : BinOp} {t : TypeId} {x y v : AV} (e : cmpOp T op t x y = some v) {a b : Value} (hx : VR l x a) (hy : VR l y b)
    (h1 : binOp .eql t a b = (do pure (.bool (← Op.equal t a b)))) (h2 : binOp .neq t a b = (do pure (.bool (!(← Op.equal t a b))))) : ∃ z, (binOp op t a b).run P w = .ok z w ∧ VR l v z := by
  have hd : ∀ r, eqV T 50 t x y = some r → (Op.equal t a b).run P w = .ok r w := fun r hr => eqV_ok hT 50 t x y r a b hr hx hy 9950
  unfold cmpOp at e
  split at e
  · split at e
    · rename_i r hr
      cases e
      exact ⟨_, by rw [h1, Sem.run_bind, hd r hr]; rfl, .bool _⟩
    · cases e
  · split at e
    · rename_i r hr
      cases e
      exact ⟨_, by rw [h2, Sem.run_bind, hd r hr]; rfl, .bool _⟩
    · cases e
  · cases e
theorem binV_ok (hT : TbOk P T) {op : BinOp} {t : TypeId} {x y v : AV} (e : binV T op t x y = some v) {a b : Value} (hx : VR l x a) (hy : VR l y b) (ox oy : Operand) :
    ∃ z, (do eqGuard op t ox oy a b; binOp op t a b : Sem Value).run P w = .ok z w ∧ VR l v z := by
  unfold binV at e
  split at e
  · rename_i k m k' n
    cases hx
    cases hy
    rw [eqGuard_at_int]
    simp only [pure_bind]
    split at e
    · split at e
      · rename_i n
        split at e
        · rename_i hn
          have hn : n ≤ k.bits := by simpa [Nat.ble_eq] using hn
          cases e
          refine ⟨_, ?_, .int _ _⟩
          have := shift_shl k k' m n (by omega) (by omega)
          simp [binOp]
          simpa using congrArg (fun s => Sem.run P s w) this
        · cases e
      · cases e
    · split at e
      · rename_i n
        split at e
        · rename_i hn
          have hn : n ≤ k.bits := by simpa [Nat.ble_eq] using hn
          cases e
          refine ⟨_, ?_, .int _ _⟩
          have := shift_shr k k' m n (by omega) (by omega)
          simp [binOp]
          simpa using congrArg (fun s => Sem.run P s w) this
        · cases e
      · cases e
    · split at e
      · rename_i hk
        have hk : k = k' := of_decide_eq_true hk
        subst hk
        exact intOp_ok t e l
      · cases e
  · cases hx with | str _ h1 => ?_
    cases hy with | str _ h2 => ?_
    rw [eqGuard_at_string]
    simp only [pure_bind]
    exact strOp_ok t e h1 h2 l
  · split at e
    · rename_i ho
      obtain ⟨o1, o2, o3⟩ := hT.eqOk t ho
      cases hx with | agg h1 => ?_
      cases hy with | agg h2 => ?_
      rw [Sem.run_bind, run_eqGuard_agg _ _ _ _ _ _ _ o2]
      simp only [Result.andThen_ok]
      exact cmpOp_ok hT e (.agg h1) (.agg h2) (by rfl) (by rfl)
    · cases e
  · split at e
    · rename_i h1 h2
      have g : eqGuard op t ox oy a b = pure () := by
        cases hx <;> first | (cases h1; done) | (cases hy <;> first | (cases h2; done) | (cases op <;> rfl))
      rw [g]
      simp only [pure_bind]
      refine cmpOp_ok hT e hx hy ?_ ?_
      · cases hx <;> first | (cases h1; done) | (cases hy <;> first | (cases h2; done) | rfl)
      · cases hx <;> first | (cases h1; done) | (cases hy <;> first | (cases h2; done) | rfl)
    · cases e
noncomputable def unV (op : UnOp) (x : AV) : Option AV :=
  match op, x with
  | .not, .bool b => some (.bool (!b))
  | .neg, .int k n => some (.int k (k.wrap (0 - n)))
  | .xor, .int k n => some (.int k (k.wrap (BitVec.ofInt k.bits (if k.signed then -1 else k.max) ^^^ BitVec.ofInt k.bits n).toNat))
  | _, _ => none
theorem unV_ok {op : UnOp} {x v : AV} (e : unV op x = some v) {a : Value} (hx : VR l x a) : ∃ z, (Op.unary op a).run P w = .ok z w ∧ VR l v z := by
  unfold unV at e
  split at e
  · cases e; cases hx; exact ⟨_, rfl, .bool _⟩
  · cases e; cases hx; exact ⟨_, rfl, .int _ _⟩
  · cases e; cases hx; exact ⟨_, rfl, .int _ _⟩
  · cases e
end Go.Proofs.YtkbmmoobcikbaaaGreatDoor.Ev
