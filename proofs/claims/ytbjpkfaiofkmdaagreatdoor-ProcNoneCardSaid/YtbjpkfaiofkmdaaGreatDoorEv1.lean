/-
  A RECKONER OF CLOSED CALLS, FIRST PART: what its values and blocks are, and how they stand to the machine's. No program in sight; no condition.
-/
import Derived.Calls
import Derived.Tactics
namespace Go.Proofs.YtbjpkfaiofkmdaaGreatDoor.Ev
open Go

/-- A value as the reckoner has it: a block is a number of its own. -/
inductive AV where
  | bool (b : Bool)
  | int (k : IntKind) (n : Int)
  | str (l : List Nat)
  | nilp
  | ptr (b o : Nat)
  | nils
  | sl (b o n c : Nat)
  | slo (b o n d : Nat)
  | map (m : Option Nat)
  | chan (c : Option Nat)
  | fn (f : Fn) (first cap : List AV)
  | nilfn
  | ifc (t : TypeId) (v : AV)
  | nilif
  | agg (l : List AV)
  | tup (l : List AV)
  | cst (v : Value)
  | yld (b : Nat)
deriving Inhabited

/-- Where the reckoner's blocks lie: the machine's block, and the capacity that an open one has. -/
abbrev Env := Nat → Option (Nat × Nat)
def Env.le (l l' : Env) : Prop := ∀ b x, l b = some x → l' b = some x
theorem Env.le.refl (l : Env) : l.le l := fun _ _ h => h
theorem Env.le.trans {a b c : Env} (h : a.le b) (h' : b.le c) : a.le c := fun _ _ e => h' _ _ (h _ _ e)

def bs (l : List Nat) : ByteArray := ⟨(l.map UInt8.ofNat).toArray⟩

mutual
inductive VR (l : Env) : AV → Value → Prop where
  | bool (b) : VR l (.bool b) (.bool b)
  | int (k n) : VR l (.int k n) (.int k n)
  | str (s) (h : ∀ x ∈ s, x < 256) : VR l (.str s) (.string (bs s))
  | nilp : VR l .nilp (.pointer none)
  | ptr {b k κ} (o) (h : l b = some (k, κ)) : VR l (.ptr b o) (.pointer (some ⟨k, o, none⟩))
  | nils : VR l .nils (.slice none 0 0)
  | sl {b k κ} (o n c) (h : l b = some (k, κ)) : VR l (.sl b o n c) (.slice (some ⟨k, o, none⟩) n c)
  | slo {b k κ} (o n d) (h : l b = some (k, κ)) (hd : d + n ≤ κ) : VR l (.slo b o n d) (.slice (some ⟨k, o, none⟩) n (κ - d))
  | nilmap : VR l (.map none) (.map none)
  | map {b k κ} (h : l b = some (k, κ)) : VR l (.map (some b)) (.map (some k))
  | nilchan : VR l (.chan none) (.chan none)
  | chan {b k κ} (h : l b = some (k, κ)) : VR l (.chan (some b)) (.chan (some k))
  | fn {a c a' c'} (f) (h : VRs l a a') (h' : VRs l c c') : VR l (.fn f a c) (.func f a'.toArray c'.toArray)
  | nilfn : VR l .nilfn .nilFunc
  | ifc {v v'} (t) (h : VR l v v') : VR l (.ifc t v) (.iface t v')
  | nilif : VR l .nilif .nilIface
  | agg {a a'} (h : VRs l a a') : VR l (.agg a) (.agg a'.toArray)
  | tup {a a'} (h : VRs l a a') : VR l (.tup a) (.tuple a'.toArray)
  | cst (v) : VR l (.cst v) v
  | yld {b k κ} (h : l b = some (k, κ)) : VR l (.yld b) (.func (.yield k) #[] #[])
inductive VRs (l : Env) : List AV → List Value → Prop where
  | nil : VRs l [] []
  | cons {v v' a a'} (h : VR l v v') (h' : VRs l a a') : VRs l (v :: a) (v' :: a')
end
mutual
theorem VR.mono {l l' : Env} (hl : l.le l') : ∀ {v x}, VR l v x → VR l' v x
  | _, _, .bool b => .bool b
  | _, _, .int k n => .int k n
  | _, _, .str s h => .str s h
  | _, _, .nilp => .nilp
  | _, _, .ptr o h => .ptr o (hl _ _ h)
  | _, _, .nils => .nils
  | _, _, .sl o n c h => .sl o n c (hl _ _ h)
  | _, _, .slo o n d h hd => .slo o n d (hl _ _ h) hd
  | _, _, .nilmap => .nilmap
  | _, _, .map h => .map (hl _ _ h)
  | _, _, .nilchan => .nilchan
  | _, _, .chan h => .chan (hl _ _ h)
  | _, _, .fn f h h' => .fn f (VRs.mono hl h) (VRs.mono hl h')
  | _, _, .nilfn => .nilfn
  | _, _, .ifc t h => .ifc t (VR.mono hl h)
  | _, _, .nilif => .nilif
  | _, _, .agg h => .agg (VRs.mono hl h)
  | _, _, .tup h => .tup (VRs.mono hl h)
  | _, _, .cst v => .cst v
  | _, _, .yld h => .yld (hl _ _ h)
theorem VRs.mono {l l' : Env} (hl : l.le l') : ∀ {v x}, VRs l v x → VRs l' v x
  | _, _, .nil => .nil
  | _, _, .cons h h' => .cons (VR.mono hl h) (VRs.mono hl h')
end
theorem VRs.length {l : Env} : ∀ {a x}, VRs l a x → a.length = x.length
  | _, _, .nil => rfl
  | _, _, .cons _ h => by rw [List.length_cons, List.length_cons, VRs.length h]
theorem VRs.get {l : Env} : ∀ {a x} {i : Nat} {v}, VRs l a x → a[i]? = some v → ∃ u, x[i]? = some u ∧ VR l v u
  | _, _, 0, _, .cons h _, e => by cases e; exact ⟨_, rfl, h⟩
  | _, _, i + 1, _, .cons _ h, e => VRs.get (i := i) h (by simpa using e)
theorem VRs.append {l : Env} : ∀ {a x b y}, VRs l a x → VRs l b y → VRs l (a ++ b) (x ++ y)
  | _, _, _, _, .nil, h => h
  | _, _, _, _, .cons h h', h2 => .cons h (VRs.append h' h2)
theorem VRs.take {l : Env} : ∀ {a x} (n : Nat), VRs l a x → VRs l (a.take n) (x.take n)
  | _, _, 0, _ => by simpa using VRs.nil
  | _, _, _ + 1, .nil => .nil
  | _, _, n + 1, .cons h h' => .cons h (VRs.take n h')
theorem VRs.drop {l : Env} : ∀ {a x} (n : Nat), VRs l a x → VRs l (a.drop n) (x.drop n)
  | _, _, 0, h => h
  | _, _, _ + 1, .nil => .nil
  | _, _, n + 1, .cons _ h' => VRs.drop n h'

/-! trees -/
inductive Tr (α : Type) where
  | e
  | n (l : Tr α) (v : Option α) (r : Tr α)
namespace Tr
variable {α : Type}
def get : Tr α → Nat → Option α
  | .e, _ => none
  | .n l v r, i => match Nat.beq i 0 with
    | true => v
    | false => match Nat.beq (i % 2) 1 with
      | true => l.get (i / 2)
      | false => r.get (i / 2 - 1)
def left : Tr α → Tr α
  | .e => .e
  | .n l _ _ => l
def right : Tr α → Tr α
  | .e => .e
  | .n _ _ r => r
def top : Tr α → Option α
  | .e => none
  | .n _ v _ => v
def set : Nat → Tr α → Nat → Option α → Tr α
  | 0, _, _, _ => .e
  | d + 1, t, i, x => match Nat.beq i 0 with
    | true => .n t.left x t.right
    | false => match Nat.beq (i % 2) 1 with
      | true => .n (t.left.set d (i / 2) x) t.top t.right
      | false => .n t.left t.top (t.right.set d (i / 2 - 1) x)
theorem get_n (t : Tr α) (i : Nat) : t.get i = match Nat.beq i 0 with | true => t.top | false => match Nat.beq (i % 2) 1 with | true => t.left.get (i / 2) | false => t.right.get (i / 2 - 1) := by
  cases t with
  | e => cases Nat.beq i 0 <;> cases Nat.beq (i % 2) 1 <;> rfl
  | n l v r => rfl
theorem set_get : ∀ (d : Nat) (t : Tr α) (i : Nat) (x : Option α) (j : Nat) (u : α), (t.set d i x).get j = some u → (j = i ∧ x = some u) ∨ (j ≠ i ∧ t.get j = some u)
  | 0, _, _, _, _, _, h => by simp [set, get] at h
  | d + 1, t, i, x, j, u, h => by
    rw [get_n t j]
    unfold set at h
    cases hi : Nat.beq i 0 with
    | true =>
      have hi0 : i = 0 := Nat.eq_of_beq_eq_true hi
      rw [hi] at h
      rw [get_n] at h
      cases hj : Nat.beq j 0 with
      | true =>
        have hj0 : j = 0 := Nat.eq_of_beq_eq_true hj
        rw [hj] at h
        exact .inl ⟨by rw [hj0, hi0], h⟩
      | false =>
        rw [hj] at h
        refine .inr ⟨fun e => ?_, h⟩
        rw [e, hi] at hj; cases hj
    | false =>
      have hi0 : i ≠ 0 := Nat.ne_of_beq_eq_false hi
      rw [hi] at h
      cases hp : Nat.beq (i % 2) 1 with
      | true =>
        have hp1 := Nat.eq_of_beq_eq_true hp
        rw [hp] at h
        rw [get_n] at h
        cases hj : Nat.beq j 0 with
        | true =>
          have hj0 : j = 0 := Nat.eq_of_beq_eq_true hj
          rw [hj] at h
          exact .inr ⟨by omega, h⟩
        | false =>
          have hj0 : j ≠ 0 := Nat.ne_of_beq_eq_false hj
          rw [hj] at h
          cases hq : Nat.beq (j % 2) 1 with
          | true =>
            have hq1 := Nat.eq_of_beq_eq_true hq
            rw [hq] at h
            rcases set_get d t.left (i / 2) x (j / 2) u h with ⟨e, h'⟩ | ⟨e, h'⟩
            · exact .inl ⟨by omega, h'⟩
            · exact .inr ⟨by omega, h'⟩
          | false =>
            have hq1 := Nat.ne_of_beq_eq_false hq
            rw [hq] at h
            exact .inr ⟨by omega, h⟩
      | false =>
        have hp1 := Nat.ne_of_beq_eq_false hp
        rw [hp] at h
        rw [get_n] at h
        cases hj : Nat.beq j 0 with
        | true =>
          have hj0 : j = 0 := Nat.eq_of_beq_eq_true hj
          rw [hj] at h
          exact .inr ⟨by omega, h⟩
        | false =>
          have hj0 : j ≠ 0 := Nat.ne_of_beq_eq_false hj
          rw [hj] at h
          cases hq : Nat.beq (j % 2) 1 with
          | true =>
            have hq1 := Nat.eq_of_beq_eq_true hq
            rw [hq] at h
            exact .inr ⟨by omega, h⟩
          | false =>
            have hq1 := Nat.ne_of_beq_eq_false hq
            rw [hq] at h
            rcases set_get d t.right (i / 2 - 1) x (j / 2 - 1) u h with ⟨e, h'⟩ | ⟨e, h'⟩
            · exact .inl ⟨by omega, h'⟩
            · exact .inr ⟨by omega, h'⟩
end Tr

/-! blocks -/
inductive AObj where
  | cells (t : TypeId) (cs : List AV) (opn : Bool)
  | map (es : List (AV × AV × Nat)) (clock : Nat)
  | chan (cap : Nat) (buf : List AV) (closed : Bool) (s r : Nat)
  | strIter (s : List Nat) (pos : Nat)
  | mapIter (m : Nat)
  /-- The record of a range over a function, amid no round: the frame's slots as they were at its start. -/
  | loop (N : Nat) (ps : List Nat) (asg bd : Code) (f : Tr AV)
deriving Inhabited
inductive ERs (l : Env) : List (AV × AV × Nat) → List MapEntry → Prop where
  | nil : ERs l [] []
  | cons {k v n k' v' a a'} (hk : VR l k k') (hv : VR l v v') (h' : ERs l a a') : ERs l ((k, v, n) :: a) (⟨k', v', n⟩ :: a')
theorem ERs.mono {l l' : Env} (hl : l.le l') : ∀ {v x}, ERs l v x → ERs l' v x
  | _, _, .nil => .nil
  | _, _, .cons h h1 h' => .cons (h.mono hl) (h1.mono hl) (ERs.mono hl h')
/-- No cell of the block is frozen. -/
def frOk (fr : Nat × Nat) (n : Nat) : Prop := fr = (0, 0) ∨ n ≤ fr.1
/-- A block as the reckoner has it (sz: how many cells an element of a type has). -/
inductive OR (sz : TypeId → Nat) (l : Env) (κ : Nat) : AObj → Obj → Prop where
  | shut {t cs xs fr} (h : VRs l cs xs) (hf : frOk fr xs.length) : OR sz l κ (.cells t cs false) (.cells xs.toArray t fr)
  | opn {t cs xs rest fr} (h : VRs l cs xs) (hs : (xs ++ rest).length = κ * sz t) (hf : frOk fr (xs ++ rest).length) : OR sz l κ (.cells t cs true) (.cells (xs ++ rest).toArray t fr)
  | map {es xs} (c) (h : ERs l es xs) : OR sz l κ (.map es c) (.map xs.toArray c)
  | chan {buf xs} (c cl s r) (h : VRs l buf xs) : OR sz l κ (.chan c buf cl s r) (.chan c xs.toArray cl s r false)
  | strIter (s p) (h : ∀ x ∈ s, x < 256) : OR sz l κ (.strIter s p) (.stringIter (bs s) p)
  | mapIter {m k κ'} (since c0) (h : l m = some (k, κ')) : OR sz l κ (.mapIter m) (.mapIter (some k) since #[] c0)
  | loop {N ps asg bd f} {r : Loop} (h1 : r.state = .ready) (h2 : r.pending = none) (h3 : r.params.toList = ps) (h4 : r.assign = asg) (h5 : r.body = bd) (h6 : r.tmps.size = N) (h : ∀ i v, f.get i = some v → ∃ x, r.tmps[i]? = some x ∧ VR l v x) : OR sz l κ (.loop N ps asg bd f) (.loop r)
theorem OR.mono {sz : TypeId → Nat} {l l' : Env} {κ : Nat} (hl : l.le l') {o : AObj} {x : Obj} (h : OR sz l κ o x) : OR sz l' κ o x := by
  cases h with
  | shut h hf => exact .shut (h.mono hl) hf
  | opn h hs hf => exact .opn (h.mono hl) hs hf
  | map c h => exact .map c (h.mono hl)
  | chan c cl s r h => exact .chan c cl s r (h.mono hl)
  | strIter s p h => exact .strIter s p h
  | mapIter s c h => exact .mapIter s c (hl _ _ h)
  | loop h1 h2 h3 h4 h5 h6 h => exact .loop h1 h2 h3 h4 h5 h6 fun i v e => let ⟨x, g1, g2⟩ := h i v e; ⟨x, g1, g2.mono hl⟩
structure Hp where
  t : Tr AObj
  nx : Nat
namespace Hp
def get (H : Hp) (b : Nat) : Option AObj := H.t.get b
def put (H : Hp) (b : Nat) (o : AObj) : Hp := ⟨H.t.set 24 b (some o), H.nx⟩
def drop (H : Hp) (b : Nat) : Hp := ⟨H.t.set 24 b none, H.nx⟩
def new (H : Hp) (o : AObj) : Hp := ⟨H.t.set 24 H.nx (some o), H.nx + 1⟩
theorem put_get {H : Hp} {b : Nat} {o : AObj} {j : Nat} {u : AObj} (h : (H.put b o).get j = some u) : (j = b ∧ u = o) ∨ (j ≠ b ∧ H.get j = some u) := by
  rcases Tr.set_get _ _ _ _ _ _ h with ⟨e, e'⟩ | ⟨e, e'⟩
  · cases e'; exact .inl ⟨e, rfl⟩
  · exact .inr ⟨e, e'⟩
theorem new_get {H : Hp} {o : AObj} {j : Nat} {u : AObj} (h : (H.new o).get j = some u) : (j = H.nx ∧ u = o) ∨ (j ≠ H.nx ∧ H.get j = some u) := by
  rcases Tr.set_get _ _ _ _ _ _ h with ⟨e, e'⟩ | ⟨e, e'⟩
  · cases e'; exact .inl ⟨e, rfl⟩
  · exact .inr ⟨e, e'⟩
theorem drop_get {H : Hp} {b : Nat} {j : Nat} {u : AObj} (h : (H.drop b).get j = some u) : j ≠ b ∧ H.get j = some u := by
  rcases Tr.set_get _ _ _ _ _ _ h with ⟨e, e'⟩ | ⟨e, e'⟩
  · cases e'
  · exact ⟨e, e'⟩
end Hp
/-- How the blocks stand: each lies where the environment says, no two at one place. -/
structure HR (sz : TypeId → Nat) (l : Env) (H : Hp) (w : World) : Prop where
  obj : ∀ b o, H.get b = some o → ∃ k κ x, l b = some (k, κ) ∧ w.heap[k]? = some x ∧ OR sz l κ o x
  inj : ∀ b b' o o' x x', H.get b = some o → H.get b' = some o' → l b = some x → l b' = some x' → x.1 = x'.1 → b = b'
  dom : ∀ b x, l b = some x → b < H.nx
  glob : ∀ g, g < 1000 → l g = some (g, 0)
/-- What an operation leaves: new blocks from nx on; of old blocks none has turned but those from lo on. -/
structure Kp (sz : TypeId → Nat) (lo : Nat) (l : Env) (H : Hp) (w : World) (l' : Env) (H' : Hp) (w' : World) : Prop where
  le : l.le l'
  hr : HR sz l' H' w'
  nx : H.nx ≤ H'.nx
  old : ∀ b, b < H.nx → (H'.get b).isSome → (H.get b).isSome
  os : w'.os = w.os
  tape : w'.tape = w.tape
  output : w'.output = w.output
  size : w.heap.size ≤ w'.heap.size
  block : ∀ k, k < w.heap.size → (∀ b x, lo ≤ b → l b = some x → (H.get b).isSome → x.1 ≠ k) → w'.heap[k]? = w.heap[k]?
  fresh : ∀ b x, l' b = some x → l b = some x ∨ (H.nx ≤ b ∧ (w.heap.size ≤ x.1 ∨ ∃ b0, lo ≤ b0 ∧ (H.get b0).isSome ∧ (l b0).map (·.1) = some x.1))
end Go.Proofs.YtbjpkfaiofkmdaaGreatDoor.Ev
