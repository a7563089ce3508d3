/-
  PLAIN VIEWS: what a listing tells of a chain, and which names are left over. No program in sight; no condition.
  PLAIN VIEWS, second part: what a name more, or a name less, does to a view. No program in sight; no condition.
  PLAIN VIEWS, third part: rows of numbers that rise: the chains of a listing. No program in sight; no condition.
-/
import Derived.Test.YtfpioijfocmfcaaGreatDoorNPlain
import Derived.Lib.SlicesCompact
import Derived.Lib.SlBy
namespace Go.Proofs.YtfpioijfocmfcaaGreatDoor
open Go

structure Mk where
  proc : Nat
  inc : Nat
  k : Nat
deriving DecidableEq, Inhabited
structure Vw where
  chain : Nat
  floor : Nat
  tail : Nat
deriving DecidableEq
structure Kp where
  need : List Mk
  last : List Mk
  own : Option Mk

def sameL (m x : Mk) : Bool := decide (x.proc = m.proc) && decide (x.inc = m.inc)
def doneF (l : List Mk) (m : Mk) : Bool := match l.find? (sameL m) with | some x => decide (m.k ≤ x.k) | none => false
def earlierF (o : Option Mk) (m : Mk) : Bool := match o with | some q => decide (m.proc = q.proc) && decide (m.inc < q.inc) | none => false
def markOf (x : Nm) : Mk := ⟨x.proc, x.inc, x.k⟩
def overF (v : Vw) (k : Kp) (x : Nm) : Bool :=
  if x.kind = 3 then earlierF k.own (markOf x)
  else if x.doc ≠ v.chain then false
  else if x.kind = 1 then decide (x.n ≠ 0) && decide (x.n ≤ v.floor)
  else if x.kind = 2 then decide (x.n < v.floor)
  else !(k.need.contains (markOf x)) && (doneF k.last (markOf x) || earlierF k.own (markOf x))
def isOver (v : Vw) (k : Kp) (s : List UInt8) : Bool := (parseF s).2 && overF v k (parseF s).1
def Up (l : List (List UInt8)) : Prop := l.Pairwise (· < ·)
def leftF (v : Vw) (k : Kp) (l : List (List UInt8)) : List (List UInt8) := Lib.compact ((l.filter (isOver v k)).mergeSort fun x y => decide (x ≤ y))

/-! the first mark that is sought -/
theorem idx_find (p : Mk → Bool) : ∀ (l : List Mk) (i : Nat), (Lib.idxByFrom (fun _ y => p y) (default : Mk) l i = -1 ∧ l.find? p = none) ∨ ∃ k, ∃ h : k < l.length, Lib.idxByFrom (fun _ y => p y) (default : Mk) l i = ((i + k : Nat) : Int) ∧ l.find? p = some l[k]
  | [], _ => .inl ⟨rfl, rfl⟩
  | y :: r, i => by
    cases hy : p y with
    | true => exact .inr ⟨0, by simp, by simp [Lib.idxByFrom, hy], by simp [List.find?, hy]⟩
    | false =>
      rcases idx_find p r (i + 1) with ⟨h1, h2⟩ | ⟨k, hk, h1, h2⟩
      · exact .inl ⟨by simp [Lib.idxByFrom, hy, h1], by simp [List.find?, hy, h2]⟩
      · refine .inr ⟨k + 1, by simpa using hk, ?_, by simp [List.find?, hy, h2]⟩
        simp only [Lib.idxByFrom, hy]
        rw [if_neg (by decide), h1]
        omega
theorem find_none {p : Mk → Bool} {l : List Mk} (h : ∀ x ∈ l, p x = false) : l.find? p = none :=
  List.find?_eq_none.2 fun x hx => by rw [h x hx]; decide
theorem find_first {p : Mk → Bool} {l : List Mk} {i : Nat} (hi : i < l.length) (h : ∀ x ∈ l.take i, p x = false) (hp : p l[i] = true) : l.find? p = some l[i] := by
  conv => lhs; rw [← List.take_append_drop i l, List.drop_eq_getElem_cons hi]
  rw [List.find?_append, find_none h]
  simp [List.find?, hp]

/-! rows that rise -/
theorem up_unique : ∀ {a b : List (List UInt8)}, Up a → Up b → (∀ x, x ∈ a ↔ x ∈ b) → a = b
  | [], [], _, _, _ => rfl
  | [], y :: b, _, _, h => by have := (h y).2 (by simp); simp at this
  | x :: a, [], _, _, h => by have := (h x).1 (by simp); simp at this
  | x :: a, y :: b, ha, hb, h => by
    obtain ⟨ha1, ha2⟩ := List.pairwise_cons.1 ha
    obtain ⟨hb1, hb2⟩ := List.pairwise_cons.1 hb
    have hxy : x = y := by
      rcases List.mem_cons.1 ((h x).1 (by simp)) with e | e
      · exact e
      · rcases List.mem_cons.1 ((h y).2 (by simp)) with e2 | e2
        · exact e2.symm
        · exact absurd (List.lt_trans (ha1 _ e2) (hb1 _ e)) (List.lt_irrefl _)
    subst hxy
    rw [up_unique ha2 hb2 fun z => ?_]
    constructor
    · intro hz
      rcases List.mem_cons.1 ((h z).1 (by simp [hz])) with e | e
      · subst e; exact absurd (ha1 _ hz) (List.lt_irrefl _)
      · exact e
    · intro hz
      rcases List.mem_cons.1 ((h z).2 (by simp [hz])) with e | e
      · subst e; exact absurd (hb1 _ hz) (List.lt_irrefl _)
      · exact e
theorem lt_of_le_ne {x y : List UInt8} (h : x ≤ y) (hn : x ≠ y) : x < y := by
  by_cases hl : x < y
  · exact hl
  · exact absurd (List.le_antisymm h (List.not_lt.1 hl)) hn
theorem compact_up (d : Array (List UInt8)) (hs : ∀ i j, i < j → j < d.size → d[i]! ≤ d[j]!) : ∀ m, m ≤ d.size → Up (Lib.compactUpTo d m) ∧ ∀ x, x ∈ Lib.compactUpTo d m ↔ ∃ j, j < m ∧ d[j]! = x
  | 0, _ => ⟨by simp [Lib.compactUpTo, Up], fun x => by simp [Lib.compactUpTo]⟩
  | m + 1, hm => by
    obtain ⟨h1, h2⟩ := compact_up d hs m (by omega)
    rw [Lib.compactUpTo_succ]
    cases hk : Lib.keeps d m with
    | false =>
      simp only [Bool.false_eq_true, if_false, List.append_nil]
      refine ⟨h1, fun x => (h2 x).trans ⟨fun ⟨j, hj, e⟩ => ⟨j, by omega, e⟩, fun ⟨j, hj, e⟩ => ?_⟩⟩
      by_cases hjm : j < m
      · exact ⟨j, hjm, e⟩
      · have : j = m := by omega
        subst this
        unfold Lib.keeps at hk
        have hk := of_decide_eq_false hk
        simp only [not_or, ne_eq, Decidable.not_not] at hk
        exact ⟨j - 1, by omega, by rw [← hk.2]; exact e⟩
    | true =>
      simp only [if_true]
      refine ⟨List.pairwise_append.2 ⟨h1, by simp, fun x hx y hy => ?_⟩, fun x => ?_⟩
      · obtain ⟨j, hj, e⟩ := (h2 x).1 hx
        simp only [List.mem_singleton] at hy
        subst hy; subst e
        unfold Lib.keeps at hk
        have hk := of_decide_eq_true hk
        rcases hk with hk | hk
        · omega
        · refine lt_of_le_ne (hs j m hj (by omega)) fun e => hk ?_
          by_cases hj1 : j = m - 1
          · rw [← hj1, e]
          · refine (List.le_antisymm (hs (m - 1) m (by omega) (by omega)) ?_).symm
            rw [← e]; exact hs j (m - 1) (by omega) (by omega)
      · rw [List.mem_append, h2 x, List.mem_singleton]
        constructor
        · rintro (⟨j, hj, e⟩ | e)
          · exact ⟨j, by omega, e⟩
          · exact ⟨m, by omega, e.symm⟩
        · rintro ⟨j, hj, e⟩
          by_cases hjm : j < m
          · exact .inl ⟨j, hjm, e⟩
          · have : j = m := by omega
            subst this; exact .inr e.symm
theorem sort_up (l : List (List UInt8)) : (l.mergeSort fun x y => decide (x ≤ y)).Pairwise (· ≤ ·) := by
  have h := List.pairwise_mergeSort (le := fun x y : List UInt8 => decide (x ≤ y)) (fun a b c h1 h2 => by
    simp only [decide_eq_true_eq] at *; exact List.le_trans h1 h2) (fun a b => by
    simp only [Bool.or_eq_true, decide_eq_true_eq]; exact List.le_total a b) l
  exact h.imp fun h => by simpa using h
theorem left_both (v : Vw) (k : Kp) (l : List (List UInt8)) : Up (leftF v k l) ∧ ∀ x, x ∈ leftF v k l ↔ x ∈ l ∧ isOver v k x = true := by
  obtain ⟨z, hz⟩ : ∃ z, z = (l.filter (isOver v k)).mergeSort fun x y => decide (x ≤ y) := ⟨_, rfl⟩
  have hp : z.Pairwise (· ≤ ·) := by rw [hz]; exact sort_up _
  have hm : ∀ x, x ∈ z ↔ x ∈ l ∧ isOver v k x = true := fun x => by rw [hz, List.mem_mergeSort, List.mem_filter]
  have h := compact_up z.toArray (fun i j hij hj => by
    have hj' : j < z.length := by simpa using hj
    simp only [List.getElem!_toArray]
    rw [getElem!_pos z i (by omega), getElem!_pos z j hj']
    exact List.pairwise_iff_getElem.1 hp i j (by omega) hj' hij) z.length (by simp)
  unfold leftF
  rw [← hz]
  unfold Lib.compact
  refine ⟨h.1, fun x => (h.2 x).trans ((hm x).symm.trans ?_).symm⟩
  rw [List.mem_iff_getElem]
  constructor
  · rintro ⟨j, hj, e⟩
    exact ⟨j, hj, by simp only [List.getElem!_toArray]; rw [getElem!_pos z j hj]; exact e⟩
  · rintro ⟨j, hj, e⟩
    refine ⟨j, hj, ?_⟩
    simp only [List.getElem!_toArray] at e
    rw [getElem!_pos z j hj] at e; exact e
theorem left_mem {v : Vw} {k : Kp} {l : List (List UInt8)} {x : List UInt8} : x ∈ leftF v k l ↔ x ∈ l ∧ isOver v k x = true := (left_both v k l).2 x
theorem left_up (v : Vw) (k : Kp) (l : List (List UInt8)) : Up (leftF v k l) := (left_both v k l).1
theorem left_nil (v : Vw) (k : Kp) : leftF v k [] = [] := by
  cases h : leftF v k [] with
  | nil => rfl
  | cons x r => have := (left_mem (x := x)).1 (by rw [h]; simp : x ∈ leftF v k []); simp at this
theorem left_skip {v : Vw} {k : Kp} {l : List (List UInt8)} {s : List UInt8} (h : isOver v k s = false) : leftF v k (l ++ [s]) = leftF v k l :=
  up_unique (left_up _ _ _) (left_up _ _ _) fun x => by
    rw [left_mem, left_mem, List.mem_append, List.mem_singleton]
    constructor
    · rintro ⟨h1 | rfl, h2⟩
      · exact ⟨h1, h2⟩
      · rw [h] at h2; cases h2
    · rintro ⟨h1, h2⟩; exact ⟨.inl h1, h2⟩
theorem left_twice {v : Vw} {k : Kp} {l : List (List UInt8)} {s : List UInt8} (h : s ∈ leftF v k l) : leftF v k (l ++ [s]) = leftF v k l :=
  up_unique (left_up _ _ _) (left_up _ _ _) fun x => by
    rw [left_mem, left_mem, List.mem_append, List.mem_singleton]
    constructor
    · rintro ⟨h1 | rfl, h2⟩
      · exact ⟨h1, h2⟩
      · exact left_mem.1 h
    · rintro ⟨h1, h2⟩; exact ⟨.inl h1, h2⟩
theorem left_ins {v : Vw} {k : Kp} {l A B : List (List UInt8)} {s : List UInt8} (h : isOver v k s = true) (hl : leftF v k l = A ++ B) (hA : ∀ a ∈ A, a < s) (hB : ∀ b ∈ B, s < b) : leftF v k (l ++ [s]) = A ++ s :: B := by
  have hu := left_up v k l
  rw [hl] at hu
  obtain ⟨u1, u2, u3⟩ := List.pairwise_append.1 hu
  refine up_unique (left_up _ _ _) (List.pairwise_append.2 ⟨u1, List.pairwise_cons.2 ⟨hB, u2⟩, fun a ha b hb => ?_⟩) fun x => ?_
  · rcases List.mem_cons.1 hb with rfl | hb
    · exact hA a ha
    · exact u3 a ha b hb
  · have hm := left_mem (v := v) (k := k) (l := l) (x := x)
    rw [hl, List.mem_append] at hm
    rw [left_mem, List.mem_append, List.mem_append, List.mem_singleton, List.mem_cons]
    constructor
    · rintro ⟨h1 | rfl, h2⟩
      · rcases hm.2 ⟨h1, h2⟩ with h | h
        · exact .inl h
        · exact .inr (.inr h)
      · exact .inr (.inl rfl)
    · rintro (h1 | rfl | h1)
      · exact ⟨.inl (hm.1 (.inl h1)).1, (hm.1 (.inl h1)).2⟩
      · exact ⟨.inr rfl, h⟩
      · exact ⟨.inl (hm.1 (.inr h1)).1, (hm.1 (.inr h1)).2⟩

/-! floor and tail -/
def hasF (l : List (List UInt8)) (kind chain n : Nat) : Bool := l.any fun s => (parseF s).2 && decide ((parseF s).1.kind = kind) && decide ((parseF s).1.doc = chain) && decide ((parseF s).1.n = n)
def floorStep (chain f : Nat) (s : List UInt8) : Nat := if (parseF s).2 = true ∧ (parseF s).1.kind = 2 ∧ (parseF s).1.doc = chain then max f (parseF s).1.n else f
def floorF (chain : Nat) (l : List (List UInt8)) : Nat := l.foldl (floorStep chain) 0
theorem floor_snoc (chain : Nat) (l : List (List UInt8)) (s : List UInt8) : floorF chain (l ++ [s]) = floorStep chain (floorF chain l) s := by simp [floorF]
theorem has_snoc (l : List (List UInt8)) (s : List UInt8) (kind chain n : Nat) : hasF (l ++ [s]) kind chain n = (hasF l kind chain n || ((parseF s).2 && decide ((parseF s).1.kind = kind) && decide ((parseF s).1.doc = chain) && decide ((parseF s).1.n = n))) := by simp [hasF]
theorem has_iff {l : List (List UInt8)} {kind chain n : Nat} : hasF l kind chain n = true ↔ ∃ s ∈ l, (parseF s).2 = true ∧ (parseF s).1.kind = kind ∧ (parseF s).1.doc = chain ∧ (parseF s).1.n = n := by
  simp [hasF, and_assoc]
structure IsTail (p : Nat → Bool) (floor t : Nat) : Prop where
  le : floor ≤ t
  lt : t < 18446744073709551616
  all : ∀ j, floor < j → j ≤ t → p j = true
  stop : t = 18446744073709551615 ∨ p (t + 1) = false
theorem IsTail.unique {p : Nat → Bool} {f t u : Nat} (h : IsTail p f t) (g : IsTail p f u) : t = u := by
  have key : ∀ {a b : Nat}, IsTail p f a → IsTail p f b → ¬ a < b := fun {a b} h g hlt => by
    rcases h.stop with e | e
    · have := g.lt; omega
    · have := g.all (a + 1) (by have := h.le; omega) (by omega)
      rw [this] at e; cases e
  have h1 := key h g
  have h2 := key g h
  omega
theorem foldl_floor_ge (chain : Nat) : ∀ (l : List (List UInt8)) (f : Nat), f ≤ l.foldl (floorStep chain) f
  | [], _ => Nat.le_refl _
  | s :: r, f => by
    refine Nat.le_trans ?_ (foldl_floor_ge chain r _)
    unfold floorStep; split
    · exact Nat.le_max_left _ _
    · exact Nat.le_refl _
theorem floor_iff (chain : Nat) : ∀ (l : List (List UInt8)) (f m : Nat), m < l.foldl (floorStep chain) f ↔ m < f ∨ ∃ s ∈ l, (parseF s).2 = true ∧ (parseF s).1.kind = 2 ∧ (parseF s).1.doc = chain ∧ m < (parseF s).1.n
  | [], f, m => by simp
  | s :: r, f, m => by
    rw [List.foldl_cons, floor_iff chain r]
    unfold floorStep
    constructor
    · rintro (h | ⟨x, hx, h⟩)
      · split at h
        · rename_i hc
          rcases Nat.lt_or_ge m f with g | g
          · exact .inl g
          · exact .inr ⟨s, by simp, hc.1, hc.2.1, hc.2.2, by omega⟩
        · exact .inl h
      · exact .inr ⟨x, by simp [hx], h⟩
    · rintro (h | ⟨x, hx, h⟩)
      · left; split
        · exact Nat.lt_of_lt_of_le h (Nat.le_max_left _ _)
        · exact h
      · rcases List.mem_cons.1 hx with rfl | hx
        · left; rw [if_pos ⟨h.1, h.2.1, h.2.2.1⟩]; exact Nat.lt_of_lt_of_le h.2.2.2 (Nat.le_max_right _ _)
        · exact .inr ⟨x, hx, h⟩
theorem floor_lt (chain : Nat) (l : List (List UInt8)) : floorF chain l < 18446744073709551616 := by
  by_cases h : 18446744073709551615 < floorF chain l
  · rcases (floor_iff chain l 0 _).1 h with h | ⟨s, -, hs, -, -, hn⟩
    · omega
    · have := (put_parse hs).2.1.n; omega
  · omega
end Go.Proofs.YtfpioijfocmfcaaGreatDoor
namespace Go.Proofs.YtfpioijfocmfcaaGreatDoor
open Go

def slotN (chain n : Nat) : Nm := ⟨1, chain, n, 0, 0, 0⟩
def baseN (chain n : Nat) : Nm := ⟨2, chain, n, 0, 0, 0⟩
theorem slotN_may (chain n : Nat) : mayF (slotN chain n) = true := by simp [slotN, mayF, ofF, numsF]
theorem baseN_may (chain n : Nat) : mayF (baseN chain n) = true := by simp [baseN, mayF, ofF, numsF]
theorem slot_parse {chain n : Nat} (hc : chain < 18446744073709551616) (hn : n < 18446744073709551616) : parseF (putF (slotN chain n)) = (slotN chain n, true) :=
  parse_put (slotN_may _ _) ⟨by simp [slotN], hc, hn, by simp [slotN], by simp [slotN], by simp [slotN]⟩
theorem base_parse {chain n : Nat} (hc : chain < 18446744073709551616) (hn : n < 18446744073709551616) : parseF (putF (baseN chain n)) = (baseN chain n, true) :=
  parse_put (baseN_may _ _) ⟨by simp [baseN], hc, hn, by simp [baseN], by simp [baseN], by simp [baseN]⟩
theorem floor_slot {l : List (List UInt8)} {chain n : Nat} (hc : chain < 18446744073709551616) (hn : n < 18446744073709551616) : floorF chain (l ++ [putF (slotN chain n)]) = floorF chain l := by
  rw [floor_snoc]; unfold floorStep; rw [slot_parse hc hn]; simp [slotN]
theorem floor_base {l : List (List UInt8)} {chain n : Nat} (hc : chain < 18446744073709551616) (hn : n < 18446744073709551616) : floorF chain (l ++ [putF (baseN chain n)]) = max (floorF chain l) n := by
  rw [floor_snoc]; unfold floorStep; rw [base_parse hc hn]; simp [baseN]
theorem has_slot {l : List (List UInt8)} {chain n : Nat} (hc : chain < 18446744073709551616) (hn : n < 18446744073709551616) (j : Nat) : hasF (l ++ [putF (slotN chain n)]) 1 chain j = (hasF l 1 chain j || decide (n = j)) := by
  rw [has_snoc, slot_parse hc hn]; simp [slotN]; rfl
theorem has_base {l : List (List UInt8)} {chain n : Nat} (hc : chain < 18446744073709551616) (hn : n < 18446744073709551616) (j : Nat) : hasF (l ++ [putF (baseN chain n)]) 1 chain j = hasF l 1 chain j := by
  rw [has_snoc, base_parse hc hn]; simp [baseN]
theorem tail_more {l : List (List UInt8)} {chain f t t' : Nat} (hc : chain < 18446744073709551616) (h : IsTail (hasF l 1 chain) f t) (ht : t < 18446744073709551615) (h' : IsTail (hasF (l ++ [putF (slotN chain (t + 1))]) 1 chain) f t') : t + 1 ≤ t' := by
  rcases Nat.lt_or_ge t' (t + 1) with hlt | hge
  · rcases h'.stop with e | e
    · omega
    · rw [has_slot hc (by omega), Bool.or_eq_false_iff] at e
      have := h'.le
      rcases Nat.lt_or_ge t' t with h1 | h1
      · rw [h.all (t' + 1) (by omega) (by omega)] at e; exact absurd e.1 (by decide)
      · have : t + 1 = t' + 1 := by omega
        exact absurd e.2 (by simp [this])
  · exact hge
theorem tail_other {l : List (List UInt8)} {chain f t t' n : Nat} (hc : chain < 18446744073709551616) (hn : n < 18446744073709551616) (h : IsTail (hasF l 1 chain) f t) (hne : n ≠ t + 1) (h' : IsTail (hasF (l ++ [putF (slotN chain n)]) 1 chain) f t') : t' = t :=
  h'.unique ⟨h.le, h.lt, fun j h1 h2 => by rw [has_slot hc hn, h.all j h1 h2]; rfl, h.stop.imp id fun e => by rw [has_slot hc hn, e]; simpa using hne⟩
theorem tail_base {l : List (List UInt8)} {chain f t t' n : Nat} (hc : chain < 18446744073709551616) (hn : n < 18446744073709551616) (h : IsTail (hasF l 1 chain) f t) (h' : IsTail (hasF (l ++ [putF (baseN chain n)]) 1 chain) t t') : t' = t :=
  h'.unique ⟨Nat.le_refl _, h.lt, fun j h1 h2 => by omega, h.stop.imp id fun e => by rw [has_base hc hn, e]⟩
theorem over_fine {v : Vw} {k : Kp} {s : List UInt8} (h : isOver v k s = true) : (parseF s).2 = true ∧ ((parseF s).1.kind = 1 → (parseF s).1.doc = v.chain ∧ (parseF s).1.n ≤ v.floor) ∧ ((parseF s).1.kind = 2 → (parseF s).1.doc = v.chain ∧ (parseF s).1.n < v.floor) ∧
    ((parseF s).1.kind = 4 → k.need.contains (markOf (parseF s).1) = false) := by
  unfold isOver at h
  rw [Bool.and_eq_true] at h
  obtain ⟨h1, h2⟩ := h
  generalize (parseF s).1 = x at h2
  refine ⟨h1, fun hk => ?_, fun hk => ?_, fun hk => ?_⟩
  · unfold overF at h2
    rw [if_neg (by omega)] at h2
    by_cases hd : x.doc ≠ v.chain
    · rw [if_pos hd] at h2; cases h2
    · rw [if_neg hd, if_pos hk] at h2
      simp only [Bool.and_eq_true, decide_eq_true_eq] at h2
      exact ⟨by simpa using hd, h2.2⟩
  · unfold overF at h2
    rw [if_neg (by omega)] at h2
    by_cases hd : x.doc ≠ v.chain
    · rw [if_pos hd] at h2; cases h2
    · rw [if_neg hd, if_neg (by omega), if_pos hk] at h2
      exact ⟨by simpa using hd, by simpa using h2⟩
  · unfold overF at h2
    rw [if_neg (by omega)] at h2
    by_cases hd : x.doc ≠ v.chain
    · rw [if_pos hd] at h2; cases h2
    · rw [if_neg hd, if_neg (by omega), if_neg (by omega), Bool.and_eq_true] at h2
      simpa using h2.1
/-- What is not left over. -/
def restF (v : Vw) (k : Kp) (l : List (List UInt8)) : List (List UInt8) := l.filter fun s => !isOver v k s
theorem rest_mem {v : Vw} {k : Kp} {l : List (List UInt8)} {s : List UInt8} : s ∈ restF v k l ↔ s ∈ l ∧ isOver v k s = false := by simp [restF]
theorem rest_floor {k : Kp} {l : List (List UInt8)} {chain t : Nat} : floorF chain (restF ⟨chain, floorF chain l, t⟩ k l) = floorF chain l := by
  obtain ⟨F, hF⟩ : ∃ F, F = floorF chain l := ⟨_, rfl⟩
  rw [← hF]
  have h1 : ∀ m, m < floorF chain (restF ⟨chain, F, t⟩ k l) → m < F := fun m hm => by
    rcases (floor_iff chain _ 0 m).1 hm with h | ⟨s, hs, h⟩
    · omega
    · rw [hF]; exact (floor_iff chain l 0 m).2 (.inr ⟨s, (rest_mem.1 hs).1, h⟩)
  have h2 : ∀ m, m < F → m < floorF chain (restF ⟨chain, F, t⟩ k l) := fun m hm => by
    rcases (floor_iff chain l 0 (F - 1)).1 (by show F - 1 < floorF chain l; omega) with h | ⟨s, hs, g1, g2, g3, g4⟩
    · omega
    · have hn : (parseF s).1.n = F := by
        rcases Nat.lt_or_ge F (parseF s).1.n with h | h
        · have := (floor_iff chain l 0 F).2 (.inr ⟨s, hs, g1, g2, g3, h⟩)
          have e : floorF chain l = l.foldl (floorStep chain) 0 := rfl
          omega
        · omega
      refine (floor_iff chain _ 0 m).2 (.inr ⟨s, rest_mem.2 ⟨hs, ?_⟩, g1, g2, g3, by omega⟩)
      unfold isOver overF
      rw [g1, if_neg (by omega), if_neg (by rw [g3]; simp), if_neg (by omega), if_pos g2, hn]
      simp
  have a := h1 (floorF chain (restF ⟨chain, F, t⟩ k l) - 1)
  have b := h2 (F - 1)
  omega
theorem rest_tail {k : Kp} {l : List (List UInt8)} {chain t t' : Nat} (h : IsTail (hasF l 1 chain) (floorF chain l) t) (h' : IsTail (hasF (restF ⟨chain, floorF chain l, t⟩ k l) 1 chain) (floorF chain l) t') : t' = t := by
  have key : ∀ j, floorF chain l < j → hasF (restF ⟨chain, floorF chain l, t⟩ k l) 1 chain j = hasF l 1 chain j := fun j hj => by
    rw [Bool.eq_iff_iff, has_iff, has_iff]
    constructor
    · rintro ⟨s, hs, g⟩; exact ⟨s, (rest_mem.1 hs).1, g⟩
    · rintro ⟨s, hs, g1, g2, g3, g4⟩
      refine ⟨s, rest_mem.2 ⟨hs, ?_⟩, g1, g2, g3, g4⟩
      unfold isOver overF
      rw [g1, if_neg (by omega), if_neg (by rw [g3]; simp), if_pos g2, g4]
      simp; omega
  exact h'.unique ⟨h.le, h.lt, fun j h1 h2 => by rw [key j h1]; exact h.all j h1 h2, h.stop.imp id fun e => by rw [key _ (by have := h.le; omega)]; exact e⟩
theorem rest_left {v : Vw} {k : Kp} {l : List (List UInt8)} : leftF v k (restF v k l) = [] := by
  cases h : leftF v k (restF v k l) with
  | nil => rfl
  | cons x r =>
    have := left_mem.1 (show x ∈ leftF v k (restF v k l) by rw [h]; simp)
    have h2 := (rest_mem.1 this.1).2
    rw [this.2] at h2; cases h2
theorem rest_snoc (v : Vw) (k : Kp) (l : List (List UInt8)) (s : List UInt8) : restF v k (l ++ [s]) = if isOver v k s then restF v k l else restF v k l ++ [s] := by
  unfold restF
  rw [List.filter_append]
  cases hq : isOver v k s <;> simp [List.filter, hq]
end Go.Proofs.YtfpioijfocmfcaaGreatDoor
namespace Go.Proofs.YtfpioijfocmfcaaGreatDoor
open Go

def UpN (l : List Nat) : Prop := l.Pairwise (· < ·)
/-- A number laid into a row that rises, if it is none of it. -/
def layN (l : List Nat) (n : Nat) : List Nat := if n ∈ l then l else l.filter (fun x => decide (x < n)) ++ n :: l.filter (fun x => decide (n < x))
def docF (s : List UInt8) : Option Nat := if (parseF s).2 = true ∧ (parseF s).1.kind ≠ 3 then some (parseF s).1.doc else none
def docsF (l : List (List UInt8)) : List Nat := l.filterMap docF
def chainsF (l : List (List UInt8)) : List Nat := (docsF l).foldl layN []
theorem upN_unique : ∀ {a b : List Nat}, UpN a → UpN b → (∀ x, x ∈ a ↔ x ∈ b) → a = b
  | [], [], _, _, _ => rfl
  | [], y :: b, _, _, h => by have := (h y).2 (by simp); simp at this
  | x :: a, [], _, _, h => by have := (h x).1 (by simp); simp at this
  | x :: a, y :: b, ha, hb, h => by
    obtain ⟨ha1, ha2⟩ := List.pairwise_cons.1 ha
    obtain ⟨hb1, hb2⟩ := List.pairwise_cons.1 hb
    have hxy : x = y := by
      rcases List.mem_cons.1 ((h x).1 (by simp)) with e | e
      · exact e
      · rcases List.mem_cons.1 ((h y).2 (by simp)) with e2 | e2
        · exact e2.symm
        · have := ha1 _ e2; have := hb1 _ e; omega
    subst hxy
    rw [upN_unique ha2 hb2 fun z => ?_]
    constructor
    · intro hz
      rcases List.mem_cons.1 ((h z).1 (by simp [hz])) with e | e
      · subst e; have := ha1 _ hz; omega
      · exact e
    · intro hz
      rcases List.mem_cons.1 ((h z).2 (by simp [hz])) with e | e
      · subst e; have := hb1 _ hz; omega
      · exact e
theorem layN_up {l : List Nat} (h : UpN l) (n : Nat) : UpN (layN l n) := by
  unfold layN
  split
  · exact h
  · rename_i hn
    refine List.pairwise_append.2 ⟨h.filter _, List.pairwise_cons.2 ⟨fun x hx => by simpa using (List.mem_filter.1 hx).2, h.filter _⟩, fun a ha b hb => ?_⟩
    have h1 : a < n := by simpa using (List.mem_filter.1 ha).2
    rcases List.mem_cons.1 hb with rfl | hb
    · exact h1
    · have h2 : n < b := by simpa using (List.mem_filter.1 hb).2
      omega
theorem layN_mem {l : List Nat} {n x : Nat} : x ∈ layN l n ↔ x ∈ l ∨ x = n := by
  unfold layN
  split
  · rename_i hn
    exact ⟨.inl, fun h => h.elim id fun e => by rw [e]; exact hn⟩
  · rename_i hn
    simp only [List.mem_append, List.mem_cons, List.mem_filter, decide_eq_true_eq]
    constructor
    · rintro (⟨h, -⟩ | h | ⟨h, -⟩)
      · exact .inl h
      · exact .inr h
      · exact .inl h
    · rintro (h | h)
      · rcases Nat.lt_trichotomy x n with g | g | g
        · exact .inl ⟨h, g⟩
        · subst g; exact absurd h hn
        · exact .inr (.inr ⟨h, g⟩)
      · exact .inr (.inl h)
theorem layN_fold : ∀ (l a : List Nat), UpN a → UpN (l.foldl layN a) ∧ ∀ x, x ∈ l.foldl layN a ↔ x ∈ a ∨ x ∈ l
  | [], a, h => ⟨h, fun x => by simp⟩
  | n :: l, a, h => by
    obtain ⟨h1, h2⟩ := layN_fold l (layN a n) (layN_up h n)
    refine ⟨h1, fun x => (h2 x).trans ?_⟩
    rw [layN_mem, List.mem_cons, or_assoc]
theorem chains_up (l : List (List UInt8)) : UpN (chainsF l) := (layN_fold _ _ (by simp [UpN])).1
theorem chains_mem {l : List (List UInt8)} {x : Nat} : x ∈ chainsF l ↔ x ∈ docsF l := by
  unfold chainsF
  rw [(layN_fold _ _ (by simp [UpN])).2 x]
  simp
theorem docs_snoc (l : List (List UInt8)) (s : List UInt8) : docsF (l ++ [s]) = docsF l ++ (docF s).toList := by
  unfold docsF
  rw [List.filterMap_append]
  cases h : docF s <;> simp [h]
theorem chains_snoc (l : List (List UInt8)) (s : List UInt8) : chainsF (l ++ [s]) = match docF s with | some d => layN (chainsF l) d | none => chainsF l := by
  unfold chainsF
  rw [docs_snoc, List.foldl_append]
  cases docF s <;> rfl
theorem docs_length (l : List (List UInt8)) : (docsF l).length ≤ l.length := List.length_filterMap_le _ _
theorem compactN_up (d : Array Nat) (hs : ∀ i j, i < j → j < d.size → d[i]! ≤ d[j]!) : ∀ m, m ≤ d.size → UpN (Lib.compactUpTo d m) ∧ ∀ x, x ∈ Lib.compactUpTo d m ↔ ∃ j, j < m ∧ d[j]! = x
  | 0, _ => ⟨by simp [Lib.compactUpTo, UpN], fun x => by simp [Lib.compactUpTo]⟩
  | m + 1, hm => by
    obtain ⟨h1, h2⟩ := compactN_up d hs m (by omega)
    rw [Lib.compactUpTo_succ]
    cases hk : Lib.keeps d m with
    | false =>
      simp only [Bool.false_eq_true, if_false, List.append_nil]
      refine ⟨h1, fun x => (h2 x).trans ⟨fun ⟨j, hj, e⟩ => ⟨j, by omega, e⟩, fun ⟨j, hj, e⟩ => ?_⟩⟩
      by_cases hjm : j < m
      · exact ⟨j, hjm, e⟩
      · have : j = m := by omega
        subst this
        unfold Lib.keeps at hk
        have hk := of_decide_eq_false hk
        simp only [not_or, ne_eq, Decidable.not_not] at hk
        exact ⟨j - 1, by omega, by rw [← hk.2]; exact e⟩
    | true =>
      simp only [if_true]
      refine ⟨List.pairwise_append.2 ⟨h1, by simp, fun x hx y hy => ?_⟩, fun x => ?_⟩
      · obtain ⟨j, hj, e⟩ := (h2 x).1 hx
        simp only [List.mem_singleton] at hy
        subst hy; subst e
        unfold Lib.keeps at hk
        have hk := of_decide_eq_true hk
        rcases hk with hk | hk
        · omega
        · have a1 := hs j m hj (by omega)
          have a2 : d[j]! ≤ d[m - 1]! := by
            by_cases hj1 : j = m - 1
            · rw [hj1]; exact Nat.le_refl _
            · exact hs j (m - 1) (by omega) (by omega)
          have a3 := hs (m - 1) m (by omega) (by omega)
          omega
      · rw [List.mem_append, h2 x, List.mem_singleton]
        constructor
        · rintro (⟨j, hj, e⟩ | e)
          · exact ⟨j, by omega, e⟩
          · exact ⟨m, by omega, e.symm⟩
        · rintro ⟨j, hj, e⟩
          by_cases hjm : j < m
          · exact .inl ⟨j, hjm, e⟩
          · have : j = m := by omega
            subst this; exact .inr e.symm
/-- Whatever order of the chains' numbers that does not fall: packed, it is the chains. -/
theorem chains_sorted {l : List (List UInt8)} {z : List Nat} (hp : z.Perm (docsF l)) (hs : z.Pairwise (· ≤ ·)) : Lib.compact z = chainsF l := by
  have h := compactN_up z.toArray (fun i j hij hj => by
    have hj' : j < z.length := by simpa using hj
    simp only [List.getElem!_toArray]
    rw [getElem!_pos z i (by omega), getElem!_pos z j hj']
    exact List.pairwise_iff_getElem.1 hs i j (by omega) hj' hij) z.length (by simp)
  unfold Lib.compact
  refine upN_unique h.1 (chains_up l) fun x => ?_
  rw [h.2 x, chains_mem, ← hp.mem_iff, List.mem_iff_getElem]
  constructor
  · rintro ⟨j, hj, e⟩
    exact ⟨j, hj, by simp only [List.getElem!_toArray] at e; rw [getElem!_pos z j hj] at e; exact e⟩
  · rintro ⟨j, hj, e⟩
    exact ⟨j, hj, by simp only [List.getElem!_toArray]; rw [getElem!_pos z j hj]; exact e⟩
end Go.Proofs.YtfpioijfocmfcaaGreatDoor
