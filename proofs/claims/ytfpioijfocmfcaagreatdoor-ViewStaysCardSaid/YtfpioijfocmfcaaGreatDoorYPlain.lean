/-
  PLAIN VIEWS: what a listing tells of a chain, and which names are left over. No program in sight; no condition.
-/
import Derived.Test.YtfpioijfocmfcaaGreatDoorNPlain
import Derived.Lib.SlicesCompact
import Derived.Lib.SlBy
namespace Go.Proofs.YtfpioijfocmfcaaGreatDoor
open Go

structure Mk where
  proc : Nat
  inc : Nat
  k : Nat
deriving DecidableEq, Inhabited
structure Vw where
  chain : Nat
  floor : Nat
  tail : Nat
deriving DecidableEq
structure Kp where
  need : List Mk
  last : List Mk
  own : Option Mk

def sameL (m x : Mk) : Bool := decide (x.proc = m.proc) && decide (x.inc = m.inc)
def doneF (l : List Mk) (m : Mk) : Bool := match l.find? (sameL m) with | some x => decide (m.k ≤ x.k) | none => false
def earlierF (o : Option Mk) (m : Mk) : Bool := match o with | some q => decide (m.proc = q.proc) && decide (m.inc < q.inc) | none => false
def markOf (x : Nm) : Mk := ⟨x.proc, x.inc, x.k⟩
def overF (v : Vw) (k : Kp) (x : Nm) : Bool :=
  if x.kind = 3 then earlierF k.own (markOf x)
  else if x.doc ≠ v.chain then false
  else if x.kind = 1 then decide (x.n ≠ 0) && decide (x.n ≤ v.floor)
  else if x.kind = 2 then decide (x.n < v.floor)
  else !(k.need.contains (markOf x)) && (doneF k.last (markOf x) || earlierF k.own (markOf x))
def isOver (v : Vw) (k : Kp) (s : List UInt8) : Bool := (parseF s).2 && overF v k (parseF s).1
def Up (l : List (List UInt8)) : Prop := l.Pairwise (· < ·)
def leftF (v : Vw) (k : Kp) (l : List (List UInt8)) : List (List UInt8) := Lib.compact ((l.filter (isOver v k)).mergeSort fun x y => decide (x ≤ y))

/-! the first mark that is sought -/
theorem idx_find (p : Mk → Bool) : ∀ (l : List Mk) (i : Nat), (Lib.idxByFrom (fun _ y => p y) (default : Mk) l i = -1 ∧ l.find? p = none) ∨ ∃ k, ∃ h : k < l.length, Lib.idxByFrom (fun _ y => p y) (default : Mk) l i = ((i + k : Nat) : Int) ∧ l.find? p = some l[k]
  | [], _ => .inl ⟨rfl, rfl⟩
  | y :: r, i => by
    cases hy : p y with
    | true => exact .inr ⟨0, by simp, by simp [Lib.idxByFrom, hy], by simp [List.find?, hy]⟩
    | false =>
      rcases idx_find p r (i + 1) with ⟨h1, h2⟩ | ⟨k, hk, h1, h2⟩
      · exact .inl ⟨by simp [Lib.idxByFrom, hy, h1], by simp [List.find?, hy, h2]⟩
      · refine .inr ⟨k + 1, by simpa using hk, ?_, by simp [List.find?, hy, h2]⟩
        simp only [Lib.idxByFrom, hy]
        rw [if_neg (by decide), h1]
        omega
theorem find_none {p : Mk → Bool} {l : List Mk} (h : ∀ x ∈ l, p x = false) : l.find? p = none :=
  List.find?_eq_none.2 fun x hx => by rw [h x hx]; decide
theorem find_first {p : Mk → Bool} {l : List Mk} {i : Nat} (hi : i < l.length) (h : ∀ x ∈ l.take i, p x = false) (hp : p l[i] = true) : l.find? p = some l[i] := by
  conv => lhs; rw [← List.take_append_drop i l, List.drop_eq_getElem_cons hi]
  rw [List.find?_append, find_none h]
  simp [List.find?, hp]

/-! rows that rise -/
theorem up_unique : ∀ {a b : List (List UInt8)}, Up a → Up b → (∀ x, x ∈ a ↔ x ∈ b) → a = b
  | [], [], _, _, _ => rfl
  | [], y :: b, _, _, h => by have := (h y).2 (by simp); simp at this
  | x :: a, [], _, _, h => by have := (h x).1 (by simp); simp at this
  | x :: a, y :: b, ha, hb, h => by
    obtain ⟨ha1, ha2⟩ := List.pairwise_cons.1 ha
    obtain ⟨hb1, hb2⟩ := List.pairwise_cons.1 hb
    have hxy : x = y := by
      rcases List.mem_cons.1 ((h x).1 (by simp)) with e | e
      · exact e
      · rcases List.mem_cons.1 ((h y).2 (by simp)) with e2 | e2
        · exact e2.symm
        · exact absurd (List.lt_trans (ha1 _ e2) (hb1 _ e)) (List.lt_irrefl _)
    subst hxy
    rw [up_unique ha2 hb2 fun z => ?_]
    constructor
    · intro hz
      rcases List.mem_cons.1 ((h z).1 (by simp [hz])) with e | e
      · subst e; exact absurd (ha1 _ hz) (List.lt_irrefl _)
      · exact e
    · intro hz
      rcases List.mem_cons.1 ((h z).2 (by simp [hz])) with e | e
      · subst e; exact absurd (hb1 _ hz) (List.lt_irrefl _)
      · exact e
theorem lt_of_le_ne {x y : List UInt8} (h : x ≤ y) (hn : x ≠ y) : x < y := by
  by_cases hl : x < y
  · exact hl
  · exact absurd (List.le_antisymm h (List.not_lt.1 hl)) hn
theorem compact_up (d : Array (List UInt8)) (hs : ∀ i j, i < j → j < d.size → d[i]! ≤ d[j]!) : ∀ m, m ≤ d.size → Up (Lib.compactUpTo d m) ∧ ∀ x, x ∈ Lib.compactUpTo d m ↔ ∃ j, j < m ∧ d[j]! = x
  | 0, _ => ⟨by simp [Lib.compactUpTo, Up], fun x => by simp [Lib.compactUpTo]⟩
  | m + 1, hm => by
    obtain ⟨h1, h2⟩ := compact_up d hs m (by omega)
    rw [Lib.compactUpTo_succ]
    cases hk : Lib.keeps d m with
    | false =>
      simp only [Bool.false_eq_true, if_false, List.append_nil]
      refine ⟨h1, fun x => (h2 x).trans ⟨fun ⟨j, hj, e⟩ => ⟨j, by omega, e⟩, fun ⟨j, hj, e⟩ => ?_⟩⟩
      by_cases hjm : j < m
      · exact ⟨j, hjm, e⟩
      · have : j = m := by omega
        subst this
        unfold Lib.keeps at hk
        have hk := of_decide_eq_false hk
        simp only [not_or, ne_eq, Decidable.not_not] at hk
        exact ⟨j - 1, by omega, by rw [← hk.2]; exact e⟩
    | true =>
      simp only [if_true]
      refine ⟨List.pairwise_append.2 ⟨h1, by simp, fun x hx y hy => ?_⟩, fun x => ?_⟩
      · obtain ⟨j, hj, e⟩ := (h2 x).1 hx
        simp only [List.mem_singleton] at hy
        subst hy; subst e
        unfold Lib.keeps at hk
        have hk := of_decide_eq_true hk
        rcases hk with hk | hk
        · omega
        · refine lt_of_le_ne (hs j m hj (by omega)) fun e => hk ?_
          by_cases hj1 : j = m - 1
          · rw [← hj1, e]
          · refine (List.le_antisymm (hs (m - 1) m (by omega) (by omega)) ?_).symm
            rw [← e]; exact hs j (m - 1) (by omega) (by omega)
      · rw [List.mem_append, h2 x, List.mem_singleton]
        constructor
        · rintro (⟨j, hj, e⟩ | e)
          · exact ⟨j, by omega, e⟩
          · exact ⟨m, by omega, e.symm⟩
        · rintro ⟨j, hj, e⟩
          by_cases hjm : j < m
          · exact .inl ⟨j, hjm, e⟩
          · have : j = m := by omega
            subst this; exact .inr e.symm
theorem sort_up (l : List (List UInt8)) : (l.mergeSort fun x y => decide (x ≤ y)).Pairwise (· ≤ ·) := by
  have h := List.pairwise_mergeSort (le := fun x y : List UInt8 => decide (x ≤ y)) (fun a b c h1 h2 => by
    simp only [decide_eq_true_eq] at *; exact List.le_trans h1 h2) (fun a b => by
    simp only [Bool.or_eq_true, decide_eq_true_eq]; exact List.le_total a b) l
  exact h.imp fun h => by simpa using h
theorem left_both (v : Vw) (k : Kp) (l : List (List UInt8)) : Up (leftF v k l) ∧ ∀ x, x ∈ leftF v k l ↔ x ∈ l ∧ isOver v k x = true := by
  obtain ⟨z, hz⟩ : ∃ z, z = (l.filter (isOver v k)).mergeSort fun x y => decide (x ≤ y) := ⟨_, rfl⟩
  have hp : z.Pairwise (· ≤ ·) := by rw [hz]; exact sort_up _
  have hm : ∀ x, x ∈ z ↔ x ∈ l ∧ isOver v k x = true := fun x => by rw [hz, List.mem_mergeSort, List.mem_filter]
  have h := compact_up z.toArray (fun i j hij hj => by
    have hj' : j < z.length := by simpa using hj
    simp only [List.getElem!_toArray]
    rw [getElem!_pos z i (by omega), getElem!_pos z j hj']
    exact List.pairwise_iff_getElem.1 hp i j (by omega) hj' hij) z.length (by simp)
  unfold leftF
  rw [← hz]
  unfold Lib.compact
  refine ⟨h.1, fun x => (h.2 x).trans ((hm x).symm.trans ?_).symm⟩
  rw [List.mem_iff_getElem]
  constructor
  · rintro ⟨j, hj, e⟩
    exact ⟨j, hj, by simp only [List.getElem!_toArray]; rw [getElem!_pos z j hj]; exact e⟩
  · rintro ⟨j, hj, e⟩
    refine ⟨j, hj, ?_⟩
    simp only [List.getElem!_toArray] at e
    rw [getElem!_pos z j hj] at e; exact e
theorem left_mem {v : Vw} {k : Kp} {l : List (List UInt8)} {x : List UInt8} : x ∈ leftF v k l ↔ x ∈ l ∧ isOver v k x = true := (left_both v k l).2 x
theorem left_up (v : Vw) (k : Kp) (l : List (List UInt8)) : Up (leftF v k l) := (left_both v k l).1
theorem left_nil (v : Vw) (k : Kp) : leftF v k [] = [] := by
  cases h : leftF v k [] with
  | nil => rfl
  | cons x r => have := (left_mem (x := x)).1 (by rw [h]; simp : x ∈ leftF v k []); simp at this
theorem left_skip {v : Vw} {k : Kp} {l : List (List UInt8)} {s : List UInt8} (h : isOver v k s = false) : leftF v k (l ++ [s]) = leftF v k l :=
  up_unique (left_up _ _ _) (left_up _ _ _) fun x => by
    rw [left_mem, left_mem, List.mem_append, List.mem_singleton]
    constructor
    · rintro ⟨h1 | rfl, h2⟩
      · exact ⟨h1, h2⟩
      · rw [h] at h2; cases h2
    · rintro ⟨h1, h2⟩; exact ⟨.inl h1, h2⟩
theorem left_twice {v : Vw} {k : Kp} {l : List (List UInt8)} {s : List UInt8} (h : s ∈ leftF v k l) : leftF v k (l ++ [s]) = leftF v k l :=
  up_unique (left_up _ _ _) (left_up _ _ _) fun x => by
    rw [left_mem, left_mem, List.mem_append, List.mem_singleton]
    constructor
    · rintro ⟨h1 | rfl, h2⟩
      · exact ⟨h1, h2⟩
      · exact left_mem.1 h
    · rintro ⟨h1, h2⟩; exact ⟨.inl h1, h2⟩
theorem left_ins {v : Vw} {k : Kp} {l A B : List (List UInt8)} {s : List UInt8} (h : isOver v k s = true) (hl : leftF v k l = A ++ B) (hA : ∀ a ∈ A, a < s) (hB : ∀ b ∈ B, s < b) : leftF v k (l ++ [s]) = A ++ s :: B := by
  have hu := left_up v k l
  rw [hl] at hu
  obtain ⟨u1, u2, u3⟩ := List.pairwise_append.1 hu
  refine up_unique (left_up _ _ _) (List.pairwise_append.2 ⟨u1, List.pairwise_cons.2 ⟨hB, u2⟩, fun a ha b hb => ?_⟩) fun x => ?_
  · rcases List.mem_cons.1 hb with rfl | hb
    · exact hA a ha
    · exact u3 a ha b hb
  · have hm := left_mem (v := v) (k := k) (l := l) (x := x)
    rw [hl, List.mem_append] at hm
    rw [left_mem, List.mem_append, List.mem_append, List.mem_singleton, List.mem_cons]
    constructor
    · rintro ⟨h1 | rfl, h2⟩
      · rcases hm.2 ⟨h1, h2⟩ with h | h
        · exact .inl h
        · exact .inr (.inr h)
      · exact .inr (.inl rfl)
    · rintro (h1 | rfl | h1)
      · exact ⟨.inl (hm.1 (.inl h1)).1, (hm.1 (.inl h1)).2⟩
      · exact ⟨.inr rfl, h⟩
      · exact ⟨.inl (hm.1 (.inr h1)).1, (hm.1 (.inr h1)).2⟩

/-! floor and tail -/
def hasF (l : List (List UInt8)) (kind chain n : Nat) : Bool := l.any fun s => (parseF s).2 && decide ((parseF s).1.kind = kind) && decide ((parseF s).1.doc = chain) && decide ((parseF s).1.n = n)
def floorStep (chain f : Nat) (s : List UInt8) : Nat := if (parseF s).2 = true ∧ (parseF s).1.kind = 2 ∧ (parseF s).1.doc = chain then max f (parseF s).1.n else f
def floorF (chain : Nat) (l : List (List UInt8)) : Nat := l.foldl (floorStep chain) 0
theorem floor_snoc (chain : Nat) (l : List (List UInt8)) (s : List UInt8) : floorF chain (l ++ [s]) = floorStep chain (floorF chain l) s := by simp [floorF]
theorem has_snoc (l : List (List UInt8)) (s : List UInt8) (kind chain n : Nat) : hasF (l ++ [s]) kind chain n = (hasF l kind chain n || ((parseF s).2 && decide ((parseF s).1.kind = kind) && decide ((parseF s).1.doc = chain) && decide ((parseF s).1.n = n))) := by simp [hasF]
theorem has_iff {l : List (List UInt8)} {kind chain n : Nat} : hasF l kind chain n = true ↔ ∃ s ∈ l, (parseF s).2 = true ∧ (parseF s).1.kind = kind ∧ (parseF s).1.doc = chain ∧ (parseF s).1.n = n := by
  simp [hasF, and_assoc]
structure IsTail (p : Nat → Bool) (floor t : Nat) : Prop where
  le : floor ≤ t
  lt : t < 18446744073709551616
  all : ∀ j, floor < j → j ≤ t → p j = true
  stop : t = 18446744073709551615 ∨ p (t + 1) = false
theorem IsTail.unique {p : Nat → Bool} {f t u : Nat} (h : IsTail p f t) (g : IsTail p f u) : t = u := by
  have key : ∀ {a b : Nat}, IsTail p f a → IsTail p f b → ¬ a < b := fun {a b} h g hlt => by
    rcases h.stop with e | e
    · have := g.lt; omega
    · have := g.all (a + 1) (by have := h.le; omega) (by omega)
      rw [this] at e; cases e
  have h1 := key h g
  have h2 := key g h
  omega
theorem foldl_floor_ge (chain : Nat) : ∀ (l : List (List UInt8)) (f : Nat), f ≤ l.foldl (floorStep chain) f
  | [], _ => Nat.le_refl _
  | s :: r, f => by
    refine Nat.le_trans ?_ (foldl_floor_ge chain r _)
    unfold floorStep; split
    · exact Nat.le_max_left _ _
    · exact Nat.le_refl _
theorem floor_iff (chain : Nat) : ∀ (l : List (List UInt8)) (f m : Nat), m < l.foldl (floorStep chain) f ↔ m < f ∨ ∃ s ∈ l, (parseF s).2 = true ∧ (parseF s).1.kind = 2 ∧ (parseF s).1.doc = chain ∧ m < (parseF s).1.n
  | [], f, m => by simp
  | s :: r, f, m => by
    rw [List.foldl_cons, floor_iff chain r]
    unfold floorStep
    constructor
    · rintro (h | ⟨x, hx, h⟩)
      · split at h
        · rename_i hc
          rcases Nat.lt_or_ge m f with g | g
          · exact .inl g
          · exact .inr ⟨s, by simp, hc.1, hc.2.1, hc.2.2, by omega⟩
        · exact .inl h
      · exact .inr ⟨x, by simp [hx], h⟩
    · rintro (h | ⟨x, hx, h⟩)
      · left; split
        · exact Nat.lt_of_lt_of_le h (Nat.le_max_left _ _)
        · exact h
      · rcases List.mem_cons.1 hx with rfl | hx
        · left; rw [if_pos ⟨h.1, h.2.1, h.2.2.1⟩]; exact Nat.lt_of_lt_of_le h.2.2.2 (Nat.le_max_right _ _)
        · exact .inr ⟨x, hx, h⟩
theorem floor_lt (chain : Nat) (l : List (List UInt8)) : floorF chain l < 18446744073709551616 := by
  by_cases h : 18446744073709551615 < floorF chain l
  · rcases (floor_iff chain l 0 _).1 h with h | ⟨s, -, hs, -, -, hn⟩
    · omega
    · have := (put_parse hs).2.1.n; omega
  · omega
end Go.Proofs.YtfpioijfocmfcaaGreatDoor
