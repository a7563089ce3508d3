/-
  ROWS OF THREE NUMBERS (marks, lives): three cells each. No program in sight; no condition.
-/
import Derived.Test.YtcfmohjffnpfpaaGreatDoorNBase
import Derived.Laws.OwnMore
namespace Go.Proofs.YtcfmohjffnpfpaaGreatDoor
open Go.RowKit

structure Mk where
  proc : Nat
  inc : Nat
  k : Nat
deriving DecidableEq, Inhabited

def encM (x : Mk) : List Value := [.int .u64 x.proc, .int .u64 x.inc, .int .u64 x.k]
def flatM (l : List Mk) : List Value := l.flatMap encM
theorem encM_length (x : Mk) : (encM x).length = 3 := rfl
theorem encM_one (x : Mk) : ∀ v ∈ encM x, v.oneCell' = true := by
  intro v hv
  simp [encM] at hv
  rcases hv with rfl | rfl | rfl <;> rfl
theorem flatM_length : ∀ l : List Mk, (flatM l).length = l.length * 3
  | [] => rfl
  | x :: r => by
    show (encM x ++ flatM r).length = _
    rw [List.length_append, flatM_length r, encM_length, List.length_cons]; omega
theorem flatM_append (l r : List Mk) : flatM (l ++ r) = flatM l ++ flatM r := by simp [flatM]
theorem flatM_one (x : Mk) : flatM [x] = encM x := by simp [flatM]
theorem flatM_get : ∀ (l : List Mk) (k i : Nat) (hk : k < l.length), i < 3 → (flatM l)[k * 3 + i]? = (encM l[k])[i]?
  | [], k, _, hk, _ => absurd hk (Nat.not_lt_zero _)
  | x :: r, 0, i, _, hi => by
    show (encM x ++ flatM r)[0 * 3 + i]? = _
    rw [Nat.zero_mul, Nat.zero_add, List.getElem?_append_left (by rw [encM_length]; exact hi)]; rfl
  | x :: r, k + 1, i, hk, hi => by
    show (encM x ++ flatM r)[(k + 1) * 3 + i]? = _
    rw [List.getElem?_append_right (by rw [encM_length]; omega), encM_length, show (k + 1) * 3 + i - 3 = k * 3 + i by omega]
    rw [flatM_get r k i (by simpa using hk) hi]; rfl
abbrev MkRow (S : Nat → Prop) (w : World) (v : Value) (l : List Mk) : Prop := Row S w v l.length (flatM l)
theorem mk_cells {l : List Mk} {w : World} {b o : Nat} (hq : ∀ j u, (flatM l)[j]? = some u → w.cell? ⟨b, o + j, none⟩ = some u) {k : Nat} (hk : k < l.length) : w.rangeAt b (o + k * 3) (encM l[k]) := fun j u hj => by
  have hj3 : j < 3 := by have := (List.getElem?_eq_some_iff.1 hj).1; simpa [encM] using this
  rw [Nat.add_assoc]
  apply hq
  rw [flatM_get l k j hk hj3]; exact hj
theorem ownsFormN {w : World} {base e size n : Nat} {v : Value} {xs : List Value} (h : w.ownsRow base e size v n xs) : ∃ a c, v = .slice a n c := by
  rcases h.2 with ⟨rfl, rfl⟩ | ⟨g, cap, cur, rfl, _⟩ <;> exact ⟨_, _, rfl⟩
theorem le_drew_alloc (w : World) (o : Obj) : w.heap.size ≤ (w.alloc o).drew.heap.size := by show w.heap.size ≤ (w.alloc o).heap.size; simp
section
variable {P : Program} {w : World}
/-- 'append(s, src...)' in a region that draws its order: s the call's own, src whatever reads as a row that is not empty. -/
theorem step_append_row {ops : Array Oper} {o : Oper} {a : Act} {K : Act → World → Prop} {Q : Exit → Act → World → Prop} {E : Prop} (hgd : o.guard = none) (s x : Operand) (t : TypeId)
    (ho : o.op = .call { callee := .builtin .append, args := #[s, x], argTypes := #[t, t] })
    {base e size bytes : Nat} (T : SliceT P t e size bytes) {v : Value} {n : Nat} {xs : List Value} (hown : w.ownsRow base e size v n xs)
    {S : Nat → Prop} {src : Value} {m : Nat} {news : List Value} (hsrc : Row S w src m news) (hs : a.eval s = v) (hx : a.eval x = src) (hl : news.length = m * size) (h1 : OneCells news) (hm : 0 < m)
    (h63 : n + m ≤ maxLen) (hbytes : (n + m) * bytes ≤ 140737488355328) (hbase : base ≤ w.heap.size)
    (h : ∀ v' w', w'.ownsRow base e size v' (n + m) (xs ++ news) → w.grownBy w' v.ownBlock → K (a.put o.dst v') w') :
    if Region.wanted o (yielded ops a.tmps) = true then Oper.wp P o a w K Q else E := by
  obtain ⟨hu, ⟨i, z, hi, hz, h2, h3, h4⟩, hp⟩ := T
  obtain ⟨b, of, c, rfl, -, g1, g2, g5⟩ := hsrc.addr hm
  exact step_append_lies w hgd s x t ho base e i z size bytes hu hi hz h2 h3 h4 hp v n xs hs hown ⟨b, of, none⟩ m c news hx hl
    (fun j u hj => by
      have := g5 j u hj
      rw [show (⟨b, of, none⟩ : Addr).add j = ⟨b, of + j, none⟩ from by unfold Addr.add; split <;> simp_all]; exact this) h1 hm h63 hbytes hbase _ rfl (fun g cap w' h1 h2 _ _ => h _ w' h1 h2)
end
end Go.Proofs.YtcfmohjffnpfpaaGreatDoor
