/-
  ROWS OF VERSIONS: ten cells each; the marks of what is needed. No program in sight; no condition.
-/
import Derived.Test.YtcfmohjffnpfpaaGreatDoorKRow
namespace Go.Proofs.YtcfmohjffnpfpaaGreatDoor
open Go.RowKit

structure Vn where
  n : Nat
  base : Nat
  proc : Nat
  inc : Nat
  seq : Nat
  size : Nat
  sum : Nat
  text : List UInt8
  inl : Bool
  hid : Bool
deriving Inhabited
def encV (x : Vn) : List Value := [.int .u64 x.n, .int .u64 x.base, .int .u64 x.proc, .int .u64 x.inc, .int .u64 x.seq, .int .u64 x.size, .int .u64 x.sum, str x.text, .bool x.inl, .bool x.hid]
def flatV (l : List Vn) : List Value := l.flatMap encV
theorem encV_length (x : Vn) : (encV x).length = 10 := rfl
theorem encV_one (x : Vn) : ∀ v ∈ encV x, v.oneCell' = true := by
  intro v hv
  simp only [encV, List.mem_cons, List.not_mem_nil, or_false] at hv
  rcases hv with rfl | rfl | rfl | rfl | rfl | rfl | rfl | rfl | rfl | rfl <;> rfl
theorem flatV_append (l r : List Vn) : flatV (l ++ r) = flatV l ++ flatV r := by simp [flatV]
theorem flatV_one (x : Vn) : flatV [x] = encV x := by simp [flatV]
theorem flatV_get : ∀ (l : List Vn) (k i : Nat) (hk : k < l.length), i < 10 → (flatV l)[k * 10 + i]? = (encV l[k])[i]?
  | [], k, _, hk, _ => absurd hk (Nat.not_lt_zero _)
  | x :: r, 0, i, _, hi => by
    show (encV x ++ flatV r)[0 * 10 + i]? = _
    rw [Nat.zero_mul, Nat.zero_add, List.getElem?_append_left (by rw [encV_length]; exact hi)]; rfl
  | x :: r, k + 1, i, hk, hi => by
    show (encV x ++ flatV r)[(k + 1) * 10 + i]? = _
    rw [List.getElem?_append_right (by rw [encV_length]; omega), encV_length, show (k + 1) * 10 + i - 10 = k * 10 + i by omega]
    rw [flatV_get r k i (by simpa using hk) hi]; rfl
abbrev VRow (S : Nat → Prop) (w : World) (v : Value) (l : List Vn) : Prop := Row S w v l.length (flatV l)
theorem v_cells {l : List Vn} {w : World} {b o : Nat} (hq : ∀ j u, (flatV l)[j]? = some u → w.cell? ⟨b, o + j, none⟩ = some u) {k : Nat} (hk : k < l.length) : w.rangeAt b (o + k * 10) (encV l[k]) := fun j u hj => by
  have hj3 : j < 10 := by have := (List.getElem?_eq_some_iff.1 hj).1; simpa [encV] using this
  rw [Nat.add_assoc]
  apply hq
  rw [flatV_get l k j hk hj3]; exact hj
def needV (l : List Vn) : List Mk := (l.filter fun x => !x.inl).map fun x => ⟨x.proc, x.inc, x.seq⟩
theorem needV_snoc (l : List Vn) (x : Vn) : needV (l ++ [x]) = if x.inl then needV l else needV l ++ [⟨x.proc, x.inc, x.seq⟩] := by
  unfold needV
  cases h : x.inl <;> simp [h]
theorem needV_length (l : List Vn) : (needV l).length ≤ l.length := by
  unfold needV
  rw [List.length_map]
  exact List.length_filter_le _ _
end Go.Proofs.YtcfmohjffnpfpaaGreatDoor
