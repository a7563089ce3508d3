/-
  ROWS OF MARKS, three cells each, and what a Keep holds. No condition.
-/
import Derived.Test.YtfpioijfocmfcaaGreatDoorNOf
import Derived.Test.YtfpioijfocmfcaaGreatDoorGYP
namespace Go.Proofs.YtfpioijfocmfcaaGreatDoor
open Go.RowKit

def encM (x : Mk) : List Value := [u64 x.proc, u64 x.inc, u64 x.k]
def flatM (l : List Mk) : List Value := l.flatMap encM
theorem encM_length (x : Mk) : (encM x).length = 3 := rfl
theorem encM_one (x : Mk) : ∀ v ∈ encM x, v.oneCell' = true := by
  intro v hv
  simp [encM] at hv
  rcases hv with rfl | rfl | rfl <;> rfl
theorem flatM_length : ∀ l : List Mk, (flatM l).length = l.length * 3
  | [] => rfl
  | x :: r => by
    show (encM x ++ flatM r).length = _
    rw [List.length_append, flatM_length r, encM_length, List.length_cons]; omega
theorem flatM_append (l r : List Mk) : flatM (l ++ r) = flatM l ++ flatM r := by simp [flatM]
theorem flatM_one (x : Mk) : flatM [x] = encM x := by simp [flatM]
theorem flatM_ones (l : List Mk) : OneCells (flatM l) := by
  intro v hv
  simp only [flatM, List.mem_flatMap] at hv
  obtain ⟨x, -, hx⟩ := hv
  exact encM_one x v hx
theorem flatM_get : ∀ (l : List Mk) (k i : Nat) (hk : k < l.length), i < 3 → (flatM l)[k * 3 + i]? = (encM l[k])[i]?
  | [], k, _, hk, _ => absurd hk (Nat.not_lt_zero _)
  | x :: r, 0, i, _, hi => by
    show (encM x ++ flatM r)[0 * 3 + i]? = _
    rw [Nat.zero_mul, Nat.zero_add, List.getElem?_append_left (by rw [encM_length]; exact hi)]; rfl
  | x :: r, k + 1, i, hk, hi => by
    show (encM x ++ flatM r)[(k + 1) * 3 + i]? = _
    rw [List.getElem?_append_right (by rw [encM_length]; omega), encM_length, show (k + 1) * 3 + i - 3 = k * 3 + i by omega]
    rw [flatM_get r k i (by simpa using hk) hi]; rfl
abbrev MkRow (S : Nat → Prop) (w : World) (v : Value) (l : List Mk) : Prop := Row S w v l.length (flatM l)
theorem mk_cells {l : List Mk} {w : World} {b o : Nat} (hq : ∀ j u, (flatM l)[j]? = some u → w.cell? ⟨b, o + j, none⟩ = some u) {k : Nat} (hk : k < l.length) : w.rangeAt b (o + k * 3) (encM l[k]) := fun j u hj => by
  have hj3 : j < 3 := by have := (List.getElem?_eq_some_iff.1 hj).1; simpa [encM] using this
  rw [Nat.add_assoc]
  apply hq
  rw [flatM_get l k j hk hj3]; exact hj
theorem mk_at {S : Nat → Prop} {w : World} {v : Value} {l : List Mk} (h : MkRow S w v l) {k : Nat} (hk : k < l.length) :
    ∃ b o c, v = .slice (some ⟨b, o, none⟩) l.length c ∧ S b ∧ l.length ≤ c ∧ c ≤ maxLen ∧ w.rangeAt b (o + k * 3) (encM l[k]) := by
  obtain ⟨b, o, c, e, hs, h1, h2, hq⟩ := h.addr (by omega)
  exact ⟨b, o, c, e, hs, h1, h2, mk_cells hq hk⟩
/-- As the library's contracts on rows of structs ask it. -/
theorem mk_holds {l : List Mk} {w : World} {b o : Nat} (hq : ∀ j u, (flatM l)[j]? = some u → w.cell? ⟨b, o + j, none⟩ = some u) :
    ∀ j, j < l.length → ∀ i v, (encM l[j]!)[i]? = some v → w.cell? ⟨b, o + j * 3 + i, none⟩ = some v := fun j hj i v hi => by
  rw [getElem!_pos l j hj] at hi
  exact mk_cells hq hj i v hi
/-- Where an own mark is told: a pointer to its three cells. -/
def OwnIs (S : Nat → Prop) (w : World) (v : Value) : Option Mk → Prop
  | none => v = .pointer none
  | some q => ∃ b o, v = .pointer (some ⟨b, o, none⟩) ∧ S b ∧ w.rangeAt b o (encM q)
theorem OwnIs.ext {S : Nat → Prop} {w w' : World} {v : Value} {q : Option Mk} (h : OwnIs S w v q) (hx : Ext w w') : OwnIs S w' v q := by
  cases q with
  | none => exact h
  | some q => obtain ⟨b, o, e, hs, hr⟩ := h; exact ⟨b, o, e, hs, fun j u hj => hx.cell (hr j u hj) id⟩
/-- A Keep's three cells. -/
structure KeepIs (S : Nat → Prop) (w : World) (a b c : Value) (k : Kp) : Prop where
  need : MkRow S w a k.need
  last : MkRow S w b k.last
  own : OwnIs S w c k.own
theorem KeepIs.ext {S : Nat → Prop} {w w' : World} {a b c : Value} {k : Kp} (h : KeepIs S w a b c k) (hx : Ext w w') : KeepIs S w' a b c k :=
  ⟨h.need.ext hx, h.last.ext hx, h.own.ext hx⟩
def vwCells (v : Vw) : Array Value := #[u64 v.chain, u64 v.floor, u64 v.tail]
theorem vwCells_one (v : Vw) : (vwCells v).all (·.oneCell') = true := by simp [vwCells, Value.oneCell']
def mkCells (x : Mk) : Array Value := #[u64 x.proc, u64 x.inc, u64 x.k]
theorem mkCells_list (x : Mk) : (mkCells x).toList = encM x := rfl
theorem mkCells_one (x : Mk) : (mkCells x).all (·.oneCell') = true := by simp [mkCells, Value.oneCell']
/-- The reference's Keep. -/
def rkCells (a b : Value) (q : Option Mk) : Array Value := #[a, b, u64 (match q with | some x => x.proc | none => 0), u64 (match q with | some x => x.inc | none => 0), u64 0, .bool q.isSome]
theorem Tryz.vwT (v : Vw) : StructT Tryz.prog 24 (vwCells v).size := ⟨_, Tryz.underlying24, rfl, by kernel_rfl⟩
theorem Tryz.rvwT (v : Vw) : StructT Tryz.prog 35 (vwCells v).size := ⟨_, Tryz.underlying35, rfl, by kernel_rfl⟩
theorem Tryz.mkT (x : Mk) : StructT Tryz.prog 61 (mkCells x).size := ⟨_, Tryz.underlying61, rfl, by kernel_rfl⟩
theorem Tryz.rmkT (x : Mk) : StructT Tryz.prog 39 (mkCells x).size := ⟨_, Tryz.underlying39, rfl, by kernel_rfl⟩
theorem Tryz.kpT (a b c : Value) : StructT Tryz.prog 28 (#[a, b, c] : Array Value).size := ⟨_, Tryz.underlying28, rfl, by kernel_rfl⟩
theorem Tryz.rkT (a b : Value) (q : Option Mk) : StructT Tryz.prog 41 (rkCells a b q).size := ⟨_, Tryz.underlying41, rfl, by kernel_rfl⟩
end Go.Proofs.YtfpioijfocmfcaaGreatDoor
