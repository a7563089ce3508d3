/-
  CONTRACT of the law's keep. No condition.
-/
import Derived.Test.YtfpioijfocmfcaaGreatDoorYMarks
namespace Go.Proofs.YtfpioijfocmfcaaGreatDoor
open Go.RowKit

def kpZero : Array Value := #[.slice none 0 0, .slice none 0 0, .int .u64 0, .int .u64 0, .int .u64 0, .bool false]
def kpOf (x y : Value) : Array Value := #[x, y, .int .u64 0, .int .u64 0, .int .u64 0, .bool false]
structure KpJ (T E : TypeId) (a b : Value) (g1 : Nat) (need last : List Mk) (w0 : World) (L : Nat → Bool) (v : Nat → Value) (w : World) : Prop where
  upd : Upd (From w0.heap.size) w0 w
  v0 : L 0 = true → v 0 = .pointer (some ⟨g1, 0, none⟩)
  v1 : L 1 = true → v 1 = a
  v2 : L 2 = true → w.ownsRow w0.heap.size E 3 (v 2) need.length (flatM need)
  v3 : L 3 = true → v 3 = .pointer (some ⟨g1, 1, none⟩)
  v4 : L 4 = true → v 4 = b
  v5 : L 5 = true → w.ownsRow w0.heap.size E 3 (v 5) last.length (flatM last)
  v6 : L 6 = true → L 2 = true ∧ L 5 = true ∧ v 6 = .agg (kpOf (v 2) (v 5))
  v7 : L 7 = true → ∃ g, v 7 = .pointer (some ⟨g, 0, none⟩) ∧ w0.heap.size ≤ g ∧ w.heap[g]? = some (.cells (if L 8 then kpOf (v 2) (v 5) else kpZero) T (0, 0))
  v8 : L 8 = true → L 6 = true ∧ L 7 = true

theorem KpJ.no8 {T E : TypeId} {a b : Value} {g1 : Nat} {need last : List Mk} {w0 : World} {L : Nat → Bool} {v : Nat → Value} {w : World} (h : KpJ T E a b g1 need last w0 L v w) (hL : L 2 = false ∨ L 5 = false ∨ L 6 = false ∨ L 7 = false) : L 8 = false := by
  cases c : L 8 with
  | false => rfl
  | true =>
    obtain ⟨c1, c2⟩ := h.v8 c
    obtain ⟨d1, d2, -⟩ := h.v6 c1
    rcases hL with e | e | e | e
    · rw [e] at d1; cases d1
    · rw [e] at d2; cases d2
    · rw [e] at c1; cases c1
    · rw [e] at c2; cases c2

theorem KpJ.s0 {T E : TypeId} {a b : Value} {g1 : Nat} {need last : List Mk} {w0 : World} {L : Nat → Bool} {v : Nat → Value} {w : World} (h : KpJ T E a b g1 need last w0 L v w) (_ : L 0 = false) : KpJ T E a b g1 need last w0 (mrkL L 0) (mrkV v 0 (.pointer (some ⟨g1, 0, none⟩))) w := by
  refine ⟨h.upd, ?_, ?_, ?_, ?_, ?_, ?_, ?_, ?_, ?_⟩
  · exact fun _ => rfl
  · exact fun q => h.v1 (by simpa [mrkL] using q)
  · exact fun q => h.v2 (by simpa [mrkL] using q)
  · exact fun q => h.v3 (by simpa [mrkL] using q)
  · exact fun q => h.v4 (by simpa [mrkL] using q)
  · exact fun q => h.v5 (by simpa [mrkL] using q)
  · exact fun q => by obtain ⟨q1, q2, q3⟩ := h.v6 (by simpa [mrkL] using q); exact ⟨by simpa [mrkL] using q1, by simpa [mrkL] using q2, q3⟩
  · exact fun q => by obtain ⟨g, q1, q2, q3⟩ := h.v7 (by simpa [mrkL] using q); exact ⟨g, q1, q2, by simpa [mrkL, mrkV] using q3⟩
  · exact fun q => by obtain ⟨q1, q2⟩ := h.v8 (by simpa [mrkL] using q); exact ⟨by simpa [mrkL] using q1, by simpa [mrkL] using q2⟩

theorem KpJ.s1 {T E : TypeId} {a b : Value} {g1 : Nat} {need last : List Mk} {w0 : World} {L : Nat → Bool} {v : Nat → Value} {w : World} (h : KpJ T E a b g1 need last w0 L v w) (_ : L 1 = false) : KpJ T E a b g1 need last w0 (mrkL L 1) (mrkV v 1 a) w := by
  refine ⟨h.upd, ?_, ?_, ?_, ?_, ?_, ?_, ?_, ?_, ?_⟩
  · exact fun q => h.v0 (by simpa [mrkL] using q)
  · exact fun _ => rfl
  · exact fun q => h.v2 (by simpa [mrkL] using q)
  · exact fun q => h.v3 (by simpa [mrkL] using q)
  · exact fun q => h.v4 (by simpa [mrkL] using q)
  · exact fun q => h.v5 (by simpa [mrkL] using q)
  · exact fun q => by obtain ⟨q1, q2, q3⟩ := h.v6 (by simpa [mrkL] using q); exact ⟨by simpa [mrkL] using q1, by simpa [mrkL] using q2, q3⟩
  · exact fun q => by obtain ⟨g, q1, q2, q3⟩ := h.v7 (by simpa [mrkL] using q); exact ⟨g, q1, q2, by simpa [mrkL, mrkV] using q3⟩
  · exact fun q => by obtain ⟨q1, q2⟩ := h.v8 (by simpa [mrkL] using q); exact ⟨by simpa [mrkL] using q1, by simpa [mrkL] using q2⟩

theorem KpJ.s2 {T E : TypeId} {a b : Value} {g1 : Nat} {need last : List Mk} {w0 : World} {L : Nat → Bool} {v : Nat → Value} {w : World} (h : KpJ T E a b g1 need last w0 L v w) {w' : World} (hx : Ext w w') (hL : L 2 = false) {x : Value} (hn : w'.ownsRow w0.heap.size E 3 x need.length (flatM need)) : KpJ T E a b g1 need last w0 (mrkL L 2) (mrkV v 2 x) w' := by
  refine ⟨h.upd.ext hx, ?_, ?_, ?_, ?_, ?_, ?_, ?_, ?_, ?_⟩
  · exact fun q => h.v0 (by simpa [mrkL] using q)
  · exact fun q => h.v1 (by simpa [mrkL] using q)
  · exact fun _ => hn
  · exact fun q => h.v3 (by simpa [mrkL] using q)
  · exact fun q => h.v4 (by simpa [mrkL] using q)
  · exact fun q => (hx.ownsRow (h.v5 (by simpa [mrkL] using q)) (fun _ _ e => e))
  · exact fun q => by obtain ⟨q1, q2, q3⟩ := h.v6 (by simpa [mrkL] using q); rw [hL] at q1; cases q1
  · exact fun q => by obtain ⟨g, q1, q2, q3⟩ := h.v7 (by simpa [mrkL] using q); rw [h.no8 (.inl hL)] at q3; exact ⟨g, q1, q2, by simpa [mrkL, h.no8 (.inl hL)] using hx.at_ q3 id⟩
  · exact fun q => by obtain ⟨q1, q2⟩ := h.v8 (by simpa [mrkL] using q); exact ⟨by simpa [mrkL] using q1, by simpa [mrkL] using q2⟩

theorem KpJ.s3 {T E : TypeId} {a b : Value} {g1 : Nat} {need last : List Mk} {w0 : World} {L : Nat → Bool} {v : Nat → Value} {w : World} (h : KpJ T E a b g1 need last w0 L v w) (_ : L 3 = false) : KpJ T E a b g1 need last w0 (mrkL L 3) (mrkV v 3 (.pointer (some ⟨g1, 1, none⟩))) w := by
  refine ⟨h.upd, ?_, ?_, ?_, ?_, ?_, ?_, ?_, ?_, ?_⟩
  · exact fun q => h.v0 (by simpa [mrkL] using q)
  · exact fun q => h.v1 (by simpa [mrkL] using q)
  · exact fun q => h.v2 (by simpa [mrkL] using q)
  · exact fun _ => rfl
  · exact fun q => h.v4 (by simpa [mrkL] using q)
  · exact fun q => h.v5 (by simpa [mrkL] using q)
  · exact fun q => by obtain ⟨q1, q2, q3⟩ := h.v6 (by simpa [mrkL] using q); exact ⟨by simpa [mrkL] using q1, by simpa [mrkL] using q2, q3⟩
  · exact fun q => by obtain ⟨g, q1, q2, q3⟩ := h.v7 (by simpa [mrkL] using q); exact ⟨g, q1, q2, by simpa [mrkL, mrkV] using q3⟩
  · exact fun q => by obtain ⟨q1, q2⟩ := h.v8 (by simpa [mrkL] using q); exact ⟨by simpa [mrkL] using q1, by simpa [mrkL] using q2⟩

theorem KpJ.s4 {T E : TypeId} {a b : Value} {g1 : Nat} {need last : List Mk} {w0 : World} {L : Nat → Bool} {v : Nat → Value} {w : World} (h : KpJ T E a b g1 need last w0 L v w) (_ : L 4 = false) : KpJ T E a b g1 need last w0 (mrkL L 4) (mrkV v 4 b) w := by
  refine ⟨h.upd, ?_, ?_, ?_, ?_, ?_, ?_, ?_, ?_, ?_⟩
  · exact fun q => h.v0 (by simpa [mrkL] using q)
  · exact fun q => h.v1 (by simpa [mrkL] using q)
  · exact fun q => h.v2 (by simpa [mrkL] using q)
  · exact fun q => h.v3 (by simpa [mrkL] using q)
  · exact fun _ => rfl
  · exact fun q => h.v5 (by simpa [mrkL] using q)
  · exact fun q => by obtain ⟨q1, q2, q3⟩ := h.v6 (by simpa [mrkL] using q); exact ⟨by simpa [mrkL] using q1, by simpa [mrkL] using q2, q3⟩
  · exact fun q => by obtain ⟨g, q1, q2, q3⟩ := h.v7 (by simpa [mrkL] using q); exact ⟨g, q1, q2, by simpa [mrkL, mrkV] using q3⟩
  · exact fun q => by obtain ⟨q1, q2⟩ := h.v8 (by simpa [mrkL] using q); exact ⟨by simpa [mrkL] using q1, by simpa [mrkL] using q2⟩

theorem KpJ.s5 {T E : TypeId} {a b : Value} {g1 : Nat} {need last : List Mk} {w0 : World} {L : Nat → Bool} {v : Nat → Value} {w : World} (h : KpJ T E a b g1 need last w0 L v w) {w' : World} (hx : Ext w w') (hL : L 5 = false) {x : Value} (hn : w'.ownsRow w0.heap.size E 3 x last.length (flatM last)) : KpJ T E a b g1 need last w0 (mrkL L 5) (mrkV v 5 x) w' := by
  refine ⟨h.upd.ext hx, ?_, ?_, ?_, ?_, ?_, ?_, ?_, ?_, ?_⟩
  · exact fun q => h.v0 (by simpa [mrkL] using q)
  · exact fun q => h.v1 (by simpa [mrkL] using q)
  · exact fun q => (hx.ownsRow (h.v2 (by simpa [mrkL] using q)) (fun _ _ e => e))
  · exact fun q => h.v3 (by simpa [mrkL] using q)
  · exact fun q => h.v4 (by simpa [mrkL] using q)
  · exact fun _ => hn
  · exact fun q => by obtain ⟨q1, q2, q3⟩ := h.v6 (by simpa [mrkL] using q); rw [hL] at q2; cases q2
  · exact fun q => by obtain ⟨g, q1, q2, q3⟩ := h.v7 (by simpa [mrkL] using q); rw [h.no8 (.inr (.inl hL))] at q3; exact ⟨g, q1, q2, by simpa [mrkL, h.no8 (.inr (.inl hL))] using hx.at_ q3 id⟩
  · exact fun q => by obtain ⟨q1, q2⟩ := h.v8 (by simpa [mrkL] using q); exact ⟨by simpa [mrkL] using q1, by simpa [mrkL] using q2⟩

theorem KpJ.s6 {T E : TypeId} {a b : Value} {g1 : Nat} {need last : List Mk} {w0 : World} {L : Nat → Bool} {v : Nat → Value} {w : World} (h : KpJ T E a b g1 need last w0 L v w) (hL : L 6 = false) (h2 : L 2 = true) (h5 : L 5 = true) : KpJ T E a b g1 need last w0 (mrkL L 6) (mrkV v 6 (.agg (kpOf (v 2) (v 5)))) w := by
  refine ⟨h.upd, ?_, ?_, ?_, ?_, ?_, ?_, ?_, ?_, ?_⟩
  · exact fun q => h.v0 (by simpa [mrkL] using q)
  · exact fun q => h.v1 (by simpa [mrkL] using q)
  · exact fun q => h.v2 (by simpa [mrkL] using q)
  · exact fun q => h.v3 (by simpa [mrkL] using q)
  · exact fun q => h.v4 (by simpa [mrkL] using q)
  · exact fun q => h.v5 (by simpa [mrkL] using q)
  · exact fun _ => ⟨by simpa [mrkL] using h2, by simpa [mrkL] using h5, rfl⟩
  · exact fun q => by obtain ⟨g, q1, q2, q3⟩ := h.v7 (by simpa [mrkL] using q); exact ⟨g, q1, q2, by simpa [mrkL, mrkV] using q3⟩
  · exact fun q => by obtain ⟨q1, q2⟩ := h.v8 (by simpa [mrkL] using q); rw [hL] at q1; cases q1

theorem KpJ.s7 {T E : TypeId} {a b : Value} {g1 : Nat} {need last : List Mk} {w0 : World} {L : Nat → Bool} {v : Nat → Value} {w : World} (h : KpJ T E a b g1 need last w0 L v w) {w' : World} (hx : Ext w w') (hL : L 7 = false) {g : Nat} (hg : w0.heap.size ≤ g) (hb : w'.heap[g]? = some (.cells kpZero T (0, 0))) : KpJ T E a b g1 need last w0 (mrkL L 7) (mrkV v 7 (.pointer (some ⟨g, 0, none⟩))) w' := by
  refine ⟨h.upd.ext hx, ?_, ?_, ?_, ?_, ?_, ?_, ?_, ?_, ?_⟩
  · exact fun q => h.v0 (by simpa [mrkL] using q)
  · exact fun q => h.v1 (by simpa [mrkL] using q)
  · exact fun q => (hx.ownsRow (h.v2 (by simpa [mrkL] using q)) (fun _ _ e => e))
  · exact fun q => h.v3 (by simpa [mrkL] using q)
  · exact fun q => h.v4 (by simpa [mrkL] using q)
  · exact fun q => (hx.ownsRow (h.v5 (by simpa [mrkL] using q)) (fun _ _ e => e))
  · exact fun q => by obtain ⟨q1, q2, q3⟩ := h.v6 (by simpa [mrkL] using q); exact ⟨by simpa [mrkL] using q1, by simpa [mrkL] using q2, q3⟩
  · exact fun _ => ⟨g, rfl, hg, by simpa [mrkL, h.no8 (.inr (.inr (.inr hL)))] using hb⟩
  · exact fun q => by obtain ⟨q1, q2⟩ := h.v8 (by simpa [mrkL] using q); rw [hL] at q2; cases q2

theorem KpJ.s8 {T E : TypeId} {a b : Value} {g1 : Nat} {need last : List Mk} {w0 : World} {L : Nat → Bool} {v : Nat → Value} {w : World} (h : KpJ T E a b g1 need last w0 L v w) (h6 : L 6 = true) (h7 : L 7 = true) {g : Nat} (hv : v 7 = .pointer (some ⟨g, 0, none⟩)) (hg : w0.heap.size ≤ g)
    {cur : Array Value} (ho : w.heap[g]? = some (.cells cur T (0, 0))) {w' : World} (hu : Upd (At g) w w') (hb : w'.heap[g]? = some (.cells (kpOf (v 2) (v 5)) T (0, 0))) (hTE : T ≠ E) (x : Value) : KpJ T E a b g1 need last w0 (mrkL L 8) (mrkV v 8 x) w' := by
  have hE : ∀ k cur, At g k → w.heap[k]? ≠ some (.cells cur E (0, 0)) := fun k cur hk hh => by
    have : k = g := hk
    subst this
    rw [ho] at hh
    cases hh; exact hTE rfl
  refine ⟨h.upd.step hu (fun i _ e => by unfold At at e; unfold From; omega), ?_, ?_, ?_, ?_, ?_, ?_, ?_, ?_, ?_⟩
  · exact fun q => h.v0 (by simpa [mrkL] using q)
  · exact fun q => h.v1 (by simpa [mrkL] using q)
  · exact fun q => hu.ownsT (h.v2 (by simpa [mrkL] using q)) hE
  · exact fun q => h.v3 (by simpa [mrkL] using q)
  · exact fun q => h.v4 (by simpa [mrkL] using q)
  · exact fun q => hu.ownsT (h.v5 (by simpa [mrkL] using q)) hE
  · exact fun q => by obtain ⟨q1, q2, q3⟩ := h.v6 (by simpa [mrkL] using q); exact ⟨by simpa [mrkL] using q1, by simpa [mrkL] using q2, q3⟩
  · exact fun _ => ⟨g, hv, hg, by simpa [mrkL, mrkV] using hb⟩
  · exact fun _ => ⟨by simpa [mrkL] using h6, by simpa [mrkL] using h7⟩
def ykDst (i : Nat) : Tmp := if i = 7 then 3 else if i = 8 then 1008 else 4 + i

end Go.Proofs.YtfpioijfocmfcaaGreatDoor
