/-
  CONTRACTS of op.Chain and ref19.Chain.
-/
import Derived.Test.YtlhpcgmbbeihiaaDoorME
import Derived.Test.YtlhpcgmbbeihiaaDoorDSame1
namespace Go.Proofs.YtlhpcgmbbeihiaaDoor
open Go.RowKit

def chainF (o : Oper') : Int := if 6 ≤ o.kind ∧ o.kind ≤ 17 then o.doc else 0
theorem boxCells (w : World) (o : Oper') (v : Value) (T : TypeId) : (w.alloc (.cells (opCells o v) T)).cell? ⟨w.heap.size, 0, none⟩ = some (.int .u8 o.kind) ∧ (w.alloc (.cells (opCells o v) T)).cell? ⟨w.heap.size, 1, none⟩ = some (.int .u64 o.doc) :=
  ⟨cellAt (newAt _ _) 0 _ rfl, cellAt (newAt _ _) 1 _ rfl⟩

set_option maxRecDepth 100000 in
set_option maxHeartbeats 1000000 in
theorem chain_any (w : World) (o : Oper') (v : Value) (hv : ∃ a n c, v = .slice a n c) :
    Calls Tryd.prog 21 #[.agg (opCells o v)] w fun e w' => e = .returned (.int .u64 (chainF o)) ∧ Ext w w' := by
  obtain ⟨a, n, c, rfl⟩ := hv
  have hx : Ext w (w.alloc (.cells (opCells o (.slice a n c)) 25)) := (Upd.refl _ _).alloc _
  have HX := Lib.hid hx
  clear hx
  by_cases h6 : o.kind < 6
  · have HQ := Lib.hid (show chainF o = 0 from by rw [chainF, if_neg (by omega)])
    have d1 : decide (o.kind < 6) = true := by simpa using h6
    simp only [opCells] at HX ⊢
    go_enter Tryd.func21, Tryd.ntmps21
    go_wp2
    go_ret
    exact ⟨by rw [HQ.out]; rfl, HX.out⟩
  · have d1 : decide (o.kind < 6) = false := by simpa using h6
    simp only [opCells] at HX ⊢
    go_enter Tryd.func21, Tryd.ntmps21
    go_wp2_with (go_at_call 40; fail)
    refine (known_any _ o.kind).mono ?_
    rintro e w1 ⟨rfl, rfl⟩
    by_cases hk : o.kind ≤ 17
    · have HQ := Lib.hid (show chainF o = o.doc from by rw [chainF, if_pos (by omega)])
      rw [show (decide (1 ≤ o.kind) && decide (o.kind ≤ 17)) = true from by simp; omega]
      clear hk h6
      go_wp2
      go_ret
      exact ⟨by rw [HQ.out]; rfl, HX.out⟩
    · have HQ := Lib.hid (show chainF o = 0 from by rw [chainF, if_neg (by omega)])
      rw [show (decide (1 ≤ o.kind) && decide (o.kind ≤ 17)) = false from by simp; omega]
      clear hk h6
      go_wp2
      go_ret
      exact ⟨by rw [HQ.out]; rfl, HX.out⟩

set_option maxRecDepth 100000 in
set_option maxHeartbeats 1000000 in
theorem rchain_any (w : World) (o : Oper') (v : Value) (hv : ∃ a n c, v = .slice a n c) :
    Calls Tryd.prog 22 #[.agg (opCells o v)] w fun e w' => e = .returned (.int .u64 (chainF o)) ∧ Ext w w' := by
  obtain ⟨a, n, c, rfl⟩ := hv
  have hx : Ext w (w.alloc (.cells (opCells o (.slice a n c)) 36)) := (Upd.refl _ _).alloc _
  have HX := Lib.hid hx
  clear hx
  by_cases h6 : 6 ≤ o.kind
  · by_cases hk : o.kind ≤ 17
    · have HQ := Lib.hid (show chainF o = o.doc from by rw [chainF, if_pos (by omega)])
      have d1 : decide (6 ≤ o.kind) = true := by simpa using h6
      have d2 : decide (o.kind ≤ 17) = true := by simpa using hk
      simp only [opCells] at HX ⊢
      go_enter Tryd.func22, Tryd.ntmps22
      go_wp2
      go_ret
      exact ⟨by rw [HQ.out]; rfl, HX.out⟩
    · have HQ := Lib.hid (show chainF o = 0 from by rw [chainF, if_neg (by omega)])
      have d1 : decide (6 ≤ o.kind) = true := by simpa using h6
      have d2 : decide (o.kind ≤ 17) = false := by simpa using hk
      simp only [opCells] at HX ⊢
      go_enter Tryd.func22, Tryd.ntmps22
      go_wp2
      go_ret
      exact ⟨by rw [HQ.out]; rfl, HX.out⟩
  · have HQ := Lib.hid (show chainF o = 0 from by rw [chainF, if_neg (by omega)])
    have d1 : decide (6 ≤ o.kind) = false := by simpa using h6
    simp only [opCells] at HX ⊢
    go_enter Tryd.func22, Tryd.ntmps22
    go_wp2
    go_ret
    exact ⟨by rw [HQ.out]; rfl, HX.out⟩
end Go.Proofs.YtlhpcgmbbeihiaaDoor
