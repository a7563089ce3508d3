/-
  CONTRACTS of the writer's method event: power, and kinds that there are not. By program (gen/wr5.py).
-/
import Derived.Test.YtlhpcgmbbeihiaaWr6
import Derived.Test.YtlhpcgmbbeihiaaWr7
import Derived.Test.YtlhpcgmbbeihiaaWr8
namespace Go.Proofs.Ytlhpcgmbbeihiaa
open Go.RowKit

set_option maxRecDepth 100000 in
set_option maxHeartbeats 4000000 in
theorem event0 {B : Nat} (w : World) (r : Nat) (x : Ev) (n : Int) (v u : Value) (s : WSt) (h : Writer B w r s) (hv : Row (Till B) w v x.op.edits.length (editCells x.op.edits)) (hu : Row (Till B) w u x.keep.length (bools x.keep)) (hwf : EvWf x) (hl : s.1.length + ecap x < 70368744170000) (kd : Int) (hkd : kd < 1 ∨ 6 < kd) (hk : x.kind = kd) :
    Calls Try.prog 36 #[.pointer (some ⟨r, 0, none⟩), .agg (evCells x v u), .int .i64 n] w (EventWPost B r n s x w) := by
  have hbx := newAt w (.cells (evCells x v u) 44)
  have hux : Ext w (w.alloc (.cells (evCells x v u) 44)) := (Upd.refl _ _).alloc _
  obtain ⟨wa, hwa⟩ : ∃ wa, wa = w.alloc (.cells (evCells x v u) 44) := ⟨_, rfl⟩
  rw [← hwa] at hbx hux
  have hrw := h.lt
  have hsza : wa.heap.size = w.heap.size + 1 := by rw [hwa]; simp
  have HBr := Lib.hid h.1
  have HV := Lib.hid (hv.ext hux)
  have HKP := Lib.hid (hu.ext hux)
  have HW := Lib.hid (h.ext hux)
  have HU := Lib.hid (show Upd (WS B r w) w wa from hux.mono (fun _ _ e => e.elim))
  have HWF := Lib.hid hwf
  have hop : ecap x = 10 + 4 * ocap x.op := rfl
  obtain ⟨kind, proc, op, by_, ops, keep⟩ := x
  dsimp only at hk hop hv hu HV HKP
  subst hk
  have HKD := Lib.hid hkd
  have hrange := hwf.1
  have hrange2 := hwf.2.1
  dsimp only at hrange hrange2
  obtain ⟨va, vc, rfl, -, -, -⟩ := hv
  obtain ⟨ua, uc, rfl, hun, hum, -⟩ := hu
  unfold maxLen at hum
  have HBX := Lib.hid hbx
  have HWA := Lib.hid hwa
  have hrb : ¬ r = w.heap.size := by omega
  have hbr : ¬ w.heap.size = r := by omega
  have HSZ := Lib.hid hsza
  obtain ⟨hw2, hu2⟩ := h.bad true
  have HWt := Lib.hid hw2
  have HUt := Lib.hid hu2
  obtain ⟨-, -, gv, g2, -⟩ := h
  have y1 := cellAt g2 1 (.bool s.2) rfl
  have f1 := freeAt g2 1
  clear hux hwf hwa hbx hsza hw2 hu2 g2
  simp only [evCells]
  go_enter Try.func36, Try.ntmps36
  rcases hkd with hlo | hhi
  · have d1 : decide (kind < 1) = true := by simpa using hlo
    go_wp2
    refine bodyPost_ret (results_none rfl _ _ _) rfl ?_
    refine ⟨rfl, ?_, HUt.out.ext ((Upd.refl _ _).alloc _)⟩
    rw [show eventW n s ⟨kind, proc, op, by_, ops, keep⟩ = (s.1, true) from by rw [eventW, if_pos HKD.out]]
    exact HWt.out.ext ((Upd.refl _ _).alloc _)
  · have d1 : decide (kind < 1) = false := by simp; omega
    have d2 : decide (6 < kind) = true := by simpa using hhi
    go_wp2
    refine bodyPost_ret (results_none rfl _ _ _) rfl ?_
    refine ⟨rfl, ?_, HUt.out.ext ((Upd.refl _ _).alloc _)⟩
    rw [show eventW n s ⟨kind, proc, op, by_, ops, keep⟩ = (s.1, true) from by rw [eventW, if_pos HKD.out]]
    exact HWt.out.ext ((Upd.refl _ _).alloc _)

theorem event_any' {B : Nat} (w : World) (r : Nat) (x : Ev) (n : Int) (v u : Value) (s : WSt) (h : Writer B w r s) (hv : Row (Till B) w v x.op.edits.length (editCells x.op.edits)) (hu : Row (Till B) w u x.keep.length (bools x.keep)) (hwf : EvWf x) (hl : s.1.length + ecap x < 70368744170000) :
    Calls Try.prog 36 #[.pointer (some ⟨r, 0, none⟩), .agg (evCells x v u), .int .i64 n] w (EventWPost B r n s x w) := by
  have hk : x.kind = 1 ∨ x.kind = 2 ∨ x.kind = 3 ∨ x.kind = 4 ∨ x.kind = 5 ∨ x.kind = 6 ∨ (x.kind < 1 ∨ 6 < x.kind) := by omega
  rcases hk with hk | hk | hk | hk | hk | hk | hk
  · exact event1 w r x n v u s h hv hu hwf hl hk
  · exact event2 w r x n v u s h hv hu hwf hl hk
  · exact event3 w r x n v u s h hv hu hwf hl hk
  · exact event4 w r x n v u s h hv hu hwf hl hk
  · exact event5 w r x n v u s h hv hu hwf hl hk
  · exact event6 w r x n v u s h hv hu hwf hl hk
  · exact event0 w r x n v u s h hv hu hwf hl x.kind hk rfl
end Go.Proofs.Ytlhpcgmbbeihiaa
