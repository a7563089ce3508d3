/-
  CONTRACTS of the writer's method event, kind by kind. By program (gen/wr5.py).
-/
import Derived.Test.YtlhpcgmbbeihiaaWr4
import Derived.Test.YtlhpcgmbbeihiaaLaw2
namespace Go.Proofs.Ytlhpcgmbbeihiaa
open Go.RowKit

def ecap (x : Ev) : Nat := 10 + 4 * ocap x.op
def EvWf (x : Ev) : Prop := 0 ≤ x.kind ∧ x.kind ≤ 255 ∧ WfOp x.op
/-- All cells of a block of an event. -/
theorem blk_cells {w : World} {b : Nat} {x : Ev} {v u : Value} {T : TypeId} {fr : Nat × Nat} (h : w.heap[b]? = some (.cells (evCells x v u) T fr)) : w.cell? ⟨b, 0, none⟩ = some (.int .u8 x.kind) ∧ w.cell? ⟨b, 1, none⟩ = some (.int .i64 x.proc) ∧ w.cell? ⟨b, 2, none⟩ = some (.int .u8 x.op.kind) ∧ w.cell? ⟨b, 3, none⟩ = some (.int .u64 x.op.doc) ∧ w.cell? ⟨b, 4, none⟩ = some (str x.op.name) ∧ w.cell? ⟨b, 5, none⟩ = some (str x.op.to) ∧ w.cell? ⟨b, 6, none⟩ = some (str x.op.text) ∧ w.cell? ⟨b, 7, none⟩ = some (v) ∧ w.cell? ⟨b, 8, none⟩ = some (.int .u64 x.op.epoch) ∧ w.cell? ⟨b, 9, none⟩ = some (.int .u64 x.op.version) ∧ w.cell? ⟨b, 10, none⟩ = some (.int .u64 x.op.dur) ∧ w.cell? ⟨b, 11, none⟩ = some (.int .u64 x.by_) ∧ w.cell? ⟨b, 12, none⟩ = some (.int .i64 x.ops) ∧ w.cell? ⟨b, 13, none⟩ = some (u) :=
  ⟨cellAt h 0 _ rfl, cellAt h 1 _ rfl, cellAt h 2 _ rfl, cellAt h 3 _ rfl, cellAt h 4 _ rfl, cellAt h 5 _ rfl, cellAt h 6 _ rfl, cellAt h 7 _ rfl, cellAt h 8 _ rfl, cellAt h 9 _ rfl, cellAt h 10 _ rfl, cellAt h 11 _ rfl, cellAt h 12 _ rfl, cellAt h 13 _ rfl⟩
def EventWPost (B r : Nat) (n : Int) (s : WSt) (x : Ev) (w : World) (e : Ending) (w' : World) : Prop := e = .returned (.tuple #[]) ∧ Writer B w' r (eventW n s x) ∧ Upd (WS B r w) w w'

theorem eventW1 (n proc : Int) (op : Oper') (by_ ops : Int) (keep : List Bool) (s : WSt) : eventW n s ⟨1, proc, op, by_, ops, keep⟩ = ((putF proc n s).1, (putF proc n s).2 || decide (⟨1, proc, op, by_, ops, keep⟩ ≠ (Ev.zero 1 proc))) := by
  simp [eventW, blankOf, Ev.zero]
theorem eventW4 (n proc : Int) (op : Oper') (by_ ops : Int) (keep : List Bool) (s : WSt) : eventW n s ⟨4, proc, op, by_, ops, keep⟩ = ((putF proc n (putF 192 256 s)).1, (putF proc n (putF 192 256 s)).2 || decide (⟨4, proc, op, by_, ops, keep⟩ ≠ (Ev.zero 4 proc))) := by
  simp [eventW, blankOf, Ev.zero]
theorem eventW5 (n proc : Int) (op : Oper') (by_ ops : Int) (keep : List Bool) (s : WSt) : eventW n s ⟨5, proc, op, by_, ops, keep⟩ = ((putF proc n (putF 193 256 s)).1, (putF proc n (putF 193 256 s)).2 || decide (⟨5, proc, op, by_, ops, keep⟩ ≠ (Ev.zero 5 proc))) := by
  simp [eventW, blankOf, Ev.zero]
theorem eventW3 (n proc : Int) (op : Oper') (by_ ops : Int) (keep : List Bool) (s : WSt) : eventW n s ⟨3, proc, op, by_, ops, keep⟩ = ((numberF by_ 256 (putF proc n (putF 196 256 s))).1, (numberF by_ 256 (putF proc n (putF 196 256 s))).2 || decide (⟨3, proc, op, by_, ops, keep⟩ ≠ (⟨3, proc, Oper'.zero 0, by_, 0, []⟩ : Ev))) := by
  simp [eventW, blankOf]
theorem eventW2 (n proc : Int) (op : Oper') (by_ ops : Int) (keep : List Bool) (s : WSt) : eventW n s ⟨2, proc, op, by_, ops, keep⟩ = ((opW op (putF proc n (putF 195 256 s))).1, (opW op (putF proc n (putF 195 256 s))).2 || decide (⟨2, proc, op, by_, ops, keep⟩ ≠ (⟨2, proc, op, 0, 0, []⟩ : Ev))) := by
  simp [eventW, blankOf]

set_option maxRecDepth 100000 in
set_option maxHeartbeats 4000000 in
theorem event1 {B : Nat} (w : World) (r : Nat) (x : Ev) (n : Int) (v u : Value) (s : WSt) (h : Writer B w r s) (hv : Row (Till B) w v x.op.edits.length (editCells x.op.edits)) (hu : Row (Till B) w u x.keep.length (bools x.keep)) (hwf : EvWf x) (hl : s.1.length + ecap x < 70368744170000) (hk : x.kind = 1) :
    Calls Try.prog 36 #[.pointer (some ⟨r, 0, none⟩), .agg (evCells x v u), .int .i64 n] w (EventWPost B r n s x w) := by
  have hbx := newAt w (.cells (evCells x v u) 44)
  have hux : Ext w (w.alloc (.cells (evCells x v u) 44)) := (Upd.refl _ _).alloc _
  obtain ⟨wa, hwa⟩ : ∃ wa, wa = w.alloc (.cells (evCells x v u) 44) := ⟨_, rfl⟩
  rw [← hwa] at hbx hux
  have hrw := h.lt
  have hsza : wa.heap.size = w.heap.size + 1 := by rw [hwa]; simp
  have HBr := Lib.hid h.1
  have HV := Lib.hid (hv.ext hux)
  have HKP := Lib.hid (hu.ext hux)
  have HW := Lib.hid (h.ext hux)
  have HU := Lib.hid (show Upd (WS B r w) w wa from hux.mono (fun _ _ e => e.elim))
  have HWF := Lib.hid hwf
  have hop : ecap x = 10 + 4 * ocap x.op := rfl
  obtain ⟨kind, proc, op, by_, ops, keep⟩ := x
  dsimp only at hk hop hv hu HV HKP
  subst hk
  obtain ⟨va, vc, rfl, -, -, -⟩ := hv
  obtain ⟨ua, uc, rfl, hun, hum, -⟩ := hu
  unfold maxLen at hum
  have HBX := Lib.hid hbx
  have HWA := Lib.hid hwa
  have hrb : ¬ r = w.heap.size := by omega
  have hbr : ¬ w.heap.size = r := by omega
  have HSZ := Lib.hid hsza
  clear h hux hwf hwa hbx hsza
  simp only [evCells]
  go_enter Try.func36, Try.ntmps36
  go_wp2_with fail
  rw [show w.alloc (.cells #[.int .u8 1, .int .i64 proc, .int .u8 op.kind, .int .u64 op.doc, str op.name, str op.to, str op.text, .slice va op.edits.length vc, .int .u64 op.epoch, .int .u64 op.version, .int .u64 op.dur, .int .u64 by_, .int .i64 ops, .slice ua keep.length uc] 44) = wa from HWA.out.symm]
  obtain ⟨z0, z1, z2, z3, z4, z5, z6, z7, z8, z9, z10, z11, z12, z13⟩ := blk_cells HBX.out
  go_wp2_with (go_at_call 34; fail)
  refine (put_any _ r proc n _ HW.out (by omega)).mono ?_
  rintro e v1 ⟨rfl, hw, hu⟩
  have HW1 := Lib.hid hw
  have HU1 := Lib.hid (WS.trans HU.out hu)
  have HB1 := Lib.hid (WS.at_ hu HBX.out (by decide) (by omega))
  have HV1 := Lib.hid (WS.row hu HBr.out HV.out)
  have HK1 := Lib.hid (WS.row hu HBr.out HKP.out)
  clear hw hu z0 z1 z2 z3 z4 z5 z6 z7 z8 z9 z10 z11 z12 z13
  obtain ⟨z0, z1, z2, z3, z4, z5, z6, z7, z8, z9, z10, z11, z12, z13⟩ := blk_cells HB1.out
  obtain ⟨st, hst⟩ : ∃ st, st = putF proc n s := ⟨_, rfl⟩
  rw [← hst] at HW1
  have HST := Lib.hid hst
  clear hst
  obtain ⟨sb, bad⟩ := st
  obtain ⟨-, -, gv, g2, -⟩ := HW1.out
  have G2 := Lib.hid g2
  have y1 := cellAt g2 1 (.bool bad) rfl
  have f1 := freeAt g2 1
  have hrl := lt_of_heap g2
  have hbl := lt_of_heap HB1.out
  clear g2
  cases bad with
  | true =>
    obtain ⟨hw2, hu2⟩ := HW1.out.bad true
    have HWt := Lib.hid hw2
    have HUt := Lib.hid (WS.trans HU1.out hu2)
    clear hw2 hu2
    go_wp2
    go_end0
    refine ⟨rfl, ?_, ?_⟩
    · rw [show eventW n s ⟨1, proc, op, by_, ops, keep⟩ = (sb, true) from by rw [eventW1, ← HST.out]; simp]
      exact HWt.out.ext ((Upd.refl _ _).alloc _)
    · exact HUt.out.ext ((Upd.refl _ _).alloc _)
  | false =>
    go_wp2_with (go_at_call 22; fail)
    have hal : Ext v1 (v1.alloc (.cells (evCells (Ev.zero 1 proc) nilS nilS) 44)) := (Upd.refl _ _).alloc _
    have HAL := Lib.hid hal
    refine (scriptSame_any _ ⟨1, proc, op, by_, ops, keep⟩ (Ev.zero 1 proc) (.slice va op.edits.length vc) nilS (.slice ua keep.length uc) nilS (HV1.out.ext hal) (Row.nil Nothing _) (HK1.out.ext hal) (Row.nil Nothing _)).mono ?_
    rintro e w3 ⟨rfl, hu3⟩
    have hx3 := hal.trans hu3
    have g3 := hx3.at_ G2.out id
    have y1 := cellAt g3 1 (.bool false) rfl
    have f1 := freeAt g3 1
    obtain ⟨hw4, hu4⟩ := (HW1.out.ext hx3).bad (!eqB ⟨1, proc, op, by_, ops, keep⟩ (Ev.zero 1 proc))
    have HWu := Lib.hid hw4
    have HUu := Lib.hid (WS.trans HU1.out (WS.ext hx3 hu4))
    clear hal hu3 hx3 g3 hw4 hu4 z0 z1 z2 z3 z4 z5 z6 z7 z8 z9 z10 z11 z12 z13
    go_wp2
    go_end0
    refine ⟨rfl, ?_, HUu.out⟩
    rw [show eventW n s ⟨1, proc, op, by_, ops, keep⟩ = (sb, !eqB ⟨1, proc, op, by_, ops, keep⟩ (Ev.zero 1 proc)) from by rw [eventW1, ← HST.out]; simp [eqB]]
    exact HWu.out
end Go.Proofs.Ytlhpcgmbbeihiaa
