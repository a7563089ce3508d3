/-
  CONTRACTS of the writer's method event, kind by kind. By program (gen/wr5.py).
-/
import Derived.Test.YtlhpcgmbbeihiaaWr5
namespace Go.Proofs.Ytlhpcgmbbeihiaa
open Go.RowKit

set_option maxRecDepth 100000 in
set_option maxHeartbeats 4000000 in
theorem event3 {B : Nat} (w : World) (r : Nat) (x : Ev) (n : Int) (v u : Value) (s : WSt) (h : Writer B w r s) (hv : Row (Till B) w v x.op.edits.length (editCells x.op.edits)) (hu : Row (Till B) w u x.keep.length (bools x.keep)) (hwf : EvWf x) (hl : s.1.length + ecap x < 70368744170000) (hk : x.kind = 3) :
    Calls Try.prog 36 #[.pointer (some ⟨r, 0, none⟩), .agg (evCells x v u), .int .i64 n] w (EventWPost B r n s x w) := by
  have hbx := newAt w (.cells (evCells x v u) 44)
  have hux : Ext w (w.alloc (.cells (evCells x v u) 44)) := (Upd.refl _ _).alloc _
  obtain ⟨wa, hwa⟩ : ∃ wa, wa = w.alloc (.cells (evCells x v u) 44) := ⟨_, rfl⟩
  rw [← hwa] at hbx hux
  have hrw := h.lt
  have hsza : wa.heap.size = w.heap.size + 1 := by rw [hwa]; simp
  have HBr := Lib.hid h.1
  have HV := Lib.hid (hv.ext hux)
  have HKP := Lib.hid (hu.ext hux)
  have HW := Lib.hid (h.ext hux)
  have HU := Lib.hid (show Upd (WS B r w) w wa from hux.mono (fun _ _ e => e.elim))
  have HWF := Lib.hid hwf
  have hop : ecap x = 10 + 4 * ocap x.op := rfl
  obtain ⟨kind, proc, op, by_, ops, keep⟩ := x
  dsimp only at hk hop hv hu HV HKP
  subst hk
  obtain ⟨va, vc, rfl, -, -, -⟩ := hv
  obtain ⟨ua, uc, rfl, hun, hum, -⟩ := hu
  unfold maxLen at hum
  have HBX := Lib.hid hbx
  have HWA := Lib.hid hwa
  have hrb : ¬ r = w.heap.size := by omega
  have hbr : ¬ w.heap.size = r := by omega
  have HSZ := Lib.hid hsza
  clear h hux hwf hwa hbx hsza
  simp only [evCells]
  go_enter Try.func36, Try.ntmps36
  go_wp2_with fail
  rw [show w.alloc (.cells #[.int .u8 3, .int .i64 proc, .int .u8 op.kind, .int .u64 op.doc, str op.name, str op.to, str op.text, .slice va op.edits.length vc, .int .u64 op.epoch, .int .u64 op.version, .int .u64 op.dur, .int .u64 by_, .int .i64 ops, .slice ua keep.length uc] 44) = wa from HWA.out.symm]
  obtain ⟨z0, z1, z2, z3, z4, z5, z6, z7, z8, z9, z10, z11, z12, z13⟩ := blk_cells HBX.out
  go_wp2
  go_loopw [6] (fun i wr => ∃ m : Int, 192 ≤ m ∧ m ≤ 196 ∧ i = .int .i64 m ∧ wr = wa) (fun i _ => 300 - (intOf i).toNat)
  case atStart => exact ⟨192, by omega, by omega, rfl, rfl⟩
  case round =>
    obtain ⟨m, hm0, hm1, rfl, hwr⟩ := hrel
    rw [hwr]
    clear hwr
    have hmm : m = 192 ∨ m = 193 ∨ m = 194 ∨ m = 195 ∨ m = 196 := by omega
    clear hm0 hm1
    rcases hmm with rfl | rfl | rfl | rfl | rfl
    · go_wp2
      go_roundw
      case rel => exact ⟨193, by omega, by omega, (by first | rfl | trivial), (by first | rfl | trivial)⟩
      case measure => simp [intOf]
    · go_wp2
      go_roundw
      case rel => exact ⟨194, by omega, by omega, (by first | rfl | trivial), (by first | rfl | trivial)⟩
      case measure => simp [intOf]
    · go_wp2
      go_roundw
      case rel => exact ⟨195, by omega, by omega, (by first | rfl | trivial), (by first | rfl | trivial)⟩
      case measure => simp [intOf]
    · go_wp2
      go_roundw
      case rel => exact ⟨196, by omega, by omega, (by first | rfl | trivial), (by first | rfl | trivial)⟩
      case measure => simp [intOf]
    · go_wp2_with (go_at_call 34; fail)
      refine (put_any _ r 196 256 _ HW.out (by omega)).mono ?_
      rintro e v1 ⟨rfl, hw, hu⟩
      have HW1 := Lib.hid hw
      have HU1 := Lib.hid (WS.trans HU.out hu)
      have HB1 := Lib.hid (WS.at_ hu HBX.out (by decide) (by omega))
      have HV1 := Lib.hid (WS.row hu HBr.out HV.out)
      have HK1 := Lib.hid (WS.row hu HBr.out HKP.out)
      clear hw hu z0 z1 z2 z3 z4 z5 z6 z7 z8 z9 z10 z11 z12 z13
      obtain ⟨z0, z1, z2, z3, z4, z5, z6, z7, z8, z9, z10, z11, z12, z13⟩ := blk_cells HB1.out
      go_wp2_with (go_at_call 34; fail)
      refine (put_any _ r proc n _ HW1.out (by simp [putF]; omega)).mono ?_
      rintro e v2 ⟨rfl, hw, hu⟩
      have HW2 := Lib.hid hw
      have HU2 := Lib.hid (WS.trans HU1.out hu)
      have HB2 := Lib.hid (WS.at_ hu HB1.out (by decide) (by omega))
      have HV2 := Lib.hid (WS.row hu HBr.out HV1.out)
      have HK2 := Lib.hid (WS.row hu HBr.out HK1.out)
      clear hw hu z0 z1 z2 z3 z4 z5 z6 z7 z8 z9 z10 z11 z12 z13
      obtain ⟨z0, z1, z2, z3, z4, z5, z6, z7, z8, z9, z10, z11, z12, z13⟩ := blk_cells HB2.out
      go_wp2_with (go_at_call 35; fail)
      refine (number_any _ r by_ 256 _ HW2.out (by simp [putF]; omega)).mono ?_
      rintro e v3 ⟨rfl, hw, hu⟩
      have HW3 := Lib.hid hw
      have HU3 := Lib.hid (WS.trans HU2.out hu)
      have HB3 := Lib.hid (WS.at_ hu HB2.out (by decide) (by omega))
      have HV3 := Lib.hid (WS.row hu HBr.out HV2.out)
      have HK3 := Lib.hid (WS.row hu HBr.out HK2.out)
      clear hw hu z0 z1 z2 z3 z4 z5 z6 z7 z8 z9 z10 z11 z12 z13
      obtain ⟨z0, z1, z2, z3, z4, z5, z6, z7, z8, z9, z10, z11, z12, z13⟩ := blk_cells HB3.out
      obtain ⟨st, hst⟩ : ∃ st, st = numberF by_ 256 (putF proc n (putF 196 256 s)) := ⟨_, rfl⟩
      rw [← hst] at HW3
      have HST := Lib.hid hst
      clear hst
      obtain ⟨sb, bad⟩ := st
      obtain ⟨-, -, gv, g2, -⟩ := HW3.out
      have G2 := Lib.hid g2
      have y1 := cellAt g2 1 (.bool bad) rfl
      have f1 := freeAt g2 1
      have hrl := lt_of_heap g2
      have hbl := lt_of_heap HB3.out
      clear g2
      cases bad with
      | true =>
        obtain ⟨hw2, hu2⟩ := HW3.out.bad true
        have HWt := Lib.hid hw2
        have HUt := Lib.hid (WS.trans HU3.out hu2)
        clear hw2 hu2
        go_wp2
        go_end0
        refine ⟨rfl, ?_, ?_⟩
        · rw [show eventW n s ⟨3, proc, op, by_, ops, keep⟩ = (sb, true) from by rw [eventW3, ← HST.out]; simp]
          exact HWt.out.ext ((Upd.refl _ _).alloc _)
        · exact HUt.out.ext ((Upd.refl _ _).alloc _)
      | false =>
        go_wp2_with (go_at_call 22; fail)
        have hal : Ext v3 (v3.alloc (.cells (evCells (⟨3, proc, Oper'.zero 0, by_, 0, []⟩ : Ev) nilS nilS) 44)) := (Upd.refl _ _).alloc _
        have HAL := Lib.hid hal
        refine (scriptSame_any _ ⟨3, proc, op, by_, ops, keep⟩ (⟨3, proc, Oper'.zero 0, by_, 0, []⟩ : Ev) (.slice va op.edits.length vc) nilS (.slice ua keep.length uc) nilS (HV3.out.ext hal) (Row.nil Nothing _) (HK3.out.ext hal) (Row.nil Nothing _)).mono ?_
        rintro e w3 ⟨rfl, hu3⟩
        have hx3 := hal.trans hu3
        have g3 := hx3.at_ G2.out id
        have y1 := cellAt g3 1 (.bool false) rfl
        have f1 := freeAt g3 1
        obtain ⟨hw4, hu4⟩ := (HW3.out.ext hx3).bad (!eqB ⟨3, proc, op, by_, ops, keep⟩ (⟨3, proc, Oper'.zero 0, by_, 0, []⟩ : Ev))
        have HWu := Lib.hid hw4
        have HUu := Lib.hid (WS.trans HU3.out (WS.ext hx3 hu4))
        clear hal hu3 hx3 g3 hw4 hu4 z0 z1 z2 z3 z4 z5 z6 z7 z8 z9 z10 z11 z12 z13
        go_wp2
        go_end0
        refine ⟨rfl, ?_, HUu.out⟩
        rw [show eventW n s ⟨3, proc, op, by_, ops, keep⟩ = (sb, !eqB ⟨3, proc, op, by_, ops, keep⟩ (⟨3, proc, Oper'.zero 0, by_, 0, []⟩ : Ev)) from by rw [eventW3, ← HST.out]; simp [eqB]]
        exact HWu.out

set_option maxRecDepth 100000 in
set_option maxHeartbeats 4000000 in
theorem event2 {B : Nat} (w : World) (r : Nat) (x : Ev) (n : Int) (v u : Value) (s : WSt) (h : Writer B w r s) (hv : Row (Till B) w v x.op.edits.length (editCells x.op.edits)) (hu : Row (Till B) w u x.keep.length (bools x.keep)) (hwf : EvWf x) (hl : s.1.length + ecap x < 70368744170000) (hk : x.kind = 2) :
    Calls Try.prog 36 #[.pointer (some ⟨r, 0, none⟩), .agg (evCells x v u), .int .i64 n] w (EventWPost B r n s x w) := by
  have hbx := newAt w (.cells (evCells x v u) 44)
  have hux : Ext w (w.alloc (.cells (evCells x v u) 44)) := (Upd.refl _ _).alloc _
  obtain ⟨wa, hwa⟩ : ∃ wa, wa = w.alloc (.cells (evCells x v u) 44) := ⟨_, rfl⟩
  rw [← hwa] at hbx hux
  have hrw := h.lt
  have hsza : wa.heap.size = w.heap.size + 1 := by rw [hwa]; simp
  have HBr := Lib.hid h.1
  have HV := Lib.hid (hv.ext hux)
  have HKP := Lib.hid (hu.ext hux)
  have HW := Lib.hid (h.ext hux)
  have HU := Lib.hid (show Upd (WS B r w) w wa from hux.mono (fun _ _ e => e.elim))
  have HWF := Lib.hid hwf
  have hop : ecap x = 10 + 4 * ocap x.op := rfl
  obtain ⟨kind, proc, op, by_, ops, keep⟩ := x
  dsimp only at hk hop hv hu HV HKP
  subst hk
  obtain ⟨va, vc, rfl, -, -, -⟩ := hv
  obtain ⟨ua, uc, rfl, hun, hum, -⟩ := hu
  unfold maxLen at hum
  have HBX := Lib.hid hbx
  have HWA := Lib.hid hwa
  have hrb : ¬ r = w.heap.size := by omega
  have hbr : ¬ w.heap.size = r := by omega
  have HSZ := Lib.hid hsza
  clear h hux hwf hwa hbx hsza
  simp only [evCells]
  go_enter Try.func36, Try.ntmps36
  go_wp2_with fail
  rw [show w.alloc (.cells #[.int .u8 2, .int .i64 proc, .int .u8 op.kind, .int .u64 op.doc, str op.name, str op.to, str op.text, .slice va op.edits.length vc, .int .u64 op.epoch, .int .u64 op.version, .int .u64 op.dur, .int .u64 by_, .int .i64 ops, .slice ua keep.length uc] 44) = wa from HWA.out.symm]
  obtain ⟨z0, z1, z2, z3, z4, z5, z6, z7, z8, z9, z10, z11, z12, z13⟩ := blk_cells HBX.out
  go_wp2
  go_loopw [6] (fun i wr => ∃ m : Int, 192 ≤ m ∧ m ≤ 195 ∧ i = .int .i64 m ∧ wr = wa) (fun i _ => 300 - (intOf i).toNat)
  case atStart => exact ⟨192, by omega, by omega, rfl, rfl⟩
  case round =>
    obtain ⟨m, hm0, hm1, rfl, hwr⟩ := hrel
    rw [hwr]
    clear hwr
    have hmm : m = 192 ∨ m = 193 ∨ m = 194 ∨ m = 195 := by omega
    clear hm0 hm1
    rcases hmm with rfl | rfl | rfl | rfl
    · go_wp2
      go_roundw
      case rel => exact ⟨193, by omega, by omega, (by first | rfl | trivial), (by first | rfl | trivial)⟩
      case measure => simp [intOf]
    · go_wp2
      go_roundw
      case rel => exact ⟨194, by omega, by omega, (by first | rfl | trivial), (by first | rfl | trivial)⟩
      case measure => simp [intOf]
    · go_wp2
      go_roundw
      case rel => exact ⟨195, by omega, by omega, (by first | rfl | trivial), (by first | rfl | trivial)⟩
      case measure => simp [intOf]
    · go_wp2_with (go_at_call 34; fail)
      refine (put_any _ r 195 256 _ HW.out (by omega)).mono ?_
      rintro e v1 ⟨rfl, hw, hu⟩
      have HW1 := Lib.hid hw
      have HU1 := Lib.hid (WS.trans HU.out hu)
      have HB1 := Lib.hid (WS.at_ hu HBX.out (by decide) (by omega))
      have HV1 := Lib.hid (WS.row hu HBr.out HV.out)
      have HK1 := Lib.hid (WS.row hu HBr.out HKP.out)
      clear hw hu z0 z1 z2 z3 z4 z5 z6 z7 z8 z9 z10 z11 z12 z13
      obtain ⟨z0, z1, z2, z3, z4, z5, z6, z7, z8, z9, z10, z11, z12, z13⟩ := blk_cells HB1.out
      go_wp2_with (go_at_call 34; fail)
      refine (put_any _ r proc n _ HW1.out (by simp [putF]; omega)).mono ?_
      rintro e v2 ⟨rfl, hw, hu⟩
      have HW2 := Lib.hid hw
      have HU2 := Lib.hid (WS.trans HU1.out hu)
      have HB2 := Lib.hid (WS.at_ hu HB1.out (by decide) (by omega))
      have HV2 := Lib.hid (WS.row hu HBr.out HV1.out)
      have HK2 := Lib.hid (WS.row hu HBr.out HK1.out)
      clear hw hu z0 z1 z2 z3 z4 z5 z6 z7 z8 z9 z10 z11 z12 z13
      obtain ⟨z0, z1, z2, z3, z4, z5, z6, z7, z8, z9, z10, z11, z12, z13⟩ := blk_cells HB2.out
      go_wp2_with (go_at_call 47; fail)
      refine (op_any' _ r op (.slice va op.edits.length vc) _ HW2.out HV2.out HWF.out.2.2 (by simp [putF]; omega)).mono ?_
      rintro e v3 ⟨rfl, hw, hu⟩
      have HW3 := Lib.hid hw
      have HU3 := Lib.hid (WS.trans HU2.out hu)
      have HB3 := Lib.hid (WS.at_ hu HB2.out (by decide) (by omega))
      have HV3 := Lib.hid (WS.row hu HBr.out HV2.out)
      have HK3 := Lib.hid (WS.row hu HBr.out HK2.out)
      clear hw hu z0 z1 z2 z3 z4 z5 z6 z7 z8 z9 z10 z11 z12 z13
      obtain ⟨z0, z1, z2, z3, z4, z5, z6, z7, z8, z9, z10, z11, z12, z13⟩ := blk_cells HB3.out
      obtain ⟨st, hst⟩ : ∃ st, st = opW op (putF proc n (putF 195 256 s)) := ⟨_, rfl⟩
      rw [← hst] at HW3
      have HST := Lib.hid hst
      clear hst
      obtain ⟨sb, bad⟩ := st
      obtain ⟨-, -, gv, g2, -⟩ := HW3.out
      have G2 := Lib.hid g2
      have y1 := cellAt g2 1 (.bool bad) rfl
      have f1 := freeAt g2 1
      have hrl := lt_of_heap g2
      have hbl := lt_of_heap HB3.out
      clear g2
      cases bad with
      | true =>
        obtain ⟨hw2, hu2⟩ := HW3.out.bad true
        have HWt := Lib.hid hw2
        have HUt := Lib.hid (WS.trans HU3.out hu2)
        clear hw2 hu2
        go_wp2
        go_end0
        refine ⟨rfl, ?_, ?_⟩
        · rw [show eventW n s ⟨2, proc, op, by_, ops, keep⟩ = (sb, true) from by rw [eventW2, ← HST.out]; simp]
          exact HWt.out.ext ((Upd.refl _ _).alloc _)
        · exact HUt.out.ext ((Upd.refl _ _).alloc _)
      | false =>
        go_wp2_with (go_at_call 22; fail)
        have hal : Ext v3 (v3.alloc (.cells (evCells (⟨2, proc, op, 0, 0, []⟩ : Ev) (.slice va op.edits.length vc) nilS) 44)) := (Upd.refl _ _).alloc _
        have HAL := Lib.hid hal
        refine (scriptSame_any _ ⟨2, proc, op, by_, ops, keep⟩ (⟨2, proc, op, 0, 0, []⟩ : Ev) (.slice va op.edits.length vc) (.slice va op.edits.length vc) (.slice ua keep.length uc) nilS (HV3.out.ext hal) (HV3.out.ext hal) (HK3.out.ext hal) (Row.nil Nothing _)).mono ?_
        rintro e w3 ⟨rfl, hu3⟩
        have hx3 := hal.trans hu3
        have g3 := hx3.at_ G2.out id
        have y1 := cellAt g3 1 (.bool false) rfl
        have f1 := freeAt g3 1
        obtain ⟨hw4, hu4⟩ := (HW3.out.ext hx3).bad (!eqB ⟨2, proc, op, by_, ops, keep⟩ (⟨2, proc, op, 0, 0, []⟩ : Ev))
        have HWu := Lib.hid hw4
        have HUu := Lib.hid (WS.trans HU3.out (WS.ext hx3 hu4))
        clear hal hu3 hx3 g3 hw4 hu4 z0 z1 z2 z3 z4 z5 z6 z7 z8 z9 z10 z11 z12 z13
        go_wp2
        go_end0
        refine ⟨rfl, ?_, HUu.out⟩
        rw [show eventW n s ⟨2, proc, op, by_, ops, keep⟩ = (sb, !eqB ⟨2, proc, op, by_, ops, keep⟩ (⟨2, proc, op, 0, 0, []⟩ : Ev)) from by rw [eventW2, ← HST.out]; simp [eqB]]
        exact HWu.out
end Go.Proofs.Ytlhpcgmbbeihiaa
