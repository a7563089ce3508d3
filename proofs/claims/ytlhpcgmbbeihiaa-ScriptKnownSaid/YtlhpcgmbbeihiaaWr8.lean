/-
  CONTRACTS of the writer's method event: power, and kinds that there are not. By program (gen/wr5.py).
-/
import Derived.Test.YtlhpcgmbbeihiaaWr5
import Derived.Laws.BitsAllLaws
namespace Go.Proofs.Ytlhpcgmbbeihiaa
open Go.RowKit
theorem i64_or (a b : Nat) (ha : a < 512) (hb : b < 512) : bits .or .i64 (a : Int) (b : Int) = ((a ||| b : Nat) : Int) := by
  have h := Nat.or_lt_two_pow (n := 9) (x := a) (y := b) (by omega) (by omega)
  have h1 : (BitVec.ofInt 64 (a : Int)).toNat = a := by
    rw [BitVec.ofInt_natCast, BitVec.toNat_ofNat]; exact Nat.mod_eq_of_lt (by omega)
  have h2 : (BitVec.ofInt 64 (b : Int)).toNat = b := by
    rw [BitVec.ofInt_natCast, BitVec.toNat_ofNat]; exact Nat.mod_eq_of_lt (by omega)
  show IntKind.i64.wrap ((BitVec.ofInt 64 (a : Int) ||| BitVec.ofInt 64 (b : Int)).toNat : Int) = _
  rw [BitVec.toNat_or, h1, h2, IntKind.wrap_i64]
  omega
theorem shl_small (k : Nat) : wrap64 (2 ^ (min (k : Int) 8).toNat) = ((2 ^ (min k 8) : Nat) : Int) ∧ 2 ^ (min k 8) < 512 := by
  have h1 : (min (k : Int) 8).toNat = min k 8 := by omega
  have h2 : 2 ^ (min k 8) < 512 := Nat.pow_lt_pow_right (a := 2) (n := 9) (by decide) (by omega)
  rw [h1]
  have h3 : ((2 : Int) ^ (min k 8)) = ((2 ^ (min k 8) : Nat) : Int) := by simp
  rw [h3]
  have hp : ∀ p : Nat, p < 512 → wrap64 (p : Int) = p := by intro p hp; unfold wrap64; omega
  exact ⟨hp _ h2, h2⟩
theorem bitsN_snoc (l : List Bool) (b : Bool) : ∀ i, bitsN (l ++ [b]) i = bitsN l i ||| (if b then 2 ^ (min (i + l.length) 8) else 0) := by
  induction l with
  | nil => intro i; simp [bitsN]
  | cons c l ih => intro i; simp only [List.cons_append, bitsN, ih, Nat.or_assoc, List.length_cons]; congr 3; rw [show i + 1 + l.length = i + (l.length + 1) from by omega]
theorem bitsN_lt (l : List Bool) : ∀ i, bitsN l i < 512 := by
  induction l with
  | nil => intro i; simp [bitsN]
  | cons c l ih =>
    intro i
    rw [bitsN]
    refine Nat.or_lt_two_pow (n := 9) ?_ (ih _)
    split
    · exact Nat.pow_lt_pow_right (by decide) (by omega)
    · decide
def s6 (ops : Int) (keep : List Bool) (s : WSt) : WSt := ((putF ops 256 (putF 194 256 s)).1, (putF ops 256 (putF 194 256 s)).2 || decide (keep.length ≠ 8))
theorem eventW6 (n proc : Int) (op : Oper') (by_ ops : Int) (keep : List Bool) (s : WSt) : eventW n s ⟨6, proc, op, by_, ops, keep⟩ = ((putF (bitsN keep 0 : Nat) 256 (s6 ops keep s)).1, (putF (bitsN keep 0 : Nat) 256 (s6 ops keep s)).2 || decide (⟨6, proc, op, by_, ops, keep⟩ ≠ (⟨6, 0, Oper'.zero 0, 0, ops, keep⟩ : Ev))) := by
  simp [eventW, blankOf, s6]

set_option maxRecDepth 100000 in
set_option maxHeartbeats 4000000 in
theorem event6 {B : Nat} (w : World) (r : Nat) (x : Ev) (n : Int) (v u : Value) (s : WSt) (h : Writer B w r s) (hv : Row (Till B) w v x.op.edits.length (editCells x.op.edits)) (hu : Row (Till B) w u x.keep.length (bools x.keep)) (hwf : EvWf x) (hl : s.1.length + ecap x < 70368744170000) (hk : x.kind = 6) :
    Calls Try.prog 36 #[.pointer (some ⟨r, 0, none⟩), .agg (evCells x v u), .int .i64 n] w (EventWPost B r n s x w) := by
  have hbx := newAt w (.cells (evCells x v u) 44)
  have hux : Ext w (w.alloc (.cells (evCells x v u) 44)) := (Upd.refl _ _).alloc _
  obtain ⟨wa, hwa⟩ : ∃ wa, wa = w.alloc (.cells (evCells x v u) 44) := ⟨_, rfl⟩
  rw [← hwa] at hbx hux
  have hrw := h.lt
  have hsza : wa.heap.size = w.heap.size + 1 := by rw [hwa]; simp
  have HBr := Lib.hid h.1
  have HV := Lib.hid (hv.ext hux)
  have HKP := Lib.hid (hu.ext hux)
  have HW := Lib.hid (h.ext hux)
  have HU := Lib.hid (show Upd (WS B r w) w wa from hux.mono (fun _ _ e => e.elim))
  have HWF := Lib.hid hwf
  have hop : ecap x = 10 + 4 * ocap x.op := rfl
  obtain ⟨kind, proc, op, by_, ops, keep⟩ := x
  dsimp only at hk hop hv hu HV HKP
  subst hk
  obtain ⟨va, vc, rfl, -, -, -⟩ := hv
  obtain ⟨ua, uc, rfl, hun, hum, -⟩ := hu
  unfold maxLen at hum
  have HBX := Lib.hid hbx
  have HWA := Lib.hid hwa
  have hrb : ¬ r = w.heap.size := by omega
  have hbr : ¬ w.heap.size = r := by omega
  have HSZ := Lib.hid hsza
  clear h hux hwf hwa hbx hsza
  simp only [evCells]
  go_enter Try.func36, Try.ntmps36
  go_wp2_with fail
  rw [show w.alloc (.cells #[.int .u8 6, .int .i64 proc, .int .u8 op.kind, .int .u64 op.doc, str op.name, str op.to, str op.text, .slice va op.edits.length vc, .int .u64 op.epoch, .int .u64 op.version, .int .u64 op.dur, .int .u64 by_, .int .i64 ops, .slice ua keep.length uc] 44) = wa from HWA.out.symm]
  obtain ⟨z0, z1, z2, z3, z4, z5, z6, z7, z8, z9, z10, z11, z12, z13⟩ := blk_cells HBX.out
  go_wp2
  go_loopw [6] (fun i wr => ∃ m : Int, 192 ≤ m ∧ m ≤ 194 ∧ i = .int .i64 m ∧ wr = wa) (fun i _ => 300 - (intOf i).toNat)
  case atStart => exact ⟨192, by omega, by omega, rfl, rfl⟩
  case round =>
    obtain ⟨m, hm0, hm1, rfl, hwr⟩ := hrel
    rw [hwr]
    clear hwr
    have hmm : m = 192 ∨ m = 193 ∨ m = 194 := by omega
    clear hm0 hm1
    rcases hmm with rfl | rfl | rfl
    · go_wp2
      go_roundw
      case rel => exact ⟨193, by omega, by omega, (by first | rfl | trivial), (by first | rfl | trivial)⟩
      case measure => simp [intOf]
    · go_wp2
      go_roundw
      case rel => exact ⟨194, by omega, by omega, (by first | rfl | trivial), (by first | rfl | trivial)⟩
      case measure => simp [intOf]
    · go_wp2_with (go_at_call 34; fail)
      refine (put_any _ r 194 256 _ HW.out (by omega)).mono ?_
      rintro e v1 ⟨rfl, hw, hu⟩
      have HW1 := Lib.hid hw
      have HU1 := Lib.hid (WS.trans HU.out hu)
      have HB1 := Lib.hid (WS.at_ hu HBX.out (by decide) (by omega))
      have HV1 := Lib.hid (WS.row hu HBr.out HV.out)
      have HK1 := Lib.hid (WS.row hu HBr.out HKP.out)
      clear hw hu z0 z1 z2 z3 z4 z5 z6 z7 z8 z9 z10 z11 z12 z13
      obtain ⟨z0, z1, z2, z3, z4, z5, z6, z7, z8, z9, z10, z11, z12, z13⟩ := blk_cells HB1.out
      go_wp2_with (go_at_call 34; fail)
      refine (put_any _ r ops 256 _ HW1.out (by simp [putF]; omega)).mono ?_
      rintro e v2 ⟨rfl, hw, hu⟩
      have HW2 := Lib.hid hw
      have HU2 := Lib.hid (WS.trans HU1.out hu)
      have HB2 := Lib.hid (WS.at_ hu HB1.out (by decide) (by omega))
      have HV2 := Lib.hid (WS.row hu HBr.out HV1.out)
      have HK2 := Lib.hid (WS.row hu HBr.out HK1.out)
      clear hw hu z0 z1 z2 z3 z4 z5 z6 z7 z8 z9 z10 z11 z12 z13
      obtain ⟨z0, z1, z2, z3, z4, z5, z6, z7, z8, z9, z10, z11, z12, z13⟩ := blk_cells HB2.out
      obtain ⟨st, hst⟩ : ∃ st, st = putF ops 256 (putF 194 256 s) := ⟨_, rfl⟩
      rw [← hst] at HW2
      have hstl : st.1.length = s.1.length + 2 := by rw [hst]; simp [putF]
      have HST := Lib.hid hst
      clear hst
      obtain ⟨-, -, gv, g2, -⟩ := HW2.out
      have y1 := cellAt g2 1 (.bool st.2) rfl
      have f1 := freeAt g2 1
      have G2 := Lib.hid g2
      have hs6 : s6 ops keep s = (st.1, st.2 || decide (keep.length ≠ 8)) := by rw [s6, ← HST.out]
      have HS6 := Lib.hid hs6
      clear g2 hs6
      obtain ⟨b6, hb6⟩ : ∃ b6, b6 = (st.2 || decide (keep.length ≠ 8)) := ⟨_, rfl⟩
      obtain ⟨hw3, hu3⟩ := HW2.out.bad b6
      have HB6 := Lib.hid hb6
      have HW3 := Lib.hid hw3
      have HU3 := Lib.hid (WS.trans HU2.out hu3)
      have HB3 := Lib.hid (WS.at_ hu3 HB2.out (by decide) (by omega))
      have HV3 := Lib.hid (WS.row hu3 HBr.out HV2.out)
      have HK3 := Lib.hid (WS.row hu3 HBr.out HK2.out)
      clear hw3 hu3 hb6
      obtain ⟨sb, bad⟩ := st
      cases bad with
      | true =>
        rw [show b6 = true from by rw [HB6.out]; rfl] at HW3 HU3 HB3 HV3 HK3
        obtain ⟨wc, hwc⟩ : ∃ wc, wc = v2.setCell ⟨r, 1, none⟩ (.bool true) := ⟨_, rfl⟩
        rw [← hwc] at HW3 HU3 HB3 HV3 HK3
        have HWC := Lib.hid hwc
        clear hwc
        go_wp2_with fail
        rw [show v2.setCell ⟨r, 1, none⟩ (.bool true) = wc from HWC.out.symm]
        clear y1 f1 z0 z1 z2 z3 z4 z5 z6 z7 z8 z9 z10 z11 z12 z13
        obtain ⟨z0, z1, z2, z3, z4, z5, z6, z7, z8, z9, z10, z11, z12, z13⟩ := blk_cells HB3.out
        go_wp2
        go_loopw [7, 83] (fun q i wr => ∃ k : Nat, k ≤ keep.length ∧ i = .int .i64 k ∧ q = .int .i64 (bitsN (keep.take k) 0 : Nat) ∧ wr = wc) (fun _ i _ => keep.length - (intOf i).toNat)
        case atStart => exact ⟨0, Nat.zero_le _, rfl, rfl, rfl⟩
        case round =>
          obtain ⟨k, hk, rfl, rfl, hwr⟩ := hrel
          rw [hwr]
          clear hwr
          obtain ⟨bq, hbq⟩ : ∃ bq : Nat, bq = bitsN (keep.take k) 0 := ⟨_, rfl⟩
          have hbl0 := bitsN_lt (keep.take k) 0
          rw [← hbq] at hbl0 ⊢
          have HBQ := Lib.hid hbq
          clear hbq
          by_cases hlt : k < keep.length
          · obtain ⟨kb, ko, kc, e1, -, -, -, hkc⟩ := HK3.out.addr (by omega)
            cases e1
            have hcell := bool_cell hkc k hlt
            clear hkc
            by_cases hb : keep[k] = true
            · rw [hb] at hcell
              have HBB := Lib.hid hb
              clear hb
              go_wp2
              go_roundw
              case rel =>
                refine ⟨k + 1, by omega, by go_num, ?_, trivial⟩
                obtain ⟨g1, g2⟩ := shl_small k
                rw [g1, i64_or bq _ hbl0 g2, List.take_succ_eq_append_getElem hlt, bitsN_snoc, ← HBQ.out, HBB.out]
                simp only [if_pos, List.length_take, Nat.zero_add]
                rw [Nat.min_eq_left (Nat.le_of_lt hlt)]
              case measure => simp [intOf]; omega
            · have hbf : keep[k] = false := by simpa using hb
              rw [hbf] at hcell
              have HBB := Lib.hid hbf
              clear hb hbf
              go_wp2
              go_roundw
              case rel =>
                refine ⟨k + 1, by omega, by go_num, ?_, trivial⟩
                rw [List.take_succ_eq_append_getElem hlt, bitsN_snoc, ← HBQ.out, HBB.out]
                simp
              case measure => simp [intOf]; omega
          · have hkl : k = keep.length := by omega
            have hbq2 : bq = bitsN keep 0 := by rw [HBQ.out, hkl, List.take_length]
            subst hbq2
            have HKL := Lib.hid hkl
            clear hkl
            go_wp2_with (go_at_call 34; fail)
            refine (put_any _ r (bitsN keep 0 : Nat) 256 _ HW3.out (by dsimp only at hstl ⊢; omega)).mono ?_
            rintro e v4 ⟨rfl, hw, hu⟩
            have HW4 := Lib.hid hw
            have HU4 := Lib.hid (WS.trans HU3.out hu)
            have HB4 := Lib.hid (WS.at_ hu HB3.out (by decide) (by omega))
            have HV4 := Lib.hid (WS.row hu HBr.out HV3.out)
            have HK4 := Lib.hid (WS.row hu HBr.out HK3.out)
            have hne := lt_of_heap HB4.out
            clear hw hu z0 z1 z2 z3 z4 z5 z6 z7 z8 z9 z10 z11 z12 z13
            obtain ⟨z0, z1, z2, z3, z4, z5, z6, z7, z8, z9, z10, z11, z12, z13⟩ := blk_cells HB4.out
            go_wp2_with fail
            go_region
            rw [show (sb, true) = s6 ops keep s from by rw [HS6.out]; rfl] at HW4
            obtain ⟨st, hst⟩ : ∃ st, st = putF (bitsN keep 0 : Nat) 256 (s6 ops keep s) := ⟨_, rfl⟩
            rw [← hst] at HW4
            have HST := Lib.hid hst
            clear hst
            obtain ⟨sb, bad⟩ := st
            obtain ⟨-, -, gv, g2, -⟩ := HW4.out
            have G2 := Lib.hid g2
            have y1 := cellAt g2 1 (.bool bad) rfl
            have f1 := freeAt g2 1
            have hrl := lt_of_heap g2
            have hbl := lt_of_heap HB4.out
            clear g2
            cases bad with
            | true =>
              obtain ⟨hw2, hu2⟩ := HW4.out.bad true
              have HWt := Lib.hid hw2
              have HUt := Lib.hid (WS.trans HU4.out hu2)
              clear hw2 hu2
              go_wp2
              go_end0
              refine ⟨rfl, ?_, ?_⟩
              · rw [show eventW n s ⟨6, proc, op, by_, ops, keep⟩ = (sb, true) from by rw [eventW6, ← HST.out]; simp]
                exact HWt.out.ext (((Upd.refl _ _).alloc _).drew)
              · exact HUt.out.ext (((Upd.refl _ _).alloc _).drew)
            | false =>
              go_wp2_with (go_at_call 22; fail)
              have hal : Ext v4 (v4.alloc (.cells (evCells (⟨6, 0, Oper'.zero 0, 0, ops, keep⟩ : Ev) nilS (.slice ua keep.length uc)) 44)).drew := ((Upd.refl _ _).alloc _).drew
              have HAL := Lib.hid hal
              refine (scriptSame_any _ ⟨6, proc, op, by_, ops, keep⟩ (⟨6, 0, Oper'.zero 0, 0, ops, keep⟩ : Ev) (.slice va op.edits.length vc) nilS (.slice ua keep.length uc) (.slice ua keep.length uc) (HV4.out.ext hal) (Row.nil Nothing _) (HK4.out.ext hal) (HK4.out.ext hal)).mono ?_
              rintro e w3 ⟨rfl, hu3⟩
              have hx3 := hal.trans hu3
              have g3 := hx3.at_ G2.out id
              have y1 := cellAt g3 1 (.bool false) rfl
              have f1 := freeAt g3 1
              obtain ⟨hw4, hu4⟩ := (HW4.out.ext hx3).bad (!eqB ⟨6, proc, op, by_, ops, keep⟩ (⟨6, 0, Oper'.zero 0, 0, ops, keep⟩ : Ev))
              have HWu := Lib.hid hw4
              have HUu := Lib.hid (WS.trans HU4.out (WS.ext hx3 hu4))
              clear hal hu3 hx3 g3 hw4 hu4 z0 z1 z2 z3 z4 z5 z6 z7 z8 z9 z10 z11 z12 z13
              go_wp2
              go_end0
              refine ⟨rfl, ?_, HUu.out⟩
              rw [show eventW n s ⟨6, proc, op, by_, ops, keep⟩ = (sb, !eqB ⟨6, proc, op, by_, ops, keep⟩ (⟨6, 0, Oper'.zero 0, 0, ops, keep⟩ : Ev)) from by rw [eventW6, ← HST.out]; simp [eqB]]
              exact HWu.out
      | false =>
        by_cases c8 : keep.length = 8
        · have hq8 : ((keep.length : Int) != 8) = false := by simp [c8]
          have C8 := Lib.hid c8
          clear c8
          rw [show b6 = false from by rw [HB6.out]; simp [C8.out]] at HW3 HU3 HB3 HV3 HK3
          obtain ⟨wc, hwc⟩ : ∃ wc, wc = v2.setCell ⟨r, 1, none⟩ (.bool false) := ⟨_, rfl⟩
          rw [← hwc] at HW3 HU3 HB3 HV3 HK3
          have HWC := Lib.hid hwc
          clear hwc
          go_wp2_with fail
          rw [show v2.setCell ⟨r, 1, none⟩ (.bool false) = wc from HWC.out.symm]
          clear y1 f1 z0 z1 z2 z3 z4 z5 z6 z7 z8 z9 z10 z11 z12 z13
          obtain ⟨z0, z1, z2, z3, z4, z5, z6, z7, z8, z9, z10, z11, z12, z13⟩ := blk_cells HB3.out
          go_wp2
          go_loopw [7, 83] (fun q i wr => ∃ k : Nat, k ≤ keep.length ∧ i = .int .i64 k ∧ q = .int .i64 (bitsN (keep.take k) 0 : Nat) ∧ wr = wc) (fun _ i _ => keep.length - (intOf i).toNat)
          case atStart => exact ⟨0, Nat.zero_le _, rfl, rfl, rfl⟩
          case round =>
            obtain ⟨k, hk, rfl, rfl, hwr⟩ := hrel
            rw [hwr]
            clear hwr
            obtain ⟨bq, hbq⟩ : ∃ bq : Nat, bq = bitsN (keep.take k) 0 := ⟨_, rfl⟩
            have hbl0 := bitsN_lt (keep.take k) 0
            rw [← hbq] at hbl0 ⊢
            have HBQ := Lib.hid hbq
            clear hbq
            by_cases hlt : k < keep.length
            · obtain ⟨kb, ko, kc, e1, -, -, -, hkc⟩ := HK3.out.addr (by omega)
              cases e1
              have hcell := bool_cell hkc k hlt
              clear hkc
              by_cases hb : keep[k] = true
              · rw [hb] at hcell
                have HBB := Lib.hid hb
                clear hb
                go_wp2
                go_roundw
                case rel =>
                  refine ⟨k + 1, by omega, by go_num, ?_, trivial⟩
                  obtain ⟨g1, g2⟩ := shl_small k
                  rw [g1, i64_or bq _ hbl0 g2, List.take_succ_eq_append_getElem hlt, bitsN_snoc, ← HBQ.out, HBB.out]
                  simp only [if_pos, List.length_take, Nat.zero_add]
                  rw [Nat.min_eq_left (Nat.le_of_lt hlt)]
                case measure => simp [intOf]; omega
              · have hbf : keep[k] = false := by simpa using hb
                rw [hbf] at hcell
                have HBB := Lib.hid hbf
                clear hb hbf
                go_wp2
                go_roundw
                case rel =>
                  refine ⟨k + 1, by omega, by go_num, ?_, trivial⟩
                  rw [List.take_succ_eq_append_getElem hlt, bitsN_snoc, ← HBQ.out, HBB.out]
                  simp
                case measure => simp [intOf]; omega
            · have hkl : k = keep.length := by omega
              have hbq2 : bq = bitsN keep 0 := by rw [HBQ.out, hkl, List.take_length]
              subst hbq2
              have HKL := Lib.hid hkl
              clear hkl
              go_wp2_with (go_at_call 34; fail)
              refine (put_any _ r (bitsN keep 0 : Nat) 256 _ HW3.out (by dsimp only at hstl ⊢; omega)).mono ?_
              rintro e v4 ⟨rfl, hw, hu⟩
              have HW4 := Lib.hid hw
              have HU4 := Lib.hid (WS.trans HU3.out hu)
              have HB4 := Lib.hid (WS.at_ hu HB3.out (by decide) (by omega))
              have HV4 := Lib.hid (WS.row hu HBr.out HV3.out)
              have HK4 := Lib.hid (WS.row hu HBr.out HK3.out)
              have hne := lt_of_heap HB4.out
              clear hw hu z0 z1 z2 z3 z4 z5 z6 z7 z8 z9 z10 z11 z12 z13
              obtain ⟨z0, z1, z2, z3, z4, z5, z6, z7, z8, z9, z10, z11, z12, z13⟩ := blk_cells HB4.out
              go_wp2_with fail
              go_region
              rw [show (sb, false) = s6 ops keep s from by rw [HS6.out]; simp [C8.out]] at HW4
              obtain ⟨st, hst⟩ : ∃ st, st = putF (bitsN keep 0 : Nat) 256 (s6 ops keep s) := ⟨_, rfl⟩
              rw [← hst] at HW4
              have HST := Lib.hid hst
              clear hst
              obtain ⟨sb, bad⟩ := st
              obtain ⟨-, -, gv, g2, -⟩ := HW4.out
              have G2 := Lib.hid g2
              have y1 := cellAt g2 1 (.bool bad) rfl
              have f1 := freeAt g2 1
              have hrl := lt_of_heap g2
              have hbl := lt_of_heap HB4.out
              clear g2
              cases bad with
              | true =>
                obtain ⟨hw2, hu2⟩ := HW4.out.bad true
                have HWt := Lib.hid hw2
                have HUt := Lib.hid (WS.trans HU4.out hu2)
                clear hw2 hu2
                go_wp2
                go_end0
                refine ⟨rfl, ?_, ?_⟩
                · rw [show eventW n s ⟨6, proc, op, by_, ops, keep⟩ = (sb, true) from by rw [eventW6, ← HST.out]; simp]
                  exact HWt.out.ext (((Upd.refl _ _).alloc _).drew)
                · exact HUt.out.ext (((Upd.refl _ _).alloc _).drew)
              | false =>
                go_wp2_with (go_at_call 22; fail)
                have hal : Ext v4 (v4.alloc (.cells (evCells (⟨6, 0, Oper'.zero 0, 0, ops, keep⟩ : Ev) nilS (.slice ua keep.length uc)) 44)).drew := ((Upd.refl _ _).alloc _).drew
                have HAL := Lib.hid hal
                refine (scriptSame_any _ ⟨6, proc, op, by_, ops, keep⟩ (⟨6, 0, Oper'.zero 0, 0, ops, keep⟩ : Ev) (.slice va op.edits.length vc) nilS (.slice ua keep.length uc) (.slice ua keep.length uc) (HV4.out.ext hal) (Row.nil Nothing _) (HK4.out.ext hal) (HK4.out.ext hal)).mono ?_
                rintro e w3 ⟨rfl, hu3⟩
                have hx3 := hal.trans hu3
                have g3 := hx3.at_ G2.out id
                have y1 := cellAt g3 1 (.bool false) rfl
                have f1 := freeAt g3 1
                obtain ⟨hw4, hu4⟩ := (HW4.out.ext hx3).bad (!eqB ⟨6, proc, op, by_, ops, keep⟩ (⟨6, 0, Oper'.zero 0, 0, ops, keep⟩ : Ev))
                have HWu := Lib.hid hw4
                have HUu := Lib.hid (WS.trans HU4.out (WS.ext hx3 hu4))
                clear hal hu3 hx3 g3 hw4 hu4 z0 z1 z2 z3 z4 z5 z6 z7 z8 z9 z10 z11 z12 z13
                go_wp2
                go_end0
                refine ⟨rfl, ?_, HUu.out⟩
                rw [show eventW n s ⟨6, proc, op, by_, ops, keep⟩ = (sb, !eqB ⟨6, proc, op, by_, ops, keep⟩ (⟨6, 0, Oper'.zero 0, 0, ops, keep⟩ : Ev)) from by rw [eventW6, ← HST.out]; simp [eqB]]
                exact HWu.out
        · have hq8 : ((keep.length : Int) != 8) = true := by simp; omega
          have C8 := Lib.hid c8
          clear c8
          rw [show b6 = true from by rw [HB6.out]; simp [C8.out]] at HW3 HU3 HB3 HV3 HK3
          obtain ⟨wc, hwc⟩ : ∃ wc, wc = v2.setCell ⟨r, 1, none⟩ (.bool true) := ⟨_, rfl⟩
          rw [← hwc] at HW3 HU3 HB3 HV3 HK3
          have HWC := Lib.hid hwc
          clear hwc
          go_wp2_with fail
          rw [show v2.setCell ⟨r, 1, none⟩ (.bool true) = wc from HWC.out.symm]
          clear y1 f1 z0 z1 z2 z3 z4 z5 z6 z7 z8 z9 z10 z11 z12 z13
          obtain ⟨z0, z1, z2, z3, z4, z5, z6, z7, z8, z9, z10, z11, z12, z13⟩ := blk_cells HB3.out
          go_wp2
          go_loopw [7, 83] (fun q i wr => ∃ k : Nat, k ≤ keep.length ∧ i = .int .i64 k ∧ q = .int .i64 (bitsN (keep.take k) 0 : Nat) ∧ wr = wc) (fun _ i _ => keep.length - (intOf i).toNat)
          case atStart => exact ⟨0, Nat.zero_le _, rfl, rfl, rfl⟩
          case round =>
            obtain ⟨k, hk, rfl, rfl, hwr⟩ := hrel
            rw [hwr]
            clear hwr
            obtain ⟨bq, hbq⟩ : ∃ bq : Nat, bq = bitsN (keep.take k) 0 := ⟨_, rfl⟩
            have hbl0 := bitsN_lt (keep.take k) 0
            rw [← hbq] at hbl0 ⊢
            have HBQ := Lib.hid hbq
            clear hbq
            by_cases hlt : k < keep.length
            · obtain ⟨kb, ko, kc, e1, -, -, -, hkc⟩ := HK3.out.addr (by omega)
              cases e1
              have hcell := bool_cell hkc k hlt
              clear hkc
              by_cases hb : keep[k] = true
              · rw [hb] at hcell
                have HBB := Lib.hid hb
                clear hb
                go_wp2
                go_roundw
                case rel =>
                  refine ⟨k + 1, by omega, by go_num, ?_, trivial⟩
                  obtain ⟨g1, g2⟩ := shl_small k
                  rw [g1, i64_or bq _ hbl0 g2, List.take_succ_eq_append_getElem hlt, bitsN_snoc, ← HBQ.out, HBB.out]
                  simp only [if_pos, List.length_take, Nat.zero_add]
                  rw [Nat.min_eq_left (Nat.le_of_lt hlt)]
                case measure => simp [intOf]; omega
              · have hbf : keep[k] = false := by simpa using hb
                rw [hbf] at hcell
                have HBB := Lib.hid hbf
                clear hb hbf
                go_wp2
                go_roundw
                case rel =>
                  refine ⟨k + 1, by omega, by go_num, ?_, trivial⟩
                  rw [List.take_succ_eq_append_getElem hlt, bitsN_snoc, ← HBQ.out, HBB.out]
                  simp
                case measure => simp [intOf]; omega
            · have hkl : k = keep.length := by omega
              have hbq2 : bq = bitsN keep 0 := by rw [HBQ.out, hkl, List.take_length]
              subst hbq2
              have HKL := Lib.hid hkl
              clear hkl
              go_wp2_with (go_at_call 34; fail)
              refine (put_any _ r (bitsN keep 0 : Nat) 256 _ HW3.out (by dsimp only at hstl ⊢; omega)).mono ?_
              rintro e v4 ⟨rfl, hw, hu⟩
              have HW4 := Lib.hid hw
              have HU4 := Lib.hid (WS.trans HU3.out hu)
              have HB4 := Lib.hid (WS.at_ hu HB3.out (by decide) (by omega))
              have HV4 := Lib.hid (WS.row hu HBr.out HV3.out)
              have HK4 := Lib.hid (WS.row hu HBr.out HK3.out)
              have hne := lt_of_heap HB4.out
              clear hw hu z0 z1 z2 z3 z4 z5 z6 z7 z8 z9 z10 z11 z12 z13
              obtain ⟨z0, z1, z2, z3, z4, z5, z6, z7, z8, z9, z10, z11, z12, z13⟩ := blk_cells HB4.out
              go_wp2_with fail
              go_region
              rw [show (sb, true) = s6 ops keep s from by rw [HS6.out]; simp [C8.out]] at HW4
              obtain ⟨st, hst⟩ : ∃ st, st = putF (bitsN keep 0 : Nat) 256 (s6 ops keep s) := ⟨_, rfl⟩
              rw [← hst] at HW4
              have HST := Lib.hid hst
              clear hst
              obtain ⟨sb, bad⟩ := st
              obtain ⟨-, -, gv, g2, -⟩ := HW4.out
              have G2 := Lib.hid g2
              have y1 := cellAt g2 1 (.bool bad) rfl
              have f1 := freeAt g2 1
              have hrl := lt_of_heap g2
              have hbl := lt_of_heap HB4.out
              clear g2
              cases bad with
              | true =>
                obtain ⟨hw2, hu2⟩ := HW4.out.bad true
                have HWt := Lib.hid hw2
                have HUt := Lib.hid (WS.trans HU4.out hu2)
                clear hw2 hu2
                go_wp2
                go_end0
                refine ⟨rfl, ?_, ?_⟩
                · rw [show eventW n s ⟨6, proc, op, by_, ops, keep⟩ = (sb, true) from by rw [eventW6, ← HST.out]; simp]
                  exact HWt.out.ext (((Upd.refl _ _).alloc _).drew)
                · exact HUt.out.ext (((Upd.refl _ _).alloc _).drew)
              | false =>
                go_wp2_with (go_at_call 22; fail)
                have hal : Ext v4 (v4.alloc (.cells (evCells (⟨6, 0, Oper'.zero 0, 0, ops, keep⟩ : Ev) nilS (.slice ua keep.length uc)) 44)).drew := ((Upd.refl _ _).alloc _).drew
                have HAL := Lib.hid hal
                refine (scriptSame_any _ ⟨6, proc, op, by_, ops, keep⟩ (⟨6, 0, Oper'.zero 0, 0, ops, keep⟩ : Ev) (.slice va op.edits.length vc) nilS (.slice ua keep.length uc) (.slice ua keep.length uc) (HV4.out.ext hal) (Row.nil Nothing _) (HK4.out.ext hal) (HK4.out.ext hal)).mono ?_
                rintro e w3 ⟨rfl, hu3⟩
                have hx3 := hal.trans hu3
                have g3 := hx3.at_ G2.out id
                have y1 := cellAt g3 1 (.bool false) rfl
                have f1 := freeAt g3 1
                obtain ⟨hw4, hu4⟩ := (HW4.out.ext hx3).bad (!eqB ⟨6, proc, op, by_, ops, keep⟩ (⟨6, 0, Oper'.zero 0, 0, ops, keep⟩ : Ev))
                have HWu := Lib.hid hw4
                have HUu := Lib.hid (WS.trans HU4.out (WS.ext hx3 hu4))
                clear hal hu3 hx3 g3 hw4 hu4 z0 z1 z2 z3 z4 z5 z6 z7 z8 z9 z10 z11 z12 z13
                go_wp2
                go_end0
                refine ⟨rfl, ?_, HUu.out⟩
                rw [show eventW n s ⟨6, proc, op, by_, ops, keep⟩ = (sb, !eqB ⟨6, proc, op, by_, ops, keep⟩ (⟨6, 0, Oper'.zero 0, 0, ops, keep⟩ : Ev)) from by rw [eventW6, ← HST.out]; simp [eqB]]
                exact HWu.out
end Go.Proofs.Ytlhpcgmbbeihiaa
