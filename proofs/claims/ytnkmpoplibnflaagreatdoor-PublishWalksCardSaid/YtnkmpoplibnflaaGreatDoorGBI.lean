/-
  CONTRACT of the reference's read of a state. Condition: at most 60000 bytes.
  STATES AS BYTES, plain: what is read is bounded. No program in sight.
-/
import Derived.Test.YtnkmpoplibnflaaGreatDoorGBF
import Derived.Test.YtnkmpoplibnflaaGreatDoorGAW
import Derived.Test.YtnkmpoplibnflaaGreatDoorGAU
import Derived.Test.YtnkmpoplibnflaaGreatDoorGAO
set_option maxRecDepth 100000
set_option maxHeartbeats 16000000
namespace Go.Proofs.YtnkmpoplibnflaaGreatDoor.Wk
open Go Go.Proofs.YtnkmpoplibnflaaGreatDoor Go.RowKit
theorem Tryz.rwhoT : SliceT Tryz.prog 94 116 3 24 := sliceT_of Tryz.underlying94 (by kernel_rfl) (by decide)
theorem Tryz.rstT : StructT Tryz.prog 96 stZ.size := ⟨_, Tryz.underlying96, rfl, by kernel_rfl⟩
def StIs (S : Nat -> Prop) (w : World) (st : Array Value) (x : StP) : Prop := ∃ la lc, Row S w (.slice la x.last.length lc) x.last.length (flatT x.last) ∧
 match x.cont with
 | .cat es => ∃ ca cn, st = #[.int .u64 (x.chain : Int), .int .u64 (x.tail : Int), .int .u64 0, .int .u64 0, .int .u64 0, .int .u64 0, .bool false, .slice none 0 0, .slice none 0 0, .bool false, .slice ca es.length cn, .slice la x.last.length lc] /\ Ents S w (.slice ca es.length cn) es
 | .doc d => ∃ pa pc va vc, st = #[.int .u64 (x.chain : Int), .int .u64 (x.tail : Int), .int .u64 (d.epoch : Int), .int .u64 (d.proc : Int), .int .u64 (d.inc : Int), .int .u64 (d.until_ : Int), .bool ((d.held : Int) == 1), .slice pa d.pins.length pc, .slice va d.vers.length vc, .bool ((d.sealed_ : Int) == 1), .slice none 0 0, .slice la x.last.length lc] /\ Row S w (.slice pa d.pins.length pc) d.pins.length (flatT d.pins) /\ Vers S w (.slice va d.vers.length vc) d.vers
theorem StIs.upd {S T : Nat -> Prop} {w w' : World} {st : Array Value} {x : StP} (h : StIs S w st x) (hu : Upd T w w') (hs : ∀ k, S k -> ¬ T k) : StIs S w' st x := by
 obtain ⟨la, lc, h1, h2⟩ := h
 refine ⟨la, lc, h1.upd hu hs, ?_⟩
 cases hc : x.cont with
 | cat es => rw [hc] at h2; obtain ⟨ca, cn, h3, h4⟩ := h2; exact ⟨ca, cn, h3, h4.upd hu hs⟩
 | doc d => rw [hc] at h2; obtain ⟨pa, pc, va, vc, h3, h4, h5⟩ := h2; exact ⟨pa, pc, va, vc, h3, h4.upd hu hs, h5.upd hu hs⟩
theorem StIs.mono {S T : Nat -> Prop} {w : World} {st : Array Value} {x : StP} (h : StIs S w st x) (hs : ∀ k, S k -> T k) : StIs T w st x := by
 obtain ⟨la, lc, h1, h2⟩ := h
 refine ⟨la, lc, h1.mono hs, ?_⟩
 cases hc : x.cont with
 | cat es => rw [hc] at h2; obtain ⟨ca, cn, h3, h4⟩ := h2; exact ⟨ca, cn, h3, h4.mono hs⟩
 | doc d => rw [hc] at h2; obtain ⟨pa, pc, va, vc, h3, h4, h5⟩ := h2; exact ⟨pa, pc, va, vc, h3, h4.mono hs, h5.mono hs⟩
def ReadPost (w : World) (l : List UInt8) (e : Ending) (w' : World) : Prop := ∃ (st : Array Value) (ok : Bool), e = .returned (.tuple #[.agg st, .bool ok]) /\ Ext w w' ∧
 (∃ (ch tl : Nat) (lv : Value), IsSt st ch tl lv) /\ (ok = false -> stO l = none) /\ (ok = true -> ∃ x, stO l = some x /\ StIs (From w.heap.size) w' st x)
theorem readPost_bad {w w' : World} {l : List UInt8} (h : stO l = none) (hx : Ext w w') : ReadPost w l (.returned (.tuple #[.agg stZ, .bool false])) w' :=
 ⟨stZ, false, rfl, hx, ⟨0, 0, _, 0, 0, 0, 0, false, false, none, none, none, none, 0, 0, 0, 0, 0, 0, 0, 0, rfl, rfl⟩, fun _ => h, fun e => (by cases e)⟩
theorem read_any {S : Nat -> Prop} (w : World) (v : Value) (l : List UInt8) (h : Bytes S w v l) (hl : l.length <= 60000) :
  Calls Tryz.prog 59 #[v] w (ReadPost w l) := by
 have H := zq h
 obtain ⟨a0, c0, rfl, hn, hm, -⟩ := h
 obtain ⟨w1, hw1⟩ : ∃ u, u = w.alloc (.cells stZ 96) := ⟨_, rfl⟩
 have hx1 : Ext w w1 := by rw [hw1]; exact uZ.alloc _
 have hg1 : w1.heap[w.heap.size]? = some (.cells stZ 96 (0, 0)) := by rw [hw1]; exact newAt _ _
 have HX1 := zq hx1
 have HG1 := zq hg1
 have HW1 := zq hw1
 clear hx1 hg1 hw1
 have hfin : ∀ w9 : World, Ext w w9 -> w9.heap[w.heap.size]? = some (.cells stZ 96 (0, 0)) -> Ext w (w9.setRow w.heap.size stZ) /\ (w9.setRow w.heap.size stZ).heap[w.heap.size]? = some (.cells stZ 96 (0, 0)) := fun w9 hx hg =>
  ⟨hx.step (T := At w.heap.size) (Upd.row _ _ _) (fun k hk e => by have e : k = w.heap.size := e; omega), setRow_heap _ _ _ _ _ _ hg⟩
 have HFIN := zq hfin
 clear hfin
 go_enter Tryz.func59, Tryz.ntmps59
 go_wp2_with (go_at_call 69; fail)
 rw [show w.alloc (.cells #[.int .u64 0, .int .u64 0, .int .u64 0, .int .u64 0, .int .u64 0, .int .u64 0, .bool false, .slice none 0 0, .slice none 0 0, .bool false, .slice none 0 0, .slice none 0 0] 96) = w1 from HW1.out.symm]
 refine (rTrip_any w1 _ l (H.out.ext HX1.out) 0 (Nat.zero_le _) (by omega)).mono ?_
 rintro e w2 ⟨hx2, hs, hnn⟩
 have HX2 := zq (HX1.out.trans hx2)
 have HG2 := zq (hx2.at_ HG1.out id)
 clear hx2
 cases ht : tripO l 0 with
 | none =>
  obtain ⟨E, hE, rfl⟩ := hnn ht
  have hb : (E != 0) = true := by simpa using hE
  have HB := zq (stO_no1 ht)
  clear hs hnn ht hE
  go_wp2_with (refine wpList_store_blk rfl _ _ _ rfl rfl (cells := stZ) rfl (g := w.heap.size) HG2.out Tryz.rstT rfl stZ_one ?_)
  refine bodyPost_blk2 rfl rfl rfl (HFIN.out _ HX2.out HG2.out).2 Tryz.rstT ?_
  exact readPost_bad HB.out (HFIN.out _ HX2.out HG2.out).1
 | some rr =>
  obtain ⟨⟨x, y, z⟩, q⟩ := rr
  obtain ⟨hq, hq0, hx64, hy64, hz64, r, k, rfl, hk, d0, d1, d2⟩ := hs x y z q ht
  have HT := zq ht
  have hrl : r < w2.heap.size := World.block_lt_of_cell? w2 ⟨r, 0, none⟩ d0
  have hrn : ¬ r = w2.heap.size := by omega
  have HD2 := zq d2
  clear hs hnn ht
  go_upto_region 4 with fail
  go_region
  obtain ⟨w3, hw3⟩ : ∃ u, u = (w2.alloc (.cells #[.int .u64 (x : Int), .int .u64 (y : Int), .int .u64 0, .int .u64 0, .int .u64 0, .int .u64 0, .bool false, .slice none 0 0, .slice none 0 0, .bool false, .slice none 0 0, .slice none 0 0] 96)).drew := ⟨_, rfl⟩
  rw [<- hw3]
  have hx3 : Ext w2 w3 := by rw [hw3]; exact (uZ.alloc _).drew
  have hg3 : w3.heap[w2.heap.size]? = some (.cells #[.int .u64 (x : Int), .int .u64 (y : Int), .int .u64 0, .int .u64 0, .int .u64 0, .int .u64 0, .bool false, .slice none 0 0, .slice none 0 0, .bool false, .slice none 0 0, .slice none 0 0] 96 (0, 0)) := by rw [hw3, drew_heap]; exact newAt _ _
  have HX3 := zq (HX2.out.trans hx3)
  have HX23 := zq hx3
  have HG3 := zq (hx3.at_ HG2.out id)
  have HY3 := zq hg3
  have hne : w.heap.size < w2.heap.size := lZ HG2.out
  have HQL := zq (show q <= 60000 by omega)
  clear hx3 hg3 hw3 d0 d1 d2 hrl hrn
  go_wp2
  go_loopw [5, 8, 9, 10] (fun at' u8' u9' u10' wr => ∃ (a : Nat) (dn : List Tr) (lv : Value), at' = .int .i64 (a : Int) /\ Hid (wr.heap[w2.heap.size]? = some (.cells #[.int .u64 (x : Int), .int .u64 (y : Int), .int .u64 0, .int .u64 0, .int .u64 0, .int .u64 0, .bool false, .slice none 0 0, .slice none 0 0, .bool false, .slice none 0 0, lv] 96 (0, 0))) /\ Hid (wr.ownsRow (w2.heap.size + 1) 116 3 lv dn.length (flatT dn)) /\ Hid (Ext w wr) /\ Hid (Ext w2 wr) /\ a <= l.length /\ dn.length <= a /\ dn.length <= z /\ Hid (manyO (tripO l) z q = joinO dn (manyO (tripO l) (z - dn.length) a))) (fun at' _ _ _ _ => l.length - (intOf at').toNat)
  case atStart => exact ⟨q, [], .slice none 0 0, rfl, HY3, zq (World.ownsRow_nil _ _ _ _), HX3, HX23, hq, by simp, by simp, zq (joinO_nil _).symm⟩
  case round =>
   obtain ⟨a, dn, lv, rfl, HY, HOWN, HX, HX2R, ha, hda, hdz, HJ⟩ := hrel
   obtain ⟨ra, rc, rfl⟩ := ownsFormN HOWN.out
   have hxs := HX2R.out.size
   have hdl : dn.length <= 60000 := by omega
   have g11 := cZ HY.out 11 (.slice ra dn.length rc) rfl
   have gl := lZ HY.out
   have d2 := HX2R.out.cell HD2.out id
   by_cases hlt : dn.length < z
   ·have hlti : (dn.length : Int) < (z : Int) := by omega
    go_upto_region 5 with fail
    go_region
    have hu4 : Ext wr wr.drew := uZ.drew
    obtain ⟨w4, hw4⟩ : ∃ u, u = wr.drew := ⟨_, rfl⟩
    rw [<- hw4] at hu4 ⊢
    have HY4 := zq (hu4.at_ HY.out id)
    have HOWN4 := zq (hu4.ownsRow HOWN.out (fun _ _ e => e))
    have HX4 := zq (HX.out.trans hu4)
    have HX24 := zq (HX2R.out.trans hu4)
    clear hw4 hu4 g11 gl d2 HY HOWN
    go_wp2_with (go_at_call 69; fail)
    refine (rTrip_any w4 _ l (H.out.ext HX4.out) a ha (by omega)).mono ?_
    rintro e w5 ⟨hx5, hs, hnn⟩
    have HX5 := zq (HX4.out.trans hx5)
    have HX25 := zq (HX24.out.trans hx5)
    have HO5 := zq (hx5.ownsRow HOWN4.out (fun _ _ e => e))
    have HY5 := zq (hx5.at_ HY4.out id)
    clear hx5
    cases htt : tripO l a with
    | none =>
     obtain ⟨E, hE, rfl⟩ := hnn htt
     have hb : (E != 0) = true := by simpa using hE
     have HB := zq (stO_no2 HT.out (joinO_bad' HJ.out (by omega) htt))
     have HG5 := zq (HX25.out.at_ HG2.out id)
     clear hs hnn htt hE
     go_wp2_with (refine wpList_store_blk rfl _ _ _ rfl rfl (cells := stZ) rfl (g := w.heap.size) HG5.out Tryz.rstT rfl stZ_one ?_)
     refine bodyPost_blk2 rfl rfl rfl (HFIN.out _ HX5.out HG5.out).2 Tryz.rstT ?_
     exact readPost_bad HB.out (HFIN.out _ HX5.out HG5.out).1
    | some rr2 =>
     obtain ⟨⟨tx, ty, tz⟩, q2⟩ := rr2
     obtain ⟨hq2, haq, hx64', hy64', hz64', b, cc, rfl, hcc, e0, e1, e2⟩ := hs tx ty tz q2 htt
     have HJ2 := zq (joinO_step' HJ.out hlt htt)
     have hlit := (HO5.out.alloc (.cells #[.int .u64 (tx : Int), .int .u64 (ty : Int), .int .u64 (tz : Int)] 116)).drew
     have hsrc := (row_new w5 #[.int .u64 (tx : Int), .int .u64 (ty : Int), .int .u64 (tz : Int)] 116 1 w5.heap.size (by decide) rfl).upd (Upd.refl Nothing _).drew (fun _ _ e => e)
     have hbase : w2.heap.size + 1 <= (w5.alloc (.cells #[.int .u64 (tx : Int), .int .u64 (ty : Int), .int .u64 (tz : Int)] 116)).drew.heap.size := Nat.le_trans (by have := lZ HY5.out; omega) (le_drew_alloc _ _)
     have hone : OneCells (#[.int .u64 (tx : Int), .int .u64 (ty : Int), .int .u64 (tz : Int)] : Array Value).toList := cellsT_one (tx, ty, tz)
     have q4 : dn.length + 1 <= maxLen := by unfold maxLen; omega
     have q5 : (dn.length + 1) * 24 <= 140737488355328 := by omega
     have g3 := cZ HY5.out 11 (.slice ra dn.length rc) rfl
     have f3 := freeAt HY5.out 11
     have l3 := lZ HY5.out
     clear hs hnn htt hn hm
     go_upto_region 9 with fail
     go_region_law (refine step_append_row (by rfl) (.tmp 46) (.tmp 57) 94 (by rfl) Tryz.rwhoT hlit hsrc (by rfl) (by rfl) (by rfl) hone (by decide) q4 q5 hbase ?_; intro v6 w6 hown6 hg6; obtain ⟨a6, n6, rfl⟩ := ownsFormN hown6; have hgy := grownAt HY5.out hg6 (fun j hj e => by have := (HO5.out.lt j hj).1; omega); have f6 := freeAt hgy 11; have l6 := lZ hgy; have c6 := cZ hgy 11 (.slice ra dn.length rc) rfl)
     all_goals
      have hx6 := ((HX5.out.alloc (.cells #[.int .u64 (tx : Int), .int .u64 (ty : Int), .int .u64 (tz : Int)] 116)).drew).grown hg6 (fun j hj h => by have := (HO5.out.lt j hj).1; omega)
      have hx26 := ((HX25.out.alloc (.cells #[.int .u64 (tx : Int), .int .u64 (ty : Int), .int .u64 (tz : Int)] 116)).drew).grown hg6 (fun j hj h => by have := (HO5.out.lt j hj).1; omega)
      obtain ⟨w9, hw9⟩ : ∃ u, u = w6.setCell ⟨w2.heap.size, 11, none⟩ (.slice a6 (dn.length + 1) n6) := ⟨_, rfl⟩
      have hu9 : Upd (At w2.heap.size) w6 w9 := by rw [hw9]; exact Upd.own _ _ _ _
      have hg9 : w9.heap[w2.heap.size]? = some (.cells #[.int .u64 (x : Int), .int .u64 (y : Int), .int .u64 0, .int .u64 0, .int .u64 0, .int .u64 0, .bool false, .slice none 0 0, .slice none 0 0, .bool false, .slice none 0 0, .slice a6 (dn.length + 1) n6] 96 (0, 0)) := by rw [hw9]; exact setAt hgy
      rw [<- hw9]
      have HX9 := zq (hx6.step hu9 (fun i hi e => by have e : i = w2.heap.size := e; omega))
      have HX29 := zq (hx26.step hu9 (fun i hi e => by have e : i = w2.heap.size := e; omega))
      have HO9 := zq (hu9.ownsRow hown6 (fun k hk e => by have := (hown6.lt k hk).1; have e : k = w2.heap.size := e; omega))
      have HY9 := zq hg9
      clear hgy hx6 hx26 hw9 hu9 hg9 hown6 hg6 f6 l6 c6 g3 f3 l3 hlit hsrc hbase e0 e1 e2
      go_wp2
      go_roundw
      case rel =>
       refine ⟨q2, dn ++ [(tx, ty, tz)], _, rfl, HY9, zq ?_, HX9, HX29, hq2, by simp; omega, by simp; omega, zq ?_⟩
       ·rw [flatT_snoc, List.length_append]; exact HO9.out
       ·rw [List.length_append]; exact HJ2.out
      case measure => simp [intOf]; omega
   ·have hlti : ¬ (dn.length : Int) < (z : Int) := by omega
    have hE := joinO_end HJ.out hlt
    have HE := zq hE
    clear hE hlt
    go_upto_region 5 with fail
    go_region
    obtain ⟨w4, hw4⟩ : ∃ u, u = wr.drew := ⟨_, rfl⟩
    rw [<- hw4]
    have hu4 : Ext wr w4 := by rw [hw4]; exact uZ.drew
    have HY4 := zq (hu4.at_ HY.out id)
    have HX4 := zq (HX.out.trans hu4)
    have HG4 := zq ((HX2R.out.trans hu4).at_ HG2.out id)
    have HR4 := zq ((Row.of_owns HOWN.out).ext hu4)
    have hl0 : 0 < l.length := by omega
    clear hw4 hu4 g11 gl d2 HY HOWN
    obtain ⟨bb, ob, cc, ebb, -, hbc, hbm2, hbq⟩ := H.out.addr hl0
    cases ebb
    have hai : (a : Int) <= (l.length : Int) := by omega
    obtain ⟨A, hA, hsub⟩ : ∃ A, (if c0 = a then some ⟨bb, ob, none⟩ else some ⟨bb, ob + a, none⟩ : Option Addr) = A /\ Bytes S w4 (.slice A (l.length - a) (c0 - a)) (l.drop a) := ⟨_, rfl, sub_row (H.out.ext HX4.out) ha⟩
    have HSUB := zq hsub
    have HDL := zq (show (l.drop a).length <= 1000000 by simp; omega)
    have e0 := cZ HY4.out 0 _ rfl
    have l4 := lZ HY4.out
    clear hsub hbq
    by_cases hxz : x = 0
    ·have HXZ := zq hxz
     have hbx : ((x : Int) == 0) = true := by simp [hxz]
     clear hxz
     go_wp2_with (go_at_call 70; fail)
     refine (rcatParse_any w4 _ _ HSUB.out HDL.out).mono ?_
     rintro e w7 ⟨hx7, hs, hnn⟩
     have HX7 := zq (HX4.out.trans hx7)
     have HG7 := zq (hx7.at_ HG4.out id)
     have HY7 := zq (hx7.at_ HY4.out id)
     have HR7 := zq (HR4.out.ext hx7)
     have b10 := cZ HY7.out 10 (.slice none 0 0) rfl
     have f10 := freeAt HY7.out 10
     have l10 := lZ HY7.out
     have HSZ := zq hx7.size
     clear hx7 e0 l4 hA
     cases hc : catO (l.drop a) with
     | none =>
      obtain ⟨E, hE, rfl⟩ := hnn hc
      have hb : (E == 0) = false := by simpa using hE
      have HB := zq (show stO l = none by have h1 := HT.out; rw [HXZ.out] at h1; rw [stO_cat h1 HE.out, hc]; rfl)
      clear hs hnn hc hE
      obtain ⟨w8, hw8⟩ : ∃ u, u = w7.setCell ⟨w2.heap.size, 10, none⟩ (.slice none 0 0) := ⟨_, rfl⟩
      have HU8 := zq (show Upd (At w2.heap.size) w7 w8 by rw [hw8]; exact Upd.own _ _ _ _)
      have HYE := zq (show w8.heap[w2.heap.size]? = some (.cells #[.int .u64 (x : Int), .int .u64 (y : Int), .int .u64 0, .int .u64 0, .int .u64 0, .int .u64 0, .bool false, .slice none 0 0, .slice none 0 0, .bool false, .slice none 0 0, .slice ra dn.length rc] 96 (0, 0)) by rw [hw8]; exact setAt HY7.out)
      have HW8 := zq hw8
      clear hw8
      go_upto_region 14 with fail
      rw [<- HW8.out]
      clear b10 f10 l10
      have HXE := zq (HX7.out.step HU8.out (fun i hi e => by have e : i = w2.heap.size := e; omega))
      have HGE := zq (HU8.out.at_ HG7.out (by unfold At; omega))
      have HRE := zq (HR7.out.upd HU8.out (fun k h e => by have h : w2.heap.size + 1 <= k := h; have e : k = w2.heap.size := e; omega))
      have z0 := cZ HYE.out 0 _ rfl
      have z1 := cZ HYE.out 1 _ rfl
      have z2 := cZ HYE.out 2 _ rfl
      have z3 := cZ HYE.out 3 _ rfl
      have z4 := cZ HYE.out 4 _ rfl
      have z5 := cZ HYE.out 5 _ rfl
      have z6 := cZ HYE.out 6 _ rfl
      have z7 := cZ HYE.out 7 _ rfl
      have z8 := cZ HYE.out 8 _ rfl
      have z9 := cZ HYE.out 9 _ rfl
      have z10 := cZ HYE.out 10 _ rfl
      have z11 := cZ HYE.out 11 _ rfl
      have zl := lZ HYE.out
      go_wp2_with (refine wpList_store_blk rfl _ _ _ rfl rfl (cells := #[.int .u64 (x : Int), .int .u64 (y : Int), .int .u64 0, .int .u64 0, .int .u64 0, .int .u64 0, .bool false, .slice none 0 0, .slice none 0 0, .bool false, .slice none 0 0, .slice ra dn.length rc]) rfl (g := w.heap.size) HGE.out Tryz.rstT rfl (by simp [AllOne, Value.oneCell']) ?_)
      have hg10 : (w8.setRow w.heap.size #[.int .u64 (x : Int), .int .u64 (y : Int), .int .u64 0, .int .u64 0, .int .u64 0, .int .u64 0, .bool false, .slice none 0 0, .slice none 0 0, .bool false, .slice none 0 0, .slice ra dn.length rc]).heap[w.heap.size]? = some (.cells #[.int .u64 (x : Int), .int .u64 (y : Int), .int .u64 0, .int .u64 0, .int .u64 0, .int .u64 0, .bool false, .slice none 0 0, .slice none 0 0, .bool false, .slice none 0 0, .slice ra dn.length rc] 96 (0, 0)) := setRow_heap _ _ _ _ _ _ HGE.out
      have hx10 : Ext w (w8.setRow w.heap.size #[.int .u64 (x : Int), .int .u64 (y : Int), .int .u64 0, .int .u64 0, .int .u64 0, .int .u64 0, .bool false, .slice none 0 0, .slice none 0 0, .bool false, .slice none 0 0, .slice ra dn.length rc]) := HXE.out.step (Upd.row _ _ _) (fun k hk e => by have e : k = w.heap.size := e; omega)
      have hur : Upd (At w.heap.size) w8 (w8.setRow w.heap.size #[.int .u64 (x : Int), .int .u64 (y : Int), .int .u64 0, .int .u64 0, .int .u64 0, .int .u64 0, .bool false, .slice none 0 0, .slice none 0 0, .bool false, .slice none 0 0, .slice ra dn.length rc]) := Upd.row _ _ _
      refine bodyPost_blk2 rfl rfl rfl hg10 Tryz.rstT ?_
      exact ⟨_, false, rfl, hx10, ⟨x, y, _, 0, 0, 0, 0, false, false, none, none, none, ra, 0, 0, 0, 0, 0, 0, dn.length, rc, rfl, rfl⟩, fun _ => HB.out, fun e => (by cases e)⟩
     | some es =>
      obtain ⟨cv, rfl, hcrow⟩ := hs es hc
      have HCR := zq hcrow
      obtain ⟨ca, cn, rfl, -, -, -⟩ := hcrow
      have HB := zq (show stO l = some ⟨x, y, dn, .cat es⟩ by have h1 := HT.out; rw [HXZ.out] at h1 ⊢; rw [stO_cat h1 HE.out, hc]; rfl)
      clear hs hnn hc
      obtain ⟨w8, hw8⟩ : ∃ u, u = w7.setCell ⟨w2.heap.size, 10, none⟩ (.slice ca es.length cn) := ⟨_, rfl⟩
      have HU8 := zq (show Upd (At w2.heap.size) w7 w8 by rw [hw8]; exact Upd.own _ _ _ _)
      have HYE := zq (show w8.heap[w2.heap.size]? = some (.cells #[.int .u64 (x : Int), .int .u64 (y : Int), .int .u64 0, .int .u64 0, .int .u64 0, .int .u64 0, .bool false, .slice none 0 0, .slice none 0 0, .bool false, .slice ca es.length cn, .slice ra dn.length rc] 96 (0, 0)) by rw [hw8]; exact setAt HY7.out)
      have HW8 := zq hw8
      clear hw8
      go_upto_region 14 with fail
      rw [<- HW8.out]
      clear b10 f10 l10
      have HXE := zq (HX7.out.step HU8.out (fun i hi e => by have e : i = w2.heap.size := e; omega))
      have HGE := zq (HU8.out.at_ HG7.out (by unfold At; omega))
      have HRE := zq (HR7.out.upd HU8.out (fun k h e => by have h : w2.heap.size + 1 <= k := h; have e : k = w2.heap.size := e; omega))
      have z0 := cZ HYE.out 0 _ rfl
      have z1 := cZ HYE.out 1 _ rfl
      have z2 := cZ HYE.out 2 _ rfl
      have z3 := cZ HYE.out 3 _ rfl
      have z4 := cZ HYE.out 4 _ rfl
      have z5 := cZ HYE.out 5 _ rfl
      have z6 := cZ HYE.out 6 _ rfl
      have z7 := cZ HYE.out 7 _ rfl
      have z8 := cZ HYE.out 8 _ rfl
      have z9 := cZ HYE.out 9 _ rfl
      have z10 := cZ HYE.out 10 _ rfl
      have z11 := cZ HYE.out 11 _ rfl
      have zl := lZ HYE.out
      go_wp2_with (refine wpList_store_blk rfl _ _ _ rfl rfl (cells := #[.int .u64 (x : Int), .int .u64 (y : Int), .int .u64 0, .int .u64 0, .int .u64 0, .int .u64 0, .bool false, .slice none 0 0, .slice none 0 0, .bool false, .slice ca es.length cn, .slice ra dn.length rc]) rfl (g := w.heap.size) HGE.out Tryz.rstT rfl (by simp [AllOne, Value.oneCell']) ?_)
      have hg10 : (w8.setRow w.heap.size #[.int .u64 (x : Int), .int .u64 (y : Int), .int .u64 0, .int .u64 0, .int .u64 0, .int .u64 0, .bool false, .slice none 0 0, .slice none 0 0, .bool false, .slice ca es.length cn, .slice ra dn.length rc]).heap[w.heap.size]? = some (.cells #[.int .u64 (x : Int), .int .u64 (y : Int), .int .u64 0, .int .u64 0, .int .u64 0, .int .u64 0, .bool false, .slice none 0 0, .slice none 0 0, .bool false, .slice ca es.length cn, .slice ra dn.length rc] 96 (0, 0)) := setRow_heap _ _ _ _ _ _ HGE.out
      have hx10 : Ext w (w8.setRow w.heap.size #[.int .u64 (x : Int), .int .u64 (y : Int), .int .u64 0, .int .u64 0, .int .u64 0, .int .u64 0, .bool false, .slice none 0 0, .slice none 0 0, .bool false, .slice ca es.length cn, .slice ra dn.length rc]) := HXE.out.step (Upd.row _ _ _) (fun k hk e => by have e : k = w.heap.size := e; omega)
      have hur : Upd (At w.heap.size) w8 (w8.setRow w.heap.size #[.int .u64 (x : Int), .int .u64 (y : Int), .int .u64 0, .int .u64 0, .int .u64 0, .int .u64 0, .bool false, .slice none 0 0, .slice none 0 0, .bool false, .slice ca es.length cn, .slice ra dn.length rc]) := Upd.row _ _ _
      refine bodyPost_blk2 rfl rfl rfl hg10 Tryz.rstT ?_
      refine ⟨_, true, rfl, hx10, ⟨x, y, _, 0, 0, 0, 0, false, false, none, none, ca, ra, 0, 0, 0, 0, es.length, cn, dn.length, rc, rfl, rfl⟩, fun e => (by cases e), fun _ => ⟨_, HB.out, ra, rc, (HRE.out.upd hur (fun k h e => by have h : w2.heap.size + 1 <= k := h; have e : k = w.heap.size := e; omega)).mono (fun k h => by have h : w2.heap.size + 1 <= k := h; show w.heap.size <= k; omega), ca, cn, rfl, ?_⟩⟩
      exact ((HCR.out.upd HU8.out (fun k h e => by have h : w4.heap.size <= k := h; have e : k = w2.heap.size := e; have := lZ HY4.out; omega)).upd hur (fun k h e => by have h : w4.heap.size <= k := h; have e : k = w.heap.size := e; have := lZ HY4.out; omega)).mono (fun k h => by have h : w4.heap.size <= k := h; have := HX4.out.size; show w.heap.size <= k; omega)
    ·have HXZ := zq hxz
     have hbx : ((x : Int) == 0) = false := by simp; omega
     clear hxz
     go_wp2_with (go_at_call 71; fail)
     refine (rdocParse_any w4 _ _ HSUB.out HDL.out).mono ?_
     rintro e w7 ⟨E, e0', e1', e2', e3', hd, sd, pa, va, pn, pc, vn, vc, rfl, hx7, hdbad, hdok⟩
     have HX7 := zq (HX4.out.trans hx7)
     have HG7 := zq (hx7.at_ HG4.out id)
     have HY7 := zq (hx7.at_ HY4.out id)
     have HR7 := zq (HR4.out.ext hx7)
     have HDOK := zq hdok
     have HDBAD := zq hdbad
     have hone : AllOne (docC e0' e1' e2' e3' hd sd pa va pn pc vn vc) := by simp [AllOne, docC, Value.oneCell']
     have HSZ := zq hx7.size
     clear hx7 l4 hA hdok hdbad e0
     go_upto_region 14 with (refine wpList_store_in rfl 92 (.tmp 79) (.tmp 77) rfl (i := 2) (g := w2.heap.size) (cells := docC e0' e1' e2' e3' hd sd pa va pn pc vn vc) rfl rfl HY7.out Tryz.rdocT (Nat.le_of_ble_eq_true rfl) hone ?_; intro w8 hu8 hy8)
     have HYE := zq (show w8.heap[w2.heap.size]? = some (.cells #[.int .u64 (x : Int), .int .u64 (y : Int), .int .u64 (e0' : Int), .int .u64 (e1' : Int), .int .u64 (e2' : Int), .int .u64 (e3' : Int), .bool hd, .slice pa pn pc, .slice va vn vc, .bool sd, .slice none 0 0, .slice ra dn.length rc] 96 (0, 0)) from hy8)
     have HU8 := zq hu8
     clear hu8 hy8 hone
     have HXE := zq (HX7.out.step HU8.out (fun i hi e => by have e : i = w2.heap.size := e; omega))
     have HGE := zq (HU8.out.at_ HG7.out (by unfold At; omega))
     have HRE := zq (HR7.out.upd HU8.out (fun k h e => by have h : w2.heap.size + 1 <= k := h; have e : k = w2.heap.size := e; omega))
     have z0 := cZ HYE.out 0 _ rfl
     have z1 := cZ HYE.out 1 _ rfl
     have z2 := cZ HYE.out 2 _ rfl
     have z3 := cZ HYE.out 3 _ rfl
     have z4 := cZ HYE.out 4 _ rfl
     have z5 := cZ HYE.out 5 _ rfl
     have z6 := cZ HYE.out 6 _ rfl
     have z7 := cZ HYE.out 7 _ rfl
     have z8 := cZ HYE.out 8 _ rfl
     have z9 := cZ HYE.out 9 _ rfl
     have z10 := cZ HYE.out 10 _ rfl
     have z11 := cZ HYE.out 11 _ rfl
     have zl := lZ HYE.out
     go_wp2_with (refine wpList_store_blk rfl _ _ _ rfl rfl (cells := #[.int .u64 (x : Int), .int .u64 (y : Int), .int .u64 (e0' : Int), .int .u64 (e1' : Int), .int .u64 (e2' : Int), .int .u64 (e3' : Int), .bool hd, .slice pa pn pc, .slice va vn vc, .bool sd, .slice none 0 0, .slice ra dn.length rc]) rfl (g := w.heap.size) HGE.out Tryz.rstT rfl (by simp [AllOne, Value.oneCell']) ?_)
     have hg10 : (w8.setRow w.heap.size #[.int .u64 (x : Int), .int .u64 (y : Int), .int .u64 (e0' : Int), .int .u64 (e1' : Int), .int .u64 (e2' : Int), .int .u64 (e3' : Int), .bool hd, .slice pa pn pc, .slice va vn vc, .bool sd, .slice none 0 0, .slice ra dn.length rc]).heap[w.heap.size]? = some (.cells #[.int .u64 (x : Int), .int .u64 (y : Int), .int .u64 (e0' : Int), .int .u64 (e1' : Int), .int .u64 (e2' : Int), .int .u64 (e3' : Int), .bool hd, .slice pa pn pc, .slice va vn vc, .bool sd, .slice none 0 0, .slice ra dn.length rc] 96 (0, 0)) := setRow_heap _ _ _ _ _ _ HGE.out
     have hx10 : Ext w (w8.setRow w.heap.size #[.int .u64 (x : Int), .int .u64 (y : Int), .int .u64 (e0' : Int), .int .u64 (e1' : Int), .int .u64 (e2' : Int), .int .u64 (e3' : Int), .bool hd, .slice pa pn pc, .slice va vn vc, .bool sd, .slice none 0 0, .slice ra dn.length rc]) := HXE.out.step (Upd.row _ _ _) (fun k hk e => by have e : k = w.heap.size := e; omega)
     have hur : Upd (At w.heap.size) w8 (w8.setRow w.heap.size #[.int .u64 (x : Int), .int .u64 (y : Int), .int .u64 (e0' : Int), .int .u64 (e1' : Int), .int .u64 (e2' : Int), .int .u64 (e3' : Int), .bool hd, .slice pa pn pc, .slice va vn vc, .bool sd, .slice none 0 0, .slice ra dn.length rc]) := Upd.row _ _ _
     refine bodyPost_blk2 rfl rfl rfl hg10 Tryz.rstT ?_
     by_cases hE : E = 0
     ·subst hE
      obtain ⟨dd, hdd, rfl, rfl, rfl, rfl, rfl, rfl, -, -, hpr, hvr⟩ := HDOK.out rfl
      have HB := zq (show stO l = some ⟨x, y, dn, .doc dd⟩ by rw [stO_doc HT.out HE.out HXZ.out, hdd]; rfl)
      obtain ⟨pa', pc', e1, -⟩ := id hpr
      cases e1
      obtain ⟨va', vc', e2, -⟩ := id hvr
      cases e2
      refine ⟨_, true, rfl, hx10, ⟨x, y, _, dd.epoch, dd.proc, dd.inc, dd.until_, _, _, pa, va, none, ra, dd.pins.length, pc, dd.vers.length, vc, 0, 0, dn.length, rc, rfl, rfl⟩, fun e => (by cases e), fun _ => ⟨_, HB.out, ra, rc, (HRE.out.upd hur (fun k h e => by have h : w2.heap.size + 1 <= k := h; have e : k = w.heap.size := e; omega)).mono (fun k h => by have h : w2.heap.size + 1 <= k := h; show w.heap.size <= k; omega), pa, pc, va, vc, rfl, ?_, ?_⟩⟩
      ·exact ((hpr.upd HU8.out (fun k h e => by have h : w4.heap.size <= k := h; have e : k = w2.heap.size := e; have := lZ HY4.out; omega)).upd hur (fun k h e => by have h : w4.heap.size <= k := h; have e : k = w.heap.size := e; have := lZ HY4.out; omega)).mono (fun k h => by have h : w4.heap.size <= k := h; have := HX4.out.size; show w.heap.size <= k; omega)
      ·exact ((hvr.upd HU8.out (fun k h e => by have h : w4.heap.size <= k := h; have e : k = w2.heap.size := e; have := lZ HY4.out; omega)).upd hur (fun k h e => by have h : w4.heap.size <= k := h; have e : k = w.heap.size := e; have := lZ HY4.out; omega)).mono (fun k h => by have h : w4.heap.size <= k := h; have := HX4.out.size; show w.heap.size <= k; omega)
     ·have hb : (E == 0) = false := by simpa using hE
      have HB := zq (show stO l = none by rw [stO_doc HT.out HE.out HXZ.out, HDBAD.out hE]; rfl)
      refine ⟨_, false, ?_, hx10, ⟨x, y, _, e0', e1', e2', e3', hd, sd, pa, va, none, ra, pn, pc, vn, vc, 0, 0, dn.length, rc, rfl, rfl⟩, fun _ => HB.out, fun e => (by cases e)⟩
      show Ending.returned (.tuple #[.agg _, .bool (E == 0)]) = _
      rw [hb]
      rfl
end Go.Proofs.YtnkmpoplibnflaaGreatDoor.Wk
set_option maxRecDepth 100000
set_option maxHeartbeats 16000000
namespace Go.Proofs.YtnkmpoplibnflaaGreatDoor.Wk
open Go Go.Proofs.YtnkmpoplibnflaaGreatDoor Go.RowKit
abbrev TrB (t : Tr) : Prop := t.1 < 18446744073709551616 /\ t.2.1 < 18446744073709551616 /\ t.2.2 < 18446744073709551616
theorem tripO_lt {l : List UInt8} {p q : Nat} {t : Tr} (h : tripO l p = some (t, q)) : TrB t := by
 have hlt := manyO_all (P := fun n => n < 18446744073709551616) num_lt (tripO_ok h)
 exact ⟨hlt _ (by simp), hlt _ (by simp), hlt _ (by simp)⟩
theorem entO_lt {l : List UInt8} {p q : Nat} {e : Ent} (h : entO l p = some (e, q)) : e.2 < 18446744073709551616 := by
 unfold entO at h
 split at h
 ·cases h
 ·split at h
  ·cases h
  ·rename_i n r h2
   simp only [Option.some.injEq, Prod.mk.injEq] at h
   obtain ⟨rfl, rfl⟩ := h
   exact num_lt h2
theorem verO_lt {l : List UInt8} {p q : Nat} {e : Ver} (h : verO l p = some (e, q)) : e.1 < 18446744073709551616 := by
 unfold verO at h
 split at h
 ·cases h
 ·rename_i n r h1
  split at h
  ·cases h
  ·simp only [Option.some.injEq, Prod.mk.injEq] at h
   obtain ⟨rfl, rfl⟩ := h
   exact num_lt h1
theorem catO_lt {l : List UInt8} {es : List Ent} (h : catO l = some es) : ∀ e ∈ es, e.2 < 18446744073709551616 := by
 unfold catO at h
 split at h
 ·cases h
 ·split at h
  ·cases h
  ·rename_i xs q h2
   split at h
   ·cases h; exact manyO_all (P := fun e => e.2 < 18446744073709551616) entO_lt h2
   ·cases h
theorem versO_lt {l : List UInt8} {es : List Ver} (h : versO l = some es) : ∀ e ∈ es, e.1 < 18446744073709551616 := by
 unfold versO at h
 split at h
 ·cases h
 ·split at h
  ·cases h
  ·rename_i xs q h2
   split at h
   ·cases h; exact manyO_all (P := fun e => e.1 < 18446744073709551616) verO_lt h2
   ·cases h
theorem pinsO_lt {l : List UInt8} {p q : Nat} {ps : List Tr} (h : pinsO l p = some (ps, q)) : ∀ e ∈ ps, TrB e := by
 unfold pinsO at h
 split at h
 ·cases h
 ·split at h
  ·cases h
  ·rename_i xs r h2
   split at h
   ·simp only [Option.some.injEq, Prod.mk.injEq] at h
    obtain ⟨rfl, rfl⟩ := h
    exact manyO_all (P := TrB) tripO_lt h2
   ·cases h
theorem docO_lt {l : List UInt8} {d : DocP} (h : docO l = some d) : (∀ n ∈ d.nums, n < 18446744073709551616) /\ (∀ e ∈ d.pins, TrB e) /\ (∀ e ∈ d.vers, e.1 < 18446744073709551616) := by
 unfold docO at h
 split at h
 ·rename_i a b c d' e f p h1
  split at h
  ·cases h
  ·rename_i ps q h2
   split at h
   ·split at h
    ·cases h
    ·split at h
     ·split at h
      ·cases h
      ·rename_i vs h6
       cases h
       exact ⟨manyO_all (P := fun n => n < 18446744073709551616) num_lt h1, pinsO_lt h2, versO_lt h6⟩
     ·cases h
   ·cases h
 ·cases h
structure StBd (x : StP) : Prop where
 chain : x.chain < 18446744073709551616
 tail : x.tail < 18446744073709551616
 last : ∀ e ∈ x.last, TrB e
 cat : ∀ es, x.cont = .cat es -> ∀ e ∈ es, e.2 < 18446744073709551616
 doc : ∀ d, x.cont = .doc d -> (∀ n ∈ d.nums, n < 18446744073709551616) /\ (∀ e ∈ d.pins, TrB e) /\ (∀ e ∈ d.vers, e.1 < 18446744073709551616)
theorem stO_lt {l : List UInt8} {x : StP} (h : stO l = some x) : StBd x := by
 unfold stO at h
 split at h
 ·rename_i a b c p h1
  have hn := manyO_all (P := fun n => n < 18446744073709551616) num_lt h1
  split at h
  ·cases h
  ·rename_i ts q h2
   have ht := manyO_all (P := TrB) tripO_lt h2
   split at h
   ·obtain ⟨es, he, rfl⟩ := Option.map_eq_some_iff.1 h
    exact ⟨hn _ (by simp), hn _ (by simp), ht, fun es' e => by cases e; exact catO_lt he, fun d e => (by cases e)⟩
   ·obtain ⟨d, he, rfl⟩ := Option.map_eq_some_iff.1 h
    exact ⟨hn _ (by simp), hn _ (by simp), ht, fun es' e => (by cases e), fun d' e => by cases e; exact docO_lt he⟩
 ·cases h
end Go.Proofs.YtnkmpoplibnflaaGreatDoor.Wk
