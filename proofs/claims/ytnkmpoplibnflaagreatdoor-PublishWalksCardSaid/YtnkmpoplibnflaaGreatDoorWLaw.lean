/-
  THE LAW PublishWalks: whatever comes in, it hands back true. Conditions: what the works give; the library's variables lie as they are laid.
-/
import Derived.Test.YtnkmpoplibnflaaGreatDoorGBQ
import Derived.Deep.CutRange
set_option maxRecDepth 100000
set_option maxHeartbeats 16000000
namespace Go.Proofs.YtnkmpoplibnflaaGreatDoor.Wk
open Go Go.Proofs.YtnkmpoplibnflaaGreatDoor Go.RowKit
theorem machine2_any {S : Nat -> Prop} (w : World) (c : Cfg) (hc : c.Ok) (ba : Option Addr) (bc : Nat) (h2 : Bytes S w (.slice ba c.bytes.length bc) c.bytes) (ht : Tab w) :
  Calls Tryz.prog 7 #[.agg #[.int .u64 (c.chain : Int), .int .u64 (c.n : Int), .int .u64 (c.proc : Int), .int .u64 (c.inc : Int), .int .u64 (c.seq : Int), .int .u64 (c.k : Int), .slice ba c.bytes.length bc]] w fun r w' => ∃ B, w.heap.size <= B /\ r = .returned (.pointer (some ⟨B, 0, none⟩)) /\ Ext w w' /\ (∀ w'', Upd (Till w.heap.size) w' w'' -> IsMac w'' B c (startP c) false) := by
 obtain ⟨w1, hw1⟩ : ∃ u, u = w.alloc (.cells #[.int .u64 (c.chain : Int), .int .u64 (c.n : Int), .int .u64 (c.proc : Int), .int .u64 (c.inc : Int), .int .u64 (c.seq : Int), .int .u64 (c.k : Int), .slice ba c.bytes.length bc] 25) := ⟨_, rfl⟩
 have hx1 : Ext w w1 := by rw [hw1]; exact uZ.alloc _
 have ha : w1.heap[w.heap.size]? = some (.cells #[.int .u64 (c.chain : Int), .int .u64 (c.n : Int), .int .u64 (c.proc : Int), .int .u64 (c.inc : Int), .int .u64 (c.seq : Int), .int .u64 (c.k : Int), .slice ba c.bytes.length bc] 25 (0, 0)) := by rw [hw1]; exact newAt _ _
 have HW1 := zq hw1
 have HX1 := zq hx1
 have H2 := zq h2
 have HT := zq ht
 have HC := zq hc
 have a0 := cZ ha 0 _ rfl
 have a1 := cZ ha 1 _ rfl
 have a2 := cZ ha 2 _ rfl
 have a3 := cZ ha 3 _ rfl
 have a4 := cZ ha 4 _ rfl
 have a5 := cZ ha 5 _ rfl
 have a6 := cZ ha 6 _ rfl
 have al := lZ ha
 clear hw1 ha hx1 h2 ht hc
 go_enter Tryz.func7, Tryz.ntmps7
 go_upto_region 1 with fail
 rw [show w.alloc (.cells #[.int .u64 (c.chain : Int), .int .u64 (c.n : Int), .int .u64 (c.proc : Int), .int .u64 (c.inc : Int), .int .u64 (c.seq : Int), .int .u64 (c.k : Int), .slice ba c.bytes.length bc] 25) = w1 from HW1.out.symm]
 go_wp2_with (go_at_call 20; fail)
 refine (new_any w1 c.chain c.n c.proc c.inc c.seq c.k _ c.bytes HC.out.chain HC.out.n HC.out.proc HC.out.inc HC.out.k (H2.out.ext HX1.out) HC.out.bytes (tab_ext HT.out HX1.out)).mono ?_
 rintro r w2 ⟨B, bv, hB, rfl, hx2, hm, hbv⟩
 have HX2 := zq (HX1.out.trans hx2)
 have HM := zq hm
 have HBV := zq hbv
 have HBB := zq (Nat.le_trans HX1.out.size hB)
 clear hx2 hm hbv hB
 go_wp2
 go_ret
 refine ⟨B, HBB.out, rfl, HX2.out, fun w9 hu9 => ?_⟩
 have hb : Bytes (Till B) w9 bv c.bytes := (HBV.out.upd hu9 (fun k h e => by have e : k < w.heap.size := e; have := h.1; have := HX1.out.size; omega)).mono (fun k h => h.2)
 have hm := hu9.at_ HM.out (fun e => by have e : B < w.heap.size := e; have := HBB.out; omega)
 by_cases hz : c.n = 0
 ·rw [decide_eq_true hz, if_pos hz] at hm
  rw [show startP c = ⟨10, 2, 0⟩ from if_pos hz]
  exact isMac_10 hb hm
 ·rw [decide_eq_false hz, if_neg hz] at hm
  rw [show startP c = ⟨1, 0, 0⟩ from if_neg hz]
  exact ⟨bv, _, _, _, _, _, hm, hb, fun _ => rfl, fun h => absurd h (by simp), fun _ => ⟨by omega, rfl, rfl, rfl, Row.nil _ _, rfl⟩⟩
theorem field_cfg (x0 x1 x2 x3 x4 x5 v : Value) (w : World) : (Instr.field 29 (.agg #[x0, x1, x2, x3, x4, x5, v]) 6).run Tryz.prog w = .ok v w := by kernel_rfl
def lwVal (B g11 g12 kk : Nat) (nm tt : List UInt8) (qa pa : Option Addr) (ql qc pc : Nat) (E : Int) (dn ln : Bool) : Nat -> Value
 | 0 => .bool (!dn)
 | 1 => .pointer (some ⟨g11, 4, none⟩)
 | 2 => .bool dn
 | 3 => .bool (!dn)
 | 4 => .bool false
 | 5 => .bool false
 | 6 => .pointer (some ⟨B, 0, none⟩)
 | 7 => .bool dn
 | 8 => .pointer (some ⟨g11, 4, none⟩)
 | 9 => .bool dn
 | 10 => .bool false
 | 11 => .bool false
 | 12 => .bool false
 | 13 => .pointer (some ⟨B, 0, none⟩)
 | 14 => .int .i64 E
 | 15 => .pointer (some ⟨g11, 5, none⟩)
 | 16 => .int .i64 E
 | 17 => .bool false
 | 18 => .bool false
 | 19 => .bool false
 | 20 => .pointer (some ⟨B, 0, none⟩)
 | 21 => .bool ln
 | 22 => .pointer (some ⟨g11, 6, none⟩)
 | 23 => .bool ln
 | 24 => .bool false
 | 25 => .bool false
 | 26 => .bool false
 | 27 => .agg #[.int .u8 (kk : Int), str nm, str tt, .slice qa ql qc]
 | 28 => .pointer (some ⟨g11, 0, none⟩)
 | 29 => .agg #[.int .u8 (kk : Int), str nm, str tt, .slice pa ql pc]
 | 30 => .bool true
 | 31 => .bool false
 | 32 => .bool false
 | _ => undef
def lwDst (i : Nat) : Tmp := 60 + i
theorem lwDst_ne {j t : Nat} (ht : t = 7 \/ t = 11 \/ t = 12 \/ t = 13) (e : lwDst j = t) : False := by
 unfold lwDst at e
 have e : (60 + j : Nat) = t := e
 rcases ht with rfl | rfl | rfl | rfl <;> (repeat' (split at e)) <;> omega
def lwPhi (B g11 g12 kk : Nat) (nm tt : List UInt8) (qa pa : Option Addr) (ql qc pc : Nat) (E : Int) (dn ln : Bool) (ix : Nat) (v : Value) (_ : World) : Prop := v = lwVal B g11 g12 kk nm tt qa pa ql qc pc E dn ln ix
theorem lwPhi.ext {B g11 g12 kk : Nat} {nm tt : List UInt8} {qa pa : Option Addr} {ql qc pc : Nat} {E : Int} {dn ln : Bool} {ix : Nat} {v : Value} {w w' : World} (h : lwPhi B g11 g12 kk nm tt qa pa ql qc pc E dn ln ix v w) (_ : Ext w w') : lwPhi B g11 g12 kk nm tt qa pa ql qc pc E dn ln ix v w' := by
 unfold lwPhi at h ⊢
 exact h
theorem isCall_any' {S T : Nat -> Prop} (w : World) (k : Nat) (nm tt : List UInt8) (va ua : Option Addr) (ql vc uc : Nat) (l : List UInt8) (h1 : Row S w (.slice va ql vc) l.length (l.map u8)) (h2 : Row T w (.slice ua ql uc) l.length (l.map u8)) :
  Calls Tryz.prog 13 #[.agg #[.int .u8 (k : Int), str nm, str tt, .slice va ql vc], .agg #[.int .u8 (k : Int), str nm, str tt, .slice ua ql uc]] w fun r w' => r = .returned (.bool true) /\ Ext w w' := by
 have h1' := h1
 obtain ⟨a, c, he, -⟩ := h1'
 cases he
 exact isCall_true w k nm tt va ua vc uc l h1 h2
theorem FedIs.form2 {base : Nat} {w : World} {v : Value} {L : List Res} (h : FedIs base w v L) : ∃ a m c, v = .slice a m c := by
 obtain ⟨a, c, h⟩ := h.form
 exact ⟨a, _, c, h⟩
theorem publishWalks_any {S : Nat -> Prop} (W : World) (c : Cfg) (hch : c.chain < 18446744073709551616) (hn6 : c.n < 18446744073709551616) (hpr : c.proc < 18446744073709551616) (hin : c.inc < 18446744073709551616) (hse : c.seq < 18446744073709551616) (hkk : c.k < 18446744073709551616)
  (ba : Option Addr) (bc : Nat) (hb : Bytes S W (.slice ba c.bytes.length bc) c.bytes) (v : Value) (L : List Res) (hL : ResIs S W v L) (hE : Env W)
  (hworks : ∀ w, Env w -> Calls Tryz.prog 5 #[] w fun e w' => e = .returned (.bool true) /\ Ext w w') :
  Calls Tryz.prog 3 #[.agg #[.int .u64 (c.chain : Int), .int .u64 (c.n : Int), .int .u64 (c.proc : Int), .int .u64 (c.inc : Int), .int .u64 (c.seq : Int), .int .u64 (c.k : Int), .slice ba c.bytes.length bc], v] W fun e w' => e = .returned (.bool true) /\ Ext W w' := by
 have HLV := zq hL
 have HBV := zq hb
 have HE := zq hE
 have HWK := zq hworks
 have HOK0 := zq (show c.bytes.length <= 300 -> c.Ok from fun h => ⟨hch, hn6, hpr, hin, hse, hkk, h⟩)
 obtain ⟨xs, hxs, hrow, hrows⟩ := hL
 have HXS := zq hxs
 have HROW := zq hrow
 have HROWS := zq hrows
 obtain ⟨sa, sc, rfl, hsc, hsm, -⟩ := hrow
 obtain ⟨_, _, hbq, hbc, hbm, -⟩ := id hb
 cases hbq
 unfold maxLen at hsm hbm
 have HLL := zq (show xs.length = L.length by rw [<- hxs, List.length_map])
 obtain ⟨w1, hw1⟩ : ∃ u, u = W.alloc (.cells #[.int .u64 (c.chain : Int), .int .u64 (c.n : Int), .int .u64 (c.proc : Int), .int .u64 (c.inc : Int), .int .u64 (c.seq : Int), .int .u64 (c.k : Int), .slice ba c.bytes.length bc] 25) := ⟨_, rfl⟩
 have hx1 : Ext W w1 := by rw [hw1]; exact uZ.alloc _
 have h2 : w1.heap[W.heap.size]? = some (.cells #[.int .u64 (c.chain : Int), .int .u64 (c.n : Int), .int .u64 (c.proc : Int), .int .u64 (c.inc : Int), .int .u64 (c.seq : Int), .int .u64 (c.k : Int), .slice ba c.bytes.length bc] 25 (0, 0)) := by rw [hw1]; exact newAt _ _
 obtain ⟨g2, hg2⟩ : ∃ g, g = W.heap.size := ⟨_, rfl⟩
 rw [<- hg2] at h2
 have HGG := zq hg2
 have HW1 := zq hw1
 have H2 := zq h2
 have HX1 := zq hx1
 have a6 := cZ h2 6 _ rfl
 have al := lZ h2
 clear hw1 h2 hx1 hg2 hrows hxs hch hn6 hpr hin hse hkk hb hE hworks
 go_enter Tryz.func3, Tryz.ntmps3
 go_upto_region 1 with fail
 rw [show W.alloc (.cells #[.int .u64 (c.chain : Int), .int .u64 (c.n : Int), .int .u64 (c.proc : Int), .int .u64 (c.inc : Int), .int .u64 (c.seq : Int), .int .u64 (c.k : Int), .slice ba c.bytes.length bc] 25) = w1 from HW1.out.symm, show W.heap.size = g2 from HGG.out.symm]
 by_cases h300 : 300 < c.bytes.length
 ·have hi : (300 : Int) < (c.bytes.length : Int) := by omega
  clear h300
  go_wp2_with (go_at_call 5; fail)
  refine (HWK.out w1 (HE.out.ext HX1.out)).mono ?_
  rintro e w2 ⟨rfl, hx2⟩
  have HX2 := zq (HX1.out.trans hx2)
  clear hx2
  go_wp2
  go_ret
  exact ⟨rfl, HX2.out⟩
 have hi : ¬ (300 : Int) < (c.bytes.length : Int) := by omega
 have HOK := zq (HOK0.out (Nat.le_of_not_lt h300))
 clear h300
 go_wp2_with (go_at_call 4; fail)
 refine (few_any w1 _ L (HLV.out.ext HX1.out)).mono ?_
 rintro e w2 ⟨b, rfl, hfew, hx2⟩
 have HX2 := zq (HX1.out.trans hx2)
 have h2 := hx2.at_ H2.out id
 have H22 := zq h2
 have HFEW := zq hfew
 clear hx2 hfew hi a6 al
 cases b with
 | false =>
  go_wp2_with (go_at_call 5; fail)
  refine (HWK.out w2 (HE.out.ext HX2.out)).mono ?_
  rintro e w3 ⟨rfl, hx3⟩
  have HX3 := zq (HX2.out.trans hx3)
  clear hx3
  go_wp2
  go_ret
  exact ⟨rfl, HX3.out⟩
 | true =>
 obtain ⟨h40, hres⟩ := HFEW.out rfl
 have HRES := zq hres
 have HL40 := zq h40
 clear hres
 have a0 := cZ h2 0 _ rfl
 have a1 := cZ h2 1 _ rfl
 have a2 := cZ h2 2 _ rfl
 have a3 := cZ h2 3 _ rfl
 have a4 := cZ h2 4 _ rfl
 have a5 := cZ h2 5 _ rfl
 have a6 := cZ h2 6 _ rfl
 have al := lZ h2
 clear h2
 go_wp2_with (go_at_call 6; fail)
 refine (ref_any w2 c HOK.out ba bc (HBV.out.ext HX2.out)).mono ?_
 rintro e w3 ⟨va, vc, rfl, hrv, hx3⟩
 obtain ⟨w4, hw4⟩ : ∃ u, u = w3.alloc (.cells #[.int .u64 (c.chain : Int), .int .u64 (c.n : Int), .int .u64 (c.proc : Int), .int .u64 (c.inc : Int), .int .u64 (c.seq : Int), .int .u64 (c.k : Int), .slice va c.bytes.length vc] 29) := ⟨_, rfl⟩
 obtain ⟨g5, hg5⟩ : ∃ g, g = w3.heap.size := ⟨_, rfl⟩
 have hx4 : Ext w3 w4 := by rw [hw4]; exact uZ.alloc _
 have H54 := zq (show w4.heap[g5]? = some (.cells #[.int .u64 (c.chain : Int), .int .u64 (c.n : Int), .int .u64 (c.proc : Int), .int .u64 (c.inc : Int), .int .u64 (c.seq : Int), .int .u64 (c.k : Int), .slice va c.bytes.length vc] 29 (0, 0)) by rw [hw4, hg5]; exact newAt _ _)
 have HW4 := zq hw4
 have HG5 := zq hg5
 have HRV3 := zq hrv
 have HX34 := zq hx4
 have HX4 := zq ((HX2.out.trans hx3).trans hx4)
 have HRV4 := zq (hx4.ownsRow hrv (fun _ _ e => e))
 have HG5W := zq (show W.heap.size <= g5 by rw [hg5]; exact (HX2.out.trans hx3).size)
 have h2 := hx4.at_ (hx3.at_ H22.out id) id
 have H24 := zq h2
 clear hx3 hx4 hw4 hg5 hrv a0 a1 a2 a3 a4 a5 a6 al
 go_upto_region 4 with fail
 rw [show w3.alloc (.cells #[.int .u64 (c.chain : Int), .int .u64 (c.n : Int), .int .u64 (c.proc : Int), .int .u64 (c.inc : Int), .int .u64 (c.seq : Int), .int .u64 (c.k : Int), .slice va c.bytes.length vc] 29) = w4 from HW4.out.symm, show w3.heap.size = g5 from HG5.out.symm]
 have a0 := cZ h2 0 _ rfl
 have a1 := cZ h2 1 _ rfl
 have a2 := cZ h2 2 _ rfl
 have a3 := cZ h2 3 _ rfl
 have a4 := cZ h2 4 _ rfl
 have a5 := cZ h2 5 _ rfl
 have a6 := cZ h2 6 _ rfl
 have al := lZ h2
 clear h2
 go_upto_region 5 with fail
 obtain ⟨w5, hw5⟩ : ∃ u, u = w4.alloc (.cells #[.int .u64 (c.chain : Int), .int .u64 (c.n : Int), .int .u64 (c.proc : Int), .int .u64 (c.inc : Int), .int .u64 (c.seq : Int), .int .u64 (c.k : Int), .slice ba c.bytes.length bc] 25) := ⟨_, rfl⟩
 obtain ⟨g6, hg6⟩ : ∃ g, g = w4.heap.size := ⟨_, rfl⟩
 rw [<- hw5, <- hg6]
 have hx5 : Ext w4 w5 := by rw [hw5]; exact uZ.alloc _
 have H65 := zq (show w5.heap[g6]? = some (.cells #[.int .u64 (c.chain : Int), .int .u64 (c.n : Int), .int .u64 (c.proc : Int), .int .u64 (c.inc : Int), .int .u64 (c.seq : Int), .int .u64 (c.k : Int), .slice ba c.bytes.length bc] 25 (0, 0)) by rw [hw5, hg6]; exact newAt _ _)
 have HG6 := zq (show g5 < g6 by rw [hg6]; exact lZ H54.out)
 have HX45 := zq hx5
 have HX5 := zq (HX4.out.trans hx5)
 have H55 := zq (hx5.at_ H54.out id)
 have HRV5 := zq (hx5.ownsRow HRV4.out (fun _ _ e => e))
 have h2 := hx5.at_ H24.out id
 clear hw5 hg6 hx5 a0 a1 a2 a3 a4 a5 a6 al
 have a0 := cZ h2 0 _ rfl
 have a1 := cZ h2 1 _ rfl
 have a2 := cZ h2 2 _ rfl
 have a3 := cZ h2 3 _ rfl
 have a4 := cZ h2 4 _ rfl
 have a5 := cZ h2 5 _ rfl
 have a6 := cZ h2 6 _ rfl
 have al := lZ h2
 clear h2
 go_wp2_with (go_at_call 6; fail)
 refine (ref_any w5 c HOK.out ba bc (HBV.out.ext HX5.out)).mono ?_
 rintro e w6 ⟨ua, uc, rfl, huv, hx6⟩
 have h6 := hx6.at_ H65.out id
 have HUV6 := zq huv
 have H66 := zq h6
 have H56 := zq (hx6.at_ H55.out id)
 have HRV6 := zq (hx6.ownsRow HRV5.out (fun _ _ e => e))
 have HX56 := zq hx6
 have HX6 := zq (HX5.out.trans hx6)
 have hfc := field_cfg
 have d6 := cZ h6 6 _ rfl
 have f6 := freeAt h6 6
 have dl := lZ h6
 clear hx6 huv h6 a0 a1 a2 a3 a4 a5 a6 al
 go_upto_region 6 with fail
 obtain ⟨w7, hw7⟩ : ∃ u, u = w6.setCell ⟨g6, 6, none⟩ (.slice ua c.bytes.length uc) := ⟨_, rfl⟩
 rw [<- hw7]
 have hu7 : Upd (At g6) w6 w7 := by rw [hw7]; exact Upd.own _ _ _ _
 have h6 : w7.heap[g6]? = some (.cells #[.int .u64 (c.chain : Int), .int .u64 (c.n : Int), .int .u64 (c.proc : Int), .int .u64 (c.inc : Int), .int .u64 (c.seq : Int), .int .u64 (c.k : Int), .slice ua c.bytes.length uc] 25 (0, 0)) := by rw [hw7]; exact setAt H66.out
 have HW6 := zq (show W.heap.size <= g6 by have := HG6.out; have := HG5W.out; omega)
 have HX7 := zq (HX6.out.step hu7 (fun i hi e => by have e : i = g6 := e; have := HW6.out; omega))
 have hne6 : ∀ {base n : Nat} {v : Value} {xs : List Value}, w6.ownsRow base 5 1 v n xs -> w7.ownsRow base 5 1 v n xs := fun h => hu7.ownsT h (fun k cur hk hc => by
  have hk : k = g6 := hk
  rw [hk, H66.out] at hc
  cases hc)
 have HUV7 := zq (hne6 HUV6.out)
 have HRV7 := zq (hne6 HRV6.out)
 have H57 := zq (hu7.at_ H56.out (fun e => by have e : g5 = g6 := e; have := HG6.out; omega))
 have H67 := zq h6
 have HS37 := zq (show w3.heap.size <= w5.heap.size from Nat.le_trans HX34.out.size HX45.out.size)
 have HBND := zq (show ∀ k, (Value.slice ua c.bytes.length uc).ownBlock = some k -> (Value.slice va c.bytes.length vc).ownBlock = some k -> False from fun k h1 h2 => by
  have q1 := (HUV6.out.lt k h1).1
  have q2 := (HRV3.out.lt k h2).2
  have := HS37.out
  omega)
 clear hw7 hu7 hne6 d6 f6 dl hfc
 have a0 := cZ h6 0 _ rfl
 have a1 := cZ h6 1 _ rfl
 have a2 := cZ h6 2 _ rfl
 have a3 := cZ h6 3 _ rfl
 have a4 := cZ h6 4 _ rfl
 have a5 := cZ h6 5 _ rfl
 have a6 := cZ h6 6 _ rfl
 have al := lZ h6
 clear h6
 go_wp2_with (go_at_call 7; fail)
 refine (machine2_any w7 c HOK.out ua uc ((Row.of_owns HUV7.out).mono (fun _ _ => trivial) : Bytes (fun _ => True) w7 _ c.bytes) (HE.out.ext HX7.out).tab).mono ?_
 rintro e w8 ⟨B, hB, rfl, hx8, hmac⟩
 have HB := zq hB
 have HMAC := zq hmac
 have HX8 := zq (HX7.out.trans hx8)
 have H68 := zq (hx8.at_ H67.out id)
 have H58 := zq (hx8.at_ H57.out id)
 have HUV8 := zq (hx8.ownsRow HUV7.out (fun _ _ e => e))
 have HRV8 := zq (hx8.ownsRow HRV7.out (fun _ _ e => e))
 have HOWN := zq (show ∀ k, (Value.slice ua c.bytes.length uc).ownBlock = some k -> w5.heap.size <= k /\ k < w7.heap.size from fun k hk => ⟨(HUV7.out.lt k hk).1, (HUV7.out.lt k hk).2⟩)
 have HW5 := zq HX5.out.size
 have HB8 := zq (show B < w8.heap.size by
  obtain ⟨bv, k, nm, tt, cb, fn, hm, -⟩ := hmac w8 uZ
  exact lZ hm)
 clear hmac hB hx8 a0 a1 a2 a3 a4 a5 a6 al
 go_wp2
 obtain ⟨SS, hSS⟩ : ∃ q : Nat -> Prop, q = fun k => (Value.slice ua c.bytes.length uc).ownBlock = some k := ⟨_, rfl⟩
 have HSS := zq hSS
 go_loopw [8] (fun t wr => ∃ n : Nat, n <= c.bytes.length /\ t = .int .i64 n /\ Hid (Upd SS w8 wr /\ wr.heap[g6]? = some (.cells #[.int .u64 (c.chain : Int), .int .u64 (c.n : Int), .int .u64 (c.proc : Int), .int .u64 (c.inc : Int), .int .u64 (c.seq : Int), .int .u64 (c.k : Int), .slice ua c.bytes.length uc] 25 (0, 0)) /\ ∃ ys, wr.ownsRow w5.heap.size 5 1 (.slice ua c.bytes.length uc) c.bytes.length ys)) (fun t _ => c.bytes.length - (intOf t).toNat)
 case atStart => exact ⟨0, Nat.zero_le _, rfl, zq ⟨uZ, H68.out, ⟨_, HUV8.out⟩⟩⟩
 case round =>
 clear hSS
 obtain ⟨n, hn, rfl, HR⟩ := hrel
 have q6 := cZ HR.out.2.1 6 (.slice ua c.bytes.length uc) rfl
 have ql := lZ HR.out.2.1
 by_cases hlt : n < c.bytes.length
 ·obtain ⟨hu, ha, ⟨ys, h1⟩⟩ := HR.out
  obtain ⟨g, gc, he⟩ := owns_form h1 (by omega)
  cases he
  obtain ⟨⟨u, hc⟩, hf, hg⟩ := owns_cell h1 hlt
  have HH1 := zq h1
  clear h1
  go_wp2
  go_roundw
  case rel =>
   have hug : Upd (At g) wr (wr.setCell ⟨g, n, none⟩ (.int .u8 77)) := Upd.own _ _ _ _
   have hgS : SS g := by rw [HSS.out]; rfl
   obtain ⟨ys2, hy2⟩ := owns_set (i := n) HH1.out (.int .u8 77)
   exact ⟨n + 1, by omega, by go_num, zq ⟨hu.trans (hug.mono (fun k _ e => by have e : k = g := e; rw [e]; exact hgS)), hug.at_ ha (fun e => by
    have e : g6 = g := e
    obtain ⟨cur, hcur⟩ := owns_tag HH1.out (k := g) rfl
    rw [<- e, ha] at hcur
    cases hcur), ⟨ys2, hy2⟩⟩⟩
  case measure => simp [intOf]; omega
 have HUS := zq (show Upd (Till w7.heap.size) w8 wr from HR.out.1.mono (fun k _ h => by rw [HSS.out] at h; exact (HOWN.out k h).2))
 obtain ⟨w9, hw9⟩ : ∃ u, u = wr := ⟨_, rfl⟩
 rw [<- hw9] at HUS HR
 have HM9 := zq (HMAC.out w9 HUS.out)
 have HX9 := zq (show Ext W w9 from HX8.out.step HR.out.1 (fun k hk h => by
  rw [HSS.out] at h
  have h1 := (HOWN.out k h).1
  have h3 := HW5.out
  omega))
 have H59 := zq (show w9.heap[g5]? = _ from HR.out.1.at_ H58.out (fun h => by
  rw [HSS.out] at h
  obtain ⟨cur, hcur⟩ := owns_tag HUV8.out h
  rw [H58.out] at hcur
  cases hcur))
 have HRV9 := zq (show w9.ownsRow W.heap.size 5 1 (.slice va c.bytes.length vc) c.bytes.length (c.bytes.map YtnkmpoplibnflaaGreatDoor.u8) from (HR.out.1.ownsRow HRV8.out (fun k hk h => by rw [HSS.out] at h; exact HBND.out k h hk)).mono_base HX2.out.size)
 have HB9 := zq (show B < w9.heap.size from Nat.lt_of_lt_of_le HB8.out HUS.out.size)
 obtain ⟨base, hbase⟩ : ∃ g, g = w9.heap.size := ⟨_, rfl⟩
 have HBASE := zq hbase
 have HBB := zq (show B < base by rw [hbase]; exact HB9.out)
 have HWB := zq (show W.heap.size <= B from Nat.le_trans HX7.out.size HB.out)
 have HWBASE := zq (show W.heap.size <= base by have := HWB.out; have := HBB.out; omega)
 have HINV := zq (show Inv W w9 base B g5 c va vc L 0 (.slice none 0 0) from ⟨by rw [List.take_zero]; exact HM9.out, by rw [List.take_zero]; exact fed_nil _ _, H59.out, HRV9.out, by rw [hbase]; exact Nat.le_refl _⟩)
 subst hw9
 clear hbase HR
 go_wp2
 clear q6 ql
 obtain ⟨w10, hw10⟩ : ∃ x, x = w9 := ⟨_, rfl⟩
 rw [<- hw10] at HX9 HINV ⊢
 clear hw10
 go_loopw [9, 10] (fun fd t wr => ∃ n : Nat, n <= L.length + 1 /\ t = .int .i64 n /\ Hid (Ext W wr /\ (n <= L.length -> Inv W wr base B g5 c va vc L n fd))) (fun _ t _ => L.length + 2 - (intOf t).toNat)
 case atStart => exact ⟨0, Nat.zero_le _, rfl, zq ⟨HX9.out, fun _ => HINV.out⟩⟩
 case round =>
  obtain ⟨n, hn, rfl, HR⟩ := hrel
  by_cases hlt : n <= L.length
  ·have hi : ((n : Int) <= (xs.length : Int)) := by have := HLL.out; omega
   have hinv := HR.out.2 hlt
   have HI := zq hinv
   have HXR := zq HR.out.1
   obtain ⟨fa, fl, fc, rfl⟩ := hinv.fed.form2
   have h5 := hinv.cfg
   have HNL := zq hlt
   clear hinv HR
   have a0 := cZ h5 0 _ rfl
   have a1 := cZ h5 1 _ rfl
   have a2 := cZ h5 2 _ rfl
   have a3 := cZ h5 3 _ rfl
   have a4 := cZ h5 4 _ rfl
   have a5 := cZ h5 5 _ rfl
   have a6 := cZ h5 6 _ rfl
   have al := lZ h5
   clear h5
   go_wp2_with (go_at_call 8; fail)
   refine (walk_any wr c HOK.out va vc _ (L.take n) HI.out.fed.res (fun r hr => HRES.out r (List.mem_of_mem_take hr)) (by rw [List.length_take]; have := HL40.out; omega)).mono ?_
   rintro e w2 ⟨pv, u, rfl, hpv, hx2⟩
   have hpo : ∃ p1 p3, pv = .slice p1 (byP c (runP c (L.take n)).1).length p3 /\ Bytes (fun _ => True) w2 (.slice p1 (byP c (runP c (L.take n)).1).length p3) (byP c (runP c (L.take n)).1) := by
    rcases hpv with ⟨rfl, h⟩ | ⟨rfl, h⟩
    ·refine ⟨va, vc, by rw [h], ?_⟩
     rw [h]
     exact ((Row.of_owns (hx2.ownsRow HI.out.row (fun _ _ e => e))).mono (fun _ _ => trivial))
    ·refine ⟨none, 0, by rw [h]; rfl, ?_⟩
     rw [h]
     exact Row.nil _ _
   obtain ⟨pa, pc, rfl, hpr⟩ := hpo
   have HM2 := zq (HI.out.mac.ext hx2)
   obtain ⟨x, hxx⟩ : ∃ y, y = (runP c (L.take n)).1 := ⟨_, rfl⟩
   obtain ⟨ln, hln⟩ : ∃ y, y = (runP c (L.take n)).2 := ⟨_, rfl⟩
   rw [<- hxx] at hpr HM2 ⊢
   rw [<- hln] at HM2 ⊢
   have HRX := zq (show runP c (L.take n) = (x, ln) by rw [hxx, hln])
   have HXOK := zq (show x.Ok c by rw [hxx]; exact runP_ok _ _)
   obtain ⟨kk, hkk⟩ : ∃ y, y = kP x := ⟨_, rfl⟩
   obtain ⟨nm, hnm⟩ : ∃ y, y = nmP c x := ⟨_, rfl⟩
   obtain ⟨tt, htt⟩ : ∃ y, y = ttP c x := ⟨_, rfl⟩
   obtain ⟨BY, hby⟩ : ∃ y, y = byP c x := ⟨_, rfl⟩
   obtain ⟨dn, hdn⟩ : ∃ y, y = decide (x.step = 10) := ⟨_, rfl⟩
   obtain ⟨E, hEE⟩ : ∃ y : Int, y = (if x.step = 10 then x.err else 0) := ⟨_, rfl⟩
   rw [<- hby] at hpr
   rw [<- hkk, <- hnm, <- htt, <- hdn, <- hEE, <- hby]
   have HNX := zq (show ∀ wq, IsMac wq B c x ln -> Calls Tryz.prog 9 #[.pointer (some ⟨B, 0, none⟩)] wq fun e w' => ∃ v', e = .returned (.tuple #[.agg #[.int .u8 (kk : Int), str nm, str tt, v'], .bool (!dn)]) /\ w'.ownsRow wq.heap.size 5 1 v' BY.length (BY.map YtnkmpoplibnflaaGreatDoor.u8) /\ Ext wq w' from fun wq hq => by rw [hkk, hnm, htt, hdn, hby]; exact mnext_all hq HOK.out)
   have HPMX := zq (show ∀ wq, IsMac wq B c x ln -> ∃ bv k nm tt cb fn, PM wq B (macC c.chain c.n c.proc c.inc c.seq (txF c) (sxF c) bv k nm tt cb fn dn E ln) from fun wq hq => by
    obtain ⟨bv, k, nm, tt, cb, fn, hm, -⟩ := hq
    rw [hdn, hEE]
    exact ⟨bv, k, nm, tt, cb, fn, hm⟩)
   have hq300 : BY.length <= 300 := by
    rw [hby]; unfold byP; split
    ·exact HOK.out.bytes
    ·simp
   obtain ⟨ql, hql⟩ : ∃ y, y = BY.length := ⟨_, rfl⟩
   rw [<- hql] at hq300
   rw [<- hql] at hpr ⊢
   have HQL := zq hql
   obtain ⟨w3, hw3⟩ : ∃ u', u' = w2.alloc (.cells #[.int .u8 (kk : Int), str nm, str tt, .slice pa ql pc, .bool dn, .int .i64 E, .bool ln, .int .i64 (u : Int)] 38) := ⟨_, rfl⟩
   obtain ⟨g11, hg11⟩ : ∃ g, g = w2.heap.size := ⟨_, rfl⟩
   have hx3 : Ext w2 w3 := by rw [hw3]; exact uZ.alloc _
   have HG3 := zq (show w3.heap[g11]? = some (.cells #[.int .u8 (kk : Int), str nm, str tt, .slice pa ql pc, .bool dn, .int .i64 E, .bool ln, .int .i64 (u : Int)] 38 (0, 0)) by rw [hw3, hg11]; exact newAt _ _)
   have HW3 := zq hw3
   have HGG11 := zq hg11
   have HPR3 := zq (show Row (fun _ => True) w3 (.slice pa ql pc) BY.length (BY.map YtnkmpoplibnflaaGreatDoor.u8) from by rw [hql] at hpr ⊢; exact Row.ext hpr hx3)
   have HM3 := zq (HM2.out.ext hx3)
   have HXR3 := zq (hx2.trans hx3)
   clear hpv hpr hx2 hx3 hw3 hg11 hxx hln hkk hnm htt hby hdn hEE hql a0 a1 a2 a3 a4 a5 a6 al
   go_wp2_with (go_at_call 9; fail)
   rw [show w2.alloc (.cells #[.int .u8 (kk : Int), str nm, str tt, .slice pa ql pc, .bool dn, .int .i64 E, .bool ln, .int .i64 (u : Int)] 38) = w3 from HW3.out.symm, show w2.heap.size = g11 from HGG11.out.symm]
   refine (HNX.out w3 HM3.out).mono ?_
   rintro e w4 ⟨qv, rfl, hqv, hx4⟩
   obtain ⟨qa, qc, rfl⟩ := ownsFormN hqv
   rw [<- HQL.out] at hqv ⊢
   obtain ⟨w5, hw5⟩ : ∃ u', u' = w4.alloc (.cells #[.int .u8 (kk : Int), str nm, str tt, .slice qa ql qc] 40) := ⟨_, rfl⟩
   obtain ⟨g12, hg12⟩ : ∃ g, g = w4.heap.size := ⟨_, rfl⟩
   have hx5 : Ext w4 w5 := by rw [hw5]; exact uZ.alloc _
   have HG12 := zq (show w5.heap[g12]? = some (.cells #[.int .u8 (kk : Int), str nm, str tt, .slice qa ql qc] 40 (0, 0)) by rw [hw5, hg12]; exact newAt _ _)
   have HG11 := zq (hx5.at_ (hx4.at_ HG3.out id) id)
   have HW5 := zq hw5
   have HGG12 := zq hg12
   have HQV5 := zq (hx5.ownsRow hqv (fun _ _ e => e))
   have HROW1 := zq (show Row (fun _ => True) w5 (.slice qa ql qc) BY.length (BY.map YtnkmpoplibnflaaGreatDoor.u8) from by rw [<- HQL.out]; exact (Row.of_owns HQV5.out).mono (fun _ _ => trivial))
   have HROW2 := zq (show Row (fun _ => True) w5 (.slice pa ql pc) BY.length (BY.map YtnkmpoplibnflaaGreatDoor.u8) from HPR3.out.ext (hx4.trans hx5))
   have HM5 := zq (HM3.out.ext (hx4.trans hx5))
   have HXR5 := zq (HXR3.out.trans (hx4.trans hx5))
   have HSZ35 := zq (show wr.heap.size <= w3.heap.size from HXR3.out.size)
   obtain ⟨mb, mk, mn, mt, mc, mf, hpm⟩ := HPMX.out w5 HM5.out
   have HPM := zq hpm
   clear hqv hx4 hx5 hw5 hg12 hpm
   go_upto_region 17 with fail
   rw [show w4.alloc (.cells #[.int .u8 (kk : Int), .string ⟨nm.toArray⟩, .string ⟨tt.toArray⟩, .slice qa ql qc] 40) = w5 from HW5.out.symm, show w4.heap.size = g12 from HGG12.out.symm]
   refine wp_region_invH Nothing (fun _ => Ext) 1000 lwDst (lwPhi B g11 g12 kk nm tt qa pa ql qc pc E dn ln) 127 (by kernel_rfl) (by decide) (by decide) rfl (fun i hi => .inl ((by decide : ∀ i, i < 33 -> lwDst i < 127) i hi)) (fun i w w' h => ⟨h, fun _ => h⟩) (fun i j v w w' _ _ _ _ h hu => h.ext hu) ?_ ?_
   ·intro i o b' w1' ho hx1' hd hk hE hSZ
    have hi : i < 33 := (Array.getElem?_eq_some_iff.1 ho).1
    have his : i = 0 \/ i = 1 \/ i = 2 \/ i = 3 \/ i = 4 \/ i = 5 \/ i = 6 \/ i = 7 \/ i = 8 \/ i = 9 \/ i = 10 \/ i = 11 \/ i = 12 \/ i = 13 \/ i = 14 \/ i = 15 \/ i = 16 \/ i = 17 \/ i = 18 \/ i = 19 \/ i = 20 \/ i = 21 \/ i = 22 \/ i = 23 \/ i = 24 \/ i = 25 \/ i = 26 \/ i = 27 \/ i = 28 \/ i = 29 \/ i = 30 \/ i = 31 \/ i = 32 := by omega
    clear hE hSZ
    have HW1 := zq hx1'
    clear hx1'
    rcases his with rfl | rfl | rfl | rfl | rfl | rfl | rfl | rfl | rfl | rfl | rfl | rfl | rfl | rfl | rfl | rfl | rfl | rfl | rfl | rfl | rfl | rfl | rfl | rfl | rfl | rfl | rfl | rfl | rfl | rfl | rfl | rfl | rfl
    all_goals (simp at ho; subst ho)
    ·
     refine .inl ⟨rfl, ?_⟩
     have o13 : b'.tmps[13]?.getD undef = .bool (!dn) := tAt (hk 13 (fun j oj _ e => (lwDst_ne (by decide) e).elim))
     clear hd hk
     go_step
     exact ⟨_, rfl, (by first | rfl | (simp [lwVal]) | (unfold lwVal; simp)), uZ⟩
    ·
     refine .inl ⟨rfl, ?_⟩
     have o11 : b'.tmps[11]?.getD undef = .pointer (some ⟨g11, 0, none⟩) := tAt (hk 11 (fun j oj _ e => (lwDst_ne (by decide) e).elim))
     clear hd hk
     go_step
     exact ⟨_, rfl, rfl, uZ⟩
    ·
     refine .inl ⟨rfl, ?_⟩
     have e1 : b'.tmps[61]?.getD undef = .pointer (some ⟨g11, 4, none⟩) := tAt (hd ⟨1, .data⟩ (by simp) rfl)
     have q4 := HW1.out.cell (cZ HG11.out 4 (.bool dn) rfl) id
     have qg := Nat.lt_of_lt_of_le (lZ HG11.out) HW1.out.size
     clear hd hk
     go_step
     exact ⟨_, rfl, rfl, uZ⟩
    ·
     refine .inl ⟨rfl, ?_⟩
     have e2 : b'.tmps[62]?.getD undef = .bool dn := tAt (hd ⟨2, .data⟩ (by simp) rfl)
     clear hd hk
     go_step
     exact ⟨_, rfl, rfl, uZ⟩
    ·
     refine .inl ⟨rfl, ?_⟩
     have e0 : b'.tmps[60]?.getD undef = .bool (!dn) := tAt (hd ⟨0, .data⟩ (by simp) rfl)
     have e3 : b'.tmps[63]?.getD undef = .bool (!dn) := tAt (hd ⟨3, .data⟩ (by simp) rfl)
     clear hd hk
     go_step
     exact ⟨_, rfl, (by first | rfl | (simp [lwVal]) | (unfold lwVal; simp)), uZ⟩
    ·
     refine .inl ⟨rfl, ?_⟩
     have e4 : b'.tmps[64]?.getD undef = .bool false := tAt (hd ⟨4, .data⟩ (by simp) rfl)
     clear hd hk
     go_step
     exact ⟨_, rfl, rfl, uZ⟩
    ·
     refine .inl ⟨gAt rfl rfl (hd ⟨5, .guard⟩ (by simp) rfl), ?_⟩
     have o7 : b'.tmps[7]?.getD undef = .pointer (some ⟨B, 0, none⟩) := tAt (hk 7 (fun j oj _ e => (lwDst_ne (by decide) e).elim))
     clear hd hk
     go_step
     exact ⟨_, rfl, rfl, uZ⟩
    ·
     refine .inl ⟨gAt rfl rfl (hd ⟨5, .guard⟩ (by simp) rfl), ?_⟩
     have e6 : b'.tmps[66]?.getD undef = .pointer (some ⟨B, 0, none⟩) := tAt (hd ⟨6, .data⟩ (by simp) rfl)
     have HPM2 := zq (HW1.out.at_ HPM.out id)
     clear hd hk
     go_step
     refine (mdone_any HPM2.out).mono ?_
     rintro e w2 ⟨rfl, hu⟩
     exact ⟨_, rfl, rfl, hu⟩
    ·
     refine .inl ⟨gAt rfl rfl (hd ⟨5, .guard⟩ (by simp) rfl), ?_⟩
     have o11 : b'.tmps[11]?.getD undef = .pointer (some ⟨g11, 0, none⟩) := tAt (hk 11 (fun j oj _ e => (lwDst_ne (by decide) e).elim))
     clear hd hk
     go_step
     exact ⟨_, rfl, rfl, uZ⟩
    ·
     refine .inl ⟨gAt rfl rfl (hd ⟨5, .guard⟩ (by simp) rfl), ?_⟩
     have e8 : b'.tmps[68]?.getD undef = .pointer (some ⟨g11, 4, none⟩) := tAt (hd ⟨8, .data⟩ (by simp) rfl)
     have q4 := HW1.out.cell (cZ HG11.out 4 (.bool dn) rfl) id
     have qg := Nat.lt_of_lt_of_le (lZ HG11.out) HW1.out.size
     clear hd hk
     go_step
     exact ⟨_, rfl, rfl, uZ⟩
    ·
     refine .inl ⟨gAt rfl rfl (hd ⟨5, .guard⟩ (by simp) rfl), ?_⟩
     have e7 : b'.tmps[67]?.getD undef = .bool dn := tAt (hd ⟨7, .data⟩ (by simp) rfl)
     have e9 : b'.tmps[69]?.getD undef = .bool dn := tAt (hd ⟨9, .data⟩ (by simp) rfl)
     clear hd hk
     go_step
     exact ⟨_, rfl, (by first | rfl | (simp [lwVal]) | (unfold lwVal; simp)), uZ⟩
    ·
     refine .inl ⟨rfl, ?_⟩
     have e5 : b'.tmps[65]?.getD undef = .bool false := tAt (hd ⟨5, .data⟩ (by simp) rfl)
     have e10 : b'.tmps[70]?.getD undef = .bool false := tAt (hd ⟨10, .data⟩ (by simp) rfl)
     clear hd hk
     go_step
     exact ⟨_, rfl, (by first | rfl | (simp [lwVal]) | (unfold lwVal; simp)), uZ⟩
    ·
     refine .inl ⟨rfl, ?_⟩
     have e11 : b'.tmps[71]?.getD undef = .bool false := tAt (hd ⟨11, .data⟩ (by simp) rfl)
     clear hd hk
     go_step
     exact ⟨_, rfl, rfl, uZ⟩
    ·
     refine .inl ⟨gAt rfl rfl (hd ⟨12, .guard⟩ (by simp) rfl), ?_⟩
     have o7 : b'.tmps[7]?.getD undef = .pointer (some ⟨B, 0, none⟩) := tAt (hk 7 (fun j oj _ e => (lwDst_ne (by decide) e).elim))
     clear hd hk
     go_step
     exact ⟨_, rfl, rfl, uZ⟩
    ·
     refine .inl ⟨gAt rfl rfl (hd ⟨12, .guard⟩ (by simp) rfl), ?_⟩
     have e13 : b'.tmps[73]?.getD undef = .pointer (some ⟨B, 0, none⟩) := tAt (hd ⟨13, .data⟩ (by simp) rfl)
     have HPM2 := zq (HW1.out.at_ HPM.out id)
     clear hd hk
     go_step
     refine (merr_any HPM2.out).mono ?_
     rintro e w2 ⟨rfl, hu⟩
     exact ⟨_, rfl, rfl, hu⟩
    ·
     refine .inl ⟨gAt rfl rfl (hd ⟨12, .guard⟩ (by simp) rfl), ?_⟩
     have o11 : b'.tmps[11]?.getD undef = .pointer (some ⟨g11, 0, none⟩) := tAt (hk 11 (fun j oj _ e => (lwDst_ne (by decide) e).elim))
     clear hd hk
     go_step
     exact ⟨_, rfl, rfl, uZ⟩
    ·
     refine .inl ⟨gAt rfl rfl (hd ⟨12, .guard⟩ (by simp) rfl), ?_⟩
     have e15 : b'.tmps[75]?.getD undef = .pointer (some ⟨g11, 5, none⟩) := tAt (hd ⟨15, .data⟩ (by simp) rfl)
     have q5 := HW1.out.cell (cZ HG11.out 5 (.int .i64 E) rfl) id
     have qg := Nat.lt_of_lt_of_le (lZ HG11.out) HW1.out.size
     clear hd hk
     go_step
     exact ⟨_, rfl, rfl, uZ⟩
    ·
     refine .inl ⟨gAt rfl rfl (hd ⟨12, .guard⟩ (by simp) rfl), ?_⟩
     have e14 : b'.tmps[74]?.getD undef = .int .i64 E := tAt (hd ⟨14, .data⟩ (by simp) rfl)
     have e16 : b'.tmps[76]?.getD undef = .int .i64 E := tAt (hd ⟨16, .data⟩ (by simp) rfl)
     clear hd hk
     go_step
     exact ⟨_, rfl, (by first | rfl | (simp [lwVal]) | (unfold lwVal; simp)), uZ⟩
    ·
     refine .inl ⟨rfl, ?_⟩
     have e12 : b'.tmps[72]?.getD undef = .bool false := tAt (hd ⟨12, .data⟩ (by simp) rfl)
     have e17 : b'.tmps[77]?.getD undef = .bool false := tAt (hd ⟨17, .data⟩ (by simp) rfl)
     clear hd hk
     go_step
     exact ⟨_, rfl, (by first | rfl | (simp [lwVal]) | (unfold lwVal; simp)), uZ⟩
    ·
     refine .inl ⟨rfl, ?_⟩
     have e18 : b'.tmps[78]?.getD undef = .bool false := tAt (hd ⟨18, .data⟩ (by simp) rfl)
     clear hd hk
     go_step
     exact ⟨_, rfl, rfl, uZ⟩
    ·
     refine .inl ⟨gAt rfl rfl (hd ⟨19, .guard⟩ (by simp) rfl), ?_⟩
     have o7 : b'.tmps[7]?.getD undef = .pointer (some ⟨B, 0, none⟩) := tAt (hk 7 (fun j oj _ e => (lwDst_ne (by decide) e).elim))
     clear hd hk
     go_step
     exact ⟨_, rfl, rfl, uZ⟩
    ·
     refine .inl ⟨gAt rfl rfl (hd ⟨19, .guard⟩ (by simp) rfl), ?_⟩
     have e20 : b'.tmps[80]?.getD undef = .pointer (some ⟨B, 0, none⟩) := tAt (hd ⟨20, .data⟩ (by simp) rfl)
     have HPM2 := zq (HW1.out.at_ HPM.out id)
     clear hd hk
     go_step
     refine (mlinked_any HPM2.out).mono ?_
     rintro e w2 ⟨rfl, hu⟩
     exact ⟨_, rfl, rfl, hu⟩
    ·
     refine .inl ⟨gAt rfl rfl (hd ⟨19, .guard⟩ (by simp) rfl), ?_⟩
     have o11 : b'.tmps[11]?.getD undef = .pointer (some ⟨g11, 0, none⟩) := tAt (hk 11 (fun j oj _ e => (lwDst_ne (by decide) e).elim))
     clear hd hk
     go_step
     exact ⟨_, rfl, rfl, uZ⟩
    ·
     refine .inl ⟨gAt rfl rfl (hd ⟨19, .guard⟩ (by simp) rfl), ?_⟩
     have e22 : b'.tmps[82]?.getD undef = .pointer (some ⟨g11, 6, none⟩) := tAt (hd ⟨22, .data⟩ (by simp) rfl)
     have q6 := HW1.out.cell (cZ HG11.out 6 (.bool ln) rfl) id
     have qg := Nat.lt_of_lt_of_le (lZ HG11.out) HW1.out.size
     clear hd hk
     go_step
     exact ⟨_, rfl, rfl, uZ⟩
    ·
     refine .inl ⟨gAt rfl rfl (hd ⟨19, .guard⟩ (by simp) rfl), ?_⟩
     have e21 : b'.tmps[81]?.getD undef = .bool ln := tAt (hd ⟨21, .data⟩ (by simp) rfl)
     have e23 : b'.tmps[83]?.getD undef = .bool ln := tAt (hd ⟨23, .data⟩ (by simp) rfl)
     clear hd hk
     go_step
     exact ⟨_, rfl, (by first | rfl | (simp [lwVal]) | (unfold lwVal; simp)), uZ⟩
    ·
     refine .inl ⟨rfl, ?_⟩
     have e19 : b'.tmps[79]?.getD undef = .bool false := tAt (hd ⟨19, .data⟩ (by simp) rfl)
     have e24 : b'.tmps[84]?.getD undef = .bool false := tAt (hd ⟨24, .data⟩ (by simp) rfl)
     clear hd hk
     go_step
     exact ⟨_, rfl, (by first | rfl | (simp [lwVal]) | (unfold lwVal; simp)), uZ⟩
    ·
     refine .inl ⟨rfl, ?_⟩
     have e25 : b'.tmps[85]?.getD undef = .bool false := tAt (hd ⟨25, .data⟩ (by simp) rfl)
     clear hd hk
     go_step
     exact ⟨_, rfl, rfl, uZ⟩
    ·
     refine .inl ⟨gAt rfl rfl (hd ⟨26, .guard⟩ (by simp) rfl), ?_⟩
     have o12 : b'.tmps[12]?.getD undef = .pointer (some ⟨g12, 0, none⟩) := tAt (hk 12 (fun j oj _ e => (lwDst_ne (by decide) e).elim))
     have q0 := HW1.out.cell (cZ HG12.out 0 (.int .u8 (kk : Int)) rfl) id
     have q1 := HW1.out.cell (cZ HG12.out 1 (str nm) rfl) id
     have q2 := HW1.out.cell (cZ HG12.out 2 (str tt) rfl) id
     have q3 := HW1.out.cell (cZ HG12.out 3 (.slice qa ql qc) rfl) id
     have qg := Nat.lt_of_lt_of_le (lZ HG12.out) HW1.out.size
     clear hd hk
     go_step
     exact ⟨_, rfl, rfl, uZ⟩
    ·
     refine .inl ⟨gAt rfl rfl (hd ⟨26, .guard⟩ (by simp) rfl), ?_⟩
     have o11 : b'.tmps[11]?.getD undef = .pointer (some ⟨g11, 0, none⟩) := tAt (hk 11 (fun j oj _ e => (lwDst_ne (by decide) e).elim))
     clear hd hk
     go_step
     exact ⟨_, rfl, rfl, uZ⟩
    ·
     refine .inl ⟨gAt rfl rfl (hd ⟨26, .guard⟩ (by simp) rfl), ?_⟩
     have e28 : b'.tmps[88]?.getD undef = .pointer (some ⟨g11, 0, none⟩) := tAt (hd ⟨28, .data⟩ (by simp) rfl)
     have q0 := HW1.out.cell (cZ HG11.out 0 (.int .u8 (kk : Int)) rfl) id
     have q1 := HW1.out.cell (cZ HG11.out 1 (str nm) rfl) id
     have q2 := HW1.out.cell (cZ HG11.out 2 (str tt) rfl) id
     have q3 := HW1.out.cell (cZ HG11.out 3 (.slice pa ql pc) rfl) id
     have qg := Nat.lt_of_lt_of_le (lZ HG11.out) HW1.out.size
     clear hd hk
     go_step
     exact ⟨_, rfl, rfl, uZ⟩
    ·
     refine .inl ⟨gAt rfl rfl (hd ⟨26, .guard⟩ (by simp) rfl), ?_⟩
     have e27 : b'.tmps[87]?.getD undef = .agg #[.int .u8 (kk : Int), str nm, str tt, .slice qa ql qc] := tAt (hd ⟨27, .data⟩ (by simp) rfl)
     have e29 : b'.tmps[89]?.getD undef = .agg #[.int .u8 (kk : Int), str nm, str tt, .slice pa ql pc] := tAt (hd ⟨29, .data⟩ (by simp) rfl)
     have hq1 := HROW1.out.ext HW1.out
     have hq2 := HROW2.out.ext HW1.out
     have HQ1 := zq hq1
     have HQ2 := zq hq2
     clear hq1 hq2
     clear hd hk
     go_step
     refine (isCall_any' w1' kk nm tt qa pa ql qc pc BY HQ1.out HQ2.out).mono ?_
     rintro e w2 ⟨rfl, hu⟩
     exact ⟨_, rfl, rfl, hu⟩
    ·
     refine .inl ⟨gAt rfl rfl (hd ⟨26, .guard⟩ (by simp) rfl), ?_⟩
     have e30 : b'.tmps[90]?.getD undef = .bool true := tAt (hd ⟨30, .data⟩ (by simp) rfl)
     clear hd hk
     go_step
     exact ⟨_, rfl, (by first | rfl | (simp [lwVal]) | (unfold lwVal; simp)), uZ⟩
    ·
     refine .inl ⟨rfl, ?_⟩
     have e26 : b'.tmps[86]?.getD undef = .bool false := tAt (hd ⟨26, .data⟩ (by simp) rfl)
     have e31 : b'.tmps[91]?.getD undef = .bool false := tAt (hd ⟨31, .data⟩ (by simp) rfl)
     clear hd hk
     go_step
     exact ⟨_, rfl, (by first | rfl | (simp [lwVal]) | (unfold lwVal; simp)), uZ⟩
   ·intro v w1' hx1' hp
    have h32 := hp 32 (by decide)
    obtain ⟨v32, hv32⟩ : ∃ u, u = v 32 := ⟨_, rfl⟩
    have h32' : v32 = .bool false := by rw [hv32]; exact h32
    simp only [List.size_toArray, List.length_cons, List.length_nil, Nat.reduceAdd, fillAll, lwDst]
    rw [<- hv32]
    subst h32'
    obtain ⟨w6, hw6⟩ : ∃ u, u = w1' := ⟨_, rfl⟩
    rw [<- hw6] at hx1' ⊢
    have HX6 := zq hx1'
    clear hp h32 hv32 hw6 hx1'
    go_simp
    have HG6 := zq (HX6.out.at_ HG12.out id)
    have HQV6 := zq (HX6.out.ownsRow HQV5.out (fun _ _ e => e))
    have HX06 := zq (HXR5.out.trans HX6.out)
    obtain ⟨w0, hw0⟩ : ∃ x, x = wr := ⟨_, rfl⟩
    subst hw0
    obtain ⟨SQ, hSQ⟩ : ∃ q : Nat -> Prop, q = fun k => (Value.slice qa ql qc).ownBlock = some k := ⟨_, rfl⟩
    have HSQ := zq hSQ
    clear hSQ
    go_wp2
    go_loopw [14] (fun t wq => ∃ k : Nat, k <= ql /\ t = .int .i64 k /\ Hid (Upd SQ w6 wq /\ wq.heap[g12]? = some (.cells #[.int .u8 (kk : Int), str nm, str tt, .slice qa ql qc] 40 (0, 0)) /\ ∃ ys, wq.ownsRow w3.heap.size 5 1 (.slice qa ql qc) ql ys)) (fun t _ => ql - (intOf t).toNat)
    case atStart => exact ⟨0, Nat.zero_le _, rfl, zq ⟨uZ, HG6.out, _, by rw [HQL.out] at *; exact HQV6.out⟩⟩
    case round =>
    obtain ⟨k, hk, rfl, HR2⟩ := hrel
    have q3 := cZ HR2.out.2.1 3 (.slice qa ql qc) rfl
    have ql3 := lZ HR2.out.2.1
    by_cases hkl : k < ql
    ·obtain ⟨hu, ha, ⟨ys, h1⟩⟩ := HR2.out
     obtain ⟨g, gc, he⟩ := owns_form h1 (by omega)
     cases he
     obtain ⟨⟨u, hc⟩, hf, hg⟩ := owns_cell h1 hkl
     have HH1 := zq h1
     clear h1
     go_wp2
     go_roundw
     case rel =>
      have hug : Upd (At g) wr (wr.setCell ⟨g, k, none⟩ (.int .u8 78)) := Upd.own _ _ _ _
      have hgS : SQ g := by rw [HSQ.out]; rfl
      obtain ⟨ys2, hy2⟩ := owns_set (i := k) HH1.out (.int .u8 78)
      exact ⟨k + 1, by omega, by go_num, zq ⟨hu.trans (hug.mono (fun k _ e => by have e : k = g := e; rw [e]; exact hgS)), hug.at_ ha (fun e => by
       have e : g12 = g := e
       obtain ⟨cur, hcur⟩ := owns_tag HH1.out (k := g) rfl
       rw [<- e, ha] at hcur
       cases hcur), ⟨ys2, hy2⟩⟩⟩
     case measure => simp [intOf]; omega
    obtain ⟨w7, hw7⟩ : ∃ x, x = wr := ⟨_, rfl⟩
    rw [<- hw7] at HR2
    have HX7 := zq (show Ext w0 w7 from HX06.out.step HR2.out.1 (fun i hi e => by
     rw [HSQ.out] at e
     have h1 := (HQV6.out.lt i e).1
     have h2 := HSZ35.out
     omega))
    rw [<- hw7] at q3 ql3 ⊢
    clear hw7 HR2
    have HXW7 := zq (HXR.out.trans HX7.out)
    by_cases hend : n < L.length
    case neg =>
     have hi2 : ¬ ((n : Int) < (xs.length : Int)) := by have := HLL.out; omega
     have HEND := zq hend
     clear hend
     go_wp2
     go_roundw
     case rel => exact ⟨n + 1, by have := HNL.out; omega, by go_num, zq ⟨HXW7.out, fun h => absurd h (by have := HEND.out; omega)⟩⟩
     case measure => have := HNL.out; simp [intOf]; omega
    have hn' : n < xs.length := by have := HLL.out; omega
    have hi2 : ((n : Int) < (xs.length : Int)) := by omega
    have HEND := zq hend
    obtain ⟨bb, oo, cq, e1, -, -, -, hq1⟩ := (HROW.out.ext HXW7.out).addr (by omega)
    cases e1
    obtain ⟨hnm, hby⟩ := HROWS.out xs[n] (List.getElem_mem hn')
    have hd0 := hq1 _ _ (flatR_at hn' (j := 0) (by decide))
    have hd1 := hq1 _ _ (flatR_at hn' (j := 1) (by decide))
    have hd2 := hq1 _ _ (flatR_at hn' (j := 2) (by decide))
    have htk : L.take (n + 1) = L.take n ++ [xs[n].1] := by
     rw [List.take_succ_eq_append_getElem hend]
     congr 2
     have h := HXS.out
     subst h
     exact List.getElem_map _
    have hrok : xs[n].1.Ok := HRES.out _ (by rw [<- HXS.out]; exact List.mem_map_of_mem (List.getElem_mem hn'))
    obtain ⟨⟨r, nv, bv⟩, hxm⟩ : ∃ y, y = xs[n] := ⟨_, rfl⟩
    rw [<- hxm] at hnm hby hd0 hd1 hd2 htk hrok
    simp only at hnm hby htk hrok
    have HNM := zq hnm
    have HBY := zq hby
    have HTK := zq htk
    have HROK := zq hrok
    obtain ⟨na, nc, rfl, -⟩ := hnm
    obtain ⟨bba, bbc, rfl, -⟩ := hby
    obtain ⟨er, her⟩ : ∃ y : Int, y = r.err := ⟨_, rfl⟩
    obtain ⟨nl, hnl⟩ : ∃ y : Nat, y = r.names.length := ⟨_, rfl⟩
    obtain ⟨bn, hbn⟩ : ∃ y : Nat, y = r.bytes.length := ⟨_, rfl⟩
    have hnl30 : nl <= 30 := by rw [hnl]; exact hrok.names
    have hbn700 : bn <= 700 := by rw [hbn]; exact hrok.bytes
    have D0 := zq (show w7.cell? ⟨bb, oo + n * 3, none⟩ = some (.int .i64 er) by rw [her]; exact hd0)
    have D1 := zq (show w7.cell? ⟨bb, oo + n * 3 + 1, none⟩ = some (.slice na nl nc) by rw [hnl]; exact hd1)
    have D2 := zq (show w7.cell? ⟨bb, oo + n * 3 + 2, none⟩ = some (.slice bba bn bbc) by rw [hbn]; exact hd2)
    have DW := zq (show bb < W.heap.size by
     obtain ⟨b2, o2, c2, e2, -, -, -, hq2⟩ := HROW.out.addr (by omega)
     cases e2
     exact World.block_lt_of_cell? W ⟨bb, oo + (n * 3 + 0), none⟩ (hq2 _ _ (flatR_at hn' (j := 0) (by decide))))
    have HOWNC := zq (show ∀ wq, Ext W wq -> Calls Tryz.prog 14 #[.agg #[.int .i64 er, .slice na nl nc, .slice bba bn bbc]] wq fun r' w' => ∃ na' nc' ba' bc', r' = .returned (.agg #[.int .i64 er, .slice na' nl nc', .slice ba' bn bc']) /\ w'.ownsRow wq.heap.size 9 1 (.slice na' nl nc') nl (strs r.names) /\ w'.ownsRow wq.heap.size 5 1 (.slice ba' bn bc') bn (r.bytes.map YtnkmpoplibnflaaGreatDoor.u8) /\ Ext wq w' from fun wq hq => by
     rw [her, hnl, hbn]
     exact own_any wq r.err na bba nc bbc r.names r.bytes (HNM.out.ext hq) (HBY.out.ext hq) (by omega) (by omega))
    have HRESC := zq (show ∀ wq, Ext W wq -> Calls Tryz.prog 17 #[.agg #[.int .i64 er, .slice na nl nc, .slice bba bn bbc]] wq fun r' w' => ∃ na' nc' ba' bc', r' = .returned (.agg #[.int .i64 er, .slice na' nl nc', .slice ba' bn bc']) /\ w'.ownsRow wq.heap.size 9 1 (.slice na' nl nc') nl (strs r.names) /\ w'.ownsRow wq.heap.size 5 1 (.slice ba' bn bc') bn (r.bytes.map YtnkmpoplibnflaaGreatDoor.u8) /\ Ext wq w' from fun wq hq => by
     rw [her, hnl, hbn]
     exact result_any wq r.err na bba nc bbc r.names r.bytes (HNM.out.ext hq) (HBY.out.ext hq) (by omega) (by omega))
    have HFEED := zq (show ∀ (wq : World) (a1 : Option Addr) (c1 : Nat) (a2 : Option Addr) (c2 : Nat), IsMac wq B c x ln -> Env wq -> wq.ownsRow w7.heap.size 9 1 (.slice a1 nl c1) nl (strs r.names) -> wq.ownsRow w7.heap.size 5 1 (.slice a2 bn c2) bn (r.bytes.map YtnkmpoplibnflaaGreatDoor.u8) →
      Calls Tryz.prog 15 #[.pointer (some ⟨B, 0, none⟩), .agg #[.int .i64 er, .slice a1 nl c1, .slice a2 bn c2]] wq fun e w' => e = .returned (.tuple #[]) /\ Upd (At B) wq w' /\ IsMac w' B c (goP c (x, ln) r).1 (goP c (x, ln) r).2 from fun wq a1 c1 a2 c2 hm hE h1 h2 => by
     rw [hnl] at h1 ⊢
     rw [hbn] at h2 ⊢
     rw [her]
     exact mfeed_all (S := fun _ => True) wq B c HOK.out x HXOK.out ln hm r HROK.out a1 a2 c1 c2 ((Row.of_owns h1).mono (fun _ _ => trivial)) ((Row.of_owns h2).mono (fun _ _ => trivial)) hE)
    have HER := zq her
    have HNLR := zq hnl
    have HBNR := zq hbn
    have d0 := D0.out
    have d1 := D1.out
    have d2 := D2.out
    clear hd0 hd1 hd2 hq1 hxm htk hrok her hnl hbn hend
    go_wp2_with (go_at_call 14; fail)
    refine (HOWNC.out w7 HXW7.out).mono ?_
    rintro e w8 ⟨na1, nc1, ba1, bc1, rfl, hon, hob, hx8⟩
    obtain ⟨w9, hw9⟩ : ∃ u', u' = w8.alloc (.cells #[.int .i64 er, .slice na1 nl nc1, .slice ba1 bn bc1] 47) := ⟨_, rfl⟩
    obtain ⟨g15, hg15⟩ : ∃ g, g = w8.heap.size := ⟨_, rfl⟩
    have hx9 : Ext w8 w9 := by rw [hw9]; exact uZ.alloc _
    have h15 : w9.heap[g15]? = some (.cells #[.int .i64 er, .slice na1 nl nc1, .slice ba1 bn bc1] 47 (0, 0)) := by rw [hw9, hg15]; exact newAt _ _
    have H15 := zq h15
    have HG15 := zq (show w7.heap.size <= g15 by rw [hg15]; exact hx8.size)
    have HW9 := zq hw9
    have HGG15 := zq hg15
    have HON9 := zq (hx9.ownsRow hon (fun _ _ e => e))
    have HOB9 := zq (hx9.ownsRow hob (fun _ _ e => e))
    have HX79 := zq (hx8.trans hx9)
    have HM9 := zq (HI.out.mac.ext (HX7.out.trans (hx8.trans hx9)))
    clear hx8 hx9 hw9 hg15 hon hob d0 d1 d2 q3 ql3
    go_upto_region 25 with fail
    rw [show w8.alloc (.cells #[.int .i64 er, .slice na1 nl nc1, .slice ba1 bn bc1] 47) = w9 from HW9.out.symm, show w8.heap.size = g15 from HGG15.out.symm]
    have f0 := cZ h15 0 _ rfl
    have f1 := cZ h15 1 _ rfl
    have f2 := cZ h15 2 _ rfl
    have fl9 := lZ h15
    clear h15
    go_wp2_with (go_at_call 15; fail)
    refine (HFEED.out w9 na1 nc1 ba1 bc1 (by rw [HRX.out] at HM9; exact HM9.out) (HE.out.ext (HXW7.out.trans HX79.out)) HON9.out HOB9.out).mono ?_
    rintro e w10 ⟨rfl, hu10, hm10⟩
    have HPT := zq (show ∃ cs, w7.heap[B]? = some (.cells cs 66 (0, 0)) by
     obtain ⟨bv, k, nm, tt, cb, fn, hm, -⟩ := HI.out.mac.ext HX7.out
     exact ⟨_, hm⟩)
    have HB7 := zq (show B < w7.heap.size by obtain ⟨cs, h⟩ := HPT.out; exact lZ h)
    have HM10 := zq hm10
    have HU10 := zq hu10
    have HON10 := zq (hu10.ownsRow HON9.out (fun k hk e => by have e : k = B := e; have := (HON9.out.lt k hk).1; have := HB7.out; omega))
    have HOB10 := zq (hu10.ownsRow HOB9.out (fun k hk e => by have e : k = B := e; have := (HOB9.out.lt k hk).1; have := HB7.out; omega))
    have h15 := hu10.at_ H15.out (fun e => by have e : g15 = B := e; have := HG15.out; have := HB7.out; omega)
    clear hu10 hm10 f0 f1 f2 fl9
    have f0 := cZ h15 0 _ rfl
    have f1 := cZ h15 1 _ rfl
    have f2 := cZ h15 2 _ rfl
    have fl9 := lZ h15
    clear h15
    go_wp2_with (go_at_call 16; fail)
    refine (spoil_any w10 er _ _ nl bn w7.heap.size _ _ HON10.out HOB10.out (by omega) (by omega) ⟨_, _, rfl⟩ ⟨_, _, rfl⟩).mono ?_
    rintro e w11 ⟨rfl, hu11⟩
    have HOB7 := zq (show ∀ i, ((Value.slice na1 nl nc1).ownBlock = some i \/ (Value.slice ba1 bn bc1).ownBlock = some i) -> w7.heap.size <= i from fun i e => by
     rcases e with e | e
     ·exact (HON10.out.lt i e).1
     ·exact (HOB10.out.lt i e).1)
    have HU711 := zq (show Upd (At B) w7 w11 from ((HX79.out.mono (fun _ _ e => e.elim) : Upd (At B) w7 w9).trans HU10.out).step hu11 (fun i hi e => by have := HOB7.out i e; omega))
    have HM11 := zq (HM10.out.upd2 hu11 (fun k e => ⟨by have := HOB7.out k e; have := HB7.out; omega, by
     rcases e with e | e
     ·obtain ⟨cur, hc⟩ := owns_tag HON10.out e
      exact ⟨cur, _, hc, by decide, by decide, by decide⟩
     ·obtain ⟨cur, hc⟩ := owns_tag HOB10.out e
      exact ⟨cur, _, hc, by decide, by decide, by decide⟩⟩))
    have HXW11 := zq (show Ext W w11 from HXW7.out.step HU711.out (fun i hi e => by have e : i = B := e; have := HWB.out; omega))
    have HFD7 := zq (HI.out.fed.ext HX7.out)
    have HFD11 := zq (HFD7.out.upd HU711.out (fun k cur e hk hc => by
     have hk : k = B := hk
     obtain ⟨cs, h⟩ := HPT.out
     rw [hk, h] at hc
     simp only [Option.some.injEq, Obj.cells.injEq] at hc
     obtain ⟨-, rfl, -⟩ := hc
     exact ⟨by decide, by decide, by decide⟩))
    have HCF11 := zq (HU711.out.at_ (HX7.out.at_ HI.out.cfg id) (fun e => by
     have e : g5 = B := e
     obtain ⟨cs, h⟩ := HPT.out
     have h5 := HX7.out.at_ HI.out.cfg id
     rw [e, h] at h5
     cases h5))
    have HRW11 := zq (HU711.out.ownsT (HX7.out.ownsRow HI.out.row (fun _ _ e => e)) (fun k cur hk hc => by
     have hk : k = B := hk
     obtain ⟨cs, h⟩ := HPT.out
     rw [hk, h] at hc
     cases hc))
    have d0 : w11.cell? ⟨bb, oo + n * 3, none⟩ = some (.int .i64 er) := HU711.out.cell D0.out (fun e => by have e : bb = B := e; have := DW.out; have := HWB.out; omega)
    have d1 : w11.cell? ⟨bb, oo + n * 3 + 1, none⟩ = some (.slice na nl nc) := HU711.out.cell D1.out (fun e => by have e : bb = B := e; have := DW.out; have := HWB.out; omega)
    have d2 : w11.cell? ⟨bb, oo + n * 3 + 2, none⟩ = some (.slice bba bn bbc) := HU711.out.cell D2.out (fun e => by have e : bb = B := e; have := DW.out; have := HWB.out; omega)
    have HBS11 := zq (show base <= w11.heap.size from Nat.le_trans HI.out.size (Nat.le_trans HX7.out.size HU711.out.size))
    clear hu11 f0 f1 f2 fl9
    go_wp2_with (go_at_call 17; fail)
    refine (HRESC.out w11 HXW11.out).mono ?_
    rintro e w12 ⟨na2, nc2, ba2, bc2, rfl, hon2, hob2, hx12⟩
    obtain ⟨ys, hys1, hys2, hys3⟩ := HFD11.out.ext hx12
    have hyl : ys.length = (L.take n).length := by rw [<- hys1, List.length_map]
    have hyl2 : ys.length <= 40 := by rw [hyl, List.length_take]; have := HL40.out; omega
    have HY1 := zq hys1
    have HY2 := zq hys2
    have HY3 := zq hys3
    have HON12 := zq (hon2.mono_base HBS11.out)
    have HOB12 := zq (hob2.mono_base HBS11.out)
    have HX12 := zq hx12
    obtain ⟨yl, hyl3⟩ : ∃ q, q = ys.length := ⟨_, rfl⟩
    have HYL := zq hyl3
    have hyl4 : yl <= 40 := by omega
    obtain ⟨w13, hw13⟩ : ∃ u', u' = w12.alloc (.cells #[.int .i64 er, .slice na2 nl nc2, .slice ba2 bn bc2] 50) := ⟨_, rfl⟩
    have hx13 : Ext w12 w13 := by rw [hw13]; exact uZ.alloc _
    have hrow13 : Row (At w12.heap.size) w13 (.slice (some ⟨w12.heap.size, 0, none⟩) 1 1) 1 [.int .i64 er, .slice na2 nl nc2, .slice ba2 bn bc2] := by
     rw [hw13]; exact row_new w12 #[.int .i64 er, .slice na2 nl nc2, .slice ba2 bn bc2] 50 1 w12.heap.size (by decide) rfl
    have hb13 : base <= w13.heap.size := Nat.le_trans HBS11.out (Nat.le_trans hx12.size hx13.size)
    have HX13 := zq hx13
    have HW13 := zq hw13
    have hlit := hx13.ownsRow HY2.out (fun _ _ e => e)
    rw [<- HYL.out] at hlit
    have hone : OneCells [.int .i64 er, .slice na2 nl nc2, .slice ba2 bn bc2] := by intro u hu; simp at hu; rcases hu with rfl | rfl | rfl <;> rfl
    clear hys1 hys2 hys3 hyl hyl2 hon2 hob2 hx12 hyl3 hw13 hx13 d0 d1 d2
    go_wp2_with (at_builtin; rw [show w12.alloc (.cells #[.int .i64 er, .slice na2 nl nc2, .slice ba2 bn bc2] 50) = w13 from HW13.out.symm]; go_must (refine wpList_append_row rfl _ _ _ rfl Tryz.rresT rfl hlit rfl hrow13 rfl hone ?e1 ?e2 hb13 ?_))
    case e1 => unfold maxLen; omega
    case e2 => omega
    intro v14 w14 hown14 hg14 _
    obtain ⟨r14, m14, c14, rfl⟩ := ownsForm hown14
    have HOWN14 := zq hown14
    have HG14 := zq hg14
    clear hown14 hg14 hlit hrow13 hone hb13
    go_wp2
    go_roundw
    case rel =>
     have hug := grownUpd HG14.out
     have hy13 := HX13.out.ownsRow HY2.out (fun _ _ e => e)
     have hx1113 := HX12.out.trans HX13.out
     have hu1114 : Upd (fun k => (Value.slice fa fl fc).ownBlock = some k) w11 w14 := (hx1113.mono (fun _ _ e => e.elim) : Upd (fun k => (Value.slice fa fl fc).ownBlock = some k) w11 w13).trans hug
     have htag : ∀ k, (Value.slice fa fl fc).ownBlock = some k -> ∃ cur, w13.heap[k]? = some (.cells cur 50 (0, 0)) := fun k hk => owns_tag hy13 hk
     have hne : ∀ {e : TypeId}, e ≠ 50 -> ∀ k cur, (Value.slice fa fl fc).ownBlock = some k -> w13.heap[k]? ≠ some (.cells cur e (0, 0)) := fun he k cur hk hc => by
      obtain ⟨cur', hc'⟩ := htag k hk
      rw [hc] at hc'
      simp only [Option.some.injEq, Obj.cells.injEq] at hc'
      exact he hc'.2.1
     have hbk : ∀ k, (Value.slice fa fl fc).ownBlock = some k -> base <= k := fun k hk => (hy13.lt k hk).1
     have p1 : Ext W w14 := HXW11.out.step hu1114 (fun i hi e => by have := hbk i e; have := HWBASE.out; omega)
     have hrun : runP c (L.take (n + 1)) = goP c (x, ln) r := by rw [HTK.out, run_snoc, HRX.out]
     have p2 : IsMac w14 B c (runP c (L.take (n + 1))).1 (runP c (L.take (n + 1))).2 := by
      rw [hrun]
      refine (HM11.out.ext hx1113).upd2 hug (fun k hk => ⟨by have := hbk k hk; have := HBB.out; omega, ?_⟩)
      obtain ⟨cur, hc⟩ := htag k hk
      exact ⟨cur, _, hc, by decide, by decide, by decide⟩
     have p3 : FedIs base w14 (.slice r14 m14 c14) (L.take (n + 1)) := by
      rw [HTK.out]
      refine ⟨ys ++ [(r, .slice na2 nl nc2, .slice ba2 bn bc2)], by rw [List.map_append, HY1.out]; rfl, ?_, fun y hy => ?_⟩
      ·rw [List.length_append, show flatR (ys ++ [(r, .slice na2 nl nc2, .slice ba2 bn bc2)]) = flatR ys ++ [.int .i64 r.err, .slice na2 nl nc2, .slice ba2 bn bc2] by simp [flatR], <- HYL.out]
       exact HER.out ▸ HOWN14.out
      ·rcases List.mem_append.1 hy with hy | hy
       ·exact ⟨hug.ownsT (HX13.out.ownsRow (HY3.out y hy).1 (fun _ _ e => e)) (hne (by decide)), hug.ownsT (HX13.out.ownsRow (HY3.out y hy).2 (fun _ _ e => e)) (hne (by decide))⟩
       ·obtain rfl := List.mem_singleton.1 hy
        refine ⟨hug.ownsT (HX13.out.ownsRow ?_ (fun _ _ e => e)) (hne (by decide)), hug.ownsT (HX13.out.ownsRow ?_ (fun _ _ e => e)) (hne (by decide))⟩
        ·rw [<- HNLR.out]; exact HON12.out
        ·rw [<- HBNR.out]; exact HOB12.out
     have p4 := hug.at_ (hx1113.at_ HCF11.out id) (fun e => by
      obtain ⟨cur, hc⟩ := htag g5 e
      rw [hx1113.at_ HCF11.out id] at hc
      cases hc)
     have p5 := hug.ownsT (hx1113.ownsRow HRW11.out (fun _ _ e => e)) (hne (by decide))
     have p6 : base <= w14.heap.size := Nat.le_trans HBS11.out hu1114.size
     exact ⟨n + 1, by have := HEND.out; omega, by go_num, zq ⟨p1, fun _ => ⟨p2, p3, p4, p5, p6⟩⟩⟩
    case measure => have := HEND.out; simp [intOf]; omega
  ·have hi : ¬ ((n : Int) <= (xs.length : Int)) := by have := HLL.out; omega
   go_wp2_with (go_at_call 5; fail)
   refine (HWK.out wr (HE.out.ext HR.out.1)).mono ?_
   rintro e w3 ⟨rfl, hx3⟩
   have HX3 := zq (HR.out.1.trans hx3)
   clear hx3
   go_wp2
   go_ret
   exact ⟨rfl, HX3.out⟩
end Go.Proofs.YtnkmpoplibnflaaGreatDoor.Wk
