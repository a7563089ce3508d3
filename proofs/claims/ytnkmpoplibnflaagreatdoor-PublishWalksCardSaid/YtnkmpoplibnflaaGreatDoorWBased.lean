/-
  CONTRACT of a publication's based. Condition: it is there; a floor from its number on; at most 60000 bytes.
-/
import Derived.Test.YtnkmpoplibnflaaGreatDoorGAV
import Derived.Test.YtnkmpoplibnflaaGreatDoorGAW
import Derived.Test.YtnkmpoplibnflaaGreatDoorWListed
set_option maxRecDepth 100000
set_option maxHeartbeats 16000000
namespace Go.Proofs.YtnkmpoplibnflaaGreatDoor.Wk
open Go Go.Proofs.YtnkmpoplibnflaaGreatDoor Go.RowKit
theorem base_lit {S : Nat -> Prop} (w : World) (c f : Nat) (v : Value) (l : List UInt8) (h : Bytes S w v l) (hl : l.length <= 60000) (hf : 0 < f) :
  Calls Tryz.prog 109 #[.int .u64 c, .int .u64 f, v] w fun e w' => ∃ (ch tl ea eb ec ed : Nat) (hh sd : Bool) (pa va ca la : Option Addr) (pn pc vn vc cn cc lln lc : Nat) (E : Int), e = .returned (.tuple #[.agg #[.int .u64 (ch : Int), .int .u64 (tl : Int), .int .u64 (ea : Int), .int .u64 (eb : Int), .int .u64 (ec : Int), .int .u64 (ed : Int), .bool hh, .slice pa pn pc, .slice va vn vc, .bool sd, .slice ca cn cc, .slice la lln lc], .int .i64 E]) /\ Ext w w' /\ (E = 0 -> ∃ x, baseO l x /\ x.chain = c /\ x.tail = f /\ Row (From w.heap.size) w' (.slice la lln lc) x.last.length (flatT x.last)) /\ (E ≠ 0 -> E = 220 /\ Value.slice la lln lc = .slice none 0 0 /\ ∀ x, baseO l x -> ¬ (x.chain = c /\ x.tail = f)) := by
 refine (base_any w c f v l h hl hf).mono ?_
 rintro e w' ⟨st, ch, tl, lv, E, ⟨ea, eb, ec, ed, hh, sd, pa, va, ca, la, pn, pc, vn, vc, cn, cc, lln, lc, rfl, rfl⟩, rfl, hx, h1, h2⟩
 exact ⟨ch, tl, ea, eb, ec, ed, hh, sd, pa, va, ca, la, pn, pc, vn, vc, cn, cc, lln, lc, E, rfl, hx, h1, h2⟩
theorem stores12 {w : World} {g T : Nat} {z0 z1 z2 z3 z4 z5 z6 z7 z8 z9 z10 z11 : Value} (h : w.heap[g]? = some (.cells #[z0, z1, z2, z3, z4, z5, z6, z7, z8, z9, z10, z11] T (0, 0))) (a0 a1 a2 a3 a4 a5 a6 a7 a8 a9 a10 a11 : Value) :
  ((((((((((((w.setCell ⟨g, 0, none⟩ a0).setCell ⟨g, 1, none⟩ a1).setCell ⟨g, 2, none⟩ a2).setCell ⟨g, 3, none⟩ a3).setCell ⟨g, 4, none⟩ a4).setCell ⟨g, 5, none⟩ a5).setCell ⟨g, 6, none⟩ a6).setCell ⟨g, 7, none⟩ a7).setCell ⟨g, 8, none⟩ a8).setCell ⟨g, 9, none⟩ a9).setCell ⟨g, 10, none⟩ a10).setCell ⟨g, 11, none⟩ a11).heap[g]? = some (.cells #[a0, a1, a2, a3, a4, a5, a6, a7, a8, a9, a10, a11] T (0, 0)) /\ Upd (At g) w ((((((((((((w.setCell ⟨g, 0, none⟩ a0).setCell ⟨g, 1, none⟩ a1).setCell ⟨g, 2, none⟩ a2).setCell ⟨g, 3, none⟩ a3).setCell ⟨g, 4, none⟩ a4).setCell ⟨g, 5, none⟩ a5).setCell ⟨g, 6, none⟩ a6).setCell ⟨g, 7, none⟩ a7).setCell ⟨g, 8, none⟩ a8).setCell ⟨g, 9, none⟩ a9).setCell ⟨g, 10, none⟩ a10).setCell ⟨g, 11, none⟩ a11) := by
 have h0 : (w.setCell ⟨g, 0, none⟩ a0).heap[g]? = some (.cells #[a0, z1, z2, z3, z4, z5, z6, z7, z8, z9, z10, z11] T (0, 0)) := setAt h
 have h1 : ((w.setCell ⟨g, 0, none⟩ a0).setCell ⟨g, 1, none⟩ a1).heap[g]? = some (.cells #[a0, a1, z2, z3, z4, z5, z6, z7, z8, z9, z10, z11] T (0, 0)) := setAt h0
 have h2 : (((w.setCell ⟨g, 0, none⟩ a0).setCell ⟨g, 1, none⟩ a1).setCell ⟨g, 2, none⟩ a2).heap[g]? = some (.cells #[a0, a1, a2, z3, z4, z5, z6, z7, z8, z9, z10, z11] T (0, 0)) := setAt h1
 have h3 : ((((w.setCell ⟨g, 0, none⟩ a0).setCell ⟨g, 1, none⟩ a1).setCell ⟨g, 2, none⟩ a2).setCell ⟨g, 3, none⟩ a3).heap[g]? = some (.cells #[a0, a1, a2, a3, z4, z5, z6, z7, z8, z9, z10, z11] T (0, 0)) := setAt h2
 have h4 : (((((w.setCell ⟨g, 0, none⟩ a0).setCell ⟨g, 1, none⟩ a1).setCell ⟨g, 2, none⟩ a2).setCell ⟨g, 3, none⟩ a3).setCell ⟨g, 4, none⟩ a4).heap[g]? = some (.cells #[a0, a1, a2, a3, a4, z5, z6, z7, z8, z9, z10, z11] T (0, 0)) := setAt h3
 have h5 : ((((((w.setCell ⟨g, 0, none⟩ a0).setCell ⟨g, 1, none⟩ a1).setCell ⟨g, 2, none⟩ a2).setCell ⟨g, 3, none⟩ a3).setCell ⟨g, 4, none⟩ a4).setCell ⟨g, 5, none⟩ a5).heap[g]? = some (.cells #[a0, a1, a2, a3, a4, a5, z6, z7, z8, z9, z10, z11] T (0, 0)) := setAt h4
 have h6 : (((((((w.setCell ⟨g, 0, none⟩ a0).setCell ⟨g, 1, none⟩ a1).setCell ⟨g, 2, none⟩ a2).setCell ⟨g, 3, none⟩ a3).setCell ⟨g, 4, none⟩ a4).setCell ⟨g, 5, none⟩ a5).setCell ⟨g, 6, none⟩ a6).heap[g]? = some (.cells #[a0, a1, a2, a3, a4, a5, a6, z7, z8, z9, z10, z11] T (0, 0)) := setAt h5
 have h7 : ((((((((w.setCell ⟨g, 0, none⟩ a0).setCell ⟨g, 1, none⟩ a1).setCell ⟨g, 2, none⟩ a2).setCell ⟨g, 3, none⟩ a3).setCell ⟨g, 4, none⟩ a4).setCell ⟨g, 5, none⟩ a5).setCell ⟨g, 6, none⟩ a6).setCell ⟨g, 7, none⟩ a7).heap[g]? = some (.cells #[a0, a1, a2, a3, a4, a5, a6, a7, z8, z9, z10, z11] T (0, 0)) := setAt h6
 have h8 : (((((((((w.setCell ⟨g, 0, none⟩ a0).setCell ⟨g, 1, none⟩ a1).setCell ⟨g, 2, none⟩ a2).setCell ⟨g, 3, none⟩ a3).setCell ⟨g, 4, none⟩ a4).setCell ⟨g, 5, none⟩ a5).setCell ⟨g, 6, none⟩ a6).setCell ⟨g, 7, none⟩ a7).setCell ⟨g, 8, none⟩ a8).heap[g]? = some (.cells #[a0, a1, a2, a3, a4, a5, a6, a7, a8, z9, z10, z11] T (0, 0)) := setAt h7
 have h9 : ((((((((((w.setCell ⟨g, 0, none⟩ a0).setCell ⟨g, 1, none⟩ a1).setCell ⟨g, 2, none⟩ a2).setCell ⟨g, 3, none⟩ a3).setCell ⟨g, 4, none⟩ a4).setCell ⟨g, 5, none⟩ a5).setCell ⟨g, 6, none⟩ a6).setCell ⟨g, 7, none⟩ a7).setCell ⟨g, 8, none⟩ a8).setCell ⟨g, 9, none⟩ a9).heap[g]? = some (.cells #[a0, a1, a2, a3, a4, a5, a6, a7, a8, a9, z10, z11] T (0, 0)) := setAt h8
 have h10 : (((((((((((w.setCell ⟨g, 0, none⟩ a0).setCell ⟨g, 1, none⟩ a1).setCell ⟨g, 2, none⟩ a2).setCell ⟨g, 3, none⟩ a3).setCell ⟨g, 4, none⟩ a4).setCell ⟨g, 5, none⟩ a5).setCell ⟨g, 6, none⟩ a6).setCell ⟨g, 7, none⟩ a7).setCell ⟨g, 8, none⟩ a8).setCell ⟨g, 9, none⟩ a9).setCell ⟨g, 10, none⟩ a10).heap[g]? = some (.cells #[a0, a1, a2, a3, a4, a5, a6, a7, a8, a9, a10, z11] T (0, 0)) := setAt h9
 have h11 : ((((((((((((w.setCell ⟨g, 0, none⟩ a0).setCell ⟨g, 1, none⟩ a1).setCell ⟨g, 2, none⟩ a2).setCell ⟨g, 3, none⟩ a3).setCell ⟨g, 4, none⟩ a4).setCell ⟨g, 5, none⟩ a5).setCell ⟨g, 6, none⟩ a6).setCell ⟨g, 7, none⟩ a7).setCell ⟨g, 8, none⟩ a8).setCell ⟨g, 9, none⟩ a9).setCell ⟨g, 10, none⟩ a10).setCell ⟨g, 11, none⟩ a11).heap[g]? = some (.cells #[a0, a1, a2, a3, a4, a5, a6, a7, a8, a9, a10, a11] T (0, 0)) := setAt h10
 have u0 : Upd (At g) w (w.setCell ⟨g, 0, none⟩ a0) := Upd.own w g 0 a0
 have u1 : Upd (At g) w ((w.setCell ⟨g, 0, none⟩ a0).setCell ⟨g, 1, none⟩ a1) := u0.trans (Upd.own (w.setCell ⟨g, 0, none⟩ a0) g 1 a1)
 have u2 : Upd (At g) w (((w.setCell ⟨g, 0, none⟩ a0).setCell ⟨g, 1, none⟩ a1).setCell ⟨g, 2, none⟩ a2) := u1.trans (Upd.own ((w.setCell ⟨g, 0, none⟩ a0).setCell ⟨g, 1, none⟩ a1) g 2 a2)
 have u3 : Upd (At g) w ((((w.setCell ⟨g, 0, none⟩ a0).setCell ⟨g, 1, none⟩ a1).setCell ⟨g, 2, none⟩ a2).setCell ⟨g, 3, none⟩ a3) := u2.trans (Upd.own (((w.setCell ⟨g, 0, none⟩ a0).setCell ⟨g, 1, none⟩ a1).setCell ⟨g, 2, none⟩ a2) g 3 a3)
 have u4 : Upd (At g) w (((((w.setCell ⟨g, 0, none⟩ a0).setCell ⟨g, 1, none⟩ a1).setCell ⟨g, 2, none⟩ a2).setCell ⟨g, 3, none⟩ a3).setCell ⟨g, 4, none⟩ a4) := u3.trans (Upd.own ((((w.setCell ⟨g, 0, none⟩ a0).setCell ⟨g, 1, none⟩ a1).setCell ⟨g, 2, none⟩ a2).setCell ⟨g, 3, none⟩ a3) g 4 a4)
 have u5 : Upd (At g) w ((((((w.setCell ⟨g, 0, none⟩ a0).setCell ⟨g, 1, none⟩ a1).setCell ⟨g, 2, none⟩ a2).setCell ⟨g, 3, none⟩ a3).setCell ⟨g, 4, none⟩ a4).setCell ⟨g, 5, none⟩ a5) := u4.trans (Upd.own (((((w.setCell ⟨g, 0, none⟩ a0).setCell ⟨g, 1, none⟩ a1).setCell ⟨g, 2, none⟩ a2).setCell ⟨g, 3, none⟩ a3).setCell ⟨g, 4, none⟩ a4) g 5 a5)
 have u6 : Upd (At g) w (((((((w.setCell ⟨g, 0, none⟩ a0).setCell ⟨g, 1, none⟩ a1).setCell ⟨g, 2, none⟩ a2).setCell ⟨g, 3, none⟩ a3).setCell ⟨g, 4, none⟩ a4).setCell ⟨g, 5, none⟩ a5).setCell ⟨g, 6, none⟩ a6) := u5.trans (Upd.own ((((((w.setCell ⟨g, 0, none⟩ a0).setCell ⟨g, 1, none⟩ a1).setCell ⟨g, 2, none⟩ a2).setCell ⟨g, 3, none⟩ a3).setCell ⟨g, 4, none⟩ a4).setCell ⟨g, 5, none⟩ a5) g 6 a6)
 have u7 : Upd (At g) w ((((((((w.setCell ⟨g, 0, none⟩ a0).setCell ⟨g, 1, none⟩ a1).setCell ⟨g, 2, none⟩ a2).setCell ⟨g, 3, none⟩ a3).setCell ⟨g, 4, none⟩ a4).setCell ⟨g, 5, none⟩ a5).setCell ⟨g, 6, none⟩ a6).setCell ⟨g, 7, none⟩ a7) := u6.trans (Upd.own (((((((w.setCell ⟨g, 0, none⟩ a0).setCell ⟨g, 1, none⟩ a1).setCell ⟨g, 2, none⟩ a2).setCell ⟨g, 3, none⟩ a3).setCell ⟨g, 4, none⟩ a4).setCell ⟨g, 5, none⟩ a5).setCell ⟨g, 6, none⟩ a6) g 7 a7)
 have u8 : Upd (At g) w (((((((((w.setCell ⟨g, 0, none⟩ a0).setCell ⟨g, 1, none⟩ a1).setCell ⟨g, 2, none⟩ a2).setCell ⟨g, 3, none⟩ a3).setCell ⟨g, 4, none⟩ a4).setCell ⟨g, 5, none⟩ a5).setCell ⟨g, 6, none⟩ a6).setCell ⟨g, 7, none⟩ a7).setCell ⟨g, 8, none⟩ a8) := u7.trans (Upd.own ((((((((w.setCell ⟨g, 0, none⟩ a0).setCell ⟨g, 1, none⟩ a1).setCell ⟨g, 2, none⟩ a2).setCell ⟨g, 3, none⟩ a3).setCell ⟨g, 4, none⟩ a4).setCell ⟨g, 5, none⟩ a5).setCell ⟨g, 6, none⟩ a6).setCell ⟨g, 7, none⟩ a7) g 8 a8)
 have u9 : Upd (At g) w ((((((((((w.setCell ⟨g, 0, none⟩ a0).setCell ⟨g, 1, none⟩ a1).setCell ⟨g, 2, none⟩ a2).setCell ⟨g, 3, none⟩ a3).setCell ⟨g, 4, none⟩ a4).setCell ⟨g, 5, none⟩ a5).setCell ⟨g, 6, none⟩ a6).setCell ⟨g, 7, none⟩ a7).setCell ⟨g, 8, none⟩ a8).setCell ⟨g, 9, none⟩ a9) := u8.trans (Upd.own (((((((((w.setCell ⟨g, 0, none⟩ a0).setCell ⟨g, 1, none⟩ a1).setCell ⟨g, 2, none⟩ a2).setCell ⟨g, 3, none⟩ a3).setCell ⟨g, 4, none⟩ a4).setCell ⟨g, 5, none⟩ a5).setCell ⟨g, 6, none⟩ a6).setCell ⟨g, 7, none⟩ a7).setCell ⟨g, 8, none⟩ a8) g 9 a9)
 have u10 : Upd (At g) w (((((((((((w.setCell ⟨g, 0, none⟩ a0).setCell ⟨g, 1, none⟩ a1).setCell ⟨g, 2, none⟩ a2).setCell ⟨g, 3, none⟩ a3).setCell ⟨g, 4, none⟩ a4).setCell ⟨g, 5, none⟩ a5).setCell ⟨g, 6, none⟩ a6).setCell ⟨g, 7, none⟩ a7).setCell ⟨g, 8, none⟩ a8).setCell ⟨g, 9, none⟩ a9).setCell ⟨g, 10, none⟩ a10) := u9.trans (Upd.own ((((((((((w.setCell ⟨g, 0, none⟩ a0).setCell ⟨g, 1, none⟩ a1).setCell ⟨g, 2, none⟩ a2).setCell ⟨g, 3, none⟩ a3).setCell ⟨g, 4, none⟩ a4).setCell ⟨g, 5, none⟩ a5).setCell ⟨g, 6, none⟩ a6).setCell ⟨g, 7, none⟩ a7).setCell ⟨g, 8, none⟩ a8).setCell ⟨g, 9, none⟩ a9) g 10 a10)
 have u11 : Upd (At g) w ((((((((((((w.setCell ⟨g, 0, none⟩ a0).setCell ⟨g, 1, none⟩ a1).setCell ⟨g, 2, none⟩ a2).setCell ⟨g, 3, none⟩ a3).setCell ⟨g, 4, none⟩ a4).setCell ⟨g, 5, none⟩ a5).setCell ⟨g, 6, none⟩ a6).setCell ⟨g, 7, none⟩ a7).setCell ⟨g, 8, none⟩ a8).setCell ⟨g, 9, none⟩ a9).setCell ⟨g, 10, none⟩ a10).setCell ⟨g, 11, none⟩ a11) := u10.trans (Upd.own (((((((((((w.setCell ⟨g, 0, none⟩ a0).setCell ⟨g, 1, none⟩ a1).setCell ⟨g, 2, none⟩ a2).setCell ⟨g, 3, none⟩ a3).setCell ⟨g, 4, none⟩ a4).setCell ⟨g, 5, none⟩ a5).setCell ⟨g, 6, none⟩ a6).setCell ⟨g, 7, none⟩ a7).setCell ⟨g, 8, none⟩ a8).setCell ⟨g, 9, none⟩ a9).setCell ⟨g, 10, none⟩ a10) g 11 a11)
 exact ⟨h11, u11⟩
theorem mbased_80 {S : Nat -> Prop} {w : World} {B k : Nat} {c : Cfg} {nm tt : List UInt8} {bv cb fn : Value} {ln : Bool} (h : PM w B (macC c.chain c.n c.proc c.inc c.seq (txF c) (sxF c) bv k nm tt cb fn false 0 ln)) (hok : c.Ok) (hn : 0 < c.n) (hb : Bytes (Till B) w bv c.bytes) (f : Nat) (hf : c.n <= f) (r : Res) (na ba : Option Addr) (nn nc bc : Nat) (he : r.err = 80) :
  Calls Tryz.prog 89 #[.pointer (some ⟨B, 0, none⟩), .int .u64 f, .agg #[.int .i64 r.err, .slice na nn nc, .slice ba r.bytes.length bc]] w fun r' w' => r' = .returned (.tuple #[]) /\ Upd (At B) w w' /\ IsMac w' B c (baseP c f r) ln := by
 rw [baseP_80 he, he]
 obtain ⟨w1, hw1⟩ : ∃ u, u = (w.alloc (.cells #[.pointer (some ⟨B, 0, none⟩)] 31)).alloc (.cells #[.int .i64 80, .slice na nn nc, .slice ba r.bytes.length bc] 47) := ⟨_, rfl⟩
 have h2 := allocs2 w (.cells #[.pointer (some ⟨B, 0, none⟩)] 31) (.cells #[.int .i64 80, .slice na nn nc, .slice ba r.bytes.length bc] 47)
 rw [<- hw1] at h2
 obtain ⟨hA, hC, hx1⟩ := h2
 obtain ⟨bm, hbm⟩ : ∃ g, g = w.heap.size := ⟨_, rfl⟩
 rw [<- hbm] at hA hC
 have HBM := zq hbm
 have HX1 := zq hx1
 have HBL := zq (lZ h)
 have hm1 := hx1.at_ h id
 have HM := zq hm1
 have HA := zq hA
 have HC := zq hC
 have HW1 := zq hw1
 have HOK := zq hok
 have HN := zq hn
 have HB := zq hb
 have HFN := zq hf
 have a0 := cZ hA 0 _ rfl
 have la0 := lZ hA
 have c0 := cZ hC 0 _ rfl
 have c1 := cZ hC 1 _ rfl
 have c2 := cZ hC 2 _ rfl
 have lc0 := lZ hC
 have hb1 : ((80 : Int) == 80) = true := rfl
 clear hx1 hA hC hw1 h hm1 hok hn hb hf hbm
 go_enter Tryz.func89, Tryz.ntmps89
 go_upto_region 1 with fail
 rw [show (w.alloc (.cells #[.pointer (some ⟨B, 0, none⟩)] 31)).alloc (.cells #[.int .i64 80, .slice na nn nc, .slice ba r.bytes.length bc] 47) = w1 from HW1.out.symm, <- HBM.out]
 go_wp2_with (go_at_call 32; fail)
 refine (mgoes_ok HM.out none none none 0 0 0 0 0 0 7 [] [] _ _ _).mono ?_
 rintro r' w2 ⟨rfl, hu, hp⟩
 have HU := zq hu
 have HP := zq hp
 clear hu hp
 go_wp2
 refine bodyPost_ret (results_none rfl _ _ _) rfl ?_
 exact ⟨rfl, (HX1.out.mono (fun _ _ e => e.elim)).trans HU.out, isMac_5 HN.out (HB.out.upd (((HX1.out.mono (fun _ _ e => e.elim)) : Upd (At B) w w1).trans HU.out) (fun k hk e => by have hk : k < B := hk; have e : k = B := e; omega)) HP.out⟩
theorem mbased_bad {S : Nat -> Prop} {w : World} {B k : Nat} {c : Cfg} {nm tt : List UInt8} {bv cb fn : Value} {ln : Bool} (h : PM w B (macC c.chain c.n c.proc c.inc c.seq (txF c) (sxF c) bv k nm tt cb fn false 0 ln)) (hok : c.Ok) (hn : 0 < c.n) (hb : Bytes (Till B) w bv c.bytes) (f : Nat) (hf : c.n <= f) (r : Res) (na ba : Option Addr) (nn nc bc : Nat) (he : r.err ≠ 80) (he0 : r.err ≠ 0) :
  Calls Tryz.prog 89 #[.pointer (some ⟨B, 0, none⟩), .int .u64 f, .agg #[.int .i64 r.err, .slice na nn nc, .slice ba r.bytes.length bc]] w fun r' w' => r' = .returned (.tuple #[]) /\ Upd (At B) w w' /\ IsMac w' B c (baseP c f r) ln := by
 rw [baseP_err he he0]
 obtain ⟨e, hee⟩ : ∃ e, e = r.err := ⟨_, rfl⟩
 rw [<- hee] at he he0 ⊢
 obtain ⟨w1, hw1⟩ : ∃ u, u = (w.alloc (.cells #[.pointer (some ⟨B, 0, none⟩)] 31)).alloc (.cells #[.int .i64 e, .slice na nn nc, .slice ba r.bytes.length bc] 47) := ⟨_, rfl⟩
 have h2 := allocs2 w (.cells #[.pointer (some ⟨B, 0, none⟩)] 31) (.cells #[.int .i64 e, .slice na nn nc, .slice ba r.bytes.length bc] 47)
 rw [<- hw1] at h2
 obtain ⟨hA, hC, hx1⟩ := h2
 obtain ⟨bm, hbm⟩ : ∃ g, g = w.heap.size := ⟨_, rfl⟩
 rw [<- hbm] at hA hC
 have HBM := zq hbm
 have HX1 := zq hx1
 have HBL := zq (lZ h)
 have hm1 := hx1.at_ h id
 have HM := zq hm1
 have HA := zq hA
 have HC := zq hC
 have HW1 := zq hw1
 have HOK := zq hok
 have HN := zq hn
 have HB := zq hb
 have HFN := zq hf
 have a0 := cZ hA 0 _ rfl
 have la0 := lZ hA
 have c0 := cZ hC 0 _ rfl
 have c1 := cZ hC 1 _ rfl
 have c2 := cZ hC 2 _ rfl
 have lc0 := lZ hC
 have hb1 : (e == 80) = false := by simpa using he
 have hb2 : (e != 0) = true := by simpa using he0
 clear hx1 hA hC hw1 h hm1 hok hn hb hf hbm he he0 hee
 go_enter Tryz.func89, Tryz.ntmps89
 go_upto_region 1 with fail
 rw [show (w.alloc (.cells #[.pointer (some ⟨B, 0, none⟩)] 31)).alloc (.cells #[.int .i64 e, .slice na nn nc, .slice ba r.bytes.length bc] 47) = w1 from HW1.out.symm, <- HBM.out]
 go_wp2_with (go_at_call 46; fail)
 refine (mends_any HM.out e).mono ?_
 rintro r' w2 ⟨rfl, hu, hp⟩
 have HU := zq hu
 have HP := zq hp
 clear hu hp
 go_wp2
 refine bodyPost_ret (results_none rfl _ _ _) rfl ?_
 exact ⟨rfl, (HX1.out.mono (fun _ _ e => e.elim)).trans HU.out, isMac_9 HN.out (HB.out.upd (((HX1.out.mono (fun _ _ e => e.elim)) : Upd (At B) w w1).trans HU.out) (fun k hk e => by have hk : k < B := hk; have e : k = B := e; omega)) HP.out⟩
theorem seq_someC {S : Nat -> Prop} (w : World) (st : Array Value) (v : Value) (l : List Tr) (p i q : Nat) (hst : ∃ x0 x1 x2 x3 x4 x5 x6 x7 x8 x9 x10, st = #[x0, x1, x2, x3, x4, x5, x6, x7, x8, x9, x10, v]) (hone : st.all (·.oneCell') = true) (h : Row S w v l.length (flatT l)) (hlen : l.length <= 1000000) (hq : seqF l p i = some q) :
  Calls Tryz.prog 110 #[.agg st, .int .u64 p, .int .u64 i] w fun e w' => e = .returned (.tuple #[.int .u64 (q : Int), .bool true]) /\ Ext w w' := by
 have := seq_any w st v l p i hst hone h hlen
 rw [hq] at this
 exact this
theorem seq_noneC {S : Nat -> Prop} (w : World) (st : Array Value) (v : Value) (l : List Tr) (p i : Nat) (hst : ∃ x0 x1 x2 x3 x4 x5 x6 x7 x8 x9 x10, st = #[x0, x1, x2, x3, x4, x5, x6, x7, x8, x9, x10, v]) (hone : st.all (·.oneCell') = true) (h : Row S w v l.length (flatT l)) (hlen : l.length <= 1000000) (hq : seqF l p i = none) :
  Calls Tryz.prog 110 #[.agg st, .int .u64 p, .int .u64 i] w fun e w' => e = .returned (.tuple #[.int .u64 0, .bool false]) /\ Ext w w' := by
 have := seq_any w st v l p i hst hone h hlen
 rw [hq] at this
 exact this
def bsVal (B bm g ch tl ea eb ec ed : Nat) (hh sd : Bool) (pa va ca la : Option Addr) (pn pc vn vc cn cc ll lc pr ic q : Nat) (okq : Bool) : Nat -> Value
 | 0 => .agg #[.int .u64 (ch : Int), .int .u64 (tl : Int), .int .u64 (ea : Int), .int .u64 (eb : Int), .int .u64 (ec : Int), .int .u64 (ed : Int), .bool hh, .slice pa pn pc, .slice va vn vc, .bool sd, .slice ca cn cc, .slice la ll lc]
 | 1 => .pointer (some ⟨B, 0, none⟩)
 | 2 => .pointer (some ⟨B, 0, none⟩)
 | 3 => .pointer (some ⟨B, 0, none⟩)
 | 4 => .pointer (some ⟨B, 2, none⟩)
 | 5 => .int .u64 (pr : Int)
 | 6 => .pointer (some ⟨B, 0, none⟩)
 | 7 => .pointer (some ⟨B, 0, none⟩)
 | 8 => .pointer (some ⟨B, 0, none⟩)
 | 9 => .pointer (some ⟨B, 3, none⟩)
 | 10 => .int .u64 (ic : Int)
 | 11 => .tuple #[.int .u64 (q : Int), .bool okq]
 | 12 => .tuple #[.int .u64 (q : Int), .bool okq]
 | 13 => .int .u64 (q : Int)
 | 14 => .bool okq
 | 15 => .int .u64 (q : Int)
 | 16 => .bool okq
 | _ => undef
def bsDst (i : Nat) : Tmp := if i = 12 then 38 else if i = 13 then 51 else if i = 14 then 52 else if i = 15 then 8 else if i = 16 then 9 else 39 + i
theorem bsDst_ne {j t : Nat} (ht : t = 3 \/ t = 6) (e : bsDst j = t) : False := by
 unfold bsDst at e
 have e : (if j = 12 then 38 else if j = 13 then 51 else if j = 14 then 52 else if j = 15 then 8 else if j = 16 then 9 else 39 + j : Nat) = t := e
 rcases ht with rfl | rfl <;> (repeat' (split at e)) <;> omega
def bsPhi (B bm g ch tl ea eb ec ed : Nat) (hh sd : Bool) (pa va ca la : Option Addr) (pn pc vn vc cn cc ll lc pr ic q : Nat) (okq : Bool) (ix : Nat) (v : Value) (_ : World) : Prop := v = bsVal B bm g ch tl ea eb ec ed hh sd pa va ca la pn pc vn vc cn cc ll lc pr ic q okq ix
theorem bsPhi.ext {B bm g ch tl ea eb ec ed : Nat} {hh sd : Bool} {pa va ca la : Option Addr} {pn pc vn vc cn cc ll lc pr ic q : Nat} {okq : Bool} {ix : Nat} {v : Value} {w w' : World} (h : bsPhi B bm g ch tl ea eb ec ed hh sd pa va ca la pn pc vn vc cn cc ll lc pr ic q okq ix v w) (_ : Ext w w') : bsPhi B bm g ch tl ea eb ec ed hh sd pa va ca la pn pc vn vc cn cc ll lc pr ic q okq ix v w' := by
 unfold bsPhi at h ⊢
 exact h
theorem mbased_ok {S : Nat -> Prop} {w : World} {B k : Nat} {c : Cfg} {nm tt : List UInt8} {bv cb fn : Value} {ln : Bool} (h : PM w B (macC c.chain c.n c.proc c.inc c.seq (txF c) (sxF c) bv k nm tt cb fn false 0 ln)) (hok : c.Ok) (hn : 0 < c.n) (hb : Bytes (Till B) w bv c.bytes) (f : Nat) (hf : c.n <= f) (r : Res) (na ba : Option Addr) (nn nc bc : Nat) (he : r.err = 0) (hr : Bytes S w (.slice ba r.bytes.length bc) r.bytes) (hl : r.bytes.length <= 60000) :
  Calls Tryz.prog 89 #[.pointer (some ⟨B, 0, none⟩), .int .u64 f, .agg #[.int .i64 r.err, .slice na nn nc, .slice ba r.bytes.length bc]] w fun r' w' => r' = .returned (.tuple #[]) /\ Upd (At B) w w' /\ IsMac w' B c (baseP c f r) ln := by
 rw [he]
 obtain ⟨w1, hw1⟩ : ∃ u, u = (w.alloc (.cells #[.pointer (some ⟨B, 0, none⟩)] 31)).alloc (.cells #[.int .i64 0, .slice na nn nc, .slice ba r.bytes.length bc] 47) := ⟨_, rfl⟩
 have h2 := allocs2 w (.cells #[.pointer (some ⟨B, 0, none⟩)] 31) (.cells #[.int .i64 0, .slice na nn nc, .slice ba r.bytes.length bc] 47)
 rw [<- hw1] at h2
 obtain ⟨hA, hC, hx1⟩ := h2
 obtain ⟨bm, hbm⟩ : ∃ g, g = w.heap.size := ⟨_, rfl⟩
 rw [<- hbm] at hA hC
 have HBM := zq hbm
 have HX1 := zq hx1
 have HBL := zq (lZ h)
 have hm1 := hx1.at_ h id
 have HM := zq hm1
 have HA := zq hA
 have HC := zq hC
 have HW1 := zq hw1
 have HOK := zq hok
 have HN := zq hn
 have HB := zq hb
 have HFN := zq hf
 have a0 := cZ hA 0 _ rfl
 have la0 := lZ hA
 have c0 := cZ hC 0 _ rfl
 have c1 := cZ hC 1 _ rfl
 have c2 := cZ hC 2 _ rfl
 have lc0 := lZ hC
 have hb1 : ((0 : Int) == 80) = false := rfl
 have hb2 : ((0 : Int) != 0) = false := rfl
 have m0 := cZ hm1 0 (.int .u64 (c.chain : Int)) rfl
 have lb := lZ hm1
 have HE0 := zq he
 have HL := zq hl
 have HCON := zq (show ∀ wq, Ext w wq -> Calls Tryz.prog 109 #[.int .u64 c.chain, .int .u64 f, .slice ba r.bytes.length bc] wq (fun e w' => ∃ (ch tl ea eb ec ed : Nat) (hh sd : Bool) (pa va ca la : Option Addr) (pn pc vn vc cn cc lln lc : Nat) (E : Int), e = .returned (.tuple #[.agg #[.int .u64 (ch : Int), .int .u64 (tl : Int), .int .u64 (ea : Int), .int .u64 (eb : Int), .int .u64 (ec : Int), .int .u64 (ed : Int), .bool hh, .slice pa pn pc, .slice va vn vc, .bool sd, .slice ca cn cc, .slice la lln lc], .int .i64 E]) /\ Ext wq w' /\ (E = 0 -> ∃ x, baseO r.bytes x /\ x.chain = c.chain /\ x.tail = f /\ Row (From wq.heap.size) w' (.slice la lln lc) x.last.length (flatT x.last)) /\ (E ≠ 0 -> E = 220 /\ Value.slice la lln lc = .slice none 0 0 /\ ∀ x, baseO r.bytes x -> ¬ (x.chain = c.chain /\ x.tail = f))) from fun wq hq => base_lit wq c.chain f _ r.bytes (hr.ext hq) hl (by omega))
 clear hx1 hA hC hw1 h hm1 hok hn hb hf hbm he hr hl
 go_enter Tryz.func89, Tryz.ntmps89
 go_upto_region 1 with fail
 rw [show (w.alloc (.cells #[.pointer (some ⟨B, 0, none⟩)] 31)).alloc (.cells #[.int .i64 0, .slice na nn nc, .slice ba r.bytes.length bc] 47) = w1 from HW1.out.symm, <- HBM.out]
 go_upto_region 5 with fail
 go_cut [6, 7] from 26 to 37 (fun s6 s7 wc => ∃ (g : Nat) (E : Int) (ch tl ea eb ec ed : Nat) (hh sd : Bool) (pa va ca la : Option Addr) (pn pc vn vc cn cc lln lc : Nat), s6 = .pointer (some ⟨g, 0, none⟩) /\ s7 = .int .i64 E /\ Hid (Ext w1 wc /\ wc.heap[g]? = some (.cells #[.int .u64 (ch : Int), .int .u64 (tl : Int), .int .u64 (ea : Int), .int .u64 (eb : Int), .int .u64 (ec : Int), .int .u64 (ed : Int), .bool hh, .slice pa pn pc, .slice va vn vc, .bool sd, .slice ca cn cc, .slice la lln lc] 214 (0, 0)) /\ (E = 0 -> ∃ x, baseO r.bytes x /\ x.chain = c.chain /\ x.tail = f /\ Row (fun _ => True) wc (.slice la lln lc) x.last.length (flatT x.last)) /\ (E ≠ 0 -> E = 220 /\ Value.slice la lln lc = .slice none 0 0 /\ ∀ x, baseO r.bytes x -> ¬ (x.chain = c.chain /\ x.tail = f))))
 case first =>
  go_region_law (go_simp; go_at_call 109; (first | (refine (HCON.out _ HX1.out.drew).mono ?_; rintro r' w2 ⟨ch, tl, ea, eb, ec, ed, hh, sd, pa, va, ca, la, pn, pc, vn, vc, cn, cc, lln, lc, E, rfl, hx2, hok2, hbad2⟩; have hxw := (Upd.refl Nothing w1).drew.trans hx2) | (refine (HCON.out _ (HX1.out.drew.alloc _)).mono ?_; rintro r' w2 ⟨ch, tl, ea, eb, ec, ed, hh, sd, pa, va, ca, la, pn, pc, vn, vc, cn, cc, lln, lc, E, rfl, hx2, hok2, hbad2⟩; have hxw := ((Upd.refl Nothing w1).drew.alloc _).trans hx2; have hz := (show w2.heap[w1.heap.size]? = some (.cells #[.int .u64 0, .int .u64 0, .int .u64 0, .int .u64 0, .int .u64 0, .int .u64 0, .bool false, .slice none 0 0, .slice none 0 0, .bool false, .slice none 0 0, .slice none 0 0] 214 (0, 0)) from hx2.at_ (newAt w1.drew (.cells #[.int .u64 0, .int .u64 0, .int .u64 0, .int .u64 0, .int .u64 0, .int .u64 0, .bool false, .slice none 0 0, .slice none 0 0, .bool false, .slice none 0 0, .slice none 0 0] 214)) id); have z0 := cZ hz 0 _ rfl; have zf0 := freeAt hz 0; have z1 := cZ hz 1 _ rfl; have zf1 := freeAt hz 1; have z2 := cZ hz 2 _ rfl; have zf2 := freeAt hz 2; have z3 := cZ hz 3 _ rfl; have zf3 := freeAt hz 3; have z4 := cZ hz 4 _ rfl; have zf4 := freeAt hz 4; have z5 := cZ hz 5 _ rfl; have zf5 := freeAt hz 5; have z6 := cZ hz 6 _ rfl; have zf6 := freeAt hz 6; have z7 := cZ hz 7 _ rfl; have zf7 := freeAt hz 7; have z8 := cZ hz 8 _ rfl; have zf8 := freeAt hz 8; have z9 := cZ hz 9 _ rfl; have zf9 := freeAt hz 9; have z10 := cZ hz 10 _ rfl; have zf10 := freeAt hz 10; have z11 := cZ hz 11 _ rfl; have zf11 := freeAt hz 11; have zl := lZ hz)))
  all_goals
   clear a0 la0 c0 c1 c2 lc0 m0 lb
   try (clear z0 zf0 z1 zf1 z2 zf2 z3 zf3 z4 zf4 z5 zf5 z6 zf6 z7 zf7 z8 zf8 z9 zf9 z10 zf10 z11 zf11 zl)
   go_wp2_with fail
   go_meet
   case rel =>
    first
     | (have hst := stores12 hz (.int .u64 (ch : Int)) (.int .u64 (tl : Int)) (.int .u64 (ea : Int)) (.int .u64 (eb : Int)) (.int .u64 (ec : Int)) (.int .u64 (ed : Int)) (.bool hh) (.slice pa pn pc) (.slice va vn vc) (.bool sd) (.slice ca cn cc) (.slice la lln lc)
        refine ⟨_, E, ch, tl, ea, eb, ec, ed, hh, sd, pa, va, ca, la, pn, pc, vn, vc, cn, cc, lln, lc, rfl, rfl, zq ⟨hxw.step (T := At w1.heap.size) hst.2 (fun i hi e => by have e : i = w1.heap.size := e; omega), hst.1, fun hE => ?_, hbad2⟩⟩
        obtain ⟨x, h1, h2, h3, h4⟩ := hok2 hE
        exact ⟨x, h1, h2, h3, (h4.upd hst.2 (fun k hk e => by have hk : (w1.drew.alloc (.cells #[.int .u64 0, .int .u64 0, .int .u64 0, .int .u64 0, .int .u64 0, .int .u64 0, .bool false, .slice none 0 0, .slice none 0 0, .bool false, .slice none 0 0, .slice none 0 0] 214)).heap.size <= k := hk; have e : k = w1.heap.size := e; simp at hk; omega)).mono (fun _ _ => trivial)⟩)
     | (refine ⟨_, E, ch, tl, ea, eb, ec, ed, hh, sd, pa, va, ca, la, pn, pc, vn, vc, cn, cc, lln, lc, rfl, rfl, zq ⟨hxw.alloc _, newAt _ _, fun hE => ?_, hbad2⟩⟩
        obtain ⟨x, h1, h2, h3, h4⟩ := hok2 hE
        exact ⟨x, h1, h2, h3, (h4.ext ((Upd.refl Nothing w2).alloc _)).mono (fun _ _ => trivial)⟩)
 case rest =>
 obtain ⟨g, E, ch, tl, ea, eb, ec, ed, hh, sd, pa, va, ca, la, pn, pc, vn, vc, cn, cc, lln, lc, rfl, rfl, HCUT⟩ := hcut
 have HXC := zq (HX1.out.trans HCUT.out.1)
 have HMC := zq (HCUT.out.1.at_ HM.out id)
 have HAC := zq (HCUT.out.1.at_ HA.out id)
 have HRC := zq (HCUT.out.1.at_ HC.out id)
 have HGC := zq HCUT.out.2.1
 have HBB := zq (show B < bm by rw [HBM.out]; exact HBL.out)
 have hL : ∃ L : List Tr, lln = L.length /\ Row (fun _ => True) wc (.slice la lln lc) L.length (flatT L) /\ L.length <= 1000000 /\ (E = 0 -> ∃ x, baseO r.bytes x /\ x.chain = c.chain /\ x.tail = f /\ L = x.last) /\ (E ≠ 0 -> L = []) := by
  by_cases hE : E = 0
  ·obtain ⟨x, h1, h2, h3, h4⟩ := HCUT.out.2.2.1 hE
   have h5 := baseO_last h1 HL.out
   refine ⟨x.last, ?_, h4, by omega, fun _ => ⟨x, h1, h2, h3, rfl⟩, fun h => absurd hE h⟩
   obtain ⟨a, c', he, -⟩ := h4
   cases he; rfl
  ·obtain ⟨h1, h2, h3⟩ := HCUT.out.2.2.2 hE
   cases h2
   exact ⟨[], rfl, Row.nil _ _, by decide, fun h => absurd h hE, fun _ => rfl⟩
 obtain ⟨L, rfl, hrow, hL6, hL0, hLn⟩ := hL
 have HROW := zq hrow
 have HL6 := zq hL6
 have HL0 := zq hL0
 have HBAD := zq HCUT.out.2.2.2
 clear a0 la0 c0 c1 c2 lc0 m0 lb hrow hL6 hL0
 have a0 := cZ HAC.out 0 _ rfl
 have lla := lZ HAC.out
 have c0 := cZ HRC.out 0 _ rfl
 have c1 := cZ HRC.out 1 _ rfl
 have c2 := cZ HRC.out 2 _ rfl
 have llc := lZ HRC.out
 have m2 := cZ HMC.out 2 (.int .u64 (c.proc : Int)) rfl
 have m3 := cZ HMC.out 3 (.int .u64 (c.inc : Int)) rfl
 have m4 := cZ HMC.out 4 (.int .u64 (c.seq : Int)) rfl
 have m6 := cZ HMC.out 6 (str (sxF c)) rfl
 have lb := lZ HMC.out
 have z0 := cZ HGC.out 0 _ rfl
 have z1 := cZ HGC.out 1 _ rfl
 have z2 := cZ HGC.out 2 _ rfl
 have z3 := cZ HGC.out 3 _ rfl
 have z4 := cZ HGC.out 4 _ rfl
 have z5 := cZ HGC.out 5 _ rfl
 have z6 := cZ HGC.out 6 _ rfl
 have z7 := cZ HGC.out 7 _ rfl
 have z8 := cZ HGC.out 8 _ rfl
 have z9 := cZ HGC.out 9 _ rfl
 have z10 := cZ HGC.out 10 _ rfl
 have z11 := cZ HGC.out 11 _ rfl
 have zl := lZ HGC.out
 by_cases hE : E = 0
 case neg =>
  obtain ⟨rfl, -, hno⟩ := HBAD.out hE
  have hLL := hLn hE
  have HNO := zq hno
  have hq : seqF L c.proc c.inc = none := by rw [hLL]; rfl
  have HQ := zq hq
  have hb3 : ((220 : Int) != 0) = true := rfl
  clear hno hLL hLn hE hq
  have HSQ := zq (fun wq (hq : Ext wc wq) => seq_noneC wq #[.int .u64 (ch : Int), .int .u64 (tl : Int), .int .u64 (ea : Int), .int .u64 (eb : Int), .int .u64 (ec : Int), .int .u64 (ed : Int), .bool hh, .slice pa pn pc, .slice va vn vc, .bool sd, .slice ca cn cc, .slice la L.length lc] (.slice la L.length lc) L c.proc c.inc ⟨_, _, _, _, _, _, _, _, _, _, _, rfl⟩ (by simp [Value.oneCell']) (HROW.out.ext hq) HL6.out HQ.out)
  go_upto_region 6 with fail
  refine wp_region_invH Nothing (fun _ => Ext) 1000 bsDst (bsPhi B bm g ch tl ea eb ec ed hh sd pa va ca la pn pc vn vc cn cc L.length lc c.proc c.inc 0 false) 84 (by kernel_rfl) (by decide) (by decide) rfl (fun i hi => .inl ((by decide : ∀ i, i < 17 -> bsDst i < 84) i hi)) (fun i w w' h => ⟨h, fun _ => h⟩) (fun i j v w w' _ _ _ _ h hu => h.ext hu) ?_ ?_
  ·intro i o b' w1' ho hx1' hd hk hE hSZ
   have hi : i < 17 := (Array.getElem?_eq_some_iff.1 ho).1
   have his : i = 0 \/ i = 1 \/ i = 2 \/ i = 3 \/ i = 4 \/ i = 5 \/ i = 6 \/ i = 7 \/ i = 8 \/ i = 9 \/ i = 10 \/ i = 11 \/ i = 12 \/ i = 13 \/ i = 14 \/ i = 15 \/ i = 16 := by omega
   clear hE hSZ
   have HW1 := zq hx1'
   clear hx1'
   rcases his with rfl | rfl | rfl | rfl | rfl | rfl | rfl | rfl | rfl | rfl | rfl | rfl | rfl | rfl | rfl | rfl | rfl
   all_goals (simp at ho; subst ho)
   ·
    refine .inl ⟨rfl, ?_⟩
    have o6 : b'.tmps[6]?.getD undef = .pointer (some ⟨g, 0, none⟩) := tAt (hk 6 (fun j oj _ e => (bsDst_ne (by decide) e).elim))
    have q0 := HW1.out.cell z0 id
    have q1 := HW1.out.cell z1 id
    have q2 := HW1.out.cell z2 id
    have q3 := HW1.out.cell z3 id
    have q4 := HW1.out.cell z4 id
    have q5 := HW1.out.cell z5 id
    have q6 := HW1.out.cell z6 id
    have q7 := HW1.out.cell z7 id
    have q8 := HW1.out.cell z8 id
    have q9 := HW1.out.cell z9 id
    have q10 := HW1.out.cell z10 id
    have q11 := HW1.out.cell z11 id
    have qzl := Nat.lt_of_lt_of_le zl HW1.out.size
    clear hd hk
    go_step
    exact ⟨_, rfl, rfl, uZ⟩
   ·
    refine .inl ⟨rfl, ?_⟩
    have o3 : b'.tmps[3]?.getD undef = .pointer (some ⟨bm, 0, none⟩) := tAt (hk 3 (fun j oj _ e => (bsDst_ne (by decide) e).elim))
    have qa := HW1.out.cell a0 id
    have qla := Nat.lt_of_lt_of_le lla HW1.out.size
    clear hd hk
    go_step
    exact ⟨_, rfl, rfl, uZ⟩
   ·
    refine .inl ⟨rfl, ?_⟩
    have e1 : b'.tmps[40]?.getD undef = .pointer (some ⟨B, 0, none⟩) := tAt (hd ⟨1, .data⟩ (by simp) rfl)
    clear hd hk
    go_step
    exact ⟨_, rfl, rfl, uZ⟩
   ·
    refine .inl ⟨rfl, ?_⟩
    have e2 : b'.tmps[41]?.getD undef = .pointer (some ⟨B, 0, none⟩) := tAt (hd ⟨2, .data⟩ (by simp) rfl)
    clear hd hk
    go_step
    exact ⟨_, rfl, rfl, uZ⟩
   ·
    refine .inl ⟨rfl, ?_⟩
    have e3 : b'.tmps[42]?.getD undef = .pointer (some ⟨B, 0, none⟩) := tAt (hd ⟨3, .data⟩ (by simp) rfl)
    clear hd hk
    go_step
    exact ⟨_, rfl, rfl, uZ⟩
   ·
    refine .inl ⟨rfl, ?_⟩
    have e4 : b'.tmps[43]?.getD undef = .pointer (some ⟨B, 2, none⟩) := tAt (hd ⟨4, .data⟩ (by simp) rfl)
    have qm := HW1.out.cell m2 id
    have qlb := Nat.lt_of_lt_of_le lb HW1.out.size
    clear hd hk
    go_step
    exact ⟨_, rfl, rfl, uZ⟩
   ·
    refine .inl ⟨rfl, ?_⟩
    have o3 : b'.tmps[3]?.getD undef = .pointer (some ⟨bm, 0, none⟩) := tAt (hk 3 (fun j oj _ e => (bsDst_ne (by decide) e).elim))
    have qa := HW1.out.cell a0 id
    have qla := Nat.lt_of_lt_of_le lla HW1.out.size
    clear hd hk
    go_step
    exact ⟨_, rfl, rfl, uZ⟩
   ·
    refine .inl ⟨rfl, ?_⟩
    have e6 : b'.tmps[45]?.getD undef = .pointer (some ⟨B, 0, none⟩) := tAt (hd ⟨6, .data⟩ (by simp) rfl)
    clear hd hk
    go_step
    exact ⟨_, rfl, rfl, uZ⟩
   ·
    refine .inl ⟨rfl, ?_⟩
    have e7 : b'.tmps[46]?.getD undef = .pointer (some ⟨B, 0, none⟩) := tAt (hd ⟨7, .data⟩ (by simp) rfl)
    clear hd hk
    go_step
    exact ⟨_, rfl, rfl, uZ⟩
   ·
    refine .inl ⟨rfl, ?_⟩
    have e8 : b'.tmps[47]?.getD undef = .pointer (some ⟨B, 0, none⟩) := tAt (hd ⟨8, .data⟩ (by simp) rfl)
    clear hd hk
    go_step
    exact ⟨_, rfl, rfl, uZ⟩
   ·
    refine .inl ⟨rfl, ?_⟩
    have e9 : b'.tmps[48]?.getD undef = .pointer (some ⟨B, 3, none⟩) := tAt (hd ⟨9, .data⟩ (by simp) rfl)
    have qm := HW1.out.cell m3 id
    have qlb := Nat.lt_of_lt_of_le lb HW1.out.size
    clear hd hk
    go_step
    exact ⟨_, rfl, rfl, uZ⟩
   ·
    refine .inl ⟨rfl, ?_⟩
    have e0 : b'.tmps[39]?.getD undef = .agg #[.int .u64 (ch : Int), .int .u64 (tl : Int), .int .u64 (ea : Int), .int .u64 (eb : Int), .int .u64 (ec : Int), .int .u64 (ed : Int), .bool hh, .slice pa pn pc, .slice va vn vc, .bool sd, .slice ca cn cc, .slice la L.length lc] := tAt (hd ⟨0, .data⟩ (by simp) rfl)
    have e5 : b'.tmps[44]?.getD undef = .int .u64 (c.proc : Int) := tAt (hd ⟨5, .data⟩ (by simp) rfl)
    have e10 : b'.tmps[49]?.getD undef = .int .u64 (c.inc : Int) := tAt (hd ⟨10, .data⟩ (by simp) rfl)
    have HSC := zq (HSQ.out w1' HW1.out)
    clear hd hk
    go_step
    refine HSC.out.mono ?_
    rintro e w2 ⟨rfl, hu⟩
    exact ⟨_, rfl, rfl, hu⟩
   ·
    refine .inl ⟨rfl, ?_⟩
    have e11 : b'.tmps[50]?.getD undef = .tuple #[.int .u64 ((0 : Nat) : Int), .bool false] := tAt (hd ⟨11, .data⟩ (by simp) rfl)
    clear hd hk
    go_step
    exact ⟨_, rfl, rfl, uZ⟩
   ·
    refine .inl ⟨rfl, ?_⟩
    have e12 : b'.tmps[38]?.getD undef = .tuple #[.int .u64 ((0 : Nat) : Int), .bool false] := tAt (hd ⟨12, .data⟩ (by simp) rfl)
    clear hd hk
    go_step
    exact ⟨_, rfl, rfl, uZ⟩
   ·
    refine .inl ⟨rfl, ?_⟩
    have e12 : b'.tmps[38]?.getD undef = .tuple #[.int .u64 ((0 : Nat) : Int), .bool false] := tAt (hd ⟨12, .data⟩ (by simp) rfl)
    clear hd hk
    go_step
    exact ⟨_, rfl, rfl, uZ⟩
   ·
    refine .inl ⟨rfl, ?_⟩
    have e13 : b'.tmps[51]?.getD undef = .int .u64 ((0 : Nat) : Int) := tAt (hd ⟨13, .data⟩ (by simp) rfl)
    clear hd hk
    go_step
    exact ⟨_, rfl, rfl, uZ⟩
   ·
    refine .inl ⟨rfl, ?_⟩
    have e14 : b'.tmps[52]?.getD undef = .bool false := tAt (hd ⟨14, .data⟩ (by simp) rfl)
    clear hd hk
    go_step
    exact ⟨_, rfl, rfl, uZ⟩
  ·intro v w1' hx1' hp
   have HX4 := zq (HXC.out.trans hx1')
   have HM4 := zq (hx1'.at_ HMC.out id)
   have HA4 := zq (hx1'.at_ HAC.out id)
   have HR4 := zq (hx1'.at_ HRC.out id)
   have h13 := hp 13 (by decide)
   have h14 := hp 14 (by decide)
   have h15 := hp 15 (by decide)
   have h16 := hp 16 (by decide)
   simp only [List.size_toArray, List.length_cons, List.length_nil, Nat.reduceAdd, fillAll, bsDst]
   obtain ⟨w4, hw4⟩ : ∃ u, u = w1' := ⟨_, rfl⟩
   rw [<- hw4] at HX4 HM4 HA4 HR4 ⊢
   obtain ⟨v15, hv15⟩ : ∃ u, u = v 15 := ⟨_, rfl⟩
   obtain ⟨v16, hv16⟩ : ∃ u, u = v 16 := ⟨_, rfl⟩
   rw [<- hv15] at h15 ⊢
   rw [<- hv16] at h16 ⊢
   have h15 : v15 = bsVal B bm g ch tl ea eb ec ed hh sd pa va ca la pn pc vn vc cn cc L.length lc c.proc c.inc 0 false 15 := h15
   have h16 : v16 = bsVal B bm g ch tl ea eb ec ed hh sd pa va ca la pn pc vn vc cn cc L.length lc c.proc c.inc 0 false 16 := h16
   simp only [bsVal] at h15 h16
   subst h15
   subst h16
   clear hp hx1' hw4 hv15 hv16 h13 h14 a0 lla c0 c1 c2 llc m2 m3 m4 m6 lb z0 z1 z2 z3 z4 z5 z6 z7 z8 z9 z10 z11 zl
   go_simp
   have a4 := cZ HA4.out 0 _ rfl
   have l4 := lZ HA4.out
   go_wp2_with (go_at_call 46; fail)
   refine (mends_any HM4.out 220).mono ?_
   rintro r' w5 ⟨rfl, hu, hp⟩
   have HU := zq hu
   have HP := zq hp
   clear hu hp
   go_wp2
   go_end0
   refine ⟨rfl, (HX4.out.mono (fun _ _ e => e.elim)).trans HU.out, ?_⟩
   rw [baseP_bad HE0.out HNO.out]
   exact isMac_9 HN.out (HB.out.upd ((HX4.out.mono (fun _ _ e => e.elim) : Upd (At B) w w4).trans HU.out) (fun k hk e => by have hk : k < B := hk; have e : k = B := e; omega)) HP.out
 subst hE
 obtain ⟨x, hx1, hx2, hx3, hx4⟩ := HL0.out rfl
 have hbp := baseP_ok HE0.out HL.out hx1 hx2 hx3
 rw [<- hx4] at hbp
 have HBP := zq hbp
 have hb3 : ((0 : Int) != 0) = false := rfl
 clear hbp hx1 hx2 hx3 hx4 hLn
 cases hsq : seqF L c.proc c.inc with
 | none =>
  have HQ := zq hsq
  rw [hsq] at HBP
  have HBP2 := zq (show baseP c f r = ⟨8, 0, 0⟩ from HBP.out)
  clear hsq HBP
  have HSQ := zq (fun wq (hq : Ext wc wq) => seq_noneC wq #[.int .u64 (ch : Int), .int .u64 (tl : Int), .int .u64 (ea : Int), .int .u64 (eb : Int), .int .u64 (ec : Int), .int .u64 (ed : Int), .bool hh, .slice pa pn pc, .slice va vn vc, .bool sd, .slice ca cn cc, .slice la L.length lc] (.slice la L.length lc) L c.proc c.inc ⟨_, _, _, _, _, _, _, _, _, _, _, rfl⟩ (by simp [Value.oneCell']) (HROW.out.ext hq) HL6.out HQ.out)
  go_upto_region 6 with fail
  refine wp_region_invH Nothing (fun _ => Ext) 1000 bsDst (bsPhi B bm g ch tl ea eb ec ed hh sd pa va ca la pn pc vn vc cn cc L.length lc c.proc c.inc 0 false) 84 (by kernel_rfl) (by decide) (by decide) rfl (fun i hi => .inl ((by decide : ∀ i, i < 17 -> bsDst i < 84) i hi)) (fun i w w' h => ⟨h, fun _ => h⟩) (fun i j v w w' _ _ _ _ h hu => h.ext hu) ?_ ?_
  ·intro i o b' w1' ho hx1' hd hk hE hSZ
   have hi : i < 17 := (Array.getElem?_eq_some_iff.1 ho).1
   have his : i = 0 \/ i = 1 \/ i = 2 \/ i = 3 \/ i = 4 \/ i = 5 \/ i = 6 \/ i = 7 \/ i = 8 \/ i = 9 \/ i = 10 \/ i = 11 \/ i = 12 \/ i = 13 \/ i = 14 \/ i = 15 \/ i = 16 := by omega
   clear hE hSZ
   have HW1 := zq hx1'
   clear hx1'
   rcases his with rfl | rfl | rfl | rfl | rfl | rfl | rfl | rfl | rfl | rfl | rfl | rfl | rfl | rfl | rfl | rfl | rfl
   all_goals (simp at ho; subst ho)
   ·
    refine .inl ⟨rfl, ?_⟩
    have o6 : b'.tmps[6]?.getD undef = .pointer (some ⟨g, 0, none⟩) := tAt (hk 6 (fun j oj _ e => (bsDst_ne (by decide) e).elim))
    have q0 := HW1.out.cell z0 id
    have q1 := HW1.out.cell z1 id
    have q2 := HW1.out.cell z2 id
    have q3 := HW1.out.cell z3 id
    have q4 := HW1.out.cell z4 id
    have q5 := HW1.out.cell z5 id
    have q6 := HW1.out.cell z6 id
    have q7 := HW1.out.cell z7 id
    have q8 := HW1.out.cell z8 id
    have q9 := HW1.out.cell z9 id
    have q10 := HW1.out.cell z10 id
    have q11 := HW1.out.cell z11 id
    have qzl := Nat.lt_of_lt_of_le zl HW1.out.size
    clear hd hk
    go_step
    exact ⟨_, rfl, rfl, uZ⟩
   ·
    refine .inl ⟨rfl, ?_⟩
    have o3 : b'.tmps[3]?.getD undef = .pointer (some ⟨bm, 0, none⟩) := tAt (hk 3 (fun j oj _ e => (bsDst_ne (by decide) e).elim))
    have qa := HW1.out.cell a0 id
    have qla := Nat.lt_of_lt_of_le lla HW1.out.size
    clear hd hk
    go_step
    exact ⟨_, rfl, rfl, uZ⟩
   ·
    refine .inl ⟨rfl, ?_⟩
    have e1 : b'.tmps[40]?.getD undef = .pointer (some ⟨B, 0, none⟩) := tAt (hd ⟨1, .data⟩ (by simp) rfl)
    clear hd hk
    go_step
    exact ⟨_, rfl, rfl, uZ⟩
   ·
    refine .inl ⟨rfl, ?_⟩
    have e2 : b'.tmps[41]?.getD undef = .pointer (some ⟨B, 0, none⟩) := tAt (hd ⟨2, .data⟩ (by simp) rfl)
    clear hd hk
    go_step
    exact ⟨_, rfl, rfl, uZ⟩
   ·
    refine .inl ⟨rfl, ?_⟩
    have e3 : b'.tmps[42]?.getD undef = .pointer (some ⟨B, 0, none⟩) := tAt (hd ⟨3, .data⟩ (by simp) rfl)
    clear hd hk
    go_step
    exact ⟨_, rfl, rfl, uZ⟩
   ·
    refine .inl ⟨rfl, ?_⟩
    have e4 : b'.tmps[43]?.getD undef = .pointer (some ⟨B, 2, none⟩) := tAt (hd ⟨4, .data⟩ (by simp) rfl)
    have qm := HW1.out.cell m2 id
    have qlb := Nat.lt_of_lt_of_le lb HW1.out.size
    clear hd hk
    go_step
    exact ⟨_, rfl, rfl, uZ⟩
   ·
    refine .inl ⟨rfl, ?_⟩
    have o3 : b'.tmps[3]?.getD undef = .pointer (some ⟨bm, 0, none⟩) := tAt (hk 3 (fun j oj _ e => (bsDst_ne (by decide) e).elim))
    have qa := HW1.out.cell a0 id
    have qla := Nat.lt_of_lt_of_le lla HW1.out.size
    clear hd hk
    go_step
    exact ⟨_, rfl, rfl, uZ⟩
   ·
    refine .inl ⟨rfl, ?_⟩
    have e6 : b'.tmps[45]?.getD undef = .pointer (some ⟨B, 0, none⟩) := tAt (hd ⟨6, .data⟩ (by simp) rfl)
    clear hd hk
    go_step
    exact ⟨_, rfl, rfl, uZ⟩
   ·
    refine .inl ⟨rfl, ?_⟩
    have e7 : b'.tmps[46]?.getD undef = .pointer (some ⟨B, 0, none⟩) := tAt (hd ⟨7, .data⟩ (by simp) rfl)
    clear hd hk
    go_step
    exact ⟨_, rfl, rfl, uZ⟩
   ·
    refine .inl ⟨rfl, ?_⟩
    have e8 : b'.tmps[47]?.getD undef = .pointer (some ⟨B, 0, none⟩) := tAt (hd ⟨8, .data⟩ (by simp) rfl)
    clear hd hk
    go_step
    exact ⟨_, rfl, rfl, uZ⟩
   ·
    refine .inl ⟨rfl, ?_⟩
    have e9 : b'.tmps[48]?.getD undef = .pointer (some ⟨B, 3, none⟩) := tAt (hd ⟨9, .data⟩ (by simp) rfl)
    have qm := HW1.out.cell m3 id
    have qlb := Nat.lt_of_lt_of_le lb HW1.out.size
    clear hd hk
    go_step
    exact ⟨_, rfl, rfl, uZ⟩
   ·
    refine .inl ⟨rfl, ?_⟩
    have e0 : b'.tmps[39]?.getD undef = .agg #[.int .u64 (ch : Int), .int .u64 (tl : Int), .int .u64 (ea : Int), .int .u64 (eb : Int), .int .u64 (ec : Int), .int .u64 (ed : Int), .bool hh, .slice pa pn pc, .slice va vn vc, .bool sd, .slice ca cn cc, .slice la L.length lc] := tAt (hd ⟨0, .data⟩ (by simp) rfl)
    have e5 : b'.tmps[44]?.getD undef = .int .u64 (c.proc : Int) := tAt (hd ⟨5, .data⟩ (by simp) rfl)
    have e10 : b'.tmps[49]?.getD undef = .int .u64 (c.inc : Int) := tAt (hd ⟨10, .data⟩ (by simp) rfl)
    have HSC := zq (HSQ.out w1' HW1.out)
    clear hd hk
    go_step
    refine HSC.out.mono ?_
    rintro e w2 ⟨rfl, hu⟩
    exact ⟨_, rfl, rfl, hu⟩
   ·
    refine .inl ⟨rfl, ?_⟩
    have e11 : b'.tmps[50]?.getD undef = .tuple #[.int .u64 ((0 : Nat) : Int), .bool false] := tAt (hd ⟨11, .data⟩ (by simp) rfl)
    clear hd hk
    go_step
    exact ⟨_, rfl, rfl, uZ⟩
   ·
    refine .inl ⟨rfl, ?_⟩
    have e12 : b'.tmps[38]?.getD undef = .tuple #[.int .u64 ((0 : Nat) : Int), .bool false] := tAt (hd ⟨12, .data⟩ (by simp) rfl)
    clear hd hk
    go_step
    exact ⟨_, rfl, rfl, uZ⟩
   ·
    refine .inl ⟨rfl, ?_⟩
    have e12 : b'.tmps[38]?.getD undef = .tuple #[.int .u64 ((0 : Nat) : Int), .bool false] := tAt (hd ⟨12, .data⟩ (by simp) rfl)
    clear hd hk
    go_step
    exact ⟨_, rfl, rfl, uZ⟩
   ·
    refine .inl ⟨rfl, ?_⟩
    have e13 : b'.tmps[51]?.getD undef = .int .u64 ((0 : Nat) : Int) := tAt (hd ⟨13, .data⟩ (by simp) rfl)
    clear hd hk
    go_step
    exact ⟨_, rfl, rfl, uZ⟩
   ·
    refine .inl ⟨rfl, ?_⟩
    have e14 : b'.tmps[52]?.getD undef = .bool false := tAt (hd ⟨14, .data⟩ (by simp) rfl)
    clear hd hk
    go_step
    exact ⟨_, rfl, rfl, uZ⟩
  ·intro v w1' hx1' hp
   have HX4 := zq (HXC.out.trans hx1')
   have HM4 := zq (hx1'.at_ HMC.out id)
   have HA4 := zq (hx1'.at_ HAC.out id)
   have HR4 := zq (hx1'.at_ HRC.out id)
   have h13 := hp 13 (by decide)
   have h14 := hp 14 (by decide)
   have h15 := hp 15 (by decide)
   have h16 := hp 16 (by decide)
   simp only [List.size_toArray, List.length_cons, List.length_nil, Nat.reduceAdd, fillAll, bsDst]
   obtain ⟨w4, hw4⟩ : ∃ u, u = w1' := ⟨_, rfl⟩
   rw [<- hw4] at HX4 HM4 HA4 HR4 ⊢
   obtain ⟨v15, hv15⟩ : ∃ u, u = v 15 := ⟨_, rfl⟩
   obtain ⟨v16, hv16⟩ : ∃ u, u = v 16 := ⟨_, rfl⟩
   rw [<- hv15] at h15 ⊢
   rw [<- hv16] at h16 ⊢
   have h15 : v15 = bsVal B bm g ch tl ea eb ec ed hh sd pa va ca la pn pc vn vc cn cc L.length lc c.proc c.inc 0 false 15 := h15
   have h16 : v16 = bsVal B bm g ch tl ea eb ec ed hh sd pa va ca la pn pc vn vc cn cc L.length lc c.proc c.inc 0 false 16 := h16
   simp only [bsVal] at h15 h16
   subst h15
   subst h16
   clear hp hx1' hw4 hv15 hv16 h13 h14 a0 lla c0 c1 c2 llc m2 m3 m4 m6 lb z0 z1 z2 z3 z4 z5 z6 z7 z8 z9 z10 z11 zl
   go_simp
   have hm4 := HM4.out
   have ha4 := HA4.out
   have a4 := cZ ha4 0 _ rfl
   have l4 := lZ ha4
   have m44 := cZ hm4 4 (.int .u64 (c.seq : Int)) rfl
   have m46 := cZ hm4 6 (str (sxF c)) rfl
   have q8 := cZ hm4 8 (.int .u8 (k : Int)) rfl
   have q9 := cZ hm4 9 (str nm) rfl
   have q10 := cZ hm4 10 (str tt) rfl
   have q11 := cZ hm4 11 cb rfl
   have q12 := cZ hm4 12 fn rfl
   have f8 := freeAt hm4 8
   have f9 := freeAt hm4 9
   have f10 := freeAt hm4 10
   have f11 := freeAt hm4 11
   have f12 := freeAt hm4 12
   have l6 := lZ hm4
   have hsf : ∀ w' : World, (store ⟨B, 12, none⟩ (.func (.func 111) #[] #[.pointer (some ⟨bm, 0, none⟩)])).run Tryz.prog w' = stored Tryz.prog w' ⟨B, 12, none⟩ (.func (.func 111) #[] #[.pointer (some ⟨bm, 0, none⟩)]) .plain := fun w' => run_store Tryz.prog w' _ _ _ rfl
   clear hm4 ha4
   go_upto_region 7 with fail
   go_region
   go_wp2
   go_end0
   have hst := now_stores HM4.out (.int .u8 6) (str (sxF c)) (str []) (.slice none 0 0) (.func (.func 111) #[] #[.pointer (some ⟨bm, 0, none⟩)])
   have hx9 : Upd (At B) w _ := (HX4.out.mono (fun _ _ e => e.elim) : Upd (At B) w w4).trans hst.2.drew
   refine ⟨rfl, hx9, ?_⟩
   rw [HBP2.out]
   exact isMac_8 HN.out (HB.out.upd hx9 (fun k hk e => by have hk : k < B := hk; have e : k = B := e; omega)) ⟨bm, ⟨HBB.out, hst.2.drew.at_ HA4.out (fun e => by have e : bm = B := e; have := HBB.out; omega)⟩, hst.1⟩
 | some q =>
  have HQ := zq hsq
  rw [hsq] at HBP
  by_cases hle : c.seq <= q
  ·have HBP2 := zq (show baseP c f r = ⟨7, 0, 0⟩ by rw [HBP.out]; exact if_pos hle)
   have hb4 : decide ((c.seq : Int) <= (q : Int)) = true := decide_eq_true (by omega)
   have hb5 : ((c.seq : Int) <= (q : Int)) := by omega
   clear hsq HBP hle
   have HSQ := zq (fun wq (hq : Ext wc wq) => seq_someC wq #[.int .u64 (ch : Int), .int .u64 (tl : Int), .int .u64 (ea : Int), .int .u64 (eb : Int), .int .u64 (ec : Int), .int .u64 (ed : Int), .bool hh, .slice pa pn pc, .slice va vn vc, .bool sd, .slice ca cn cc, .slice la L.length lc] (.slice la L.length lc) L c.proc c.inc q ⟨_, _, _, _, _, _, _, _, _, _, _, rfl⟩ (by simp [Value.oneCell']) (HROW.out.ext hq) HL6.out HQ.out)
   go_upto_region 6 with fail
   refine wp_region_invH Nothing (fun _ => Ext) 1000 bsDst (bsPhi B bm g ch tl ea eb ec ed hh sd pa va ca la pn pc vn vc cn cc L.length lc c.proc c.inc q true) 84 (by kernel_rfl) (by decide) (by decide) rfl (fun i hi => .inl ((by decide : ∀ i, i < 17 -> bsDst i < 84) i hi)) (fun i w w' h => ⟨h, fun _ => h⟩) (fun i j v w w' _ _ _ _ h hu => h.ext hu) ?_ ?_
   ·intro i o b' w1' ho hx1' hd hk hE hSZ
    have hi : i < 17 := (Array.getElem?_eq_some_iff.1 ho).1
    have his : i = 0 \/ i = 1 \/ i = 2 \/ i = 3 \/ i = 4 \/ i = 5 \/ i = 6 \/ i = 7 \/ i = 8 \/ i = 9 \/ i = 10 \/ i = 11 \/ i = 12 \/ i = 13 \/ i = 14 \/ i = 15 \/ i = 16 := by omega
    clear hE hSZ
    have HW1 := zq hx1'
    clear hx1'
    rcases his with rfl | rfl | rfl | rfl | rfl | rfl | rfl | rfl | rfl | rfl | rfl | rfl | rfl | rfl | rfl | rfl | rfl
    all_goals (simp at ho; subst ho)
    ·
     refine .inl ⟨rfl, ?_⟩
     have o6 : b'.tmps[6]?.getD undef = .pointer (some ⟨g, 0, none⟩) := tAt (hk 6 (fun j oj _ e => (bsDst_ne (by decide) e).elim))
     have q0 := HW1.out.cell z0 id
     have q1 := HW1.out.cell z1 id
     have q2 := HW1.out.cell z2 id
     have q3 := HW1.out.cell z3 id
     have q4 := HW1.out.cell z4 id
     have q5 := HW1.out.cell z5 id
     have q6 := HW1.out.cell z6 id
     have q7 := HW1.out.cell z7 id
     have q8 := HW1.out.cell z8 id
     have q9 := HW1.out.cell z9 id
     have q10 := HW1.out.cell z10 id
     have q11 := HW1.out.cell z11 id
     have qzl := Nat.lt_of_lt_of_le zl HW1.out.size
     clear hd hk
     go_step
     exact ⟨_, rfl, rfl, uZ⟩
    ·
     refine .inl ⟨rfl, ?_⟩
     have o3 : b'.tmps[3]?.getD undef = .pointer (some ⟨bm, 0, none⟩) := tAt (hk 3 (fun j oj _ e => (bsDst_ne (by decide) e).elim))
     have qa := HW1.out.cell a0 id
     have qla := Nat.lt_of_lt_of_le lla HW1.out.size
     clear hd hk
     go_step
     exact ⟨_, rfl, rfl, uZ⟩
    ·
     refine .inl ⟨rfl, ?_⟩
     have e1 : b'.tmps[40]?.getD undef = .pointer (some ⟨B, 0, none⟩) := tAt (hd ⟨1, .data⟩ (by simp) rfl)
     clear hd hk
     go_step
     exact ⟨_, rfl, rfl, uZ⟩
    ·
     refine .inl ⟨rfl, ?_⟩
     have e2 : b'.tmps[41]?.getD undef = .pointer (some ⟨B, 0, none⟩) := tAt (hd ⟨2, .data⟩ (by simp) rfl)
     clear hd hk
     go_step
     exact ⟨_, rfl, rfl, uZ⟩
    ·
     refine .inl ⟨rfl, ?_⟩
     have e3 : b'.tmps[42]?.getD undef = .pointer (some ⟨B, 0, none⟩) := tAt (hd ⟨3, .data⟩ (by simp) rfl)
     clear hd hk
     go_step
     exact ⟨_, rfl, rfl, uZ⟩
    ·
     refine .inl ⟨rfl, ?_⟩
     have e4 : b'.tmps[43]?.getD undef = .pointer (some ⟨B, 2, none⟩) := tAt (hd ⟨4, .data⟩ (by simp) rfl)
     have qm := HW1.out.cell m2 id
     have qlb := Nat.lt_of_lt_of_le lb HW1.out.size
     clear hd hk
     go_step
     exact ⟨_, rfl, rfl, uZ⟩
    ·
     refine .inl ⟨rfl, ?_⟩
     have o3 : b'.tmps[3]?.getD undef = .pointer (some ⟨bm, 0, none⟩) := tAt (hk 3 (fun j oj _ e => (bsDst_ne (by decide) e).elim))
     have qa := HW1.out.cell a0 id
     have qla := Nat.lt_of_lt_of_le lla HW1.out.size
     clear hd hk
     go_step
     exact ⟨_, rfl, rfl, uZ⟩
    ·
     refine .inl ⟨rfl, ?_⟩
     have e6 : b'.tmps[45]?.getD undef = .pointer (some ⟨B, 0, none⟩) := tAt (hd ⟨6, .data⟩ (by simp) rfl)
     clear hd hk
     go_step
     exact ⟨_, rfl, rfl, uZ⟩
    ·
     refine .inl ⟨rfl, ?_⟩
     have e7 : b'.tmps[46]?.getD undef = .pointer (some ⟨B, 0, none⟩) := tAt (hd ⟨7, .data⟩ (by simp) rfl)
     clear hd hk
     go_step
     exact ⟨_, rfl, rfl, uZ⟩
    ·
     refine .inl ⟨rfl, ?_⟩
     have e8 : b'.tmps[47]?.getD undef = .pointer (some ⟨B, 0, none⟩) := tAt (hd ⟨8, .data⟩ (by simp) rfl)
     clear hd hk
     go_step
     exact ⟨_, rfl, rfl, uZ⟩
    ·
     refine .inl ⟨rfl, ?_⟩
     have e9 : b'.tmps[48]?.getD undef = .pointer (some ⟨B, 3, none⟩) := tAt (hd ⟨9, .data⟩ (by simp) rfl)
     have qm := HW1.out.cell m3 id
     have qlb := Nat.lt_of_lt_of_le lb HW1.out.size
     clear hd hk
     go_step
     exact ⟨_, rfl, rfl, uZ⟩
    ·
     refine .inl ⟨rfl, ?_⟩
     have e0 : b'.tmps[39]?.getD undef = .agg #[.int .u64 (ch : Int), .int .u64 (tl : Int), .int .u64 (ea : Int), .int .u64 (eb : Int), .int .u64 (ec : Int), .int .u64 (ed : Int), .bool hh, .slice pa pn pc, .slice va vn vc, .bool sd, .slice ca cn cc, .slice la L.length lc] := tAt (hd ⟨0, .data⟩ (by simp) rfl)
     have e5 : b'.tmps[44]?.getD undef = .int .u64 (c.proc : Int) := tAt (hd ⟨5, .data⟩ (by simp) rfl)
     have e10 : b'.tmps[49]?.getD undef = .int .u64 (c.inc : Int) := tAt (hd ⟨10, .data⟩ (by simp) rfl)
     have HSC := zq (HSQ.out w1' HW1.out)
     clear hd hk
     go_step
     refine HSC.out.mono ?_
     rintro e w2 ⟨rfl, hu⟩
     exact ⟨_, rfl, rfl, hu⟩
    ·
     refine .inl ⟨rfl, ?_⟩
     have e11 : b'.tmps[50]?.getD undef = .tuple #[.int .u64 (q : Int), .bool true] := tAt (hd ⟨11, .data⟩ (by simp) rfl)
     clear hd hk
     go_step
     exact ⟨_, rfl, rfl, uZ⟩
    ·
     refine .inl ⟨rfl, ?_⟩
     have e12 : b'.tmps[38]?.getD undef = .tuple #[.int .u64 (q : Int), .bool true] := tAt (hd ⟨12, .data⟩ (by simp) rfl)
     clear hd hk
     go_step
     exact ⟨_, rfl, rfl, uZ⟩
    ·
     refine .inl ⟨rfl, ?_⟩
     have e12 : b'.tmps[38]?.getD undef = .tuple #[.int .u64 (q : Int), .bool true] := tAt (hd ⟨12, .data⟩ (by simp) rfl)
     clear hd hk
     go_step
     exact ⟨_, rfl, rfl, uZ⟩
    ·
     refine .inl ⟨rfl, ?_⟩
     have e13 : b'.tmps[51]?.getD undef = .int .u64 (q : Int) := tAt (hd ⟨13, .data⟩ (by simp) rfl)
     clear hd hk
     go_step
     exact ⟨_, rfl, rfl, uZ⟩
    ·
     refine .inl ⟨rfl, ?_⟩
     have e14 : b'.tmps[52]?.getD undef = .bool true := tAt (hd ⟨14, .data⟩ (by simp) rfl)
     clear hd hk
     go_step
     exact ⟨_, rfl, rfl, uZ⟩
   ·intro v w1' hx1' hp
    have HX4 := zq (HXC.out.trans hx1')
    have HM4 := zq (hx1'.at_ HMC.out id)
    have HA4 := zq (hx1'.at_ HAC.out id)
    have HR4 := zq (hx1'.at_ HRC.out id)
    have h13 := hp 13 (by decide)
    have h14 := hp 14 (by decide)
    have h15 := hp 15 (by decide)
    have h16 := hp 16 (by decide)
    simp only [List.size_toArray, List.length_cons, List.length_nil, Nat.reduceAdd, fillAll, bsDst]
    obtain ⟨w4, hw4⟩ : ∃ u, u = w1' := ⟨_, rfl⟩
    rw [<- hw4] at HX4 HM4 HA4 HR4 ⊢
    obtain ⟨v15, hv15⟩ : ∃ u, u = v 15 := ⟨_, rfl⟩
    obtain ⟨v16, hv16⟩ : ∃ u, u = v 16 := ⟨_, rfl⟩
    rw [<- hv15] at h15 ⊢
    rw [<- hv16] at h16 ⊢
    have h15 : v15 = bsVal B bm g ch tl ea eb ec ed hh sd pa va ca la pn pc vn vc cn cc L.length lc c.proc c.inc q true 15 := h15
    have h16 : v16 = bsVal B bm g ch tl ea eb ec ed hh sd pa va ca la pn pc vn vc cn cc L.length lc c.proc c.inc q true 16 := h16
    simp only [bsVal] at h15 h16
    subst h15
    subst h16
    clear hp hx1' hw4 hv15 hv16 h13 h14 a0 lla c0 c1 c2 llc m2 m3 m4 m6 lb z0 z1 z2 z3 z4 z5 z6 z7 z8 z9 z10 z11 zl
    go_simp
    have a4 := cZ HA4.out 0 _ rfl
    have l4 := lZ HA4.out
    have c40 := cZ HR4.out 0 _ rfl
    have c41 := cZ HR4.out 1 _ rfl
    have c42 := cZ HR4.out 2 _ rfl
    have l5 := lZ HR4.out
    have m44 := cZ HM4.out 4 (.int .u64 (c.seq : Int)) rfl
    have l6 := lZ HM4.out
    go_wp2_with (go_at_call 86; fail)
    refine (mwon_ok HM4.out na ba nn nc r.bytes.length bc).mono ?_
    rintro r' w5 ⟨rfl, hu, hp⟩
    have HU := zq hu
    have HP := zq hp
    clear hu hp
    go_wp2
    go_end0
    refine ⟨rfl, (HX4.out.mono (fun _ _ e => e.elim)).trans HU.out, ?_⟩
    rw [HBP2.out]
    exact isMac_7 HN.out (HB.out.upd ((HX4.out.mono (fun _ _ e => e.elim) : Upd (At B) w w4).trans HU.out) (fun k hk e => by have hk : k < B := hk; have e : k = B := e; omega)) HP.out
  ·have HBP2 := zq (show baseP c f r = ⟨8, 0, 0⟩ by rw [HBP.out]; exact if_neg hle)
   have hb4 : decide ((c.seq : Int) <= (q : Int)) = false := decide_eq_false (by omega)
   have hb5 : ¬ ((c.seq : Int) <= (q : Int)) := by omega
   clear hsq HBP hle
   have HSQ := zq (fun wq (hq : Ext wc wq) => seq_someC wq #[.int .u64 (ch : Int), .int .u64 (tl : Int), .int .u64 (ea : Int), .int .u64 (eb : Int), .int .u64 (ec : Int), .int .u64 (ed : Int), .bool hh, .slice pa pn pc, .slice va vn vc, .bool sd, .slice ca cn cc, .slice la L.length lc] (.slice la L.length lc) L c.proc c.inc q ⟨_, _, _, _, _, _, _, _, _, _, _, rfl⟩ (by simp [Value.oneCell']) (HROW.out.ext hq) HL6.out HQ.out)
   go_upto_region 6 with fail
   refine wp_region_invH Nothing (fun _ => Ext) 1000 bsDst (bsPhi B bm g ch tl ea eb ec ed hh sd pa va ca la pn pc vn vc cn cc L.length lc c.proc c.inc q true) 84 (by kernel_rfl) (by decide) (by decide) rfl (fun i hi => .inl ((by decide : ∀ i, i < 17 -> bsDst i < 84) i hi)) (fun i w w' h => ⟨h, fun _ => h⟩) (fun i j v w w' _ _ _ _ h hu => h.ext hu) ?_ ?_
   ·intro i o b' w1' ho hx1' hd hk hE hSZ
    have hi : i < 17 := (Array.getElem?_eq_some_iff.1 ho).1
    have his : i = 0 \/ i = 1 \/ i = 2 \/ i = 3 \/ i = 4 \/ i = 5 \/ i = 6 \/ i = 7 \/ i = 8 \/ i = 9 \/ i = 10 \/ i = 11 \/ i = 12 \/ i = 13 \/ i = 14 \/ i = 15 \/ i = 16 := by omega
    clear hE hSZ
    have HW1 := zq hx1'
    clear hx1'
    rcases his with rfl | rfl | rfl | rfl | rfl | rfl | rfl | rfl | rfl | rfl | rfl | rfl | rfl | rfl | rfl | rfl | rfl
    all_goals (simp at ho; subst ho)
    ·
     refine .inl ⟨rfl, ?_⟩
     have o6 : b'.tmps[6]?.getD undef = .pointer (some ⟨g, 0, none⟩) := tAt (hk 6 (fun j oj _ e => (bsDst_ne (by decide) e).elim))
     have q0 := HW1.out.cell z0 id
     have q1 := HW1.out.cell z1 id
     have q2 := HW1.out.cell z2 id
     have q3 := HW1.out.cell z3 id
     have q4 := HW1.out.cell z4 id
     have q5 := HW1.out.cell z5 id
     have q6 := HW1.out.cell z6 id
     have q7 := HW1.out.cell z7 id
     have q8 := HW1.out.cell z8 id
     have q9 := HW1.out.cell z9 id
     have q10 := HW1.out.cell z10 id
     have q11 := HW1.out.cell z11 id
     have qzl := Nat.lt_of_lt_of_le zl HW1.out.size
     clear hd hk
     go_step
     exact ⟨_, rfl, rfl, uZ⟩
    ·
     refine .inl ⟨rfl, ?_⟩
     have o3 : b'.tmps[3]?.getD undef = .pointer (some ⟨bm, 0, none⟩) := tAt (hk 3 (fun j oj _ e => (bsDst_ne (by decide) e).elim))
     have qa := HW1.out.cell a0 id
     have qla := Nat.lt_of_lt_of_le lla HW1.out.size
     clear hd hk
     go_step
     exact ⟨_, rfl, rfl, uZ⟩
    ·
     refine .inl ⟨rfl, ?_⟩
     have e1 : b'.tmps[40]?.getD undef = .pointer (some ⟨B, 0, none⟩) := tAt (hd ⟨1, .data⟩ (by simp) rfl)
     clear hd hk
     go_step
     exact ⟨_, rfl, rfl, uZ⟩
    ·
     refine .inl ⟨rfl, ?_⟩
     have e2 : b'.tmps[41]?.getD undef = .pointer (some ⟨B, 0, none⟩) := tAt (hd ⟨2, .data⟩ (by simp) rfl)
     clear hd hk
     go_step
     exact ⟨_, rfl, rfl, uZ⟩
    ·
     refine .inl ⟨rfl, ?_⟩
     have e3 : b'.tmps[42]?.getD undef = .pointer (some ⟨B, 0, none⟩) := tAt (hd ⟨3, .data⟩ (by simp) rfl)
     clear hd hk
     go_step
     exact ⟨_, rfl, rfl, uZ⟩
    ·
     refine .inl ⟨rfl, ?_⟩
     have e4 : b'.tmps[43]?.getD undef = .pointer (some ⟨B, 2, none⟩) := tAt (hd ⟨4, .data⟩ (by simp) rfl)
     have qm := HW1.out.cell m2 id
     have qlb := Nat.lt_of_lt_of_le lb HW1.out.size
     clear hd hk
     go_step
     exact ⟨_, rfl, rfl, uZ⟩
    ·
     refine .inl ⟨rfl, ?_⟩
     have o3 : b'.tmps[3]?.getD undef = .pointer (some ⟨bm, 0, none⟩) := tAt (hk 3 (fun j oj _ e => (bsDst_ne (by decide) e).elim))
     have qa := HW1.out.cell a0 id
     have qla := Nat.lt_of_lt_of_le lla HW1.out.size
     clear hd hk
     go_step
     exact ⟨_, rfl, rfl, uZ⟩
    ·
     refine .inl ⟨rfl, ?_⟩
     have e6 : b'.tmps[45]?.getD undef = .pointer (some ⟨B, 0, none⟩) := tAt (hd ⟨6, .data⟩ (by simp) rfl)
     clear hd hk
     go_step
     exact ⟨_, rfl, rfl, uZ⟩
    ·
     refine .inl ⟨rfl, ?_⟩
     have e7 : b'.tmps[46]?.getD undef = .pointer (some ⟨B, 0, none⟩) := tAt (hd ⟨7, .data⟩ (by simp) rfl)
     clear hd hk
     go_step
     exact ⟨_, rfl, rfl, uZ⟩
    ·
     refine .inl ⟨rfl, ?_⟩
     have e8 : b'.tmps[47]?.getD undef = .pointer (some ⟨B, 0, none⟩) := tAt (hd ⟨8, .data⟩ (by simp) rfl)
     clear hd hk
     go_step
     exact ⟨_, rfl, rfl, uZ⟩
    ·
     refine .inl ⟨rfl, ?_⟩
     have e9 : b'.tmps[48]?.getD undef = .pointer (some ⟨B, 3, none⟩) := tAt (hd ⟨9, .data⟩ (by simp) rfl)
     have qm := HW1.out.cell m3 id
     have qlb := Nat.lt_of_lt_of_le lb HW1.out.size
     clear hd hk
     go_step
     exact ⟨_, rfl, rfl, uZ⟩
    ·
     refine .inl ⟨rfl, ?_⟩
     have e0 : b'.tmps[39]?.getD undef = .agg #[.int .u64 (ch : Int), .int .u64 (tl : Int), .int .u64 (ea : Int), .int .u64 (eb : Int), .int .u64 (ec : Int), .int .u64 (ed : Int), .bool hh, .slice pa pn pc, .slice va vn vc, .bool sd, .slice ca cn cc, .slice la L.length lc] := tAt (hd ⟨0, .data⟩ (by simp) rfl)
     have e5 : b'.tmps[44]?.getD undef = .int .u64 (c.proc : Int) := tAt (hd ⟨5, .data⟩ (by simp) rfl)
     have e10 : b'.tmps[49]?.getD undef = .int .u64 (c.inc : Int) := tAt (hd ⟨10, .data⟩ (by simp) rfl)
     have HSC := zq (HSQ.out w1' HW1.out)
     clear hd hk
     go_step
     refine HSC.out.mono ?_
     rintro e w2 ⟨rfl, hu⟩
     exact ⟨_, rfl, rfl, hu⟩
    ·
     refine .inl ⟨rfl, ?_⟩
     have e11 : b'.tmps[50]?.getD undef = .tuple #[.int .u64 (q : Int), .bool true] := tAt (hd ⟨11, .data⟩ (by simp) rfl)
     clear hd hk
     go_step
     exact ⟨_, rfl, rfl, uZ⟩
    ·
     refine .inl ⟨rfl, ?_⟩
     have e12 : b'.tmps[38]?.getD undef = .tuple #[.int .u64 (q : Int), .bool true] := tAt (hd ⟨12, .data⟩ (by simp) rfl)
     clear hd hk
     go_step
     exact ⟨_, rfl, rfl, uZ⟩
    ·
     refine .inl ⟨rfl, ?_⟩
     have e12 : b'.tmps[38]?.getD undef = .tuple #[.int .u64 (q : Int), .bool true] := tAt (hd ⟨12, .data⟩ (by simp) rfl)
     clear hd hk
     go_step
     exact ⟨_, rfl, rfl, uZ⟩
    ·
     refine .inl ⟨rfl, ?_⟩
     have e13 : b'.tmps[51]?.getD undef = .int .u64 (q : Int) := tAt (hd ⟨13, .data⟩ (by simp) rfl)
     clear hd hk
     go_step
     exact ⟨_, rfl, rfl, uZ⟩
    ·
     refine .inl ⟨rfl, ?_⟩
     have e14 : b'.tmps[52]?.getD undef = .bool true := tAt (hd ⟨14, .data⟩ (by simp) rfl)
     clear hd hk
     go_step
     exact ⟨_, rfl, rfl, uZ⟩
   ·intro v w1' hx1' hp
    have HX4 := zq (HXC.out.trans hx1')
    have HM4 := zq (hx1'.at_ HMC.out id)
    have HA4 := zq (hx1'.at_ HAC.out id)
    have HR4 := zq (hx1'.at_ HRC.out id)
    have h13 := hp 13 (by decide)
    have h14 := hp 14 (by decide)
    have h15 := hp 15 (by decide)
    have h16 := hp 16 (by decide)
    simp only [List.size_toArray, List.length_cons, List.length_nil, Nat.reduceAdd, fillAll, bsDst]
    obtain ⟨w4, hw4⟩ : ∃ u, u = w1' := ⟨_, rfl⟩
    rw [<- hw4] at HX4 HM4 HA4 HR4 ⊢
    obtain ⟨v15, hv15⟩ : ∃ u, u = v 15 := ⟨_, rfl⟩
    obtain ⟨v16, hv16⟩ : ∃ u, u = v 16 := ⟨_, rfl⟩
    rw [<- hv15] at h15 ⊢
    rw [<- hv16] at h16 ⊢
    have h15 : v15 = bsVal B bm g ch tl ea eb ec ed hh sd pa va ca la pn pc vn vc cn cc L.length lc c.proc c.inc q true 15 := h15
    have h16 : v16 = bsVal B bm g ch tl ea eb ec ed hh sd pa va ca la pn pc vn vc cn cc L.length lc c.proc c.inc q true 16 := h16
    simp only [bsVal] at h15 h16
    subst h15
    subst h16
    clear hp hx1' hw4 hv15 hv16 h13 h14 a0 lla c0 c1 c2 llc m2 m3 m4 m6 lb z0 z1 z2 z3 z4 z5 z6 z7 z8 z9 z10 z11 zl
    go_simp
    have hm4 := HM4.out
    have ha4 := HA4.out
    have a4 := cZ ha4 0 _ rfl
    have l4 := lZ ha4
    have m44 := cZ hm4 4 (.int .u64 (c.seq : Int)) rfl
    have m46 := cZ hm4 6 (str (sxF c)) rfl
    have q8 := cZ hm4 8 (.int .u8 (k : Int)) rfl
    have q9 := cZ hm4 9 (str nm) rfl
    have q10 := cZ hm4 10 (str tt) rfl
    have q11 := cZ hm4 11 cb rfl
    have q12 := cZ hm4 12 fn rfl
    have f8 := freeAt hm4 8
    have f9 := freeAt hm4 9
    have f10 := freeAt hm4 10
    have f11 := freeAt hm4 11
    have f12 := freeAt hm4 12
    have l6 := lZ hm4
    have hsf : ∀ w' : World, (store ⟨B, 12, none⟩ (.func (.func 111) #[] #[.pointer (some ⟨bm, 0, none⟩)])).run Tryz.prog w' = stored Tryz.prog w' ⟨B, 12, none⟩ (.func (.func 111) #[] #[.pointer (some ⟨bm, 0, none⟩)]) .plain := fun w' => run_store Tryz.prog w' _ _ _ rfl
    clear hm4 ha4
    go_upto_region 7 with fail
    go_region
    go_wp2
    go_end0
    have hst := now_stores HM4.out (.int .u8 6) (str (sxF c)) (str []) (.slice none 0 0) (.func (.func 111) #[] #[.pointer (some ⟨bm, 0, none⟩)])
    have hx9 : Upd (At B) w _ := (HX4.out.mono (fun _ _ e => e.elim) : Upd (At B) w w4).trans hst.2.drew
    refine ⟨rfl, hx9, ?_⟩
    rw [HBP2.out]
    exact isMac_8 HN.out (HB.out.upd hx9 (fun k hk e => by have hk : k < B := hk; have e : k = B := e; omega)) ⟨bm, ⟨HBB.out, hst.2.drew.at_ HA4.out (fun e => by have e : bm = B := e; have := HBB.out; omega)⟩, hst.1⟩
end Go.Proofs.YtnkmpoplibnflaaGreatDoor.Wk
