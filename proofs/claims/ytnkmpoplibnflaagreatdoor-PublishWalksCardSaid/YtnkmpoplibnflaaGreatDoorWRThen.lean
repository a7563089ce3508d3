/-
  CONTRACTS of the reference's base, then. Conditions: sizes.
-/
import Derived.Test.YtnkmpoplibnflaaGreatDoorGBC
import Derived.Test.YtnkmpoplibnflaaGreatDoorGAW
import Derived.Test.YtnkmpoplibnflaaGreatDoorGBJ
import Derived.Test.YtnkmpoplibnflaaGreatDoorWRView
set_option maxRecDepth 100000
set_option maxHeartbeats 16000000
namespace Go.Proofs.YtnkmpoplibnflaaGreatDoor.Wk
open Go Go.Proofs.YtnkmpoplibnflaaGreatDoor Go.RowKit
theorem Tryz.rspotT : StructT Tryz.prog 58 3 := ⟨_, Tryz.underlying58, rfl, by kernel_rfl⟩
theorem rbase_lit {S : Nat -> Prop} (w : World) (c f : Nat) (v : Value) (l : List UInt8) (h : Bytes S w v l) (hl : l.length <= 60000) (hf : 0 < f) :
  Calls Tryz.prog 38 #[.int .u64 c, .int .u64 f, v] w fun e w' => ∃ (ch tl e0 e1 e2 e3 : Nat) (hd sd : Bool) (pa va ca la : Option Addr) (pn pc vn vc cn cc lln lc : Nat) (E : Int), e = .returned (.tuple #[.agg #[.int .u64 (ch : Int), .int .u64 (tl : Int), .int .u64 (e0 : Int), .int .u64 (e1 : Int), .int .u64 (e2 : Int), .int .u64 (e3 : Int), .bool hd, .slice pa pn pc, .slice va vn vc, .bool sd, .slice ca cn cc, .slice la lln lc], .int .i64 E]) /\ Ext w w' /\ (E = 0 -> ∃ x, baseO l x /\ x.chain = c /\ x.tail = f /\ Row (From w.heap.size) w' (.slice la lln lc) x.last.length (flatT x.last)) /\ (E ≠ 0 -> ∀ x, baseO l x -> ¬ (x.chain = c /\ x.tail = f)) := by
 refine (rbase_any w c f v l h hl hf).mono ?_
 rintro e w' ⟨st, E, rfl, hx, ⟨ch, tl, lv, e0, e1, e2, e3, hd, sd, pa, va, ca, la, pn, pc, vn, vc, cn, cc, lln, lc, rfl, rfl⟩, h1, h2⟩
 refine ⟨ch, tl, e0, e1, e2, e3, hd, sd, pa, va, ca, la, pn, pc, vn, vc, cn, cc, lln, lc, E, rfl, hx, fun hE => ?_, fun hE => (h2 hE).2⟩
 obtain ⟨x, g1, g2, g3, la', lc', hrow, hm⟩ := h1 hE
 refine ⟨x, g1, g2, g3, ?_⟩
 unfold stC at hm
 split at hm
 ·obtain ⟨ca', cn', hst, -⟩ := hm
  simp only [Array.mk.injEq, List.cons.injEq] at hst
  rw [show Value.slice la lln lc = .slice la' x.last.length lc' from by simpa using hst.2.2.2.2.2.2.2.2.2.2.2]
  exact hrow
 ·obtain ⟨pa', pc', va', vc', hst, -⟩ := hm
  simp only [Array.mk.injEq, List.cons.injEq] at hst
  rw [show Value.slice la lln lc = .slice la' x.last.length lc' from by simpa using hst.2.2.2.2.2.2.2.2.2.2.2]
  exact hrow
theorem rseq_someC {S : Nat -> Prop} (w : World) (st : Array Value) (v : Value) (l : List Tr) (p i q : Nat) (hst : ∃ x0 x1 x2 x3 x4 x5 x6 x7 x8 x9 x10, st = #[x0, x1, x2, x3, x4, x5, x6, x7, x8, x9, x10, v]) (hone : st.all (·.oneCell') = true) (h : Row S w v l.length (flatT l)) (hlen : l.length <= 1000000) (hq : seqF l p i = some q) :
  Calls Tryz.prog 39 #[.agg st, .int .u64 p, .int .u64 i] w fun e w' => e = .returned (.tuple #[.int .u64 (q : Int), .bool true]) /\ Ext w w' := by
 have := rseq_any w st v l p i hst hone h hlen
 rw [hq] at this
 exact this
theorem rseq_noneC {S : Nat -> Prop} (w : World) (st : Array Value) (v : Value) (l : List Tr) (p i : Nat) (hst : ∃ x0 x1 x2 x3 x4 x5 x6 x7 x8 x9 x10, st = #[x0, x1, x2, x3, x4, x5, x6, x7, x8, x9, x10, v]) (hone : st.all (·.oneCell') = true) (h : Row S w v l.length (flatT l)) (hlen : l.length <= 1000000) (hq : seqF l p i = none) :
  Calls Tryz.prog 39 #[.agg st, .int .u64 p, .int .u64 i] w fun e w' => e = .returned (.tuple #[.int .u64 0, .bool false]) /\ Ext w w' := by
 have := rseq_any w st v l p i hst hone h hlen
 rw [hq] at this
 exact this
theorem field_rvw (a b t : Int) (w : World) : (Instr.field 75 (.agg #[.int .u64 a, .int .u64 b, .int .u64 t]) 1).run Tryz.prog w = .ok (.int .u64 b) w := by kernel_rfl
theorem rpre (w : World) (c : Cfg) (va : Option Addr) (vn vc : Nat) (st xe : Int) (f : Nat) (e : Int) (na : Option Addr) (nn nc : Nat) (ba : Option Addr) (bn bc : Nat) : ∃ w1, Hid (w1 = ((((w.alloc (.cells #[.int .u64 (c.chain : Int), .int .u64 (c.n : Int), .int .u64 (c.proc : Int), .int .u64 (c.inc : Int), .int .u64 (c.seq : Int), .int .u64 (c.k : Int), .slice va vn vc] 29)).alloc (.cells #[.int .i64 st, .int .i64 xe, .int .u64 (f : Int)] 58)).alloc (.cells #[.int .i64 e, .slice na nn nc, .slice ba bn bc] 50)).alloc (.cells #[.int .i64 0, .int .i64 0, .int .u64 0] 58))) /\ Hid (w1.heap[w.heap.size]? = some (.cells #[.int .u64 (c.chain : Int), .int .u64 (c.n : Int), .int .u64 (c.proc : Int), .int .u64 (c.inc : Int), .int .u64 (c.seq : Int), .int .u64 (c.k : Int), .slice va vn vc] 29 (0, 0))) /\ Hid (w1.heap[w.heap.size + 3]? = some (.cells #[.int .i64 0, .int .i64 0, .int .u64 0] 58 (0, 0))) /\ Hid (Ext w w1) /\ w.heap.size < w1.heap.size /\ w.heap.size + 1 < w1.heap.size /\ w.heap.size + 2 < w1.heap.size /\ w1.cell? ⟨w.heap.size, 0, none⟩ = some (.int .u64 (c.chain : Int)) /\ w1.cell? ⟨w.heap.size, 1, none⟩ = some (.int .u64 (c.n : Int)) /\ w1.cell? ⟨w.heap.size, 2, none⟩ = some (.int .u64 (c.proc : Int)) /\ w1.cell? ⟨w.heap.size, 3, none⟩ = some (.int .u64 (c.inc : Int)) /\ w1.cell? ⟨w.heap.size, 4, none⟩ = some (.int .u64 (c.seq : Int)) /\ w1.cell? ⟨w.heap.size, 5, none⟩ = some (.int .u64 (c.k : Int)) /\ w1.cell? ⟨w.heap.size, 6, none⟩ = some (.slice va vn vc) /\ w1.cell? ⟨w.heap.size + 1, 0, none⟩ = some (.int .i64 st) /\ w1.cell? ⟨w.heap.size + 1, 1, none⟩ = some (.int .i64 xe) /\ w1.cell? ⟨w.heap.size + 1, 2, none⟩ = some (.int .u64 (f : Int)) /\ w1.cell? ⟨w.heap.size + 2, 0, none⟩ = some (.int .i64 e) /\ w1.cell? ⟨w.heap.size + 2, 1, none⟩ = some (.slice na nn nc) /\ w1.cell? ⟨w.heap.size + 2, 2, none⟩ = some (.slice ba bn bc) := by
 obtain ⟨ha, hb, hc, hz, hx⟩ := allocs4 w (.cells #[.int .u64 (c.chain : Int), .int .u64 (c.n : Int), .int .u64 (c.proc : Int), .int .u64 (c.inc : Int), .int .u64 (c.seq : Int), .int .u64 (c.k : Int), .slice va vn vc] 29) (.cells #[.int .i64 st, .int .i64 xe, .int .u64 (f : Int)] 58) (.cells #[.int .i64 e, .slice na nn nc, .slice ba bn bc] 50) (.cells #[.int .i64 0, .int .i64 0, .int .u64 0] 58)
 exact ⟨_, zq rfl, zq ha, zq hz, zq hx, lZ ha, lZ hb, lZ hc, cZ ha 0 _ rfl, cZ ha 1 _ rfl, cZ ha 2 _ rfl, cZ ha 3 _ rfl, cZ ha 4 _ rfl, cZ ha 5 _ rfl, cZ ha 6 _ rfl, cZ hb 0 _ rfl, cZ hb 1 _ rfl, cZ hb 2 _ rfl, cZ hc 0 _ rfl, cZ hc 1 _ rfl, cZ hc 2 _ rfl⟩
theorem rbase_80 (w : World) (c : Cfg) (xe : Int) (f : Nat) (hf : 0 < f) (r : Res) (va : Option Addr) (vn vc : Nat) (na ba : Option Addr) (nn nc bc : Nat) (he : r.err = 80) :
  Calls Tryz.prog 30 #[.agg #[.int .u64 (c.chain : Int), .int .u64 (c.n : Int), .int .u64 (c.proc : Int), .int .u64 (c.inc : Int), .int .u64 (c.seq : Int), .int .u64 (c.k : Int), .slice va vn vc], .agg #[.int .i64 6, .int .i64 xe, .int .u64 (f : Int)], .agg #[.int .i64 r.err, .slice na nn nc, .slice ba r.bytes.length bc]] w fun r' w' => r' = .returned (.agg (spotC (baseP c f r))) /\ Ext w w' := by
 rw [baseP_80 he, he]
 have hb1 : ((80 : Int) == 80) = true := rfl
 obtain ⟨w1, HW1, HA, HZ, HX1, al, bl, cl, a0, a1, a2, a3, a4, a5, a6, b0, b1, b2, c0, c1, c2⟩ := rpre w c va vn vc 6 xe f 80 na nn nc ba (r.bytes.length) bc
 go_enter Tryz.func30, Tryz.ntmps30
 go_upto_region 1 with fail
 rw [<- HW1.out]
 go_upto_region 2 with fail
 go_wp2_with (refine wpList_store_blk rfl _ _ _ rfl rfl (cells := #[.int .i64 5, .int .i64 0, .int .u64 0]) rfl (g := w.heap.size + 3) HZ.out Tryz.rspotT rfl (by simp [AllOne, Value.oneCell']) ?_)
 refine bodyPost_blk rfl rfl rfl (setRow_heap _ _ _ _ _ _ HZ.out) Tryz.rspotT ?_
 exact ⟨rfl, HX1.out.step (T := At (w.heap.size + 3)) (Upd.row _ _ _) (fun k hk e => by have e : k = w.heap.size + 3 := e; omega)⟩
theorem rbase_bad (w : World) (c : Cfg) (xe : Int) (f : Nat) (hf : 0 < f) (r : Res) (va : Option Addr) (vn vc : Nat) (na ba : Option Addr) (nn nc bc : Nat) (he : r.err ≠ 80) (he0 : r.err ≠ 0) :
  Calls Tryz.prog 30 #[.agg #[.int .u64 (c.chain : Int), .int .u64 (c.n : Int), .int .u64 (c.proc : Int), .int .u64 (c.inc : Int), .int .u64 (c.seq : Int), .int .u64 (c.k : Int), .slice va vn vc], .agg #[.int .i64 6, .int .i64 xe, .int .u64 (f : Int)], .agg #[.int .i64 r.err, .slice na nn nc, .slice ba r.bytes.length bc]] w fun r' w' => r' = .returned (.agg (spotC (baseP c f r))) /\ Ext w w' := by
 rw [baseP_err he he0]
 obtain ⟨e, hee⟩ : ∃ e, e = r.err := ⟨_, rfl⟩
 rw [<- hee] at he he0 ⊢
 have hb1 : (e == 80) = false := by simpa using he
 have hb2 : (e != 0) = true := by simpa using he0
 obtain ⟨w1, HW1, HA, HZ, HX1, al, bl, cl, a0, a1, a2, a3, a4, a5, a6, b0, b1, b2, c0, c1, c2⟩ := rpre w c va vn vc 6 xe f e na nn nc ba (r.bytes.length) bc
 clear he he0 hee
 go_enter Tryz.func30, Tryz.ntmps30
 go_upto_region 1 with fail
 rw [<- HW1.out]
 go_upto_region 4 with fail
 go_wp2_with (refine wpList_store_blk rfl _ _ _ rfl rfl (cells := #[.int .i64 9, .int .i64 e, .int .u64 0]) rfl (g := w.heap.size + 3) HZ.out Tryz.rspotT rfl (by simp [AllOne, Value.oneCell']) ?_)
 refine bodyPost_blk rfl rfl rfl (setRow_heap _ _ _ _ _ _ HZ.out) Tryz.rspotT ?_
 exact ⟨rfl, HX1.out.step (T := At (w.heap.size + 3)) (Upd.row _ _ _) (fun k hk e => by have e : k = w.heap.size + 3 := e; omega)⟩
theorem rbase_ok {S : Nat -> Prop} (w : World) (c : Cfg) (xe : Int) (f : Nat) (hf : 0 < f) (r : Res) (va : Option Addr) (vn vc : Nat) (na ba : Option Addr) (nn nc bc : Nat) (he : r.err = 0) (hr : Bytes S w (.slice ba r.bytes.length bc) r.bytes) (hl : r.bytes.length <= 60000) :
  Calls Tryz.prog 30 #[.agg #[.int .u64 (c.chain : Int), .int .u64 (c.n : Int), .int .u64 (c.proc : Int), .int .u64 (c.inc : Int), .int .u64 (c.seq : Int), .int .u64 (c.k : Int), .slice va vn vc], .agg #[.int .i64 6, .int .i64 xe, .int .u64 (f : Int)], .agg #[.int .i64 r.err, .slice na nn nc, .slice ba r.bytes.length bc]] w fun r' w' => r' = .returned (.agg (spotC (baseP c f r))) /\ Ext w w' := by
 rw [he]
 have hb1 : ((0 : Int) == 80) = false := rfl
 have hb2 : ((0 : Int) != 0) = false := rfl
 have HE0 := zq he
 have HL := zq hl
 have HF := zq hf
 have HR := zq hr
 obtain ⟨w1, HW1, HA, HZ, HX1, al, bl, cl, a0, a1, a2, a3, a4, a5, a6, b0, b1, b2, c0, c1, c2⟩ := rpre w c va vn vc 6 xe f 0 na nn nc ba (r.bytes.length) bc
 clear he hr hl hf
 go_enter Tryz.func30, Tryz.ntmps30
 go_upto_region 1 with fail
 rw [<- HW1.out]
 go_wp2_with (go_at_call 38; fail)
 refine (rbase_lit w1 c.chain f _ r.bytes (HR.out.ext HX1.out) HL.out HF.out).mono ?_
 rintro r' w2 ⟨ch, tl, e0, e1, e2, e3, hd, sd, pa, va2, ca, la, pn, pc, vn2, vc2, cn, cc, lln, lc, E, rfl, hx2, hok2, hbad2⟩
 obtain ⟨w3, hw3⟩ : ∃ u, u = w2.alloc (.cells #[.int .u64 (ch : Int), .int .u64 (tl : Int), .int .u64 (e0 : Int), .int .u64 (e1 : Int), .int .u64 (e2 : Int), .int .u64 (e3 : Int), .bool hd, .slice pa pn pc, .slice va2 vn2 vc2, .bool sd, .slice ca cn cc, .slice la lln lc] 96) := ⟨_, rfl⟩
 obtain ⟨g, hg⟩ : ∃ g, g = w2.heap.size := ⟨_, rfl⟩
 have hx3 : Ext w2 w3 := by rw [hw3]; exact uZ.alloc _
 have HG3 := zq (show w3.heap[g]? = some (.cells #[.int .u64 (ch : Int), .int .u64 (tl : Int), .int .u64 (e0 : Int), .int .u64 (e1 : Int), .int .u64 (e2 : Int), .int .u64 (e3 : Int), .bool hd, .slice pa pn pc, .slice va2 vn2 vc2, .bool sd, .slice ca cn cc, .slice la lln lc] 96 (0, 0)) by rw [hw3, hg]; exact newAt _ _)
 have HW3 := zq hw3
 have HGG := zq hg
 have HX3 := zq ((HX1.out.trans hx2).trans hx3)
 have HZ3 := zq ((hx2.trans hx3).at_ HZ.out id)
 have HA3 := zq ((hx2.trans hx3).at_ HA.out id)
 have HOK2 := zq (show E = 0 -> ∃ x, baseO r.bytes x /\ x.chain = c.chain /\ x.tail = f /\ Row (From w1.heap.size) w3 (.slice la lln lc) x.last.length (flatT x.last) from fun h => by obtain ⟨x, h1, h2, h3, h4⟩ := hok2 h; exact ⟨x, h1, h2, h3, h4.ext hx3⟩)
 have HBAD2 := zq hbad2
 clear hx2 hx3 hw3 hg hok2 hbad2 a0 a1 a2 a3 a4 a5 a6 al b0 b1 b2 bl c0 c1 c2 cl
 go_upto_region 6 with fail
 rw [show w2.alloc (.cells #[.int .u64 (ch : Int), .int .u64 (tl : Int), .int .u64 (e0 : Int), .int .u64 (e1 : Int), .int .u64 (e2 : Int), .int .u64 (e3 : Int), .bool hd, .slice pa pn pc, .slice va2 vn2 vc2, .bool sd, .slice ca cn cc, .slice la lln lc] 96) = w3 from HW3.out.symm, show w2.heap.size = g from HGG.out.symm]
 by_cases hE : E = 0
 case neg =>
  have hb3 : (E != 0) = true := by simpa using hE
  have HB3 := zq (baseP_bad HE0.out (HBAD2.out hE))
  clear hE
  go_upto_region 7 with fail
  go_wp2_with (refine wpList_store_blk rfl _ _ _ rfl rfl (cells := #[.int .i64 9, .int .i64 220, .int .u64 0]) rfl (g := w.heap.size + 3) HZ3.out Tryz.rspotT rfl (by simp [AllOne, Value.oneCell']) ?_)
  refine bodyPost_blk rfl rfl rfl (setRow_heap _ _ _ _ _ _ HZ3.out) Tryz.rspotT ?_
  exact ⟨by rw [HB3.out]; rfl, HX3.out.step (T := At (w.heap.size + 3)) (Upd.row _ _ _) (fun k hk e => by have e : k = w.heap.size + 3 := e; omega)⟩
 subst hE
 obtain ⟨x, hx1, hx2, hx3, hrow⟩ := HOK2.out rfl
 have hbp := baseP_ok HE0.out HL.out hx1 hx2 hx3
 have HBP := zq hbp
 have HLL := zq (show x.last.length <= 1000000 by have := baseO_last hx1 HL.out; omega)
 have HROW := zq hrow
 obtain ⟨L, hL⟩ : ∃ L, L = x.last := ⟨_, rfl⟩
 rw [<- hL] at HBP HLL HROW
 have hlln : lln = L.length := by obtain ⟨a, c', he, -⟩ := HROW.out; cases he; rfl
 subst hlln
 have hb3 : ((0 : Int) != 0) = false := rfl
 clear hbp hx1 hx2 hx3 hrow hL
 have z0 := cZ HG3.out 0 _ rfl
 have z1 := cZ HG3.out 1 _ rfl
 have z2 := cZ HG3.out 2 _ rfl
 have z3 := cZ HG3.out 3 _ rfl
 have z4 := cZ HG3.out 4 _ rfl
 have z5 := cZ HG3.out 5 _ rfl
 have z6 := cZ HG3.out 6 _ rfl
 have z7 := cZ HG3.out 7 _ rfl
 have z8 := cZ HG3.out 8 _ rfl
 have z9 := cZ HG3.out 9 _ rfl
 have z10 := cZ HG3.out 10 _ rfl
 have z11 := cZ HG3.out 11 _ rfl
 have zl := lZ HG3.out
 have a2 := cZ HA3.out 2 _ rfl
 have a3 := cZ HA3.out 3 _ rfl
 have al := lZ HA3.out
 cases hsq : seqF L c.proc c.inc with
 | none =>
  have HQ := zq hsq
  rw [hsq] at HBP
  have HBP2 := zq (show baseP c f r = ⟨8, 0, 0⟩ from HBP.out)
  clear hsq HBP
  go_wp2_with (go_at_call 39; fail)
  refine (rseq_noneC w3 _ _ L c.proc c.inc ⟨_, _, _, _, _, _, _, _, _, _, _, rfl⟩ (by simp [Value.oneCell']) HROW.out HLL.out HQ.out).mono ?_
  rintro r' w4 ⟨rfl, hx4⟩
  have HX4 := zq (HX3.out.trans hx4)
  have HZ4 := zq (hx4.at_ HZ3.out id)
  clear hx4
  go_upto_region 11 with fail
  go_wp2_with (refine wpList_store_blk rfl _ _ _ rfl rfl (cells := #[.int .i64 8, .int .i64 0, .int .u64 0]) rfl (g := w.heap.size + 3) HZ4.out Tryz.rspotT rfl (by simp [AllOne, Value.oneCell']) ?_)
  refine bodyPost_blk rfl rfl rfl (setRow_heap _ _ _ _ _ _ HZ4.out) Tryz.rspotT ?_
  exact ⟨by rw [HBP2.out]; rfl, HX4.out.step (T := At (w.heap.size + 3)) (Upd.row _ _ _) (fun k hk e => by have e : k = w.heap.size + 3 := e; omega)⟩
 | some q =>
  have HQ := zq hsq
  rw [hsq] at HBP
  by_cases hle : c.seq <= q
  ·have HBP2 := zq (show baseP c f r = ⟨7, 0, 0⟩ by rw [HBP.out]; exact if_pos hle)
   have hb5 : ((c.seq : Int) <= (q : Int)) := by omega
   clear hsq HBP hle
   go_wp2_with (go_at_call 39; fail)
   refine (rseq_someC w3 _ _ L c.proc c.inc q ⟨_, _, _, _, _, _, _, _, _, _, _, rfl⟩ (by simp [Value.oneCell']) HROW.out HLL.out HQ.out).mono ?_
   rintro r' w4 ⟨rfl, hx4⟩
   have HX4 := zq (HX3.out.trans hx4)
   have HZ4 := zq (hx4.at_ HZ3.out id)
   have ha4 := hx4.at_ HA3.out id
   have a44 := cZ ha4 4 _ rfl
   have al4 := lZ ha4
   clear hx4 ha4
   go_upto_region 10 with fail
   go_wp2_with (refine wpList_store_blk rfl _ _ _ rfl rfl (cells := #[.int .i64 7, .int .i64 0, .int .u64 0]) rfl (g := w.heap.size + 3) HZ4.out Tryz.rspotT rfl (by simp [AllOne, Value.oneCell']) ?_)
   refine bodyPost_blk rfl rfl rfl (setRow_heap _ _ _ _ _ _ HZ4.out) Tryz.rspotT ?_
   exact ⟨by rw [HBP2.out]; rfl, HX4.out.step (T := At (w.heap.size + 3)) (Upd.row _ _ _) (fun k hk e => by have e : k = w.heap.size + 3 := e; omega)⟩
  ·have HBP2 := zq (show baseP c f r = ⟨8, 0, 0⟩ by rw [HBP.out]; exact if_neg hle)
   have hb5 : ¬ ((c.seq : Int) <= (q : Int)) := by omega
   clear hsq HBP hle
   go_wp2_with (go_at_call 39; fail)
   refine (rseq_someC w3 _ _ L c.proc c.inc q ⟨_, _, _, _, _, _, _, _, _, _, _, rfl⟩ (by simp [Value.oneCell']) HROW.out HLL.out HQ.out).mono ?_
   rintro r' w4 ⟨rfl, hx4⟩
   have HX4 := zq (HX3.out.trans hx4)
   have HZ4 := zq (hx4.at_ HZ3.out id)
   have ha4 := hx4.at_ HA3.out id
   have a44 := cZ ha4 4 _ rfl
   have al4 := lZ ha4
   clear hx4 ha4
   go_upto_region 11 with fail
   go_wp2_with (refine wpList_store_blk rfl _ _ _ rfl rfl (cells := #[.int .i64 8, .int .i64 0, .int .u64 0]) rfl (g := w.heap.size + 3) HZ4.out Tryz.rspotT rfl (by simp [AllOne, Value.oneCell']) ?_)
   refine bodyPost_blk rfl rfl rfl (setRow_heap _ _ _ _ _ _ HZ4.out) Tryz.rspotT ?_
   exact ⟨by rw [HBP2.out]; rfl, HX4.out.step (T := At (w.heap.size + 3)) (Upd.row _ _ _) (fun k hk e => by have e : k = w.heap.size + 3 := e; omega)⟩
theorem rbase_all {S : Nat -> Prop} (w : World) (c : Cfg) (xe : Int) (f : Nat) (hf : 0 < f) (r : Res) (va : Option Addr) (vn vc : Nat) (na ba : Option Addr) (nn nc bc : Nat) (hr : Bytes S w (.slice ba r.bytes.length bc) r.bytes) (hl : r.bytes.length <= 60000) :
  Calls Tryz.prog 30 #[.agg #[.int .u64 (c.chain : Int), .int .u64 (c.n : Int), .int .u64 (c.proc : Int), .int .u64 (c.inc : Int), .int .u64 (c.seq : Int), .int .u64 (c.k : Int), .slice va vn vc], .agg #[.int .i64 6, .int .i64 xe, .int .u64 (f : Int)], .agg #[.int .i64 r.err, .slice na nn nc, .slice ba r.bytes.length bc]] w fun r' w' => r' = .returned (.agg (spotC (baseP c f r))) /\ Ext w w' := by
 by_cases h : r.err = 80
 ·exact rbase_80 w c xe f hf r va vn vc na ba nn nc bc h
 ·by_cases h0 : r.err = 0
  ·exact rbase_ok w c xe f hf r va vn vc na ba nn nc bc h0 hr hl
  ·exact rbase_bad w c xe f hf r va vn vc na ba nn nc bc h h0
theorem rthen_1_bad (w : World) (c : Cfg) (xe : Int) (f : Nat) (e : Int) (he : e ≠ 0) (va : Option Addr) (vn vc : Nat) (na ba : Option Addr) (nn nc bn bc : Nat) :
  Calls Tryz.prog 22 #[.agg #[.int .u64 (c.chain : Int), .int .u64 (c.n : Int), .int .u64 (c.proc : Int), .int .u64 (c.inc : Int), .int .u64 (c.seq : Int), .int .u64 (c.k : Int), .slice va vn vc], .agg #[.int .i64 1, .int .i64 xe, .int .u64 (f : Int)], .agg #[.int .i64 e, .slice na nn nc, .slice ba bn bc]] w fun r' w' => r' = .returned (.agg #[.int .i64 10, .int .i64 e, .int .u64 0]) /\ Ext w w' := by
 have hb2 : (e != 0) = true := by simpa using he
 obtain ⟨w1, HW1, HA, HZ, HX1, al, bl, cl, a0, a1, a2, a3, a4, a5, a6, b0, b1, b2, c0, c1, c2⟩ := rpre w c va vn vc 1 xe f e na nn nc ba bn bc
 clear he
 go_enter Tryz.func22, Tryz.ntmps22
 go_upto_region 1 with fail
 rw [<- HW1.out]
 go_upto_region 4 with fail
 go_wp2_with (refine wpList_store_blk rfl _ _ _ rfl rfl (cells := #[.int .i64 10, .int .i64 e, .int .u64 0]) rfl (g := w.heap.size + 3) HZ.out Tryz.rspotT rfl (by simp [AllOne, Value.oneCell']) ?_)
 refine bodyPost_blk rfl rfl rfl (setRow_heap _ _ _ _ _ _ HZ.out) Tryz.rspotT ?_
 exact ⟨rfl, HX1.out.step (T := At (w.heap.size + 3)) (Upd.row _ _ _) (fun k hk e => by have e : k = w.heap.size + 3 := e; omega)⟩
theorem rthen_1_ok (w : World) (c : Cfg) (xe : Int) (f : Nat) (va : Option Addr) (vn vc : Nat) (na ba : Option Addr) (nn nc bn bc : Nat) :
  Calls Tryz.prog 22 #[.agg #[.int .u64 (c.chain : Int), .int .u64 (c.n : Int), .int .u64 (c.proc : Int), .int .u64 (c.inc : Int), .int .u64 (c.seq : Int), .int .u64 (c.k : Int), .slice va vn vc], .agg #[.int .i64 1, .int .i64 xe, .int .u64 (f : Int)], .agg #[.int .i64 0, .slice na nn nc, .slice ba bn bc]] w fun r' w' => r' = .returned (.agg #[.int .i64 2, .int .i64 0, .int .u64 0]) /\ Ext w w' := by
 have hb2 : ((0 : Int) != 0) = false := rfl
 obtain ⟨w1, HW1, HA, HZ, HX1, al, bl, cl, a0, a1, a2, a3, a4, a5, a6, b0, b1, b2, c0, c1, c2⟩ := rpre w c va vn vc 1 xe f 0 na nn nc ba bn bc
 go_enter Tryz.func22, Tryz.ntmps22
 go_upto_region 1 with fail
 rw [<- HW1.out]
 go_upto_region 5 with fail
 go_wp2_with (refine wpList_store_blk rfl _ _ _ rfl rfl (cells := #[.int .i64 2, .int .i64 0, .int .u64 0]) rfl (g := w.heap.size + 3) HZ.out Tryz.rspotT rfl (by simp [AllOne, Value.oneCell']) ?_)
 refine bodyPost_blk rfl rfl rfl (setRow_heap _ _ _ _ _ _ HZ.out) Tryz.rspotT ?_
 exact ⟨rfl, HX1.out.step (T := At (w.heap.size + 3)) (Upd.row _ _ _) (fun k hk e => by have e : k = w.heap.size + 3 := e; omega)⟩
theorem rthen_2_bad (w : World) (c : Cfg) (xe : Int) (f : Nat) (e : Int) (he : e ≠ 0) (va : Option Addr) (vn vc : Nat) (na ba : Option Addr) (nn nc bn bc : Nat) :
  Calls Tryz.prog 22 #[.agg #[.int .u64 (c.chain : Int), .int .u64 (c.n : Int), .int .u64 (c.proc : Int), .int .u64 (c.inc : Int), .int .u64 (c.seq : Int), .int .u64 (c.k : Int), .slice va vn vc], .agg #[.int .i64 2, .int .i64 xe, .int .u64 (f : Int)], .agg #[.int .i64 e, .slice na nn nc, .slice ba bn bc]] w fun r' w' => r' = .returned (.agg #[.int .i64 9, .int .i64 e, .int .u64 0]) /\ Ext w w' := by
 have hb2 : (e != 0) = true := by simpa using he
 obtain ⟨w1, HW1, HA, HZ, HX1, al, bl, cl, a0, a1, a2, a3, a4, a5, a6, b0, b1, b2, c0, c1, c2⟩ := rpre w c va vn vc 2 xe f e na nn nc ba bn bc
 clear he
 go_enter Tryz.func22, Tryz.ntmps22
 go_upto_region 1 with fail
 rw [<- HW1.out]
 go_upto_region 22 with fail
 go_wp2_with (refine wpList_store_blk rfl _ _ _ rfl rfl (cells := #[.int .i64 9, .int .i64 e, .int .u64 0]) rfl (g := w.heap.size + 3) HZ.out Tryz.rspotT rfl (by simp [AllOne, Value.oneCell']) ?_)
 refine bodyPost_blk rfl rfl rfl (setRow_heap _ _ _ _ _ _ HZ.out) Tryz.rspotT ?_
 exact ⟨rfl, HX1.out.step (T := At (w.heap.size + 3)) (Upd.row _ _ _) (fun k hk e => by have e : k = w.heap.size + 3 := e; omega)⟩
theorem rthen_2_ok (w : World) (c : Cfg) (xe : Int) (f : Nat) (va : Option Addr) (vn vc : Nat) (na ba : Option Addr) (nn nc bn bc : Nat) :
  Calls Tryz.prog 22 #[.agg #[.int .u64 (c.chain : Int), .int .u64 (c.n : Int), .int .u64 (c.proc : Int), .int .u64 (c.inc : Int), .int .u64 (c.seq : Int), .int .u64 (c.k : Int), .slice va vn vc], .agg #[.int .i64 2, .int .i64 xe, .int .u64 (f : Int)], .agg #[.int .i64 0, .slice na nn nc, .slice ba bn bc]] w fun r' w' => r' = .returned (.agg #[.int .i64 3, .int .i64 0, .int .u64 0]) /\ Ext w w' := by
 have hb2 : ((0 : Int) != 0) = false := rfl
 obtain ⟨w1, HW1, HA, HZ, HX1, al, bl, cl, a0, a1, a2, a3, a4, a5, a6, b0, b1, b2, c0, c1, c2⟩ := rpre w c va vn vc 2 xe f 0 na nn nc ba bn bc
 go_enter Tryz.func22, Tryz.ntmps22
 go_upto_region 1 with fail
 rw [<- HW1.out]
 go_upto_region 23 with fail
 go_wp2_with (refine wpList_store_blk rfl _ _ _ rfl rfl (cells := #[.int .i64 3, .int .i64 0, .int .u64 0]) rfl (g := w.heap.size + 3) HZ.out Tryz.rspotT rfl (by simp [AllOne, Value.oneCell']) ?_)
 refine bodyPost_blk rfl rfl rfl (setRow_heap _ _ _ _ _ _ HZ.out) Tryz.rspotT ?_
 exact ⟨rfl, HX1.out.step (T := At (w.heap.size + 3)) (Upd.row _ _ _) (fun k hk e => by have e : k = w.heap.size + 3 := e; omega)⟩
theorem rthen_3_bad (w : World) (c : Cfg) (xe : Int) (f : Nat) (e : Int) (he : e ≠ 0) (va : Option Addr) (vn vc : Nat) (na ba : Option Addr) (nn nc bn bc : Nat) :
  Calls Tryz.prog 22 #[.agg #[.int .u64 (c.chain : Int), .int .u64 (c.n : Int), .int .u64 (c.proc : Int), .int .u64 (c.inc : Int), .int .u64 (c.seq : Int), .int .u64 (c.k : Int), .slice va vn vc], .agg #[.int .i64 3, .int .i64 xe, .int .u64 (f : Int)], .agg #[.int .i64 e, .slice na nn nc, .slice ba bn bc]] w fun r' w' => r' = .returned (.agg #[.int .i64 9, .int .i64 e, .int .u64 0]) /\ Ext w w' := by
 have hb2 : (e != 0) = true := by simpa using he
 obtain ⟨w1, HW1, HA, HZ, HX1, al, bl, cl, a0, a1, a2, a3, a4, a5, a6, b0, b1, b2, c0, c1, c2⟩ := rpre w c va vn vc 3 xe f e na nn nc ba bn bc
 clear he
 go_enter Tryz.func22, Tryz.ntmps22
 go_upto_region 1 with fail
 rw [<- HW1.out]
 go_upto_region 22 with fail
 go_wp2_with (refine wpList_store_blk rfl _ _ _ rfl rfl (cells := #[.int .i64 9, .int .i64 e, .int .u64 0]) rfl (g := w.heap.size + 3) HZ.out Tryz.rspotT rfl (by simp [AllOne, Value.oneCell']) ?_)
 refine bodyPost_blk rfl rfl rfl (setRow_heap _ _ _ _ _ _ HZ.out) Tryz.rspotT ?_
 exact ⟨rfl, HX1.out.step (T := At (w.heap.size + 3)) (Upd.row _ _ _) (fun k hk e => by have e : k = w.heap.size + 3 := e; omega)⟩
theorem rthen_3_ok (w : World) (c : Cfg) (xe : Int) (f : Nat) (va : Option Addr) (vn vc : Nat) (na ba : Option Addr) (nn nc bn bc : Nat) :
  Calls Tryz.prog 22 #[.agg #[.int .u64 (c.chain : Int), .int .u64 (c.n : Int), .int .u64 (c.proc : Int), .int .u64 (c.inc : Int), .int .u64 (c.seq : Int), .int .u64 (c.k : Int), .slice va vn vc], .agg #[.int .i64 3, .int .i64 xe, .int .u64 (f : Int)], .agg #[.int .i64 0, .slice na nn nc, .slice ba bn bc]] w fun r' w' => r' = .returned (.agg #[.int .i64 4, .int .i64 0, .int .u64 0]) /\ Ext w w' := by
 have hb2 : ((0 : Int) != 0) = false := rfl
 obtain ⟨w1, HW1, HA, HZ, HX1, al, bl, cl, a0, a1, a2, a3, a4, a5, a6, b0, b1, b2, c0, c1, c2⟩ := rpre w c va vn vc 3 xe f 0 na nn nc ba bn bc
 go_enter Tryz.func22, Tryz.ntmps22
 go_upto_region 1 with fail
 rw [<- HW1.out]
 go_upto_region 23 with fail
 go_wp2_with (refine wpList_store_blk rfl _ _ _ rfl rfl (cells := #[.int .i64 4, .int .i64 0, .int .u64 0]) rfl (g := w.heap.size + 3) HZ.out Tryz.rspotT rfl (by simp [AllOne, Value.oneCell']) ?_)
 refine bodyPost_blk rfl rfl rfl (setRow_heap _ _ _ _ _ _ HZ.out) Tryz.rspotT ?_
 exact ⟨rfl, HX1.out.step (T := At (w.heap.size + 3)) (Upd.row _ _ _) (fun k hk e => by have e : k = w.heap.size + 3 := e; omega)⟩
theorem rthen_4_bad (w : World) (c : Cfg) (xe : Int) (f : Nat) (e : Int) (he : e ≠ 0) (va : Option Addr) (vn vc : Nat) (na ba : Option Addr) (nn nc bn bc : Nat) :
  Calls Tryz.prog 22 #[.agg #[.int .u64 (c.chain : Int), .int .u64 (c.n : Int), .int .u64 (c.proc : Int), .int .u64 (c.inc : Int), .int .u64 (c.seq : Int), .int .u64 (c.k : Int), .slice va vn vc], .agg #[.int .i64 4, .int .i64 xe, .int .u64 (f : Int)], .agg #[.int .i64 e, .slice na nn nc, .slice ba bn bc]] w fun r' w' => r' = .returned (.agg #[.int .i64 9, .int .i64 e, .int .u64 0]) /\ Ext w w' := by
 have hb2 : (e != 0) = true := by simpa using he
 obtain ⟨w1, HW1, HA, HZ, HX1, al, bl, cl, a0, a1, a2, a3, a4, a5, a6, b0, b1, b2, c0, c1, c2⟩ := rpre w c va vn vc 4 xe f e na nn nc ba bn bc
 clear he
 go_enter Tryz.func22, Tryz.ntmps22
 go_upto_region 1 with fail
 rw [<- HW1.out]
 go_upto_region 22 with fail
 go_wp2_with (refine wpList_store_blk rfl _ _ _ rfl rfl (cells := #[.int .i64 9, .int .i64 e, .int .u64 0]) rfl (g := w.heap.size + 3) HZ.out Tryz.rspotT rfl (by simp [AllOne, Value.oneCell']) ?_)
 refine bodyPost_blk rfl rfl rfl (setRow_heap _ _ _ _ _ _ HZ.out) Tryz.rspotT ?_
 exact ⟨rfl, HX1.out.step (T := At (w.heap.size + 3)) (Upd.row _ _ _) (fun k hk e => by have e : k = w.heap.size + 3 := e; omega)⟩
theorem rthen_4_ok (w : World) (c : Cfg) (xe : Int) (f : Nat) (va : Option Addr) (vn vc : Nat) (na ba : Option Addr) (nn nc bn bc : Nat) :
  Calls Tryz.prog 22 #[.agg #[.int .u64 (c.chain : Int), .int .u64 (c.n : Int), .int .u64 (c.proc : Int), .int .u64 (c.inc : Int), .int .u64 (c.seq : Int), .int .u64 (c.k : Int), .slice va vn vc], .agg #[.int .i64 4, .int .i64 xe, .int .u64 (f : Int)], .agg #[.int .i64 0, .slice na nn nc, .slice ba bn bc]] w fun r' w' => r' = .returned (.agg #[.int .i64 5, .int .i64 0, .int .u64 0]) /\ Ext w w' := by
 have hb2 : ((0 : Int) != 0) = false := rfl
 obtain ⟨w1, HW1, HA, HZ, HX1, al, bl, cl, a0, a1, a2, a3, a4, a5, a6, b0, b1, b2, c0, c1, c2⟩ := rpre w c va vn vc 4 xe f 0 na nn nc ba bn bc
 go_enter Tryz.func22, Tryz.ntmps22
 go_upto_region 1 with fail
 rw [<- HW1.out]
 go_upto_region 23 with fail
 go_wp2_with (refine wpList_store_blk rfl _ _ _ rfl rfl (cells := #[.int .i64 5, .int .i64 0, .int .u64 0]) rfl (g := w.heap.size + 3) HZ.out Tryz.rspotT rfl (by simp [AllOne, Value.oneCell']) ?_)
 refine bodyPost_blk rfl rfl rfl (setRow_heap _ _ _ _ _ _ HZ.out) Tryz.rspotT ?_
 exact ⟨rfl, HX1.out.step (T := At (w.heap.size + 3)) (Upd.row _ _ _) (fun k hk e => by have e : k = w.heap.size + 3 := e; omega)⟩
theorem rthen_5_bad (w : World) (c : Cfg) (xe : Int) (f : Nat) (e : Int) (he : e ≠ 0) (va : Option Addr) (vn vc : Nat) (na ba : Option Addr) (nn nc bn bc : Nat) :
  Calls Tryz.prog 22 #[.agg #[.int .u64 (c.chain : Int), .int .u64 (c.n : Int), .int .u64 (c.proc : Int), .int .u64 (c.inc : Int), .int .u64 (c.seq : Int), .int .u64 (c.k : Int), .slice va vn vc], .agg #[.int .i64 5, .int .i64 xe, .int .u64 (f : Int)], .agg #[.int .i64 e, .slice na nn nc, .slice ba bn bc]] w fun r' w' => r' = .returned (.agg #[.int .i64 9, .int .i64 e, .int .u64 0]) /\ Ext w w' := by
 have hb2 : (e != 0) = true := by simpa using he
 obtain ⟨w1, HW1, HA, HZ, HX1, al, bl, cl, a0, a1, a2, a3, a4, a5, a6, b0, b1, b2, c0, c1, c2⟩ := rpre w c va vn vc 5 xe f e na nn nc ba bn bc
 clear he
 go_enter Tryz.func22, Tryz.ntmps22
 go_upto_region 1 with fail
 rw [<- HW1.out]
 go_upto_region 8 with fail
 go_wp2_with (refine wpList_store_blk rfl _ _ _ rfl rfl (cells := #[.int .i64 9, .int .i64 e, .int .u64 0]) rfl (g := w.heap.size + 3) HZ.out Tryz.rspotT rfl (by simp [AllOne, Value.oneCell']) ?_)
 refine bodyPost_blk rfl rfl rfl (setRow_heap _ _ _ _ _ _ HZ.out) Tryz.rspotT ?_
 exact ⟨rfl, HX1.out.step (T := At (w.heap.size + 3)) (Upd.row _ _ _) (fun k hk e => by have e : k = w.heap.size + 3 := e; omega)⟩
theorem rthen_7 (w : World) (c : Cfg) (xe : Int) (f : Nat) (e : Int) (va : Option Addr) (vn vc : Nat) (na ba : Option Addr) (nn nc bn bc : Nat) :
  Calls Tryz.prog 22 #[.agg #[.int .u64 (c.chain : Int), .int .u64 (c.n : Int), .int .u64 (c.proc : Int), .int .u64 (c.inc : Int), .int .u64 (c.seq : Int), .int .u64 (c.k : Int), .slice va vn vc], .agg #[.int .i64 7, .int .i64 xe, .int .u64 (f : Int)], .agg #[.int .i64 e, .slice na nn nc, .slice ba bn bc]] w fun r' w' => r' = .returned (.agg #[.int .i64 9, .int .i64 e, .int .u64 0]) /\ Ext w w' := by
 obtain ⟨w1, HW1, HA, HZ, HX1, al, bl, cl, a0, a1, a2, a3, a4, a5, a6, b0, b1, b2, c0, c1, c2⟩ := rpre w c va vn vc 7 xe f e na nn nc ba bn bc
 go_enter Tryz.func22, Tryz.ntmps22
 go_upto_region 1 with fail
 rw [<- HW1.out]
 go_upto_region 16 with fail
 go_wp2_with (refine wpList_store_blk rfl _ _ _ rfl rfl (cells := #[.int .i64 9, .int .i64 e, .int .u64 0]) rfl (g := w.heap.size + 3) HZ.out Tryz.rspotT rfl (by simp [AllOne, Value.oneCell']) ?_)
 refine bodyPost_blk rfl rfl rfl (setRow_heap _ _ _ _ _ _ HZ.out) Tryz.rspotT ?_
 exact ⟨rfl, HX1.out.step (T := At (w.heap.size + 3)) (Upd.row _ _ _) (fun k hk e => by have e : k = w.heap.size + 3 := e; omega)⟩
theorem rthen_8 (w : World) (c : Cfg) (xe : Int) (f : Nat) (e : Int) (va : Option Addr) (vn vc : Nat) (na ba : Option Addr) (nn nc bn bc : Nat) :
  Calls Tryz.prog 22 #[.agg #[.int .u64 (c.chain : Int), .int .u64 (c.n : Int), .int .u64 (c.proc : Int), .int .u64 (c.inc : Int), .int .u64 (c.seq : Int), .int .u64 (c.k : Int), .slice va vn vc], .agg #[.int .i64 8, .int .i64 xe, .int .u64 (f : Int)], .agg #[.int .i64 e, .slice na nn nc, .slice ba bn bc]] w fun r' w' => r' = .returned (.agg #[.int .i64 9, .int .i64 81, .int .u64 0]) /\ Ext w w' := by
 obtain ⟨w1, HW1, HA, HZ, HX1, al, bl, cl, a0, a1, a2, a3, a4, a5, a6, b0, b1, b2, c0, c1, c2⟩ := rpre w c va vn vc 8 xe f e na nn nc ba bn bc
 go_enter Tryz.func22, Tryz.ntmps22
 go_upto_region 1 with fail
 rw [<- HW1.out]
 go_upto_region 18 with fail
 go_wp2_with (refine wpList_store_blk rfl _ _ _ rfl rfl (cells := #[.int .i64 9, .int .i64 81, .int .u64 0]) rfl (g := w.heap.size + 3) HZ.out Tryz.rspotT rfl (by simp [AllOne, Value.oneCell']) ?_)
 refine bodyPost_blk rfl rfl rfl (setRow_heap _ _ _ _ _ _ HZ.out) Tryz.rspotT ?_
 exact ⟨rfl, HX1.out.step (T := At (w.heap.size + 3)) (Upd.row _ _ _) (fun k hk e => by have e : k = w.heap.size + 3 := e; omega)⟩
theorem rthen_9 (w : World) (c : Cfg) (xe : Int) (f : Nat) (e : Int) (va : Option Addr) (vn vc : Nat) (na ba : Option Addr) (nn nc bn bc : Nat) :
  Calls Tryz.prog 22 #[.agg #[.int .u64 (c.chain : Int), .int .u64 (c.n : Int), .int .u64 (c.proc : Int), .int .u64 (c.inc : Int), .int .u64 (c.seq : Int), .int .u64 (c.k : Int), .slice va vn vc], .agg #[.int .i64 9, .int .i64 xe, .int .u64 (f : Int)], .agg #[.int .i64 e, .slice na nn nc, .slice ba bn bc]] w fun r' w' => r' = .returned (.agg #[.int .i64 10, .int .i64 xe, .int .u64 0]) /\ Ext w w' := by
 obtain ⟨w1, HW1, HA, HZ, HX1, al, bl, cl, a0, a1, a2, a3, a4, a5, a6, b0, b1, b2, c0, c1, c2⟩ := rpre w c va vn vc 9 xe f e na nn nc ba bn bc
 go_enter Tryz.func22, Tryz.ntmps22
 go_upto_region 1 with fail
 rw [<- HW1.out]
 go_upto_region 20 with fail
 go_wp2_with (refine wpList_store_blk rfl _ _ _ rfl rfl (cells := #[.int .i64 10, .int .i64 xe, .int .u64 0]) rfl (g := w.heap.size + 3) HZ.out Tryz.rspotT rfl (by simp [AllOne, Value.oneCell']) ?_)
 refine bodyPost_blk rfl rfl rfl (setRow_heap _ _ _ _ _ _ HZ.out) Tryz.rspotT ?_
 exact ⟨rfl, HX1.out.step (T := At (w.heap.size + 3)) (Upd.row _ _ _) (fun k hk e => by have e : k = w.heap.size + 3 := e; omega)⟩
theorem rthen_5_lt {S : Nat -> Prop} (w : World) (c : Cfg) (xe : Int) (f : Nat) (l : List (List UInt8)) (hlt : floorF c.chain l < c.n) (va : Option Addr) (vn vc : Nat) (na ba : Option Addr) (nc bn bc : Nat) (hr : Texts S w (.slice na l.length nc) l) (hs : ∀ s ∈ l, s.length <= 1000000) :
  Calls Tryz.prog 22 #[.agg #[.int .u64 (c.chain : Int), .int .u64 (c.n : Int), .int .u64 (c.proc : Int), .int .u64 (c.inc : Int), .int .u64 (c.seq : Int), .int .u64 (c.k : Int), .slice va vn vc], .agg #[.int .i64 5, .int .i64 xe, .int .u64 (f : Int)], .agg #[.int .i64 0, .slice na l.length nc, .slice ba bn bc]] w fun r' w' => r' = .returned (.agg #[.int .i64 7, .int .i64 0, .int .u64 0]) /\ Ext w w' := by
 obtain ⟨fl, hfl⟩ : ∃ f, f = floorF c.chain l := ⟨_, rfl⟩
 rw [<- hfl] at hlt
 have hb2 : ((0 : Int) != 0) = false := rfl
 have hi : ((fl : Int) < (c.n : Int)) := by omega
 have HCON := zq (show ∀ wq, Ext w wq -> Calls Tryz.prog 29 #[.int .u64 c.chain, .slice na l.length nc] wq fun e w' => ∃ t : Nat, e = .returned (.agg #[.int .u64 (c.chain : Int), .int .u64 (fl : Int), .int .u64 (t : Int)]) /\ Ext wq w' from fun wq hq => (rof_any wq c.chain _ l (hr.ext hq) hs).mono fun e w' ⟨t, h1, _, h3⟩ => ⟨t, by rw [hfl]; exact h1, h3⟩)
 have hfld := field_rvw
 obtain ⟨w1, HW1, HA, HZ, HX1, al, bl, cl, a0, a1, a2, a3, a4, a5, a6, b0, b1, b2, c0, c1, c2⟩ := rpre w c va vn vc 5 xe f 0 na (l.length) nc ba bn bc
 clear hr hs hlt hfl
 go_enter Tryz.func22, Tryz.ntmps22
 go_upto_region 1 with fail
 rw [<- HW1.out]
 go_wp2_with (go_at_call 29; fail)
 refine (HCON.out w1 HX1.out).mono ?_
 rintro r' w2 ⟨t, rfl, hx2⟩
 have HX2 := zq (HX1.out.trans hx2)
 have HZ2 := zq (hx2.at_ HZ.out id)
 have ha2 := hx2.at_ HA.out id
 have d1 := cZ ha2 1 _ rfl
 have dl := lZ ha2
 clear hx2 ha2 a0 a1 a2 a3 a4 a5 a6 al b0 b1 b2 bl c0 c1 c2 cl
 go_upto_region 11 with fail
 go_wp2_with (refine wpList_store_blk rfl _ _ _ rfl rfl (cells := #[.int .i64 7, .int .i64 0, .int .u64 0]) rfl (g := w.heap.size + 3) HZ2.out Tryz.rspotT rfl (by simp [AllOne, Value.oneCell']) ?_)
 refine bodyPost_blk rfl rfl rfl (setRow_heap _ _ _ _ _ _ HZ2.out) Tryz.rspotT ?_
 exact ⟨rfl, HX2.out.step (T := At (w.heap.size + 3)) (Upd.row _ _ _) (fun k hk e => by have e : k = w.heap.size + 3 := e; omega)⟩
theorem rthen_5_ge {S : Nat -> Prop} (w : World) (c : Cfg) (xe : Int) (f : Nat) (l : List (List UInt8)) (hlt : ¬ floorF c.chain l < c.n) (va : Option Addr) (vn vc : Nat) (na ba : Option Addr) (nc bn bc : Nat) (hr : Texts S w (.slice na l.length nc) l) (hs : ∀ s ∈ l, s.length <= 1000000) :
  Calls Tryz.prog 22 #[.agg #[.int .u64 (c.chain : Int), .int .u64 (c.n : Int), .int .u64 (c.proc : Int), .int .u64 (c.inc : Int), .int .u64 (c.seq : Int), .int .u64 (c.k : Int), .slice va vn vc], .agg #[.int .i64 5, .int .i64 xe, .int .u64 (f : Int)], .agg #[.int .i64 0, .slice na l.length nc, .slice ba bn bc]] w fun r' w' => r' = .returned (.agg #[.int .i64 6, .int .i64 0, .int .u64 (floorF c.chain l : Int)]) /\ Ext w w' := by
 obtain ⟨fl, hfl⟩ : ∃ f, f = floorF c.chain l := ⟨_, rfl⟩
 rw [<- hfl] at hlt ⊢
 have hb2 : ((0 : Int) != 0) = false := rfl
 have hi : ¬ ((fl : Int) < (c.n : Int)) := by omega
 have HCON := zq (show ∀ wq, Ext w wq -> Calls Tryz.prog 29 #[.int .u64 c.chain, .slice na l.length nc] wq fun e w' => ∃ t : Nat, e = .returned (.agg #[.int .u64 (c.chain : Int), .int .u64 (fl : Int), .int .u64 (t : Int)]) /\ Ext wq w' from fun wq hq => (rof_any wq c.chain _ l (hr.ext hq) hs).mono fun e w' ⟨t, h1, _, h3⟩ => ⟨t, by rw [hfl]; exact h1, h3⟩)
 have hfld := field_rvw
 obtain ⟨w1, HW1, HA, HZ, HX1, al, bl, cl, a0, a1, a2, a3, a4, a5, a6, b0, b1, b2, c0, c1, c2⟩ := rpre w c va vn vc 5 xe f 0 na (l.length) nc ba bn bc
 clear hr hs hlt hfl
 go_enter Tryz.func22, Tryz.ntmps22
 go_upto_region 1 with fail
 rw [<- HW1.out]
 go_wp2_with (go_at_call 29; fail)
 refine (HCON.out w1 HX1.out).mono ?_
 rintro r' w2 ⟨t, rfl, hx2⟩
 have HX2 := zq (HX1.out.trans hx2)
 have HZ2 := zq (hx2.at_ HZ.out id)
 have ha2 := hx2.at_ HA.out id
 have d1 := cZ ha2 1 _ rfl
 have dl := lZ ha2
 clear hx2 ha2 a0 a1 a2 a3 a4 a5 a6 al b0 b1 b2 bl c0 c1 c2 cl
 go_upto_region 12 with fail
 go_wp2_with (refine wpList_store_blk rfl _ _ _ rfl rfl (cells := #[.int .i64 6, .int .i64 0, .int .u64 (fl : Int)]) rfl (g := w.heap.size + 3) HZ2.out Tryz.rspotT rfl (by simp [AllOne, Value.oneCell']) ?_)
 refine bodyPost_blk rfl rfl rfl (setRow_heap _ _ _ _ _ _ HZ2.out) Tryz.rspotT ?_
 exact ⟨rfl, HX2.out.step (T := At (w.heap.size + 3)) (Upd.row _ _ _) (fun k hk e => by have e : k = w.heap.size + 3 := e; omega)⟩
theorem rthen_6 {S : Nat -> Prop} (w : World) (c : Cfg) (xe : Int) (f : Nat) (hf : 0 < f) (r : Res) (va : Option Addr) (vn vc : Nat) (na ba : Option Addr) (nn nc bc : Nat) (hr : Bytes S w (.slice ba r.bytes.length bc) r.bytes) (hl : r.bytes.length <= 60000) :
  Calls Tryz.prog 22 #[.agg #[.int .u64 (c.chain : Int), .int .u64 (c.n : Int), .int .u64 (c.proc : Int), .int .u64 (c.inc : Int), .int .u64 (c.seq : Int), .int .u64 (c.k : Int), .slice va vn vc], .agg #[.int .i64 6, .int .i64 xe, .int .u64 (f : Int)], .agg #[.int .i64 r.err, .slice na nn nc, .slice ba r.bytes.length bc]] w fun r' w' => r' = .returned (.agg (spotC (baseP c f r))) /\ Ext w w' := by
 have HCON := zq (fun wq (hq : Ext w wq) => rbase_all wq c xe f hf r va vn vc na ba nn nc bc (hr.ext hq) hl)
 obtain ⟨y, hy⟩ : ∃ y, y = baseP c f r := ⟨_, rfl⟩
 rw [<- hy] at HCON ⊢
 obtain ⟨e, hee⟩ : ∃ e, e = r.err := ⟨_, rfl⟩
 rw [<- hee] at HCON ⊢
 obtain ⟨w1, HW1, HA, HZ, HX1, al, bl, cl, a0, a1, a2, a3, a4, a5, a6, b0, b1, b2, c0, c1, c2⟩ := rpre w c va vn vc 6 xe f e na nn nc ba (r.bytes.length) bc
 clear hr hl hf hy hee
 go_enter Tryz.func22, Tryz.ntmps22
 go_upto_region 1 with fail
 rw [<- HW1.out]
 go_wp2_with (go_at_call 30; fail)
 refine (HCON.out w1 HX1.out).mono ?_
 rintro r' w2 ⟨rfl, hx2⟩
 have HX2 := zq (HX1.out.trans hx2)
 have HZ2 := zq (hx2.at_ HZ.out id)
 clear hx2
 go_wp2_with (refine wpList_store_blk rfl _ _ _ rfl rfl (cells := #[.int .i64 (y.step : Int), .int .i64 y.err, .int .u64 (y.floor : Int)]) rfl (g := w.heap.size + 3) HZ2.out Tryz.rspotT rfl (by simp [AllOne, Value.oneCell']) ?_)
 refine bodyPost_blk rfl rfl rfl (setRow_heap _ _ _ _ _ _ HZ2.out) Tryz.rspotT ?_
 exact ⟨rfl, HX2.out.step (T := At (w.heap.size + 3)) (Upd.row _ _ _) (fun k hk e => by have e : k = w.heap.size + 3 := e; omega)⟩
end Go.Proofs.YtnkmpoplibnflaaGreatDoor.Wk
