/-
  CONTRACT of the reference's Walk. Conditions: sizes.
-/
import Derived.Test.YtnkmpoplibnflaaGreatDoorGBO
import Derived.Deep.CutRange
set_option maxRecDepth 100000
set_option maxHeartbeats 16000000
namespace Go.Proofs.YtnkmpoplibnflaaGreatDoor.Wk
open Go Go.Proofs.YtnkmpoplibnflaaGreatDoor Go.RowKit
theorem Tryz.routT : StructT Tryz.prog 38 8 := ⟨_, Tryz.underlying38, rfl, by kernel_rfl⟩
abbrev outZ : Array Value := #[.int .u8 0, .string ⟨#[]⟩, .string ⟨#[]⟩, .slice none 0 0, .bool false, .int .i64 0, .bool false, .int .i64 0]
def WalkPost (w : World) (c : Cfg) (va : Option Addr) (vc : Nat) (s : Spot × Bool) (e : Ending) (w' : World) : Prop := ∃ (v' : Value) (u : Nat),
 e = .returned (.agg #[.int .u8 (kP s.1 : Int), str (nmP c s.1), str (ttP c s.1), v', .bool (decide (s.1.step = 10)), .int .i64 (if s.1.step = 10 then s.1.err else 0), .bool s.2, .int .i64 (u : Int)]) ∧
 (v' = .slice va c.bytes.length vc /\ byP c s.1 = c.bytes \/ v' = .slice none 0 0 /\ byP c s.1 = []) /\ Ext w w'
theorem walkPost_done {w w' : World} {c : Cfg} {va : Option Addr} {vc : Nat} {x : Spot} {ln : Bool} {u : Nat} (hx : x.step = 10) (h : Ext w w') :
  WalkPost w c va vc (x, ln) (.returned (.agg #[.int .u8 0, .string ⟨#[]⟩, .string ⟨#[]⟩, .slice none 0 0, .bool true, .int .i64 x.err, .bool ln, .int .i64 (u : Int)])) w' := by
 obtain ⟨st, e, f⟩ := x
 simp only at hx; subst hx
 exact ⟨.slice none 0 0, u, rfl, .inr ⟨rfl, rfl⟩, h⟩
theorem walkPost_call {w w' : World} {c : Cfg} {va : Option Addr} {vc : Nat} {x : Spot} {ln : Bool} {u : Nat} {v' : Value} (hx : x.step < 10) (hv : v' = .slice va c.bytes.length vc /\ byP c x = c.bytes \/ v' = .slice none 0 0 /\ byP c x = []) (h : Ext w w') :
  WalkPost w c va vc (x, ln) (.returned (.agg #[.int .u8 (kP x : Int), str (nmP c x), str (ttP c x), v', .bool false, .int .i64 0, .bool ln, .int .i64 (u : Int)])) w' := by
 refine ⟨v', u, ?_, hv, h⟩
 have hne : ¬ x.step = 10 := by omega
 show _ = Ending.returned (.agg #[_, _, _, _, .bool (decide (x.step = 10)), .int .i64 (if x.step = 10 then x.err else 0), _, _])
 rw [decide_eq_false hne, if_neg hne]
def usedOf (w : World) (b : Nat) : Nat := match w.cell? ⟨b, 7, none⟩ with | some v => (intOf v).toNat | none => 0
theorem usedOf_at {w : World} {b t : Nat} (h : w.cell? ⟨b, 7, none⟩ = some (.int .i64 (t : Int))) : usedOf w b = t := by unfold usedOf; rw [h]; simp [intOf]
theorem walk_any {S : Nat -> Prop} (w : World) (c : Cfg) (hc : c.Ok) (va : Option Addr) (vc : Nat) (v : Value) (L : List Res) (hL : ResIs S w v L) (hok : ∀ r ∈ L, r.Ok) (hl : L.length <= 1000) :
  Calls Tryz.prog 8 #[.agg (cfgC c (.slice va c.bytes.length vc)), v] w (WalkPost w c va vc (runP c L)) := by
 obtain ⟨xs, rfl, hrow, hrows⟩ := hL
 have HROW := zq hrow
 have HROWS := zq hrows
 have HOKR := zq hok
 have HC := zq hc
 obtain ⟨sa, sc, rfl, -⟩ := hrow
 rw [List.length_map] at hl
 obtain ⟨w1, hw1⟩ : ∃ u, u = ((((w.alloc (.cells #[.int .u64 (c.chain : Int), .int .u64 (c.n : Int), .int .u64 (c.proc : Int), .int .u64 (c.inc : Int), .int .u64 (c.seq : Int), .int .u64 (c.k : Int), .slice va c.bytes.length vc] 29)).alloc (.cells outZ 38)).alloc (.cells #[.int .i64 1, .int .i64 0, .int .u64 0] 58)).alloc (.cells outZ 38)) := ⟨_, rfl⟩
 have h4 := allocs4 w (.cells #[.int .u64 (c.chain : Int), .int .u64 (c.n : Int), .int .u64 (c.proc : Int), .int .u64 (c.inc : Int), .int .u64 (c.seq : Int), .int .u64 (c.k : Int), .slice va c.bytes.length vc] 29) (.cells outZ 38) (.cells #[.int .i64 1, .int .i64 0, .int .u64 0] 58) (.cells outZ 38)
 rw [<- hw1] at h4
 obtain ⟨h2, h4, h5, h6, hx1⟩ := h4
 obtain ⟨g2, hg2⟩ : ∃ g, g = w.heap.size := ⟨_, rfl⟩
 rw [<- hg2] at h2 h4 h5 h6
 have HGG := zq hg2
 have HW1 := zq hw1
 have H2 := zq h2
 have H4 := zq h4
 have H5 := zq h5
 have H6 := zq h6
 have HX1 := zq hx1
 have a1 := cZ h2 1 _ rfl
 have al := lZ h2
 clear hw1 h2 h4 h5 h6 hx1 hg2 hrows hok hc
 go_enter Tryz.func8, Tryz.ntmps8
 go_upto_region 3 with fail
 rw [show ((((w.alloc (.cells #[.int .u64 (c.chain : Int), .int .u64 (c.n : Int), .int .u64 (c.proc : Int), .int .u64 (c.inc : Int), .int .u64 (c.seq : Int), .int .u64 (c.k : Int), .slice va c.bytes.length vc] 29)).alloc (.cells #[.int .u8 0, .string ⟨#[]⟩, .string ⟨#[]⟩, .slice none 0 0, .bool false, .int .i64 0, .bool false, .int .i64 0] 38)).alloc (.cells #[.int .i64 1, .int .i64 0, .int .u64 0] 58)).alloc (.cells #[.int .u8 0, .string ⟨#[]⟩, .string ⟨#[]⟩, .slice none 0 0, .bool false, .int .i64 0, .bool false, .int .i64 0] 38)) = w1 from HW1.out.symm, show w.heap.size = g2 from HGG.out.symm]
 by_cases hn0 : c.n = 0
 ·have hb : ((c.n : Int) == 0) = true := by simp [hn0]
  have HRUN := zq (show runP c (xs.map (·.1)) = (⟨10, 2, 0⟩, false) by
   unfold runP
   rw [show startP c = ⟨10, 2, 0⟩ from if_pos hn0]
   exact foldl_done _ _ _ (by simp))
  clear hn0
  go_upto_region 4 with fail
  go_wp2_with (refine wpList_store_blk rfl _ _ _ rfl rfl (cells := #[.int .u8 0, .string ⟨#[]⟩, .string ⟨#[]⟩, .slice none 0 0, .bool true, .int .i64 2, .bool false, .int .i64 0]) rfl (g := g2 + 1) H4.out Tryz.routT rfl (by simp [AllOne, Value.oneCell']) ?_)
  refine bodyPost_blk rfl rfl rfl (setRow_heap _ _ _ _ _ _ H4.out) Tryz.routT ?_
  rw [HRUN.out]
  exact walkPost_done (x := ⟨10, 2, 0⟩) (u := 0) rfl (HX1.out.step (T := At (g2 + 1)) (Upd.row _ _ _) (fun k hk e => by have e : k = g2 + 1 := e; have := HGG.out; omega))
 have hb : ((c.n : Int) == 0) = false := by simp; omega
 have HN := zq (Nat.pos_of_ne_zero hn0)
 have HST := zq (show runP c [] = (⟨1, 0, 0⟩, false) by
  show (startP c, false) = _
  rw [show startP c = ⟨1, 0, 0⟩ from if_neg hn0])
 clear hn0
 go_wp2
 clear a1 al hb
 go_loopw [] (fun wq => ∃ m : Nat, m <= xs.length /\ wq.heap[g2]? = some (.cells #[.int .u64 (c.chain : Int), .int .u64 (c.n : Int), .int .u64 (c.proc : Int), .int .u64 (c.inc : Int), .int .u64 (c.seq : Int), .int .u64 (c.k : Int), .slice va c.bytes.length vc] 29 (0, 0)) ∧
   wq.heap[g2 + 1]? = some (.cells outZ 38 (0, 0)) /\ wq.heap[g2 + 2]? = some (.cells (spotC (runP c ((xs.map (·.1)).take m)).1) 58 (0, 0)) ∧
   wq.heap[g2 + 3]? = some (.cells #[.int .u8 0, .string ⟨#[]⟩, .string ⟨#[]⟩, .slice none 0 0, .bool false, .int .i64 0, .bool (runP c ((xs.map (·.1)).take m)).2, .int .i64 (m : Int)] 38 (0, 0)) /\ Ext w wq) (fun wq => xs.length + 1 - usedOf wq (g2 + 3))
 case atStart => exact ⟨0, Nat.zero_le _, H2.out, H4.out, by rw [List.take_zero, HST.out]; exact H5.out, by rw [List.take_zero, HST.out]; exact H6.out, HX1.out⟩
 case round =>
  obtain ⟨m, hm, h2, h4, h5, h6, hx⟩ := hrel
  have hxok := runP_ok c ((xs.map (·.1)).take m)
  obtain ⟨x, hxx⟩ : ∃ x, x = (runP c ((xs.map (·.1)).take m)).1 := ⟨_, rfl⟩
  obtain ⟨ln, hln⟩ : ∃ x, x = (runP c ((xs.map (·.1)).take m)).2 := ⟨_, rfl⟩
  rw [<- hxx] at h5 hxok
  rw [<- hln] at h6
  have HRX := zq (show runP c ((xs.map (·.1)).take m) = (x, ln) by rw [hxx, hln])
  have HXOK := zq hxok
  have HU := zq (usedOf_at (cZ h6 7 _ rfl))
  have HH2 := zq h2
  have HH4 := zq h4
  have HH5 := zq h5
  have HH6 := zq h6
  have HXW := zq hx
  obtain ⟨xst, hxst⟩ : ∃ n : Nat, n = x.step := ⟨_, rfl⟩
  obtain ⟨xer, hxer⟩ : ∃ n : Int, n = x.err := ⟨_, rfl⟩
  obtain ⟨xfl, hxfl⟩ : ∃ n : Nat, n = x.floor := ⟨_, rfl⟩
  have HXS := zq hxst
  have HXE := zq hxer
  have HXF := zq hxfl
  have b0 : wr.cell? ⟨g2 + 2, 0, none⟩ = some (.int .i64 (xst : Int)) := by rw [hxst]; exact cZ h5 0 _ rfl
  have b1 : wr.cell? ⟨g2 + 2, 1, none⟩ = some (.int .i64 xer) := by rw [hxer]; exact cZ h5 1 _ rfl
  have b2 : wr.cell? ⟨g2 + 2, 2, none⟩ = some (.int .u64 (xfl : Int)) := by rw [hxfl]; exact cZ h5 2 _ rfl
  have bl := lZ h5
  have o7 := cZ h6 7 (.int .i64 (m : Int)) rfl
  have ol := lZ h6
  clear hxok hxx hln h2 h4 h5 h6 hx hxst hxer hxfl
  by_cases h10 : xst < 10
  ·have hi : ((xst : Int) < 10) := by omega
   by_cases hend : m = xs.length
   ·have he : ((m : Int) == (xs.length : Int)) = true := by simp [hend]
    have hRun : runP c (xs.map (·.1)) = (x, ln) := by rw [<- HRX.out, hend, List.take_of_length_le (by simp)]
    have HRUN := zq hRun
    have H10 := zq h10
    clear h10 hend hRun
    have c0 := cZ HH2.out 0 _ rfl
    have c1 := cZ HH2.out 1 _ rfl
    have c2 := cZ HH2.out 2 _ rfl
    have c3 := cZ HH2.out 3 _ rfl
    have c4 := cZ HH2.out 4 _ rfl
    have c5 := cZ HH2.out 5 _ rfl
    have c6 := cZ HH2.out 6 _ rfl
    have cl := lZ HH2.out
    go_wp2_with (go_at_call 21; fail)
    have hcall := rcall_all wr c HC.out x HXOK.out (by rw [<- HXS.out]; exact H10.out) va vc
    rw [show spotC x = #[.int .i64 (xst : Int), .int .i64 xer, .int .u64 (xfl : Int)] by rw [HXS.out, HXE.out, HXF.out]] at hcall
    refine hcall.mono ?_
    rintro r w2 ⟨⟨v', rfl, hv'⟩, hx2⟩
    have HV := zq hv'
    obtain ⟨kk, hkk⟩ : ∃ n : Nat, n = kP x := ⟨_, rfl⟩
    obtain ⟨nn, hnn⟩ : ∃ n, n = nmP c x := ⟨_, rfl⟩
    obtain ⟨tt, htt⟩ : ∃ n, n = ttP c x := ⟨_, rfl⟩
    have hvs : ∃ q1 q2 q3, v' = .slice q1 q2 q3 := by rcases hv' with ⟨h, -⟩ | ⟨h, -⟩ <;> exact ⟨_, _, _, h⟩
    obtain ⟨q1, q2, q3, rfl⟩ := hvs
    rw [<- hkk, <- hnn, <- htt]
    have HKK := zq hkk
    have HNN := zq hnn
    have HTT := zq htt
    have H62 := zq (hx2.at_ HH6.out id)
    have H42 := zq (hx2.at_ HH4.out id)
    have HX2 := zq (HXW.out.trans hx2)
    clear hv' hkk hnn htt hx2 c0 c1 c2 c3 c4 c5 c6 cl b0 b1 b2 bl o7 ol
    go_upto_region 8 with (refine wpList_store_in rfl _ _ _ rfl rfl (g := g2 + 3) (i := 0) (cells := #[.int .u8 (kk : Int), str nn, str tt, .slice q1 q2 q3]) rfl H62.out Tryz.rcallT (by simp) (by simp [AllOne, Value.oneCell']) ?_; rintro w3 hu3 hg3)
    have hg3' : w3.heap[g2 + 3]? = some (.cells #[.int .u8 (kk : Int), str nn, str tt, .slice q1 q2 q3, .bool false, .int .i64 0, .bool ln, .int .i64 (m : Int)] 38 (0, 0)) := hg3
    have HX3 := zq (HX2.out.step hu3 (fun i hi e => by have e : i = g2 + 3 := e; have := HGG.out; omega))
    have H43 := zq (hu3.at_ H42.out (fun e => by have e : g2 + 1 = g2 + 3 := e; omega))
    clear hg3 hu3
    have z0 := cZ hg3' 0 _ rfl
    have z1 := cZ hg3' 1 _ rfl
    have z2 := cZ hg3' 2 _ rfl
    have z3 := cZ hg3' 3 _ rfl
    have z4 := cZ hg3' 4 _ rfl
    have z5 := cZ hg3' 5 _ rfl
    have z6 := cZ hg3' 6 _ rfl
    have z7 := cZ hg3' 7 _ rfl
    have zl := lZ hg3'
    clear hg3'
    go_wp2_with (refine wpList_store_blk rfl _ _ _ rfl rfl (cells := #[.int .u8 (kk : Int), str nn, str tt, .slice q1 q2 q3, .bool false, .int .i64 0, .bool ln, .int .i64 (m : Int)]) rfl (g := g2 + 1) H43.out Tryz.routT rfl (by simp [AllOne, Value.oneCell']) ?_)
    refine bodyPost_blk rfl rfl rfl (setRow_heap _ _ _ _ _ _ H43.out) Tryz.routT ?_
    rw [HRUN.out, HKK.out, HNN.out, HTT.out]
    exact walkPost_call (by rw [<- HXS.out]; exact H10.out) HV.out (HX3.out.step (T := At (g2 + 1)) (Upd.row _ _ _) (fun k hk e => by have e : k = g2 + 1 := e; have := HGG.out; omega))
   ·have he : ((m : Int) == (xs.length : Int)) = false := by simp; omega
    have hlt : m < xs.length := by omega
    have H10 := zq h10
    obtain ⟨bb, oo, cq, e1, -, -, -, hq1⟩ := (HROW.out.ext HXW.out).addr (by omega)
    cases e1
    obtain ⟨hnm, hby⟩ := HROWS.out xs[m] (List.getElem_mem hlt)
    have hrok := HOKR.out xs[m].1 (List.mem_map_of_mem (List.getElem_mem hlt))
    have hd0 := hq1 _ _ (flatR_at hlt (j := 0) (by decide))
    have hd1 := hq1 _ _ (flatR_at hlt (j := 1) (by decide))
    have hd2 := hq1 _ _ (flatR_at hlt (j := 2) (by decide))
    have hsn : runP c ((xs.map (·.1)).take (m + 1)) = goP c (x, ln) xs[m].1 := by
     rw [List.take_succ_eq_append_getElem (by simpa using hlt), run_snoc, HRX.out]
     exact congrArg (goP c (x, ln)) (List.getElem_map _)
    obtain ⟨⟨r, nv, bv⟩, hxm⟩ : ∃ y, y = xs[m] := ⟨_, rfl⟩
    rw [<- hxm] at hnm hby hrok hd0 hd1 hd2 hsn
    simp only at hnm hby hrok hsn
    have HNM := zq hnm
    have HBY := zq hby
    have HROK := zq hrok
    have hgo : goP c (x, ln) r = (thenP c x r, ln || (decide (xst = 4) && decide (r.err = 0))) := by
     unfold goP; rw [HXS.out]; exact if_pos (by rw [<- HXS.out]; exact H10.out)
    have HSN := zq (hsn.trans hgo)
    obtain ⟨na, nc, rfl, -⟩ := hnm
    obtain ⟨ba, bc, rfl, -⟩ := hby
    obtain ⟨er, her⟩ : ∃ n : Int, n = r.err := ⟨_, rfl⟩
    obtain ⟨nl, hnl⟩ : ∃ n : Nat, n = r.names.length := ⟨_, rfl⟩
    obtain ⟨bn, hbn⟩ : ∃ n : Nat, n = r.bytes.length := ⟨_, rfl⟩
    have d0 : wr.cell? ⟨bb, oo + m * 3, none⟩ = some (.int .i64 er) := by rw [her]; exact hd0
    have d1 : wr.cell? ⟨bb, oo + m * 3 + 1, none⟩ = some (.slice na nl nc) := by rw [hnl]; exact hd1
    have d2 : wr.cell? ⟨bb, oo + m * 3 + 2, none⟩ = some (.slice ba bn bc) := by rw [hbn]; exact hd2
    have HER := zq her
    have HNL := zq hnl
    have HBN := zq hbn
    clear hd0 hd1 hd2 hq1 hxm hsn hgo hrok her hnl hbn h10
    go_upto_region 10 with fail
    obtain ⟨w2, hw2⟩ : ∃ u, u = wr.alloc (.cells #[.int .i64 er, .slice na nl nc, .slice ba bn bc] 50) := ⟨_, rfl⟩
    obtain ⟨g7, hg7⟩ : ∃ g, g = wr.heap.size := ⟨_, rfl⟩
    rw [<- hw2, <- hg7]
    have hx2 : Ext wr w2 := by rw [hw2]; exact uZ.alloc _
    have h7 : w2.heap[g7]? = some (.cells #[.int .i64 er, .slice na nl nc, .slice ba bn bc] 50 (0, 0)) := by rw [hw2, hg7]; exact newAt _ _
    have HG7 := zq (show g2 + 3 < g7 by rw [hg7]; exact ol)
    have h6 := hx2.at_ HH6.out id
    have H72 := zq h7
    have H62 := zq h6
    have H52 := zq (hx2.at_ HH5.out id)
    have H42 := zq (hx2.at_ HH4.out id)
    have H22 := zq (hx2.at_ HH2.out id)
    have HX2 := zq (HXW.out.trans hx2)
    clear hw2 hg7 hx2 d0 d1 d2 o7 ol b0 b1 b2 bl h7
    have o7 := cZ h6 7 (.int .i64 (m : Int)) rfl
    have f7 := freeAt h6 7
    have ol := lZ h6
    clear h6
    go_upto_region 11 with fail
    obtain ⟨w3, hw3⟩ : ∃ u, u = w2.setCell ⟨g2 + 3, 7, none⟩ (.int .i64 ((m + 1 : Nat) : Int)) := ⟨_, rfl⟩
    rw [show w2.setCell ⟨g2 + 1 + 1 + 1, 7, none⟩ (.int .i64 ((m : Int) + 1)) = w3 by rw [hw3]; rfl]
    have hu3 : Upd (At (g2 + 3)) w2 w3 := by rw [hw3]; exact Upd.own _ _ _ _
    have h6 : w3.heap[g2 + 3]? = some (.cells #[.int .u8 0, .string ⟨#[]⟩, .string ⟨#[]⟩, .slice none 0 0, .bool false, .int .i64 0, .bool ln, .int .i64 ((m + 1 : Nat) : Int)] 38 (0, 0)) := by rw [hw3]; exact setAt H62.out
    have h5 := hu3.at_ H52.out (fun e => by have e : g2 + 2 = g2 + 3 := e; omega)
    have h7 := hu3.at_ H72.out (fun e => by have e : g7 = g2 + 3 := e; have := HG7.out; omega)
    have H63 := zq h6
    have H53 := zq h5
    have H73 := zq h7
    have H43 := zq (hu3.at_ H42.out (fun e => by have e : g2 + 1 = g2 + 3 := e; omega))
    have H23 := zq (hu3.at_ H22.out (fun e => by have e : g2 = g2 + 3 := e; omega))
    have HX3 := zq (HX2.out.step hu3 (fun i hi e => by have e : i = g2 + 3 := e; have := HGG.out; omega))
    clear hw3 hu3 o7 f7 ol
    have b0 : w3.cell? ⟨g2 + 2, 0, none⟩ = some (.int .i64 (xst : Int)) := by rw [HXS.out]; exact cZ h5 0 _ rfl
    have b1 : w3.cell? ⟨g2 + 2, 1, none⟩ = some (.int .i64 xer) := by rw [HXE.out]; exact cZ h5 1 _ rfl
    have b2 : w3.cell? ⟨g2 + 2, 2, none⟩ = some (.int .u64 (xfl : Int)) := by rw [HXF.out]; exact cZ h5 2 _ rfl
    have bl := lZ h5
    have o6 := cZ h6 6 (.bool ln) rfl
    have f6 := freeAt h6 6
    have ol := lZ h6
    have r0 := cZ h7 0 _ rfl
    have rl := lZ h7
    clear h5 h6 h7
    go_cut [] from 36 to 48 (fun wc => Hid (Upd (At (g2 + 3)) w3 wc /\ wc.heap[g2 + 3]? = some (.cells #[.int .u8 0, .string ⟨#[]⟩, .string ⟨#[]⟩, .slice none 0 0, .bool false, .int .i64 0, .bool (ln || (decide (xst = 4) && decide (r.err = 0))), .int .i64 ((m + 1 : Nat) : Int)] 38 (0, 0))))
    case first =>
     cases hlc : ln with
     | true =>
      rw [hlc] at o6 H63
      have HLC := zq hlc
      clear hlc
      go_wp2_with fail
      go_meet
      case rel => exact zq ⟨Upd.own _ _ _ _, by rw [HLC.out]; exact setAt H63.out⟩
     | false =>
      rw [hlc] at o6 H63
      have HLC := zq hlc
      clear hlc
      by_cases h4 : xst = 4
      ·have hb4 : ((xst : Int) == 4) = true := by simp [h4]
       have hd4 : decide (xst = 4) = true := decide_eq_true h4
       by_cases h0 : er = 0
       ·have hb0 : (er == 0) = true := by simpa using h0
        have hd0 : decide (r.err = 0) = true := decide_eq_true (by rw [<- HER.out]; exact h0)
        have HDD := zq (And.intro hd4 hd0)
        clear h4 h0 hd4 hd0
        go_wp2_with fail
        go_meet
        case rel => exact zq ⟨Upd.own _ _ _ _, by rw [HLC.out, HDD.out.1, HDD.out.2]; exact setAt H63.out⟩
       ·have hb0 : (er == 0) = false := by simpa using h0
        have hd0 : decide (r.err = 0) = false := decide_eq_false (by rw [<- HER.out]; exact h0)
        have HDD := zq (And.intro hd4 hd0)
        clear h4 h0 hd4 hd0
        go_wp2_with fail
        go_meet
        case rel => exact zq ⟨Upd.own _ _ _ _, by rw [HLC.out, HDD.out.1, HDD.out.2]; exact setAt H63.out⟩
      ·have hb4 : ((xst : Int) == 4) = false := by simp; omega
       have hd4 : decide (xst = 4) = false := decide_eq_false h4
       have HDD := zq hd4
       clear h4 hd4
       go_wp2_with fail
       go_meet
       case rel => exact zq ⟨Upd.own _ _ _ _, by rw [HLC.out, HDD.out]; exact setAt H63.out⟩
    case rest =>
    have hu4 := hcut.out.1
    have h2 := hu4.at_ H23.out (fun e => by have e : g2 = g2 + 3 := e; omega)
    have h5 := hu4.at_ H53.out (fun e => by have e : g2 + 2 = g2 + 3 := e; omega)
    have h7 := hu4.at_ H73.out (fun e => by have e : g7 = g2 + 3 := e; have := HG7.out; omega)
    have H64 := zq hcut.out.2
    have H54 := zq h5
    have H24 := zq h2
    have H44 := zq (hu4.at_ H43.out (fun e => by have e : g2 + 1 = g2 + 3 := e; omega))
    have HX4 := zq (HX3.out.step hu4 (fun i hi e => by have e : i = g2 + 3 := e; have := HGG.out; omega))
    clear b0 b1 b2 bl o6 f6 ol r0 rl hu4
    have b0 : wc.cell? ⟨g2 + 2, 0, none⟩ = some (.int .i64 (xst : Int)) := by rw [HXS.out]; exact cZ h5 0 _ rfl
    have b1 : wc.cell? ⟨g2 + 2, 1, none⟩ = some (.int .i64 xer) := by rw [HXE.out]; exact cZ h5 1 _ rfl
    have b2 : wc.cell? ⟨g2 + 2, 2, none⟩ = some (.int .u64 (xfl : Int)) := by rw [HXF.out]; exact cZ h5 2 _ rfl
    have bl := lZ h5
    have c0 := cZ h2 0 _ rfl
    have c1 := cZ h2 1 _ rfl
    have c2 := cZ h2 2 _ rfl
    have c3 := cZ h2 3 _ rfl
    have c4 := cZ h2 4 _ rfl
    have c5 := cZ h2 5 _ rfl
    have c6 := cZ h2 6 _ rfl
    have cl := lZ h2
    have r0 := cZ h7 0 _ rfl
    have r1 := cZ h7 1 _ rfl
    have r2 := cZ h7 2 _ rfl
    have rl := lZ h7
    clear h2 h5 h7
    go_wp2_with (go_at_call 22; fail)
    have hthen := rthen_all wc c x r HXOK.out (by rw [<- HXS.out]; exact H10.out) HN.out HROK.out va c.bytes.length vc _ _ (HNM.out.ext HX4.out) (HBY.out.ext HX4.out)
    rw [show spotC x = #[.int .i64 (xst : Int), .int .i64 xer, .int .u64 (xfl : Int)] by rw [HXS.out, HXE.out, HXF.out], <- HER.out, <- HNL.out, <- HBN.out] at hthen
    refine hthen.mono ?_
    rintro r' w5 ⟨rfl, hx5⟩
    obtain ⟨y, hy⟩ : ∃ y, y = thenP c x r := ⟨_, rfl⟩
    rw [<- hy]
    have HY := zq hy
    have HX5 := zq (HX4.out.trans hx5)
    have H65 := zq (hx5.at_ H64.out id)
    have H55 := zq (hx5.at_ H54.out id)
    have H45 := zq (hx5.at_ H44.out id)
    have H25 := zq (hx5.at_ H24.out id)
    clear hthen hx5 hy b0 b1 b2 bl c0 c1 c2 c3 c4 c5 c6 cl r0 r1 r2 rl
    go_wp2_with (refine wpList_store_blk rfl _ _ _ rfl rfl (cells := #[.int .i64 (y.step : Int), .int .i64 y.err, .int .u64 (y.floor : Int)]) rfl (g := g2 + 2) H55.out Tryz.rspotT rfl (by simp [AllOne, Value.oneCell']) ?_)
    have hur : Upd (At (g2 + 2)) w5 (w5.setRow (g2 + 2) #[.int .i64 (y.step : Int), .int .i64 y.err, .int .u64 (y.floor : Int)]) := Upd.row _ _ _
    have h6 := hur.at_ H65.out (fun e => by have e : g2 + 3 = g2 + 2 := e; omega)
    go_roundw
    case rel =>
     have p1 := hur.at_ H25.out (fun e => by have e : g2 = g2 + 2 := e; omega)
     have p2 := hur.at_ H45.out (fun e => by have e : g2 + 1 = g2 + 2 := e; omega)
     have p3 : (w5.setRow (g2 + 2) #[.int .i64 (y.step : Int), .int .i64 y.err, .int .u64 (y.floor : Int)]).heap[g2 + 2]? = some (.cells (spotC (runP c ((xs.map (·.1)).take (m + 1))).1) 58 (0, 0)) := by rw [HSN.out, <- HY.out]; exact setRow_heap _ _ _ _ _ _ H55.out
     have p4 : (w5.setRow (g2 + 2) #[.int .i64 (y.step : Int), .int .i64 y.err, .int .u64 (y.floor : Int)]).heap[g2 + 3]? = some (.cells #[.int .u8 0, .string ⟨#[]⟩, .string ⟨#[]⟩, .slice none 0 0, .bool false, .int .i64 0, .bool (runP c ((xs.map (·.1)).take (m + 1))).2, .int .i64 ((m + 1 : Nat) : Int)] 38 (0, 0)) := by rw [HSN.out]; exact h6
     have p5 := HX5.out.step hur (fun k hk e => by have e : k = g2 + 2 := e; have := HGG.out; omega)
     first
      | exact ⟨m + 1, by omega, p1, p2, p3, p4, p5⟩
      | ((repeat apply Exists.intro); exact ⟨⟨m + 1, by omega, p1, p2, p3, p4, p5⟩, rfl⟩)
    case measure => rw [HU.out, usedOf_at (cZ h6 7 _ rfl)]; omega
  ·have hi : ¬ ((xst : Int) < 10) := by omega
   have hx10 : x.step = 10 := by have := HXOK.out.hi; have := HXS.out; omega
   have hRun : runP c (xs.map (·.1)) = (x, ln) := by
    rw [run_done (m := m) (by rw [HRX.out]; show ¬ x.step < 10; omega), HRX.out]
   have HRUN := zq hRun
   have HX10 := zq hx10
   have o4 := cZ HH6.out 4 (.bool false) rfl
   have f4 := freeAt HH6.out 4
   have f5 := freeAt HH6.out 5
   clear hRun hx10 h10
   go_upto_region 14 with fail
   obtain ⟨w2, hw2⟩ : ∃ u, u = wr.setCell ⟨g2 + 3, 4, none⟩ (.bool true) := ⟨_, rfl⟩
   rw [show wr.setCell ⟨g2 + 1 + 1 + 1, 4, none⟩ (.bool true) = w2 by rw [hw2]]
   have hu2 : Upd (At (g2 + 3)) wr w2 := by rw [hw2]; exact Upd.own _ _ _ _
   have h6 : w2.heap[g2 + 3]? = some (.cells #[.int .u8 0, .string ⟨#[]⟩, .string ⟨#[]⟩, .slice none 0 0, .bool true, .int .i64 0, .bool ln, .int .i64 (m : Int)] 38 (0, 0)) := by rw [hw2]; exact setAt HH6.out
   have h5 := hu2.at_ HH5.out (fun e => by have e : g2 + 2 = g2 + 3 := e; omega)
   have H62 := zq h6
   have H42 := zq (hu2.at_ HH4.out (fun e => by have e : g2 + 1 = g2 + 3 := e; omega))
   have HX2 := zq (HXW.out.step hu2 (fun i hi e => by have e : i = g2 + 3 := e; have := HGG.out; omega))
   clear hw2 hu2 o4 f4 f5 o7 ol b0 b1 b2 bl
   have b1 : w2.cell? ⟨g2 + 2, 1, none⟩ = some (.int .i64 xer) := by rw [HXE.out]; exact cZ h5 1 _ rfl
   have bl := lZ h5
   have o5 := cZ h6 5 (.int .i64 0) rfl
   have f5 := freeAt h6 5
   have ol := lZ h6
   clear h5 h6
   go_upto_region 15 with fail
   obtain ⟨w3, hw3⟩ : ∃ u, u = w2.setCell ⟨g2 + 3, 5, none⟩ (.int .i64 xer) := ⟨_, rfl⟩
   rw [show w2.setCell ⟨g2 + 1 + 1 + 1, 5, none⟩ (.int .i64 xer) = w3 by rw [hw3]]
   have hu3 : Upd (At (g2 + 3)) w2 w3 := by rw [hw3]; exact Upd.own _ _ _ _
   have h6 : w3.heap[g2 + 3]? = some (.cells #[.int .u8 0, .string ⟨#[]⟩, .string ⟨#[]⟩, .slice none 0 0, .bool true, .int .i64 xer, .bool ln, .int .i64 (m : Int)] 38 (0, 0)) := by rw [hw3]; exact setAt H62.out
   have H43 := zq (hu3.at_ H42.out (fun e => by have e : g2 + 1 = g2 + 3 := e; omega))
   have HX3 := zq (HX2.out.step hu3 (fun i hi e => by have e : i = g2 + 3 := e; have := HGG.out; omega))
   clear hw3 hu3 b1 bl o5 f5 ol
   have z0 := cZ h6 0 _ rfl
   have z1 := cZ h6 1 _ rfl
   have z2 := cZ h6 2 _ rfl
   have z3 := cZ h6 3 _ rfl
   have z4 := cZ h6 4 _ rfl
   have z5 := cZ h6 5 _ rfl
   have z6 := cZ h6 6 _ rfl
   have z7 := cZ h6 7 _ rfl
   have zl := lZ h6
   clear h6
   go_wp2_with (refine wpList_store_blk rfl _ _ _ rfl rfl (cells := #[.int .u8 0, .string ⟨#[]⟩, .string ⟨#[]⟩, .slice none 0 0, .bool true, .int .i64 xer, .bool ln, .int .i64 (m : Int)]) rfl (g := g2 + 1) H43.out Tryz.routT rfl (by simp [AllOne, Value.oneCell']) ?_)
   refine bodyPost_blk rfl rfl rfl (setRow_heap _ _ _ _ _ _ H43.out) Tryz.routT ?_
   rw [HRUN.out, HXE.out]
   exact walkPost_done HX10.out (HX3.out.step (T := At (g2 + 1)) (Upd.row _ _ _) (fun k hk e => by have e : k = g2 + 1 := e; have := HGG.out; omega))
end Go.Proofs.YtnkmpoplibnflaaGreatDoor.Wk
