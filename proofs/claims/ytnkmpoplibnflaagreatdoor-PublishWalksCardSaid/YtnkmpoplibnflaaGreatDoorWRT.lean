/-
  The reference's Take of frames.
-/
import Derived.Test.YtnkmpoplibnflaaGreatDoorGAL
set_option maxRecDepth 100000
set_option maxHeartbeats 16000000
namespace Go.Proofs.YtnkmpoplibnflaaGreatDoor.Wk
open Go Go.Proofs.YtnkmpoplibnflaaGreatDoor Go.RowKit
theorem wp_append_row {P : Program} {w : World} {o : Oper} {a : Act} {K : Act -> World -> Prop} {Q : Exit -> Act -> World -> Prop} (s x : Operand) (t : TypeId) (ho : o.op = .call { callee := .builtin .append, args := #[s, x], argTypes := #[t, t] })
  {base e size bytes : Nat} (T : SliceT P t e size bytes) {v : Value} {n : Nat} {xs : List Value} (hs : a.eval s = v) (hown : w.ownsRow base e size v n xs)
  {S : Nat -> Prop} {src : Value} {m : Nat} {news : List Value} (hx : a.eval x = src) (hsrc : Row S w src m news) (hl : news.length = m * size) (h1 : OneCells news)
  (h63 : n + m <= maxLen) (hbytes : (n + m) * bytes <= 140737488355328) (hbase : base <= w.heap.size)
  (h : ∀ v' w', w'.ownsRow base e size v' (n + m) (xs ++ news) -> w.grownBy w' v.ownBlock -> (v' = .slice none 0 0 ↔ v = .slice none 0 0 /\ m = 0) -> K (a.put o.dst v') w') : o.wp P a w K Q := by
 obtain ⟨hu, ⟨i, z, hi, hz, h2, h3, h4⟩, hp⟩ := T
 obtain ⟨ad, c, rfl, g1, g2, g3, g4, g5⟩ := hsrc
 cases ad with
 | some ad =>
  exact wp_append_own w s x t ho base e i z size bytes hu hi hz h2 h3 h4 hp v n xs hs hown ad m c news hx hl
   (fun j u hj => by
    obtain ⟨b, of, sp⟩ := ad
    have hsp := (g4 _ rfl (.inr (fun h => by rw [h] at hj; cases hj))).1
    simp only at hsp; subst hsp
    have := g5 b of rfl j u hj
    rw [show (⟨b, of, none⟩ : Addr).add j = ⟨b, of + j, none⟩ from by unfold Addr.add; split <;> simp_all]; exact this) h1 h63 hbytes hbase h
 | none =>
  have hc := g3 rfl
  subst hc
  have hm : m = 0 := by omega
  subst hm
  have hn : news = [] := List.eq_nil_of_length_eq_zero (by simpa using hl)
  subst hn
  have hrun := run_append_owned_none (P := P) (w := w) base t o.type e i size hu hi v n xs hown
  unfold Oper.wp
  simp [execOp, ho, resolve, invoke, builtin, hs, hx, hrun, Result.andThen]
  exact h v w (by simpa using hown) ⟨rfl, rfl, rfl, Nat.le_refl _, fun _ _ _ => rfl⟩ (by simp)
theorem head_take {kd : UInt8} {r : List UInt8} (h : (numF r).1 = 0) (hlen : (numF r).2.2 + (numF r).2.1 <= r.length) : (kd :: r).take (1 + (numF r).2.2 + (numF r).2.1) = frHead kd ((r.drop (numF r).2.2).take (numF r).2.1) := by
 obtain ⟨-, n2, n3, n4⟩ := numF_ok h
 generalize (numF r).2.1 = N at hlen n2 n3
 generalize (numF r).2.2 = q at hlen n2 n3 n4
 have hbl : ((r.drop q).take N).length = N := by simp; omega
 rw [show 1 + q + N = (q + N) + 1 by omega, List.take_succ_cons, frHead, hbl]
 congr 1
 conv => lhs; rw [n3]
 rw [n2, List.take_append, List.take_of_length_le (by omega)]
 congr 2; omega
theorem frk_one (k : UInt8) : AllOne #[u8 k, .slice none 0 0] := by simp [AllOne, Value.oneCell']
theorem frs_one (k : UInt8) (a : Option Addr) (n c : Nat) : AllOne #[u8 k, .slice a n c] := by simp [AllOne, Value.oneCell']
def StR (B g : Nat) (kd : UInt8) (bd : List UInt8) (_ : Value) (w : World) : Prop := ∃ a n c, w.heap[g]? = some (.cells #[u8 kd, .slice a n c] 131 (0, 0)) /\ Bytes (From B) w (.slice a n c) bd
theorem StR.ext {B g : Nat} {kd : UInt8} {bd : List UInt8} {v : Value} {w w' : World} (h : StR B g kd bd v w) (hu : Ext w w') : StR B g kd bd v w' := by obtain ⟨a, n, c, h1, h2⟩ := h; exact ⟨a, n, c, hu.at_ h1 id, h2.ext hu⟩
def frtVal (b1 o1 L c en q N B gq : Nat) (kd : UInt8) (bd : List UInt8) : Nat -> Value
 | 0 => .pointer (some ⟨gq, 1, none⟩)
 | 1 => .slice none 0 0
 | 2 => .slice (some ⟨b1, o1, none⟩) L c
 | 3 => .int .i64 (q : Int)
 | 4 => .int .i64 (q : Int)
 | 5 => .int .u64 (N : Int)
 | 6 => .int .i64 (N : Int)
 | 7 => .int .i64 (en : Int)
 | 8 => .slice (some ⟨b1, o1 + q, none⟩) (en - q) (c - q)
 | 10 => .pointer (some ⟨gq, 1, none⟩)
 | _ => undef
def frtDst (i : Nat) : Tmp := if i = 11 then 1011 else 55 + i
theorem frtDst_ne {j t : Nat} (ht : t = 0 \/ t = 7 \/ t = 8 \/ t = 10) (e : frtDst j = t) : False := by
 unfold frtDst at e
 have e : (if j = 11 then 1011 else 55 + j : Nat) = t := e
 rcases ht with rfl | rfl | rfl | rfl <;> (repeat' (split at e)) <;> omega
def frtPhi (b1 o1 L c en q N B gq : Nat) (kd : UInt8) (bd : List UInt8) (ix : Nat) (v : Value) (w : World) : Prop := if ix = 9 then ClB B bd v w else if ix = 11 then StR B gq kd bd v w else v = frtVal b1 o1 L c en q N B gq kd bd ix
theorem frtPhi.ext {b1 o1 L c en q N B gq : Nat} {kd : UInt8} {bd : List UInt8} {ix : Nat} {v : Value} {w w' : World} (h : frtPhi b1 o1 L c en q N B gq kd bd ix v w) (hu : Ext w w') : frtPhi b1 o1 L c en q N B gq kd bd ix v w' := by
 unfold frtPhi at h ⊢
 by_cases c : ix = 9
 ·rw [if_pos c] at h ⊢; exact h.ext hu
 ·rw [if_neg c] at h ⊢
  by_cases c : ix = 11
  ·rw [if_pos c] at h ⊢; exact h.ext hu
  ·rw [if_neg c] at h ⊢
   exact h
theorem frtPhi.pass {b1 o1 L c en q N B gq : Nat} {kd : UInt8} {bd : List UInt8} (hgB : gq < B) {i j : Nat} {v : Value} {w w' : World} (hne : i ≠ j) (h : frtPhi b1 o1 L c en q N B gq kd bd j v w) (hu : if i = 11 then Upd (At gq) w w' else Ext w w') : frtPhi b1 o1 L c en q N B gq kd bd j v w' := by
 have hU : Upd (At gq) w w' := by
  split at hu
  ·exact hu
  ·exact hu.mono (fun _ _ e => e.elim)
 have hd : ∀ k, From B k -> ¬ At gq k := fun k h e => by have h : B <= k := h; have e : k = gq := e; omega
 unfold frtPhi at h ⊢
 by_cases c9 : j = 9
 ·rw [if_pos c9] at h ⊢; exact Row.upd h hU hd
 ·rw [if_neg c9] at h ⊢
  by_cases c12 : j = 11
  ·rw [if_pos c12] at h ⊢
   rw [if_neg (by omega)] at hu
   exact h.ext hu
  ·rw [if_neg c12] at h ⊢; exact h
theorem rftake_any {S : Nat -> Prop} (w : World) (v : Value) (l : List UInt8) (h : Bytes S w v l) (p : Nat) (hp : p <= l.length) (hl : l.length <= 1000000) :
  Calls Tryz.prog 68 #[v, .int .i64 p] w (FrPost w l p) := by
 have g0 := h.addr
 have H := zq h
 obtain ⟨a, c, rfl, hn, hm, -⟩ := h
 have G := zq g0
 clear g0
 unfold maxLen at hm
 obtain ⟨g, hg⟩ : ∃ g, g = w.heap.size := ⟨_, rfl⟩
 obtain ⟨wb, hwb⟩ : ∃ u, u = w.alloc (.cells frZ 131) := ⟨_, rfl⟩
 have HB := zq (show wb.heap[g]? = some (.cells frZ 131 (0, 0)) by rw [hwb, hg]; exact newAt _ _)
 have HX := zq (show Ext w wb by rw [hwb]; exact uZ.alloc _)
 have HWB := zq hwb
 have HG := zq hg
 have hxs : wb.heap.size = g + 1 := by rw [hwb, hg]; simp
 clear hwb hg
 by_cases hpl : p < l.length
 case neg =>
  have f1 : decide ((p : Int) < 0) = false := decide_eq_false (by omega)
  have f2 : decide ((l.length : Int) <= (p : Int)) = true := decide_eq_true (by omega)
  have HN := zq (show takeFr (l.drop p) = none by rw [List.drop_of_length_le (by omega)]; rfl)
  go_enter Tryz.func68, Tryz.ntmps68
  go_upto_region 1 with (fail)
  rw [show w.alloc (.cells frZ 131) = wb from HWB.out.symm, show w.heap.size = g from HG.out.symm]
  have hbb := HB.out
  go_wp2_with (refine wpList_store_blk rfl _ _ _ rfl rfl (cells := frZ) rfl hbb (Tryz.rfrT (.int .u8 0) (.slice none 0 0)) rfl frZ_one ?_)
  try simp only [Exit.inBlock, Exit.then]
  refine bodyPost_blk3 rfl rfl rfl (setRow_heap _ _ _ _ _ _ hbb) (Tryz.rfrT (.int .u8 0) (.slice none 0 0)) ?_
  exact ⟨fun k b n h => (by rw [HN.out] at h; cases h), fun _ => ⟨10, by decide, rfl⟩, HX.out.step (Upd.row _ g _) (fun k hk e => by unfold At at e; have := HG.out; omega)⟩
 obtain ⟨b1, o1, c1, e1, hS1, -, -, hq1⟩ := G.out (by omega)
 cases e1
 have hkd := bytes_cell hq1 p hpl
 obtain ⟨kd, hkde⟩ : ∃ kd, kd = l[p] := ⟨_, rfl⟩
 rw [<- hkde] at hkd
 obtain ⟨r, hr⟩ : ∃ r, r = l.drop (p + 1) := ⟨_, rfl⟩
 have hrl : r.length = l.length - (p + 1) := by rw [hr, List.length_drop]
 have hlp : l.drop p = kd :: r := by rw [hkde, hr]; exact List.drop_eq_getElem_cons hpl
 have f1 : decide ((p : Int) < 0) = false := decide_eq_false (by omega)
 have f2 : decide ((l.length : Int) <= (p : Int)) = false := decide_eq_false (by omega)
 have hcon := rTake_any wb _ l (H.out.ext HX.out) (p + 1) (by omega) (by omega)
 rw [<- hr] at hcon
 have HT := zq (show takeFr (l.drop p) = _ from (congrArg takeFr hlp).trans (by rw [takeFr]))
 obtain ⟨L, hL1, hL2, hLL⟩ : ∃ L, L <= l.length /\ l.length <= L /\ L = l.length := ⟨_, Nat.le_refl _, Nat.le_refl _, rfl⟩
 rw [<- hLL] at hcon ⊢
 clear hLL
 obtain ⟨N, hN⟩ : ∃ N, N = (numF r).2.1 := ⟨_, rfl⟩
 obtain ⟨d, hd⟩ : ∃ d, d = (numF r).2.2 := ⟨_, rfl⟩
 obtain ⟨E, hE⟩ : ∃ E, E = (numF r).1 := ⟨_, rfl⟩
 rw [<- hN, <- hd, <- hE] at hcon HT
 have HOK := zq (show E = 0 -> N < 18446744073709551616 /\ d <= r.length /\ (d + N <= r.length -> (kd :: r).take (1 + d + N) = frHead kd ((r.drop d).take N)) from fun h0 => by
  obtain ⟨n1, -, -, n4⟩ := numF_ok (hE ▸ h0 : (numF r).1 = 0); rw [hN, hd]; exact ⟨n1, n4, fun hq => head_take (hE ▸ h0) hq⟩)
 have HLP := zq hlp
 have HR := zq hr
 have HKD := zq hkd
 have HQ1 := zq hq1
 have HFX := zq (fun (W : World) (hx : Ext w W) => (show Ext w (W.setRow g frZ) from hx.step (Upd.row _ g _) (fun k hk e => by unfold At at e; have := HG.out; omega)))
 clear hlp hr hN hd hE hkd hq1 hkde f1 f2
 have hpL : p < L := by omega
 have f1 : decide ((p : Int) < 0) = false := decide_eq_false (by omega)
 have f2 : decide ((L : Int) <= (p : Int)) = false := decide_eq_false (by omega)
 go_enter Tryz.func68, Tryz.ntmps68
 go_upto_region 1 with (fail)
 rw [show w.alloc (.cells frZ 131) = wb from HWB.out.symm, show w.heap.size = g from HG.out.symm]
 go_wp2_with (go_at_call 90; fail)
 refine hcon.mono ?_
 rintro e w1 ⟨rfl, hx1⟩
 have HB1 := zq (hx1.at_ HB.out id)
 have HX1 := zq (HX.out.trans hx1)
 have hxs1 := hx1.size
 clear hx1 hcon
 by_cases h0 : E = 0
 case neg =>
  have hb : (E != 0) = true := by simpa using h0
  have HN := zq (show takeFr (l.drop p) = none by rw [HT.out, if_pos h0])
  have HE := zq h0
  clear h0 f1 f2
  have hbb := HB1.out
  go_wp2_with (refine wpList_store_blk rfl _ _ _ rfl rfl (cells := frZ) rfl hbb (Tryz.rfrT (.int .u8 0) (.slice none 0 0)) rfl frZ_one ?_)
  try simp only [Exit.inBlock, Exit.then]
  refine bodyPost_blk3 rfl rfl rfl (setRow_heap _ _ _ _ _ _ hbb) (Tryz.rfrT (.int .u8 0) (.slice none 0 0)) ?_
  exact ⟨fun k b n h => (by rw [HN.out] at h; cases h), fun _ => ⟨E, HE.out, rfl⟩, HFX.out _ HX1.out⟩
 subst h0
 obtain ⟨hN64, hdr, hhd⟩ := HOK.out rfl
 by_cases hbig : 65535 < N
 ·have HN := zq (show takeFr (l.drop p) = none by rw [HT.out, if_neg (by simp), if_pos hbig])
  have g1 : (65535 : Int) < (N : Int) := by omega
  clear hbig f1 f2
  have hbb := HB1.out
  go_wp2_with (refine wpList_store_blk rfl _ _ _ rfl rfl (cells := frZ) rfl hbb (Tryz.rfrT (.int .u8 0) (.slice none 0 0)) rfl frZ_one ?_)
  try simp only [Exit.inBlock, Exit.then]
  refine bodyPost_blk3 rfl rfl rfl (setRow_heap _ _ _ _ _ _ hbb) (Tryz.rfrT (.int .u8 0) (.slice none 0 0)) ?_
  exact ⟨fun k b n h => (by rw [HN.out] at h; cases h), fun _ => ⟨3, by decide, rfl⟩, HFX.out _ HX1.out⟩
 have g1 : ¬ (65535 : Int) < (N : Int) := by omega
 obtain ⟨q, hq⟩ : ∃ q, q = p + 1 + d := ⟨_, rfl⟩
 rw [show ((p + 1 + d : Nat) : Int) = (q : Int) by omega]
 by_cases hsh : r.length < d + N + 4
 ·have HN := zq (show takeFr (l.drop p) = none by rw [HT.out, if_neg (by simp), if_neg hbig, if_pos hsh])
  have g2 : (L : Int) < (q : Int) + (N : Int) + 4 := by omega
  clear hbig f1 f2 hsh
  have hbb := HB1.out
  go_wp2_with (refine wpList_store_blk rfl _ _ _ rfl rfl (cells := frZ) rfl hbb (Tryz.rfrT (.int .u8 0) (.slice none 0 0)) rfl frZ_one ?_)
  try simp only [Exit.inBlock, Exit.then]
  refine bodyPost_blk3 rfl rfl rfl (setRow_heap _ _ _ _ _ _ hbb) (Tryz.rfrT (.int .u8 0) (.slice none 0 0)) ?_
  exact ⟨fun k b n h => (by rw [HN.out] at h; cases h), fun _ => ⟨10, by decide, rfl⟩, HFX.out _ HX1.out⟩
 have g2 : ¬ (L : Int) < (q : Int) + (N : Int) + 4 := by omega
 obtain ⟨en, hen⟩ : ∃ en, en = q + N := ⟨_, rfl⟩
 have henl : en + 4 <= L := by omega
 have hpen : p <= en := by omega
 have hqen : q <= en := by omega
 obtain ⟨A, hA⟩ : ∃ A, A = (l.drop en).take 4 := ⟨_, rfl⟩
 obtain ⟨Y, hY⟩ : ∃ Y, Y = (l.drop p).take (en - p) := ⟨_, rfl⟩
 obtain ⟨bd, hbd⟩ : ∃ bd, bd = (l.drop q).take (en - q) := ⟨_, rfl⟩
 have HA := zq (show Bytes (fun _ => True) w (.slice (some ⟨b1, o1 + en, none⟩) 4 (c - en)) A by rw [hA]; exact Row.slice HQ1.out trivial (by unfold maxLen; omega) hn (by omega))
 have HY := zq (show Bytes (fun _ => True) w (.slice (some ⟨b1, o1 + p, none⟩) (en - p) (c - p)) Y by rw [hY]; exact Row.slice HQ1.out trivial (by unfold maxLen; omega) hn (by omega))
 have HBD := zq (show Bytes (fun _ => True) w (.slice (some ⟨b1, o1 + q, none⟩) (en - q) (c - q)) bd by rw [hbd]; exact Row.slice HQ1.out trivial (by unfold maxLen; omega) hn (by omega))
 have hTT : takeFr (l.drop p) = if A = le4 (crcF Y) then some (kd, bd, en + 4 - p) else none := by
  rw [HT.out, if_neg (by simp), if_neg hbig, if_neg hsh, <- HLP.out, hA, hY, hbd, List.drop_drop, HR.out, List.drop_drop]
  rw [show p + (1 + d + N) = en by omega, show 1 + d + N = en - p by omega, show p + 1 + d = q by omega, show en - p + 4 = en + 4 - p by omega, show N = en - q by omega]
 have hYh : Y = frHead kd bd := by
  have := hhd (by omega)
  rw [<- HLP.out, HR.out, List.drop_drop, show p + 1 + d = q by omega, show 1 + d + N = en - p by omega, show N = en - q by omega] at this
  rw [hY, hbd, this]
 have HYH := zq hYh
 clear hYh hhd
 have hYA : (l.drop p).take (en + 4 - p) = Y ++ A := by
  rw [hY, hA, show en + 4 - p = (en - p) + 4 by omega, List.take_add, List.drop_drop, show p + (en - p) = en by omega]
 have HYA := zq hYA
 clear hYA
 obtain ⟨X, hX⟩ : ∃ X, X = crcF Y := ⟨_, rfl⟩
 rw [<- hX] at hTT
 have HXE := zq hX
 have HTT := zq hTT
 clear hX
 have HBL := zq (show bd.length <= 1000000 by rw [hbd]; simp; omega)
 have hqe : (q : Int) + (N : Int) = (en : Int) := by omega
 clear hTT hA hY hbd hbig hsh hen hq hrl hdr hN64
 obtain ⟨B, hBE⟩ : ∃ B, B = w1.heap.size := ⟨_, rfl⟩
 have HBS := zq (show B <= w1.heap.size by omega)
 have hgB : g < B := by omega
 have HQN := zq hqe
 have hq2 : q <= L := by omega
 have hc1 : L <= c := by omega
 clear hBE
 have HKD1 := zq (HX1.out.cell HKD.out id)
 have hkd1 := HKD1.out
 have HBD1 := zq (HBD.out.ext HX1.out)
 obtain ⟨gq, hg2⟩ : ∃ gq, gq = w1.heap.size := ⟨_, rfl⟩
 have hnb : (w1.alloc (.cells frZ 131)).heap[gq]? = some (.cells frZ 131 (0, 0)) := by rw [hg2]; exact newAt _ _
 obtain ⟨w2, hw2⟩ : ∃ u, u = (w1.alloc (.cells frZ 131)).setRow gq #[u8 kd, .slice none 0 0] := ⟨_, rfl⟩
 have HG2 := zq (show w2.heap[gq]? = some (.cells #[u8 kd, .slice none 0 0] 131 (0, 0)) by rw [hw2]; exact setRow_heap _ _ _ _ _ _ hnb)
 have hx12 : Ext w1 w2 := by rw [hw2]; exact (uZ.alloc _).step (T := At gq) (Upd.row _ gq _) (fun k hk e => by have e : k = gq := e; omega)
 have HX2 := zq (HX1.out.trans hx12)
 have HB2 := zq (hx12.at_ HB1.out id)
 have HBD2 := zq (HBD1.out.ext hx12)
 have HW2 := zq hw2
 have HGE := zq hg2
 have hs12 := hx12.size
 have hlt2 := lZ HG2.out
 have HXA := zq hx12
 clear hw2 hx12 hnb hgB
 obtain ⟨B, hB⟩ : ∃ B, B = w2.heap.size := ⟨_, rfl⟩
 have HBS2 := zq (show B <= w2.heap.size by omega)
 have hgB2 : gq < B := by omega
 have hgg : g < gq := by omega
 have HBE2 := zq hB
 clear hB hg2
 go_upto_region 11 with (refine wpList_store_blk rfl _ _ _ rfl rfl (cells := #[u8 kd, .slice none 0 0]) rfl (g := w1.heap.size) (newAt w1 (.cells frZ 131)) (Tryz.rfrT (.int .u8 0) (.slice none 0 0)) rfl (frk_one kd) ?_)
 rw [show w1.heap.size = gq from HGE.out.symm]
 rw [show (w1.alloc (.cells #[.int .u8 0, .slice none 0 0] 131)).setRow gq #[u8 kd, .slice none 0 0] = w2 from HW2.out.symm]
 go_simp
 refine wp_region_invH (At gq) (fun i w w' => if i = 11 then Upd (At gq) w w' else Ext w w') 11 frtDst (frtPhi b1 o1 L c en q N B gq kd bd) 92 (by kernel_rfl) (by decide) (by decide) rfl (fun i hi => if e : i = 11 then .inr (fun v v' w h => by subst e; exact h) else .inl ((by decide : ∀ i, i < 12 -> i ≠ 11 -> frtDst i < 92) i hi e)) (fun i w w' h => by by_cases e : i = 11; (rw [if_pos e] at h; exact ⟨h, fun he => absurd e he⟩); (rw [if_neg e] at h; exact ⟨h.mono (fun _ _ e => e.elim), fun _ => h⟩)) (fun i j v w w' _ _ hne _ h hu => frtPhi.pass hgB2 hne h hu) ?_ ?_
 ·intro i o b' w1' ho hx1' hd hk hE hSZ
  have hi : i < 12 := (Array.getElem?_eq_some_iff.1 ho).1
  have his : i = 0 \/ i = 1 \/ i = 2 \/ i = 3 \/ i = 4 \/ i = 5 \/ i = 6 \/ i = 7 \/ i = 8 \/ i = 9 \/ i = 10 \/ i = 11 := by omega
  have HEE := zq hE
  have HSZ := zq hSZ
  clear hE hSZ
  have HW1 := zq hx1'
  clear hx1'
  rcases his with rfl | rfl | rfl | rfl | rfl | rfl | rfl | rfl | rfl | rfl | rfl | rfl
  all_goals (simp at ho; subst ho)
  case inl =>
   refine .inl ⟨rfl, ?_⟩
   have o10 : b'.tmps[10]?.getD undef = .pointer (some ⟨gq, 0, none⟩) := tAt (hk 10 (fun j oj _ e => (frtDst_ne (by decide) e).elim))
   clear hd hk
   go_step
   exact ⟨_, rfl, rfl, uZ⟩
  ·
   refine .inl ⟨rfl, ?_⟩
   have e0 : b'.tmps[55]?.getD undef = .pointer (some ⟨gq, 1, none⟩) := tAt (hd ⟨0, .data⟩ (by simp) rfl)
   have hcc := cZ ((HEE.out (.inr (by kernel_rfl))).at_ HG2.out id) 1 (.slice none 0 0) rfl
   clear hd hk
   go_step
   exact ⟨_, rfl, rfl, uZ⟩
  ·
   refine .inl ⟨rfl, ?_⟩
   have o0 : b'.tmps[0]?.getD undef = .slice (some ⟨b1, o1, none⟩) L c := tAt (hk 0 (fun j oj _ e => (frtDst_ne (by decide) e).elim))
   clear hd hk
   go_step
   exact ⟨_, rfl, rfl, uZ⟩
  ·
   refine .inl ⟨rfl, ?_⟩
   have o8 : b'.tmps[8]?.getD undef = .int .i64 (q : Int) := tAt (hk 8 (fun j oj _ e => (frtDst_ne (by decide) e).elim))
   clear hd hk
   go_step
   exact ⟨_, rfl, rfl, uZ⟩
  ·
   refine .inl ⟨rfl, ?_⟩
   have o8 : b'.tmps[8]?.getD undef = .int .i64 (q : Int) := tAt (hk 8 (fun j oj _ e => (frtDst_ne (by decide) e).elim))
   clear hd hk
   go_step
   exact ⟨_, rfl, rfl, uZ⟩
  ·
   refine .inl ⟨rfl, ?_⟩
   have o7 : b'.tmps[7]?.getD undef = .int .u64 (N : Int) := tAt (hk 7 (fun j oj _ e => (frtDst_ne (by decide) e).elim))
   clear hd hk
   go_step
   exact ⟨_, rfl, rfl, uZ⟩
  ·
   refine .inl ⟨rfl, ?_⟩
   have e5 : b'.tmps[60]?.getD undef = .int .u64 (N : Int) := tAt (hd ⟨5, .data⟩ (by simp) rfl)
   clear hd hk
   go_step
   exact ⟨_, rfl, rfl, uZ⟩
  ·
   refine .inl ⟨rfl, ?_⟩
   have e4 : b'.tmps[59]?.getD undef = .int .i64 (q : Int) := tAt (hd ⟨4, .data⟩ (by simp) rfl)
   have e6 : b'.tmps[61]?.getD undef = .int .i64 (N : Int) := tAt (hd ⟨6, .data⟩ (by simp) rfl)
   clear hd hk
   go_step
   exact ⟨_, rfl, rfl, uZ⟩
  ·
   refine .inl ⟨rfl, ?_⟩
   have e2 : b'.tmps[57]?.getD undef = .slice (some ⟨b1, o1, none⟩) L c := tAt (hd ⟨2, .data⟩ (by simp) rfl)
   have e3 : b'.tmps[58]?.getD undef = .int .i64 (q : Int) := tAt (hd ⟨3, .data⟩ (by simp) rfl)
   have e7 : b'.tmps[62]?.getD undef = .int .i64 (en : Int) := tAt (hd ⟨7, .data⟩ (by simp) rfl)
   have hslc := slice_at (b := b1) (o := o1) (L := L) (c := c) (lo := q) (n := en - q) (by omega) (by omega) (x := (q : Int)) (y := (en : Int)) (by omega) (by omega)
   clear hd hk
   go_step
   exact ⟨_, rfl, rfl, uZ⟩
  ·
   refine .inl ⟨rfl, ?_⟩
   have o56 : b'.eval (.tmp 56) = .slice none 0 0 := by
    have := (show b'.tmps.getD 56 undef = .slice none 0 0 from hd ⟨1, .data⟩ (by simp) rfl)
    simpa [Act.eval] using this
   have o63 : b'.eval (.tmp 63) = .slice (some ⟨b1, o1 + q, none⟩) (en - q) (c - q) := by
    have := (show b'.tmps.getD 63 undef = .slice (some ⟨b1, o1 + q, none⟩) (en - q) (c - q) from hd ⟨8, .data⟩ (by simp) rfl)
    simpa [Act.eval] using this
   have HW1E := zq (HEE.out (.inr (by kernel_rfl)))
   have hrow := HBD2.out.ext HW1E.out
   have hs0 := HW1.out.size
   have hs1 := HBS2.out
   refine wp_append_row _ _ _ rfl Tryz.bytesT o56 (World.ownsRow_nil w1' w1'.heap.size _ _) o63 hrow (by simp) (u8_one bd) (by unfold maxLen; have := HBL.out; omega) (by have := HBL.out; omega) (Nat.le_refl _) ?_
   intro v' w3 hown3 hg3 _
   refine ⟨v', rfl, ?_, uZ.grown hg3 (fun j hj => by simp [Value.ownBlock] at hj)⟩
   have hq := Row.of_owns hown3
   rw [Nat.zero_add, List.nil_append] at hq
   exact hq.mono (fun k hk => by have hk : w1'.heap.size <= k := hk; show B <= k; omega)
  ·
   refine .inl ⟨rfl, ?_⟩
   have o10 : b'.tmps[10]?.getD undef = .pointer (some ⟨gq, 0, none⟩) := tAt (hk 10 (fun j oj _ e => (frtDst_ne (by decide) e).elim))
   clear hd hk
   go_step
   exact ⟨_, rfl, rfl, uZ⟩
  ·
   refine .inl ⟨rfl, ?_⟩
   have h9 := hd ⟨9, .data⟩ (by simp) rfl
   have h9 : ClB B bd (b'.tmps.getD 64 undef) w1' := h9
   obtain ⟨a9, c9, q9, -⟩ := id h9
   have e9 : b'.tmps[64]?.getD undef = .slice a9 bd.length c9 := by simpa using q9
   rw [show b'.tmps.getD 64 undef = .slice a9 bd.length c9 from q9] at h9
   have e10 : b'.tmps[65]?.getD undef = .pointer (some ⟨gq, 1, none⟩) := tAt (hd ⟨10, .data⟩ (by simp) rfl)
   have hgb := (HEE.out (.inl rfl)).at_ HG2.out id
   have hz1 := cZ hgb 1 (.slice none 0 0) rfl
   have hf1 := freeAt hgb 1
   have hlg := lZ hgb
   clear hd hk
   go_step
   refine ⟨undef, put_past (by rw [HSZ.out]; show 92 <= frtDst 11; decide), ?_, ?_⟩
   ·have q1 := setAt (j := 1) (u := Value.slice a9 bd.length c9) hgb
    exact ⟨a9, _, c9, q1, h9.upd (T := At gq) ((Upd.refl (At gq) w1').setCell (p := ⟨gq, 1, none⟩) (fun _ => rfl) _) (fun k h e => by have h : B <= k := h; have e : k = gq := e; omega)⟩
   ·exact (Upd.refl (At gq) w1').setCell (p := ⟨gq, 1, none⟩) (fun _ => rfl) _
 ·intro v w1' hx1' hp
  have h11 : StR B gq kd bd (v 11) w1' := hp 11 (by decide)
  have HU3 := zq hx1'
  clear hp hx1'
  obtain ⟨a9, n9, c9, q9, r9⟩ := h11
  have HR9 := zq r9
  have HQ9 := zq q9
  clear q9 r9
  simp only [List.size_toArray, List.length_cons, List.length_nil, Nat.reduceAdd, fillAll, frtDst]
  go_simp
  have HB3 := zq (HU3.out.at_ HB2.out (fun e => by have e : g = gq := e; omega))
  have HX3 := zq (HX2.out.step (T := At gq) HU3.out (fun k hk e => by have e : k = gq := e; have := HX1.out.size; have := HGE.out; omega))
  obtain ⟨w3, hw3⟩ : ∃ u, u = w1' := ⟨_, rfl⟩
  subst hw3
  have hq9 := HQ9.out
  have hs3 := HU3.out.size
  go_wp2_with (first | (refine wpList_load_blk rfl _ _ rfl rfl hq9 (Tryz.rfrT (u8 kd) (.slice a9 n9 c9)) ?_) | (go_at_call 91; fail))
  refine (rbytes_any _ kd _ bd HR9.out (by have := HBL.out; omega)).mono ?_
  rintro e w4 ⟨v4, rfl, hb4, hx4⟩
  have HX4 := zq (HX3.out.trans hx4)
  have HB4 := zq (hx4.at_ HB3.out id)
  have HQ4 := zq (hx4.at_ HQ9.out id)
  have HR4 := zq (HR9.out.ext hx4)
  have hfl := frameF_len kd bd
  obtain ⟨FR, hFR⟩ : ∃ FR, FR = frameF kd bd := ⟨_, rfl⟩
  rw [<- hFR] at hb4 hfl
  obtain ⟨RW, hRW⟩ : ∃ RW, RW = (l.drop p).take (en + 4 - p) := ⟨_, rfl⟩
  have hRWl : RW.length = en + 4 - p := by rw [hRW]; simp; omega
  have hYl : Y.length = en - p := by have := HY.out; obtain ⟨_, _, q, -⟩ := this; injection q with q1 q2 q3; exact q2.symm
  have hFl : FR.length = RW.length := by
   rw [hFR, frameF, List.length_append, <- HYH.out, le4_len]; omega
  have hEq : (RW == FR) = (A == le4 X) := by
   rw [hRW, hFR, HYA.out, frameF, <- HYH.out, <- HXE.out]
   rw [Bool.eq_iff_iff, beq_iff_eq, beq_iff_eq]
   exact ⟨fun e => List.append_cancel_left e, fun e => by rw [e]⟩
  have HEQ := zq hEq
  have hRat : ∀ i (hi : i < RW.length), ∃ hj : p + i < l.length, RW[i] = l[p + i] := fun i hi => by
   have hj : p + i < l.length := by rw [hRW] at hi; simp at hi; omega
   refine ⟨hj, ?_⟩
   subst hRW
   rw [List.getElem_take, List.getElem_drop]
  have HRAT := zq hRat
  have hbl := HBL.out
  obtain ⟨av, cv, rfl, hvc, hvm, -⟩ := id hb4
  have HV4 := zq hb4
  clear hx4 hRat hEq hRW hFR hb4 hs3 hq9 hYl
  obtain ⟨FL, hF1, hF2, hFE⟩ : ∃ FL, FL <= FR.length /\ FR.length <= FL /\ FL = FR.length := ⟨_, Nat.le_refl _, Nat.le_refl _, rfl⟩
  rw [<- hFE]
  have HFE := zq hFE
  have hRn : RW.length <= 1000100 := by omega
  clear hFE
  go_wp2
  go_loopw [12] (fun i wr => ∃ k : Nat, k <= FL /\ i = .int .i64 k /\ Hid (RW.take k = FR.take k) /\ Ext w4 wr) (fun i _ => FL - (intOf i).toNat)
  case atStart => exact ⟨0, Nat.zero_le _, rfl, zq rfl, uZ⟩
  case round =>
   obtain ⟨k, hk, rfl, HT4, hx⟩ := hrel
   have HXr := zq hx
   by_cases hkF : k < FL
   ·have hk1 : k < FR.length := by omega
    have hk2 : k < RW.length := by omega
    obtain ⟨hj, hjE⟩ := HRAT.out k hk2
    obtain ⟨b2, o2, c2, e2, -, -, -, hq2⟩ := HV4.out.addr (by omega)
    cases e2
    have q1 := (HX4.out.trans hx).cell (bytes_cell HQ1.out (p + k) hj) id
    have q2 := hx.cell (bytes_cell hq2 k hk1) id
    rw [<- hjE] at q1
    obtain ⟨pk, hpk⟩ : ∃ pk, pk = p + k := ⟨_, rfl⟩
    rw [<- hpk] at q1
    have hpk1 : (p : Int) + (k : Int) = (pk : Int) := by omega
    have hpk2 : pk < L := by omega
    clear hpk
    clear hq2 hjE hx
    by_cases he : (RW[k].toNat : Int) = FR[k].toNat
    ·have HE := zq he
     have hb2 : ((RW[k].toNat : Int) != (FR[k].toNat : Int)) = false := by simp [he]
     clear he
     go_wp2
     go_quiet (fail)
     go_wp2
     go_roundw
     case rel => exact ⟨k + 1, by omega, by go_num, zq (take_ext hk2 hk1 HT4.out HE.out), HXr.out.drewN _⟩
     case measure => simp [intOf]; omega
    ·have hb2 : ((RW[k].toNat : Int) != (FR[k].toNat : Int)) = true := by simpa using he
     have HNE := zq (show takeFr (l.drop p) = none by
      rw [HTT.out, if_neg]
      intro e
      have h1 := HEQ.out
      rw [beq_ne_at hk2 hk1 he] at h1
      rw [e] at h1
      simp at h1)
     clear he
     go_wp2
     go_quiet (fail)
     have hbb : (wr.drewN nq).heap[g]? = _ := HXr.out.at_ HB4.out id
     go_wp2_with (refine wpList_store_blk rfl _ _ _ rfl rfl (cells := frZ) rfl hbb (Tryz.rfrT (.int .u8 0) (.slice none 0 0)) rfl frZ_one ?_)
     try simp only [Exit.inBlock, Exit.then]
     refine bodyPost_blk3 rfl rfl rfl (setRow_heap _ _ _ _ _ _ hbb) (Tryz.rfrT (.int .u8 0) (.slice none 0 0)) ?_
     exact ⟨fun k b n h => (by rw [HNE.out] at h; cases h), fun _ => ⟨30, by decide, rfl⟩, HFX.out _ ((HX4.out.trans HXr.out).drewN _)⟩
   ·have hkk : k = FL := by omega
    have hs : RW = FR := by
     have h1 := HT4.out
     rw [List.take_of_length_le (by omega), List.take_of_length_le (by omega)] at h1
     exact h1
    have HS := zq (show takeFr (l.drop p) = some (kd, bd, en + 4 - p) by
     rw [HTT.out, if_pos]
     have h1 := HEQ.out
     rw [hs, beq_self_eq_true] at h1
     exact beq_iff_eq.1 h1.symm)
    have hbb := HXr.out.at_ HB4.out id
    have hqq := HXr.out.at_ HQ4.out id
    have HRR := zq (HR4.out.ext HXr.out)
    have hfl2 : (p : Int) + (FL : Int) = (en : Int) + 4 := by omega
    clear hs hx
    go_wp2_with (first | (refine wpList_load_blk rfl _ _ rfl rfl hqq (Tryz.rfrT (u8 kd) (.slice a9 n9 c9)) ?_) | (refine wpList_store_blk rfl _ _ _ rfl rfl (cells := #[u8 kd, .slice a9 n9 c9]) rfl hbb (Tryz.rfrT (.int .u8 0) (.slice none 0 0)) rfl (frs_one kd a9 n9 c9) ?_))
    try simp only [Exit.inBlock, Exit.then]
    refine bodyPost_blk3 rfl rfl rfl (setRow_heap _ _ _ _ _ _ hbb) (Tryz.rfrT (u8 kd) (.slice a9 n9 c9)) ?_
    refine ⟨fun k b n h => ?_, fun h => (by rw [HS.out] at h; cases h), (HX4.out.trans HXr.out).step (T := At g) (Upd.row _ g _) (fun k hk e => by have e : k = g := e; have := HG.out; omega)⟩
    rw [HS.out] at h
    simp only [Option.some.injEq, Prod.mk.injEq] at h
    obtain ⟨rfl, rfl, rfl⟩ := h
    refine ⟨_, by rw [show ((p + (en + 4 - p) : Nat) : Int) = (en : Int) + 4 by omega]; rfl, ?_⟩
    exact (HRR.out.upd (Upd.row wr g _) (fun k (h : B <= k) (e : k = g) => by omega)).mono (fun k hk => by have hk : B <= k := hk; have := HX2.out.size; have := HBE2.out; show w.heap.size <= k; omega)
end Go.Proofs.YtnkmpoplibnflaaGreatDoor.Wk
