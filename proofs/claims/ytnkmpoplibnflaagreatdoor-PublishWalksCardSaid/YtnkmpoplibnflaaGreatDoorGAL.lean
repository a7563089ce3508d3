/-
  frame.Take.
  The reference's bytes of a frame.
-/
import Derived.Test.YtnkmpoplibnflaaGreatDoorGAK
import Derived.Test.YtnkmpoplibnflaaGreatDoorGAB
import Derived.Deep.CutRange
set_option maxRecDepth 100000
set_option maxHeartbeats 16000000
namespace Go.Proofs.YtnkmpoplibnflaaGreatDoor.Wk
open Go Go.Proofs.YtnkmpoplibnflaaGreatDoor Go.RowKit
theorem results_cell_tmps {fn : Func} {p u v : Tmp} {ty : TypeId} (h : fn.results = #[.cell p ty, .tmp u, .tmp v]) (tmps : Array Value) (P : Program) (w : World) :
  (results fn tmps).run P w =
   ((asAddr (tmps.getD p undef)).run P w).andThen fun a w₁ => ((loadVar ty a).run P w₁).andThen fun x w₂ => .ok (.tuple #[x, tmps.getD u undef, tmps.getD v undef]) w₂ := by
 simp only [results, h]
 simp [Sem.run_bind, Result.andThen]
theorem bodyPost_blk3 {P : Program} {w : World} {a : Act} {fn : Func} {R : Ending -> World -> Prop} {p u v : Tmp} {ty : TypeId} (hr : fn.results = #[.cell p ty, .tmp u, .tmp v]) (hd : a.defers = []) {g : Nat} (hp : a.tmps.getD p undef = .pointer (some ⟨g, 0, none⟩)) {t : TypeId} {cs : Array Value} {fr : Nat × Nat}
  (hg : w.heap[g]? = some (.cells cs t fr)) (T : StructT P ty cs.size) (h : R (.returned (.tuple #[.agg cs, a.tmps.getD u undef, a.tmps.getD v undef])) w) : bodyPost P fn R .ret a w := by
 obtain ⟨d, h1, h2, h3⟩ := T
 refine bodyPost_ret_by ?_ hd h
 rw [results_cell_tmps hr, hp]
 have hl := run_loadVar_row (P := P) w g t ty cs fr d hg h1 (by cases d <;> simp_all) h3
 simp [asAddr, Result.andThen, hl]
theorem Tryz.frT (x y : Value) : StructT Tryz.prog 258 (#[x, y] : Array Value).size := ⟨_, Tryz.underlying258, rfl, by kernel_rfl⟩
abbrev frZ : Array Value := #[.int .u8 0, .slice none 0 0]
theorem frZ_one : AllOne frZ := by simp [AllOne, Value.oneCell']
def FrPost (w : World) (l : List UInt8) (p : Nat) (e : Ending) (w' : World) : Prop :=
 (∀ k b n, takeFr (l.drop p) = some (k, b, n) -> ∃ v', e = .returned (.tuple #[.agg #[u8 k, v'], .int .i64 ((p + n : Nat) : Int), .int .i64 0]) /\ Bytes (From w.heap.size) w' v' b) ∧
 (takeFr (l.drop p) = none -> ∃ E : Int, E ≠ 0 /\ e = .returned (.tuple #[.agg frZ, .int .i64 p, .int .i64 E])) /\ Ext w w'
theorem slice_at {b o L c lo n : Nat} (h2 : lo + n <= c) (h3 : lo < c) {x y : Int} (hx : x = lo) (hy : y = (lo + n : Nat)) (W : World) :
  (Instr.sliceAt 23 (.slice (some ⟨b, o, none⟩) L c) (some (.int .i64 x)) (some (.int .i64 y)) none).run Tryz.prog W = .ok (.slice (some ⟨b, o + lo, none⟩) n (c - lo)) W := by
 subst hx hy
 have u9 := Tryz.underlying23
 have e : ((lo : Int) + (n : Int)).toNat = lo + n := by omega
 go_simp
 rw [if_pos (by omega), if_neg (by omega)]
def SumRow (B X : Nat) (v : Value) (w : World) : Prop := Bytes (From B) w v (le4 X)
theorem SumRow.ext {B X : Nat} {v : Value} {w w' : World} (h : SumRow B X v w) (hu : Ext w w') : SumRow B X v w' := Row.ext h hu
def ClB (B : Nat) (bd : List UInt8) (v : Value) (w : World) : Prop := Bytes (From B) w v bd
theorem ClB.ext {B : Nat} {bd : List UInt8} {v : Value} {w w' : World} (h : ClB B bd v w) (hu : Ext w w') : ClB B bd v w' := Row.ext h hu
def AgB (B : Nat) (kd : UInt8) (bd : List UInt8) (v : Value) (w : World) : Prop := ∃ a n c, v = .agg #[u8 kd, .slice a n c] /\ Bytes (From B) w (.slice a n c) bd
theorem AgB.ext {B : Nat} {kd : UInt8} {bd : List UInt8} {v : Value} {w w' : World} (h : AgB B kd bd v w) (hu : Ext w w') : AgB B kd bd v w' := by obtain ⟨a, n, c, h1, h2⟩ := h; exact ⟨a, n, c, h1, h2.ext hu⟩
def StB (B g : Nat) (kd : UInt8) (bd : List UInt8) (_ : Value) (w : World) : Prop := ∃ a n c, w.heap[g]? = some (.cells #[u8 kd, .slice a n c] 258 (0, 0)) /\ Bytes (From B) w (.slice a n c) bd
theorem StB.ext {B g : Nat} {kd : UInt8} {bd : List UInt8} {v : Value} {w w' : World} (h : StB B g kd bd v w) (hu : Ext w w') : StB B g kd bd v w' := by obtain ⟨a, n, c, h1, h2⟩ := h; exact ⟨a, n, c, hu.at_ h1 id, h2.ext hu⟩
def ftaVal (b1 o1 L c en p B X : Nat) (A : List UInt8) : Nat -> Value
 | 0 => .slice (some ⟨b1, o1, none⟩) L c
 | 1 => .int .i64 (en : Int)
 | 2 => .int .i64 (en : Int)
 | 3 => .int .i64 ((en : Int) + 4)
 | 4 => .slice (some ⟨b1, o1 + en, none⟩) 4 (c - en)
 | 5 => .slice (some ⟨b1, o1, none⟩) L c
 | 6 => .int .i64 (p : Int)
 | 7 => .int .i64 (en : Int)
 | 8 => .slice (some ⟨b1, o1 + p, none⟩) (en - p) (c - p)
 | 10 => .bool (A == le4 X)
 | 11 => .bool (!(A == le4 X))
 | _ => undef
def ftaDst (i : Nat) : Tmp := 54 + i
theorem ftaDst_ne {j t : Nat} (ht : t = 0 \/ t = 1 \/ t = 9) (e : ftaDst j = t) : False := by
 unfold ftaDst at e
 have e : (54 + j : Nat) = t := e
 rcases ht with rfl | rfl | rfl <;> (repeat' (split at e)) <;> omega
def ftaPhi (b1 o1 L c en p B X : Nat) (A : List UInt8) (ix : Nat) (v : Value) (w : World) : Prop := if ix = 9 then SumRow B X v w else v = ftaVal b1 o1 L c en p B X A ix
theorem ftaPhi.ext {b1 o1 L c en p B X : Nat} {A : List UInt8} {ix : Nat} {v : Value} {w w' : World} (h : ftaPhi b1 o1 L c en p B X A ix v w) (hu : Ext w w') : ftaPhi b1 o1 L c en p B X A ix v w' := by
 unfold ftaPhi at h ⊢
 by_cases c : ix = 9
 ·rw [if_pos c] at h ⊢; exact h.ext hu
 ·rw [if_neg c] at h ⊢
  exact h
def ftbVal (b1 o1 L c en p q B g : Nat) (kd : UInt8) (bd : List UInt8) : Nat -> Value
 | 0 => .slice (some ⟨b1, o1, none⟩) L c
 | 1 => .int .i64 (p : Int)
 | 2 => .pointer (some ⟨b1, o1 + p, none⟩)
 | 3 => u8 kd
 | 4 => .slice (some ⟨b1, o1, none⟩) L c
 | 5 => .int .i64 (q : Int)
 | 6 => .int .i64 (en : Int)
 | 7 => .slice (some ⟨b1, o1 + q, none⟩) (en - q) (c - q)
 | 10 => .int .i64 (en : Int)
 | 11 => .int .i64 ((en : Int) + 4)
 | 13 => .int .i64 ((en : Int) + 4)
 | 14 => .int .i64 0
 | _ => undef
def ftbDst (i : Nat) : Tmp := if i = 12 then 1012 else if i = 13 then 5 else if i = 14 then 6 else 68 + i
theorem ftbDst_ne {j t : Nat} (ht : t = 0 \/ t = 1 \/ t = 4 \/ t = 8 \/ t = 9) (e : ftbDst j = t) : False := by
 unfold ftbDst at e
 have e : (if j = 12 then 1012 else if j = 13 then 5 else if j = 14 then 6 else 68 + j : Nat) = t := e
 rcases ht with rfl | rfl | rfl | rfl | rfl <;> (repeat' (split at e)) <;> omega
def ftbPhi (b1 o1 L c en p q B g : Nat) (kd : UInt8) (bd : List UInt8) (ix : Nat) (v : Value) (w : World) : Prop := if ix = 8 then ClB B bd v w else if ix = 9 then AgB B kd bd v w else if ix = 12 then StB B g kd bd v w else v = ftbVal b1 o1 L c en p q B g kd bd ix
theorem ftbPhi.ext {b1 o1 L c en p q B g : Nat} {kd : UInt8} {bd : List UInt8} {ix : Nat} {v : Value} {w w' : World} (h : ftbPhi b1 o1 L c en p q B g kd bd ix v w) (hu : Ext w w') : ftbPhi b1 o1 L c en p q B g kd bd ix v w' := by
 unfold ftbPhi at h ⊢
 by_cases c : ix = 8
 ·rw [if_pos c] at h ⊢; exact h.ext hu
 ·rw [if_neg c] at h ⊢
  by_cases c : ix = 9
  ·rw [if_pos c] at h ⊢; exact h.ext hu
  ·rw [if_neg c] at h ⊢
   by_cases c : ix = 12
   ·rw [if_pos c] at h ⊢; exact h.ext hu
   ·rw [if_neg c] at h ⊢
    exact h
theorem ftbPhi.pass {b1 o1 L c en p q B g : Nat} {kd : UInt8} {bd : List UInt8} (hgB : g < B) {i j : Nat} {v : Value} {w w' : World} (hne : i ≠ j) (h : ftbPhi b1 o1 L c en p q B g kd bd j v w) (hu : if i = 12 then Upd (At g) w w' else Ext w w') : ftbPhi b1 o1 L c en p q B g kd bd j v w' := by
 have hU : Upd (At g) w w' := by
  split at hu
  ·exact hu
  ·exact hu.mono (fun _ _ e => e.elim)
 have hd : ∀ k, From B k -> ¬ At g k := fun k h e => by unfold From at h; unfold At at e; omega
 unfold ftbPhi at h ⊢
 by_cases c8 : j = 8
 ·rw [if_pos c8] at h ⊢; exact Row.upd h hU hd
 ·rw [if_neg c8] at h ⊢
  by_cases c9 : j = 9
  ·rw [if_pos c9] at h ⊢; obtain ⟨a, n, c, h1, h2⟩ := h; exact ⟨a, n, c, h1, h2.upd hU hd⟩
  ·rw [if_neg c9] at h ⊢
   by_cases c12 : j = 12
   ·rw [if_pos c12] at h ⊢
    rw [if_neg (by omega)] at hu
    exact h.ext hu
   ·rw [if_neg c12] at h ⊢; exact h
theorem ftake_any {S : Nat -> Prop} (w : World) (v : Value) (l : List UInt8) (h : Bytes S w v l) (p : Nat) (hp : p <= l.length) (hl : l.length <= 1000000) :
  Calls Tryz.prog 158 #[v, .int .i64 p] w (FrPost w l p) := by
 have g0 := h.addr
 have H := zq h
 obtain ⟨a, c, rfl, hn, hm, -⟩ := h
 have G := zq g0
 clear g0
 unfold maxLen at hm
 obtain ⟨g, hg⟩ : ∃ g, g = w.heap.size := ⟨_, rfl⟩
 obtain ⟨wb, hwb⟩ : ∃ u, u = w.alloc (.cells frZ 258) := ⟨_, rfl⟩
 have HB := zq (show wb.heap[g]? = some (.cells frZ 258 (0, 0)) by rw [hwb, hg]; exact newAt _ _)
 have HX := zq (show Ext w wb by rw [hwb]; exact uZ.alloc _)
 have HWB := zq hwb
 have HG := zq hg
 have hxs : wb.heap.size = g + 1 := by rw [hwb, hg]; simp
 clear hwb hg
 by_cases hpl : p < l.length
 case neg =>
  have f1 : decide ((p : Int) < 0) = false := decide_eq_false (by omega)
  have f2 : decide ((l.length : Int) <= (p : Int)) = true := decide_eq_true (by omega)
  have HN := zq (show takeFr (l.drop p) = none by rw [List.drop_of_length_le (by omega)]; rfl)
  go_enter Tryz.func158, Tryz.ntmps158
  go_upto_region 1 with (fail)
  rw [show w.alloc (.cells frZ 258) = wb from HWB.out.symm, show w.heap.size = g from HG.out.symm]
  have hbb := HB.out
  go_wp2_with (refine wpList_store_blk rfl _ _ _ rfl rfl (cells := frZ) rfl hbb (Tryz.frT (.int .u8 0) (.slice none 0 0)) rfl frZ_one ?_)
  try simp only [Exit.inBlock, Exit.then]
  refine bodyPost_blk3 rfl rfl rfl (setRow_heap _ _ _ _ _ _ hbb) (Tryz.frT (.int .u8 0) (.slice none 0 0)) ?_
  exact ⟨fun k b n h => (by rw [HN.out] at h; cases h), fun _ => ⟨10, by decide, rfl⟩, HX.out.step (Upd.row _ g _) (fun k hk e => by unfold At at e; have := HG.out; omega)⟩
 obtain ⟨b1, o1, c1, e1, hS1, -, -, hq1⟩ := G.out (by omega)
 cases e1
 have hkd := bytes_cell hq1 p hpl
 obtain ⟨kd, hkde⟩ : ∃ kd, kd = l[p] := ⟨_, rfl⟩
 rw [<- hkde] at hkd
 obtain ⟨r, hr⟩ : ∃ r, r = l.drop (p + 1) := ⟨_, rfl⟩
 have hrl : r.length = l.length - (p + 1) := by rw [hr, List.length_drop]
 have hlp : l.drop p = kd :: r := by rw [hkde, hr]; exact List.drop_eq_getElem_cons hpl
 have f1 : decide ((p : Int) < 0) = false := decide_eq_false (by omega)
 have f2 : decide ((l.length : Int) <= (p : Int)) = false := decide_eq_false (by omega)
 have hcon := vTake_any wb _ l (H.out.ext HX.out) (p + 1) (by omega)
 rw [<- hr] at hcon
 have HT := zq (show takeFr (l.drop p) = _ from (congrArg takeFr hlp).trans (by rw [takeFr]))
 obtain ⟨L, hL1, hL2, hLL⟩ : ∃ L, L <= l.length /\ l.length <= L /\ L = l.length := ⟨_, Nat.le_refl _, Nat.le_refl _, rfl⟩
 rw [<- hLL] at hcon ⊢
 clear hLL
 obtain ⟨N, hN⟩ : ∃ N, N = (numF r).2.1 := ⟨_, rfl⟩
 obtain ⟨d, hd⟩ : ∃ d, d = (numF r).2.2 := ⟨_, rfl⟩
 obtain ⟨E, hE⟩ : ∃ E, E = (numF r).1 := ⟨_, rfl⟩
 rw [<- hN, <- hd, <- hE] at hcon HT
 have HOK := zq (show E = 0 -> N < 18446744073709551616 /\ d <= r.length from fun h0 => by
  obtain ⟨n1, -, -, n4⟩ := numF_ok (hE ▸ h0 : (numF r).1 = 0); rw [hN, hd]; exact ⟨n1, n4⟩)
 have HLP := zq hlp
 have HR := zq hr
 have HKD := zq hkd
 have HQ1 := zq hq1
 have HFX := zq (fun (W : World) (hx : Ext w W) => (show Ext w (W.setRow g frZ) from hx.step (Upd.row _ g _) (fun k hk e => by unfold At at e; have := HG.out; omega)))
 clear hlp hr hN hd hE hkd hq1 hkde f1 f2
 have hpL : p < L := by omega
 have f1 : decide ((p : Int) < 0) = false := decide_eq_false (by omega)
 have f2 : decide ((L : Int) <= (p : Int)) = false := decide_eq_false (by omega)
 go_enter Tryz.func158, Tryz.ntmps158
 go_upto_region 1 with (fail)
 rw [show w.alloc (.cells frZ 258) = wb from HWB.out.symm, show w.heap.size = g from HG.out.symm]
 go_wp2_with (go_at_call 145; fail)
 refine hcon.mono ?_
 rintro e w1 ⟨rfl, hx1⟩
 have HB1 := zq (hx1.at_ HB.out id)
 have HX1 := zq (HX.out.trans hx1)
 have hxs1 := hx1.size
 clear hx1 hcon
 by_cases h0 : E = 0
 case neg =>
  have hb : (E != 0) = true := by simpa using h0
  have HN := zq (show takeFr (l.drop p) = none by rw [HT.out, if_pos h0])
  have HE := zq h0
  clear h0 f1 f2
  have hbb := HB1.out
  go_wp2_with (refine wpList_store_blk rfl _ _ _ rfl rfl (cells := frZ) rfl hbb (Tryz.frT (.int .u8 0) (.slice none 0 0)) rfl frZ_one ?_)
  try simp only [Exit.inBlock, Exit.then]
  refine bodyPost_blk3 rfl rfl rfl (setRow_heap _ _ _ _ _ _ hbb) (Tryz.frT (.int .u8 0) (.slice none 0 0)) ?_
  exact ⟨fun k b n h => (by rw [HN.out] at h; cases h), fun _ => ⟨E, HE.out, rfl⟩, HFX.out _ HX1.out⟩
 subst h0
 obtain ⟨hN64, hdr⟩ := HOK.out rfl
 by_cases hbig : 65535 < N
 ·have HN := zq (show takeFr (l.drop p) = none by rw [HT.out, if_neg (by simp), if_pos hbig])
  have g1 : (65535 : Int) < (N : Int) := by omega
  clear hbig f1 f2
  have hbb := HB1.out
  go_wp2_with (refine wpList_store_blk rfl _ _ _ rfl rfl (cells := frZ) rfl hbb (Tryz.frT (.int .u8 0) (.slice none 0 0)) rfl frZ_one ?_)
  try simp only [Exit.inBlock, Exit.then]
  refine bodyPost_blk3 rfl rfl rfl (setRow_heap _ _ _ _ _ _ hbb) (Tryz.frT (.int .u8 0) (.slice none 0 0)) ?_
  exact ⟨fun k b n h => (by rw [HN.out] at h; cases h), fun _ => ⟨3, by decide, rfl⟩, HFX.out _ HX1.out⟩
 have g1 : ¬ (65535 : Int) < (N : Int) := by omega
 obtain ⟨q, hq⟩ : ∃ q, q = p + 1 + d := ⟨_, rfl⟩
 rw [show ((p + 1 + d : Nat) : Int) = (q : Int) by omega]
 by_cases hsh : r.length < d + N + 4
 ·have HN := zq (show takeFr (l.drop p) = none by rw [HT.out, if_neg (by simp), if_neg hbig, if_pos hsh])
  have g2 : (L : Int) - (q : Int) < (N : Int) + 4 := by omega
  clear hbig f1 f2 hsh
  have hbb := HB1.out
  go_wp2_with (refine wpList_store_blk rfl _ _ _ rfl rfl (cells := frZ) rfl hbb (Tryz.frT (.int .u8 0) (.slice none 0 0)) rfl frZ_one ?_)
  try simp only [Exit.inBlock, Exit.then]
  refine bodyPost_blk3 rfl rfl rfl (setRow_heap _ _ _ _ _ _ hbb) (Tryz.frT (.int .u8 0) (.slice none 0 0)) ?_
  exact ⟨fun k b n h => (by rw [HN.out] at h; cases h), fun _ => ⟨10, by decide, rfl⟩, HFX.out _ HX1.out⟩
 have g2 : ¬ (L : Int) - (q : Int) < (N : Int) + 4 := by omega
 obtain ⟨en, hen⟩ : ∃ en, en = q + N := ⟨_, rfl⟩
 have henl : en + 4 <= L := by omega
 have hpen : p <= en := by omega
 have hqen : q <= en := by omega
 obtain ⟨A, hA⟩ : ∃ A, A = (l.drop en).take 4 := ⟨_, rfl⟩
 obtain ⟨Y, hY⟩ : ∃ Y, Y = (l.drop p).take (en - p) := ⟨_, rfl⟩
 obtain ⟨bd, hbd⟩ : ∃ bd, bd = (l.drop q).take (en - q) := ⟨_, rfl⟩
 have HA := zq (show Bytes (fun _ => True) w (.slice (some ⟨b1, o1 + en, none⟩) 4 (c - en)) A by rw [hA]; exact Row.slice HQ1.out trivial (by unfold maxLen; omega) hn (by omega))
 have HY := zq (show Bytes (fun _ => True) w (.slice (some ⟨b1, o1 + p, none⟩) (en - p) (c - p)) Y by rw [hY]; exact Row.slice HQ1.out trivial (by unfold maxLen; omega) hn (by omega))
 have HBD := zq (show Bytes (fun _ => True) w (.slice (some ⟨b1, o1 + q, none⟩) (en - q) (c - q)) bd by rw [hbd]; exact Row.slice HQ1.out trivial (by unfold maxLen; omega) hn (by omega))
 have hTT : takeFr (l.drop p) = if A = le4 (crcF Y) then some (kd, bd, en + 4 - p) else none := by
  rw [HT.out, if_neg (by simp), if_neg hbig, if_neg hsh, <- HLP.out, hA, hY, hbd, List.drop_drop, HR.out, List.drop_drop]
  rw [show p + (1 + d + N) = en by omega, show 1 + d + N = en - p by omega, show p + 1 + d = q by omega, show en - p + 4 = en + 4 - p by omega, show N = en - q by omega]
 obtain ⟨X, hX⟩ : ∃ X, X = crcF Y := ⟨_, rfl⟩
 rw [<- hX] at hTT
 have HXE := zq hX
 have HTT := zq hTT
 clear hX
 have HBL := zq (show bd.length <= 70368744177664 by rw [hbd]; simp; omega)
 have hqe : (q : Int) + (N : Int) = (en : Int) := by omega
 clear hTT hA hY hbd hbig hsh hen hq hrl hdr hN64
 obtain ⟨B, hBE⟩ : ∃ B, B = w1.heap.size := ⟨_, rfl⟩
 have HBS := zq (show B <= w1.heap.size by omega)
 have hgB : g < B := by omega
 have HQN := zq hqe
 have hq2 : q <= L := by omega
 have hc1 : L <= c := by omega
 clear hBE
 go_upto_region 11 with (fail)
 refine wp_region_invH Nothing (fun _ => Ext) 1000 ftaDst (ftaPhi b1 o1 L c en p B X A) 80 (by kernel_rfl) (by decide) (by decide) rfl (fun i hi => .inl ((by decide : ∀ i, i < 12 -> ftaDst i < 80) i hi)) (fun i w w' h => ⟨h, fun _ => h⟩) (fun i j v w w' _ _ _ _ h hu => h.ext hu) ?_ ?_
 ·intro i o b' w1' ho hx1' hd hk hE hSZ
  have hi : i < 12 := (Array.getElem?_eq_some_iff.1 ho).1
  have his : i = 0 \/ i = 1 \/ i = 2 \/ i = 3 \/ i = 4 \/ i = 5 \/ i = 6 \/ i = 7 \/ i = 8 \/ i = 9 \/ i = 10 \/ i = 11 := by omega
  clear hE hSZ
  have HW1 := zq hx1'
  clear hx1'
  rcases his with rfl | rfl | rfl | rfl | rfl | rfl | rfl | rfl | rfl | rfl | rfl | rfl
  all_goals (simp at ho; subst ho)
  case inl =>
   refine .inl ⟨rfl, ?_⟩
   have o0 : b'.tmps[0]?.getD undef = .slice (some ⟨b1, o1, none⟩) L c := tAt (hk 0 (fun j oj _ e => (ftaDst_ne (by decide) e).elim))
   clear hd hk
   go_step
   exact ⟨_, rfl, rfl, uZ⟩
  ·
   refine .inl ⟨rfl, ?_⟩
   have o9 : b'.tmps[9]?.getD undef = .int .i64 (en : Int) := tAt (hk 9 (fun j oj _ e => (ftaDst_ne (by decide) e).elim))
   clear hd hk
   go_step
   exact ⟨_, rfl, rfl, uZ⟩
  ·
   refine .inl ⟨rfl, ?_⟩
   have o9 : b'.tmps[9]?.getD undef = .int .i64 (en : Int) := tAt (hk 9 (fun j oj _ e => (ftaDst_ne (by decide) e).elim))
   clear hd hk
   go_step
   exact ⟨_, rfl, rfl, uZ⟩
  ·
   refine .inl ⟨rfl, ?_⟩
   have e2 : b'.tmps[56]?.getD undef = .int .i64 (en : Int) := tAt (hd ⟨2, .data⟩ (by simp) rfl)
   clear hd hk
   go_step
   exact ⟨_, rfl, rfl, uZ⟩
  ·
   refine .inl ⟨rfl, ?_⟩
   have e0 : b'.tmps[54]?.getD undef = .slice (some ⟨b1, o1, none⟩) L c := tAt (hd ⟨0, .data⟩ (by simp) rfl)
   have e1 : b'.tmps[55]?.getD undef = .int .i64 (en : Int) := tAt (hd ⟨1, .data⟩ (by simp) rfl)
   have e3 : b'.tmps[57]?.getD undef = .int .i64 ((en : Int) + 4) := tAt (hd ⟨3, .data⟩ (by simp) rfl)
   have hslc := slice_at (b := b1) (o := o1) (L := L) (c := c) (lo := en) (n := 4) (by omega) (by omega) (x := (en : Int)) (y := (en : Int) + 4) (by omega) (by omega)
   clear hd hk
   go_step
   exact ⟨_, rfl, rfl, uZ⟩
  ·
   refine .inl ⟨rfl, ?_⟩
   have o0 : b'.tmps[0]?.getD undef = .slice (some ⟨b1, o1, none⟩) L c := tAt (hk 0 (fun j oj _ e => (ftaDst_ne (by decide) e).elim))
   clear hd hk
   go_step
   exact ⟨_, rfl, rfl, uZ⟩
  ·
   refine .inl ⟨rfl, ?_⟩
   have o1 : b'.tmps[1]?.getD undef = .int .i64 (p : Int) := tAt (hk 1 (fun j oj _ e => (ftaDst_ne (by decide) e).elim))
   clear hd hk
   go_step
   exact ⟨_, rfl, rfl, uZ⟩
  ·
   refine .inl ⟨rfl, ?_⟩
   have o9 : b'.tmps[9]?.getD undef = .int .i64 (en : Int) := tAt (hk 9 (fun j oj _ e => (ftaDst_ne (by decide) e).elim))
   clear hd hk
   go_step
   exact ⟨_, rfl, rfl, uZ⟩
  ·
   refine .inl ⟨rfl, ?_⟩
   have e5 : b'.tmps[59]?.getD undef = .slice (some ⟨b1, o1, none⟩) L c := tAt (hd ⟨5, .data⟩ (by simp) rfl)
   have e6 : b'.tmps[60]?.getD undef = .int .i64 (p : Int) := tAt (hd ⟨6, .data⟩ (by simp) rfl)
   have e7 : b'.tmps[61]?.getD undef = .int .i64 (en : Int) := tAt (hd ⟨7, .data⟩ (by simp) rfl)
   have hslc := slice_at (b := b1) (o := o1) (L := L) (c := c) (lo := p) (n := en - p) (by omega) (by omega) (x := (p : Int)) (y := (en : Int)) (by omega) (by omega)
   clear hd hk
   go_step
   exact ⟨_, rfl, rfl, uZ⟩
  ·
   refine .inl ⟨rfl, ?_⟩
   have e8 : b'.tmps[62]?.getD undef = .slice (some ⟨b1, o1 + p, none⟩) (en - p) (c - p) := tAt (hd ⟨8, .data⟩ (by simp) rfl)
   clear hd hk
   go_step
   refine (summed_any w1' _ Y (HY.out.ext (HX1.out.trans HW1.out))).mono ?_
   rintro e w2 ⟨v2, rfl, hb2, hu⟩
   rw [<- HXE.out] at hb2
   exact ⟨_, rfl, hb2.mono (fun k hk => Nat.le_trans (by have := HW1.out.size; have := HBS.out; omega) hk), hu⟩
  ·
   refine .inl ⟨rfl, ?_⟩
   have e4 : b'.tmps[58]?.getD undef = .slice (some ⟨b1, o1 + en, none⟩) 4 (c - en) := tAt (hd ⟨4, .data⟩ (by simp) rfl)
   have h9 := hd ⟨9, .data⟩ (by simp) rfl
   have h9 : SumRow B X (b'.tmps.getD 63 undef) w1' := h9
   obtain ⟨a9, c9, q9, -⟩ := id h9
   have e9 : b'.tmps[63]?.getD undef = .slice a9 (le4 X).length c9 := by simpa using q9
   rw [show b'.tmps.getD 63 undef = .slice a9 (le4 X).length c9 from q9] at h9
   clear hd hk
   go_step
   refine (eqBytes_any w1' _ _ A (le4 X) (HA.out.ext (HX1.out.trans HW1.out)) h9).mono ?_
   rintro e w2 ⟨rfl, hu⟩
   exact ⟨_, rfl, rfl, hu⟩
  ·
   refine .inl ⟨rfl, ?_⟩
   have e10 : b'.tmps[64]?.getD undef = .bool (A == le4 X) := tAt (hd ⟨10, .data⟩ (by simp) rfl)
   clear hd hk
   go_step
   exact ⟨_, rfl, rfl, uZ⟩
 ·intro v w1' hx1' hp
  have h11 : v 11 = .bool (!(A == le4 X)) := hp 11 (by decide)
  have HX2 := zq (HX1.out.trans hx1')
  have HB2 := zq (hx1'.at_ HB1.out id)
  have HBS2 := zq (Nat.le_trans HBS.out hx1'.size)
  clear hp hx1'
  simp only [List.size_toArray, List.length_cons, List.length_nil, Nat.reduceAdd, fillAll, ftaDst]
  go_simp
  clear h11
  by_cases hAe : A = le4 X
  case neg =>
   have hbq : (A == le4 X) = false := by simpa using hAe
   have HN := zq (show takeFr (l.drop p) = none by rw [HTT.out, if_neg hAe])
   rw [hbq]
   clear hbq hAe f1 f2 g1 g2
   have hbb := HB2.out
   go_wp2_with (refine wpList_store_blk rfl _ _ _ rfl rfl (cells := frZ) rfl hbb (Tryz.frT (.int .u8 0) (.slice none 0 0)) rfl frZ_one ?_)
   try simp only [Exit.inBlock, Exit.then]
   refine bodyPost_blk3 rfl rfl rfl (setRow_heap _ _ _ _ _ _ hbb) (Tryz.frT (.int .u8 0) (.slice none 0 0)) ?_
   exact ⟨fun k b n h => (by rw [HN.out] at h; cases h), fun _ => ⟨30, by decide, rfl⟩, HFX.out _ HX2.out⟩
  have hbq : (A == le4 X) = true := by simpa using hAe
  have HS := zq (show takeFr (l.drop p) = some (kd, bd, en + 4 - p) by rw [HTT.out, if_pos hAe])
  rw [hbq]
  clear hbq hAe
  have HKD2 := zq (HX2.out.cell HKD.out id)
  have HBD2 := zq (HBD.out.ext HX2.out)
  obtain ⟨w2, hw2⟩ : ∃ u, u = w1' := ⟨_, rfl⟩
  subst hw2
  go_upto_region 13 with (fail)
  refine wp_region_invH (At g) (fun i w w' => if i = 12 then Upd (At g) w w' else Ext w w') 12 ftbDst (ftbPhi b1 o1 L c en p q B g kd bd) 80 (by kernel_rfl) (by decide) (by decide) rfl (fun i hi => if e : i = 12 then .inr (fun v v' w h => by subst e; exact h) else .inl ((by decide : ∀ i, i < 15 -> i ≠ 12 -> ftbDst i < 80) i hi e)) (fun i w w' h => by by_cases e : i = 12; (rw [if_pos e] at h; exact ⟨h, fun he => absurd e he⟩); (rw [if_neg e] at h; exact ⟨h.mono (fun _ _ e => e.elim), fun _ => h⟩)) (fun i j v w w' _ _ hne _ h hu => ftbPhi.pass hgB hne h hu) ?_ ?_
  ·intro i o b' w1' ho hx1' hd hk hE hSZ
   have hi : i < 15 := (Array.getElem?_eq_some_iff.1 ho).1
   have his : i = 0 \/ i = 1 \/ i = 2 \/ i = 3 \/ i = 4 \/ i = 5 \/ i = 6 \/ i = 7 \/ i = 8 \/ i = 9 \/ i = 10 \/ i = 11 \/ i = 12 \/ i = 13 \/ i = 14 := by omega
   have HEE := zq hE
   have HSZ := zq hSZ
   clear hE hSZ
   have HW1 := zq hx1'
   clear hx1'
   rcases his with rfl | rfl | rfl | rfl | rfl | rfl | rfl | rfl | rfl | rfl | rfl | rfl | rfl | rfl | rfl
   all_goals (simp at ho; subst ho)
   case inl =>
    refine .inl ⟨rfl, ?_⟩
    have o0 : b'.tmps[0]?.getD undef = .slice (some ⟨b1, o1, none⟩) L c := tAt (hk 0 (fun j oj _ e => (ftbDst_ne (by decide) e).elim))
    clear hd hk
    go_step
    exact ⟨_, rfl, rfl, uZ⟩
   ·
    refine .inl ⟨rfl, ?_⟩
    have o1 : b'.tmps[1]?.getD undef = .int .i64 (p : Int) := tAt (hk 1 (fun j oj _ e => (ftbDst_ne (by decide) e).elim))
    clear hd hk
    go_step
    exact ⟨_, rfl, rfl, uZ⟩
   ·
    refine .inl ⟨rfl, ?_⟩
    have e0 : b'.tmps[68]?.getD undef = .slice (some ⟨b1, o1, none⟩) L c := tAt (hd ⟨0, .data⟩ (by simp) rfl)
    have e1 : b'.tmps[69]?.getD undef = .int .i64 (p : Int) := tAt (hd ⟨1, .data⟩ (by simp) rfl)
    clear hd hk
    go_step
    exact ⟨_, rfl, rfl, uZ⟩
   ·
    refine .inl ⟨rfl, ?_⟩
    have e2 : b'.tmps[70]?.getD undef = .pointer (some ⟨b1, o1 + p, none⟩) := tAt (hd ⟨2, .data⟩ (by simp) rfl)
    have hcc := (HEE.out (.inr (by kernel_rfl))).cell HKD2.out id
    clear hd hk
    go_step
    exact ⟨_, rfl, rfl, uZ⟩
   ·
    refine .inl ⟨rfl, ?_⟩
    have o0 : b'.tmps[0]?.getD undef = .slice (some ⟨b1, o1, none⟩) L c := tAt (hk 0 (fun j oj _ e => (ftbDst_ne (by decide) e).elim))
    clear hd hk
    go_step
    exact ⟨_, rfl, rfl, uZ⟩
   ·
    refine .inl ⟨rfl, ?_⟩
    have o8 : b'.tmps[8]?.getD undef = .int .i64 (q : Int) := tAt (hk 8 (fun j oj _ e => (ftbDst_ne (by decide) e).elim))
    clear hd hk
    go_step
    exact ⟨_, rfl, rfl, uZ⟩
   ·
    refine .inl ⟨rfl, ?_⟩
    have o9 : b'.tmps[9]?.getD undef = .int .i64 (en : Int) := tAt (hk 9 (fun j oj _ e => (ftbDst_ne (by decide) e).elim))
    clear hd hk
    go_step
    exact ⟨_, rfl, rfl, uZ⟩
   ·
    refine .inl ⟨rfl, ?_⟩
    have e4 : b'.tmps[72]?.getD undef = .slice (some ⟨b1, o1, none⟩) L c := tAt (hd ⟨4, .data⟩ (by simp) rfl)
    have e5 : b'.tmps[73]?.getD undef = .int .i64 (q : Int) := tAt (hd ⟨5, .data⟩ (by simp) rfl)
    have e6 : b'.tmps[74]?.getD undef = .int .i64 (en : Int) := tAt (hd ⟨6, .data⟩ (by simp) rfl)
    have hslc := slice_at (b := b1) (o := o1) (L := L) (c := c) (lo := q) (n := en - q) (by omega) (by omega) (x := (q : Int)) (y := (en : Int)) (by omega) (by omega)
    clear hd hk
    go_step
    exact ⟨_, rfl, rfl, uZ⟩
   ·
    refine .inl ⟨rfl, ?_⟩
    have e7 : b'.tmps[75]?.getD undef = .slice (some ⟨b1, o1 + q, none⟩) (en - q) (c - q) := tAt (hd ⟨7, .data⟩ (by simp) rfl)
    have HW1E := zq (HEE.out (.inr (by kernel_rfl)))
    clear hd hk
    go_step
    refine (cloneB_any w1' _ bd (HBD2.out.ext HW1E.out) HBL.out).mono ?_
    rintro e w3 ⟨v2, rfl, hb2, hu⟩
    exact ⟨_, rfl, hb2.mono (fun k hk => Nat.le_trans (by have := HW1.out.size; have := HBS2.out; omega) hk), hu⟩
   ·
    refine .inl ⟨rfl, ?_⟩
    have e3 : b'.tmps[71]?.getD undef = u8 kd := tAt (hd ⟨3, .data⟩ (by simp) rfl)
    have h8 := hd ⟨8, .data⟩ (by simp) rfl
    have h8 : ClB B bd (b'.tmps.getD 76 undef) w1' := h8
    obtain ⟨a8, c8, q8, -⟩ := id h8
    have e8 : b'.tmps[76]?.getD undef = .slice a8 bd.length c8 := by simpa using q8
    rw [show b'.tmps.getD 76 undef = .slice a8 bd.length c8 from q8] at h8
    clear hd hk
    go_step
    exact ⟨_, rfl, ⟨_, _, _, rfl, h8⟩, uZ⟩
   ·
    refine .inl ⟨rfl, ?_⟩
    have o9 : b'.tmps[9]?.getD undef = .int .i64 (en : Int) := tAt (hk 9 (fun j oj _ e => (ftbDst_ne (by decide) e).elim))
    clear hd hk
    go_step
    exact ⟨_, rfl, rfl, uZ⟩
   ·
    refine .inl ⟨rfl, ?_⟩
    have e10 : b'.tmps[78]?.getD undef = .int .i64 (en : Int) := tAt (hd ⟨10, .data⟩ (by simp) rfl)
    clear hd hk
    go_step
    exact ⟨_, rfl, rfl, uZ⟩
   ·
    refine .inl ⟨rfl, ?_⟩
    have o4 : b'.tmps[4]?.getD undef = .pointer (some ⟨g, 0, none⟩) := tAt (hk 4 (fun j oj _ e => (ftbDst_ne (by decide) e).elim))
    have h9 := hd ⟨9, .data⟩ (by simp) rfl
    have h9 : AgB B kd bd (b'.tmps.getD 77 undef) w1' := h9
    obtain ⟨a9, n9, c9, q9, r9⟩ := h9
    have e9 : b'.tmps[77]?.getD undef = .agg #[u8 kd, .slice a9 n9 c9] := by simpa using q9
    have hgb := (HEE.out (.inl rfl)).at_ HB2.out id
    have hz0 := cZ hgb 0 _ rfl
    have hz1 := cZ hgb 1 _ rfl
    have hf0 := freeAt hgb 0
    have hf1 := freeAt hgb 1
    have hlg := lZ hgb
    clear hd hk
    go_step
    refine ⟨undef, put_past (by rw [HSZ.out]; show 80 <= ftbDst 12; decide), ?_, ?_⟩
    ·have q1 := setAt (j := 0) (u := Value.int .u8 ((kd.toNat : Nat) : Int)) hgb
     have q2 := setAt (j := 1) (u := Value.slice a9 n9 c9) q1
     refine ⟨a9, n9, c9, q2, r9.upd (T := At g) ?_ (fun k h e => by have h : B <= k := h; have e : k = g := e; omega)⟩
     exact ((Upd.refl (At g) w1').setCell (p := ⟨g, 0, none⟩) (fun _ => rfl) _).setCell (p := ⟨g, 1, none⟩) (fun _ => rfl) _
    ·exact ((Upd.refl (At g) w1').setCell (p := ⟨g, 0, none⟩) (fun _ => rfl) _).setCell (p := ⟨g, 1, none⟩) (fun _ => rfl) _
   ·
    refine .inl ⟨rfl, ?_⟩
    have e11 : b'.tmps[79]?.getD undef = .int .i64 ((en : Int) + 4) := tAt (hd ⟨11, .data⟩ (by simp) rfl)
    clear hd hk
    go_step
    exact ⟨_, rfl, rfl, uZ⟩
   ·
    refine .inl ⟨rfl, ?_⟩
    clear hd hk
    go_step
    exact ⟨_, rfl, rfl, uZ⟩
  ·intro v w1' hx1' hp
   have h12 : StB B g kd bd (v 12) w1' := hp 12 (by decide)
   have h13 : v 13 = .int .i64 ((en : Int) + 4) := hp 13 (by decide)
   have h14 : v 14 = .int .i64 0 := hp 14 (by decide)
   have HX3 := zq (HX2.out.step (T := At g) hx1' (fun k hk e => by have e : k = g := e; have := HG.out; omega))
   clear hp hx1'
   obtain ⟨a9, n9, c9, q9, r9⟩ := h12
   have HR9 := zq r9
   have HQ9 := zq q9
   clear q9 r9
   simp only [List.size_toArray, List.length_cons, List.length_nil, Nat.reduceAdd, fillAll, ftbDst]
   go_simp
   clear h13 h14
   go_wp2
   refine bodyPost_blk3 rfl rfl rfl HQ9.out (Tryz.frT _ _) ?_
   refine ⟨fun k b n h => ?_, fun h => (by rw [HS.out] at h; cases h), HX3.out⟩
   rw [HS.out] at h
   simp only [Option.some.injEq, Prod.mk.injEq] at h
   obtain ⟨rfl, rfl, rfl⟩ := h
   exact ⟨_, by rw [show ((p + (en + 4 - p) : Nat) : Int) = (en : Int) + 4 by omega]; rfl, HR9.out.mono (fun k hk => by have := HX.out.size; unfold From at hk ⊢; omega)⟩
end Go.Proofs.YtnkmpoplibnflaaGreatDoor.Wk
set_option maxRecDepth 100000
set_option maxHeartbeats 16000000
namespace Go.Proofs.YtnkmpoplibnflaaGreatDoor.Wk
open Go Go.Proofs.YtnkmpoplibnflaaGreatDoor Go.RowKit
theorem Tryz.rfrT (x y : Value) : StructT Tryz.prog 131 (#[x, y] : Array Value).size := ⟨_, Tryz.underlying131, rfl, by kernel_rfl⟩
theorem le4_at (n : Nat) : ∀ k, k < 4 -> (le4 n).take (k + 1) = (le4 n).take k ++ [UInt8.ofNat (n / 256 ^ k)] := by
 intro k hk
 have : k = 0 \/ k = 1 \/ k = 2 \/ k = 3 := by omega
 rcases this with rfl | rfl | rfl | rfl <;> simp [le4]
theorem rbytes_any {S : Nat -> Prop} (w : World) (kd : UInt8) (vb : Value) (bd : List UInt8) (h : Bytes S w vb bd) (hl : bd.length <= 1000000) :
  Calls Tryz.prog 91 #[.agg #[u8 kd, vb]] w fun e w' => ∃ v', e = .returned v' /\ Bytes (From w.heap.size) w' v' (frameF kd bd) /\ Ext w w' := by
 have H := zq h
 obtain ⟨a, c, rfl, hn, hm, -⟩ := h
 unfold maxLen at hm
 obtain ⟨g, hg⟩ : ∃ g, g = w.heap.size := ⟨_, rfl⟩
 obtain ⟨wb, hwb⟩ : ∃ u, u = w.alloc (.cells #[u8 kd, .slice a bd.length c] 131) := ⟨_, rfl⟩
 have HB := zq (show wb.heap[g]? = some (.cells #[u8 kd, .slice a bd.length c] 131 (0, 0)) by rw [hwb, hg]; exact newAt _ _)
 have HX := zq (show Ext w wb by rw [hwb]; exact uZ.alloc _)
 have HWB := zq hwb
 have HG := zq hg
 have hgb : w.heap.size <= g := by omega
 have hwbs : wb.heap.size = g + 1 := by rw [hwb, hg]; simp
 clear hwb hg
 have hvl := vput_len_le (n := bd.length) (by omega)
 have c0 : wb.cell? ⟨g, 0, none⟩ = some (u8 kd) := cZ HB.out 0 _ rfl
 have c1 : wb.cell? ⟨g, 1, none⟩ = some (.slice a bd.length c) := cZ HB.out 1 _ rfl
 go_enter Tryz.func91, Tryz.ntmps91
 go_upto_region 1 with (fail)
 rw [show w.alloc (.cells #[u8 kd, .slice a bd.length c] 131) = wb from HWB.out.symm, show w.heap.size = g from HG.out.symm]
 have h0 : (wb.alloc (.cells #[u8 kd] 5)).ownsRow (g + 1) 5 1 (.slice (some ⟨g + 1, 0, none⟩) 1 1) 1 [u8 kd] := by
  rw [<- hwbs]; exact World.ownsRow_lit wb #[u8 kd] 1 (Nat.le_refl _) (by decide) rfl
 have hxa : Ext wb (wb.alloc (.cells #[u8 kd] 5)) := uZ.alloc _
 have c1 := hxa.cell c1 id
 have H0 := zq h0
 have HXA := zq hxa
 have C1 := zq c1
 clear h0 hxa
 go_wp2_with (go_at_call 96; fail)
 obtain ⟨wa, hwa⟩ : ∃ u, u = wb.alloc (.cells #[u8 kd] 5) := ⟨_, rfl⟩
 rw [<- hwa] at H0 HXA C1
 rw [show wb.alloc (.cells #[u8 kd] 5) = wa from hwa.symm]
 have hws : wa.heap.size = g + 2 := by rw [hwa]; simp [hwbs]
 clear hwa c0 c1
 refine (rPut_any wa bd.length (by omega)).mono ?_
 rintro e w2 ⟨v2, rfl, hown2, hx2⟩
 have h1 := hx2.ownsRow H0.out (fun _ _ e => e)
 have hr2 := Row.of_owns hown2
 have hs2 := hx2.size
 have C2 := zq (hx2.cell C1.out id)
 have HX2 := zq ((HX.out.trans HXA.out).trans hx2)
 clear hx2 hown2
 go_wp2_with (at_builtin; go_must (refine wpList_append_row rfl _ _ _ rfl Tryz.bytesT rfl h1 rfl hr2 (by simp) (u8_one _) ?c3 ?c4 ?c5 ?_))
 case c3 => unfold maxLen; omega
 case c4 => omega
 case c5 => first | omega | (simp; omega)
 intro v3 w3 hown3 hg3 _
 have hx3 := HX2.out.grown hg3 (fun j hj h => by have e := (h1.lt j hj).1; omega)
 have c3 : w3.cell? ⟨g, 1, none⟩ = some (.slice a bd.length c) := (grownUpd hg3).cell C2.out (fun e => by simp [Value.ownBlock] at e)
 have HX3 := zq hx3
 have hs3 := (grownUpd hg3).size
 clear hx3 hg3 h1 hr2
 obtain ⟨a3, n3, k3, rfl⟩ := ownsForm hown3
 have hrb := H.out.ext HX3.out
 go_wp2_with (at_builtin; go_must (refine wpList_append_row rfl _ _ _ rfl Tryz.bytesT rfl hown3 rfl hrb (by simp) (u8_one _) ?c3 ?c4 ?c5 ?_))
 case c3 => unfold maxLen; omega
 case c4 => omega
 case c5 => omega
 intro v4 w4 hown4 hg4 _
 have hs4 := (grownUpd hg4).size
 have HX4 := zq (HX3.out.grown hg4 (fun j hj h => by have e := (hown3.lt j hj).1; omega))
 clear hg4 hown3 hrb
 obtain ⟨a4, n4, k4, rfl⟩ := ownsForm hown4
 have hh : u8 kd :: ((vput bd.length).map u8 ++ bd.map u8) = (frHead kd bd).map u8 := by simp [frHead]
 rw [hh] at hown4
 have hnl : 1 + (vput bd.length).length + bd.length = (frHead kd bd).length := (frHead_len _ _).symm
 rw [hnl] at hown4
 have hfl := frHead_len kd bd
 obtain ⟨X, hX⟩ : ∃ X, X = frHead kd bd := ⟨_, rfl⟩
 have hFr : frameF kd bd = X ++ le4 (crcF X) := by rw [hX]; rfl
 rw [<- hX] at hown4 hfl
 have HFR := zq hFr
 have hXl : X.length <= 1000011 := by omega
 clear hX hFr hh hnl hfl c3 C2
 have hr4 := Row.of_owns hown4
 have HO4 := zq hown4
 have n4 : n4 = X.length := by obtain ⟨_, _, q, -⟩ := hr4; cases q; rfl
 subst n4
 have hcrc := crcF_lt X
 go_wp2_with (go_at_call 113; fail)
 refine (rsum1_any _ _ (.slice a4 X.length k4) X (row_new _ _ _ 1 _ (by decide) rfl) (hr4.ext (uZ.alloc _)) (by omega)).mono ?_
 rintro e w5 ⟨rfl, hx5⟩
 have hx45 : Ext w4 w5 := (uZ.alloc _).trans hx5
 have hown5 := hx45.ownsRow HO4.out (fun _ _ e => e)
 have HX5 := zq (HX4.out.trans hx45)
 have hs5 := hx45.size
 clear hx5 hx45 hown4 hr4
 obtain ⟨n, hn⟩ : ∃ n, n = crcF X := ⟨_, rfl⟩
 rw [<- hn] at hcrc HFR ⊢
 clear hn
 go_wp2
 go_loopw [3, 4, 5] (fun r x i wr => ∃ k : Nat, k <= 4 /\ i = .int .i64 k /\ x = .int .u32 ((n / 256 ^ k : Nat) : Int) /\ wr.ownsRow (g + 1) 5 1 r (X.length + k) ((X ++ (le4 n).take k).map u8) /\ Ext w wr /\ g + 2 <= wr.heap.size) (fun _ _ i _ => 4 - (intOf i).toNat)
 case atStart => exact ⟨0, by omega, rfl, by simp, by simpa using hown5, HX5.out, by omega⟩
 case round =>
  obtain ⟨k, hk, rfl, rfl, hown, hx, hg2⟩ := hrel
  have HXr := zq hx
  have hsr := hx.size
  clear hx hown5
  obtain ⟨m, hm⟩ : ∃ m, m = n / 256 ^ k := ⟨_, rfl⟩
  have hm1 : m < 4294967296 := by rw [hm]; exact Nat.lt_of_le_of_lt (Nat.div_le_self _ _) hcrc
  by_cases hk4 : k < 4
  ·have HT := zq (le4_at n k hk4)
   have hmn : m / 256 = n / 256 ^ (k + 1) := by rw [hm, Nat.div_div_eq_div_mul, Nat.pow_succ]
   rw [<- hm] at HT ⊢
   have HMN := zq hmn
   have hby := u8_ofNat m
   have HBY := zq hby
   clear hm hmn hby
   go_wp2_with (at_builtin; go_must (refine wpList_append_row rfl _ _ _ rfl Tryz.bytesT rfl (hown.alloc _) rfl (row_new _ _ _ 1 _ (by decide) (by simp)) rfl (by intro u hu; simp at hu; subst hu; rfl) ?c3 ?c4 ?c5 ?_))
   case c3 => unfold maxLen; omega
   case c4 => omega
   case c5 => first | omega | (simp; omega)
   intro v7 w7 hown7 hg7 _
   go_wp2
   go_roundw
   case rel =>
    refine ⟨k + 1, by omega, by go_num, ?_, ?_, (HXr.out.alloc _).grown hg7 (fun j hj h => by have := (hown.lt j hj).1; omega), by have := (grownUpd hg7).size; simp at this; omega⟩
    ·rw [<- HMN.out]; first | rfl | (congr 1; omega)
    ·rw [HT.out, List.map_append, List.map_append, <- Nat.add_assoc]
     have hq : List.map u8 [UInt8.ofNat m] = [Value.int IntKind.u8 ((m : Int) % 256)] := by rw [HBY.out]; rfl
     rw [hq, List.map_take]
     exact hown7
   case measure => simp [intOf]; omega
  ·have : k = 4 := by omega
   subst this
   go_wp2
   go_ret
   refine ⟨_, rfl, ?_, HXr.out⟩
   rw [HFR.out]
   have hq := (Row.of_owns hown).mono (T := From w.heap.size) (fun k hk => by have hk : g + 1 <= k := hk; show w.heap.size <= k; omega)
   rw [List.take_of_length_le (by simp [le4])] at hq
   show Row _ _ _ (X ++ le4 n).length _
   rw [show (X ++ le4 n).length = X.length + 4 by simp [le4]]
   exact hq
end Go.Proofs.YtnkmpoplibnflaaGreatDoor.Wk
