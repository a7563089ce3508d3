/-
  CONTRACTS of state's compare, rises. Condition: at most 1000000 lives.
  CONTRACT of the catalog's IsName. Conditions: none.
-/
import Derived.Test.YtnkmpoplibnflaaGreatDoorGAP
import Derived.Test.YtnkmpoplibnflaaGreatDoorGAB
import Derived.Test.YtnkmpoplibnflaaGreatDoorGAR
import Derived.Deep.MidRow
import Derived.Test.YtnkmpoplibnflaaGreatDoorGAO
import Derived.WalkKit
import Derived.WalkMore
set_option maxRecDepth 100000
set_option maxHeartbeats 16000000
namespace Go.Proofs.YtnkmpoplibnflaaGreatDoor.Wk
open Go Go.Proofs.YtnkmpoplibnflaaGreatDoor Go.RowKit
def TwoInts (l : List Int) (v : Value) (w : World) : Prop := Row (fun _ => True) w v l.length (l.map i64)
theorem TwoInts.ext {l : List Int} {v : Value} {w w' : World} (h : TwoInts l v w) (hu : Ext w w') : TwoInts l v w' := by
 unfold TwoInts at h ⊢
 exact Row.ext h hu
def whoCmp (x y : Tr) : Int := orF [cmpN x.1 y.1, cmpN x.2.1 y.2.1]
theorem whoCmp_ge (x y : Tr) : decide (0 <= whoCmp x y) = !trLt x y := by
 unfold whoCmp trLt cmpN
 by_cases a : x.1 < y.1
 ·have b : ¬ y.1 < x.1 := by omega
  simp [orF, a]
 ·by_cases b : y.1 < x.1
  ·have e : ¬ x.1 = y.1 := by omega
   simp [orF, a, b, e]
  ·have e : x.1 = y.1 := by omega
   by_cases c : x.2.1 < y.2.1
   ·simp [orF, e, c]
   ·by_cases d : y.2.1 < x.2.1 <;> simp [orF, e, c, d]
def wcVal (ga gb : Nat) (x y : Tr) : Nat -> Value
 | 0 => .pointer (some ⟨ga, 0, none⟩)
 | 1 => .int .u64 (x.1 : Int)
 | 2 => .pointer (some ⟨gb, 0, none⟩)
 | 3 => .int .u64 (y.1 : Int)
 | 4 => .int .i64 (cmpN x.1 y.1)
 | 5 => .pointer (some ⟨ga, 1, none⟩)
 | 6 => .int .u64 (x.2.1 : Int)
 | 7 => .pointer (some ⟨gb, 1, none⟩)
 | 8 => .int .u64 (y.2.1 : Int)
 | 9 => .int .i64 (cmpN x.2.1 y.2.1)
 | 11 => .int .i64 (whoCmp x y)
 | 12 => .int .i64 (whoCmp x y)
 | _ => undef
def wcDst (i : Nat) : Tmp := if i = 12 then 4 else 5 + i
theorem wcDst_ne {j t : Nat} (ht : t = 2 \/ t = 3) (e : wcDst j = t) : False := by
 unfold wcDst at e
 have e : (if j = 12 then 4 else 5 + j : Nat) = t := e
 rcases ht with rfl | rfl <;> (repeat' (split at e)) <;> omega
def wcPhi (ga gb : Nat) (x y : Tr) (ix : Nat) (v : Value) (w : World) : Prop := if ix = 10 then TwoInts [cmpN x.1 y.1, cmpN x.2.1 y.2.1] v w else v = wcVal ga gb x y ix
theorem wcPhi.ext {ga gb : Nat} {x y : Tr} {ix : Nat} {v : Value} {w w' : World} (h : wcPhi ga gb x y ix v w) (hu : Ext w w') : wcPhi ga gb x y ix v w' := by
 unfold wcPhi at h ⊢
 by_cases c : ix = 10
 ·rw [if_pos c] at h ⊢; exact h.ext hu
 ·rw [if_neg c] at h ⊢
  exact h
theorem whoCmp_any (w : World) (x y : Tr) :
  Calls Tryz.prog 150 #[.agg #[.int .u64 (x.1 : Int), .int .u64 (x.2.1 : Int), .int .u64 (x.2.2 : Int)], .agg #[.int .u64 (y.1 : Int), .int .u64 (y.2.1 : Int), .int .u64 (y.2.2 : Int)]] w fun e w' => e = .returned (.int .i64 (whoCmp x y)) /\ Ext w w' := by
 obtain ⟨w1, hw1⟩ : ∃ u, u = (w.alloc (.cells #[.int .u64 (x.1 : Int), .int .u64 (x.2.1 : Int), .int .u64 (x.2.2 : Int)] 233)).alloc (.cells #[.int .u64 (y.1 : Int), .int .u64 (y.2.1 : Int), .int .u64 (y.2.2 : Int)] 233) := ⟨_, rfl⟩
 have hx1 : Ext w w1 := by rw [hw1]; exact (uZ.alloc _).alloc _
 obtain ⟨ga, hga⟩ : ∃ g, g = w.heap.size := ⟨_, rfl⟩
 obtain ⟨gb, hgb⟩ : ∃ g, g = w.heap.size + 1 := ⟨_, rfl⟩
 have hA : w1.heap[ga]? = some (.cells #[.int .u64 (x.1 : Int), .int .u64 (x.2.1 : Int), .int .u64 (x.2.2 : Int)] 233 (0, 0)) := by rw [hw1, hga]; exact (Upd.refl Nothing _).alloc _ |>.at_ (newAt _ _) id
 have hB : w1.heap[gb]? = some (.cells #[.int .u64 (y.1 : Int), .int .u64 (y.2.1 : Int), .int .u64 (y.2.2 : Int)] 233 (0, 0)) := by
  rw [hw1, hgb]
  have := newAt (w.alloc (.cells #[.int .u64 (x.1 : Int), .int .u64 (x.2.1 : Int), .int .u64 (x.2.2 : Int)] 233)) (.cells #[.int .u64 (y.1 : Int), .int .u64 (y.2.1 : Int), .int .u64 (y.2.2 : Int)] 233)
  simpa using this
 have HX1 := zq hx1
 have HGA := zq hA
 have HGB := zq hB
 have HW1 := zq hw1
 clear hx1 hA hB hw1
 go_enter Tryz.func150, Tryz.ntmps150
 go_upto_region 1 with fail
 rw [show (w.alloc (.cells #[.int .u64 (x.1 : Int), .int .u64 (x.2.1 : Int), .int .u64 (x.2.2 : Int)] 233)).alloc (.cells #[.int .u64 (y.1 : Int), .int .u64 (y.2.1 : Int), .int .u64 (y.2.2 : Int)] 233) = w1 from HW1.out.symm, show w.heap.size + 1 = gb from hgb.symm, show w.heap.size = ga from hga.symm]
 clear hga hgb HW1
 refine wp_region_invH Nothing (fun _ => Ext) 1000 wcDst (wcPhi ga gb x y) 17 (by kernel_rfl) (by decide) (by decide) rfl (fun i hi => .inl ((by decide : ∀ i, i < 13 -> wcDst i < 17) i hi)) (fun i w w' h => ⟨h, fun _ => h⟩) (fun i j v w w' _ _ _ _ h hu => h.ext hu) ?_ ?_
 ·intro i o b' w1' ho hx1' hd hk hE hSZ
  have hi : i < 13 := (Array.getElem?_eq_some_iff.1 ho).1
  have his : i = 0 \/ i = 1 \/ i = 2 \/ i = 3 \/ i = 4 \/ i = 5 \/ i = 6 \/ i = 7 \/ i = 8 \/ i = 9 \/ i = 10 \/ i = 11 \/ i = 12 := by omega
  clear hE hSZ
  have HW1 := zq hx1'
  clear hx1'
  rcases his with rfl | rfl | rfl | rfl | rfl | rfl | rfl | rfl | rfl | rfl | rfl | rfl | rfl
  all_goals (simp at ho; subst ho)
  ·
   refine .inl ⟨rfl, ?_⟩
   have o2 : b'.tmps[2]?.getD undef = .pointer (some ⟨ga, 0, none⟩) := tAt (hk 2 (fun j oj _ e => (wcDst_ne (by decide) e).elim))
   have q := lZ (HW1.out.at_ HGA.out id)
   clear hd hk
   go_step
   exact ⟨_, rfl, rfl, uZ⟩
  ·
   refine .inl ⟨rfl, ?_⟩
   have e0 : b'.tmps[5]?.getD undef = .pointer (some ⟨ga, 0, none⟩) := tAt (hd ⟨0, .data⟩ (by simp) rfl)
   have q := cZ (HW1.out.at_ HGA.out id) 0 _ rfl
   clear hd hk
   go_step
   exact ⟨_, rfl, rfl, uZ⟩
  ·
   refine .inl ⟨rfl, ?_⟩
   have o3 : b'.tmps[3]?.getD undef = .pointer (some ⟨gb, 0, none⟩) := tAt (hk 3 (fun j oj _ e => (wcDst_ne (by decide) e).elim))
   have q := lZ (HW1.out.at_ HGB.out id)
   clear hd hk
   go_step
   exact ⟨_, rfl, rfl, uZ⟩
  ·
   refine .inl ⟨rfl, ?_⟩
   have e2 : b'.tmps[7]?.getD undef = .pointer (some ⟨gb, 0, none⟩) := tAt (hd ⟨2, .data⟩ (by simp) rfl)
   have q := cZ (HW1.out.at_ HGB.out id) 0 _ rfl
   clear hd hk
   go_step
   exact ⟨_, rfl, rfl, uZ⟩
  ·
   refine .inl ⟨rfl, ?_⟩
   have e1 : b'.tmps[6]?.getD undef = .int .u64 (x.1 : Int) := tAt (hd ⟨1, .data⟩ (by simp) rfl)
   have e3 : b'.tmps[8]?.getD undef = .int .u64 (y.1 : Int) := tAt (hd ⟨3, .data⟩ (by simp) rfl)
   clear hd hk
   go_step
   refine (cmp64_any w1' x.1 y.1).mono ?_
   rintro e w2 ⟨rfl, hu⟩
   exact ⟨_, rfl, rfl, hu⟩
  ·
   refine .inl ⟨rfl, ?_⟩
   have o2 : b'.tmps[2]?.getD undef = .pointer (some ⟨ga, 0, none⟩) := tAt (hk 2 (fun j oj _ e => (wcDst_ne (by decide) e).elim))
   have q := lZ (HW1.out.at_ HGA.out id)
   clear hd hk
   go_step
   exact ⟨_, rfl, rfl, uZ⟩
  ·
   refine .inl ⟨rfl, ?_⟩
   have e5 : b'.tmps[10]?.getD undef = .pointer (some ⟨ga, 1, none⟩) := tAt (hd ⟨5, .data⟩ (by simp) rfl)
   have q := cZ (HW1.out.at_ HGA.out id) 1 _ rfl
   clear hd hk
   go_step
   exact ⟨_, rfl, rfl, uZ⟩
  ·
   refine .inl ⟨rfl, ?_⟩
   have o3 : b'.tmps[3]?.getD undef = .pointer (some ⟨gb, 0, none⟩) := tAt (hk 3 (fun j oj _ e => (wcDst_ne (by decide) e).elim))
   have q := lZ (HW1.out.at_ HGB.out id)
   clear hd hk
   go_step
   exact ⟨_, rfl, rfl, uZ⟩
  ·
   refine .inl ⟨rfl, ?_⟩
   have e7 : b'.tmps[12]?.getD undef = .pointer (some ⟨gb, 1, none⟩) := tAt (hd ⟨7, .data⟩ (by simp) rfl)
   have q := cZ (HW1.out.at_ HGB.out id) 1 _ rfl
   clear hd hk
   go_step
   exact ⟨_, rfl, rfl, uZ⟩
  ·
   refine .inl ⟨rfl, ?_⟩
   have e6 : b'.tmps[11]?.getD undef = .int .u64 (x.2.1 : Int) := tAt (hd ⟨6, .data⟩ (by simp) rfl)
   have e8 : b'.tmps[13]?.getD undef = .int .u64 (y.2.1 : Int) := tAt (hd ⟨8, .data⟩ (by simp) rfl)
   clear hd hk
   go_step
   refine (cmp64_any w1' x.2.1 y.2.1).mono ?_
   rintro e w2 ⟨rfl, hu⟩
   exact ⟨_, rfl, rfl, hu⟩
  ·
   refine .inl ⟨rfl, ?_⟩
   have e4 : b'.tmps[9]?.getD undef = .int .i64 (cmpN x.1 y.1) := tAt (hd ⟨4, .data⟩ (by simp) rfl)
   have e9 : b'.tmps[14]?.getD undef = .int .i64 (cmpN x.2.1 y.2.1) := tAt (hd ⟨9, .data⟩ (by simp) rfl)
   clear hd hk
   go_step
   exact ⟨_, rfl, (row_new w1' #[.int .i64 (cmpN x.1 y.1), .int .i64 (cmpN x.2.1 y.2.1)] 3 2 _ (by decide) rfl).mono (fun _ _ => trivial), uZ.alloc _⟩
  ·
   refine .inl ⟨rfl, ?_⟩
   have h10 := hd ⟨10, .data⟩ (by simp) rfl
   have h10 : TwoInts [cmpN x.1 y.1, cmpN x.2.1 y.2.1] (b'.tmps.getD 15 undef) w1' := h10
   obtain ⟨u15, hu15⟩ : ∃ u, u = b'.tmps[15]?.getD undef := ⟨_, rfl⟩
   rw [show b'.tmps.getD 15 undef = u15 by rw [hu15]; simp] at h10
   have e15 : b'.tmps[15]?.getD undef = u15 := hu15.symm
   clear hu15
   clear hd hk
   go_step
   refine (or_any w1' u15 [cmpN x.1 y.1, cmpN x.2.1 y.2.1] (show Row (fun _ => True) w1' u15 2 _ from h10)).mono ?_
   rintro e w2 ⟨rfl, hu⟩
   exact ⟨_, rfl, rfl, hu⟩
  ·
   refine .inl ⟨rfl, ?_⟩
   have e11 : b'.tmps[16]?.getD undef = .int .i64 (whoCmp x y) := tAt (hd ⟨11, .data⟩ (by simp) rfl)
   clear hd hk
   go_step
   exact ⟨_, rfl, rfl, uZ⟩
 ·intro v w1' hx1' hp
  have h12 : v 12 = .int .i64 (whoCmp x y) := hp 12 (by decide)
  have HX8 := zq (HX1.out.trans hx1')
  clear hp hx1'
  simp only [List.size_toArray, List.length_cons, List.length_nil, Nat.reduceAdd, fillAll, wcDst]
  go_simp
  go_wp2
  go_ret
  exact ⟨rfl, HX8.out⟩
theorem who_cells {l : List Tr} {w : World} {b o : Nat} (hq : ∀ j u, (flatT l)[j]? = some u -> w.cell? ⟨b, o + j, none⟩ = some u) {k : Nat} (hk : k < l.length) {x : Tr} (hx : x = l[k]) (j : Nat) (u : Value) (hj : [Value.int .u64 (x.1 : Int), .int .u64 (x.2.1 : Int), .int .u64 (x.2.2 : Int)][j]? = some u) : w.cell? ⟨b, o + k * 3 + j, none⟩ = some u := by
 subst hx
 obtain ⟨h0, h1, h2⟩ := flatT_at k hk
 rw [Nat.add_assoc]
 match j, hj with
 | 0, hj => rw [<- hj]; exact (hq _ _ h0).trans rfl
 | 1, hj => rw [<- hj]; exact (hq _ _ h1).trans rfl
 | 2, hj => rw [<- hj]; exact (hq _ _ h2).trans rfl
 | j + 3, hj => simp at hj
def wrAVal (gs n m b1 o1 L c1 : Nat) (x y : Tr) : Nat -> Value
 | 0 => .int .i64 n
 | 1 => .bool false
 | 2 => .bool false
 | 16 => .bool false
 | _ => undef
def wrADst (i : Nat) : Tmp := 10 + i
theorem wrADst_ne {j t : Nat} (ht : t = 1 \/ t = 3) (e : wrADst j = t) : False := by
 unfold wrADst at e
 have e : (10 + j : Nat) = t := e
 rcases ht with rfl | rfl <;> (repeat' (split at e)) <;> omega
def wrAPhi (gs n m b1 o1 L c1 : Nat) (x y : Tr) (ix : Nat) (v : Value) (_ : World) : Prop := v = wrAVal gs n m b1 o1 L c1 x y ix
theorem wrAPhi.ext {gs n m b1 o1 L c1 : Nat} {x y : Tr} {ix : Nat} {v : Value} {w w' : World} (h : wrAPhi gs n m b1 o1 L c1 x y ix v w) (_ : Ext w w') : wrAPhi gs n m b1 o1 L c1 x y ix v w' := by
 unfold wrAPhi at h ⊢
 exact h
def wrBVal (gs n m b1 o1 L c1 : Nat) (x y : Tr) : Nat -> Value
 | 0 => .int .i64 n
 | 1 => .bool true
 | 2 => .bool true
 | 3 => .pointer (some ⟨gs, 11, none⟩)
 | 4 => .slice (some ⟨b1, o1, none⟩) L c1
 | 5 => .int .i64 n
 | 6 => .int .i64 (m : Int)
 | 7 => .pointer (some ⟨b1, o1 + m * 3, none⟩)
 | 8 => .agg #[.int .u64 (x.1 : Int), .int .u64 (x.2.1 : Int), .int .u64 (x.2.2 : Int)]
 | 9 => .pointer (some ⟨gs, 11, none⟩)
 | 10 => .slice (some ⟨b1, o1, none⟩) L c1
 | 11 => .int .i64 n
 | 12 => .pointer (some ⟨b1, o1 + n * 3, none⟩)
 | 13 => .agg #[.int .u64 (y.1 : Int), .int .u64 (y.2.1 : Int), .int .u64 (y.2.2 : Int)]
 | 14 => .int .i64 (whoCmp x y)
 | 15 => .bool (!trLt x y)
 | 16 => .bool (!trLt x y)
 | _ => undef
def wrBDst (i : Nat) : Tmp := 10 + i
theorem wrBDst_ne {j t : Nat} (ht : t = 1 \/ t = 3) (e : wrBDst j = t) : False := by
 unfold wrBDst at e
 have e : (10 + j : Nat) = t := e
 rcases ht with rfl | rfl <;> (repeat' (split at e)) <;> omega
def wrBPhi (gs n m b1 o1 L c1 : Nat) (x y : Tr) (ix : Nat) (v : Value) (_ : World) : Prop := v = wrBVal gs n m b1 o1 L c1 x y ix
theorem wrBPhi.ext {gs n m b1 o1 L c1 : Nat} {x y : Tr} {ix : Nat} {v : Value} {w w' : World} (h : wrBPhi gs n m b1 o1 L c1 x y ix v w) (_ : Ext w w') : wrBPhi gs n m b1 o1 L c1 x y ix v w' := by
 unfold wrBPhi at h ⊢
 exact h
theorem rises_any {S : Nat -> Prop} (w : World) (st : Array Value) (v : Value) (l : List Tr) (hst : ∃ x0 x1 x2 x3 x4 x5 x6 x7 x8 x9 x10, st = #[x0, x1, x2, x3, x4, x5, x6, x7, x8, x9, x10, v]) (hone : st.all (·.oneCell') = true) (h : Row S w v l.length (flatT l)) (hlen : l.length <= 1000000) :
  Calls Tryz.prog 133 #[.agg st] w fun e w' => e = .returned (.bool (riseL l)) /\ Ext w w' := by
 have H := zq h
 obtain ⟨a0, c0, rfl, hn, hm, -⟩ := h
 unfold maxLen at hm
 obtain ⟨x0, x1, x2, x3, x4, x5, x6, x7, x8, x9, x10, rfl⟩ := hst
 obtain ⟨w1, hw1⟩ : ∃ u, u = w.alloc (.cells #[x0, x1, x2, x3, x4, x5, x6, x7, x8, x9, x10, .slice a0 l.length c0] 214) := ⟨_, rfl⟩
 have hx1 : Ext w w1 := by rw [hw1]; exact uZ.alloc _
 obtain ⟨gs, hgs⟩ : ∃ g, g = w.heap.size := ⟨_, rfl⟩
 have hg1 : w1.heap[gs]? = some (.cells #[x0, x1, x2, x3, x4, x5, x6, x7, x8, x9, x10, .slice a0 l.length c0] 214 (0, 0)) := by rw [hw1, hgs]; exact newAt _ _
 have HX1 := zq hx1
 have HG1 := zq hg1
 have HW1 := zq hw1
 have HGG := zq hgs
 clear hx1 hg1 hw1 hgs
 go_enter Tryz.func133, Tryz.ntmps133
 go_upto_region 1 with fail
 rw [show w.alloc (.cells #[x0, x1, x2, x3, x4, x5, x6, x7, x8, x9, x10, .slice a0 l.length c0] 214) = w1 from HW1.out.symm, show w.heap.size = gs from HGG.out.symm]
 clear HW1 HGG
 have p0 := cZ HG1.out 11 _ rfl
 have pl := lZ HG1.out
 go_wp2
 clear p0 pl
 go_loopw [7] (fun t wr => ∃ n : Nat, n <= l.length /\ t = .int .i64 n /\ Hid (∀ m (h : m + 1 < l.length), m + 1 < n -> trLt l[m] l[m + 1] = true) /\ Hid (Ext w1 wr)) (fun t _ => l.length - (intOf t).toNat)
 case atStart => exact ⟨0, Nat.zero_le _, rfl, zq (fun m _ h => (by omega)), zq uZ⟩
 case round =>
  obtain ⟨n, hn', rfl, HUP, HX⟩ := hrel
  by_cases hlt : n < l.length
  ·obtain ⟨b1, o1, c1, e1, -, -, -, hq1⟩ := (H.out.ext (HX1.out.trans HX.out)).addr (by omega)
   cases e1
   have HLT := zq hlt
   have HGS := zq (HX.out.at_ HG1.out id)
   by_cases hn0 : n = 0
   ·have HMN := zq hn0
    clear hn0 hq1
    go_upto_region 4 with fail
    refine wp_region_invH Nothing (fun _ => Ext) 1000 wrADst (wrAPhi gs n 0 b1 o1 0 0 (0, 0, 0) (0, 0, 0)) 28 (by kernel_rfl) (by decide) (by decide) rfl (fun i hi => .inl ((by decide : ∀ i, i < 17 -> wrADst i < 28) i hi)) (fun i w w' h => ⟨h, fun _ => h⟩) (fun i j v w w' _ _ _ _ h hu => h.ext hu) ?_ ?_
    ·intro i o b' w1' ho hx1' hd hk hE hSZ
     have hi : i < 17 := (Array.getElem?_eq_some_iff.1 ho).1
     have his : i = 0 \/ i = 1 \/ i = 2 \/ i = 3 \/ i = 4 \/ i = 5 \/ i = 6 \/ i = 7 \/ i = 8 \/ i = 9 \/ i = 10 \/ i = 11 \/ i = 12 \/ i = 13 \/ i = 14 \/ i = 15 \/ i = 16 := by omega
     clear hE hSZ
     have HW1 := zq hx1'
     clear hx1'
     rcases his with rfl | rfl | rfl | rfl | rfl | rfl | rfl | rfl | rfl | rfl | rfl | rfl | rfl | rfl | rfl | rfl | rfl
     all_goals (simp at ho; subst ho)
     ·
      refine .inl ⟨rfl, ?_⟩
      have o3 : b'.tmps[3]?.getD undef = .int .i64 n := tAt (hk 3 (fun j oj _ e => (wrADst_ne (by decide) e).elim))
      clear hd hk
      go_step
      exact ⟨_, rfl, rfl, uZ⟩
     ·
      refine .inl ⟨rfl, ?_⟩
      have e0 : b'.tmps[10]?.getD undef = .int .i64 n := tAt (hd ⟨0, .data⟩ (by simp) rfl)
      clear hd hk
      go_step
      exact ⟨_, rfl, (by show Value.bool _ = .bool _; simp; have := HMN.out; omega), uZ⟩
     ·
      refine .inl ⟨rfl, ?_⟩
      have e1 : b'.tmps[11]?.getD undef = .bool false := tAt (hd ⟨1, .data⟩ (by simp) rfl)
      clear hd hk
      go_step
      exact ⟨_, rfl, rfl, uZ⟩
     ·
      refine .inr ⟨gNot rfl rfl (hd ⟨2, .guard⟩ (by simp) rfl), rfl, rfl, uZ⟩
     ·
      refine .inr ⟨gNot rfl rfl (hd ⟨2, .guard⟩ (by simp) rfl), rfl, rfl, uZ⟩
     ·
      refine .inr ⟨gNot rfl rfl (hd ⟨2, .guard⟩ (by simp) rfl), rfl, rfl, uZ⟩
     ·
      refine .inr ⟨gNot rfl rfl (hd ⟨2, .guard⟩ (by simp) rfl), rfl, rfl, uZ⟩
     ·
      refine .inr ⟨gNot rfl rfl (hd ⟨2, .guard⟩ (by simp) rfl), rfl, rfl, uZ⟩
     ·
      refine .inr ⟨gNot rfl rfl (hd ⟨2, .guard⟩ (by simp) rfl), rfl, rfl, uZ⟩
     ·
      refine .inr ⟨gNot rfl rfl (hd ⟨2, .guard⟩ (by simp) rfl), rfl, rfl, uZ⟩
     ·
      refine .inr ⟨gNot rfl rfl (hd ⟨2, .guard⟩ (by simp) rfl), rfl, rfl, uZ⟩
     ·
      refine .inr ⟨gNot rfl rfl (hd ⟨2, .guard⟩ (by simp) rfl), rfl, rfl, uZ⟩
     ·
      refine .inr ⟨gNot rfl rfl (hd ⟨2, .guard⟩ (by simp) rfl), rfl, rfl, uZ⟩
     ·
      refine .inr ⟨gNot rfl rfl (hd ⟨2, .guard⟩ (by simp) rfl), rfl, rfl, uZ⟩
     ·
      refine .inr ⟨gNot rfl rfl (hd ⟨2, .guard⟩ (by simp) rfl), rfl, rfl, uZ⟩
     ·
      refine .inr ⟨gNot rfl rfl (hd ⟨2, .guard⟩ (by simp) rfl), rfl, rfl, uZ⟩
     ·
      refine .inl ⟨rfl, ?_⟩
      have e2 : b'.tmps[12]?.getD undef = .bool false := tAt (hd ⟨2, .data⟩ (by simp) rfl)
      have e15 : b'.tmps[25]?.getD undef = undef := tAt (hd ⟨15, .data⟩ (by simp) rfl)
      clear hd hk
      go_step
      exact ⟨_, rfl, rfl, uZ⟩
    ·intro v w1' hx1' hp
     have HX8 := zq (HX.out.trans hx1')
     clear hx1'
     have hfin : v 16 = .bool false := hp 16 (by decide)
     clear hp
     simp only [List.size_toArray, List.length_cons, List.length_nil, Nat.reduceAdd, fillAll, wrADst]
     go_simp
     go_wp2
     go_roundw
     case rel => exact ⟨n + 1, by have := HLT.out; omega, by go_num, zq (fun m _ h => (by have := HMN.out; omega)), HX8⟩
     case measure => have := HLT.out; simp [intOf]; omega
   ·obtain ⟨m, hmn⟩ : ∃ m, n = m + 1 := ⟨n - 1, by omega⟩
    have HMN := zq hmn
    obtain ⟨x, hx⟩ : ∃ x, x = l[m] := ⟨_, rfl⟩
    obtain ⟨y, hy⟩ : ∃ x, x = l[n] := ⟨_, rfl⟩
    have HCX := zq (show ∀ j u, [Value.int .u64 (x.1 : Int), .int .u64 (x.2.1 : Int), .int .u64 (x.2.2 : Int)][j]? = some u -> wr.cell? ⟨b1, o1 + m * 3 + j, none⟩ = some u from who_cells hq1 (by omega) hx)
    have HCY := zq (show ∀ j u, [Value.int .u64 (y.1 : Int), .int .u64 (y.2.1 : Int), .int .u64 (y.2.2 : Int)][j]? = some u -> wr.cell? ⟨b1, o1 + n * 3 + j, none⟩ = some u from who_cells hq1 hlt hy)
    have HXY := zq (show ∃ h : m + 1 < l.length, trLt (l[m]'(Nat.lt_of_succ_lt h)) (l[m + 1]'h) = trLt x y from ⟨by omega, by subst hmn; subst hx; subst hy; rfl⟩)
    clear hq1 hn0 hx hy hmn
    go_upto_region 4 with fail
    refine wp_region_invH Nothing (fun _ => Ext) 1000 wrBDst (wrBPhi gs n m b1 o1 l.length c0 x y) 28 (by kernel_rfl) (by decide) (by decide) rfl (fun i hi => .inl ((by decide : ∀ i, i < 17 -> wrBDst i < 28) i hi)) (fun i w w' h => ⟨h, fun _ => h⟩) (fun i j v w w' _ _ _ _ h hu => h.ext hu) ?_ ?_
    ·intro i o b' w1' ho hx1' hd hk hE hSZ
     have hi : i < 17 := (Array.getElem?_eq_some_iff.1 ho).1
     have his : i = 0 \/ i = 1 \/ i = 2 \/ i = 3 \/ i = 4 \/ i = 5 \/ i = 6 \/ i = 7 \/ i = 8 \/ i = 9 \/ i = 10 \/ i = 11 \/ i = 12 \/ i = 13 \/ i = 14 \/ i = 15 \/ i = 16 := by omega
     clear hE hSZ
     have HW1 := zq hx1'
     clear hx1'
     rcases his with rfl | rfl | rfl | rfl | rfl | rfl | rfl | rfl | rfl | rfl | rfl | rfl | rfl | rfl | rfl | rfl | rfl
     all_goals (simp at ho; subst ho)
     ·
      refine .inl ⟨rfl, ?_⟩
      have o3 : b'.tmps[3]?.getD undef = .int .i64 n := tAt (hk 3 (fun j oj _ e => (wrBDst_ne (by decide) e).elim))
      clear hd hk
      go_step
      exact ⟨_, rfl, rfl, uZ⟩
     ·
      refine .inl ⟨rfl, ?_⟩
      have e0 : b'.tmps[10]?.getD undef = .int .i64 n := tAt (hd ⟨0, .data⟩ (by simp) rfl)
      clear hd hk
      go_step
      exact ⟨_, rfl, (by show Value.bool _ = .bool _; simp; have := HMN.out; omega), uZ⟩
     ·
      refine .inl ⟨rfl, ?_⟩
      have e1 : b'.tmps[11]?.getD undef = .bool true := tAt (hd ⟨1, .data⟩ (by simp) rfl)
      clear hd hk
      go_step
      exact ⟨_, rfl, rfl, uZ⟩
     ·
      refine .inl ⟨gAt rfl rfl (hd ⟨2, .guard⟩ (by simp) rfl), ?_⟩
      have o1 : b'.tmps[1]?.getD undef = .pointer (some ⟨gs, 0, none⟩) := tAt (hk 1 (fun j oj _ e => (wrBDst_ne (by decide) e).elim))
      have q := lZ (HW1.out.at_ HGS.out id)
      clear hd hk
      go_step
      exact ⟨_, rfl, rfl, uZ⟩
     ·
      refine .inl ⟨gAt rfl rfl (hd ⟨2, .guard⟩ (by simp) rfl), ?_⟩
      have e3 : b'.tmps[13]?.getD undef = .pointer (some ⟨gs, 11, none⟩) := tAt (hd ⟨3, .data⟩ (by simp) rfl)
      have q := cZ (HW1.out.at_ HGS.out id) 11 _ rfl
      clear hd hk
      go_step
      exact ⟨_, rfl, rfl, uZ⟩
     ·
      refine .inl ⟨gAt rfl rfl (hd ⟨2, .guard⟩ (by simp) rfl), ?_⟩
      have o3 : b'.tmps[3]?.getD undef = .int .i64 n := tAt (hk 3 (fun j oj _ e => (wrBDst_ne (by decide) e).elim))
      clear hd hk
      go_step
      exact ⟨_, rfl, rfl, uZ⟩
     ·
      refine .inl ⟨gAt rfl rfl (hd ⟨2, .guard⟩ (by simp) rfl), ?_⟩
      have e5 : b'.tmps[15]?.getD undef = .int .i64 n := tAt (hd ⟨5, .data⟩ (by simp) rfl)
      have q2 := HMN.out
      clear hd hk
      go_step
      exact ⟨_, rfl, rfl, uZ⟩
     ·
      refine .inl ⟨gAt rfl rfl (hd ⟨2, .guard⟩ (by simp) rfl), ?_⟩
      have e4 : b'.tmps[14]?.getD undef = .slice (some ⟨b1, o1, none⟩) l.length c0 := tAt (hd ⟨4, .data⟩ (by simp) rfl)
      have e6 : b'.tmps[16]?.getD undef = .int .i64 (m : Int) := tAt (hd ⟨6, .data⟩ (by simp) rfl)
      have q : m < l.length := by have := HLT.out; have := HMN.out; omega
      clear hd hk
      go_step
      exact ⟨_, rfl, rfl, uZ⟩
     ·
      refine .inl ⟨gAt rfl rfl (hd ⟨2, .guard⟩ (by simp) rfl), ?_⟩
      have o17 : b'.eval (.tmp 17) = .pointer (some ⟨b1, o1 + m * 3, none⟩) := by
       have := (show b'.tmps.getD 17 undef = .pointer (some ⟨b1, o1 + m * 3, none⟩) from hd ⟨7, .data⟩ (by simp) rfl)
       simpa [Act.eval] using this
      exact wp_load_mid (w := w1') 233 (.tmp 17) rfl b1 (o1 + m * 3) o17 [.int .u64 (x.1 : Int), .int .u64 (x.2.1 : Int), .int .u64 (x.2.2 : Int)] _ (fun j u hj => HW1.out.cell (HCX.out j u hj) id) Tryz.underlying233 rfl (by kernel_rfl) ⟨_, rfl, rfl, uZ⟩
     ·
      refine .inl ⟨gAt rfl rfl (hd ⟨2, .guard⟩ (by simp) rfl), ?_⟩
      have o1 : b'.tmps[1]?.getD undef = .pointer (some ⟨gs, 0, none⟩) := tAt (hk 1 (fun j oj _ e => (wrBDst_ne (by decide) e).elim))
      have q := lZ (HW1.out.at_ HGS.out id)
      clear hd hk
      go_step
      exact ⟨_, rfl, rfl, uZ⟩
     ·
      refine .inl ⟨gAt rfl rfl (hd ⟨2, .guard⟩ (by simp) rfl), ?_⟩
      have e9 : b'.tmps[19]?.getD undef = .pointer (some ⟨gs, 11, none⟩) := tAt (hd ⟨9, .data⟩ (by simp) rfl)
      have q := cZ (HW1.out.at_ HGS.out id) 11 _ rfl
      clear hd hk
      go_step
      exact ⟨_, rfl, rfl, uZ⟩
     ·
      refine .inl ⟨gAt rfl rfl (hd ⟨2, .guard⟩ (by simp) rfl), ?_⟩
      have o3 : b'.tmps[3]?.getD undef = .int .i64 n := tAt (hk 3 (fun j oj _ e => (wrBDst_ne (by decide) e).elim))
      clear hd hk
      go_step
      exact ⟨_, rfl, rfl, uZ⟩
     ·
      refine .inl ⟨gAt rfl rfl (hd ⟨2, .guard⟩ (by simp) rfl), ?_⟩
      have e10 : b'.tmps[20]?.getD undef = .slice (some ⟨b1, o1, none⟩) l.length c0 := tAt (hd ⟨10, .data⟩ (by simp) rfl)
      have e11 : b'.tmps[21]?.getD undef = .int .i64 n := tAt (hd ⟨11, .data⟩ (by simp) rfl)
      have q := HLT.out
      clear hd hk
      go_step
      exact ⟨_, rfl, rfl, uZ⟩
     ·
      refine .inl ⟨gAt rfl rfl (hd ⟨2, .guard⟩ (by simp) rfl), ?_⟩
      have o22 : b'.eval (.tmp 22) = .pointer (some ⟨b1, o1 + n * 3, none⟩) := by
       have := (show b'.tmps.getD 22 undef = .pointer (some ⟨b1, o1 + n * 3, none⟩) from hd ⟨12, .data⟩ (by simp) rfl)
       simpa [Act.eval] using this
      exact wp_load_mid (w := w1') 233 (.tmp 22) rfl b1 (o1 + n * 3) o22 [.int .u64 (y.1 : Int), .int .u64 (y.2.1 : Int), .int .u64 (y.2.2 : Int)] _ (fun j u hj => HW1.out.cell (HCY.out j u hj) id) Tryz.underlying233 rfl (by kernel_rfl) ⟨_, rfl, rfl, uZ⟩
     ·
      refine .inl ⟨gAt rfl rfl (hd ⟨2, .guard⟩ (by simp) rfl), ?_⟩
      have e8 : b'.tmps[18]?.getD undef = .agg #[.int .u64 (x.1 : Int), .int .u64 (x.2.1 : Int), .int .u64 (x.2.2 : Int)] := tAt (hd ⟨8, .data⟩ (by simp) rfl)
      have e13 : b'.tmps[23]?.getD undef = .agg #[.int .u64 (y.1 : Int), .int .u64 (y.2.1 : Int), .int .u64 (y.2.2 : Int)] := tAt (hd ⟨13, .data⟩ (by simp) rfl)
      clear hd hk
      go_step
      refine (whoCmp_any w1' x y).mono ?_
      rintro e w2 ⟨rfl, hu⟩
      exact ⟨_, rfl, rfl, hu⟩
     ·
      refine .inl ⟨gAt rfl rfl (hd ⟨2, .guard⟩ (by simp) rfl), ?_⟩
      have e14 : b'.tmps[24]?.getD undef = .int .i64 (whoCmp x y) := tAt (hd ⟨14, .data⟩ (by simp) rfl)
      clear hd hk
      go_step
      exact ⟨_, rfl, (by show Value.bool _ = .bool _; rw [whoCmp_ge]), uZ⟩
     ·
      refine .inl ⟨rfl, ?_⟩
      have e2 : b'.tmps[12]?.getD undef = .bool true := tAt (hd ⟨2, .data⟩ (by simp) rfl)
      have e15 : b'.tmps[25]?.getD undef = .bool (!trLt x y) := tAt (hd ⟨15, .data⟩ (by simp) rfl)
      clear hd hk
      go_step
      exact ⟨_, rfl, rfl, uZ⟩
    ·intro v w1' hx1' hp
     have HX8 := zq (HX.out.trans hx1')
     clear hx1'
     cases hxy : trLt x y with
     | true =>
      have hfin : v 16 = .bool false := by rw [show v 16 = .bool (!trLt x y) from hp 16 (by decide), hxy]; rfl
      clear hp
      simp only [List.size_toArray, List.length_cons, List.length_nil, Nat.reduceAdd, fillAll, wrBDst]
      go_simp
      have HT := zq hxy
      clear hxy
      go_wp2
      go_roundw
      case rel =>
       refine ⟨n + 1, by have := HLT.out; omega, by go_num, zq (fun k h hk => ?_), HX8⟩
       rcases Nat.lt_or_ge (k + 1) n with g | g
       ·exact HUP.out k h g
       ·have e2 : k = m := by have := HMN.out; omega
        subst e2
        obtain ⟨h4, h5⟩ := HXY.out
        rw [h5, HT.out]
      case measure => have := HLT.out; simp [intOf]; omega
     | false =>
      have hfin : v 16 = .bool true := by rw [show v 16 = .bool (!trLt x y) from hp 16 (by decide), hxy]; rfl
      clear hp
      simp only [List.size_toArray, List.length_cons, List.length_nil, Nat.reduceAdd, fillAll, wrBDst]
      go_simp
      have HB := zq (show riseL l = false by obtain ⟨h4, h5⟩ := HXY.out; rw [riseL_by]; exact rise_bad h4 (by rw [h5, hxy]))
      clear hxy
      go_wp2
      go_ret
      exact ⟨by rw [HB.out]; rfl, HX1.out.trans HX8.out⟩
  ·have HB := zq (show riseL l = true by rw [riseL_by]; exact rise_ok (fun m h => HUP.out m h (by omega)))
   go_wp2
   go_ret
   exact ⟨by rw [HB.out]; rfl, HX1.out.trans HX.out⟩
end Go.Proofs.YtnkmpoplibnflaaGreatDoor.Wk
set_option maxRecDepth 100000
set_option maxHeartbeats 16000000
namespace Go.Proofs.YtnkmpoplibnflaaGreatDoor.Wk
open Go Go.Proofs.YtnkmpoplibnflaaGreatDoor Go.RowKit
theorem isName_any {S : Nat -> Prop} (w : World) (v : Value) (l : List (List UInt8)) (h : Texts S w v l) :
  Calls Tryz.prog 159 #[v] w fun e w' => e = .returned (.bool (l.all nameOk)) /\ Ext w w' := by
 have H := zq h
 obtain ⟨a, c, rfl, hn, hm, -⟩ := h
 unfold maxLen at hm
 go_enter Tryz.func159, Tryz.ntmps159
 go_wp2
 go_step3
 go_wp2
 go_step3
 go_wp2
 go_loopw [7] (fun t wr => ∃ n : Nat, n <= l.length /\ t = .int .i64 n /\ Hid ((l.take n).all nameOk = true) /\ Ext w wr) (fun t _ => l.length - (intOf t).toNat)
 case atStart => exact ⟨0, Nat.zero_le _, rfl, zq (by simp), uZ⟩
 case round =>
  obtain ⟨n, hn', rfl, hall, hx⟩ := hrel
  have HX := zq hx
  by_cases hlt : n < l.length
  ·obtain ⟨b1, o1, c1, e1, -, -, -, hq1⟩ := (H.out.ext hx).addr (by omega)
   cases e1
   have hc := texts_cell hq1 n hlt
   have hsn : l.take (n + 1) = l.take n ++ [l[n]] := List.take_succ_eq_append_getElem hlt
   have hmem : l[n] ∈ l := List.getElem_mem hlt
   obtain ⟨s, hs⟩ : ∃ s, s = l[n] := ⟨_, rfl⟩
   rw [<- hs] at hc hsn hmem
   have HSN := zq hsn
   have HM := zq hmem
   clear hx hq1 hs hsn hmem
   cases hk : nameOk s with
   | true =>
    have h1 : 1 <= s.length := by simp [nameOk] at hk; exact hk.1
    have h2 : s.length <= 64 := by simp [nameOk] at hk; exact hk.2
    have h3 : s.isEmpty = false := by
     cases s with
     | nil => simp at h1
     | cons x r => rfl
    have h4 : (s.length : Int) <= 64 := by omega
    have HK := zq hk
    clear hk
    go_wp2
    refine ⟨⟨n + 1, by omega, by go_num, zq (by rw [HSN.out, List.all_append, hall.out]; simp [HK.out]), HX.out⟩, ?_⟩
    simp [intOf]; omega
   | false =>
    have hf : l.all nameOk = false := by
     rw [Bool.eq_false_iff]; intro h; rw [List.all_eq_true] at h
     have := h s HM.out; rw [hk] at this; cases this
    have HF := zq hf
    clear hf
    by_cases h1 : s = []
    ·subst h1
     go_wp2
     try rw [Exit.noGoto_ret]
     go_ret
     exact ⟨by rw [HF.out]; rfl, HX.out⟩
    ·have h3 : s.isEmpty = false := by
      cases s with
      | nil => simp at h1
      | cons x r => rfl
     have h2 : 64 < s.length := by
      cases s with
      | nil => simp at h1
      | cons x r => simp [nameOk] at hk; simp; omega
     have h4 : ¬ (s.length : Int) <= 64 := by omega
     clear hk
     go_wp2
     try rw [Exit.noGoto_ret]
     go_ret
     exact ⟨by rw [HF.out]; rfl, HX.out⟩
  ·have hkl : n = l.length := by omega
   have hf : l.all nameOk = true := by rw [hkl, List.take_length] at hall; exact hall.out
   have HF := zq hf
   clear hf hkl hx
   go_wp2
   try rw [Exit.noGoto_ret]
   go_ret
   exact ⟨by rw [HF.out]; rfl, HX.out⟩
end Go.Proofs.YtnkmpoplibnflaaGreatDoor.Wk
