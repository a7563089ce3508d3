/-
  CONTRACT of name.Put. Condition: the library's table of powers of ten lies as it is laid; the numbers are numbers of 64 bits.
  PLAIN: the library's cut at strokes is the plain one. No program in sight; no condition.
  CONTRACT of slices.Index at texts: the first place of a text among texts. No condition.
-/
import Derived.Test.YtnkmpoplibnflaaGreatDoorGAC
import Derived.Test.YtnkmpoplibnflaaGreatDoorGAB
set_option maxRecDepth 100000
set_option maxHeartbeats 16000000
namespace Go.Proofs.YtnkmpoplibnflaaGreatDoor
open Go.RowKit
theorem own_lit (w : World) (cs : Array Value) (e : TypeId) (m base n : Nat) (hm : m <= maxLen) (hc : cs.size = m) (hb : base <= w.heap.size) (hn : n = w.heap.size) : (w.alloc (.cells cs e)).ownsRow base e 1 (.slice (some ⟨n, 0, none⟩) m m) m cs.toList := by
 subst hn
 refine ⟨by simp [hc], .inr ⟨_, m, cs, rfl, hb, newAt _ _, Nat.le_refl _, hm, by omega, ?_⟩⟩
 rw [Nat.mul_one, List.take_of_length_le (by simp [hc])]
theorem tag_ne {w : World} {b k : Nat} {cs cur : Array Value} {T e : TypeId} {fr : Nat × Nat} (hb : w.heap[b]? = some (.cells cs T fr)) (hT : T ≠ e) (hk : w.heap[k]? = some (.cells cur e (0, 0))) : k ≠ b := fun h => by
 subst h; rw [hb] at hk; cases hk; exact hT rfl
def HeadRow (B : Nat) (x : Nm) (v : Value) (w : World) : Prop := w.ownsRow B 9 1 v 1 [str [headF x.kind]]
theorem HeadRow.ext {B : Nat} {x : Nm} {v : Value} {w w' : World} (h : HeadRow B x v w) (hu : Ext w w') : HeadRow B x v w' := hu.ownsRow h (fun _ _ e => e)
def putAVal (x : Nm) (g B : Nat) : Nat -> Value
 | 0 => .agg headsV
 | 1 => .pointer (some ⟨g, 0, none⟩)
 | 2 => .int .u8 x.kind
 | 3 => str [headF x.kind]
 | _ => undef
def putADst (i : Nat) : Tmp := if i = 5 then 3 else 10 + i
theorem putADst_ne {j t : Nat} (ht : t = 1) (e : putADst j = t) : False := by
 unfold putADst at e
 have e : (if j = 5 then 3 else 10 + j : Nat) = t := e
 rcases ht with rfl <;> (repeat' (split at e)) <;> omega
def putAPhi (x : Nm) (g B : Nat) (i : Nat) (v : Value) (w : World) : Prop := if i = 4 then HeadRow B x v w else if i = 5 then HeadRow B x v w else v = putAVal x g B i
theorem putAPhi.ext {x : Nm} {g B : Nat} {i : Nat} {v : Value} {w w' : World} (h : putAPhi x g B i v w) (hu : Ext w w') : putAPhi x g B i v w' := by
 unfold putAPhi at h ⊢
 by_cases c : i = 4
 ·rw [if_pos c] at h ⊢; exact h.ext hu
 ·rw [if_neg c] at h ⊢
  by_cases c : i = 5
  ·rw [if_pos c] at h ⊢; exact h.ext hu
  ·rw [if_neg c] at h ⊢
   exact h
def putBVal (x : Nm) (g gn : Nat) : Nat -> Value
 | 0 => .agg countsV
 | 1 => .pointer (some ⟨g, 0, none⟩)
 | 2 => .int .u8 x.kind
 | 3 => .int .i64 (countF x.kind : Int)
 | 4 => .slice (some ⟨gn, 0, none⟩) (countF x.kind) 4
 | 5 => .int .i64 (countF x.kind : Int)
 | 6 => .int .i64 0
 | _ => undef
def putBDst (i : Nat) : Tmp := 17 + i
theorem putBDst_ne {j t : Nat} (ht : t = 1 \/ t = 4) (e : putBDst j = t) : False := by
 unfold putBDst at e
 have e : (17 + j : Nat) = t := e
 rcases ht with rfl | rfl <;> (repeat' (split at e)) <;> omega
def putBPhi (x : Nm) (g gn : Nat) (i : Nat) (v : Value) (w : World) : Prop := v = putBVal x g gn i
theorem putBPhi.ext {x : Nm} {g gn : Nat} {i : Nat} {v : Value} {w w' : World} (h : putBPhi x g gn i v w) (hu : Ext w w') : putBPhi x g gn i v w' := by
 unfold putBPhi at h ⊢
 exact h
theorem Tryz.arr4 : Tryz.prog.arrayLen 104 = 4 := by kernel_rfl
theorem heads_index {k : Nat} (h1 : 1 <= k) (h2 : k <= 4) (W : World) : (Instr.index 102 (.agg headsV) (.int .u8 (k : Int))).run Tryz.prog W = .ok (str [headF k]) W := by
 have : k = 1 \/ k = 2 \/ k = 3 \/ k = 4 := by omega
 have u := Tryz.underlying102
 rcases this with rfl | rfl | rfl | rfl <;> (unfold headsV headF; simp [Instr.index, run_underlying u, asIntOf, go_sem])
theorem counts_index {k : Nat} (h1 : 1 <= k) (h2 : k <= 4) (W : World) : (Instr.index 106 (.agg countsV) (.int .u8 (k : Int))).run Tryz.prog W = .ok (.int .i64 (countF k : Int)) W := by
 have : k = 1 \/ k = 2 \/ k = 3 \/ k = 4 := by omega
 have u := Tryz.underlying106
 rcases this with rfl | rfl | rfl | rfl <;> (unfold countsV countF; simp [Instr.index, run_underlying u, asIntOf, go_sem])
theorem countF_le (k : Nat) : 2 <= countF k /\ countF k <= 4 := by unfold countF; split <;> (try split) <;> omega
def wordsTo (x : Nm) (k : Nat) : List (List UInt8) := [headF x.kind] :: ((numsF x).take k).map Lib.decDigits
theorem wordsTo_snoc {x : Nm} {k : Nat} (hk : k < (numsF x).length) : wordsTo x (k + 1) = wordsTo x k ++ [Lib.decDigits ((numsF x)[k])] := by
 unfold wordsTo; rw [List.take_succ_eq_append_getElem hk, List.map_append]; rfl
theorem wordsTo_all (x : Nm) : wordsTo x (countF x.kind) = wordsF x := by
 unfold wordsTo wordsF; rw [List.take_of_length_le (by rw [numsF_length]; exact Nat.le_refl _)]
theorem wordsF_len {x : Nm} (hw : WfNm x) : (wordsF x).length = 1 + countF x.kind /\ ∀ l ∈ wordsF x, l.length <= 20 := by
 unfold wordsF
 refine ⟨by simp [numsF_length]; omega, fun l hl => ?_⟩
 simp only [List.mem_cons, List.mem_map] at hl
 rcases hl with rfl | ⟨u, hu, rfl⟩
 ·simp
 ·exact dec_len (numsF_lt hw u hu)
theorem joinLen (xs : List (List UInt8)) (c : UInt8) (B : Nat) (h : ∀ x ∈ xs, x.length <= B) : (Lib.join xs [c]).length <= xs.length * (B + 1) := by
 induction xs with
 | nil => simp [Lib.join]
 | cons x r ih =>
  have hx := h x (by simp)
  cases r with
  | nil => simp [Lib.join]; omega
  | cons y t =>
   have := ih (fun z hz => h z (by simp [hz]))
   rw [show Lib.join (x :: y :: t) [c] = x ++ c :: Lib.join (y :: t) [c] from by simp [Lib.join]]
   simp only [List.length_append, List.length_cons] at this ⊢
   rw [Nat.add_mul]; omega
theorem four_at {l : List Nat} {k : Nat} (hk : k < l.length) (h4 : l.length <= 4) : (four l)[k]? = some (u64 (l[k])) := by
 have : k = 0 \/ k = 1 \/ k = 2 \/ k = 3 := by omega
 rcases this with rfl | rfl | rfl | rfl <;> simp [four, hk]
theorem put_any (w : World) (x : Nm) (hw : WfNm x) (ht : Tab w) :
  Calls Tryz.prog 31 #[.agg (nmCells x)] w fun e w' => e = .returned (str (putF x)) /\ Ext w w' := by
 have hx : Ext w (w.alloc (.cells (nmCells x) 78)) := uZ.alloc _
 have hb := newAt w (.cells (nmCells x) 78)
 obtain ⟨wb, hwb⟩ : ∃ u, u = w.alloc (.cells (nmCells x) 78) := ⟨_, rfl⟩
 obtain ⟨g, hg⟩ : ∃ g, g = w.heap.size := ⟨_, rfl⟩
 rw [<- hwb] at hx hb
 rw [<- hg] at hb
 have HX := zq hx
 have HB := zq hb
 have HWB := zq hwb
 have HG := zq hg
 have HT := zq ht
 have HW := zq hw
 clear hx hb hwb hg ht hw
 go_enter Tryz.func31, Tryz.ntmps31
 go_upto_region 1 with (fail)
 rw [show w.alloc (.cells (nmCells x) 78) = wb from HWB.out.symm, show w.heap.size = g from HG.out.symm]
 go_wp2_with (first | (refine wpList_load_blk rfl _ _ rfl rfl HB.out (Tryz.nmT x) ?_) | (go_at_call 40; fail))
 refine (may_any _ x).mono ?_
 rintro e w1 ⟨rfl, hx1⟩
 have HX1 := zq hx1
 clear hx1
 cases hm : mayF x with
 | false =>
  have HM := zq hm
  clear hm
  go_wp2
  go_ret
  exact ⟨by unfold putF; rw [if_neg (by rw [HM.out]; decide)]; rfl, HX.out.trans HX1.out⟩
 | true =>
  have HM := zq hm
  obtain ⟨k1, k2, -⟩ := mayF_iff.1 hm
  have HK1 := zq k1
  have HK2 := zq k2
  have HB1 := zq (HX1.out.at_ HB.out id)
  have hbs : w1.heap.size <= w1.heap.size := Nat.le_refl _
  obtain ⟨B, hB⟩ : ∃ B, B = w1.heap.size := ⟨_, rfl⟩
  have HBS := zq (show B <= w1.heap.size by omega)
  have HBE := zq hB
  clear hm k1 k2 hbs hB
  go_upto_region 3 with (fail)
  refine wp_region_invH Nothing (fun _ => Ext) 1000 putADst (putAPhi x g B) 35 (by kernel_rfl) (by decide) (by decide) rfl (fun i hi => .inl ((by decide : ∀ i, i < 6 -> putADst i < 35) i hi)) (fun i w w' h => ⟨h, fun _ => h⟩) (fun i j v w w' _ _ _ _ h hu => h.ext hu) ?_ ?_
  ·intro i o b' w1' ho hx1' hd hk hE hSZ
   have hi : i < 6 := (Array.getElem?_eq_some_iff.1 ho).1
   have his : i = 0 \/ i = 1 \/ i = 2 \/ i = 3 \/ i = 4 \/ i = 5 := by omega
   clear hE hSZ
   have HW1 := zq hx1'
   clear hx1'
   rcases his with rfl | rfl | rfl | rfl | rfl | rfl
   all_goals (simp at ho; subst ho)
   case inl =>
    refine .inl ⟨rfl, ?_⟩
    clear hd hk
    go_step
    refine (heads_any w1').mono ?_
    rintro e w2 ⟨rfl, hu⟩
    exact ⟨_, rfl, rfl, hu⟩
   ·
    refine .inl ⟨rfl, ?_⟩
    have o1 : b'.tmps[1]?.getD undef = .pointer (some ⟨g, 0, none⟩) := tAt (hk 1 (fun j oj _ e => (putADst_ne (by decide) e).elim))
    clear hd hk
    go_step
    exact ⟨_, rfl, rfl, uZ⟩
   ·
    refine .inl ⟨rfl, ?_⟩
    have e1 : b'.tmps[11]?.getD undef = .pointer (some ⟨g, 0, none⟩) := tAt (hd ⟨1, .data⟩ (by simp) rfl)
    clear hd hk
    have hc := cZ (HW1.out.at_ HB1.out id) 0 (.int .u8 x.kind) rfl
    go_step
    exact ⟨_, rfl, rfl, uZ⟩
   ·
    refine .inl ⟨rfl, ?_⟩
    have e0 : b'.tmps[10]?.getD undef = .agg headsV := tAt (hd ⟨0, .data⟩ (by simp) rfl)
    have e2 : b'.tmps[12]?.getD undef = .int .u8 x.kind := tAt (hd ⟨2, .data⟩ (by simp) rfl)
    clear hd hk
    have hh := heads_index HK1.out HK2.out
    go_step
    exact ⟨_, rfl, rfl, uZ⟩
   ·
    refine .inl ⟨rfl, ?_⟩
    have e3 : b'.tmps[13]?.getD undef = str [headF x.kind] := tAt (hd ⟨3, .data⟩ (by simp) rfl)
    clear hd hk
    go_step
    exact ⟨_, rfl, own_lit w1' #[str [headF x.kind]] 9 1 B w1'.heap.size (by unfold maxLen; omega) rfl (Nat.le_trans HBS.out HW1.out.size) rfl, uZ.alloc _⟩
   ·
    refine .inl ⟨rfl, ?_⟩
    have h4 := hd ⟨4, .data⟩ (by simp) rfl
    have h4 : HeadRow B x (b'.tmps.getD 14 undef) w1' := h4
    obtain ⟨a4, n4, c4, q4⟩ := ownsForm h4
    have e4 : b'.tmps[14]?.getD undef = .slice a4 n4 c4 := by simpa using q4
    rw [show b'.tmps.getD 14 undef = .slice a4 n4 c4 from q4] at h4
    clear hd hk
    go_step
    exact ⟨_, rfl, h4, uZ⟩
  ·intro v w1' hx1' hp
   have h5 : HeadRow B x (v 5) w1' := hp 5 (by decide)
   obtain ⟨v3, hv3⟩ : ∃ u, u = v 5 := ⟨_, rfl⟩
   rw [<- hv3] at h5
   have HH := zq h5
   have HX2 := zq (HX1.out.trans hx1')
   have HX12 := zq hx1'
   clear hp hx1' h5
   simp only [List.size_toArray, List.length_cons, List.length_nil, Nat.reduceAdd, fillAll, putADst]
   go_simp
   rw [<- hv3]
   clear hv3
   have HB2 := zq (HX12.out.at_ HB1.out id)
   obtain ⟨a3, n3, c3, rfl⟩ := ownsForm HH.out
   go_wp2_with (first | (refine wpList_load_blk rfl _ _ rfl rfl HB2.out (Tryz.nmT x) ?_) | (go_at_call 42; fail))
   refine (numbers_any _ x).mono ?_
   rintro e w3 ⟨rfl, hx3⟩
   obtain ⟨p0, p1, p2, p3, hp4⟩ : ∃ a b c d : Nat, four (numsF x) = #[u64 a, u64 b, u64 c, u64 d] := ⟨_, _, _, _, rfl⟩
   rw [hp4]
   have HP4 := zq hp4
   clear hp4
   have hN := newAt w3 (.cells (four (numsF x)) 104)
   have hx4 : Ext w3 (w3.alloc (.cells (four (numsF x)) 104)) := uZ.alloc _
   obtain ⟨w4, hw4⟩ : ∃ u, u = w3.alloc (.cells (four (numsF x)) 104) := ⟨_, rfl⟩
   obtain ⟨gn, hgn⟩ : ∃ u, u = w3.heap.size := ⟨_, rfl⟩
   rw [<- hw4] at hN hx4
   rw [<- hgn] at hN
   have HN4 := zq hN
   have HW4 := zq hw4
   have HGN := zq hgn
   have HX24 := zq (hx3.trans hx4)
   have HX4 := zq (HX2.out.trans (hx3.trans hx4))
   have HB4 := zq ((hx3.trans hx4).at_ HB2.out id)
   have HH4 := zq (HH.out.ext (hx3.trans hx4))
   clear hN hx4 hw4 hgn hx3
   go_upto_region 5 with (fail)
   rw [show w3.alloc (.cells #[u64 p0, u64 p1, u64 p2, u64 p3] 104) = w4 from by rw [<- HP4.out]; exact HW4.out.symm, show w3.heap.size = gn from HGN.out.symm]
   have hcl := countF_le x.kind
   have hsl : ∀ W, (Instr.sliceAt 104 (.pointer (some ⟨gn, 0, none⟩)) none (some (.int .i64 (countF x.kind : Int))) none).run Tryz.prog W = .ok (.slice (some ⟨gn, 0, none⟩) (countF x.kind) 4) W := fun W => by
    rw [run_sliceAt_array_h W 104 ⟨gn, 0, none⟩ (by kernel_rfl) .i64 (countF x.kind : Int) (by omega) (by rw [Tryz.arr4]; omega), Tryz.arr4]
    go_simp
   have HSL := zq hsl
   have HCL := zq hcl
   clear hsl hcl
   refine wp_region_invH Nothing (fun _ => Ext) 1000 putBDst (putBPhi x g gn) 35 (by kernel_rfl) (by decide) (by decide) rfl (fun i hi => .inl ((by decide : ∀ i, i < 7 -> putBDst i < 35) i hi)) (fun i w w' h => ⟨h, fun _ => h⟩) (fun i j v w w' _ _ _ _ h hu => h.ext hu) ?_ ?_
   ·intro i o b' w1' ho hx1' hd hk hE hSZ
    have hi : i < 7 := (Array.getElem?_eq_some_iff.1 ho).1
    have his : i = 0 \/ i = 1 \/ i = 2 \/ i = 3 \/ i = 4 \/ i = 5 \/ i = 6 := by omega
    clear hE hSZ
    have HW1 := zq hx1'
    clear hx1'
    rcases his with rfl | rfl | rfl | rfl | rfl | rfl | rfl
    all_goals (simp at ho; subst ho)
    case inl =>
     refine .inl ⟨rfl, ?_⟩
     clear hd hk
     go_step
     refine (counts_any w1').mono ?_
     rintro e w2 ⟨rfl, hu⟩
     exact ⟨_, rfl, rfl, hu⟩
    ·
     refine .inl ⟨rfl, ?_⟩
     have o1 : b'.tmps[1]?.getD undef = .pointer (some ⟨g, 0, none⟩) := tAt (hk 1 (fun j oj _ e => (putBDst_ne (by decide) e).elim))
     clear hd hk
     go_step
     exact ⟨_, rfl, rfl, uZ⟩
    ·
     refine .inl ⟨rfl, ?_⟩
     have e1 : b'.tmps[18]?.getD undef = .pointer (some ⟨g, 0, none⟩) := tAt (hd ⟨1, .data⟩ (by simp) rfl)
     clear hd hk
     have hc := cZ (HW1.out.at_ HB4.out id) 0 (.int .u8 x.kind) rfl
     go_step
     exact ⟨_, rfl, rfl, uZ⟩
    ·
     refine .inl ⟨rfl, ?_⟩
     have e0 : b'.tmps[17]?.getD undef = .agg countsV := tAt (hd ⟨0, .data⟩ (by simp) rfl)
     have e2 : b'.tmps[19]?.getD undef = .int .u8 x.kind := tAt (hd ⟨2, .data⟩ (by simp) rfl)
     clear hd hk
     have hh := counts_index HK1.out HK2.out
     go_step
     exact ⟨_, rfl, rfl, uZ⟩
    ·
     refine .inl ⟨rfl, ?_⟩
     have o4 : b'.tmps[4]?.getD undef = .pointer (some ⟨gn, 0, none⟩) := tAt (hk 4 (fun j oj _ e => (putBDst_ne (by decide) e).elim))
     have e3 : b'.tmps[20]?.getD undef = .int .i64 (countF x.kind : Int) := tAt (hd ⟨3, .data⟩ (by simp) rfl)
     clear hd hk
     have hsl := HSL.out
     go_step
     exact ⟨_, rfl, rfl, uZ⟩
    ·
     refine .inl ⟨rfl, ?_⟩
     have e4 : b'.tmps[21]?.getD undef = .slice (some ⟨gn, 0, none⟩) (countF x.kind) 4 := tAt (hd ⟨4, .data⟩ (by simp) rfl)
     clear hd hk
     go_step
     exact ⟨_, rfl, rfl, uZ⟩
    ·
     refine .inl ⟨rfl, ?_⟩
     clear hd hk
     go_step
     exact ⟨_, rfl, rfl, uZ⟩
   ·intro v w1' hx1' hp
    have HX5 := zq (HX4.out.trans hx1')
    have HX45 := zq hx1'
    have v0 : v 4 = .slice (some ⟨gn, 0, none⟩) (countF x.kind) 4 := hp 4 (by decide)
    have v1 : v 5 = .int .i64 (countF x.kind : Int) := hp 5 (by decide)
    have v2 : v 6 = .int .i64 0 := hp 6 (by decide)
    clear hp hx1'
    simp only [List.size_toArray, List.length_cons, List.length_nil, Nat.reduceAdd, fillAll, putBDst]
    go_simp
    clear v0 v1 v2
    have HN5 := zq (HX45.out.at_ HN4.out id)
    have HH5 := zq (HH4.out.ext HX45.out)
    have hcl := HCL.out
    obtain ⟨C, hC⟩ : ∃ C, C = countF x.kind := ⟨_, rfl⟩
    rw [<- hC] at hcl ⊢
    have HC := zq hC
    have HNL := zq (show (numsF x).length = C by rw [hC]; exact numsF_length)
    have hB5 : B <= w1'.heap.size := by have := HBE.out; have := (HX12.out.trans (HX24.out.trans HX45.out)).size; omega
    have HB5 := zq hB5
    clear hC hB5
    go_wp2
    go_loopw [3, 23] (fun v i wr => ∃ k : Nat, k <= C /\ i = .int .i64 k /\ Upd (fun j => B <= j /\ j ≠ gn) w1' wr /\ wr.ownsRow B 9 1 v (1 + k) (strs (wordsTo x k))) (fun _ i _ => C - (intOf i).toNat)
    case atStart => exact ⟨0, Nat.zero_le _, rfl, uZ, HH5.out⟩
    case round =>
     obtain ⟨k, hk, rfl, hx, hown⟩ := hrel
     have HX6 := zq hx
     have hstep : Ext wb wr := HX5.out.step hx (fun i hi h => absurd h.1 (by have := HBE.out; have := HX1.out.size; omega))
     have HXW := zq (HX.out.trans hstep)
     clear hstep
     by_cases hlt : k < C
     ·have hk' : k < (numsF x).length := by rw [HNL.out]; exact hlt
      have hc1 := cZ (hx.at_ HN5.out (fun h => h.2 rfl)) k _ (four_at hk' (by have := HNL.out; omega))
      have hu := numsF_lt HW.out _ (List.getElem_mem hk')
      have hsn := wordsTo_snoc hk'
      obtain ⟨u, hue⟩ : ∃ u, u = (numsF x)[k] := ⟨_, rfl⟩
      rw [<- hue] at hc1 hu hsn
      have HSN := zq hsn
      clear hx hue hk' hsn
      go_wp2_with (go_at_call 44; fail)
      refine (fmtUint_any _ u hu (tab_ext HT.out HXW.out)).mono ?_
      rintro e w5 ⟨rfl, hx5⟩
      have hown5 := hx5.ownsRow hown (fun _ _ e => e)
      have HX7 := zq (HX6.out.ext hx5)
      have HN7 := zq (HX7.out.at_ HN5.out (fun h => h.2 rfl))
      have hsz5 := HX7.out.size
      have hB7 : B <= w5.heap.size := Nat.le_trans HB5.out hsz5
      obtain ⟨D, hD⟩ : ∃ D, D = Lib.decDigits u := ⟨_, rfl⟩
      rw [<- hD]
      have HD := zq hD
      clear hx5 hown hc1 hD
      obtain ⟨a1, n1, c2, rfl⟩ := ownsForm hown5
      go_wp2_with (at_builtin; go_must (refine wpList_append_row rfl _ _ _ rfl Tryz.textsT rfl (hown5.alloc _) rfl (row_new _ _ _ 1 _ (by decide) (by simp)) rfl (by intro u hu; simp at hu; subst hu; rfl) ?c3 ?c4 ?c5 ?_))
      case c3 => unfold maxLen; omega
      case c4 => omega
      case c5 => first | omega | (simp; omega)
      intro v' w6 hown6 hg _
      have hx6 := (HX7.out.alloc _).grown hg (fun j hj h => ⟨(hown5.lt j hj).1, by obtain ⟨cur, hc⟩ := owns_tag hown5 hj; exact tag_ne HN7.out (by decide) hc⟩)
      have HX8 := zq hx6
      have HO6 := zq hown6
      clear hx6 hg hown6
      go_wp2
      go_roundw
      case rel =>
       refine ⟨k + 1, by omega, by go_num, HX8.out, ?_⟩
       rw [HSN.out, <- HD.out, show strs (wordsTo x k ++ [D]) = strs (wordsTo x k) ++ [str D] from by simp]
       exact HO6.out
      case measure => simp [intOf]; omega
     ·have hkl : k = C := by omega
      subst hkl
      have hwall : wordsTo x k = wordsF x := by rw [HC.out]; exact wordsTo_all x
      rw [hwall] at hown
      obtain ⟨g1, g2⟩ := wordsF_len HW.out
      rw [<- HC.out] at g1
      have gj := joinLen (wordsF x) 45 20 g2
      have gj' : (Lib.join (wordsF x) [45]).length <= 105 := Nat.le_trans gj (by rw [g1]; omega)
      obtain ⟨b1, o1, c1, rfl, -, hn1, -, hq1⟩ := (Row.of_owns hown).addr (by omega)
      have hbk : b1 < wr.heap.size := by
       have := hq1 0 (str [headF x.kind]) (by simp [wordsF])
       exact World.block_lt_of_cell? wr ⟨b1, o1 + 0, none⟩ this
      have hm : ((wordsF x).map (fun l => (⟨l.toArray⟩ : ByteArray))).map (·.data.toList) = wordsF x := by
       rw [List.map_map]
       conv => rhs; rw [<- List.map_id (wordsF x)]
       exact List.map_congr_left fun l _ => rfl
      have hJ := Tryz.strings_Join b1 o1 c1 ((wordsF x).map (fun l => (⟨l.toArray⟩ : ByteArray))) ⟨#[45]⟩ wr
       (fun j y hj => by
        rw [List.getElem?_map] at hj
        obtain ⟨l, hl, rfl⟩ := Option.map_eq_some_iff.1 hj
        exact hq1 j (str l) (by rw [List.getElem?_map, hl]; rfl)) hbk (by rw [List.length_map]; omega) (by rw [List.length_map]; omega)
       (by rw [hm]; exact Nat.le_trans gj' (by omega))
      rw [hm, List.length_map, g1] at hJ
      obtain ⟨J, hJl⟩ : ∃ J, J = Lib.join (wordsF x) [45] := ⟨_, rfl⟩
      rw [show (⟨#[45]⟩ : ByteArray).data.toList = [45] from rfl, <- hJl] at hJ
      have HJ := zq hJl
      have HJJ := zq hJ
      clear hJ hJl hm hq1 hown g1 g2 gj gj' hwall
      go_wp2_with (go_at_call 45; fail)
      refine HJJ.out.mono ?_
      rintro e w5 ⟨rfl, hb5⟩
      go_wp2
      go_ret
      refine ⟨?_, ?_⟩
      ·unfold putF; rw [if_pos HM.out, <- HJ.out]; rfl
      ·exact HXW.out.trans ⟨hb5.os, hb5.tape, hb5.output, hb5.size, fun j hj _ => hb5.block j hj⟩
end Go.Proofs.YtnkmpoplibnflaaGreatDoor
set_option maxRecDepth 100000
set_option maxHeartbeats 16000000
namespace Go.Proofs.YtnkmpoplibnflaaGreatDoor
open Go
theorem index45 : ∀ s : List UInt8, ((45 : UInt8) ∉ s /\ Lib.index s [45] = -1) \/ ∃ a r, s = a ++ 45 :: r /\ (45 : UInt8) ∉ a /\ Lib.index s [45] = (a.length : Int)
 | [] => .inl ⟨by simp, rfl⟩
 | b :: l => by
  unfold Lib.index
  by_cases hb : b = 45
  ·subst hb
   exact .inr ⟨[], l, rfl, by simp, by simp [List.isPrefixOf]⟩
  ·have hp : ([45] : List UInt8).isPrefixOf (b :: l) = false := by simp [List.isPrefixOf]; exact fun e => hb e.symm
   rw [if_neg (by rw [hp]; decide)]
   rcases index45 l with ⟨h1, h2⟩ | ⟨a, r, h1, h2, h3⟩
   ·exact .inl ⟨by simp only [List.mem_cons, not_or]; exact ⟨fun e => hb e.symm, h1⟩, by rw [h2]; rfl⟩
   ·refine .inr ⟨b :: a, r, by rw [h1]; rfl, by simp only [List.mem_cons, not_or]; exact ⟨fun e => hb e.symm, h2⟩, ?_⟩
    rw [h3, if_neg (by simp)]
    simp
theorem split45 : ∀ (fuel : Nat) (s : List UInt8), s.length < fuel -> (splitF s).length = Lib.countFrom [45] fuel s + 1 /\ Lib.splitK [45] 0 (Lib.countFrom [45] fuel s) s = splitF s
 | 0, s, h => absurd h (Nat.not_lt_zero _)
 | fuel + 1, s, h => by
  unfold Lib.countFrom
  rcases index45 s with ⟨h1, h2⟩ | ⟨a, r, h1, h2, h3⟩
  ·rw [h2, if_pos (by decide), splitF_word h1]
   exact ⟨rfl, rfl⟩
  ·have hd : s.drop ((Lib.index s [45]).toNat + ([45] : List UInt8).length) = r := by
    rw [h3, h1]; simp
   rw [hd, if_neg (by rw [h3]; simp)]
   have hr : r.length < fuel := by rw [h1] at h; simp at h; omega
   obtain ⟨i1, i2⟩ := split45 fuel r hr
   have hs : splitF s = a :: splitF r := by rw [h1, splitF_cut h2]
   rw [hs, List.length_cons, i1]
   refine ⟨by omega, ?_⟩
   rw [Nat.add_comm 1, Lib.splitK, if_neg (by rw [h3]; simp), hd, i2]
   congr 1
   rw [h3, h1]; simp
theorem split_is (s : List UInt8) : Lib.splitK [45] 0 (Lib.count s [45]) s = splitF s /\ (splitF s).length = Lib.count s [45] + 1 :=
 ⟨(split45 _ s (by omega)).2, (split45 _ s (by omega)).1⟩
end Go.Proofs.YtnkmpoplibnflaaGreatDoor
set_option maxRecDepth 100000
set_option maxHeartbeats 16000000
namespace Go.Proofs.YtnkmpoplibnflaaGreatDoor
open Go.RowKit
def idxF (x : List UInt8) : List (List UInt8) -> Int
 | [] => -1
 | y :: r => if y = x then 0 else if idxF x r = -1 then -1 else idxF x r + 1
theorem idxF_none {x : List UInt8} : ∀ {l : List (List UInt8)}, (∀ k (h : k < l.length), l[k] ≠ x) -> idxF x l = -1
 | [], _ => rfl
 | y :: r, h => by
  have h0 : y ≠ x := h 0 (by simp)
  have hr : idxF x r = -1 := idxF_none (fun k hk => by have := h (k + 1) (by simp; omega); simpa using this)
  unfold idxF; rw [if_neg h0, if_pos hr]
theorem idxF_at {x : List UInt8} : ∀ {l : List (List UInt8)} {k : Nat} (hk : k < l.length), l[k] = x -> (∀ j (h : j < l.length), j < k -> l[j] ≠ x) -> idxF x l = k
 | y :: r, 0, _, h1, _ => by unfold idxF; rw [if_pos (by simpa using h1)]; rfl
 | y :: r, k + 1, hk, h1, h2 => by
  have h0 : y ≠ x := h2 0 (by simp) (by omega)
  have hr : idxF x r = k := idxF_at (l := r) (k := k) (by simpa using hk) (by simpa using h1) (fun j hj hjk => by have := h2 (j + 1) (by simp; omega) (by omega); simpa using this)
  unfold idxF; rw [if_neg h0, hr, if_neg (by omega)]; omega
theorem index_any {S : Nat -> Prop} (w : World) (v : Value) (l : List (List UInt8)) (x : List UInt8) (h : Texts S w v l) :
  Calls Tryz.prog 118 #[v, str x] w fun e w' => e = .returned (.int .i64 (idxF x l)) /\ Ext w w' := by
 have g := h.addr
 have G := zq g
 obtain ⟨a, c, rfl, hn, hm, -⟩ := h
 unfold maxLen at hm
 clear g
 go_enter Tryz.func118, Tryz.ntmps118
 go_wp2
 go_loopw [8] (fun i wr => ∃ k : Nat, k <= l.length /\ i = .int .i64 k /\ Ext w wr /\ ∀ j (h : j < l.length), j < k -> l[j] ≠ x) (fun i _ => l.length - (intOf i).toNat)
 case atStart => exact ⟨0, Nat.zero_le _, rfl, uZ, fun j _ hj => absurd hj (Nat.not_lt_zero _)⟩
 case round =>
  obtain ⟨k, hk, rfl, hx, hno⟩ := hrel
  have HNO := zq hno
  clear hno
  by_cases hlt : k < l.length
  ·obtain ⟨b, o, c', e, -, -, -, hq⟩ := G.out (by omega)
   cases e
   have hc := hx.cell (texts_cell hq k hlt) id
   obtain ⟨s, hs⟩ : ∃ s, s = l[k] := ⟨_, rfl⟩
   rw [<- hs] at hc
   have HS := zq hs
   have HX := zq hx
   clear hx hq hs
   by_cases he : s = x
   ·have HE := zq he
    subst he
    go_wp2
    go_ret
    exact ⟨by rw [idxF_at hlt HS.out.symm HNO.out]; rfl, HX.out⟩
   ·have hb : ((⟨x.toArray⟩ : ByteArray).toList == (⟨s.toArray⟩ : ByteArray).toList) = false := by
     rw [beq_eq_false_iff_ne, bytes_toList, bytes_toList]; exact fun e => he e.symm
    have hb2 : (x == s) = false := by rw [beq_eq_false_iff_ne]; exact fun e => he e.symm
    have HE := zq he
    clear he
    go_wp2
    go_roundw
    case rel =>
     refine ⟨k + 1, by omega, by go_num, HX.out, fun j hj hjk => ?_⟩
     by_cases hjk' : j = k
     ·subst hjk'; rw [<- HS.out]; exact HE.out
     ·exact HNO.out j hj (by omega)
    case measure => simp [intOf]; omega
  ·go_wp2
   go_ret
   refine ⟨by rw [idxF_none (fun j hj => HNO.out j hj (by omega))]; rfl, hx⟩
end Go.Proofs.YtnkmpoplibnflaaGreatDoor
