/-
  CONTRACTS of the reference's numbers, May. No condition.
-/
import Derived.Test.YtnkmpoplibnflaaGreatDoorNRef2
set_option maxRecDepth 100000
set_option maxHeartbeats 16000000
namespace Go.Proofs.YtnkmpoplibnflaaGreatDoor
open Go.RowKit
abbrev NumRow (l : List Nat) (v : Value) (w : World) : Prop := Row (fun _ => True) w v l.length (l.map u64)
theorem NumRow.ext {l : List Nat} {v : Value} {w w' : World} (h : NumRow l v w) (hu : Ext w w') : NumRow l v w' := Row.ext h hu
theorem mayF_12 {x : Nm} (h : x.kind = 1 \/ x.kind = 2) : mayF x = (decide (x.proc = 0) && (decide (x.inc = 0) && decide (x.k = 0))) := by
 obtain ⟨k, a, b, c, d, e⟩ := x
 rw [Bool.eq_iff_iff]
 rcases h with h | h <;> (simp only at h; subst h; simp [mayF, ofF, numsF] <;> first | exact eq_comm | omega)
theorem mayF_3 {x : Nm} (h : x.kind = 3) : mayF x = (decide (x.doc = 0) && decide (x.n = 0)) := by
 obtain ⟨k, a, b, c, d, e⟩ := x
 rw [Bool.eq_iff_iff]
 simp only at h; subst h; simp [mayF, ofF, numsF] <;> first | exact eq_comm | omega
theorem mayF_4 {x : Nm} (h : x.kind = 4) : mayF x = decide (x.n = 0) := by
 obtain ⟨k, a, b, c, d, e⟩ := x
 rw [Bool.eq_iff_iff]
 simp only at h; subst h; simp [mayF, ofF, numsF] <;> first | exact eq_comm | omega
theorem dec_int0 (n : Nat) : ((n : Int) == 0) = decide (n = 0) := by
 rw [Bool.eq_iff_iff]; simp
def rna0Val (x : Nm) (g : Nat) : Nat -> Value
 | 0 => .pointer (some ⟨g, 1, none⟩)
 | 1 => u64 x.doc
 | 2 => .pointer (some ⟨g, 2, none⟩)
 | 3 => u64 x.n
 | 5 => .pointer (some ⟨g, 3, none⟩)
 | 6 => u64 x.proc
 | 7 => .bool false
 | 8 => .bool false
 | 12 => .bool false
 | 13 => .bool false
 | 17 => .bool false
 | 19 => .bool false
 | _ => undef
def rna0Dst (i : Nat) : Tmp := if i = 18 then 2 else if i = 19 then 3 else 9 + i
theorem rna0Dst_ne {j t : Nat} (ht : t = 1) (e : rna0Dst j = t) : False := by
 unfold rna0Dst at e
 have e : (if j = 18 then 2 else if j = 19 then 3 else 9 + j : Nat) = t := e
 rcases ht with rfl <;> (repeat' (split at e)) <;> omega
def rna0Phi (x : Nm) (g : Nat) (i : Nat) (v : Value) (w : World) : Prop := if i = 4 then NumRow [x.doc, x.n] v w else if i = 18 then NumRow [x.doc, x.n] v w else v = rna0Val x g i
theorem rna0Phi.ext {x : Nm} {g : Nat} {i : Nat} {v : Value} {w w' : World} (h : rna0Phi x g i v w) (hu : Ext w w') : rna0Phi x g i v w' := by
 unfold rna0Phi at h ⊢
 by_cases c : i = 4
 ·rw [if_pos c] at h ⊢; exact h.ext hu
 ·rw [if_neg c] at h ⊢
  by_cases c : i = 18
  ·rw [if_pos c] at h ⊢; exact h.ext hu
  ·rw [if_neg c] at h ⊢
   exact h
def rna1Val (x : Nm) (g : Nat) : Nat -> Value
 | 0 => .pointer (some ⟨g, 1, none⟩)
 | 1 => u64 x.doc
 | 2 => .pointer (some ⟨g, 2, none⟩)
 | 3 => u64 x.n
 | 5 => .pointer (some ⟨g, 3, none⟩)
 | 6 => u64 x.proc
 | 7 => .bool true
 | 8 => .bool true
 | 9 => .pointer (some ⟨g, 4, none⟩)
 | 10 => u64 x.inc
 | 11 => .bool false
 | 12 => .bool false
 | 13 => .bool false
 | 17 => .bool false
 | 19 => .bool false
 | _ => undef
def rna1Dst (i : Nat) : Tmp := if i = 18 then 2 else if i = 19 then 3 else 9 + i
theorem rna1Dst_ne {j t : Nat} (ht : t = 1) (e : rna1Dst j = t) : False := by
 unfold rna1Dst at e
 have e : (if j = 18 then 2 else if j = 19 then 3 else 9 + j : Nat) = t := e
 rcases ht with rfl <;> (repeat' (split at e)) <;> omega
def rna1Phi (x : Nm) (g : Nat) (i : Nat) (v : Value) (w : World) : Prop := if i = 4 then NumRow [x.doc, x.n] v w else if i = 18 then NumRow [x.doc, x.n] v w else v = rna1Val x g i
theorem rna1Phi.ext {x : Nm} {g : Nat} {i : Nat} {v : Value} {w w' : World} (h : rna1Phi x g i v w) (hu : Ext w w') : rna1Phi x g i v w' := by
 unfold rna1Phi at h ⊢
 by_cases c : i = 4
 ·rw [if_pos c] at h ⊢; exact h.ext hu
 ·rw [if_neg c] at h ⊢
  by_cases c : i = 18
  ·rw [if_pos c] at h ⊢; exact h.ext hu
  ·rw [if_neg c] at h ⊢
   exact h
def rna2Val (x : Nm) (g : Nat) : Nat -> Value
 | 0 => .pointer (some ⟨g, 1, none⟩)
 | 1 => u64 x.doc
 | 2 => .pointer (some ⟨g, 2, none⟩)
 | 3 => u64 x.n
 | 5 => .pointer (some ⟨g, 3, none⟩)
 | 6 => u64 x.proc
 | 7 => .bool true
 | 8 => .bool true
 | 9 => .pointer (some ⟨g, 4, none⟩)
 | 10 => u64 x.inc
 | 11 => .bool true
 | 12 => .bool true
 | 13 => .bool true
 | 14 => .pointer (some ⟨g, 5, none⟩)
 | 15 => u64 x.k
 | 16 => .bool ((x.k : Int) == 0)
 | 17 => .bool ((x.k : Int) == 0)
 | 19 => .bool ((x.k : Int) == 0)
 | _ => undef
def rna2Dst (i : Nat) : Tmp := if i = 18 then 2 else if i = 19 then 3 else 9 + i
theorem rna2Dst_ne {j t : Nat} (ht : t = 1) (e : rna2Dst j = t) : False := by
 unfold rna2Dst at e
 have e : (if j = 18 then 2 else if j = 19 then 3 else 9 + j : Nat) = t := e
 rcases ht with rfl <;> (repeat' (split at e)) <;> omega
def rna2Phi (x : Nm) (g : Nat) (i : Nat) (v : Value) (w : World) : Prop := if i = 4 then NumRow [x.doc, x.n] v w else if i = 18 then NumRow [x.doc, x.n] v w else v = rna2Val x g i
theorem rna2Phi.ext {x : Nm} {g : Nat} {i : Nat} {v : Value} {w w' : World} (h : rna2Phi x g i v w) (hu : Ext w w') : rna2Phi x g i v w' := by
 unfold rna2Phi at h ⊢
 by_cases c : i = 4
 ·rw [if_pos c] at h ⊢; exact h.ext hu
 ·rw [if_neg c] at h ⊢
  by_cases c : i = 18
  ·rw [if_pos c] at h ⊢; exact h.ext hu
  ·rw [if_neg c] at h ⊢
   exact h
def rnb0Val (x : Nm) (g : Nat) : Nat -> Value
 | 0 => .pointer (some ⟨g, 3, none⟩)
 | 1 => u64 x.proc
 | 2 => .pointer (some ⟨g, 4, none⟩)
 | 3 => u64 x.inc
 | 4 => .pointer (some ⟨g, 5, none⟩)
 | 5 => u64 x.k
 | 7 => .pointer (some ⟨g, 1, none⟩)
 | 8 => u64 x.doc
 | 9 => .bool false
 | 10 => .bool false
 | 14 => .bool false
 | 16 => .bool false
 | _ => undef
def rnb0Dst (i : Nat) : Tmp := if i = 15 then 2 else if i = 16 then 3 else 29 + i
theorem rnb0Dst_ne {j t : Nat} (ht : t = 1) (e : rnb0Dst j = t) : False := by
 unfold rnb0Dst at e
 have e : (if j = 15 then 2 else if j = 16 then 3 else 29 + j : Nat) = t := e
 rcases ht with rfl <;> (repeat' (split at e)) <;> omega
def rnb0Phi (x : Nm) (g : Nat) (i : Nat) (v : Value) (w : World) : Prop := if i = 6 then NumRow [x.proc, x.inc, x.k] v w else if i = 15 then NumRow [x.proc, x.inc, x.k] v w else v = rnb0Val x g i
theorem rnb0Phi.ext {x : Nm} {g : Nat} {i : Nat} {v : Value} {w w' : World} (h : rnb0Phi x g i v w) (hu : Ext w w') : rnb0Phi x g i v w' := by
 unfold rnb0Phi at h ⊢
 by_cases c : i = 6
 ·rw [if_pos c] at h ⊢; exact h.ext hu
 ·rw [if_neg c] at h ⊢
  by_cases c : i = 15
  ·rw [if_pos c] at h ⊢; exact h.ext hu
  ·rw [if_neg c] at h ⊢
   exact h
def rnb1Val (x : Nm) (g : Nat) : Nat -> Value
 | 0 => .pointer (some ⟨g, 3, none⟩)
 | 1 => u64 x.proc
 | 2 => .pointer (some ⟨g, 4, none⟩)
 | 3 => u64 x.inc
 | 4 => .pointer (some ⟨g, 5, none⟩)
 | 5 => u64 x.k
 | 7 => .pointer (some ⟨g, 1, none⟩)
 | 8 => u64 x.doc
 | 9 => .bool true
 | 10 => .bool true
 | 11 => .pointer (some ⟨g, 2, none⟩)
 | 12 => u64 x.n
 | 13 => .bool ((x.n : Int) == 0)
 | 14 => .bool ((x.n : Int) == 0)
 | 16 => .bool ((x.n : Int) == 0)
 | _ => undef
def rnb1Dst (i : Nat) : Tmp := if i = 15 then 2 else if i = 16 then 3 else 29 + i
theorem rnb1Dst_ne {j t : Nat} (ht : t = 1) (e : rnb1Dst j = t) : False := by
 unfold rnb1Dst at e
 have e : (if j = 15 then 2 else if j = 16 then 3 else 29 + j : Nat) = t := e
 rcases ht with rfl <;> (repeat' (split at e)) <;> omega
def rnb1Phi (x : Nm) (g : Nat) (i : Nat) (v : Value) (w : World) : Prop := if i = 6 then NumRow [x.proc, x.inc, x.k] v w else if i = 15 then NumRow [x.proc, x.inc, x.k] v w else v = rnb1Val x g i
theorem rnb1Phi.ext {x : Nm} {g : Nat} {i : Nat} {v : Value} {w w' : World} (h : rnb1Phi x g i v w) (hu : Ext w w') : rnb1Phi x g i v w' := by
 unfold rnb1Phi at h ⊢
 by_cases c : i = 6
 ·rw [if_pos c] at h ⊢; exact h.ext hu
 ·rw [if_neg c] at h ⊢
  by_cases c : i = 15
  ·rw [if_pos c] at h ⊢; exact h.ext hu
  ·rw [if_neg c] at h ⊢
   exact h
def rncVal (x : Nm) (g : Nat) : Nat -> Value
 | 0 => .pointer (some ⟨g, 1, none⟩)
 | 1 => u64 x.doc
 | 2 => .pointer (some ⟨g, 3, none⟩)
 | 3 => u64 x.proc
 | 4 => .pointer (some ⟨g, 4, none⟩)
 | 5 => u64 x.inc
 | 6 => .pointer (some ⟨g, 5, none⟩)
 | 7 => u64 x.k
 | 9 => .pointer (some ⟨g, 2, none⟩)
 | 10 => u64 x.n
 | 11 => .bool ((x.n : Int) == 0)
 | 13 => .bool ((x.n : Int) == 0)
 | _ => undef
def rncDst (i : Nat) : Tmp := if i = 12 then 2 else if i = 13 then 3 else 46 + i
theorem rncDst_ne {j t : Nat} (ht : t = 1) (e : rncDst j = t) : False := by
 unfold rncDst at e
 have e : (if j = 12 then 2 else if j = 13 then 3 else 46 + j : Nat) = t := e
 rcases ht with rfl <;> (repeat' (split at e)) <;> omega
def rncPhi (x : Nm) (g : Nat) (i : Nat) (v : Value) (w : World) : Prop := if i = 8 then NumRow [x.doc, x.proc, x.inc, x.k] v w else if i = 12 then NumRow [x.doc, x.proc, x.inc, x.k] v w else v = rncVal x g i
theorem rncPhi.ext {x : Nm} {g : Nat} {i : Nat} {v : Value} {w w' : World} (h : rncPhi x g i v w) (hu : Ext w w') : rncPhi x g i v w' := by
 unfold rncPhi at h ⊢
 by_cases c : i = 8
 ·rw [if_pos c] at h ⊢; exact h.ext hu
 ·rw [if_neg c] at h ⊢
  by_cases c : i = 12
  ·rw [if_pos c] at h ⊢; exact h.ext hu
  ·rw [if_neg c] at h ⊢
   exact h
theorem rnums_any (w : World) (x : Nm) :
  Calls Tryz.prog 34 #[.agg (nmCells x)] w fun e w' => ∃ v, e = .returned (.tuple #[v, .bool (mayF x)]) /\ (mayF x = true -> NumRow (numsF x) v w') /\ Ext w w' := by
 have hx : Ext w (w.alloc (.cells (nmCells x) 73)) := uZ.alloc _
 have hb := newAt w (.cells (nmCells x) 73)
 obtain ⟨wb, hwb⟩ : ∃ u, u = w.alloc (.cells (nmCells x) 73) := ⟨_, rfl⟩
 obtain ⟨g, hg⟩ : ∃ g, g = w.heap.size := ⟨_, rfl⟩
 rw [<- hwb] at hx hb
 rw [<- hg] at hb
 have HX := zq hx
 have HB := zq hb
 have HWB := zq hwb
 have HG := zq hg
 have hc0 : wb.cell? ⟨g, 0, none⟩ = some (.int .u8 x.kind) := cZ hb 0 _ rfl
 clear hx hb hwb hg
 go_enter Tryz.func34, Tryz.ntmps34
 go_upto_region 1 with (fail)
 rw [show w.alloc (.cells (nmCells x) 73) = wb from HWB.out.symm, show w.heap.size = g from HG.out.symm]
 by_cases h12 : x.kind = 1 \/ x.kind = 2
 ·have hm := mayF_12 h12
  have hn : numsF x = [x.doc, x.n] := by unfold numsF; rw [if_pos h12]
  have HM := zq hm
  have HN := zq hn
  have key : (((x.kind : Int) == 1) = true) \/ (((x.kind : Int) == 1) = false /\ ((x.kind : Int) == 2) = true) := by
   rcases h12 with h | h <;> simp [h]
  clear h12 hm hn
  by_cases hp : x.proc = 0
  ·have fp : ((x.proc : Int) == 0) = true := by simp; omega
   by_cases hi : x.inc = 0
   ·have fi : ((x.inc : Int) == 0) = true := by simp; omega
    have HP := zq hp
    have HI := zq hi
    clear hp hi
    rcases key with k1 | ⟨k1, k2⟩
    all_goals
     clear hc0
     have hc0 : wb.cell? ⟨g, 0, none⟩ = some (.int .u8 x.kind) := cZ HB.out 0 _ rfl
     go_upto_region 4 with (fail)
     clear hc0
     refine wp_region_invH Nothing (fun _ => Ext) 1000 rna2Dst (rna2Phi x g) 58 (by kernel_rfl) (by decide) (by decide) rfl (fun i hi => .inl ((by decide : ∀ i, i < 20 -> rna2Dst i < 58) i hi)) (fun i w w' h => ⟨h, fun _ => h⟩) (fun i j v w w' _ _ _ _ h hu => h.ext hu) ?_ ?_
     ·intro i o b' w1' ho hx1' hd hk hE hSZ
      have hi : i < 20 := (Array.getElem?_eq_some_iff.1 ho).1
      have his : i = 0 \/ i = 1 \/ i = 2 \/ i = 3 \/ i = 4 \/ i = 5 \/ i = 6 \/ i = 7 \/ i = 8 \/ i = 9 \/ i = 10 \/ i = 11 \/ i = 12 \/ i = 13 \/ i = 14 \/ i = 15 \/ i = 16 \/ i = 17 \/ i = 18 \/ i = 19 := by omega
      clear hE hSZ
      have HW1 := zq hx1'
      clear hx1'
      rcases his with rfl | rfl | rfl | rfl | rfl | rfl | rfl | rfl | rfl | rfl | rfl | rfl | rfl | rfl | rfl | rfl | rfl | rfl | rfl | rfl
      all_goals (simp at ho; subst ho)
      case inl =>
       refine .inl ⟨rfl, ?_⟩
       have o1 : b'.tmps[1]?.getD undef = .pointer (some ⟨g, 0, none⟩) := tAt (hk 1 (fun j oj _ e => (rna2Dst_ne (by decide) e).elim))
       clear hd hk
       go_step
       exact ⟨_, rfl, rfl, uZ⟩
      ·
       refine .inl ⟨rfl, ?_⟩
       have e0 : b'.tmps[9]?.getD undef = .pointer (some ⟨g, 1, none⟩) := tAt (hd ⟨0, .data⟩ (by simp) rfl)
       clear hd hk
       have hc : w1'.cell? ⟨g, 1, none⟩ = some (u64 x.doc) := cZ (HW1.out.at_ HB.out id) 1 _ rfl
       go_step
       exact ⟨_, rfl, rfl, uZ⟩
      ·
       refine .inl ⟨rfl, ?_⟩
       have o1 : b'.tmps[1]?.getD undef = .pointer (some ⟨g, 0, none⟩) := tAt (hk 1 (fun j oj _ e => (rna2Dst_ne (by decide) e).elim))
       clear hd hk
       go_step
       exact ⟨_, rfl, rfl, uZ⟩
      ·
       refine .inl ⟨rfl, ?_⟩
       have e2 : b'.tmps[11]?.getD undef = .pointer (some ⟨g, 2, none⟩) := tAt (hd ⟨2, .data⟩ (by simp) rfl)
       clear hd hk
       have hc : w1'.cell? ⟨g, 2, none⟩ = some (u64 x.n) := cZ (HW1.out.at_ HB.out id) 2 _ rfl
       go_step
       exact ⟨_, rfl, rfl, uZ⟩
      ·
       refine .inl ⟨rfl, ?_⟩
       have e1 : b'.tmps[10]?.getD undef = u64 x.doc := tAt (hd ⟨1, .data⟩ (by simp) rfl)
       have e3 : b'.tmps[12]?.getD undef = u64 x.n := tAt (hd ⟨3, .data⟩ (by simp) rfl)
       clear hd hk
       go_step
       exact ⟨_, rfl, (show NumRow [x.doc, x.n] _ _ from (row_new w1' ([x.doc, x.n].map u64).toArray 22 2 w1'.heap.size (by decide) rfl).mono (fun _ _ => trivial)), uZ.alloc _⟩
      ·
       refine .inl ⟨rfl, ?_⟩
       have o1 : b'.tmps[1]?.getD undef = .pointer (some ⟨g, 0, none⟩) := tAt (hk 1 (fun j oj _ e => (rna2Dst_ne (by decide) e).elim))
       clear hd hk
       go_step
       exact ⟨_, rfl, rfl, uZ⟩
      ·
       refine .inl ⟨rfl, ?_⟩
       have e5 : b'.tmps[14]?.getD undef = .pointer (some ⟨g, 3, none⟩) := tAt (hd ⟨5, .data⟩ (by simp) rfl)
       clear hd hk
       have hc : w1'.cell? ⟨g, 3, none⟩ = some (u64 x.proc) := cZ (HW1.out.at_ HB.out id) 3 _ rfl
       go_step
       exact ⟨_, rfl, rfl, uZ⟩
      ·
       refine .inl ⟨rfl, ?_⟩
       have e6 : b'.tmps[15]?.getD undef = u64 x.proc := tAt (hd ⟨6, .data⟩ (by simp) rfl)
       clear hd hk
       go_step
       exact ⟨_, rfl, rfl, uZ⟩
      ·
       refine .inl ⟨rfl, ?_⟩
       have e7 : b'.tmps[16]?.getD undef = .bool true := tAt (hd ⟨7, .data⟩ (by simp) rfl)
       clear hd hk
       go_step
       exact ⟨_, rfl, rfl, uZ⟩
      ·
       refine .inl ⟨gAt rfl rfl (hd ⟨8, .guard⟩ (by simp) rfl), ?_⟩
       have o1 : b'.tmps[1]?.getD undef = .pointer (some ⟨g, 0, none⟩) := tAt (hk 1 (fun j oj _ e => (rna2Dst_ne (by decide) e).elim))
       clear hd hk
       go_step
       exact ⟨_, rfl, rfl, uZ⟩
      ·
       refine .inl ⟨gAt rfl rfl (hd ⟨8, .guard⟩ (by simp) rfl), ?_⟩
       have e9 : b'.tmps[18]?.getD undef = .pointer (some ⟨g, 4, none⟩) := tAt (hd ⟨9, .data⟩ (by simp) rfl)
       clear hd hk
       have hc : w1'.cell? ⟨g, 4, none⟩ = some (u64 x.inc) := cZ (HW1.out.at_ HB.out id) 4 _ rfl
       go_step
       exact ⟨_, rfl, rfl, uZ⟩
      ·
       refine .inl ⟨gAt rfl rfl (hd ⟨8, .guard⟩ (by simp) rfl), ?_⟩
       have e10 : b'.tmps[19]?.getD undef = u64 x.inc := tAt (hd ⟨10, .data⟩ (by simp) rfl)
       clear hd hk
       go_step
       exact ⟨_, rfl, rfl, uZ⟩
      ·
       refine .inl ⟨rfl, ?_⟩
       have e8 : b'.tmps[17]?.getD undef = .bool true := tAt (hd ⟨8, .data⟩ (by simp) rfl)
       have e11 : b'.tmps[20]?.getD undef = .bool true := tAt (hd ⟨11, .data⟩ (by simp) rfl)
       clear hd hk
       go_step
       exact ⟨_, rfl, rfl, uZ⟩
      ·
       refine .inl ⟨rfl, ?_⟩
       have e12 : b'.tmps[21]?.getD undef = .bool true := tAt (hd ⟨12, .data⟩ (by simp) rfl)
       clear hd hk
       go_step
       exact ⟨_, rfl, rfl, uZ⟩
      ·
       refine .inl ⟨gAt rfl rfl (hd ⟨13, .guard⟩ (by simp) rfl), ?_⟩
       have o1 : b'.tmps[1]?.getD undef = .pointer (some ⟨g, 0, none⟩) := tAt (hk 1 (fun j oj _ e => (rna2Dst_ne (by decide) e).elim))
       clear hd hk
       go_step
       exact ⟨_, rfl, rfl, uZ⟩
      ·
       refine .inl ⟨gAt rfl rfl (hd ⟨13, .guard⟩ (by simp) rfl), ?_⟩
       have e14 : b'.tmps[23]?.getD undef = .pointer (some ⟨g, 5, none⟩) := tAt (hd ⟨14, .data⟩ (by simp) rfl)
       clear hd hk
       have hc : w1'.cell? ⟨g, 5, none⟩ = some (u64 x.k) := cZ (HW1.out.at_ HB.out id) 5 _ rfl
       go_step
       exact ⟨_, rfl, rfl, uZ⟩
      ·
       refine .inl ⟨gAt rfl rfl (hd ⟨13, .guard⟩ (by simp) rfl), ?_⟩
       have e15 : b'.tmps[24]?.getD undef = u64 x.k := tAt (hd ⟨15, .data⟩ (by simp) rfl)
       clear hd hk
       go_step
       exact ⟨_, rfl, rfl, uZ⟩
      ·
       refine .inl ⟨rfl, ?_⟩
       have e13 : b'.tmps[22]?.getD undef = .bool true := tAt (hd ⟨13, .data⟩ (by simp) rfl)
       have e16 : b'.tmps[25]?.getD undef = .bool ((x.k : Int) == 0) := tAt (hd ⟨16, .data⟩ (by simp) rfl)
       clear hd hk
       go_step
       exact ⟨_, rfl, rfl, uZ⟩
      ·
       refine .inl ⟨rfl, ?_⟩
       have h4 := hd ⟨4, .data⟩ (by simp) rfl
       have h4 : NumRow [x.doc, x.n] (b'.tmps.getD 13 undef) w1' := h4
       have h4' := h4
       obtain ⟨a4, c4, q4, -, -, -⟩ := h4'
       have e4 : b'.tmps[13]?.getD undef = .slice a4 2 c4 := by simpa using q4
       rw [show b'.tmps.getD 13 undef = .slice a4 2 c4 from q4] at h4
       clear hd hk
       go_step
       exact ⟨_, rfl, h4, uZ⟩
      ·
       refine .inl ⟨rfl, ?_⟩
       have e17 : b'.tmps[26]?.getD undef = .bool ((x.k : Int) == 0) := tAt (hd ⟨17, .data⟩ (by simp) rfl)
       clear hd hk
       go_step
       exact ⟨_, rfl, rfl, uZ⟩
     ·intro v w1' hx1' hp
      have hs := hp 18 (by decide)
      have hb : v 19 = .bool ((x.k : Int) == 0) := hp 19 (by decide)
      have hs : NumRow [x.doc, x.n] (v 18) w1' := hs
      have HS := zq hs
      have HX8 := zq (HX.out.trans hx1')
      clear hp hx1' hs
      simp only [List.size_toArray, List.length_cons, List.length_nil, Nat.reduceAdd, fillAll, rna2Dst]
      go_simp
      clear hb
      go_wp2
      go_ret2
      refine ⟨_, by rw [show mayF x = ((x.k : Int) == 0) by rw [HM.out, HP.out, HI.out, dec_int0]; simp]; rfl, fun _ => ?_, HX8.out⟩
      rw [show numsF x = [x.doc, x.n] from HN.out]
      exact HS.out
   ·have fi : ((x.inc : Int) == 0) = false := by simp; omega
    have HP := zq hp
    have HI := zq hi
    clear hp hi
    rcases key with k1 | ⟨k1, k2⟩
    all_goals
     clear hc0
     have hc0 : wb.cell? ⟨g, 0, none⟩ = some (.int .u8 x.kind) := cZ HB.out 0 _ rfl
     go_upto_region 4 with (fail)
     clear hc0
     refine wp_region_invH Nothing (fun _ => Ext) 1000 rna1Dst (rna1Phi x g) 58 (by kernel_rfl) (by decide) (by decide) rfl (fun i hi => .inl ((by decide : ∀ i, i < 20 -> rna1Dst i < 58) i hi)) (fun i w w' h => ⟨h, fun _ => h⟩) (fun i j v w w' _ _ _ _ h hu => h.ext hu) ?_ ?_
     ·intro i o b' w1' ho hx1' hd hk hE hSZ
      have hi : i < 20 := (Array.getElem?_eq_some_iff.1 ho).1
      have his : i = 0 \/ i = 1 \/ i = 2 \/ i = 3 \/ i = 4 \/ i = 5 \/ i = 6 \/ i = 7 \/ i = 8 \/ i = 9 \/ i = 10 \/ i = 11 \/ i = 12 \/ i = 13 \/ i = 14 \/ i = 15 \/ i = 16 \/ i = 17 \/ i = 18 \/ i = 19 := by omega
      clear hE hSZ
      have HW1 := zq hx1'
      clear hx1'
      rcases his with rfl | rfl | rfl | rfl | rfl | rfl | rfl | rfl | rfl | rfl | rfl | rfl | rfl | rfl | rfl | rfl | rfl | rfl | rfl | rfl
      all_goals (simp at ho; subst ho)
      case inl =>
       refine .inl ⟨rfl, ?_⟩
       have o1 : b'.tmps[1]?.getD undef = .pointer (some ⟨g, 0, none⟩) := tAt (hk 1 (fun j oj _ e => (rna1Dst_ne (by decide) e).elim))
       clear hd hk
       go_step
       exact ⟨_, rfl, rfl, uZ⟩
      ·
       refine .inl ⟨rfl, ?_⟩
       have e0 : b'.tmps[9]?.getD undef = .pointer (some ⟨g, 1, none⟩) := tAt (hd ⟨0, .data⟩ (by simp) rfl)
       clear hd hk
       have hc : w1'.cell? ⟨g, 1, none⟩ = some (u64 x.doc) := cZ (HW1.out.at_ HB.out id) 1 _ rfl
       go_step
       exact ⟨_, rfl, rfl, uZ⟩
      ·
       refine .inl ⟨rfl, ?_⟩
       have o1 : b'.tmps[1]?.getD undef = .pointer (some ⟨g, 0, none⟩) := tAt (hk 1 (fun j oj _ e => (rna1Dst_ne (by decide) e).elim))
       clear hd hk
       go_step
       exact ⟨_, rfl, rfl, uZ⟩
      ·
       refine .inl ⟨rfl, ?_⟩
       have e2 : b'.tmps[11]?.getD undef = .pointer (some ⟨g, 2, none⟩) := tAt (hd ⟨2, .data⟩ (by simp) rfl)
       clear hd hk
       have hc : w1'.cell? ⟨g, 2, none⟩ = some (u64 x.n) := cZ (HW1.out.at_ HB.out id) 2 _ rfl
       go_step
       exact ⟨_, rfl, rfl, uZ⟩
      ·
       refine .inl ⟨rfl, ?_⟩
       have e1 : b'.tmps[10]?.getD undef = u64 x.doc := tAt (hd ⟨1, .data⟩ (by simp) rfl)
       have e3 : b'.tmps[12]?.getD undef = u64 x.n := tAt (hd ⟨3, .data⟩ (by simp) rfl)
       clear hd hk
       go_step
       exact ⟨_, rfl, (show NumRow [x.doc, x.n] _ _ from (row_new w1' ([x.doc, x.n].map u64).toArray 22 2 w1'.heap.size (by decide) rfl).mono (fun _ _ => trivial)), uZ.alloc _⟩
      ·
       refine .inl ⟨rfl, ?_⟩
       have o1 : b'.tmps[1]?.getD undef = .pointer (some ⟨g, 0, none⟩) := tAt (hk 1 (fun j oj _ e => (rna1Dst_ne (by decide) e).elim))
       clear hd hk
       go_step
       exact ⟨_, rfl, rfl, uZ⟩
      ·
       refine .inl ⟨rfl, ?_⟩
       have e5 : b'.tmps[14]?.getD undef = .pointer (some ⟨g, 3, none⟩) := tAt (hd ⟨5, .data⟩ (by simp) rfl)
       clear hd hk
       have hc : w1'.cell? ⟨g, 3, none⟩ = some (u64 x.proc) := cZ (HW1.out.at_ HB.out id) 3 _ rfl
       go_step
       exact ⟨_, rfl, rfl, uZ⟩
      ·
       refine .inl ⟨rfl, ?_⟩
       have e6 : b'.tmps[15]?.getD undef = u64 x.proc := tAt (hd ⟨6, .data⟩ (by simp) rfl)
       clear hd hk
       go_step
       exact ⟨_, rfl, rfl, uZ⟩
      ·
       refine .inl ⟨rfl, ?_⟩
       have e7 : b'.tmps[16]?.getD undef = .bool true := tAt (hd ⟨7, .data⟩ (by simp) rfl)
       clear hd hk
       go_step
       exact ⟨_, rfl, rfl, uZ⟩
      ·
       refine .inl ⟨gAt rfl rfl (hd ⟨8, .guard⟩ (by simp) rfl), ?_⟩
       have o1 : b'.tmps[1]?.getD undef = .pointer (some ⟨g, 0, none⟩) := tAt (hk 1 (fun j oj _ e => (rna1Dst_ne (by decide) e).elim))
       clear hd hk
       go_step
       exact ⟨_, rfl, rfl, uZ⟩
      ·
       refine .inl ⟨gAt rfl rfl (hd ⟨8, .guard⟩ (by simp) rfl), ?_⟩
       have e9 : b'.tmps[18]?.getD undef = .pointer (some ⟨g, 4, none⟩) := tAt (hd ⟨9, .data⟩ (by simp) rfl)
       clear hd hk
       have hc : w1'.cell? ⟨g, 4, none⟩ = some (u64 x.inc) := cZ (HW1.out.at_ HB.out id) 4 _ rfl
       go_step
       exact ⟨_, rfl, rfl, uZ⟩
      ·
       refine .inl ⟨gAt rfl rfl (hd ⟨8, .guard⟩ (by simp) rfl), ?_⟩
       have e10 : b'.tmps[19]?.getD undef = u64 x.inc := tAt (hd ⟨10, .data⟩ (by simp) rfl)
       clear hd hk
       go_step
       exact ⟨_, rfl, rfl, uZ⟩
      ·
       refine .inl ⟨rfl, ?_⟩
       have e8 : b'.tmps[17]?.getD undef = .bool true := tAt (hd ⟨8, .data⟩ (by simp) rfl)
       have e11 : b'.tmps[20]?.getD undef = .bool false := tAt (hd ⟨11, .data⟩ (by simp) rfl)
       clear hd hk
       go_step
       exact ⟨_, rfl, rfl, uZ⟩
      ·
       refine .inl ⟨rfl, ?_⟩
       have e12 : b'.tmps[21]?.getD undef = .bool false := tAt (hd ⟨12, .data⟩ (by simp) rfl)
       clear hd hk
       go_step
       exact ⟨_, rfl, rfl, uZ⟩
      ·
       refine .inr ⟨gNot rfl rfl (hd ⟨13, .guard⟩ (by simp) rfl), rfl, rfl, uZ⟩
      ·
       refine .inr ⟨gNot rfl rfl (hd ⟨13, .guard⟩ (by simp) rfl), rfl, rfl, uZ⟩
      ·
       refine .inr ⟨gNot rfl rfl (hd ⟨13, .guard⟩ (by simp) rfl), rfl, rfl, uZ⟩
      ·
       refine .inl ⟨rfl, ?_⟩
       have e13 : b'.tmps[22]?.getD undef = .bool false := tAt (hd ⟨13, .data⟩ (by simp) rfl)
       have e16 : b'.tmps[25]?.getD undef = undef := tAt (hd ⟨16, .data⟩ (by simp) rfl)
       clear hd hk
       go_step
       exact ⟨_, rfl, rfl, uZ⟩
      ·
       refine .inl ⟨rfl, ?_⟩
       have h4 := hd ⟨4, .data⟩ (by simp) rfl
       have h4 : NumRow [x.doc, x.n] (b'.tmps.getD 13 undef) w1' := h4
       have h4' := h4
       obtain ⟨a4, c4, q4, -, -, -⟩ := h4'
       have e4 : b'.tmps[13]?.getD undef = .slice a4 2 c4 := by simpa using q4
       rw [show b'.tmps.getD 13 undef = .slice a4 2 c4 from q4] at h4
       clear hd hk
       go_step
       exact ⟨_, rfl, h4, uZ⟩
      ·
       refine .inl ⟨rfl, ?_⟩
       have e17 : b'.tmps[26]?.getD undef = .bool false := tAt (hd ⟨17, .data⟩ (by simp) rfl)
       clear hd hk
       go_step
       exact ⟨_, rfl, rfl, uZ⟩
     ·intro v w1' hx1' hp
      have hs := hp 18 (by decide)
      have hb : v 19 = .bool false := hp 19 (by decide)
      have hs : NumRow [x.doc, x.n] (v 18) w1' := hs
      have HS := zq hs
      have HX8 := zq (HX.out.trans hx1')
      clear hp hx1' hs
      simp only [List.size_toArray, List.length_cons, List.length_nil, Nat.reduceAdd, fillAll, rna1Dst]
      go_simp
      clear hb
      go_wp2
      go_ret2
      refine ⟨_, by rw [show mayF x = false by rw [HM.out, HP.out, decide_eq_false HI.out]; simp]; rfl, fun _ => ?_, HX8.out⟩
      rw [show numsF x = [x.doc, x.n] from HN.out]
      exact HS.out
  ·have fp : ((x.proc : Int) == 0) = false := by simp; omega
   have HP := zq hp
   clear hp
   rcases key with k1 | ⟨k1, k2⟩
   all_goals
    clear hc0
    have hc0 : wb.cell? ⟨g, 0, none⟩ = some (.int .u8 x.kind) := cZ HB.out 0 _ rfl
    go_upto_region 4 with (fail)
    clear hc0
    refine wp_region_invH Nothing (fun _ => Ext) 1000 rna0Dst (rna0Phi x g) 58 (by kernel_rfl) (by decide) (by decide) rfl (fun i hi => .inl ((by decide : ∀ i, i < 20 -> rna0Dst i < 58) i hi)) (fun i w w' h => ⟨h, fun _ => h⟩) (fun i j v w w' _ _ _ _ h hu => h.ext hu) ?_ ?_
    ·intro i o b' w1' ho hx1' hd hk hE hSZ
     have hi : i < 20 := (Array.getElem?_eq_some_iff.1 ho).1
     have his : i = 0 \/ i = 1 \/ i = 2 \/ i = 3 \/ i = 4 \/ i = 5 \/ i = 6 \/ i = 7 \/ i = 8 \/ i = 9 \/ i = 10 \/ i = 11 \/ i = 12 \/ i = 13 \/ i = 14 \/ i = 15 \/ i = 16 \/ i = 17 \/ i = 18 \/ i = 19 := by omega
     clear hE hSZ
     have HW1 := zq hx1'
     clear hx1'
     rcases his with rfl | rfl | rfl | rfl | rfl | rfl | rfl | rfl | rfl | rfl | rfl | rfl | rfl | rfl | rfl | rfl | rfl | rfl | rfl | rfl
     all_goals (simp at ho; subst ho)
     case inl =>
      refine .inl ⟨rfl, ?_⟩
      have o1 : b'.tmps[1]?.getD undef = .pointer (some ⟨g, 0, none⟩) := tAt (hk 1 (fun j oj _ e => (rna0Dst_ne (by decide) e).elim))
      clear hd hk
      go_step
      exact ⟨_, rfl, rfl, uZ⟩
     ·
      refine .inl ⟨rfl, ?_⟩
      have e0 : b'.tmps[9]?.getD undef = .pointer (some ⟨g, 1, none⟩) := tAt (hd ⟨0, .data⟩ (by simp) rfl)
      clear hd hk
      have hc : w1'.cell? ⟨g, 1, none⟩ = some (u64 x.doc) := cZ (HW1.out.at_ HB.out id) 1 _ rfl
      go_step
      exact ⟨_, rfl, rfl, uZ⟩
     ·
      refine .inl ⟨rfl, ?_⟩
      have o1 : b'.tmps[1]?.getD undef = .pointer (some ⟨g, 0, none⟩) := tAt (hk 1 (fun j oj _ e => (rna0Dst_ne (by decide) e).elim))
      clear hd hk
      go_step
      exact ⟨_, rfl, rfl, uZ⟩
     ·
      refine .inl ⟨rfl, ?_⟩
      have e2 : b'.tmps[11]?.getD undef = .pointer (some ⟨g, 2, none⟩) := tAt (hd ⟨2, .data⟩ (by simp) rfl)
      clear hd hk
      have hc : w1'.cell? ⟨g, 2, none⟩ = some (u64 x.n) := cZ (HW1.out.at_ HB.out id) 2 _ rfl
      go_step
      exact ⟨_, rfl, rfl, uZ⟩
     ·
      refine .inl ⟨rfl, ?_⟩
      have e1 : b'.tmps[10]?.getD undef = u64 x.doc := tAt (hd ⟨1, .data⟩ (by simp) rfl)
      have e3 : b'.tmps[12]?.getD undef = u64 x.n := tAt (hd ⟨3, .data⟩ (by simp) rfl)
      clear hd hk
      go_step
      exact ⟨_, rfl, (show NumRow [x.doc, x.n] _ _ from (row_new w1' ([x.doc, x.n].map u64).toArray 22 2 w1'.heap.size (by decide) rfl).mono (fun _ _ => trivial)), uZ.alloc _⟩
     ·
      refine .inl ⟨rfl, ?_⟩
      have o1 : b'.tmps[1]?.getD undef = .pointer (some ⟨g, 0, none⟩) := tAt (hk 1 (fun j oj _ e => (rna0Dst_ne (by decide) e).elim))
      clear hd hk
      go_step
      exact ⟨_, rfl, rfl, uZ⟩
     ·
      refine .inl ⟨rfl, ?_⟩
      have e5 : b'.tmps[14]?.getD undef = .pointer (some ⟨g, 3, none⟩) := tAt (hd ⟨5, .data⟩ (by simp) rfl)
      clear hd hk
      have hc : w1'.cell? ⟨g, 3, none⟩ = some (u64 x.proc) := cZ (HW1.out.at_ HB.out id) 3 _ rfl
      go_step
      exact ⟨_, rfl, rfl, uZ⟩
     ·
      refine .inl ⟨rfl, ?_⟩
      have e6 : b'.tmps[15]?.getD undef = u64 x.proc := tAt (hd ⟨6, .data⟩ (by simp) rfl)
      clear hd hk
      go_step
      exact ⟨_, rfl, rfl, uZ⟩
     ·
      refine .inl ⟨rfl, ?_⟩
      have e7 : b'.tmps[16]?.getD undef = .bool false := tAt (hd ⟨7, .data⟩ (by simp) rfl)
      clear hd hk
      go_step
      exact ⟨_, rfl, rfl, uZ⟩
     ·
      refine .inr ⟨gNot rfl rfl (hd ⟨8, .guard⟩ (by simp) rfl), rfl, rfl, uZ⟩
     ·
      refine .inr ⟨gNot rfl rfl (hd ⟨8, .guard⟩ (by simp) rfl), rfl, rfl, uZ⟩
     ·
      refine .inr ⟨gNot rfl rfl (hd ⟨8, .guard⟩ (by simp) rfl), rfl, rfl, uZ⟩
     ·
      refine .inl ⟨rfl, ?_⟩
      have e8 : b'.tmps[17]?.getD undef = .bool false := tAt (hd ⟨8, .data⟩ (by simp) rfl)
      have e11 : b'.tmps[20]?.getD undef = undef := tAt (hd ⟨11, .data⟩ (by simp) rfl)
      clear hd hk
      go_step
      exact ⟨_, rfl, rfl, uZ⟩
     ·
      refine .inl ⟨rfl, ?_⟩
      have e12 : b'.tmps[21]?.getD undef = .bool false := tAt (hd ⟨12, .data⟩ (by simp) rfl)
      clear hd hk
      go_step
      exact ⟨_, rfl, rfl, uZ⟩
     ·
      refine .inr ⟨gNot rfl rfl (hd ⟨13, .guard⟩ (by simp) rfl), rfl, rfl, uZ⟩
     ·
      refine .inr ⟨gNot rfl rfl (hd ⟨13, .guard⟩ (by simp) rfl), rfl, rfl, uZ⟩
     ·
      refine .inr ⟨gNot rfl rfl (hd ⟨13, .guard⟩ (by simp) rfl), rfl, rfl, uZ⟩
     ·
      refine .inl ⟨rfl, ?_⟩
      have e13 : b'.tmps[22]?.getD undef = .bool false := tAt (hd ⟨13, .data⟩ (by simp) rfl)
      have e16 : b'.tmps[25]?.getD undef = undef := tAt (hd ⟨16, .data⟩ (by simp) rfl)
      clear hd hk
      go_step
      exact ⟨_, rfl, rfl, uZ⟩
     ·
      refine .inl ⟨rfl, ?_⟩
      have h4 := hd ⟨4, .data⟩ (by simp) rfl
      have h4 : NumRow [x.doc, x.n] (b'.tmps.getD 13 undef) w1' := h4
      have h4' := h4
      obtain ⟨a4, c4, q4, -, -, -⟩ := h4'
      have e4 : b'.tmps[13]?.getD undef = .slice a4 2 c4 := by simpa using q4
      rw [show b'.tmps.getD 13 undef = .slice a4 2 c4 from q4] at h4
      clear hd hk
      go_step
      exact ⟨_, rfl, h4, uZ⟩
     ·
      refine .inl ⟨rfl, ?_⟩
      have e17 : b'.tmps[26]?.getD undef = .bool false := tAt (hd ⟨17, .data⟩ (by simp) rfl)
      clear hd hk
      go_step
      exact ⟨_, rfl, rfl, uZ⟩
    ·intro v w1' hx1' hp
     have hs := hp 18 (by decide)
     have hb : v 19 = .bool false := hp 19 (by decide)
     have hs : NumRow [x.doc, x.n] (v 18) w1' := hs
     have HS := zq hs
     have HX8 := zq (HX.out.trans hx1')
     clear hp hx1' hs
     simp only [List.size_toArray, List.length_cons, List.length_nil, Nat.reduceAdd, fillAll, rna0Dst]
     go_simp
     clear hb
     go_wp2
     go_ret2
     refine ⟨_, by rw [show mayF x = false by rw [HM.out, decide_eq_false HP.out]; simp]; rfl, fun _ => ?_, HX8.out⟩
     rw [show numsF x = [x.doc, x.n] from HN.out]
     exact HS.out
 ·have k1 : ((x.kind : Int) == 1) = false := by simp; omega
  have k2 : ((x.kind : Int) == 2) = false := by simp; omega
  by_cases h3 : x.kind = 3
  ·have hm := mayF_3 h3
   have hn : numsF x = [x.proc, x.inc, x.k] := by unfold numsF; rw [if_neg h12, if_pos h3]
   have k3 : ((x.kind : Int) == 3) = true := by simp; omega
   have HM := zq hm
   have HN := zq hn
   clear h12 h3 hm hn
   by_cases hp : x.doc = 0
   ·have fp : ((x.doc : Int) == 0) = true := by simp; omega
    have HP := zq hp
    clear hp
    go_upto_region 6 with (fail)
    clear hc0
    refine wp_region_invH Nothing (fun _ => Ext) 1000 rnb1Dst (rnb1Phi x g) 58 (by kernel_rfl) (by decide) (by decide) rfl (fun i hi => .inl ((by decide : ∀ i, i < 17 -> rnb1Dst i < 58) i hi)) (fun i w w' h => ⟨h, fun _ => h⟩) (fun i j v w w' _ _ _ _ h hu => h.ext hu) ?_ ?_
    ·intro i o b' w1' ho hx1' hd hk hE hSZ
     have hi : i < 17 := (Array.getElem?_eq_some_iff.1 ho).1
     have his : i = 0 \/ i = 1 \/ i = 2 \/ i = 3 \/ i = 4 \/ i = 5 \/ i = 6 \/ i = 7 \/ i = 8 \/ i = 9 \/ i = 10 \/ i = 11 \/ i = 12 \/ i = 13 \/ i = 14 \/ i = 15 \/ i = 16 := by omega
     clear hE hSZ
     have HW1 := zq hx1'
     clear hx1'
     rcases his with rfl | rfl | rfl | rfl | rfl | rfl | rfl | rfl | rfl | rfl | rfl | rfl | rfl | rfl | rfl | rfl | rfl
     all_goals (simp at ho; subst ho)
     case inl =>
      refine .inl ⟨rfl, ?_⟩
      have o1 : b'.tmps[1]?.getD undef = .pointer (some ⟨g, 0, none⟩) := tAt (hk 1 (fun j oj _ e => (rnb1Dst_ne (by decide) e).elim))
      clear hd hk
      go_step
      exact ⟨_, rfl, rfl, uZ⟩
     ·
      refine .inl ⟨rfl, ?_⟩
      have e0 : b'.tmps[29]?.getD undef = .pointer (some ⟨g, 3, none⟩) := tAt (hd ⟨0, .data⟩ (by simp) rfl)
      clear hd hk
      have hc : w1'.cell? ⟨g, 3, none⟩ = some (u64 x.proc) := cZ (HW1.out.at_ HB.out id) 3 _ rfl
      go_step
      exact ⟨_, rfl, rfl, uZ⟩
     ·
      refine .inl ⟨rfl, ?_⟩
      have o1 : b'.tmps[1]?.getD undef = .pointer (some ⟨g, 0, none⟩) := tAt (hk 1 (fun j oj _ e => (rnb1Dst_ne (by decide) e).elim))
      clear hd hk
      go_step
      exact ⟨_, rfl, rfl, uZ⟩
     ·
      refine .inl ⟨rfl, ?_⟩
      have e2 : b'.tmps[31]?.getD undef = .pointer (some ⟨g, 4, none⟩) := tAt (hd ⟨2, .data⟩ (by simp) rfl)
      clear hd hk
      have hc : w1'.cell? ⟨g, 4, none⟩ = some (u64 x.inc) := cZ (HW1.out.at_ HB.out id) 4 _ rfl
      go_step
      exact ⟨_, rfl, rfl, uZ⟩
     ·
      refine .inl ⟨rfl, ?_⟩
      have o1 : b'.tmps[1]?.getD undef = .pointer (some ⟨g, 0, none⟩) := tAt (hk 1 (fun j oj _ e => (rnb1Dst_ne (by decide) e).elim))
      clear hd hk
      go_step
      exact ⟨_, rfl, rfl, uZ⟩
     ·
      refine .inl ⟨rfl, ?_⟩
      have e4 : b'.tmps[33]?.getD undef = .pointer (some ⟨g, 5, none⟩) := tAt (hd ⟨4, .data⟩ (by simp) rfl)
      clear hd hk
      have hc : w1'.cell? ⟨g, 5, none⟩ = some (u64 x.k) := cZ (HW1.out.at_ HB.out id) 5 _ rfl
      go_step
      exact ⟨_, rfl, rfl, uZ⟩
     ·
      refine .inl ⟨rfl, ?_⟩
      have e1 : b'.tmps[30]?.getD undef = u64 x.proc := tAt (hd ⟨1, .data⟩ (by simp) rfl)
      have e3 : b'.tmps[32]?.getD undef = u64 x.inc := tAt (hd ⟨3, .data⟩ (by simp) rfl)
      have e5 : b'.tmps[34]?.getD undef = u64 x.k := tAt (hd ⟨5, .data⟩ (by simp) rfl)
      clear hd hk
      go_step
      exact ⟨_, rfl, (show NumRow [x.proc, x.inc, x.k] _ _ from (row_new w1' ([x.proc, x.inc, x.k].map u64).toArray 22 3 w1'.heap.size (by decide) rfl).mono (fun _ _ => trivial)), uZ.alloc _⟩
     ·
      refine .inl ⟨rfl, ?_⟩
      have o1 : b'.tmps[1]?.getD undef = .pointer (some ⟨g, 0, none⟩) := tAt (hk 1 (fun j oj _ e => (rnb1Dst_ne (by decide) e).elim))
      clear hd hk
      go_step
      exact ⟨_, rfl, rfl, uZ⟩
     ·
      refine .inl ⟨rfl, ?_⟩
      have e7 : b'.tmps[36]?.getD undef = .pointer (some ⟨g, 1, none⟩) := tAt (hd ⟨7, .data⟩ (by simp) rfl)
      clear hd hk
      have hc : w1'.cell? ⟨g, 1, none⟩ = some (u64 x.doc) := cZ (HW1.out.at_ HB.out id) 1 _ rfl
      go_step
      exact ⟨_, rfl, rfl, uZ⟩
     ·
      refine .inl ⟨rfl, ?_⟩
      have e8 : b'.tmps[37]?.getD undef = u64 x.doc := tAt (hd ⟨8, .data⟩ (by simp) rfl)
      clear hd hk
      go_step
      exact ⟨_, rfl, rfl, uZ⟩
     ·
      refine .inl ⟨rfl, ?_⟩
      have e9 : b'.tmps[38]?.getD undef = .bool true := tAt (hd ⟨9, .data⟩ (by simp) rfl)
      clear hd hk
      go_step
      exact ⟨_, rfl, rfl, uZ⟩
     ·
      refine .inl ⟨gAt rfl rfl (hd ⟨10, .guard⟩ (by simp) rfl), ?_⟩
      have o1 : b'.tmps[1]?.getD undef = .pointer (some ⟨g, 0, none⟩) := tAt (hk 1 (fun j oj _ e => (rnb1Dst_ne (by decide) e).elim))
      clear hd hk
      go_step
      exact ⟨_, rfl, rfl, uZ⟩
     ·
      refine .inl ⟨gAt rfl rfl (hd ⟨10, .guard⟩ (by simp) rfl), ?_⟩
      have e11 : b'.tmps[40]?.getD undef = .pointer (some ⟨g, 2, none⟩) := tAt (hd ⟨11, .data⟩ (by simp) rfl)
      clear hd hk
      have hc : w1'.cell? ⟨g, 2, none⟩ = some (u64 x.n) := cZ (HW1.out.at_ HB.out id) 2 _ rfl
      go_step
      exact ⟨_, rfl, rfl, uZ⟩
     ·
      refine .inl ⟨gAt rfl rfl (hd ⟨10, .guard⟩ (by simp) rfl), ?_⟩
      have e12 : b'.tmps[41]?.getD undef = u64 x.n := tAt (hd ⟨12, .data⟩ (by simp) rfl)
      clear hd hk
      go_step
      exact ⟨_, rfl, rfl, uZ⟩
     ·
      refine .inl ⟨rfl, ?_⟩
      have e10 : b'.tmps[39]?.getD undef = .bool true := tAt (hd ⟨10, .data⟩ (by simp) rfl)
      have e13 : b'.tmps[42]?.getD undef = .bool ((x.n : Int) == 0) := tAt (hd ⟨13, .data⟩ (by simp) rfl)
      clear hd hk
      go_step
      exact ⟨_, rfl, rfl, uZ⟩
     ·
      refine .inl ⟨rfl, ?_⟩
      have h6 := hd ⟨6, .data⟩ (by simp) rfl
      have h6 : NumRow [x.proc, x.inc, x.k] (b'.tmps.getD 35 undef) w1' := h6
      have h6' := h6
      obtain ⟨a6, c6, q6, -, -, -⟩ := h6'
      have e6 : b'.tmps[35]?.getD undef = .slice a6 3 c6 := by simpa using q6
      rw [show b'.tmps.getD 35 undef = .slice a6 3 c6 from q6] at h6
      clear hd hk
      go_step
      exact ⟨_, rfl, h6, uZ⟩
     ·
      refine .inl ⟨rfl, ?_⟩
      have e14 : b'.tmps[43]?.getD undef = .bool ((x.n : Int) == 0) := tAt (hd ⟨14, .data⟩ (by simp) rfl)
      clear hd hk
      go_step
      exact ⟨_, rfl, rfl, uZ⟩
    ·intro v w1' hx1' hp
     have hs := hp 15 (by decide)
     have hb : v 16 = .bool ((x.n : Int) == 0) := hp 16 (by decide)
     have hs : NumRow [x.proc, x.inc, x.k] (v 15) w1' := hs
     have HS := zq hs
     have HX8 := zq (HX.out.trans hx1')
     clear hp hx1' hs
     simp only [List.size_toArray, List.length_cons, List.length_nil, Nat.reduceAdd, fillAll, rnb1Dst]
     go_simp
     clear hb
     go_wp2
     go_ret2
     refine ⟨_, by rw [show mayF x = ((x.n : Int) == 0) by rw [HM.out, HP.out, dec_int0]; simp]; rfl, fun _ => ?_, HX8.out⟩
     rw [show numsF x = [x.proc, x.inc, x.k] from HN.out]
     exact HS.out
   ·have fp : ((x.doc : Int) == 0) = false := by simp; omega
    have HP := zq hp
    clear hp
    go_upto_region 6 with (fail)
    clear hc0
    refine wp_region_invH Nothing (fun _ => Ext) 1000 rnb0Dst (rnb0Phi x g) 58 (by kernel_rfl) (by decide) (by decide) rfl (fun i hi => .inl ((by decide : ∀ i, i < 17 -> rnb0Dst i < 58) i hi)) (fun i w w' h => ⟨h, fun _ => h⟩) (fun i j v w w' _ _ _ _ h hu => h.ext hu) ?_ ?_
    ·intro i o b' w1' ho hx1' hd hk hE hSZ
     have hi : i < 17 := (Array.getElem?_eq_some_iff.1 ho).1
     have his : i = 0 \/ i = 1 \/ i = 2 \/ i = 3 \/ i = 4 \/ i = 5 \/ i = 6 \/ i = 7 \/ i = 8 \/ i = 9 \/ i = 10 \/ i = 11 \/ i = 12 \/ i = 13 \/ i = 14 \/ i = 15 \/ i = 16 := by omega
     clear hE hSZ
     have HW1 := zq hx1'
     clear hx1'
     rcases his with rfl | rfl | rfl | rfl | rfl | rfl | rfl | rfl | rfl | rfl | rfl | rfl | rfl | rfl | rfl | rfl | rfl
     all_goals (simp at ho; subst ho)
     case inl =>
      refine .inl ⟨rfl, ?_⟩
      have o1 : b'.tmps[1]?.getD undef = .pointer (some ⟨g, 0, none⟩) := tAt (hk 1 (fun j oj _ e => (rnb0Dst_ne (by decide) e).elim))
      clear hd hk
      go_step
      exact ⟨_, rfl, rfl, uZ⟩
     ·
      refine .inl ⟨rfl, ?_⟩
      have e0 : b'.tmps[29]?.getD undef = .pointer (some ⟨g, 3, none⟩) := tAt (hd ⟨0, .data⟩ (by simp) rfl)
      clear hd hk
      have hc : w1'.cell? ⟨g, 3, none⟩ = some (u64 x.proc) := cZ (HW1.out.at_ HB.out id) 3 _ rfl
      go_step
      exact ⟨_, rfl, rfl, uZ⟩
     ·
      refine .inl ⟨rfl, ?_⟩
      have o1 : b'.tmps[1]?.getD undef = .pointer (some ⟨g, 0, none⟩) := tAt (hk 1 (fun j oj _ e => (rnb0Dst_ne (by decide) e).elim))
      clear hd hk
      go_step
      exact ⟨_, rfl, rfl, uZ⟩
     ·
      refine .inl ⟨rfl, ?_⟩
      have e2 : b'.tmps[31]?.getD undef = .pointer (some ⟨g, 4, none⟩) := tAt (hd ⟨2, .data⟩ (by simp) rfl)
      clear hd hk
      have hc : w1'.cell? ⟨g, 4, none⟩ = some (u64 x.inc) := cZ (HW1.out.at_ HB.out id) 4 _ rfl
      go_step
      exact ⟨_, rfl, rfl, uZ⟩
     ·
      refine .inl ⟨rfl, ?_⟩
      have o1 : b'.tmps[1]?.getD undef = .pointer (some ⟨g, 0, none⟩) := tAt (hk 1 (fun j oj _ e => (rnb0Dst_ne (by decide) e).elim))
      clear hd hk
      go_step
      exact ⟨_, rfl, rfl, uZ⟩
     ·
      refine .inl ⟨rfl, ?_⟩
      have e4 : b'.tmps[33]?.getD undef = .pointer (some ⟨g, 5, none⟩) := tAt (hd ⟨4, .data⟩ (by simp) rfl)
      clear hd hk
      have hc : w1'.cell? ⟨g, 5, none⟩ = some (u64 x.k) := cZ (HW1.out.at_ HB.out id) 5 _ rfl
      go_step
      exact ⟨_, rfl, rfl, uZ⟩
     ·
      refine .inl ⟨rfl, ?_⟩
      have e1 : b'.tmps[30]?.getD undef = u64 x.proc := tAt (hd ⟨1, .data⟩ (by simp) rfl)
      have e3 : b'.tmps[32]?.getD undef = u64 x.inc := tAt (hd ⟨3, .data⟩ (by simp) rfl)
      have e5 : b'.tmps[34]?.getD undef = u64 x.k := tAt (hd ⟨5, .data⟩ (by simp) rfl)
      clear hd hk
      go_step
      exact ⟨_, rfl, (show NumRow [x.proc, x.inc, x.k] _ _ from (row_new w1' ([x.proc, x.inc, x.k].map u64).toArray 22 3 w1'.heap.size (by decide) rfl).mono (fun _ _ => trivial)), uZ.alloc _⟩
     ·
      refine .inl ⟨rfl, ?_⟩
      have o1 : b'.tmps[1]?.getD undef = .pointer (some ⟨g, 0, none⟩) := tAt (hk 1 (fun j oj _ e => (rnb0Dst_ne (by decide) e).elim))
      clear hd hk
      go_step
      exact ⟨_, rfl, rfl, uZ⟩
     ·
      refine .inl ⟨rfl, ?_⟩
      have e7 : b'.tmps[36]?.getD undef = .pointer (some ⟨g, 1, none⟩) := tAt (hd ⟨7, .data⟩ (by simp) rfl)
      clear hd hk
      have hc : w1'.cell? ⟨g, 1, none⟩ = some (u64 x.doc) := cZ (HW1.out.at_ HB.out id) 1 _ rfl
      go_step
      exact ⟨_, rfl, rfl, uZ⟩
     ·
      refine .inl ⟨rfl, ?_⟩
      have e8 : b'.tmps[37]?.getD undef = u64 x.doc := tAt (hd ⟨8, .data⟩ (by simp) rfl)
      clear hd hk
      go_step
      exact ⟨_, rfl, rfl, uZ⟩
     ·
      refine .inl ⟨rfl, ?_⟩
      have e9 : b'.tmps[38]?.getD undef = .bool false := tAt (hd ⟨9, .data⟩ (by simp) rfl)
      clear hd hk
      go_step
      exact ⟨_, rfl, rfl, uZ⟩
     ·
      refine .inr ⟨gNot rfl rfl (hd ⟨10, .guard⟩ (by simp) rfl), rfl, rfl, uZ⟩
     ·
      refine .inr ⟨gNot rfl rfl (hd ⟨10, .guard⟩ (by simp) rfl), rfl, rfl, uZ⟩
     ·
      refine .inr ⟨gNot rfl rfl (hd ⟨10, .guard⟩ (by simp) rfl), rfl, rfl, uZ⟩
     ·
      refine .inl ⟨rfl, ?_⟩
      have e10 : b'.tmps[39]?.getD undef = .bool false := tAt (hd ⟨10, .data⟩ (by simp) rfl)
      have e13 : b'.tmps[42]?.getD undef = undef := tAt (hd ⟨13, .data⟩ (by simp) rfl)
      clear hd hk
      go_step
      exact ⟨_, rfl, rfl, uZ⟩
     ·
      refine .inl ⟨rfl, ?_⟩
      have h6 := hd ⟨6, .data⟩ (by simp) rfl
      have h6 : NumRow [x.proc, x.inc, x.k] (b'.tmps.getD 35 undef) w1' := h6
      have h6' := h6
      obtain ⟨a6, c6, q6, -, -, -⟩ := h6'
      have e6 : b'.tmps[35]?.getD undef = .slice a6 3 c6 := by simpa using q6
      rw [show b'.tmps.getD 35 undef = .slice a6 3 c6 from q6] at h6
      clear hd hk
      go_step
      exact ⟨_, rfl, h6, uZ⟩
     ·
      refine .inl ⟨rfl, ?_⟩
      have e14 : b'.tmps[43]?.getD undef = .bool false := tAt (hd ⟨14, .data⟩ (by simp) rfl)
      clear hd hk
      go_step
      exact ⟨_, rfl, rfl, uZ⟩
    ·intro v w1' hx1' hp
     have hs := hp 15 (by decide)
     have hb : v 16 = .bool false := hp 16 (by decide)
     have hs : NumRow [x.proc, x.inc, x.k] (v 15) w1' := hs
     have HS := zq hs
     have HX8 := zq (HX.out.trans hx1')
     clear hp hx1' hs
     simp only [List.size_toArray, List.length_cons, List.length_nil, Nat.reduceAdd, fillAll, rnb0Dst]
     go_simp
     clear hb
     go_wp2
     go_ret2
     refine ⟨_, by rw [show mayF x = false by rw [HM.out, decide_eq_false HP.out]; simp]; rfl, fun _ => ?_, HX8.out⟩
     rw [show numsF x = [x.proc, x.inc, x.k] from HN.out]
     exact HS.out
  ·have k3 : ((x.kind : Int) == 3) = false := by simp; omega
   by_cases h4 : x.kind = 4
   ·have hm := mayF_4 h4
    have hn : numsF x = [x.doc, x.proc, x.inc, x.k] := by unfold numsF; rw [if_neg h12, if_neg h3]
    have k4 : ((x.kind : Int) == 4) = true := by simp; omega
    have HM := zq hm
    have HN := zq hn
    clear h12 h3 h4 hm hn
    go_upto_region 8 with (fail)
    clear hc0
    refine wp_region_invH Nothing (fun _ => Ext) 1000 rncDst (rncPhi x g) 58 (by kernel_rfl) (by decide) (by decide) rfl (fun i hi => .inl ((by decide : ∀ i, i < 14 -> rncDst i < 58) i hi)) (fun i w w' h => ⟨h, fun _ => h⟩) (fun i j v w w' _ _ _ _ h hu => h.ext hu) ?_ ?_
    ·intro i o b' w1' ho hx1' hd hk hE hSZ
     have hi : i < 14 := (Array.getElem?_eq_some_iff.1 ho).1
     have his : i = 0 \/ i = 1 \/ i = 2 \/ i = 3 \/ i = 4 \/ i = 5 \/ i = 6 \/ i = 7 \/ i = 8 \/ i = 9 \/ i = 10 \/ i = 11 \/ i = 12 \/ i = 13 := by omega
     clear hE hSZ
     have HW1 := zq hx1'
     clear hx1'
     rcases his with rfl | rfl | rfl | rfl | rfl | rfl | rfl | rfl | rfl | rfl | rfl | rfl | rfl | rfl
     all_goals (simp at ho; subst ho)
     case inl =>
      refine .inl ⟨rfl, ?_⟩
      have o1 : b'.tmps[1]?.getD undef = .pointer (some ⟨g, 0, none⟩) := tAt (hk 1 (fun j oj _ e => (rncDst_ne (by decide) e).elim))
      clear hd hk
      go_step
      exact ⟨_, rfl, rfl, uZ⟩
     ·
      refine .inl ⟨rfl, ?_⟩
      have e0 : b'.tmps[46]?.getD undef = .pointer (some ⟨g, 1, none⟩) := tAt (hd ⟨0, .data⟩ (by simp) rfl)
      clear hd hk
      have hc : w1'.cell? ⟨g, 1, none⟩ = some (u64 x.doc) := cZ (HW1.out.at_ HB.out id) 1 _ rfl
      go_step
      exact ⟨_, rfl, rfl, uZ⟩
     ·
      refine .inl ⟨rfl, ?_⟩
      have o1 : b'.tmps[1]?.getD undef = .pointer (some ⟨g, 0, none⟩) := tAt (hk 1 (fun j oj _ e => (rncDst_ne (by decide) e).elim))
      clear hd hk
      go_step
      exact ⟨_, rfl, rfl, uZ⟩
     ·
      refine .inl ⟨rfl, ?_⟩
      have e2 : b'.tmps[48]?.getD undef = .pointer (some ⟨g, 3, none⟩) := tAt (hd ⟨2, .data⟩ (by simp) rfl)
      clear hd hk
      have hc : w1'.cell? ⟨g, 3, none⟩ = some (u64 x.proc) := cZ (HW1.out.at_ HB.out id) 3 _ rfl
      go_step
      exact ⟨_, rfl, rfl, uZ⟩
     ·
      refine .inl ⟨rfl, ?_⟩
      have o1 : b'.tmps[1]?.getD undef = .pointer (some ⟨g, 0, none⟩) := tAt (hk 1 (fun j oj _ e => (rncDst_ne (by decide) e).elim))
      clear hd hk
      go_step
      exact ⟨_, rfl, rfl, uZ⟩
     ·
      refine .inl ⟨rfl, ?_⟩
      have e4 : b'.tmps[50]?.getD undef = .pointer (some ⟨g, 4, none⟩) := tAt (hd ⟨4, .data⟩ (by simp) rfl)
      clear hd hk
      have hc : w1'.cell? ⟨g, 4, none⟩ = some (u64 x.inc) := cZ (HW1.out.at_ HB.out id) 4 _ rfl
      go_step
      exact ⟨_, rfl, rfl, uZ⟩
     ·
      refine .inl ⟨rfl, ?_⟩
      have o1 : b'.tmps[1]?.getD undef = .pointer (some ⟨g, 0, none⟩) := tAt (hk 1 (fun j oj _ e => (rncDst_ne (by decide) e).elim))
      clear hd hk
      go_step
      exact ⟨_, rfl, rfl, uZ⟩
     ·
      refine .inl ⟨rfl, ?_⟩
      have e6 : b'.tmps[52]?.getD undef = .pointer (some ⟨g, 5, none⟩) := tAt (hd ⟨6, .data⟩ (by simp) rfl)
      clear hd hk
      have hc : w1'.cell? ⟨g, 5, none⟩ = some (u64 x.k) := cZ (HW1.out.at_ HB.out id) 5 _ rfl
      go_step
      exact ⟨_, rfl, rfl, uZ⟩
     ·
      refine .inl ⟨rfl, ?_⟩
      have e1 : b'.tmps[47]?.getD undef = u64 x.doc := tAt (hd ⟨1, .data⟩ (by simp) rfl)
      have e3 : b'.tmps[49]?.getD undef = u64 x.proc := tAt (hd ⟨3, .data⟩ (by simp) rfl)
      have e5 : b'.tmps[51]?.getD undef = u64 x.inc := tAt (hd ⟨5, .data⟩ (by simp) rfl)
      have e7 : b'.tmps[53]?.getD undef = u64 x.k := tAt (hd ⟨7, .data⟩ (by simp) rfl)
      clear hd hk
      go_step
      exact ⟨_, rfl, (show NumRow [x.doc, x.proc, x.inc, x.k] _ _ from (row_new w1' ([x.doc, x.proc, x.inc, x.k].map u64).toArray 22 4 w1'.heap.size (by decide) rfl).mono (fun _ _ => trivial)), uZ.alloc _⟩
     ·
      refine .inl ⟨rfl, ?_⟩
      have o1 : b'.tmps[1]?.getD undef = .pointer (some ⟨g, 0, none⟩) := tAt (hk 1 (fun j oj _ e => (rncDst_ne (by decide) e).elim))
      clear hd hk
      go_step
      exact ⟨_, rfl, rfl, uZ⟩
     ·
      refine .inl ⟨rfl, ?_⟩
      have e9 : b'.tmps[55]?.getD undef = .pointer (some ⟨g, 2, none⟩) := tAt (hd ⟨9, .data⟩ (by simp) rfl)
      clear hd hk
      have hc : w1'.cell? ⟨g, 2, none⟩ = some (u64 x.n) := cZ (HW1.out.at_ HB.out id) 2 _ rfl
      go_step
      exact ⟨_, rfl, rfl, uZ⟩
     ·
      refine .inl ⟨rfl, ?_⟩
      have e10 : b'.tmps[56]?.getD undef = u64 x.n := tAt (hd ⟨10, .data⟩ (by simp) rfl)
      clear hd hk
      go_step
      exact ⟨_, rfl, rfl, uZ⟩
     ·
      refine .inl ⟨rfl, ?_⟩
      have h8 := hd ⟨8, .data⟩ (by simp) rfl
      have h8 : NumRow [x.doc, x.proc, x.inc, x.k] (b'.tmps.getD 54 undef) w1' := h8
      have h8' := h8
      obtain ⟨a8, c8, q8, -, -, -⟩ := h8'
      have e8 : b'.tmps[54]?.getD undef = .slice a8 4 c8 := by simpa using q8
      rw [show b'.tmps.getD 54 undef = .slice a8 4 c8 from q8] at h8
      clear hd hk
      go_step
      exact ⟨_, rfl, h8, uZ⟩
     ·
      refine .inl ⟨rfl, ?_⟩
      have e11 : b'.tmps[57]?.getD undef = .bool ((x.n : Int) == 0) := tAt (hd ⟨11, .data⟩ (by simp) rfl)
      clear hd hk
      go_step
      exact ⟨_, rfl, rfl, uZ⟩
    ·intro v w1' hx1' hp
     have hs := hp 12 (by decide)
     have hb : v 13 = .bool ((x.n : Int) == 0) := hp 13 (by decide)
     have hs : NumRow [x.doc, x.proc, x.inc, x.k] (v 12) w1' := hs
     have HS := zq hs
     have HX8 := zq (HX.out.trans hx1')
     clear hp hx1' hs
     simp only [List.size_toArray, List.length_cons, List.length_nil, Nat.reduceAdd, fillAll, rncDst]
     go_simp
     clear hb
     go_wp2
     go_ret2
     refine ⟨_, by rw [show mayF x = ((x.n : Int) == 0) by rw [HM.out, dec_int0]]; rfl, fun _ => ?_, HX8.out⟩
     rw [show numsF x = [x.doc, x.proc, x.inc, x.k] from HN.out]
     exact HS.out
   ·have k4 : ((x.kind : Int) == 4) = false := by simp; omega
    have hm : mayF x = false := by
     unfold mayF; simp only [Bool.and_eq_false_iff, decide_eq_false_iff_not]; omega
    have HM := zq hm
    clear h12 h3 h4 hm
    go_wp2
    go_ret2
    exact ⟨_, by rw [HM.out]; rfl, fun h => (by rw [HM.out] at h; cases h), HX.out⟩
theorem Tryz.rnmT (x : Nm) : StructT Tryz.prog 73 (nmCells x).size := ⟨_, Tryz.underlying73, rfl, by kernel_rfl⟩
end Go.Proofs.YtnkmpoplibnflaaGreatDoor
