/-
  CONTRACTS of name.Compare and the reference's Compare. No condition.
-/
import Derived.Test.YtfniemagbapeaaaGreatDoorNCmp
namespace Go.Proofs.YtfniemagbapeaaaGreatDoor
open Go.RowKit

def six (x : Nm) : List Nat := [x.kind, x.doc, x.n, x.proc, x.inc, x.k]
def cmps (x y : Nm) : List Int := [cmpN x.kind y.kind, cmpN x.doc y.doc, cmpN x.n y.n, cmpN x.proc y.proc, cmpN x.inc y.inc, cmpN x.k y.k]
theorem cmps_at (x y : Nm) {k : Nat} (hk : k < 6) : (cmps x y)[k]'(by show k < 6; exact hk) = cmpN ((six x)[k]'(by show k < 6; exact hk)) ((six y)[k]'(by show k < 6; exact hk)) := by
  have e : k = 0 ∨ k = 1 ∨ k = 2 ∨ k = 3 ∨ k = 4 ∨ k = 5 := by omega
  rcases e with rfl | rfl | rfl | rfl | rfl | rfl <;> rfl
abbrev CmpRow (x y : Nm) (v : Value) (w : World) : Prop := Row (fun _ => True) w v 6 ((cmps x y).map i64)
theorem CmpRow.ext {x y : Nm} {v : Value} {w w' : World} (h : CmpRow x y v w) (hu : Ext w w') : CmpRow x y v w' := Row.ext h hu
def ncmVal (x y : Nm) (g2 g3 : Nat) : Nat → Value
  | 0 => .pointer (some ⟨g2, 0, none⟩)
  | 1 => .int .u8 x.kind
  | 2 => .pointer (some ⟨g3, 0, none⟩)
  | 3 => .int .u8 y.kind
  | 4 => .int .i64 (cmpN x.kind y.kind)
  | 5 => .pointer (some ⟨g2, 1, none⟩)
  | 6 => u64 x.doc
  | 7 => .pointer (some ⟨g3, 1, none⟩)
  | 8 => u64 y.doc
  | 9 => .int .i64 (cmpN x.doc y.doc)
  | 10 => .pointer (some ⟨g2, 2, none⟩)
  | 11 => u64 x.n
  | 12 => .pointer (some ⟨g3, 2, none⟩)
  | 13 => u64 y.n
  | 14 => .int .i64 (cmpN x.n y.n)
  | 15 => .pointer (some ⟨g2, 3, none⟩)
  | 16 => u64 x.proc
  | 17 => .pointer (some ⟨g3, 3, none⟩)
  | 18 => u64 y.proc
  | 19 => .int .i64 (cmpN x.proc y.proc)
  | 20 => .pointer (some ⟨g2, 4, none⟩)
  | 21 => u64 x.inc
  | 22 => .pointer (some ⟨g3, 4, none⟩)
  | 23 => u64 y.inc
  | 24 => .int .i64 (cmpN x.inc y.inc)
  | 25 => .pointer (some ⟨g2, 5, none⟩)
  | 26 => u64 x.k
  | 27 => .pointer (some ⟨g3, 5, none⟩)
  | 28 => u64 y.k
  | 29 => .int .i64 (cmpN x.k y.k)
  | 31 => .int .i64 (orF (cmps x y))
  | 32 => .int .i64 (orF (cmps x y))
  | _ => undef
def ncmDst (i : Nat) : Tmp := if i = 32 then 4 else 5 + i
theorem ncmDst_ne {j t : Nat} (ht : t = 2 ∨ t = 3) (e : ncmDst j = t) : False := by
  unfold ncmDst at e
  have e : (if j = 32 then 4 else 5 + j : Nat) = t := e
  rcases ht with rfl | rfl <;> (repeat' (split at e)) <;> omega
def ncmPhi (x y : Nm) (g2 g3 : Nat) (i : Nat) (v : Value) (w : World) : Prop := if i = 30 then CmpRow x y v w else v = ncmVal x y g2 g3 i
theorem ncmPhi.ext {x y : Nm} {g2 g3 : Nat} {i : Nat} {v : Value} {w w' : World} (h : ncmPhi x y g2 g3 i v w) (hu : Ext w w') : ncmPhi x y g2 g3 i v w' := by
  unfold ncmPhi at h ⊢
  by_cases c : i = 30
  · rw [if_pos c] at h ⊢; exact h.ext hu
  · rw [if_neg c] at h ⊢
    exact h
def ncrVal (x y : Nm) (g2 g3 : Nat) : Nat → Value
  | 0 => .pointer (some ⟨g2, 0, none⟩)
  | 1 => .int .u8 x.kind
  | 2 => u64 x.kind
  | 3 => .pointer (some ⟨g2, 1, none⟩)
  | 4 => u64 x.doc
  | 5 => .pointer (some ⟨g2, 2, none⟩)
  | 6 => u64 x.n
  | 7 => .pointer (some ⟨g2, 3, none⟩)
  | 8 => u64 x.proc
  | 9 => .pointer (some ⟨g2, 4, none⟩)
  | 10 => u64 x.inc
  | 11 => .pointer (some ⟨g2, 5, none⟩)
  | 12 => u64 x.k
  | 14 => .pointer (some ⟨g3, 0, none⟩)
  | 15 => .int .u8 y.kind
  | 16 => u64 y.kind
  | 17 => .pointer (some ⟨g3, 1, none⟩)
  | 18 => u64 y.doc
  | 19 => .pointer (some ⟨g3, 2, none⟩)
  | 20 => u64 y.n
  | 21 => .pointer (some ⟨g3, 3, none⟩)
  | 22 => u64 y.proc
  | 23 => .pointer (some ⟨g3, 4, none⟩)
  | 24 => u64 y.inc
  | 25 => .pointer (some ⟨g3, 5, none⟩)
  | 26 => u64 y.k
  | _ => undef
def ncrDst (i : Nat) : Tmp := if i = 28 then 5 else if i = 29 then 6 else 8 + i
theorem ncrDst_ne {j t : Nat} (ht : t = 2 ∨ t = 3) (e : ncrDst j = t) : False := by
  unfold ncrDst at e
  have e : (if j = 28 then 5 else if j = 29 then 6 else 8 + j : Nat) = t := e
  rcases ht with rfl | rfl <;> (repeat' (split at e)) <;> omega
def ncrPhi (x y : Nm) (g2 g3 : Nat) (i : Nat) (v : Value) (w : World) : Prop := if i = 13 then NumRow (six x) v w else if i = 27 then NumRow (six y) v w else if i = 28 then NumRow (six x) v w else if i = 29 then NumRow (six y) v w else v = ncrVal x y g2 g3 i
theorem ncrPhi.ext {x y : Nm} {g2 g3 : Nat} {i : Nat} {v : Value} {w w' : World} (h : ncrPhi x y g2 g3 i v w) (hu : Ext w w') : ncrPhi x y g2 g3 i v w' := by
  unfold ncrPhi at h ⊢
  by_cases c : i = 13
  · rw [if_pos c] at h ⊢; exact h.ext hu
  · rw [if_neg c] at h ⊢
    by_cases c : i = 27
    · rw [if_pos c] at h ⊢; exact h.ext hu
    · rw [if_neg c] at h ⊢
      by_cases c : i = 28
      · rw [if_pos c] at h ⊢; exact h.ext hu
      · rw [if_neg c] at h ⊢
        by_cases c : i = 29
        · rw [if_pos c] at h ⊢; exact h.ext hu
        · rw [if_neg c] at h ⊢
          exact h
set_option maxRecDepth 100000 in
set_option maxHeartbeats 4000000 in
theorem compare_any (w : World) (x y : Nm) (hkx : x.kind < 256) (hky : y.kind < 256) :
    Calls Tryz.prog 49 #[.agg (nmCells x), .agg (nmCells y)] w fun e w' => e = .returned (.int .i64 (orF (cmps x y))) ∧ Ext w w' := by
  have hb2 : ((w.alloc (.cells (nmCells x) 63)).alloc (.cells (nmCells y) 63)).heap[w.heap.size]? = some (.cells (nmCells x) 63 (0, 0)) := ((Upd.refl Nothing _).alloc _).at_ (newAt _ _) id
  have hb3 := newAt (w.alloc (.cells (nmCells x) 63)) (.cells (nmCells y) 63)
  have hx : Ext w ((w.alloc (.cells (nmCells x) 63)).alloc (.cells (nmCells y) 63)) := ((Upd.refl _ _).alloc _).alloc _
  obtain ⟨wb, hwb⟩ : ∃ u, u = (w.alloc (.cells (nmCells x) 63)).alloc (.cells (nmCells y) 63) := ⟨_, rfl⟩
  obtain ⟨g2, hg2⟩ : ∃ g, g = w.heap.size := ⟨_, rfl⟩
  obtain ⟨g3, hg3⟩ : ∃ g, g = w.heap.size + 1 := ⟨_, rfl⟩
  rw [← hwb, ← hg2] at hb2
  rw [← hwb, show (w.alloc (.cells (nmCells x) 63)).heap.size = g3 from by rw [hg3]; simp] at hb3
  rw [← hwb] at hx
  have HX := Lib.hid hx
  have HB2 := Lib.hid hb2
  have HB3 := Lib.hid hb3
  have HWB := Lib.hid hwb
  have HG2 := Lib.hid hg2
  have HG3 := Lib.hid hg3
  clear hx hb2 hb3 hwb hg2 hg3
  go_enter Tryz.func49, Tryz.ntmps49
  go_upto_region 1 with (fail)
  rw [show (w.alloc (.cells (nmCells x) 63)).alloc (.cells (nmCells y) 63) = wb from HWB.out.symm, show w.heap.size + 1 = g3 from HG3.out.symm, show w.heap.size = g2 from HG2.out.symm]
  refine wp_region_invH Nothing (fun _ => Ext) 1000 ncmDst (ncmPhi x y g2 g3) 37 (by kernel_rfl) (by decide) (by decide) rfl (fun i hi => .inl ((by decide : ∀ i, i < 33 → ncmDst i < 37) i hi)) (fun i w w' h => ⟨h, fun _ => h⟩) (fun i j v w w' _ _ _ _ h hu => h.ext hu) ?_ ?_
  · intro i o b' w1' ho hx1' hd hk hE hSZ
    have hi : i < 33 := (Array.getElem?_eq_some_iff.1 ho).1
    have his : i = 0 ∨ i = 1 ∨ i = 2 ∨ i = 3 ∨ i = 4 ∨ i = 5 ∨ i = 6 ∨ i = 7 ∨ i = 8 ∨ i = 9 ∨ i = 10 ∨ i = 11 ∨ i = 12 ∨ i = 13 ∨ i = 14 ∨ i = 15 ∨ i = 16 ∨ i = 17 ∨ i = 18 ∨ i = 19 ∨ i = 20 ∨ i = 21 ∨ i = 22 ∨ i = 23 ∨ i = 24 ∨ i = 25 ∨ i = 26 ∨ i = 27 ∨ i = 28 ∨ i = 29 ∨ i = 30 ∨ i = 31 ∨ i = 32 := by omega
    clear hE hSZ
    have HW1 := Lib.hid hx1'
    clear hx1'
    rcases his with rfl | rfl | rfl | rfl | rfl | rfl | rfl | rfl | rfl | rfl | rfl | rfl | rfl | rfl | rfl | rfl | rfl | rfl | rfl | rfl | rfl | rfl | rfl | rfl | rfl | rfl | rfl | rfl | rfl | rfl | rfl | rfl | rfl
    all_goals (simp at ho; subst ho)
    case inl =>
      refine .inl ⟨by simp [Region.wanted], ?_⟩
      have o2 : b'.tmps[2]?.getD undef = .pointer (some ⟨g2, 0, none⟩) := by
        have := hk 2 (fun j oj _ e => (ncmDst_ne (by decide) e).elim)
        simpa using this
      clear hd hk
      go_step
      exact ⟨_, rfl, rfl, Upd.refl _ _⟩
    case inr.inl =>
      refine .inl ⟨by simp [Region.wanted], ?_⟩
      have e0 : b'.tmps[5]?.getD undef = .pointer (some ⟨g2, 0, none⟩) := by have := (show b'.tmps.getD 5 undef = .pointer (some ⟨g2, 0, none⟩) from hd ⟨0, .data⟩ (by simp) rfl); simpa using this
      clear hd hk
      have hc : w1'.cell? ⟨g2, 0, none⟩ = some (.int .u8 x.kind) := cellAt (HW1.out.at_ HB2.out id) 0 _ rfl
      go_step
      exact ⟨_, rfl, rfl, Upd.refl _ _⟩
    case inr.inr.inl =>
      refine .inl ⟨by simp [Region.wanted], ?_⟩
      have o3 : b'.tmps[3]?.getD undef = .pointer (some ⟨g3, 0, none⟩) := by
        have := hk 3 (fun j oj _ e => (ncmDst_ne (by decide) e).elim)
        simpa using this
      clear hd hk
      go_step
      exact ⟨_, rfl, rfl, Upd.refl _ _⟩
    case inr.inr.inr.inl =>
      refine .inl ⟨by simp [Region.wanted], ?_⟩
      have e2 : b'.tmps[7]?.getD undef = .pointer (some ⟨g3, 0, none⟩) := by have := (show b'.tmps.getD 7 undef = .pointer (some ⟨g3, 0, none⟩) from hd ⟨2, .data⟩ (by simp) rfl); simpa using this
      clear hd hk
      have hc : w1'.cell? ⟨g3, 0, none⟩ = some (.int .u8 y.kind) := cellAt (HW1.out.at_ HB3.out id) 0 _ rfl
      go_step
      exact ⟨_, rfl, rfl, Upd.refl _ _⟩
    case inr.inr.inr.inr.inl =>
      refine .inl ⟨by simp [Region.wanted], ?_⟩
      have e1 : b'.tmps[6]?.getD undef = .int .u8 x.kind := by have := (show b'.tmps.getD 6 undef = .int .u8 x.kind from hd ⟨1, .data⟩ (by simp) rfl); simpa using this
      have e3 : b'.tmps[8]?.getD undef = .int .u8 y.kind := by have := (show b'.tmps.getD 8 undef = .int .u8 y.kind from hd ⟨3, .data⟩ (by simp) rfl); simpa using this
      clear hd hk
      go_step
      refine (cmp8_any w1' x.kind y.kind).mono ?_
      rintro e w2 ⟨rfl, hu⟩
      exact ⟨_, rfl, rfl, hu⟩
    case inr.inr.inr.inr.inr.inl =>
      refine .inl ⟨by simp [Region.wanted], ?_⟩
      have o2 : b'.tmps[2]?.getD undef = .pointer (some ⟨g2, 0, none⟩) := by
        have := hk 2 (fun j oj _ e => (ncmDst_ne (by decide) e).elim)
        simpa using this
      clear hd hk
      go_step
      exact ⟨_, rfl, rfl, Upd.refl _ _⟩
    case inr.inr.inr.inr.inr.inr.inl =>
      refine .inl ⟨by simp [Region.wanted], ?_⟩
      have e5 : b'.tmps[10]?.getD undef = .pointer (some ⟨g2, 1, none⟩) := by have := (show b'.tmps.getD 10 undef = .pointer (some ⟨g2, 1, none⟩) from hd ⟨5, .data⟩ (by simp) rfl); simpa using this
      clear hd hk
      have hc : w1'.cell? ⟨g2, 1, none⟩ = some (u64 x.doc) := cellAt (HW1.out.at_ HB2.out id) 1 _ rfl
      go_step
      exact ⟨_, rfl, rfl, Upd.refl _ _⟩
    case inr.inr.inr.inr.inr.inr.inr.inl =>
      refine .inl ⟨by simp [Region.wanted], ?_⟩
      have o3 : b'.tmps[3]?.getD undef = .pointer (some ⟨g3, 0, none⟩) := by
        have := hk 3 (fun j oj _ e => (ncmDst_ne (by decide) e).elim)
        simpa using this
      clear hd hk
      go_step
      exact ⟨_, rfl, rfl, Upd.refl _ _⟩
    case inr.inr.inr.inr.inr.inr.inr.inr.inl =>
      refine .inl ⟨by simp [Region.wanted], ?_⟩
      have e7 : b'.tmps[12]?.getD undef = .pointer (some ⟨g3, 1, none⟩) := by have := (show b'.tmps.getD 12 undef = .pointer (some ⟨g3, 1, none⟩) from hd ⟨7, .data⟩ (by simp) rfl); simpa using this
      clear hd hk
      have hc : w1'.cell? ⟨g3, 1, none⟩ = some (u64 y.doc) := cellAt (HW1.out.at_ HB3.out id) 1 _ rfl
      go_step
      exact ⟨_, rfl, rfl, Upd.refl _ _⟩
    case inr.inr.inr.inr.inr.inr.inr.inr.inr.inl =>
      refine .inl ⟨by simp [Region.wanted], ?_⟩
      have e6 : b'.tmps[11]?.getD undef = u64 x.doc := by have := (show b'.tmps.getD 11 undef = u64 x.doc from hd ⟨6, .data⟩ (by simp) rfl); simpa using this
      have e8 : b'.tmps[13]?.getD undef = u64 y.doc := by have := (show b'.tmps.getD 13 undef = u64 y.doc from hd ⟨8, .data⟩ (by simp) rfl); simpa using this
      clear hd hk
      go_step
      refine (cmp64_any w1' x.doc y.doc).mono ?_
      rintro e w2 ⟨rfl, hu⟩
      exact ⟨_, rfl, rfl, hu⟩
    case inr.inr.inr.inr.inr.inr.inr.inr.inr.inr.inl =>
      refine .inl ⟨by simp [Region.wanted], ?_⟩
      have o2 : b'.tmps[2]?.getD undef = .pointer (some ⟨g2, 0, none⟩) := by
        have := hk 2 (fun j oj _ e => (ncmDst_ne (by decide) e).elim)
        simpa using this
      clear hd hk
      go_step
      exact ⟨_, rfl, rfl, Upd.refl _ _⟩
    case inr.inr.inr.inr.inr.inr.inr.inr.inr.inr.inr.inl =>
      refine .inl ⟨by simp [Region.wanted], ?_⟩
      have e10 : b'.tmps[15]?.getD undef = .pointer (some ⟨g2, 2, none⟩) := by have := (show b'.tmps.getD 15 undef = .pointer (some ⟨g2, 2, none⟩) from hd ⟨10, .data⟩ (by simp) rfl); simpa using this
      clear hd hk
      have hc : w1'.cell? ⟨g2, 2, none⟩ = some (u64 x.n) := cellAt (HW1.out.at_ HB2.out id) 2 _ rfl
      go_step
      exact ⟨_, rfl, rfl, Upd.refl _ _⟩
    case inr.inr.inr.inr.inr.inr.inr.inr.inr.inr.inr.inr.inl =>
      refine .inl ⟨by simp [Region.wanted], ?_⟩
      have o3 : b'.tmps[3]?.getD undef = .pointer (some ⟨g3, 0, none⟩) := by
        have := hk 3 (fun j oj _ e => (ncmDst_ne (by decide) e).elim)
        simpa using this
      clear hd hk
      go_step
      exact ⟨_, rfl, rfl, Upd.refl _ _⟩
    case inr.inr.inr.inr.inr.inr.inr.inr.inr.inr.inr.inr.inr.inl =>
      refine .inl ⟨by simp [Region.wanted], ?_⟩
      have e12 : b'.tmps[17]?.getD undef = .pointer (some ⟨g3, 2, none⟩) := by have := (show b'.tmps.getD 17 undef = .pointer (some ⟨g3, 2, none⟩) from hd ⟨12, .data⟩ (by simp) rfl); simpa using this
      clear hd hk
      have hc : w1'.cell? ⟨g3, 2, none⟩ = some (u64 y.n) := cellAt (HW1.out.at_ HB3.out id) 2 _ rfl
      go_step
      exact ⟨_, rfl, rfl, Upd.refl _ _⟩
    case inr.inr.inr.inr.inr.inr.inr.inr.inr.inr.inr.inr.inr.inr.inl =>
      refine .inl ⟨by simp [Region.wanted], ?_⟩
      have e11 : b'.tmps[16]?.getD undef = u64 x.n := by have := (show b'.tmps.getD 16 undef = u64 x.n from hd ⟨11, .data⟩ (by simp) rfl); simpa using this
      have e13 : b'.tmps[18]?.getD undef = u64 y.n := by have := (show b'.tmps.getD 18 undef = u64 y.n from hd ⟨13, .data⟩ (by simp) rfl); simpa using this
      clear hd hk
      go_step
      refine (cmp64_any w1' x.n y.n).mono ?_
      rintro e w2 ⟨rfl, hu⟩
      exact ⟨_, rfl, rfl, hu⟩
    case inr.inr.inr.inr.inr.inr.inr.inr.inr.inr.inr.inr.inr.inr.inr.inl =>
      refine .inl ⟨by simp [Region.wanted], ?_⟩
      have o2 : b'.tmps[2]?.getD undef = .pointer (some ⟨g2, 0, none⟩) := by
        have := hk 2 (fun j oj _ e => (ncmDst_ne (by decide) e).elim)
        simpa using this
      clear hd hk
      go_step
      exact ⟨_, rfl, rfl, Upd.refl _ _⟩
    case inr.inr.inr.inr.inr.inr.inr.inr.inr.inr.inr.inr.inr.inr.inr.inr.inl =>
      refine .inl ⟨by simp [Region.wanted], ?_⟩
      have e15 : b'.tmps[20]?.getD undef = .pointer (some ⟨g2, 3, none⟩) := by have := (show b'.tmps.getD 20 undef = .pointer (some ⟨g2, 3, none⟩) from hd ⟨15, .data⟩ (by simp) rfl); simpa using this
      clear hd hk
      have hc : w1'.cell? ⟨g2, 3, none⟩ = some (u64 x.proc) := cellAt (HW1.out.at_ HB2.out id) 3 _ rfl
      go_step
      exact ⟨_, rfl, rfl, Upd.refl _ _⟩
    case inr.inr.inr.inr.inr.inr.inr.inr.inr.inr.inr.inr.inr.inr.inr.inr.inr.inl =>
      refine .inl ⟨by simp [Region.wanted], ?_⟩
      have o3 : b'.tmps[3]?.getD undef = .pointer (some ⟨g3, 0, none⟩) := by
        have := hk 3 (fun j oj _ e => (ncmDst_ne (by decide) e).elim)
        simpa using this
      clear hd hk
      go_step
      exact ⟨_, rfl, rfl, Upd.refl _ _⟩
    case inr.inr.inr.inr.inr.inr.inr.inr.inr.inr.inr.inr.inr.inr.inr.inr.inr.inr.inl =>
      refine .inl ⟨by simp [Region.wanted], ?_⟩
      have e17 : b'.tmps[22]?.getD undef = .pointer (some ⟨g3, 3, none⟩) := by have := (show b'.tmps.getD 22 undef = .pointer (some ⟨g3, 3, none⟩) from hd ⟨17, .data⟩ (by simp) rfl); simpa using this
      clear hd hk
      have hc : w1'.cell? ⟨g3, 3, none⟩ = some (u64 y.proc) := cellAt (HW1.out.at_ HB3.out id) 3 _ rfl
      go_step
      exact ⟨_, rfl, rfl, Upd.refl _ _⟩
    case inr.inr.inr.inr.inr.inr.inr.inr.inr.inr.inr.inr.inr.inr.inr.inr.inr.inr.inr.inl =>
      refine .inl ⟨by simp [Region.wanted], ?_⟩
      have e16 : b'.tmps[21]?.getD undef = u64 x.proc := by have := (show b'.tmps.getD 21 undef = u64 x.proc from hd ⟨16, .data⟩ (by simp) rfl); simpa using this
      have e18 : b'.tmps[23]?.getD undef = u64 y.proc := by have := (show b'.tmps.getD 23 undef = u64 y.proc from hd ⟨18, .data⟩ (by simp) rfl); simpa using this
      clear hd hk
      go_step
      refine (cmp64_any w1' x.proc y.proc).mono ?_
      rintro e w2 ⟨rfl, hu⟩
      exact ⟨_, rfl, rfl, hu⟩
    case inr.inr.inr.inr.inr.inr.inr.inr.inr.inr.inr.inr.inr.inr.inr.inr.inr.inr.inr.inr.inl =>
      refine .inl ⟨by simp [Region.wanted], ?_⟩
      have o2 : b'.tmps[2]?.getD undef = .pointer (some ⟨g2, 0, none⟩) := by
        have := hk 2 (fun j oj _ e => (ncmDst_ne (by decide) e).elim)
        simpa using this
      clear hd hk
      go_step
      exact ⟨_, rfl, rfl, Upd.refl _ _⟩
    case inr.inr.inr.inr.inr.inr.inr.inr.inr.inr.inr.inr.inr.inr.inr.inr.inr.inr.inr.inr.inr.inl =>
      refine .inl ⟨by simp [Region.wanted], ?_⟩
      have e20 : b'.tmps[25]?.getD undef = .pointer (some ⟨g2, 4, none⟩) := by have := (show b'.tmps.getD 25 undef = .pointer (some ⟨g2, 4, none⟩) from hd ⟨20, .data⟩ (by simp) rfl); simpa using this
      clear hd hk
      have hc : w1'.cell? ⟨g2, 4, none⟩ = some (u64 x.inc) := cellAt (HW1.out.at_ HB2.out id) 4 _ rfl
      go_step
      exact ⟨_, rfl, rfl, Upd.refl _ _⟩
    case inr.inr.inr.inr.inr.inr.inr.inr.inr.inr.inr.inr.inr.inr.inr.inr.inr.inr.inr.inr.inr.inr.inl =>
      refine .inl ⟨by simp [Region.wanted], ?_⟩
      have o3 : b'.tmps[3]?.getD undef = .pointer (some ⟨g3, 0, none⟩) := by
        have := hk 3 (fun j oj _ e => (ncmDst_ne (by decide) e).elim)
        simpa using this
      clear hd hk
      go_step
      exact ⟨_, rfl, rfl, Upd.refl _ _⟩
    case inr.inr.inr.inr.inr.inr.inr.inr.inr.inr.inr.inr.inr.inr.inr.inr.inr.inr.inr.inr.inr.inr.inr.inl =>
      refine .inl ⟨by simp [Region.wanted], ?_⟩
      have e22 : b'.tmps[27]?.getD undef = .pointer (some ⟨g3, 4, none⟩) := by have := (show b'.tmps.getD 27 undef = .pointer (some ⟨g3, 4, none⟩) from hd ⟨22, .data⟩ (by simp) rfl); simpa using this
      clear hd hk
      have hc : w1'.cell? ⟨g3, 4, none⟩ = some (u64 y.inc) := cellAt (HW1.out.at_ HB3.out id) 4 _ rfl
      go_step
      exact ⟨_, rfl, rfl, Upd.refl _ _⟩
    case inr.inr.inr.inr.inr.inr.inr.inr.inr.inr.inr.inr.inr.inr.inr.inr.inr.inr.inr.inr.inr.inr.inr.inr.inl =>
      refine .inl ⟨by simp [Region.wanted], ?_⟩
      have e21 : b'.tmps[26]?.getD undef = u64 x.inc := by have := (show b'.tmps.getD 26 undef = u64 x.inc from hd ⟨21, .data⟩ (by simp) rfl); simpa using this
      have e23 : b'.tmps[28]?.getD undef = u64 y.inc := by have := (show b'.tmps.getD 28 undef = u64 y.inc from hd ⟨23, .data⟩ (by simp) rfl); simpa using this
      clear hd hk
      go_step
      refine (cmp64_any w1' x.inc y.inc).mono ?_
      rintro e w2 ⟨rfl, hu⟩
      exact ⟨_, rfl, rfl, hu⟩
    case inr.inr.inr.inr.inr.inr.inr.inr.inr.inr.inr.inr.inr.inr.inr.inr.inr.inr.inr.inr.inr.inr.inr.inr.inr.inl =>
      refine .inl ⟨by simp [Region.wanted], ?_⟩
      have o2 : b'.tmps[2]?.getD undef = .pointer (some ⟨g2, 0, none⟩) := by
        have := hk 2 (fun j oj _ e => (ncmDst_ne (by decide) e).elim)
        simpa using this
      clear hd hk
      go_step
      exact ⟨_, rfl, rfl, Upd.refl _ _⟩
    case inr.inr.inr.inr.inr.inr.inr.inr.inr.inr.inr.inr.inr.inr.inr.inr.inr.inr.inr.inr.inr.inr.inr.inr.inr.inr.inl =>
      refine .inl ⟨by simp [Region.wanted], ?_⟩
      have e25 : b'.tmps[30]?.getD undef = .pointer (some ⟨g2, 5, none⟩) := by have := (show b'.tmps.getD 30 undef = .pointer (some ⟨g2, 5, none⟩) from hd ⟨25, .data⟩ (by simp) rfl); simpa using this
      clear hd hk
      have hc : w1'.cell? ⟨g2, 5, none⟩ = some (u64 x.k) := cellAt (HW1.out.at_ HB2.out id) 5 _ rfl
      go_step
      exact ⟨_, rfl, rfl, Upd.refl _ _⟩
    case inr.inr.inr.inr.inr.inr.inr.inr.inr.inr.inr.inr.inr.inr.inr.inr.inr.inr.inr.inr.inr.inr.inr.inr.inr.inr.inr.inl =>
      refine .inl ⟨by simp [Region.wanted], ?_⟩
      have o3 : b'.tmps[3]?.getD undef = .pointer (some ⟨g3, 0, none⟩) := by
        have := hk 3 (fun j oj _ e => (ncmDst_ne (by decide) e).elim)
        simpa using this
      clear hd hk
      go_step
      exact ⟨_, rfl, rfl, Upd.refl _ _⟩
    case inr.inr.inr.inr.inr.inr.inr.inr.inr.inr.inr.inr.inr.inr.inr.inr.inr.inr.inr.inr.inr.inr.inr.inr.inr.inr.inr.inr.inl =>
      refine .inl ⟨by simp [Region.wanted], ?_⟩
      have e27 : b'.tmps[32]?.getD undef = .pointer (some ⟨g3, 5, none⟩) := by have := (show b'.tmps.getD 32 undef = .pointer (some ⟨g3, 5, none⟩) from hd ⟨27, .data⟩ (by simp) rfl); simpa using this
      clear hd hk
      have hc : w1'.cell? ⟨g3, 5, none⟩ = some (u64 y.k) := cellAt (HW1.out.at_ HB3.out id) 5 _ rfl
      go_step
      exact ⟨_, rfl, rfl, Upd.refl _ _⟩
    case inr.inr.inr.inr.inr.inr.inr.inr.inr.inr.inr.inr.inr.inr.inr.inr.inr.inr.inr.inr.inr.inr.inr.inr.inr.inr.inr.inr.inr.inl =>
      refine .inl ⟨by simp [Region.wanted], ?_⟩
      have e26 : b'.tmps[31]?.getD undef = u64 x.k := by have := (show b'.tmps.getD 31 undef = u64 x.k from hd ⟨26, .data⟩ (by simp) rfl); simpa using this
      have e28 : b'.tmps[33]?.getD undef = u64 y.k := by have := (show b'.tmps.getD 33 undef = u64 y.k from hd ⟨28, .data⟩ (by simp) rfl); simpa using this
      clear hd hk
      go_step
      refine (cmp64_any w1' x.k y.k).mono ?_
      rintro e w2 ⟨rfl, hu⟩
      exact ⟨_, rfl, rfl, hu⟩
    case inr.inr.inr.inr.inr.inr.inr.inr.inr.inr.inr.inr.inr.inr.inr.inr.inr.inr.inr.inr.inr.inr.inr.inr.inr.inr.inr.inr.inr.inr.inl =>
      refine .inl ⟨by simp [Region.wanted], ?_⟩
      have e4 : b'.tmps[9]?.getD undef = .int .i64 (cmpN x.kind y.kind) := by have := (show b'.tmps.getD 9 undef = .int .i64 (cmpN x.kind y.kind) from hd ⟨4, .data⟩ (by simp) rfl); simpa using this
      have e9 : b'.tmps[14]?.getD undef = .int .i64 (cmpN x.doc y.doc) := by have := (show b'.tmps.getD 14 undef = .int .i64 (cmpN x.doc y.doc) from hd ⟨9, .data⟩ (by simp) rfl); simpa using this
      have e14 : b'.tmps[19]?.getD undef = .int .i64 (cmpN x.n y.n) := by have := (show b'.tmps.getD 19 undef = .int .i64 (cmpN x.n y.n) from hd ⟨14, .data⟩ (by simp) rfl); simpa using this
      have e19 : b'.tmps[24]?.getD undef = .int .i64 (cmpN x.proc y.proc) := by have := (show b'.tmps.getD 24 undef = .int .i64 (cmpN x.proc y.proc) from hd ⟨19, .data⟩ (by simp) rfl); simpa using this
      have e24 : b'.tmps[29]?.getD undef = .int .i64 (cmpN x.inc y.inc) := by have := (show b'.tmps.getD 29 undef = .int .i64 (cmpN x.inc y.inc) from hd ⟨24, .data⟩ (by simp) rfl); simpa using this
      have e29 : b'.tmps[34]?.getD undef = .int .i64 (cmpN x.k y.k) := by have := (show b'.tmps.getD 34 undef = .int .i64 (cmpN x.k y.k) from hd ⟨29, .data⟩ (by simp) rfl); simpa using this
      clear hd hk
      go_step
      exact ⟨_, rfl, (show CmpRow x y _ _ from (row_new w1' ((cmps x y).map i64).toArray 3 6 w1'.heap.size (by decide) rfl).mono (fun _ _ => trivial)), (Upd.refl _ _).alloc _⟩
    case inr.inr.inr.inr.inr.inr.inr.inr.inr.inr.inr.inr.inr.inr.inr.inr.inr.inr.inr.inr.inr.inr.inr.inr.inr.inr.inr.inr.inr.inr.inr.inl =>
      refine .inl ⟨by simp [Region.wanted], ?_⟩
      have h30 := hd ⟨30, .data⟩ (by simp) rfl
      have h30 : CmpRow x y (b'.tmps.getD 35 undef) w1' := h30
      have h30' := h30
      obtain ⟨a30, c30, q30, -, -, -⟩ := h30'
      have e30 : b'.tmps[35]?.getD undef = .slice a30 6 c30 := by simpa using q30
      rw [show b'.tmps.getD 35 undef = .slice a30 6 c30 from q30] at h30
      clear hd hk
      go_step
      refine (or_any w1' _ (cmps x y) h30).mono ?_
      rintro e w2 ⟨rfl, hu⟩
      exact ⟨_, rfl, rfl, hu⟩
    case inr.inr.inr.inr.inr.inr.inr.inr.inr.inr.inr.inr.inr.inr.inr.inr.inr.inr.inr.inr.inr.inr.inr.inr.inr.inr.inr.inr.inr.inr.inr.inr =>
      refine .inl ⟨by simp [Region.wanted], ?_⟩
      have e31 : b'.tmps[36]?.getD undef = .int .i64 (orF (cmps x y)) := by have := (show b'.tmps.getD 36 undef = .int .i64 (orF (cmps x y)) from hd ⟨31, .data⟩ (by simp) rfl); simpa using this
      clear hd hk
      go_step
      exact ⟨_, rfl, rfl, Upd.refl _ _⟩
  · intro v w1' hx1' hp
    have hz : v 32 = .int .i64 (orF (cmps x y)) := hp 32 (by decide)
    have HX8 := Lib.hid (HX.out.trans hx1')
    clear hp hx1'
    simp only [List.size_toArray, List.length_cons, List.length_nil, Nat.reduceAdd, fillAll, ncmDst]
    go_simp
    go_wp2
    go_ret
    exact ⟨rfl, HX8.out⟩
set_option maxRecDepth 100000 in
set_option maxHeartbeats 4000000 in
theorem rcompare_any (w : World) (x y : Nm) (hkx : x.kind < 256) (hky : y.kind < 256) :
    Calls Tryz.prog 47 #[.agg (nmCells x), .agg (nmCells y)] w fun e w' => e = .returned (.int .i64 (orF (cmps x y))) ∧ Ext w w' := by
  have hb2 : ((w.alloc (.cells (nmCells x) 61)).alloc (.cells (nmCells y) 61)).heap[w.heap.size]? = some (.cells (nmCells x) 61 (0, 0)) := ((Upd.refl Nothing _).alloc _).at_ (newAt _ _) id
  have hb3 := newAt (w.alloc (.cells (nmCells x) 61)) (.cells (nmCells y) 61)
  have hx : Ext w ((w.alloc (.cells (nmCells x) 61)).alloc (.cells (nmCells y) 61)) := ((Upd.refl _ _).alloc _).alloc _
  obtain ⟨wb, hwb⟩ : ∃ u, u = (w.alloc (.cells (nmCells x) 61)).alloc (.cells (nmCells y) 61) := ⟨_, rfl⟩
  obtain ⟨g2, hg2⟩ : ∃ g, g = w.heap.size := ⟨_, rfl⟩
  obtain ⟨g3, hg3⟩ : ∃ g, g = w.heap.size + 1 := ⟨_, rfl⟩
  rw [← hwb, ← hg2] at hb2
  rw [← hwb, show (w.alloc (.cells (nmCells x) 61)).heap.size = g3 from by rw [hg3]; simp] at hb3
  rw [← hwb] at hx
  have HX := Lib.hid hx
  have HB2 := Lib.hid hb2
  have HB3 := Lib.hid hb3
  have HWB := Lib.hid hwb
  have HG2 := Lib.hid hg2
  have HG3 := Lib.hid hg3
  clear hx hb2 hb3 hwb hg2 hg3
  go_enter Tryz.func47, Tryz.ntmps47
  go_upto_region 1 with (fail)
  rw [show (w.alloc (.cells (nmCells x) 61)).alloc (.cells (nmCells y) 61) = wb from HWB.out.symm, show w.heap.size + 1 = g3 from HG3.out.symm, show w.heap.size = g2 from HG2.out.symm]
  refine wp_region_invH Nothing (fun _ => Ext) 1000 ncrDst (ncrPhi x y g2 g3) 58 (by kernel_rfl) (by decide) (by decide) rfl (fun i hi => .inl ((by decide : ∀ i, i < 30 → ncrDst i < 58) i hi)) (fun i w w' h => ⟨h, fun _ => h⟩) (fun i j v w w' _ _ _ _ h hu => h.ext hu) ?_ ?_
  · intro i o b' w1' ho hx1' hd hk hE hSZ
    have hi : i < 30 := (Array.getElem?_eq_some_iff.1 ho).1
    have his : i = 0 ∨ i = 1 ∨ i = 2 ∨ i = 3 ∨ i = 4 ∨ i = 5 ∨ i = 6 ∨ i = 7 ∨ i = 8 ∨ i = 9 ∨ i = 10 ∨ i = 11 ∨ i = 12 ∨ i = 13 ∨ i = 14 ∨ i = 15 ∨ i = 16 ∨ i = 17 ∨ i = 18 ∨ i = 19 ∨ i = 20 ∨ i = 21 ∨ i = 22 ∨ i = 23 ∨ i = 24 ∨ i = 25 ∨ i = 26 ∨ i = 27 ∨ i = 28 ∨ i = 29 := by omega
    clear hE hSZ
    have HW1 := Lib.hid hx1'
    clear hx1'
    rcases his with rfl | rfl | rfl | rfl | rfl | rfl | rfl | rfl | rfl | rfl | rfl | rfl | rfl | rfl | rfl | rfl | rfl | rfl | rfl | rfl | rfl | rfl | rfl | rfl | rfl | rfl | rfl | rfl | rfl | rfl
    all_goals (simp at ho; subst ho)
    case inl =>
      refine .inl ⟨by simp [Region.wanted], ?_⟩
      have o2 : b'.tmps[2]?.getD undef = .pointer (some ⟨g2, 0, none⟩) := by
        have := hk 2 (fun j oj _ e => (ncrDst_ne (by decide) e).elim)
        simpa using this
      clear hd hk
      go_step
      exact ⟨_, rfl, rfl, Upd.refl _ _⟩
    case inr.inl =>
      refine .inl ⟨by simp [Region.wanted], ?_⟩
      have e0 : b'.tmps[8]?.getD undef = .pointer (some ⟨g2, 0, none⟩) := by have := (show b'.tmps.getD 8 undef = .pointer (some ⟨g2, 0, none⟩) from hd ⟨0, .data⟩ (by simp) rfl); simpa using this
      clear hd hk
      have hc : w1'.cell? ⟨g2, 0, none⟩ = some (.int .u8 x.kind) := cellAt (HW1.out.at_ HB2.out id) 0 _ rfl
      go_step
      exact ⟨_, rfl, rfl, Upd.refl _ _⟩
    case inr.inr.inl =>
      refine .inl ⟨by simp [Region.wanted], ?_⟩
      have e1 : b'.tmps[9]?.getD undef = .int .u8 x.kind := by have := (show b'.tmps.getD 9 undef = .int .u8 x.kind from hd ⟨1, .data⟩ (by simp) rfl); simpa using this
      clear hd hk
      go_step
      exact ⟨_, rfl, rfl, Upd.refl _ _⟩
    case inr.inr.inr.inl =>
      refine .inl ⟨by simp [Region.wanted], ?_⟩
      have o2 : b'.tmps[2]?.getD undef = .pointer (some ⟨g2, 0, none⟩) := by
        have := hk 2 (fun j oj _ e => (ncrDst_ne (by decide) e).elim)
        simpa using this
      clear hd hk
      go_step
      exact ⟨_, rfl, rfl, Upd.refl _ _⟩
    case inr.inr.inr.inr.inl =>
      refine .inl ⟨by simp [Region.wanted], ?_⟩
      have e3 : b'.tmps[11]?.getD undef = .pointer (some ⟨g2, 1, none⟩) := by have := (show b'.tmps.getD 11 undef = .pointer (some ⟨g2, 1, none⟩) from hd ⟨3, .data⟩ (by simp) rfl); simpa using this
      clear hd hk
      have hc : w1'.cell? ⟨g2, 1, none⟩ = some (u64 x.doc) := cellAt (HW1.out.at_ HB2.out id) 1 _ rfl
      go_step
      exact ⟨_, rfl, rfl, Upd.refl _ _⟩
    case inr.inr.inr.inr.inr.inl =>
      refine .inl ⟨by simp [Region.wanted], ?_⟩
      have o2 : b'.tmps[2]?.getD undef = .pointer (some ⟨g2, 0, none⟩) := by
        have := hk 2 (fun j oj _ e => (ncrDst_ne (by decide) e).elim)
        simpa using this
      clear hd hk
      go_step
      exact ⟨_, rfl, rfl, Upd.refl _ _⟩
    case inr.inr.inr.inr.inr.inr.inl =>
      refine .inl ⟨by simp [Region.wanted], ?_⟩
      have e5 : b'.tmps[13]?.getD undef = .pointer (some ⟨g2, 2, none⟩) := by have := (show b'.tmps.getD 13 undef = .pointer (some ⟨g2, 2, none⟩) from hd ⟨5, .data⟩ (by simp) rfl); simpa using this
      clear hd hk
      have hc : w1'.cell? ⟨g2, 2, none⟩ = some (u64 x.n) := cellAt (HW1.out.at_ HB2.out id) 2 _ rfl
      go_step
      exact ⟨_, rfl, rfl, Upd.refl _ _⟩
    case inr.inr.inr.inr.inr.inr.inr.inl =>
      refine .inl ⟨by simp [Region.wanted], ?_⟩
      have o2 : b'.tmps[2]?.getD undef = .pointer (some ⟨g2, 0, none⟩) := by
        have := hk 2 (fun j oj _ e => (ncrDst_ne (by decide) e).elim)
        simpa using this
      clear hd hk
      go_step
      exact ⟨_, rfl, rfl, Upd.refl _ _⟩
    case inr.inr.inr.inr.inr.inr.inr.inr.inl =>
      refine .inl ⟨by simp [Region.wanted], ?_⟩
      have e7 : b'.tmps[15]?.getD undef = .pointer (some ⟨g2, 3, none⟩) := by have := (show b'.tmps.getD 15 undef = .pointer (some ⟨g2, 3, none⟩) from hd ⟨7, .data⟩ (by simp) rfl); simpa using this
      clear hd hk
      have hc : w1'.cell? ⟨g2, 3, none⟩ = some (u64 x.proc) := cellAt (HW1.out.at_ HB2.out id) 3 _ rfl
      go_step
      exact ⟨_, rfl, rfl, Upd.refl _ _⟩
    case inr.inr.inr.inr.inr.inr.inr.inr.inr.inl =>
      refine .inl ⟨by simp [Region.wanted], ?_⟩
      have o2 : b'.tmps[2]?.getD undef = .pointer (some ⟨g2, 0, none⟩) := by
        have := hk 2 (fun j oj _ e => (ncrDst_ne (by decide) e).elim)
        simpa using this
      clear hd hk
      go_step
      exact ⟨_, rfl, rfl, Upd.refl _ _⟩
    case inr.inr.inr.inr.inr.inr.inr.inr.inr.inr.inl =>
      refine .inl ⟨by simp [Region.wanted], ?_⟩
      have e9 : b'.tmps[17]?.getD undef = .pointer (some ⟨g2, 4, none⟩) := by have := (show b'.tmps.getD 17 undef = .pointer (some ⟨g2, 4, none⟩) from hd ⟨9, .data⟩ (by simp) rfl); simpa using this
      clear hd hk
      have hc : w1'.cell? ⟨g2, 4, none⟩ = some (u64 x.inc) := cellAt (HW1.out.at_ HB2.out id) 4 _ rfl
      go_step
      exact ⟨_, rfl, rfl, Upd.refl _ _⟩
    case inr.inr.inr.inr.inr.inr.inr.inr.inr.inr.inr.inl =>
      refine .inl ⟨by simp [Region.wanted], ?_⟩
      have o2 : b'.tmps[2]?.getD undef = .pointer (some ⟨g2, 0, none⟩) := by
        have := hk 2 (fun j oj _ e => (ncrDst_ne (by decide) e).elim)
        simpa using this
      clear hd hk
      go_step
      exact ⟨_, rfl, rfl, Upd.refl _ _⟩
    case inr.inr.inr.inr.inr.inr.inr.inr.inr.inr.inr.inr.inl =>
      refine .inl ⟨by simp [Region.wanted], ?_⟩
      have e11 : b'.tmps[19]?.getD undef = .pointer (some ⟨g2, 5, none⟩) := by have := (show b'.tmps.getD 19 undef = .pointer (some ⟨g2, 5, none⟩) from hd ⟨11, .data⟩ (by simp) rfl); simpa using this
      clear hd hk
      have hc : w1'.cell? ⟨g2, 5, none⟩ = some (u64 x.k) := cellAt (HW1.out.at_ HB2.out id) 5 _ rfl
      go_step
      exact ⟨_, rfl, rfl, Upd.refl _ _⟩
    case inr.inr.inr.inr.inr.inr.inr.inr.inr.inr.inr.inr.inr.inl =>
      refine .inl ⟨by simp [Region.wanted], ?_⟩
      have e2 : b'.tmps[10]?.getD undef = u64 x.kind := by have := (show b'.tmps.getD 10 undef = u64 x.kind from hd ⟨2, .data⟩ (by simp) rfl); simpa using this
      have e4 : b'.tmps[12]?.getD undef = u64 x.doc := by have := (show b'.tmps.getD 12 undef = u64 x.doc from hd ⟨4, .data⟩ (by simp) rfl); simpa using this
      have e6 : b'.tmps[14]?.getD undef = u64 x.n := by have := (show b'.tmps.getD 14 undef = u64 x.n from hd ⟨6, .data⟩ (by simp) rfl); simpa using this
      have e8 : b'.tmps[16]?.getD undef = u64 x.proc := by have := (show b'.tmps.getD 16 undef = u64 x.proc from hd ⟨8, .data⟩ (by simp) rfl); simpa using this
      have e10 : b'.tmps[18]?.getD undef = u64 x.inc := by have := (show b'.tmps.getD 18 undef = u64 x.inc from hd ⟨10, .data⟩ (by simp) rfl); simpa using this
      have e12 : b'.tmps[20]?.getD undef = u64 x.k := by have := (show b'.tmps.getD 20 undef = u64 x.k from hd ⟨12, .data⟩ (by simp) rfl); simpa using this
      clear hd hk
      go_step
      exact ⟨_, rfl, (show NumRow (six x) _ _ from (row_new w1' ((six x).map u64).toArray 22 6 w1'.heap.size (by decide) rfl).mono (fun _ _ => trivial)), (Upd.refl _ _).alloc _⟩
    case inr.inr.inr.inr.inr.inr.inr.inr.inr.inr.inr.inr.inr.inr.inl =>
      refine .inl ⟨by simp [Region.wanted], ?_⟩
      have o3 : b'.tmps[3]?.getD undef = .pointer (some ⟨g3, 0, none⟩) := by
        have := hk 3 (fun j oj _ e => (ncrDst_ne (by decide) e).elim)
        simpa using this
      clear hd hk
      go_step
      exact ⟨_, rfl, rfl, Upd.refl _ _⟩
    case inr.inr.inr.inr.inr.inr.inr.inr.inr.inr.inr.inr.inr.inr.inr.inl =>
      refine .inl ⟨by simp [Region.wanted], ?_⟩
      have e14 : b'.tmps[22]?.getD undef = .pointer (some ⟨g3, 0, none⟩) := by have := (show b'.tmps.getD 22 undef = .pointer (some ⟨g3, 0, none⟩) from hd ⟨14, .data⟩ (by simp) rfl); simpa using this
      clear hd hk
      have hc : w1'.cell? ⟨g3, 0, none⟩ = some (.int .u8 y.kind) := cellAt (HW1.out.at_ HB3.out id) 0 _ rfl
      go_step
      exact ⟨_, rfl, rfl, Upd.refl _ _⟩
    case inr.inr.inr.inr.inr.inr.inr.inr.inr.inr.inr.inr.inr.inr.inr.inr.inl =>
      refine .inl ⟨by simp [Region.wanted], ?_⟩
      have e15 : b'.tmps[23]?.getD undef = .int .u8 y.kind := by have := (show b'.tmps.getD 23 undef = .int .u8 y.kind from hd ⟨15, .data⟩ (by simp) rfl); simpa using this
      clear hd hk
      go_step
      exact ⟨_, rfl, rfl, Upd.refl _ _⟩
    case inr.inr.inr.inr.inr.inr.inr.inr.inr.inr.inr.inr.inr.inr.inr.inr.inr.inl =>
      refine .inl ⟨by simp [Region.wanted], ?_⟩
      have o3 : b'.tmps[3]?.getD undef = .pointer (some ⟨g3, 0, none⟩) := by
        have := hk 3 (fun j oj _ e => (ncrDst_ne (by decide) e).elim)
        simpa using this
      clear hd hk
      go_step
      exact ⟨_, rfl, rfl, Upd.refl _ _⟩
    case inr.inr.inr.inr.inr.inr.inr.inr.inr.inr.inr.inr.inr.inr.inr.inr.inr.inr.inl =>
      refine .inl ⟨by simp [Region.wanted], ?_⟩
      have e17 : b'.tmps[25]?.getD undef = .pointer (some ⟨g3, 1, none⟩) := by have := (show b'.tmps.getD 25 undef = .pointer (some ⟨g3, 1, none⟩) from hd ⟨17, .data⟩ (by simp) rfl); simpa using this
      clear hd hk
      have hc : w1'.cell? ⟨g3, 1, none⟩ = some (u64 y.doc) := cellAt (HW1.out.at_ HB3.out id) 1 _ rfl
      go_step
      exact ⟨_, rfl, rfl, Upd.refl _ _⟩
    case inr.inr.inr.inr.inr.inr.inr.inr.inr.inr.inr.inr.inr.inr.inr.inr.inr.inr.inr.inl =>
      refine .inl ⟨by simp [Region.wanted], ?_⟩
      have o3 : b'.tmps[3]?.getD undef = .pointer (some ⟨g3, 0, none⟩) := by
        have := hk 3 (fun j oj _ e => (ncrDst_ne (by decide) e).elim)
        simpa using this
      clear hd hk
      go_step
      exact ⟨_, rfl, rfl, Upd.refl _ _⟩
    case inr.inr.inr.inr.inr.inr.inr.inr.inr.inr.inr.inr.inr.inr.inr.inr.inr.inr.inr.inr.inl =>
      refine .inl ⟨by simp [Region.wanted], ?_⟩
      have e19 : b'.tmps[27]?.getD undef = .pointer (some ⟨g3, 2, none⟩) := by have := (show b'.tmps.getD 27 undef = .pointer (some ⟨g3, 2, none⟩) from hd ⟨19, .data⟩ (by simp) rfl); simpa using this
      clear hd hk
      have hc : w1'.cell? ⟨g3, 2, none⟩ = some (u64 y.n) := cellAt (HW1.out.at_ HB3.out id) 2 _ rfl
      go_step
      exact ⟨_, rfl, rfl, Upd.refl _ _⟩
    case inr.inr.inr.inr.inr.inr.inr.inr.inr.inr.inr.inr.inr.inr.inr.inr.inr.inr.inr.inr.inr.inl =>
      refine .inl ⟨by simp [Region.wanted], ?_⟩
      have o3 : b'.tmps[3]?.getD undef = .pointer (some ⟨g3, 0, none⟩) := by
        have := hk 3 (fun j oj _ e => (ncrDst_ne (by decide) e).elim)
        simpa using this
      clear hd hk
      go_step
      exact ⟨_, rfl, rfl, Upd.refl _ _⟩
    case inr.inr.inr.inr.inr.inr.inr.inr.inr.inr.inr.inr.inr.inr.inr.inr.inr.inr.inr.inr.inr.inr.inl =>
      refine .inl ⟨by simp [Region.wanted], ?_⟩
      have e21 : b'.tmps[29]?.getD undef = .pointer (some ⟨g3, 3, none⟩) := by have := (show b'.tmps.getD 29 undef = .pointer (some ⟨g3, 3, none⟩) from hd ⟨21, .data⟩ (by simp) rfl); simpa using this
      clear hd hk
      have hc : w1'.cell? ⟨g3, 3, none⟩ = some (u64 y.proc) := cellAt (HW1.out.at_ HB3.out id) 3 _ rfl
      go_step
      exact ⟨_, rfl, rfl, Upd.refl _ _⟩
    case inr.inr.inr.inr.inr.inr.inr.inr.inr.inr.inr.inr.inr.inr.inr.inr.inr.inr.inr.inr.inr.inr.inr.inl =>
      refine .inl ⟨by simp [Region.wanted], ?_⟩
      have o3 : b'.tmps[3]?.getD undef = .pointer (some ⟨g3, 0, none⟩) := by
        have := hk 3 (fun j oj _ e => (ncrDst_ne (by decide) e).elim)
        simpa using this
      clear hd hk
      go_step
      exact ⟨_, rfl, rfl, Upd.refl _ _⟩
    case inr.inr.inr.inr.inr.inr.inr.inr.inr.inr.inr.inr.inr.inr.inr.inr.inr.inr.inr.inr.inr.inr.inr.inr.inl =>
      refine .inl ⟨by simp [Region.wanted], ?_⟩
      have e23 : b'.tmps[31]?.getD undef = .pointer (some ⟨g3, 4, none⟩) := by have := (show b'.tmps.getD 31 undef = .pointer (some ⟨g3, 4, none⟩) from hd ⟨23, .data⟩ (by simp) rfl); simpa using this
      clear hd hk
      have hc : w1'.cell? ⟨g3, 4, none⟩ = some (u64 y.inc) := cellAt (HW1.out.at_ HB3.out id) 4 _ rfl
      go_step
      exact ⟨_, rfl, rfl, Upd.refl _ _⟩
    case inr.inr.inr.inr.inr.inr.inr.inr.inr.inr.inr.inr.inr.inr.inr.inr.inr.inr.inr.inr.inr.inr.inr.inr.inr.inl =>
      refine .inl ⟨by simp [Region.wanted], ?_⟩
      have o3 : b'.tmps[3]?.getD undef = .pointer (some ⟨g3, 0, none⟩) := by
        have := hk 3 (fun j oj _ e => (ncrDst_ne (by decide) e).elim)
        simpa using this
      clear hd hk
      go_step
      exact ⟨_, rfl, rfl, Upd.refl _ _⟩
    case inr.inr.inr.inr.inr.inr.inr.inr.inr.inr.inr.inr.inr.inr.inr.inr.inr.inr.inr.inr.inr.inr.inr.inr.inr.inr.inl =>
      refine .inl ⟨by simp [Region.wanted], ?_⟩
      have e25 : b'.tmps[33]?.getD undef = .pointer (some ⟨g3, 5, none⟩) := by have := (show b'.tmps.getD 33 undef = .pointer (some ⟨g3, 5, none⟩) from hd ⟨25, .data⟩ (by simp) rfl); simpa using this
      clear hd hk
      have hc : w1'.cell? ⟨g3, 5, none⟩ = some (u64 y.k) := cellAt (HW1.out.at_ HB3.out id) 5 _ rfl
      go_step
      exact ⟨_, rfl, rfl, Upd.refl _ _⟩
    case inr.inr.inr.inr.inr.inr.inr.inr.inr.inr.inr.inr.inr.inr.inr.inr.inr.inr.inr.inr.inr.inr.inr.inr.inr.inr.inr.inl =>
      refine .inl ⟨by simp [Region.wanted], ?_⟩
      have e16 : b'.tmps[24]?.getD undef = u64 y.kind := by have := (show b'.tmps.getD 24 undef = u64 y.kind from hd ⟨16, .data⟩ (by simp) rfl); simpa using this
      have e18 : b'.tmps[26]?.getD undef = u64 y.doc := by have := (show b'.tmps.getD 26 undef = u64 y.doc from hd ⟨18, .data⟩ (by simp) rfl); simpa using this
      have e20 : b'.tmps[28]?.getD undef = u64 y.n := by have := (show b'.tmps.getD 28 undef = u64 y.n from hd ⟨20, .data⟩ (by simp) rfl); simpa using this
      have e22 : b'.tmps[30]?.getD undef = u64 y.proc := by have := (show b'.tmps.getD 30 undef = u64 y.proc from hd ⟨22, .data⟩ (by simp) rfl); simpa using this
      have e24 : b'.tmps[32]?.getD undef = u64 y.inc := by have := (show b'.tmps.getD 32 undef = u64 y.inc from hd ⟨24, .data⟩ (by simp) rfl); simpa using this
      have e26 : b'.tmps[34]?.getD undef = u64 y.k := by have := (show b'.tmps.getD 34 undef = u64 y.k from hd ⟨26, .data⟩ (by simp) rfl); simpa using this
      clear hd hk
      go_step
      exact ⟨_, rfl, (show NumRow (six y) _ _ from (row_new w1' ((six y).map u64).toArray 22 6 w1'.heap.size (by decide) rfl).mono (fun _ _ => trivial)), (Upd.refl _ _).alloc _⟩
    case inr.inr.inr.inr.inr.inr.inr.inr.inr.inr.inr.inr.inr.inr.inr.inr.inr.inr.inr.inr.inr.inr.inr.inr.inr.inr.inr.inr.inl =>
      refine .inl ⟨by simp [Region.wanted], ?_⟩
      have h13 := hd ⟨13, .data⟩ (by simp) rfl
      have h13 : NumRow (six x) (b'.tmps.getD 21 undef) w1' := h13
      have h13' := h13
      obtain ⟨a13, c13, q13, -, -, -⟩ := h13'
      have e13 : b'.tmps[21]?.getD undef = .slice a13 (six x).length c13 := by simpa using q13
      rw [show b'.tmps.getD 21 undef = .slice a13 (six x).length c13 from q13] at h13
      clear hd hk
      go_step
      exact ⟨_, rfl, h13, Upd.refl _ _⟩
    case inr.inr.inr.inr.inr.inr.inr.inr.inr.inr.inr.inr.inr.inr.inr.inr.inr.inr.inr.inr.inr.inr.inr.inr.inr.inr.inr.inr.inr =>
      refine .inl ⟨by simp [Region.wanted], ?_⟩
      have h27 := hd ⟨27, .data⟩ (by simp) rfl
      have h27 : NumRow (six y) (b'.tmps.getD 35 undef) w1' := h27
      have h27' := h27
      obtain ⟨a27, c27, q27, -, -, -⟩ := h27'
      have e27 : b'.tmps[35]?.getD undef = .slice a27 (six y).length c27 := by simpa using q27
      rw [show b'.tmps.getD 35 undef = .slice a27 (six y).length c27 from q27] at h27
      clear hd hk
      go_step
      exact ⟨_, rfl, h27, Upd.refl _ _⟩
  · intro v w1' hx1' hp
    have hs5 : NumRow (six x) (v 28) w1' := hp 28 (by decide)
    have hs6 : NumRow (six y) (v 29) w1' := hp 29 (by decide)
    obtain ⟨a5, c5, q5, r51, r52, -⟩ := id hs5
    obtain ⟨a6, c6, q6, r61, r62, -⟩ := id hs6
    rw [q5] at hs5
    rw [q6] at hs6
    have HS5 := Lib.hid hs5
    have HS6 := Lib.hid hs6
    have HX8 := Lib.hid (HX.out.trans hx1')
    have hsl : (six x).length = 6 := rfl
    have hsl2 : (six y).length = 6 := rfl
    rw [hsl] at r51
    rw [hsl2] at r61
    clear hp hx1' hs5 hs6 hsl hsl2
    simp only [List.size_toArray, List.length_cons, List.length_nil, Nat.reduceAdd, fillAll, ncrDst]
    go_simp
    clear q5 q6
    rw [show (six x).length = 6 from rfl, show (six y).length = 6 from rfl]
    unfold maxLen at r52 r62
    go_wp2
    go_loopw [7] (fun t wr => ∃ k : Nat, k ≤ 6 ∧ t = .int .i64 k ∧ Ext w1' wr ∧ ∀ j (h : j < (cmps x y).length), j < k → (cmps x y)[j] = 0) (fun t _ => 6 - (intOf t).toNat)
    case atStart => exact ⟨0, by decide, rfl, Upd.refl _ _, fun j _ hj => absurd hj (Nat.not_lt_zero _)⟩
    case round =>
      obtain ⟨k, hk, rfl, hx, hno⟩ := hrel
      have HNO := Lib.hid hno
      have HXK := Lib.hid hx
      by_cases hlt : k < 6
      · have hat := cmps_at x y hlt
        obtain ⟨b5, o5, z5, e5, -, -, -, hq5⟩ := (HS5.out.ext hx).addr (show 0 < (six x).length from by show 0 < 6; decide)
        obtain ⟨b6, o6, z6, e6, -, -, -, hq6⟩ := (HS6.out.ext hx).addr (show 0 < (six y).length from by show 0 < 6; decide)
        cases e5
        cases e6
        have hc5 := hq5 k (u64 ((six x)[k]'(by show k < 6; exact hlt))) (by rw [List.getElem?_map, List.getElem?_eq_getElem (show k < (six x).length from hlt)]; rfl)
        have hc6 := hq6 k (u64 ((six y)[k]'(by show k < 6; exact hlt))) (by rw [List.getElem?_map, List.getElem?_eq_getElem (show k < (six y).length from hlt)]; rfl)
        obtain ⟨p, hp⟩ : ∃ p, p = (six x)[k]'(by show k < 6; exact hlt) := ⟨_, rfl⟩
        obtain ⟨q, hq⟩ : ∃ q, q = (six y)[k]'(by show k < 6; exact hlt) := ⟨_, rfl⟩
        rw [← hp] at hc5 hat
        rw [← hq] at hc6 hat
        have HAT := Lib.hid hat
        clear hx hno hq5 hq6 hp hq hat
        by_cases h1 : p < q
        · have HC := Lib.hid (show cmpN p q = -1 by unfold cmpN; rw [if_pos h1])
          go_wp2
          go_quiet (fail)
          go_wp2
          go_ret
          exact ⟨by rw [orF_at (k := k) (show k < (cmps x y).length from hlt) HNO.out (by rw [HAT.out, HC.out]; decide), HAT.out, HC.out]; rfl, (HX8.out.trans HXK.out).drewN _⟩
        · by_cases h2 : q < p
          · have HC := Lib.hid (show cmpN p q = 1 by unfold cmpN; rw [if_neg h1, if_pos h2])
            go_wp2
            go_quiet (fail)
            go_wp2
            go_quiet (fail)
            go_wp2
            go_ret
            exact ⟨by rw [orF_at (k := k) (show k < (cmps x y).length from hlt) HNO.out (by rw [HAT.out, HC.out]; decide), HAT.out, HC.out]; rfl, (by first | exact (HX8.out.trans HXK.out).drewN _ | exact ((HX8.out.trans HXK.out).drewN _).drewN _)⟩
          · have HC := Lib.hid (show cmpN p q = 0 by unfold cmpN; rw [if_neg h1, if_neg h2])
            go_wp2
            go_quiet (fail)
            go_wp2
            go_quiet (fail)
            go_wp2
            go_roundw
            case rel =>
              refine ⟨k + 1, by omega, by go_num, (by first | exact HXK.out.drewN _ | exact (HXK.out.drewN _).drewN _), fun j hj hjk => ?_⟩
              by_cases hjk' : j = k
              · subst hjk'; rw [HAT.out, HC.out]
              · exact HNO.out j hj (by omega)
            case measure => simp [intOf]; omega
      · go_wp2
        go_ret
        exact ⟨by rw [orF_zero (fun j hj => HNO.out j hj (by have : j < 6 := hj; omega))]; rfl, HX8.out.trans HXK.out⟩
end Go.Proofs.YtfniemagbapeaaaGreatDoor
