/-
  CONTRACT of the law NamePuts. Conditions: numbers within their kinds' bounds; the library's variables lie as they are laid.
-/
import Derived.Test.YtfniemagbapeaaaGreatDoorNInvJ
import Derived.Test.YtfniemagbapeaaaGreatDoorNCmp2
namespace Go.Proofs.YtfniemagbapeaaaGreatDoor
open Go.RowKit

theorem cmpN_self (a : Nat) : cmpN a a = 0 := by unfold cmpN; rw [if_neg (Nat.lt_irrefl _), if_neg (Nat.lt_irrefl _)]
theorem cmps_self (x : Nm) : orF (cmps x x) = 0 := orF_zero fun j hj => by
  have : j < 6 := hj
  rw [cmps_at x x this]; exact cmpN_self _
/-- A box of six cells, new since n0; if m, then x lies in it. -/
structure Bx (T : TypeId) (n0 : Nat) (x : Nm) (m : Bool) (v : Value) (w : World) : Prop where
  is : ∃ g cs, v = .pointer (some ⟨g, 0, none⟩) ∧ n0 ≤ g ∧ w.heap[g]? = some (.cells cs T (0, 0)) ∧ cs.size = 6 ∧ (m = true → cs = nmCells x)
theorem Bx.ext {T : TypeId} {n0 : Nat} {x : Nm} {m : Bool} {v : Value} {w w' : World} (h : Bx T n0 x m v w) (hu : Ext w w') : Bx T n0 x m v w' := by
  obtain ⟨g, cs, h1, h2, h3, h4⟩ := h
  exact ⟨g, cs, h1, h2, hu.at_ h3 id, h4⟩
theorem Bx.lt {T : TypeId} {n0 : Nat} {x : Nm} {m : Bool} {v : Value} {w : World} (h : Bx T n0 x m v w) : ∃ g, v = .pointer (some ⟨g, 0, none⟩) ∧ g < w.heap.size := by
  obtain ⟨g, cs, h1, h2, h3, h4⟩ := h
  exact ⟨g, h1, lt_of_heap h3⟩
theorem Bx.set {T : TypeId} {n0 : Nat} {x y : Nm} {m m' : Bool} {v v' : Value} {w : World} (_ : Bx T n0 x m v w) (h' : Bx T n0 y m' v' w) (hne : v ≠ v') {g : Nat} (hv : v = .pointer (some ⟨g, 0, none⟩)) : Bx T n0 y m' v' (w.setRow g (nmCells x)) := by
  obtain ⟨g', cs, h1, h2, h3, h4⟩ := h'
  refine ⟨g', cs, h1, h2, (setRow_other w g g' _ (fun e => hne (by rw [hv, h1, e]))).trans h3, h4⟩
theorem Bx.self {T : TypeId} {n0 : Nat} {x : Nm} {m : Bool} {v : Value} {w : World} (h : Bx T n0 x m v w) {g : Nat} (hv : v = .pointer (some ⟨g, 0, none⟩)) : Bx T n0 x true v (w.setRow g (nmCells x)) := by
  obtain ⟨g', cs, h1, h2, h3, h4⟩ := h
  rw [h1] at hv
  cases hv
  exact ⟨g, nmCells x, h1, h2, setRow_heap w g _ (nmCells x) T (0, 0) h3, rfl, fun _ => rfl⟩
structure PJ (T : TypeId) (x y : Nm) (w0 : World) (L : Nat → Bool) (v : Nat → Value) (w : World) : Prop where
  upd : Upd (From w0.heap.size) w0 w
  c0 : L 0 = true → v 0 = .agg (nmCells x)
  c1 : L 1 = true → v 1 = .agg (nmCells x)
  c2 : L 2 = true → v 2 = .agg (nmCells y)
  c3 : L 3 = true → v 3 = .agg (nmCells y)
  c4 : L 4 = true → Bx T w0.heap.size x (L 6) (v 4) w
  c5 : L 5 = true → Bx T w0.heap.size y (L 7) (v 5) w
  ne : L 4 = true → L 5 = true → v 4 ≠ v 5
  l6 : L 6 = true → L 4 = true
  l7 : L 7 = true → L 5 = true
def npjDst (i : Nat) : Tmp := if i < 4 then 7 + i else if i < 6 then 1 + i else 1000 + i
theorem Tryz.rnm6 : (Tryz.prog.info? 61).map (·.size) = some 6 := by kernel_rfl
def npuVal (x y : Nm) : Nat → Value
  | 0 => .agg (nmCells x)
  | 1 => .bool (mayF x)
  | 2 => .agg (nmCells x)
  | 3 => .bool (mayF x)
  | 4 => .bool true
  | 5 => .bool true
  | 6 => .agg (nmCells x)
  | 7 => str (putF x)
  | 8 => .agg (nmCells x)
  | 9 => str (putF x)
  | 10 => .bool true
  | 11 => .bool true
  | 12 => .bool true
  | 13 => .agg (nmCells x)
  | 14 => .agg (nmCells y)
  | 15 => .int .i64 (orF (cmps x y))
  | 16 => .agg (nmCells x)
  | 17 => .agg (nmCells y)
  | 18 => .int .i64 (orF (cmps x y))
  | 19 => .bool true
  | 20 => .bool true
  | 21 => .bool true
  | 22 => .agg (nmCells x)
  | 23 => .agg (nmCells x)
  | 24 => .int .i64 (orF (cmps x x))
  | 25 => .bool true
  | 26 => .bool true
  | 27 => .bool true
  | 28 => .bool true
  | 29 => .bool true
  | 30 => .bool true
  | _ => undef
def npuDst (i : Nat) : Tmp := if i = 30 then 4 else 11 + i
theorem npuDst_ne {j t : Nat} (ht : t = 2 ∨ t = 3 ∨ t = 5 ∨ t = 6) (e : npuDst j = t) : False := by
  unfold npuDst at e
  have e : (if j = 30 then 4 else 11 + j : Nat) = t := e
  rcases ht with rfl | rfl | rfl | rfl <;> (repeat' (split at e)) <;> omega
def npuPhi (x y : Nm) (i : Nat) (v : Value) (_ : World) : Prop := v = npuVal x y i
theorem npuPhi.ext {x y : Nm} {i : Nat} {v : Value} {w w' : World} (h : npuPhi x y i v w) (_ : Ext w w') : npuPhi x y i v w' := by
  unfold npuPhi at h ⊢
  exact h
set_option maxRecDepth 100000 in
set_option maxHeartbeats 4000000 in
theorem namePuts_any (w : World) (x y : Nm) (hwx : WfNm x) (hwy : WfNm y) (hE : Env w) :
    Calls Tryz.prog 30 #[.agg (nmCells x), .agg (nmCells y)] w fun e w' => e = .returned (.bool true) ∧ Ext w w' := by
  have HE := Lib.hid hE
  have HWX := Lib.hid hwx
  have HWY := Lib.hid hwy
  have hb2 : ((w.alloc (.cells (nmCells x) 63)).alloc (.cells (nmCells y) 63)).heap[w.heap.size]? = some (.cells (nmCells x) 63 (0, 0)) := ((Upd.refl Nothing _).alloc _).at_ (newAt _ _) id
  have hb3 := newAt (w.alloc (.cells (nmCells x) 63)) (.cells (nmCells y) 63)
  have hx : Ext w ((w.alloc (.cells (nmCells x) 63)).alloc (.cells (nmCells y) 63)) := ((Upd.refl _ _).alloc _).alloc _
  obtain ⟨wb, hwb⟩ : ∃ u, u = (w.alloc (.cells (nmCells x) 63)).alloc (.cells (nmCells y) 63) := ⟨_, rfl⟩
  obtain ⟨g2, hg2⟩ : ∃ g, g = w.heap.size := ⟨_, rfl⟩
  obtain ⟨g3, hg3⟩ : ∃ g, g = w.heap.size + 1 := ⟨_, rfl⟩
  rw [← hwb, ← hg2] at hb2
  rw [← hwb, show (w.alloc (.cells (nmCells x) 63)).heap.size = g3 from by rw [hg3]; simp] at hb3
  rw [← hwb] at hx
  have HX := Lib.hid hx
  have HB2 := Lib.hid hb2
  have HB3 := Lib.hid hb3
  have HWB := Lib.hid hwb
  have HGQ2 := Lib.hid hg2
  have HGQ3 := Lib.hid hg3
  clear hE hwx hwy hx hb2 hb3 hwb hg2 hg3
  go_enter Tryz.func30, Tryz.ntmps30
  go_upto_region 1 with (fail)
  rw [show (w.alloc (.cells (nmCells x) 63)).alloc (.cells (nmCells y) 63) = wb from HWB.out.symm, show w.heap.size + 1 = g3 from HGQ3.out.symm, show w.heap.size = g2 from HGQ2.out.symm]
  refine wp_region_J npjDst 41 (PJ 61 x y wb) (by kernel_rfl) (by decide) (by decide) rfl (fun w0 h0 hh => ⟨h0.mono (fun _ _ e => e.elim), fun e => (by cases e), fun e => (by cases e), fun e => (by cases e), fun e => (by cases e), fun e => (by cases e), fun e => (by cases e), fun e => (by cases e), fun e => (by cases e), fun e => (by cases e)⟩) ?_ ?_
  · intro i o b' L v w1' ho hLi hA hV hO hSZ hJ
    have HSZ := Lib.hid hSZ
    clear hSZ
    have hi : i < 8 := (Array.getElem?_eq_some_iff.1 ho).1
    have his : i = 0 ∨ i = 1 ∨ i = 2 ∨ i = 3 ∨ i = 4 ∨ i = 5 ∨ i = 6 ∨ i = 7 := by omega
    have hI2 : b'.tmps.getD 2 undef = .pointer (some ⟨g2, 0, none⟩) := hO 2 (by decide)
    have hI3 : b'.tmps.getD 3 undef = .pointer (some ⟨g3, 0, none⟩) := hO 3 (by decide)
    have hat2 := hJ.upd.at_ HB2.out (by have := lt_of_heap HB2.out; unfold From; omega)
    have hat3 := hJ.upd.at_ HB3.out (by have := lt_of_heap HB3.out; unfold From; omega)
    rcases his with rfl | rfl | rfl | rfl | rfl | rfl | rfl | rfl
    all_goals (simp at ho; subst ho)
    case inl =>
      refine .inl ⟨by simp [Region.wanted], ?_⟩
      exact wp_load_mid (w := w1') 63 (.tmp 2) rfl g2 0 (by simpa [Act.eval] using hI2) (nmCells x).toList _ (fun j u hj => by have := cellAt hat2 j u (by simpa using hj); simpa using this) Tryz.underlying63 rfl (by kernel_rfl)
        ⟨_, rfl, ⟨hJ.upd, fun _ => rfl, hJ.c1, hJ.c2, hJ.c3, hJ.c4, hJ.c5, hJ.ne, hJ.l6, hJ.l7⟩⟩
    case inr.inl =>
      refine .inl ⟨by simp [Region.wanted], ?_⟩
      have h0 := hA ⟨0, .data⟩ (by simp) rfl
      have h1 : b'.tmps.getD 7 undef = v 0 := hV 0 (by decide) h0 (by decide)
      rw [hJ.c0 h0] at h1
      have e0 : b'.tmps[7]?.getD undef = .agg (nmCells x) := by simpa using h1
      have HJ := Lib.hid hJ
      clear hA hV hO hI2 hI3 hat2 hat3 hJ h0 h1
      go_step
      refine (lawRef_any w1' x).mono ?_
      rintro e w2 ⟨rfl, hu⟩
      exact ⟨_, rfl, ⟨HJ.out.upd.ext hu, HJ.out.c0, fun _ => rfl, HJ.out.c2, HJ.out.c3, fun e => (HJ.out.c4 e).ext hu, fun e => (HJ.out.c5 e).ext hu, HJ.out.ne, HJ.out.l6, HJ.out.l7⟩⟩
    case inr.inr.inl =>
      refine .inl ⟨by simp [Region.wanted], ?_⟩
      exact wp_load_mid (w := w1') 63 (.tmp 3) rfl g3 0 (by simpa [Act.eval] using hI3) (nmCells y).toList _ (fun j u hj => by have := cellAt hat3 j u (by simpa using hj); simpa using this) Tryz.underlying63 rfl (by kernel_rfl)
        ⟨_, rfl, ⟨hJ.upd, hJ.c0, hJ.c1, fun _ => rfl, hJ.c3, hJ.c4, hJ.c5, hJ.ne, hJ.l6, hJ.l7⟩⟩
    case inr.inr.inr.inl =>
      refine .inl ⟨by simp [Region.wanted], ?_⟩
      have h0 := hA ⟨2, .data⟩ (by simp) rfl
      have h1 : b'.tmps.getD 9 undef = v 2 := hV 2 (by decide) h0 (by decide)
      rw [hJ.c2 h0] at h1
      have e0 : b'.tmps[9]?.getD undef = .agg (nmCells y) := by simpa using h1
      have HJ := Lib.hid hJ
      clear hA hV hO hI2 hI3 hat2 hat3 hJ h0 h1
      go_step
      refine (lawRef_any w1' y).mono ?_
      rintro e w2 ⟨rfl, hu⟩
      exact ⟨_, rfl, ⟨HJ.out.upd.ext hu, HJ.out.c0, HJ.out.c1, HJ.out.c2, fun _ => rfl, fun e => (HJ.out.c4 e).ext hu, fun e => (HJ.out.c5 e).ext hu, HJ.out.ne, HJ.out.l6, HJ.out.l7⟩⟩
    case inr.inr.inr.inr.inl =>
      refine .inl ⟨by simp [Region.wanted], ?_⟩
      have HJ := Lib.hid hJ
      have hLi6 : L 6 = true → L 4 = true := hJ.l6
      clear hA hV hO hI2 hI3 hat2 hat3 hJ
      go_step
      have hu : Ext w1' (w1'.alloc (.cells #[.int .u8 0, .int .u64 0, .int .u64 0, .int .u64 0, .int .u64 0, .int .u64 0] 61)) := (Upd.refl _ _).alloc _
      refine ⟨_, rfl, ⟨HJ.out.upd.ext hu, HJ.out.c0, HJ.out.c1, HJ.out.c2, HJ.out.c3, fun _ => ?_, fun e => (HJ.out.c5 e).ext hu, fun _ h5 => ?_, fun _ => rfl, HJ.out.l7⟩⟩
      · exact ⟨w1'.heap.size, _, rfl, HJ.out.upd.size, newAt _ _, rfl, fun h6 => by rw [show L 4 = true from hLi6 h6] at hLi; cases hLi⟩
      · obtain ⟨g, hg, hlt⟩ := (HJ.out.c5 h5).lt
        intro e
        rw [show mrkV v 4 (.pointer (some ⟨w1'.heap.size, 0, none⟩)) 5 = v 5 from rfl, hg] at e
        have e : Value.pointer (some ⟨w1'.heap.size, 0, none⟩) = .pointer (some ⟨g, 0, none⟩) := e
        cases e
        omega
    case inr.inr.inr.inr.inr.inl =>
      refine .inl ⟨by simp [Region.wanted], ?_⟩
      have HJ := Lib.hid hJ
      have hLi6 : L 7 = true → L 5 = true := hJ.l7
      clear hA hV hO hI2 hI3 hat2 hat3 hJ
      go_step
      have hu : Ext w1' (w1'.alloc (.cells #[.int .u8 0, .int .u64 0, .int .u64 0, .int .u64 0, .int .u64 0, .int .u64 0] 61)) := (Upd.refl _ _).alloc _
      refine ⟨_, rfl, ⟨HJ.out.upd.ext hu, HJ.out.c0, HJ.out.c1, HJ.out.c2, HJ.out.c3, fun e => (HJ.out.c4 e).ext hu, fun _ => ?_, fun h4 _ => ?_, HJ.out.l6, fun _ => rfl⟩⟩
      · exact ⟨w1'.heap.size, _, rfl, HJ.out.upd.size, newAt _ _, rfl, fun h6 => by rw [show L 5 = true from hLi6 h6] at hLi; cases hLi⟩
      · obtain ⟨g, hg, hlt⟩ := (HJ.out.c4 h4).lt
        intro e
        rw [show mrkV v 5 (.pointer (some ⟨w1'.heap.size, 0, none⟩)) 4 = v 4 from rfl, hg] at e
        have e : Value.pointer (some ⟨g, 0, none⟩) = .pointer (some ⟨w1'.heap.size, 0, none⟩) := e
        cases e
        omega
    case inr.inr.inr.inr.inr.inr.inl =>
      refine .inl ⟨by simp [Region.wanted], ?_⟩
      have h4 : L 4 = true := hA ⟨4, .data⟩ (by simp) rfl
      have h1 : L 1 = true := hA ⟨1, .data⟩ (by simp) rfl
      have e4 : b'.tmps.getD 5 undef = v 4 := hV 4 (by decide) h4 (by decide)
      have e1 : b'.tmps.getD 8 undef = v 1 := hV 1 (by decide) h1 (by decide)
      have hbx := hJ.c4 h4
      obtain ⟨g, cs, hg, hn, hh, hc, -⟩ := id hbx
      refine wp_store_row 61 (.tmp 5) (.tmp 8) rfl g (nmCells x) (by rw [← hg, ← e4]; simp [Act.eval]) (by rw [← hJ.c1 h1, ← e1]; simp [Act.eval]) _ _ hh Tryz.rnm6 hc (nmCells_one _)
        ⟨undef, put_past (by show b'.tmps.size ≤ 1006; rw [HSZ.out]; decide), ?_⟩
      exact ⟨hJ.upd.step (Upd.row w1' g _) (fun i hi e => by cases e; exact hn), hJ.c0, hJ.c1, hJ.c2, hJ.c3, fun _ => hbx.self hg, fun h5 => hbx.set (hJ.c5 h5) (hJ.ne h4 h5) hg, hJ.ne, fun _ => h4, hJ.l7⟩
    case inr.inr.inr.inr.inr.inr.inr =>
      refine .inl ⟨by simp [Region.wanted], ?_⟩
      have h5 : L 5 = true := hA ⟨5, .data⟩ (by simp) rfl
      have h3 : L 3 = true := hA ⟨3, .data⟩ (by simp) rfl
      have e5 : b'.tmps.getD 6 undef = v 5 := hV 5 (by decide) h5 (by decide)
      have e3 : b'.tmps.getD 10 undef = v 3 := hV 3 (by decide) h3 (by decide)
      have hbx := hJ.c5 h5
      obtain ⟨g, cs, hg, hn, hh, hc, -⟩ := id hbx
      refine wp_store_row 61 (.tmp 6) (.tmp 10) rfl g (nmCells y) (by rw [← hg, ← e5]; simp [Act.eval]) (by rw [← hJ.c3 h3, ← e3]; simp [Act.eval]) _ _ hh Tryz.rnm6 hc (nmCells_one _)
        ⟨undef, put_past (by show b'.tmps.size ≤ 1007; rw [HSZ.out]; decide), ?_⟩
      exact ⟨hJ.upd.step (Upd.row w1' g _) (fun i hi e => by cases e; exact hn), hJ.c0, hJ.c1, hJ.c2, hJ.c3, fun h4 => hbx.set (hJ.c4 h4) (fun e => hJ.ne h4 h5 e.symm) hg, fun _ => hbx.self hg, hJ.ne, hJ.l6, fun _ => h5⟩
  · intro L v w1' hL hJ
    have hall : L 4 = true ∧ L 5 = true ∧ L 6 = true ∧ L 7 = true := ⟨hL 4 (by decide), hL 5 (by decide), hL 6 (by decide), hL 7 (by decide)⟩
    obtain ⟨hl4, hl5, hl6, hl7⟩ := hall
    obtain ⟨g5, cs5, hv5, hn5, hh5, -, hc5⟩ := hJ.c4 hl4
    obtain ⟨g6, cs6, hv6, hn6, hh6, -, hc6⟩ := hJ.c5 hl5
    rw [hc5 hl6] at hh5
    rw [hc6 hl7] at hh6
    have hx0 := hJ.upd
    have hxw : Ext w w1' := HX.out.step hx0 (fun i hi e => by have := HX.out.size; unfold From at e; omega)
    have HG2 := Lib.hid (hx0.at_ HB2.out (by have := lt_of_heap HB2.out; unfold From; omega))
    have HG3 := Lib.hid (hx0.at_ HB3.out (by have := lt_of_heap HB3.out; unfold From; omega))
    have HG5 := Lib.hid hh5
    have HG6 := Lib.hid hh6
    have HXZ := Lib.hid hxw
    have HEE := Lib.hid (HE.out.ext hxw)
    clear hL hJ hl4 hl5 hl6 hl7 hn5 hn6 hh5 hh6 hc5 hc6 hx0 hxw
    simp only [List.size_toArray, List.length_cons, List.length_nil, Nat.reduceAdd, fillAll, npjDst]
    rw [hv5, hv6]
    clear hv5 hv6
    go_simp
    go_upto_region 2 with (fail)
    refine wp_region_invH Nothing (fun _ => Ext) 1000 npuDst (npuPhi x y) 41 (by kernel_rfl) (by decide) (by decide) rfl (fun i hi => .inl ((by decide : ∀ i, i < 31 → npuDst i < 41) i hi)) (fun i w w' h => ⟨h, fun _ => h⟩) (fun i j v w w' _ _ _ _ h hu => h.ext hu) ?_ ?_
    · intro i o b' w1' ho hx1' hd hk hE hSZ
      have hi : i < 31 := (Array.getElem?_eq_some_iff.1 ho).1
      have his : i = 0 ∨ i = 1 ∨ i = 2 ∨ i = 3 ∨ i = 4 ∨ i = 5 ∨ i = 6 ∨ i = 7 ∨ i = 8 ∨ i = 9 ∨ i = 10 ∨ i = 11 ∨ i = 12 ∨ i = 13 ∨ i = 14 ∨ i = 15 ∨ i = 16 ∨ i = 17 ∨ i = 18 ∨ i = 19 ∨ i = 20 ∨ i = 21 ∨ i = 22 ∨ i = 23 ∨ i = 24 ∨ i = 25 ∨ i = 26 ∨ i = 27 ∨ i = 28 ∨ i = 29 ∨ i = 30 := by omega
      clear hE hSZ
      have HW1 := Lib.hid hx1'
      clear hx1'
      rcases his with rfl | rfl | rfl | rfl | rfl | rfl | rfl | rfl | rfl | rfl | rfl | rfl | rfl | rfl | rfl | rfl | rfl | rfl | rfl | rfl | rfl | rfl | rfl | rfl | rfl | rfl | rfl | rfl | rfl | rfl | rfl
      all_goals (simp at ho; subst ho)
      case inl =>
        refine .inl ⟨by simp [Region.wanted], ?_⟩
        have o2 : b'.eval (.tmp 2) = .pointer (some ⟨g2, 0, none⟩) := by
          have := hk 2 (fun j oj _ e => (npuDst_ne (by decide) e).elim)
          simpa [Act.eval] using this
        have hg1 := HW1.out.at_ HG2.out id
        exact wp_load_mid (w := w1') 63 (.tmp 2) rfl g2 0 o2 (nmCells x).toList _ (fun j u hj => by have := cellAt hg1 j u (by simpa using hj); simpa using this) Tryz.underlying63 rfl (by kernel_rfl) ⟨_, rfl, rfl, Upd.refl _ _⟩
      case inr.inl =>
        refine .inl ⟨by simp [Region.wanted], ?_⟩
        have e0 : b'.tmps[11]?.getD undef = .agg (nmCells x) := by have := (show b'.tmps.getD 11 undef = .agg (nmCells x) from hd ⟨0, .data⟩ (by simp) rfl); simpa using this
        clear hd hk
        go_step
        refine (may_any w1' x).mono ?_
        rintro e w2 ⟨rfl, hu⟩
        exact ⟨_, rfl, rfl, hu⟩
      case inr.inr.inl =>
        refine .inl ⟨by simp [Region.wanted], ?_⟩
        have o5 : b'.eval (.tmp 5) = .pointer (some ⟨g5, 0, none⟩) := by
          have := hk 5 (fun j oj _ e => (npuDst_ne (by decide) e).elim)
          simpa [Act.eval] using this
        have hg1 := HW1.out.at_ HG5.out id
        exact wp_load_mid (w := w1') 61 (.tmp 5) rfl g5 0 o5 (nmCells x).toList _ (fun j u hj => by have := cellAt hg1 j u (by simpa using hj); simpa using this) Tryz.underlying61 rfl (by kernel_rfl) ⟨_, rfl, rfl, Upd.refl _ _⟩
      case inr.inr.inr.inl =>
        refine .inl ⟨by simp [Region.wanted], ?_⟩
        have e2 : b'.tmps[13]?.getD undef = .agg (nmCells x) := by have := (show b'.tmps.getD 13 undef = .agg (nmCells x) from hd ⟨2, .data⟩ (by simp) rfl); simpa using this
        clear hd hk
        go_step
        refine (rmay_any w1' x).mono ?_
        rintro e w2 ⟨rfl, hu⟩
        exact ⟨_, rfl, rfl, hu⟩
      case inr.inr.inr.inr.inl =>
        refine .inl ⟨by simp [Region.wanted], ?_⟩
        have e1 : b'.tmps[12]?.getD undef = .bool (mayF x) := by have := (show b'.tmps.getD 12 undef = .bool (mayF x) from hd ⟨1, .data⟩ (by simp) rfl); simpa using this
        have e3 : b'.tmps[14]?.getD undef = .bool (mayF x) := by have := (show b'.tmps.getD 14 undef = .bool (mayF x) from hd ⟨3, .data⟩ (by simp) rfl); simpa using this
        clear hd hk
        go_step
        exact ⟨_, rfl, (show Value.bool _ = .bool true from by simp), Upd.refl _ _⟩
      case inr.inr.inr.inr.inr.inl =>
        refine .inl ⟨by simp [Region.wanted], ?_⟩
        have e4 : b'.tmps[15]?.getD undef = .bool true := by have := (show b'.tmps.getD 15 undef = .bool true from hd ⟨4, .data⟩ (by simp) rfl); simpa using this
        clear hd hk
        go_step
        exact ⟨_, rfl, rfl, Upd.refl _ _⟩
      case inr.inr.inr.inr.inr.inr.inl =>
        refine .inl ⟨by
          have := tmp_some (show b'.tmps.getD 16 undef = .bool true from hd ⟨5, .guard⟩ (by simp) rfl)
          simp [Region.wanted, yielded, this], ?_⟩
        have o2 : b'.eval (.tmp 2) = .pointer (some ⟨g2, 0, none⟩) := by
          have := hk 2 (fun j oj _ e => (npuDst_ne (by decide) e).elim)
          simpa [Act.eval] using this
        have hg1 := HW1.out.at_ HG2.out id
        exact wp_load_mid (w := w1') 63 (.tmp 2) rfl g2 0 o2 (nmCells x).toList _ (fun j u hj => by have := cellAt hg1 j u (by simpa using hj); simpa using this) Tryz.underlying63 rfl (by kernel_rfl) ⟨_, rfl, rfl, Upd.refl _ _⟩
      case inr.inr.inr.inr.inr.inr.inr.inl =>
        refine .inl ⟨by
          have := tmp_some (show b'.tmps.getD 16 undef = .bool true from hd ⟨5, .guard⟩ (by simp) rfl)
          simp [Region.wanted, yielded, this], ?_⟩
        have e6 : b'.tmps[17]?.getD undef = .agg (nmCells x) := by have := (show b'.tmps.getD 17 undef = .agg (nmCells x) from hd ⟨6, .data⟩ (by simp) rfl); simpa using this
        clear hd hk
        go_step
        refine (put_any w1' x HWX.out (HEE.out.ext HW1.out).tab).mono ?_
        rintro e w2 ⟨rfl, hu⟩
        exact ⟨_, rfl, rfl, hu⟩
      case inr.inr.inr.inr.inr.inr.inr.inr.inl =>
        refine .inl ⟨by
          have := tmp_some (show b'.tmps.getD 16 undef = .bool true from hd ⟨5, .guard⟩ (by simp) rfl)
          simp [Region.wanted, yielded, this], ?_⟩
        have o5 : b'.eval (.tmp 5) = .pointer (some ⟨g5, 0, none⟩) := by
          have := hk 5 (fun j oj _ e => (npuDst_ne (by decide) e).elim)
          simpa [Act.eval] using this
        have hg1 := HW1.out.at_ HG5.out id
        exact wp_load_mid (w := w1') 61 (.tmp 5) rfl g5 0 o5 (nmCells x).toList _ (fun j u hj => by have := cellAt hg1 j u (by simpa using hj); simpa using this) Tryz.underlying61 rfl (by kernel_rfl) ⟨_, rfl, rfl, Upd.refl _ _⟩
      case inr.inr.inr.inr.inr.inr.inr.inr.inr.inl =>
        refine .inl ⟨by
          have := tmp_some (show b'.tmps.getD 16 undef = .bool true from hd ⟨5, .guard⟩ (by simp) rfl)
          simp [Region.wanted, yielded, this], ?_⟩
        have e8 : b'.tmps[19]?.getD undef = .agg (nmCells x) := by have := (show b'.tmps.getD 19 undef = .agg (nmCells x) from hd ⟨8, .data⟩ (by simp) rfl); simpa using this
        clear hd hk
        go_step
        refine (rput_any w1' x HWX.out).mono ?_
        rintro e w2 ⟨rfl, hu⟩
        exact ⟨_, rfl, rfl, hu⟩
      case inr.inr.inr.inr.inr.inr.inr.inr.inr.inr.inl =>
        refine .inl ⟨by
          have := tmp_some (show b'.tmps.getD 16 undef = .bool true from hd ⟨5, .guard⟩ (by simp) rfl)
          simp [Region.wanted, yielded, this], ?_⟩
        have e7 : b'.tmps[18]?.getD undef = str (putF x) := by have := (show b'.tmps.getD 18 undef = str (putF x) from hd ⟨7, .data⟩ (by simp) rfl); simpa using this
        have e9 : b'.tmps[20]?.getD undef = str (putF x) := by have := (show b'.tmps.getD 20 undef = str (putF x) from hd ⟨9, .data⟩ (by simp) rfl); simpa using this
        clear hd hk
        go_step
        exact ⟨_, rfl, (show Value.bool _ = .bool true from by simp), Upd.refl _ _⟩
      case inr.inr.inr.inr.inr.inr.inr.inr.inr.inr.inr.inl =>
        refine .inl ⟨by simp [Region.wanted], ?_⟩
        have e5 : b'.tmps[16]?.getD undef = .bool true := by have := (show b'.tmps.getD 16 undef = .bool true from hd ⟨5, .data⟩ (by simp) rfl); simpa using this
        have e10 : b'.tmps[21]?.getD undef = .bool true := by have := (show b'.tmps.getD 21 undef = .bool true from hd ⟨10, .data⟩ (by simp) rfl); simpa using this
        clear hd hk
        go_step
        exact ⟨_, rfl, rfl, Upd.refl _ _⟩
      case inr.inr.inr.inr.inr.inr.inr.inr.inr.inr.inr.inr.inl =>
        refine .inl ⟨by simp [Region.wanted], ?_⟩
        have e11 : b'.tmps[22]?.getD undef = .bool true := by have := (show b'.tmps.getD 22 undef = .bool true from hd ⟨11, .data⟩ (by simp) rfl); simpa using this
        clear hd hk
        go_step
        exact ⟨_, rfl, rfl, Upd.refl _ _⟩
      case inr.inr.inr.inr.inr.inr.inr.inr.inr.inr.inr.inr.inr.inl =>
        refine .inl ⟨by
          have := tmp_some (show b'.tmps.getD 23 undef = .bool true from hd ⟨12, .guard⟩ (by simp) rfl)
          simp [Region.wanted, yielded, this], ?_⟩
        have o2 : b'.eval (.tmp 2) = .pointer (some ⟨g2, 0, none⟩) := by
          have := hk 2 (fun j oj _ e => (npuDst_ne (by decide) e).elim)
          simpa [Act.eval] using this
        have hg1 := HW1.out.at_ HG2.out id
        exact wp_load_mid (w := w1') 63 (.tmp 2) rfl g2 0 o2 (nmCells x).toList _ (fun j u hj => by have := cellAt hg1 j u (by simpa using hj); simpa using this) Tryz.underlying63 rfl (by kernel_rfl) ⟨_, rfl, rfl, Upd.refl _ _⟩
      case inr.inr.inr.inr.inr.inr.inr.inr.inr.inr.inr.inr.inr.inr.inl =>
        refine .inl ⟨by
          have := tmp_some (show b'.tmps.getD 23 undef = .bool true from hd ⟨12, .guard⟩ (by simp) rfl)
          simp [Region.wanted, yielded, this], ?_⟩
        have o3 : b'.eval (.tmp 3) = .pointer (some ⟨g3, 0, none⟩) := by
          have := hk 3 (fun j oj _ e => (npuDst_ne (by decide) e).elim)
          simpa [Act.eval] using this
        have hg1 := HW1.out.at_ HG3.out id
        exact wp_load_mid (w := w1') 63 (.tmp 3) rfl g3 0 o3 (nmCells y).toList _ (fun j u hj => by have := cellAt hg1 j u (by simpa using hj); simpa using this) Tryz.underlying63 rfl (by kernel_rfl) ⟨_, rfl, rfl, Upd.refl _ _⟩
      case inr.inr.inr.inr.inr.inr.inr.inr.inr.inr.inr.inr.inr.inr.inr.inl =>
        refine .inl ⟨by
          have := tmp_some (show b'.tmps.getD 23 undef = .bool true from hd ⟨12, .guard⟩ (by simp) rfl)
          simp [Region.wanted, yielded, this], ?_⟩
        have e13 : b'.tmps[24]?.getD undef = .agg (nmCells x) := by have := (show b'.tmps.getD 24 undef = .agg (nmCells x) from hd ⟨13, .data⟩ (by simp) rfl); simpa using this
        have e14 : b'.tmps[25]?.getD undef = .agg (nmCells y) := by have := (show b'.tmps.getD 25 undef = .agg (nmCells y) from hd ⟨14, .data⟩ (by simp) rfl); simpa using this
        clear hd hk
        go_step
        refine (compare_any w1' x y HWX.out.kind HWY.out.kind).mono ?_
        rintro e w2 ⟨rfl, hu⟩
        exact ⟨_, rfl, rfl, hu⟩
      case inr.inr.inr.inr.inr.inr.inr.inr.inr.inr.inr.inr.inr.inr.inr.inr.inl =>
        refine .inl ⟨by
          have := tmp_some (show b'.tmps.getD 23 undef = .bool true from hd ⟨12, .guard⟩ (by simp) rfl)
          simp [Region.wanted, yielded, this], ?_⟩
        have o5 : b'.eval (.tmp 5) = .pointer (some ⟨g5, 0, none⟩) := by
          have := hk 5 (fun j oj _ e => (npuDst_ne (by decide) e).elim)
          simpa [Act.eval] using this
        have hg1 := HW1.out.at_ HG5.out id
        exact wp_load_mid (w := w1') 61 (.tmp 5) rfl g5 0 o5 (nmCells x).toList _ (fun j u hj => by have := cellAt hg1 j u (by simpa using hj); simpa using this) Tryz.underlying61 rfl (by kernel_rfl) ⟨_, rfl, rfl, Upd.refl _ _⟩
      case inr.inr.inr.inr.inr.inr.inr.inr.inr.inr.inr.inr.inr.inr.inr.inr.inr.inl =>
        refine .inl ⟨by
          have := tmp_some (show b'.tmps.getD 23 undef = .bool true from hd ⟨12, .guard⟩ (by simp) rfl)
          simp [Region.wanted, yielded, this], ?_⟩
        have o6 : b'.eval (.tmp 6) = .pointer (some ⟨g6, 0, none⟩) := by
          have := hk 6 (fun j oj _ e => (npuDst_ne (by decide) e).elim)
          simpa [Act.eval] using this
        have hg1 := HW1.out.at_ HG6.out id
        exact wp_load_mid (w := w1') 61 (.tmp 6) rfl g6 0 o6 (nmCells y).toList _ (fun j u hj => by have := cellAt hg1 j u (by simpa using hj); simpa using this) Tryz.underlying61 rfl (by kernel_rfl) ⟨_, rfl, rfl, Upd.refl _ _⟩
      case inr.inr.inr.inr.inr.inr.inr.inr.inr.inr.inr.inr.inr.inr.inr.inr.inr.inr.inl =>
        refine .inl ⟨by
          have := tmp_some (show b'.tmps.getD 23 undef = .bool true from hd ⟨12, .guard⟩ (by simp) rfl)
          simp [Region.wanted, yielded, this], ?_⟩
        have e16 : b'.tmps[27]?.getD undef = .agg (nmCells x) := by have := (show b'.tmps.getD 27 undef = .agg (nmCells x) from hd ⟨16, .data⟩ (by simp) rfl); simpa using this
        have e17 : b'.tmps[28]?.getD undef = .agg (nmCells y) := by have := (show b'.tmps.getD 28 undef = .agg (nmCells y) from hd ⟨17, .data⟩ (by simp) rfl); simpa using this
        clear hd hk
        go_step
        refine (rcompare_any w1' x y HWX.out.kind HWY.out.kind).mono ?_
        rintro e w2 ⟨rfl, hu⟩
        exact ⟨_, rfl, rfl, hu⟩
      case inr.inr.inr.inr.inr.inr.inr.inr.inr.inr.inr.inr.inr.inr.inr.inr.inr.inr.inr.inl =>
        refine .inl ⟨by
          have := tmp_some (show b'.tmps.getD 23 undef = .bool true from hd ⟨12, .guard⟩ (by simp) rfl)
          simp [Region.wanted, yielded, this], ?_⟩
        have e15 : b'.tmps[26]?.getD undef = .int .i64 (orF (cmps x y)) := by have := (show b'.tmps.getD 26 undef = .int .i64 (orF (cmps x y)) from hd ⟨15, .data⟩ (by simp) rfl); simpa using this
        have e18 : b'.tmps[29]?.getD undef = .int .i64 (orF (cmps x y)) := by have := (show b'.tmps.getD 29 undef = .int .i64 (orF (cmps x y)) from hd ⟨18, .data⟩ (by simp) rfl); simpa using this
        clear hd hk
        go_step
        exact ⟨_, rfl, (show Value.bool _ = .bool true from by simp), Upd.refl _ _⟩
      case inr.inr.inr.inr.inr.inr.inr.inr.inr.inr.inr.inr.inr.inr.inr.inr.inr.inr.inr.inr.inl =>
        refine .inl ⟨by simp [Region.wanted], ?_⟩
        have e12 : b'.tmps[23]?.getD undef = .bool true := by have := (show b'.tmps.getD 23 undef = .bool true from hd ⟨12, .data⟩ (by simp) rfl); simpa using this
        have e19 : b'.tmps[30]?.getD undef = .bool true := by have := (show b'.tmps.getD 30 undef = .bool true from hd ⟨19, .data⟩ (by simp) rfl); simpa using this
        clear hd hk
        go_step
        exact ⟨_, rfl, rfl, Upd.refl _ _⟩
      case inr.inr.inr.inr.inr.inr.inr.inr.inr.inr.inr.inr.inr.inr.inr.inr.inr.inr.inr.inr.inr.inl =>
        refine .inl ⟨by simp [Region.wanted], ?_⟩
        have e20 : b'.tmps[31]?.getD undef = .bool true := by have := (show b'.tmps.getD 31 undef = .bool true from hd ⟨20, .data⟩ (by simp) rfl); simpa using this
        clear hd hk
        go_step
        exact ⟨_, rfl, rfl, Upd.refl _ _⟩
      case inr.inr.inr.inr.inr.inr.inr.inr.inr.inr.inr.inr.inr.inr.inr.inr.inr.inr.inr.inr.inr.inr.inl =>
        refine .inl ⟨by
          have := tmp_some (show b'.tmps.getD 32 undef = .bool true from hd ⟨21, .guard⟩ (by simp) rfl)
          simp [Region.wanted, yielded, this], ?_⟩
        have o2 : b'.eval (.tmp 2) = .pointer (some ⟨g2, 0, none⟩) := by
          have := hk 2 (fun j oj _ e => (npuDst_ne (by decide) e).elim)
          simpa [Act.eval] using this
        have hg1 := HW1.out.at_ HG2.out id
        exact wp_load_mid (w := w1') 63 (.tmp 2) rfl g2 0 o2 (nmCells x).toList _ (fun j u hj => by have := cellAt hg1 j u (by simpa using hj); simpa using this) Tryz.underlying63 rfl (by kernel_rfl) ⟨_, rfl, rfl, Upd.refl _ _⟩
      case inr.inr.inr.inr.inr.inr.inr.inr.inr.inr.inr.inr.inr.inr.inr.inr.inr.inr.inr.inr.inr.inr.inr.inl =>
        refine .inl ⟨by
          have := tmp_some (show b'.tmps.getD 32 undef = .bool true from hd ⟨21, .guard⟩ (by simp) rfl)
          simp [Region.wanted, yielded, this], ?_⟩
        have o2 : b'.eval (.tmp 2) = .pointer (some ⟨g2, 0, none⟩) := by
          have := hk 2 (fun j oj _ e => (npuDst_ne (by decide) e).elim)
          simpa [Act.eval] using this
        have hg1 := HW1.out.at_ HG2.out id
        exact wp_load_mid (w := w1') 63 (.tmp 2) rfl g2 0 o2 (nmCells x).toList _ (fun j u hj => by have := cellAt hg1 j u (by simpa using hj); simpa using this) Tryz.underlying63 rfl (by kernel_rfl) ⟨_, rfl, rfl, Upd.refl _ _⟩
      case inr.inr.inr.inr.inr.inr.inr.inr.inr.inr.inr.inr.inr.inr.inr.inr.inr.inr.inr.inr.inr.inr.inr.inr.inl =>
        refine .inl ⟨by
          have := tmp_some (show b'.tmps.getD 32 undef = .bool true from hd ⟨21, .guard⟩ (by simp) rfl)
          simp [Region.wanted, yielded, this], ?_⟩
        have e22 : b'.tmps[33]?.getD undef = .agg (nmCells x) := by have := (show b'.tmps.getD 33 undef = .agg (nmCells x) from hd ⟨22, .data⟩ (by simp) rfl); simpa using this
        have e23 : b'.tmps[34]?.getD undef = .agg (nmCells x) := by have := (show b'.tmps.getD 34 undef = .agg (nmCells x) from hd ⟨23, .data⟩ (by simp) rfl); simpa using this
        clear hd hk
        go_step
        refine (compare_any w1' x x HWX.out.kind HWX.out.kind).mono ?_
        rintro e w2 ⟨rfl, hu⟩
        exact ⟨_, rfl, rfl, hu⟩
      case inr.inr.inr.inr.inr.inr.inr.inr.inr.inr.inr.inr.inr.inr.inr.inr.inr.inr.inr.inr.inr.inr.inr.inr.inr.inl =>
        refine .inl ⟨by
          have := tmp_some (show b'.tmps.getD 32 undef = .bool true from hd ⟨21, .guard⟩ (by simp) rfl)
          simp [Region.wanted, yielded, this], ?_⟩
        have e24 : b'.tmps[35]?.getD undef = .int .i64 (orF (cmps x x)) := by have := (show b'.tmps.getD 35 undef = .int .i64 (orF (cmps x x)) from hd ⟨24, .data⟩ (by simp) rfl); simpa using this
        clear hd hk
        go_step
        exact ⟨_, rfl, (show Value.bool _ = .bool true by rw [cmps_self]; rfl), Upd.refl _ _⟩
      case inr.inr.inr.inr.inr.inr.inr.inr.inr.inr.inr.inr.inr.inr.inr.inr.inr.inr.inr.inr.inr.inr.inr.inr.inr.inr.inl =>
        refine .inl ⟨by simp [Region.wanted], ?_⟩
        have e21 : b'.tmps[32]?.getD undef = .bool true := by have := (show b'.tmps.getD 32 undef = .bool true from hd ⟨21, .data⟩ (by simp) rfl); simpa using this
        have e25 : b'.tmps[36]?.getD undef = .bool true := by have := (show b'.tmps.getD 36 undef = .bool true from hd ⟨25, .data⟩ (by simp) rfl); simpa using this
        clear hd hk
        go_step
        exact ⟨_, rfl, rfl, Upd.refl _ _⟩
      case inr.inr.inr.inr.inr.inr.inr.inr.inr.inr.inr.inr.inr.inr.inr.inr.inr.inr.inr.inr.inr.inr.inr.inr.inr.inr.inr.inl =>
        refine .inl ⟨by simp [Region.wanted], ?_⟩
        have e26 : b'.tmps[37]?.getD undef = .bool true := by have := (show b'.tmps.getD 37 undef = .bool true from hd ⟨26, .data⟩ (by simp) rfl); simpa using this
        clear hd hk
        go_step
        exact ⟨_, rfl, rfl, Upd.refl _ _⟩
      case inr.inr.inr.inr.inr.inr.inr.inr.inr.inr.inr.inr.inr.inr.inr.inr.inr.inr.inr.inr.inr.inr.inr.inr.inr.inr.inr.inr.inl =>
        refine .inl ⟨by
          have := tmp_some (show b'.tmps.getD 38 undef = .bool true from hd ⟨27, .guard⟩ (by simp) rfl)
          simp [Region.wanted, yielded, this], ?_⟩
        clear hd hk
        go_step
        refine (works_any w1' (HEE.out.ext HW1.out)).mono ?_
        rintro e w2 ⟨rfl, hu⟩
        exact ⟨_, rfl, rfl, hu⟩
      case inr.inr.inr.inr.inr.inr.inr.inr.inr.inr.inr.inr.inr.inr.inr.inr.inr.inr.inr.inr.inr.inr.inr.inr.inr.inr.inr.inr.inr.inl =>
        refine .inl ⟨by simp [Region.wanted], ?_⟩
        have e27 : b'.tmps[38]?.getD undef = .bool true := by have := (show b'.tmps.getD 38 undef = .bool true from hd ⟨27, .data⟩ (by simp) rfl); simpa using this
        have e28 : b'.tmps[39]?.getD undef = .bool true := by have := (show b'.tmps.getD 39 undef = .bool true from hd ⟨28, .data⟩ (by simp) rfl); simpa using this
        clear hd hk
        go_step
        exact ⟨_, rfl, rfl, Upd.refl _ _⟩
      case inr.inr.inr.inr.inr.inr.inr.inr.inr.inr.inr.inr.inr.inr.inr.inr.inr.inr.inr.inr.inr.inr.inr.inr.inr.inr.inr.inr.inr.inr =>
        refine .inl ⟨by simp [Region.wanted], ?_⟩
        have e29 : b'.tmps[40]?.getD undef = .bool true := by have := (show b'.tmps.getD 40 undef = .bool true from hd ⟨29, .data⟩ (by simp) rfl); simpa using this
        clear hd hk
        go_step
        exact ⟨_, rfl, rfl, Upd.refl _ _⟩
    · intro v' w1' hx1' hp
      have h30 : v' 30 = .bool true := hp 30 (by decide)
      have HX8 := Lib.hid (HXZ.out.trans hx1')
      clear hp hx1'
      simp only [List.size_toArray, List.length_cons, List.length_nil, Nat.reduceAdd, fillAll, npuDst]
      go_simp
      go_wp2
      go_ret
      exact ⟨rfl, HX8.out⟩
end Go.Proofs.YtfniemagbapeaaaGreatDoor
