/-
  CONTRACT of the law's keep, its walk. No condition.
-/
import Derived.Test.YtfpioijfocmfcaaGreatDoorYKeep
import Derived.Test.YtfpioijfocmfcaaGreatDoorNInvJ
namespace Go.Proofs.YtfpioijfocmfcaaGreatDoor
open Go.RowKit

theorem Tryz.vrk6 : (Tryz.prog.info? 41).map (·.size) = some 6 := by kernel_rfl
theorem kpOf_one (x y : Value) (hx : x.oneCell' = true) (hy : y.oneCell' = true) : AllOne (kpOf x y) := by
  simp only [AllOne, kpOf, List.all_toArray, List.all_cons, List.all_nil, hx, hy]; rfl
theorem Tryz.krkT (x y : Value) : StructT Tryz.prog 41 (kpOf x y).size := ⟨_, Tryz.underlying41, rfl, by kernel_rfl⟩
theorem own_one {w : World} {base e size n : Nat} {v : Value} {xs : List Value} (h : w.ownsRow base e size v n xs) : v.oneCell' = true := by
  obtain ⟨a, c, rfl⟩ := ownsFormN h; rfl
set_option maxRecDepth 100000 in
set_option maxHeartbeats 4000000 in
theorem keep_any (w : World) (a b c : Value) (k : Kp) (hk : KeepIs (Till w.heap.size) w a b c k) (hn1 : k.need.length ≤ 1000000) (hn2 : k.last.length ≤ 1000000) :
    Calls Tryz.prog 13 #[.agg #[a, b, c]] w fun e w' => ∃ x y qp qi told, e = .returned (.agg #[x, y, u64 qp, u64 qi, u64 0, .bool told]) ∧ MkRow (From w.heap.size) w' x k.need ∧ MkRow (From w.heap.size) w' y k.last ∧ (∀ m, earlierF k.own m = (told && decide (m.proc = qp) && decide (m.inc < qi))) ∧ Ext w w' := by
  obtain ⟨w2, hw2⟩ : ∃ u, u = (w.alloc (.cells #[a, b, c] 28)).alloc (.cells kpZero 41) := ⟨_, rfl⟩
  have hx2 : Ext w w2 := by rw [hw2]; exact ((Upd.refl _ _).alloc _).alloc _
  have hs2 : w2.heap.size = w.heap.size + 2 := by rw [hw2]; simp
  have hK : w2.heap[w.heap.size]? = some (.cells #[a, b, c] 28 (0, 0)) := by
    rw [hw2]; exact (Below.heap_alloc _ _ _ (by simp)).trans (newAt _ _)
  have hR : w2.heap[w.heap.size + 1]? = some (.cells kpZero 41 (0, 0)) := by
    rw [hw2]; have := newAt (w.alloc (.cells #[a, b, c] 28)) (.cells kpZero 41); simpa using this
  have hneed := hk.need.ext hx2
  have hlast := hk.last.ext hx2
  have HOWN := Lib.hid (hk.own.ext hx2)
  have HNE := Lib.hid hneed
  have HLA := Lib.hid hlast
  have HX2 := Lib.hid hx2
  have HS2 := Lib.hid hs2
  have HK := Lib.hid hK
  have HR := Lib.hid hR
  have HW2 := Lib.hid (show w2 = (w.alloc (.cells #[a, b, c] 28)).alloc (.cells #[.slice none 0 0, .slice none 0 0, .int .u64 0, .int .u64 0, .int .u64 0, .bool false] 41) from hw2)
  clear hw2 hx2 hs2 hK hR hneed hlast hk
  go_enter Tryz.func13, Tryz.ntmps13
  go_upto_region 1 with (fail)
  rw [← HW2.out]
  refine wp_region_J ykDst 28 (KpJ 41 39 a b w.heap.size k.need k.last w2) (by kernel_rfl) (by decide) (by decide) rfl (fun w0 h0 _ => ⟨h0.mono (fun _ _ e => e.elim), fun e => (by cases e), fun e => (by cases e), fun e => (by cases e), fun e => (by cases e), fun e => (by cases e), fun e => (by cases e), fun e => (by cases e), fun e => (by cases e), fun e => (by cases e)⟩) ?_ ?_
  · intro m o b' L v w1' ho hLi hA hV hO hSZ hJ
    have HSZ := Lib.hid hSZ
    clear hSZ
    have hi9 : m < 9 := (Array.getElem?_eq_some_iff.1 ho).1
    have his : m = 0 ∨ m = 1 ∨ m = 2 ∨ m = 3 ∨ m = 4 ∨ m = 5 ∨ m = 6 ∨ m = 7 ∨ m = 8 := by omega
    clear hi9
    have hg1 : w.heap.size < w2.heap.size := by have := HS2.out; omega
    have hKa := hJ.upd.at_ HK.out (show ¬ From w2.heap.size w.heap.size by unfold From; omega)
    have HJ := Lib.hid hJ
    rcases his with rfl | rfl | rfl | rfl | rfl | rfl | rfl | rfl | rfl
    all_goals (simp at ho; subst ho)
    case inl =>
      refine .inl ⟨by simp [Region.wanted], ?_⟩
      have f1 : b'.tmps[1]?.getD undef = .pointer (some ⟨w.heap.size, 0, none⟩) := by
        have := hO 1 (by decide)
        simpa using this
      clear hA hV hO hJ hKa
      go_step
      exact ⟨_, rfl, HJ.out.s0 hLi⟩
    case inr.inl =>
      refine .inl ⟨by simp [Region.wanted], ?_⟩
      have e0 : b'.tmps[4]?.getD undef = .pointer (some ⟨w.heap.size, 0, none⟩) := by
        have h0 := hA ⟨0, .data⟩ (by simp) rfl
        have := hV 0 (by decide) h0 (by decide)
        rw [hJ.v0 h0] at this
        have this : b'.tmps.getD 4 undef = _ := this
        simpa using this
      have hc := cellAt hKa 0 _ rfl
      clear hA hV hO hJ hKa
      go_step
      exact ⟨_, rfl, HJ.out.s1 hLi⟩
    case inr.inr.inl =>
      refine .inl ⟨by simp [Region.wanted], ?_⟩
      have e0 : b'.tmps[5]?.getD undef = a := by
        have h0 := hA ⟨1, .data⟩ (by simp) rfl
        have := hV 1 (by decide) h0 (by decide)
        rw [hJ.v1 h0] at this
        have this : b'.tmps.getD 5 undef = _ := this
        simpa using this
      have hrow : MkRow (Till w.heap.size) w1' a k.need := HNE.out.upd hJ.upd (fun j hj e => by unfold From at e; unfold Till at hj; omega)
      clear hA hV hO hJ hKa
      go_step
      refine (marks_any w1' a k.need hrow hn1).mono ?_
      rintro e w5 ⟨x5, rfl, hn5, hx5⟩
      exact ⟨_, rfl, HJ.out.s2 hx5 hLi (hn5.mono_base HJ.out.upd.size)⟩
    case inr.inr.inr.inl =>
      refine .inl ⟨by simp [Region.wanted], ?_⟩
      have f1 : b'.tmps[1]?.getD undef = .pointer (some ⟨w.heap.size, 0, none⟩) := by
        have := hO 1 (by decide)
        simpa using this
      clear hA hV hO hJ hKa
      go_step
      exact ⟨_, rfl, HJ.out.s3 hLi⟩
    case inr.inr.inr.inr.inl =>
      refine .inl ⟨by simp [Region.wanted], ?_⟩
      have e0 : b'.tmps[7]?.getD undef = .pointer (some ⟨w.heap.size, 1, none⟩) := by
        have h0 := hA ⟨3, .data⟩ (by simp) rfl
        have := hV 3 (by decide) h0 (by decide)
        rw [hJ.v3 h0] at this
        have this : b'.tmps.getD 7 undef = _ := this
        simpa using this
      have hc := cellAt hKa 1 _ rfl
      clear hA hV hO hJ hKa
      go_step
      exact ⟨_, rfl, HJ.out.s4 hLi⟩
    case inr.inr.inr.inr.inr.inl =>
      refine .inl ⟨by simp [Region.wanted], ?_⟩
      have e0 : b'.tmps[8]?.getD undef = b := by
        have h0 := hA ⟨4, .data⟩ (by simp) rfl
        have := hV 4 (by decide) h0 (by decide)
        rw [hJ.v4 h0] at this
        have this : b'.tmps.getD 8 undef = _ := this
        simpa using this
      have hrow : MkRow (Till w.heap.size) w1' b k.last := HLA.out.upd hJ.upd (fun j hj e => by unfold From at e; unfold Till at hj; omega)
      clear hA hV hO hJ hKa
      go_step
      refine (marks_any w1' b k.last hrow hn2).mono ?_
      rintro e w5 ⟨x5, rfl, hn5, hx5⟩
      exact ⟨_, rfl, HJ.out.s5 hx5 hLi (hn5.mono_base HJ.out.upd.size)⟩
    case inr.inr.inr.inr.inr.inr.inl =>
      refine .inl ⟨by simp [Region.wanted], ?_⟩
      have h2 : L 2 = true := hA ⟨2, .data⟩ (by simp) rfl
      have h5 : L 5 = true := hA ⟨5, .data⟩ (by simp) rfl
      obtain ⟨a2, c2, f2⟩ := ownsFormN (hJ.v2 h2)
      obtain ⟨a5, c5, f5⟩ := ownsFormN (hJ.v5 h5)
      have e2 : b'.tmps[6]?.getD undef = .slice a2 k.need.length c2 := by
        have := hV 2 (by decide) h2 (by decide)
        rw [f2] at this
        have this : b'.tmps.getD 6 undef = _ := this
        simpa using this
      have e5 : b'.tmps[9]?.getD undef = .slice a5 k.last.length c5 := by
        have := hV 5 (by decide) h5 (by decide)
        rw [f5] at this
        have this : b'.tmps.getD 9 undef = _ := this
        simpa using this
      clear hA hV hO hJ hKa
      go_step
      refine ⟨_, rfl, ?_⟩
      have := HJ.out.s6 hLi h2 h5
      rw [f2, f5] at this
      exact this
    case inr.inr.inr.inr.inr.inr.inr.inl =>
      refine .inl ⟨by simp [Region.wanted], ?_⟩
      clear hA hV hO hJ hKa
      go_step
      exact ⟨_, rfl, HJ.out.s7 (w' := w1'.alloc (.cells kpZero 41)) ((Upd.refl _ _).alloc _) hLi HJ.out.upd.size (newAt _ _)⟩
    case inr.inr.inr.inr.inr.inr.inr.inr =>
      refine .inl ⟨by simp [Region.wanted], ?_⟩
      have h6 : L 6 = true := hA ⟨6, .data⟩ (by simp) rfl
      have h7 : L 7 = true := hA ⟨7, .data⟩ (by simp) rfl
      have e7 : b'.tmps.getD 3 undef = v 7 := hV 7 (by decide) h7 (by decide)
      have e6 : b'.tmps.getD 10 undef = v 6 := hV 6 (by decide) h6 (by decide)
      obtain ⟨h2, h5, q6⟩ := hJ.v6 h6
      obtain ⟨g, hg, hge, hh⟩ := hJ.v7 h7
      rw [hLi] at hh
      rw [q6] at e6
      rw [hg] at e7
      refine wp_store_row 41 (.tmp 3) (.tmp 10) rfl g (kpOf (v 2) (v 5)) (by simpa [Act.eval] using e7) (by simpa [Act.eval] using e6) _ _ hh Tryz.vrk6 rfl (kpOf_one _ _ (own_one (hJ.v2 h2)) (own_one (hJ.v5 h5)))
        ⟨undef, put_past (by show b'.tmps.size ≤ 1008; rw [HSZ.out]; decide), ?_⟩
      exact hJ.s8 h6 h7 hg hge hh (Upd.row w1' g _) (setRow_heap _ _ _ _ _ _ hh) (by decide) _
  · intro L v w1' hL hJ
    obtain ⟨a2, c2, f2⟩ := ownsFormN (hJ.v2 (hL 2 (by decide)))
    obtain ⟨a5, c5, f5⟩ := ownsFormN (hJ.v5 (hL 5 (by decide)))
    obtain ⟨g, hg, hge, hh⟩ := hJ.v7 (hL 7 (by decide))
    have ho2 := hJ.v2 (hL 2 (by decide))
    have ho5 := hJ.v5 (hL 5 (by decide))
    rw [hL 8 (by decide), if_pos rfl, f2, f5] at hh
    rw [f2] at ho2
    rw [f5] at ho5
    have hg1 : w.heap.size < w2.heap.size := by have := HS2.out; omega
    have HKa := Lib.hid (hJ.upd.at_ HK.out (show ¬ From w2.heap.size w.heap.size by unfold From; omega))
    have HRa := Lib.hid (hJ.upd.at_ HR.out (show ¬ From w2.heap.size (w.heap.size + 1) by have := HS2.out; unfold From; omega))
    have HX1 := Lib.hid (show Ext w w1' from HX2.out.step hJ.upd (fun i hi e => by unfold From at e; have := HS2.out; omega))
    have HUP := Lib.hid hJ.upd
    have HO2 := Lib.hid ho2
    have HO5 := Lib.hid ho5
    have HH := Lib.hid hh
    have HGE := Lib.hid hge
    clear hL hJ ho2 ho5 hh hge f2 f5
    simp only [List.size_toArray, List.length_cons, List.length_nil, Nat.reduceAdd, fillAll, ykDst]
    go_simp
    have k2 := cellAt HKa.out 2 _ rfl
    obtain ⟨q, hq⟩ : ∃ q, q = k.own := ⟨_, rfl⟩
    have ho := HOWN.out
    rw [← hq] at ho
    have HQ := Lib.hid hq
    have HST := Lib.hid (Tryz.krkT (.slice a2 k.need.length c2) (.slice a5 k.last.length c5))
    clear hq
    cases q with
    | none =>
      have ho : c = .pointer none := ho
      subst ho
      go_wp2_with (first | (refine wpList_load_blk rfl _ _ rfl rfl HH.out HST.out ?_) | (refine wpList_store_blk rfl _ _ _ rfl rfl (cells := kpOf (.slice a2 k.need.length c2) (.slice a5 k.last.length c5)) rfl HRa.out HST.out rfl (kpOf_one _ _ rfl rfl) ?_))
      go_wp2
      refine bodyPost_blk rfl rfl rfl (setRow_heap _ _ _ _ _ _ HRa.out) HST.out ?_
      refine ⟨_, _, 0, 0, false, rfl, ?_, ?_, fun m => by rw [← HQ.out]; rfl, ?_⟩
      · exact Row.upd ((Row.of_owns HO2.out).mono (fun j hj => (⟨hj, trivial⟩ : From w2.heap.size j ∧ True).1)) (Upd.row _ _ _) (fun j hj e => by unfold From at hj; unfold At at e; have := HS2.out; omega) |>.mono (fun j hj => by unfold From at hj ⊢; have := HS2.out; omega)
      · exact Row.upd ((Row.of_owns HO5.out).mono (fun j hj => (⟨hj, trivial⟩ : From w2.heap.size j ∧ True).1)) (Upd.row _ _ _) (fun j hj e => by unfold From at hj; unfold At at e; have := HS2.out; omega) |>.mono (fun j hj => by unfold From at hj ⊢; have := HS2.out; omega)
      · exact HX1.out.step (Upd.row _ _ _) (fun i hi e => by unfold At at e; omega)
    | some q =>
      obtain ⟨gb, of, rfl, hgb, hr⟩ := ho
      unfold Till at hgb
      have hnb : ¬ From w2.heap.size gb := by unfold From; have := HS2.out; omega
      have c0 := hr 0 (.int .u64 (q.proc : Int)) rfl
      have c1 := hr 1 (.int .u64 (q.inc : Int)) rfl
      rw [Nat.add_zero] at c0
      have d0 := HUP.out.cell c0 hnb
      have d1 := HUP.out.cell c1 hnb
      have hgl := lt_of_heap HH.out
      have hf5 := freeAt HH.out 5
      have he5 := cellAt HH.out 5 _ rfl
      have hne : ¬ gb = g := by have := HGE.out; have := HS2.out; omega
      have hne2 : ¬ w.heap.size = g := by have := HGE.out; have := HS2.out; omega
      have hne3 : ¬ w.heap.size + 1 = g := by have := HGE.out; have := HS2.out; omega
      obtain ⟨w4, hw4⟩ : ∃ u, u = w1'.setCell ⟨g, 5, none⟩ (.bool true) := ⟨_, rfl⟩
      have hx4 : Upd (At g) w1' w4 := by rw [hw4]; exact Upd.own w1' g 5 _
      have h4 : w4.heap[g]? = some (.cells #[.slice a2 k.need.length c2, .slice a5 k.last.length c5, .int .u64 0, .int .u64 0, .int .u64 0, .bool true] 41 (0, 0)) := by
        rw [hw4]; exact setAt HH.out
      have HW4 := Lib.hid hw4
      have HX4 := Lib.hid hx4
      have H4 := Lib.hid h4
      have D0 := Lib.hid (hx4.cell d0 (fun e => hne e))
      have D1 := Lib.hid (hx4.cell d1 (fun e => hne e))
      have K4 := Lib.hid (hx4.at_ HKa.out (fun e => hne2 e))
      have R4 := Lib.hid (hx4.at_ HRa.out (fun e => hne3 e))
      clear hx4 h4 hw4 c0 c1 hr
      go_upto_region 4 with (fail)
      rw [← HW4.out]
      have hgl4 := lt_of_heap H4.out
      have k2 := cellAt K4.out 2 _ rfl
      have d0 := D0.out
      have d1 := D1.out
      have z2 := cellAt H4.out 2 _ rfl
      have z3 := cellAt H4.out 3 _ rfl
      have z4 := cellAt H4.out 4 _ rfl
      have y2 := freeAt H4.out 2
      have y3 := freeAt H4.out 3
      have y4 := freeAt H4.out 4
      clear he5 hf5
      go_region
      obtain ⟨w5, hw5⟩ : ∃ u, u = (((w4.setCell ⟨g, 2, none⟩ (.int .u64 (q.proc : Int))).setCell ⟨g, 3, none⟩ (.int .u64 (q.inc : Int))).setCell ⟨g, 4, none⟩ (.int .u64 0)).drew := ⟨_, rfl⟩
      rw [← hw5]
      have hx5 : Upd (At g) w4 w5 := by
        rw [hw5]; exact (((Upd.own w4 g 2 _).trans (Upd.own _ g 3 _)).trans (Upd.own _ g 4 _)).drew
      have h5 : w5.heap[g]? = some (.cells #[.slice a2 k.need.length c2, .slice a5 k.last.length c5, .int .u64 (q.proc : Int), .int .u64 (q.inc : Int), .int .u64 0, .bool true] 41 (0, 0)) := by
        rw [hw5]; exact setAt (setAt (setAt H4.out))
      have H5 := Lib.hid h5
      have R5 := Lib.hid (hx5.at_ R4.out (fun e => hne3 e))
      have HUA := Lib.hid ((HX4.out.trans hx5))
      have HQ2 := Lib.hid (show ∀ m, earlierF k.own m = (true && decide (m.proc = q.proc) && decide (m.inc < q.inc)) from fun m => by rw [← HQ.out]; rfl)
      have HO2' := Lib.hid (HUA.out.ownsT HO2.out (fun k cur hk hh => by have hk : k = g := hk; subst hk; rw [HH.out] at hh; cases hh))
      have HO5' := Lib.hid (HUA.out.ownsT HO5.out (fun k cur hk hh => by have hk : k = g := hk; subst hk; rw [HH.out] at hh; cases hh))
      have HXE := Lib.hid (show Ext w w5 from HX1.out.step HUA.out (fun i hi e => by unfold At at e; have := HGE.out; have := HS2.out; omega))
      have HALL := Lib.hid (show AllOne #[.slice a2 k.need.length c2, .slice a5 k.last.length c5, .int .u64 (q.proc : Int), .int .u64 (q.inc : Int), .int .u64 0, .bool true] by simp only [AllOne, List.all_toArray, List.all_cons, List.all_nil, Value.oneCell']; rfl)
      have HST2 := Lib.hid (show StructT Tryz.prog 41 (#[.slice a2 k.need.length c2, .slice a5 k.last.length c5, .int .u64 (q.proc : Int), .int .u64 (q.inc : Int), .int .u64 0, .bool true] : Array Value).size from HST.out)
      clear hx5 h5 hw5 k2 d0 d1 z2 z3 z4 y2 y3 y4 hgl4
      go_wp2_with (first | (refine wpList_load_blk rfl _ _ rfl rfl H5.out HST2.out ?_) | (refine wpList_store_blk rfl _ _ _ rfl rfl (cells := #[.slice a2 k.need.length c2, .slice a5 k.last.length c5, .int .u64 (q.proc : Int), .int .u64 (q.inc : Int), .int .u64 0, .bool true]) rfl R5.out HST2.out rfl HALL.out ?_))
      go_wp2
      refine bodyPost_blk (cs := #[.slice a2 k.need.length c2, .slice a5 k.last.length c5, .int .u64 (q.proc : Int), .int .u64 (q.inc : Int), .int .u64 0, .bool true]) rfl rfl rfl (setRow_heap _ _ _ _ _ _ R5.out) HST2.out ?_
      refine ⟨_, _, q.proc, q.inc, true, rfl, ?_, ?_, HQ2.out, ?_⟩
      · exact Row.upd (Row.of_owns HO2'.out) (Upd.row _ _ _) (fun j hj e => by unfold From at hj; unfold At at e; have := HS2.out; omega) |>.mono (fun j hj => by unfold From at hj ⊢; have := HS2.out; omega)
      · exact Row.upd (Row.of_owns HO5'.out) (Upd.row _ _ _) (fun j hj e => by unfold From at hj; unfold At at e; have := HS2.out; omega) |>.mono (fun j hj => by unfold From at hj ⊢; have := HS2.out; omega)
      · exact HXE.out.step (Upd.row _ _ _) (fun i hi e => by unfold At at e; omega)
end Go.Proofs.YtfpioijfocmfcaaGreatDoor
