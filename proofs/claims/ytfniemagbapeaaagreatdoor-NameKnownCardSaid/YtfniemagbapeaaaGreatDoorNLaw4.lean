/-
  CONTRACT of the law NameBack. Conditions: numbers within their kinds' bounds; the library's variables lie as they are laid.
-/
import Derived.Test.YtfniemagbapeaaaGreatDoorNLaw2
import Derived.Test.YtfniemagbapeaaaGreatDoorNOrd
namespace Go.Proofs.YtfniemagbapeaaaGreatDoor
open Go.RowKit

theorem wpList_neq_nm {w : World} {ops : Array Oper} {rest : List Oper} {o : Oper} {a : Act} {Q : Exit → Act → World → Prop} (hw : Region.wanted o (yielded ops a.tmps) = true) (p q : Operand) (ho : o.op = .binOp .neq 63 p q 63) {u v : Nm} (hp : a.eval p = .agg (nmCells u)) (hq : a.eval q = .agg (nmCells v))
    (h : wpList Tryz.prog ops Q rest (a.put o.dst (.bool (!(eqB u v)))) w) : wpList Tryz.prog ops Q (o :: rest) a w := by
  show (if _ then _ else _)
  rw [if_pos hw]
  exact .inl (wp_neq_nm p q ho hp hq h)
theorem orF_mem : ∀ {l : List Int}, orF l = 0 ∨ orF l ∈ l
  | [] => .inl rfl
  | x :: r => by
    unfold orF
    split
    · rcases orF_mem (l := r) with h | h
      · exact .inl h
      · exact .inr (List.mem_cons_of_mem _ h)
    · exact .inr (by simp)
theorem cmpN_range (a b : Nat) : -1 ≤ cmpN a b ∧ cmpN a b ≤ 1 := by unfold cmpN; split <;> (try split) <;> omega
theorem cmps_range (x y : Nm) : -1 ≤ orF (cmps x y) ∧ orF (cmps x y) ≤ 1 := by
  rcases orF_mem (l := cmps x y) with h | h
  · omega
  · obtain ⟨z, hz⟩ : ∃ z, z = orF (cmps x y) := ⟨_, rfl⟩
    rw [← hz] at h ⊢
    unfold cmps at h
    simp only [List.mem_cons, List.not_mem_nil, or_false] at h
    rcases h with h | h | h | h | h | h <;> rw [h] <;> exact cmpN_range _ _
theorem ng_eq (x y : Nm) : ∀ _ : Unit, Value.int .i64 (wrap64 (-(orF (cmps y x)))) = .int .i64 (orF (cmps x y)) := by
  intro _
  have := cmps_range x y
  rw [cmps_neg x y, Int.neg_neg]
  congr 1
  unfold wrap64
  omega
theorem ce_eq (x y : Nm) : (orF (cmps x y) == 0) = eqB x y := by
  unfold eqB
  rw [Bool.eq_iff_iff]
  simp [cmps_zero_iff]
theorem pe_eq {x y : Nm} (hx : mayF x = true) (hy : mayF y = true) (wx : WfNm x) (wy : WfNm y) : (putF x == putF y) = eqB x y := by
  unfold eqB
  rw [Bool.eq_iff_iff]
  simp only [beq_iff_eq, decide_eq_true_eq]
  exact ⟨put_inj hx hy wx wy, fun h => by rw [h]⟩
def nbkYVal (x y : Nm) (g3 g4 : Nat) : Nat → Value
  | 0 => .agg (nmCells y)
  | 1 => .bool true
  | 2 => .bool false
  | 3 => .bool false
  | 4 => .agg (nmCells x)
  | 5 => str (putF x)
  | 6 => .agg (nmCells y)
  | 7 => str (putF y)
  | 8 => .bool (eqB x y)
  | 9 => .agg (nmCells x)
  | 10 => .agg (nmCells y)
  | 11 => .bool (eqB x y)
  | 12 => .bool true
  | 13 => .bool true
  | 14 => .agg (nmCells x)
  | 15 => .agg (nmCells y)
  | 16 => .int .i64 (orF (cmps x y))
  | 17 => .bool (eqB x y)
  | 18 => .agg (nmCells x)
  | 19 => .agg (nmCells y)
  | 20 => .bool (eqB x y)
  | 21 => .bool true
  | 22 => .bool true
  | 23 => .bool true
  | 24 => .agg (nmCells x)
  | 25 => .agg (nmCells y)
  | 26 => .int .i64 (orF (cmps x y))
  | 27 => .agg (nmCells y)
  | 28 => .agg (nmCells x)
  | 29 => .int .i64 (orF (cmps y x))
  | 30 => .int .i64 (orF (cmps x y))
  | 31 => .bool true
  | 32 => .bool true
  | 33 => .bool true
  | 34 => .bool true
  | 35 => .bool true
  | 36 => .bool true
  | 37 => .bool true
  | _ => undef
def nbkYDst (i : Nat) : Tmp := if i = 37 then 6 else 54 + i
theorem nbkYDst_ne {j t : Nat} (ht : t = 3 ∨ t = 4) (e : nbkYDst j = t) : False := by
  unfold nbkYDst at e
  have e : (if j = 37 then 6 else 54 + j : Nat) = t := e
  rcases ht with rfl | rfl <;> (repeat' (split at e)) <;> omega
def nbkYPhi (x y : Nm) (g3 g4 : Nat) (i : Nat) (v : Value) (_ : World) : Prop := v = nbkYVal x y g3 g4 i
theorem nbkYPhi.ext {x y : Nm} {g3 g4 : Nat} {i : Nat} {v : Value} {w w' : World} (h : nbkYPhi x y g3 g4 i v w) (_ : Ext w w') : nbkYPhi x y g3 g4 i v w' := by
  unfold nbkYPhi at h ⊢
  exact h
def nbkNVal (x y : Nm) (g3 g4 : Nat) : Nat → Value
  | 0 => .agg (nmCells y)
  | 1 => .bool false
  | 2 => .bool true
  | 3 => .bool true
  | 33 => .bool true
  | 34 => .bool true
  | 35 => .bool true
  | 36 => .bool true
  | 37 => .bool true
  | _ => undef
def nbkNDst (i : Nat) : Tmp := if i = 37 then 6 else 54 + i
theorem nbkNDst_ne {j t : Nat} (ht : t = 3 ∨ t = 4) (e : nbkNDst j = t) : False := by
  unfold nbkNDst at e
  have e : (if j = 37 then 6 else 54 + j : Nat) = t := e
  rcases ht with rfl | rfl <;> (repeat' (split at e)) <;> omega
def nbkNPhi (x y : Nm) (g3 g4 : Nat) (i : Nat) (v : Value) (_ : World) : Prop := v = nbkNVal x y g3 g4 i
theorem nbkNPhi.ext {x y : Nm} {g3 g4 : Nat} {i : Nat} {v : Value} {w w' : World} (h : nbkNPhi x y g3 g4 i v w) (_ : Ext w w') : nbkNPhi x y g3 g4 i v w' := by
  unfold nbkNPhi at h ⊢
  exact h
set_option maxRecDepth 100000 in
set_option maxHeartbeats 4000000 in
theorem nameBack_any (w : World) (x y : Nm) (s : List UInt8) (hwx : WfNm x) (hwy : WfNm y) (hE : Env w) :
    Calls Tryz.prog 31 #[.agg (nmCells x), .agg (nmCells y), str s] w fun e w' => e = .returned (.bool true) ∧ Ext w w' := by
  have hsz : (⟨s.toArray⟩ : ByteArray).size = s.length := rfl
  have HE := Lib.hid hE
  have HWX := Lib.hid hwx
  have HWY := Lib.hid hwy
  have hb3 : ((w.alloc (.cells (nmCells x) 63)).alloc (.cells (nmCells y) 63)).heap[w.heap.size]? = some (.cells (nmCells x) 63 (0, 0)) := ((Upd.refl Nothing _).alloc _).at_ (newAt _ _) id
  have hb4 := newAt (w.alloc (.cells (nmCells x) 63)) (.cells (nmCells y) 63)
  have hx : Ext w ((w.alloc (.cells (nmCells x) 63)).alloc (.cells (nmCells y) 63)) := ((Upd.refl _ _).alloc _).alloc _
  obtain ⟨wb, hwb⟩ : ∃ u, u = (w.alloc (.cells (nmCells x) 63)).alloc (.cells (nmCells y) 63) := ⟨_, rfl⟩
  obtain ⟨g3, hg3⟩ : ∃ g, g = w.heap.size := ⟨_, rfl⟩
  obtain ⟨g4, hg4⟩ : ∃ g, g = w.heap.size + 1 := ⟨_, rfl⟩
  rw [← hwb, ← hg3] at hb3
  rw [← hwb, show (w.alloc (.cells (nmCells x) 63)).heap.size = g4 from by rw [hg4]; simp] at hb4
  rw [← hwb] at hx
  have HX := Lib.hid hx
  have HB3 := Lib.hid hb3
  have HB4 := Lib.hid hb4
  have HWB := Lib.hid hwb
  have HGQ3 := Lib.hid hg3
  have HGQ4 := Lib.hid hg4
  clear hE hwx hwy hx hb3 hb4 hwb hg3 hg4
  by_cases hl : s.length ≤ 120
  case neg =>
    have hl' : (120 : Int) < (s.length : Int) := by omega
    go_enter Tryz.func31, Tryz.ntmps31
    go_wp2_with (go_at_call 25; fail)
    rw [show (w.alloc (.cells (nmCells x) 63)).alloc (.cells (nmCells y) 63) = wb from HWB.out.symm]
    refine (works_any _ (HE.out.ext HX.out)).mono ?_
    rintro e w1 ⟨rfl, hx1⟩
    have HX1 := Lib.hid (HX.out.trans hx1)
    clear hx1
    go_wp2
    go_ret
    exact ⟨rfl, HX1.out⟩
  have hl' : ¬ (120 : Int) < (s.length : Int) := by omega
  obtain ⟨p, hp⟩ : ∃ x, x = (parseF s).1 := ⟨_, rfl⟩
  obtain ⟨ok, hok⟩ : ∃ o, o = (parseF s).2 := ⟨_, rfl⟩
  have hpp : parseF s = (p, ok) := by rw [hp, hok]
  have hgood : ok = true → mayF p = true ∧ WfNm p ∧ putF p = s := fun e => by
    have := put_parse (s := s) (by rw [← hok]; exact e)
    rw [← hp] at this; exact this
  have HPP := Lib.hid hpp
  have HGOOD := Lib.hid hgood
  have HL := Lib.hid hl
  clear hp hok hpp hl hgood
  obtain ⟨p0, p1, p2, p3, p4, p5, hpl⟩ : ∃ a b c d e f, nmCells p = #[.int .u8 a, .int .u64 b, .int .u64 c, .int .u64 d, .int .u64 e, .int .u64 f] := ⟨_, _, _, _, _, _, rfl⟩
  have HPL := Lib.hid hpl
  clear hpl
  go_enter Tryz.func31, Tryz.ntmps31
  go_wp2_with (go_at_call 35; fail)
  rw [show (w.alloc (.cells (nmCells x) 63)).alloc (.cells (nmCells y) 63) = wb from HWB.out.symm, show w.heap.size + 1 = g4 from HGQ4.out.symm, show w.heap.size = g3 from HGQ3.out.symm]
  refine (parse_lit _ s p ok (by have := HL.out; omega) (HE.out.ext HX.out) HPP.out).mono ?_
  rintro e w1 ⟨rfl, hx1⟩
  obtain ⟨wz, hwz⟩ : ∃ u, u = w1.alloc (.cells (nmCells p) 63) := ⟨_, rfl⟩
  obtain ⟨g7, hg7⟩ : ∃ g, g = w1.heap.size := ⟨_, rfl⟩
  have hxz : Ext w1 wz := by rw [hwz]; exact (Upd.refl _ _).alloc _
  have HG7 := Lib.hid (show wz.heap[g7]? = some (.cells (nmCells p) 63) by rw [hg7, hwz]; exact newAt _ _)
  have HG3 := Lib.hid ((hx1.trans hxz).at_ HB3.out id)
  have HG4 := Lib.hid ((hx1.trans hxz).at_ HB4.out id)
  have HXZ := Lib.hid ((HX.out.trans hx1).trans hxz)
  have HEZ := Lib.hid (HE.out.ext HXZ.out)
  have HWZ := Lib.hid hwz
  have HGQ7 := Lib.hid hg7
  clear hx1 hxz hwz hg7
  rw [HPL.out]
  go_upto_region 4 with (fail)
  rw [← HPL.out, show w1.alloc (.cells (nmCells p) 63) = wz from HWZ.out.symm, show w1.heap.size = g7 from HGQ7.out.symm]
  cases ok
  case false =>
    go_upto_region 6 with (fail)
    have HG3q := HG3
    have HG4q := HG4
    have HXq := HXZ
    obtain ⟨mx, hmx⟩ : ∃ b, b = mayF x := ⟨_, rfl⟩
    have HMX := Lib.hid hmx
    clear hmx
    go_wp2_with (refine wpList_load_blk_g rfl _ _ rfl rfl HG3q.out (Tryz.nmT x) ?_)
    refine (may_any _ x).mono ?_
    rintro e wc ⟨rfl, hc⟩
    rw [← HMX.out]
    have HG3c := Lib.hid (hc.at_ HG3q.out id)
    have HG4c := Lib.hid (hc.at_ HG4q.out id)
    have HXc := Lib.hid (HXq.out.trans hc)
    have HEc := Lib.hid (HE.out.ext HXc.out)
    clear hc
    cases mx
    case false =>
      go_wp2_with (refine wpList_load_blk_g rfl _ _ rfl rfl HG3c.out (Tryz.nmT x) ?_)
      refine (put_any _ x HWX.out HEc.out.tab).mono ?_
      rintro e wd ⟨rfl, hd⟩
      rw [show putF x = [] from by unfold putF; rw [← HMX.out]; rfl]
      have HXd := Lib.hid (HXc.out.trans hd)
      clear hd
      go_wp2_with (go_at_call 25; fail)
      refine (works_any _ (HE.out.ext HXd.out)).mono ?_
      rintro e we ⟨rfl, he⟩
      have HXe := Lib.hid (HXd.out.trans he)
      clear he
      go_wp2
      go_ret
      exact ⟨rfl, HXe.out⟩
    case true =>
      have hpx := parse_put HMX.out.symm HWX.out
      have hDl : (putF x).length ≤ 1000000 := by
        rw [← accF_all HMX.out.symm]
        have := accF_len HWX.out (k := (numsF x).length) (by rw [numsF_length]; exact (countF_le _).2)
        have h2 := (countF_le x.kind).2
        rw [numsF_length] at this ⊢; omega
      have HPX := Lib.hid hpx
      have HDL := Lib.hid hDl
      clear hpx hDl
      go_wp2_with (first | (refine wpList_load_blk_g rfl _ _ rfl rfl HG3c.out (Tryz.nmT x) ?_) | (go_at_call 52; fail))
      refine (put_any _ x HWX.out HEc.out.tab).mono ?_
      rintro e wd ⟨rfl, hd⟩
      have HXd := Lib.hid (HXc.out.trans hd)
      obtain ⟨px, hpx⟩ : ∃ l, l = putF x := ⟨_, rfl⟩
      rw [← hpx]
      have HPQ := Lib.hid hpx
      clear hpx
      go_wp2_with (go_at_call 35; fail)
      refine (parse_lit _ px x true (by rw [HPQ.out]; exact HDL.out) (HE.out.ext HXd.out) (by rw [HPQ.out]; exact HPX.out)).mono ?_
      rintro e we ⟨rfl, he⟩
      obtain ⟨wf, hwf⟩ : ∃ u, u = we.alloc (.cells (nmCells x) 63) := ⟨_, rfl⟩
      obtain ⟨g9, hg9⟩ : ∃ g, g = we.heap.size := ⟨_, rfl⟩
      have hxf : Ext we wf := by rw [hwf]; exact (Upd.refl _ _).alloc _
      have HG9 := Lib.hid (show wf.heap[g9]? = some (.cells (nmCells x) 63) by rw [hg9, hwf]; exact newAt _ _)
      have HG3f := Lib.hid (hxf.at_ (he.at_ (hd.at_ HG3c.out id) id) id)
      have HG4f := Lib.hid (hxf.at_ (he.at_ (hd.at_ HG4c.out id) id) id)
      have HXF := Lib.hid (HXd.out.trans (he.trans hxf))
      have HWF := Lib.hid hwf
      have HGQ9 := Lib.hid hg9
      clear hd he hxf hwf hg9
      obtain ⟨q0, q1, q2, q3, q4, q5, hxl⟩ : ∃ a b c d e f, nmCells x = #[.int .u8 a, .int .u64 b, .int .u64 c, .int .u64 d, .int .u64 e, .int .u64 f] := ⟨_, _, _, _, _, _, rfl⟩
      have HXL := Lib.hid hxl
      clear hxl
      rw [HXL.out]
      go_upto_region 9 with (fail)
      rw [← HXL.out, show we.alloc (.cells (nmCells x) 63) = wf from HWF.out.symm, show we.heap.size = g9 from HGQ9.out.symm]
      go_upto_region 11 with (first | (refine wpList_load_blk_g rfl _ _ rfl rfl HG9.out (Tryz.nmT x) ?_) | (refine wpList_load_blk_g rfl _ _ rfl rfl HG3f.out (Tryz.nmT x) ?_) | (refine wpList_neq_nm rfl _ _ rfl rfl rfl ?_; rw [eqB_self]))
      have HG3 := HG3f
      have HG4 := HG4f
      have HEE := Lib.hid (HE.out.ext HXF.out)
      have HCE := Lib.hid (ce_eq x y)
      have HNG := Lib.hid (ng_eq x y)
      obtain ⟨my, hmy⟩ : ∃ b, b = mayF y := ⟨_, rfl⟩
      have HMY := Lib.hid hmy
      clear hmy
      cases my
      case false =>
        refine wp_region_invH Nothing (fun _ => Ext) 1000 nbkNDst (nbkNPhi x y g3 g4) 91 (by kernel_rfl) (by decide) (by decide) rfl (fun i hi => .inl ((by decide : ∀ i, i < 38 → nbkNDst i < 91) i hi)) (fun i w w' h => ⟨h, fun _ => h⟩) (fun i j v w w' _ _ _ _ h hu => h.ext hu) ?_ ?_
        · intro i o b' w1' ho hx1' hd hk hE hSZ
          have hi : i < 38 := (Array.getElem?_eq_some_iff.1 ho).1
          have his : i = 0 ∨ i = 1 ∨ i = 2 ∨ i = 3 ∨ i = 4 ∨ i = 5 ∨ i = 6 ∨ i = 7 ∨ i = 8 ∨ i = 9 ∨ i = 10 ∨ i = 11 ∨ i = 12 ∨ i = 13 ∨ i = 14 ∨ i = 15 ∨ i = 16 ∨ i = 17 ∨ i = 18 ∨ i = 19 ∨ i = 20 ∨ i = 21 ∨ i = 22 ∨ i = 23 ∨ i = 24 ∨ i = 25 ∨ i = 26 ∨ i = 27 ∨ i = 28 ∨ i = 29 ∨ i = 30 ∨ i = 31 ∨ i = 32 ∨ i = 33 ∨ i = 34 ∨ i = 35 ∨ i = 36 ∨ i = 37 := by omega
          clear hE hSZ
          have HW1 := Lib.hid hx1'
          clear hx1'
          rcases his with rfl | rfl | rfl | rfl | rfl | rfl | rfl | rfl | rfl | rfl | rfl | rfl | rfl | rfl | rfl | rfl | rfl | rfl | rfl | rfl | rfl | rfl | rfl | rfl | rfl | rfl | rfl | rfl | rfl | rfl | rfl | rfl | rfl | rfl | rfl | rfl | rfl | rfl
          all_goals (simp at ho; subst ho)
          case inl =>
            refine .inl ⟨by simp [Region.wanted], ?_⟩
            have o4 : b'.eval (.tmp 4) = .pointer (some ⟨g4, 0, none⟩) := by
              have := hk 4 (fun j oj _ e => (nbkNDst_ne (by decide) e).elim)
              simpa [Act.eval] using this
            have hg1 := HW1.out.at_ HG4.out id
            exact wp_load_mid (w := w1') 63 (.tmp 4) rfl g4 0 o4 (nmCells y).toList _ (fun j u hj => by have := cellAt hg1 j u (by simpa using hj); simpa using this) Tryz.underlying63 rfl (by kernel_rfl) ⟨_, rfl, rfl, Upd.refl _ _⟩
          case inr.inl =>
            refine .inl ⟨by simp [Region.wanted], ?_⟩
            have e0 : b'.tmps[54]?.getD undef = .agg (nmCells y) := by have := (show b'.tmps.getD 54 undef = .agg (nmCells y) from hd ⟨0, .data⟩ (by simp) rfl); simpa using this
            clear hd hk
            go_step
            refine (may_any w1' y).mono ?_
            rintro e w2 ⟨rfl, hu⟩
            exact ⟨_, rfl, (show Value.bool (mayF y) = .bool false from by rw [← HMY.out]), hu⟩
          case inr.inr.inl =>
            refine .inl ⟨by simp [Region.wanted], ?_⟩
            have e1 : b'.tmps[55]?.getD undef = .bool false := by have := (show b'.tmps.getD 55 undef = .bool false from hd ⟨1, .data⟩ (by simp) rfl); simpa using this
            clear hd hk
            go_step
            exact ⟨_, rfl, rfl, Upd.refl _ _⟩
          case inr.inr.inr.inl =>
            refine .inl ⟨by simp [Region.wanted], ?_⟩
            have e2 : b'.tmps[56]?.getD undef = .bool true := by have := (show b'.tmps.getD 56 undef = .bool true from hd ⟨2, .data⟩ (by simp) rfl); simpa using this
            clear hd hk
            go_step
            exact ⟨_, rfl, rfl, Upd.refl _ _⟩
          case inr.inr.inr.inr.inl =>
            refine .inr ⟨by
              have := tmp_some (show b'.tmps.getD 57 undef = .bool true from hd ⟨3, .guard⟩ (by simp) rfl)
              simp [Region.wanted, yielded, this], rfl, rfl, Upd.refl _ _⟩
          case inr.inr.inr.inr.inr.inl =>
            refine .inr ⟨by
              have := tmp_some (show b'.tmps.getD 57 undef = .bool true from hd ⟨3, .guard⟩ (by simp) rfl)
              simp [Region.wanted, yielded, this], rfl, rfl, Upd.refl _ _⟩
          case inr.inr.inr.inr.inr.inr.inl =>
            refine .inr ⟨by
              have := tmp_some (show b'.tmps.getD 57 undef = .bool true from hd ⟨3, .guard⟩ (by simp) rfl)
              simp [Region.wanted, yielded, this], rfl, rfl, Upd.refl _ _⟩
          case inr.inr.inr.inr.inr.inr.inr.inl =>
            refine .inr ⟨by
              have := tmp_some (show b'.tmps.getD 57 undef = .bool true from hd ⟨3, .guard⟩ (by simp) rfl)
              simp [Region.wanted, yielded, this], rfl, rfl, Upd.refl _ _⟩
          case inr.inr.inr.inr.inr.inr.inr.inr.inl =>
            refine .inr ⟨by
              have := tmp_some (show b'.tmps.getD 57 undef = .bool true from hd ⟨3, .guard⟩ (by simp) rfl)
              simp [Region.wanted, yielded, this], rfl, rfl, Upd.refl _ _⟩
          case inr.inr.inr.inr.inr.inr.inr.inr.inr.inl =>
            refine .inr ⟨by
              have := tmp_some (show b'.tmps.getD 57 undef = .bool true from hd ⟨3, .guard⟩ (by simp) rfl)
              simp [Region.wanted, yielded, this], rfl, rfl, Upd.refl _ _⟩
          case inr.inr.inr.inr.inr.inr.inr.inr.inr.inr.inl =>
            refine .inr ⟨by
              have := tmp_some (show b'.tmps.getD 57 undef = .bool true from hd ⟨3, .guard⟩ (by simp) rfl)
              simp [Region.wanted, yielded, this], rfl, rfl, Upd.refl _ _⟩
          case inr.inr.inr.inr.inr.inr.inr.inr.inr.inr.inr.inl =>
            refine .inr ⟨by
              have := tmp_some (show b'.tmps.getD 57 undef = .bool true from hd ⟨3, .guard⟩ (by simp) rfl)
              simp [Region.wanted, yielded, this], rfl, rfl, Upd.refl _ _⟩
          case inr.inr.inr.inr.inr.inr.inr.inr.inr.inr.inr.inr.inl =>
            refine .inr ⟨by
              have := tmp_some (show b'.tmps.getD 57 undef = .bool true from hd ⟨3, .guard⟩ (by simp) rfl)
              simp [Region.wanted, yielded, this], rfl, rfl, Upd.refl _ _⟩
          case inr.inr.inr.inr.inr.inr.inr.inr.inr.inr.inr.inr.inr.inl =>
            refine .inr ⟨by
              have := tmp_some (show b'.tmps.getD 57 undef = .bool true from hd ⟨3, .guard⟩ (by simp) rfl)
              simp [Region.wanted, yielded, this], rfl, rfl, Upd.refl _ _⟩
          case inr.inr.inr.inr.inr.inr.inr.inr.inr.inr.inr.inr.inr.inr.inl =>
            refine .inr ⟨by
              have := (show b'.tmps.getD 67 undef = undef from hd ⟨13, .guard⟩ (by simp) rfl)
              cases hq : b'.tmps[67]? with
              | none => simp [Region.wanted, yielded, hq]
              | some u =>
                obtain rfl : u = undef := by simpa [hq] using this
                simp [Region.wanted, yielded, hq, undef], rfl, rfl, Upd.refl _ _⟩
          case inr.inr.inr.inr.inr.inr.inr.inr.inr.inr.inr.inr.inr.inr.inr.inl =>
            refine .inr ⟨by
              have := (show b'.tmps.getD 67 undef = undef from hd ⟨13, .guard⟩ (by simp) rfl)
              cases hq : b'.tmps[67]? with
              | none => simp [Region.wanted, yielded, hq]
              | some u =>
                obtain rfl : u = undef := by simpa [hq] using this
                simp [Region.wanted, yielded, hq, undef], rfl, rfl, Upd.refl _ _⟩
          case inr.inr.inr.inr.inr.inr.inr.inr.inr.inr.inr.inr.inr.inr.inr.inr.inl =>
            refine .inr ⟨by
              have := (show b'.tmps.getD 67 undef = undef from hd ⟨13, .guard⟩ (by simp) rfl)
              cases hq : b'.tmps[67]? with
              | none => simp [Region.wanted, yielded, hq]
              | some u =>
                obtain rfl : u = undef := by simpa [hq] using this
                simp [Region.wanted, yielded, hq, undef], rfl, rfl, Upd.refl _ _⟩
          case inr.inr.inr.inr.inr.inr.inr.inr.inr.inr.inr.inr.inr.inr.inr.inr.inr.inl =>
            refine .inr ⟨by
              have := (show b'.tmps.getD 67 undef = undef from hd ⟨13, .guard⟩ (by simp) rfl)
              cases hq : b'.tmps[67]? with
              | none => simp [Region.wanted, yielded, hq]
              | some u =>
                obtain rfl : u = undef := by simpa [hq] using this
                simp [Region.wanted, yielded, hq, undef], rfl, rfl, Upd.refl _ _⟩
          case inr.inr.inr.inr.inr.inr.inr.inr.inr.inr.inr.inr.inr.inr.inr.inr.inr.inr.inl =>
            refine .inr ⟨by
              have := (show b'.tmps.getD 67 undef = undef from hd ⟨13, .guard⟩ (by simp) rfl)
              cases hq : b'.tmps[67]? with
              | none => simp [Region.wanted, yielded, hq]
              | some u =>
                obtain rfl : u = undef := by simpa [hq] using this
                simp [Region.wanted, yielded, hq, undef], rfl, rfl, Upd.refl _ _⟩
          case inr.inr.inr.inr.inr.inr.inr.inr.inr.inr.inr.inr.inr.inr.inr.inr.inr.inr.inr.inl =>
            refine .inr ⟨by
              have := (show b'.tmps.getD 67 undef = undef from hd ⟨13, .guard⟩ (by simp) rfl)
              cases hq : b'.tmps[67]? with
              | none => simp [Region.wanted, yielded, hq]
              | some u =>
                obtain rfl : u = undef := by simpa [hq] using this
                simp [Region.wanted, yielded, hq, undef], rfl, rfl, Upd.refl _ _⟩
          case inr.inr.inr.inr.inr.inr.inr.inr.inr.inr.inr.inr.inr.inr.inr.inr.inr.inr.inr.inr.inl =>
            refine .inr ⟨by
              have := (show b'.tmps.getD 67 undef = undef from hd ⟨13, .guard⟩ (by simp) rfl)
              cases hq : b'.tmps[67]? with
              | none => simp [Region.wanted, yielded, hq]
              | some u =>
                obtain rfl : u = undef := by simpa [hq] using this
                simp [Region.wanted, yielded, hq, undef], rfl, rfl, Upd.refl _ _⟩
          case inr.inr.inr.inr.inr.inr.inr.inr.inr.inr.inr.inr.inr.inr.inr.inr.inr.inr.inr.inr.inr.inl =>
            refine .inr ⟨by
              have := (show b'.tmps.getD 67 undef = undef from hd ⟨13, .guard⟩ (by simp) rfl)
              cases hq : b'.tmps[67]? with
              | none => simp [Region.wanted, yielded, hq]
              | some u =>
                obtain rfl : u = undef := by simpa [hq] using this
                simp [Region.wanted, yielded, hq, undef], rfl, rfl, Upd.refl _ _⟩
          case inr.inr.inr.inr.inr.inr.inr.inr.inr.inr.inr.inr.inr.inr.inr.inr.inr.inr.inr.inr.inr.inr.inl =>
            refine .inr ⟨by
              have := tmp_some (show b'.tmps.getD 57 undef = .bool true from hd ⟨3, .guard⟩ (by simp) rfl)
              simp [Region.wanted, yielded, this], rfl, rfl, Upd.refl _ _⟩
          case inr.inr.inr.inr.inr.inr.inr.inr.inr.inr.inr.inr.inr.inr.inr.inr.inr.inr.inr.inr.inr.inr.inr.inl =>
            refine .inr ⟨by
              have := tmp_some (show b'.tmps.getD 57 undef = .bool true from hd ⟨3, .guard⟩ (by simp) rfl)
              simp [Region.wanted, yielded, this], rfl, rfl, Upd.refl _ _⟩
          case inr.inr.inr.inr.inr.inr.inr.inr.inr.inr.inr.inr.inr.inr.inr.inr.inr.inr.inr.inr.inr.inr.inr.inr.inl =>
            refine .inr ⟨by
              have := (show b'.tmps.getD 77 undef = undef from hd ⟨23, .guard⟩ (by simp) rfl)
              cases hq : b'.tmps[77]? with
              | none => simp [Region.wanted, yielded, hq]
              | some u =>
                obtain rfl : u = undef := by simpa [hq] using this
                simp [Region.wanted, yielded, hq, undef], rfl, rfl, Upd.refl _ _⟩
          case inr.inr.inr.inr.inr.inr.inr.inr.inr.inr.inr.inr.inr.inr.inr.inr.inr.inr.inr.inr.inr.inr.inr.inr.inr.inl =>
            refine .inr ⟨by
              have := (show b'.tmps.getD 77 undef = undef from hd ⟨23, .guard⟩ (by simp) rfl)
              cases hq : b'.tmps[77]? with
              | none => simp [Region.wanted, yielded, hq]
              | some u =>
                obtain rfl : u = undef := by simpa [hq] using this
                simp [Region.wanted, yielded, hq, undef], rfl, rfl, Upd.refl _ _⟩
          case inr.inr.inr.inr.inr.inr.inr.inr.inr.inr.inr.inr.inr.inr.inr.inr.inr.inr.inr.inr.inr.inr.inr.inr.inr.inr.inl =>
            refine .inr ⟨by
              have := (show b'.tmps.getD 77 undef = undef from hd ⟨23, .guard⟩ (by simp) rfl)
              cases hq : b'.tmps[77]? with
              | none => simp [Region.wanted, yielded, hq]
              | some u =>
                obtain rfl : u = undef := by simpa [hq] using this
                simp [Region.wanted, yielded, hq, undef], rfl, rfl, Upd.refl _ _⟩
          case inr.inr.inr.inr.inr.inr.inr.inr.inr.inr.inr.inr.inr.inr.inr.inr.inr.inr.inr.inr.inr.inr.inr.inr.inr.inr.inr.inl =>
            refine .inr ⟨by
              have := (show b'.tmps.getD 77 undef = undef from hd ⟨23, .guard⟩ (by simp) rfl)
              cases hq : b'.tmps[77]? with
              | none => simp [Region.wanted, yielded, hq]
              | some u =>
                obtain rfl : u = undef := by simpa [hq] using this
                simp [Region.wanted, yielded, hq, undef], rfl, rfl, Upd.refl _ _⟩
          case inr.inr.inr.inr.inr.inr.inr.inr.inr.inr.inr.inr.inr.inr.inr.inr.inr.inr.inr.inr.inr.inr.inr.inr.inr.inr.inr.inr.inl =>
            refine .inr ⟨by
              have := (show b'.tmps.getD 77 undef = undef from hd ⟨23, .guard⟩ (by simp) rfl)
              cases hq : b'.tmps[77]? with
              | none => simp [Region.wanted, yielded, hq]
              | some u =>
                obtain rfl : u = undef := by simpa [hq] using this
                simp [Region.wanted, yielded, hq, undef], rfl, rfl, Upd.refl _ _⟩
          case inr.inr.inr.inr.inr.inr.inr.inr.inr.inr.inr.inr.inr.inr.inr.inr.inr.inr.inr.inr.inr.inr.inr.inr.inr.inr.inr.inr.inr.inl =>
            refine .inr ⟨by
              have := (show b'.tmps.getD 77 undef = undef from hd ⟨23, .guard⟩ (by simp) rfl)
              cases hq : b'.tmps[77]? with
              | none => simp [Region.wanted, yielded, hq]
              | some u =>
                obtain rfl : u = undef := by simpa [hq] using this
                simp [Region.wanted, yielded, hq, undef], rfl, rfl, Upd.refl _ _⟩
          case inr.inr.inr.inr.inr.inr.inr.inr.inr.inr.inr.inr.inr.inr.inr.inr.inr.inr.inr.inr.inr.inr.inr.inr.inr.inr.inr.inr.inr.inr.inl =>
            refine .inr ⟨by
              have := (show b'.tmps.getD 77 undef = undef from hd ⟨23, .guard⟩ (by simp) rfl)
              cases hq : b'.tmps[77]? with
              | none => simp [Region.wanted, yielded, hq]
              | some u =>
                obtain rfl : u = undef := by simpa [hq] using this
                simp [Region.wanted, yielded, hq, undef], rfl, rfl, Upd.refl _ _⟩
          case inr.inr.inr.inr.inr.inr.inr.inr.inr.inr.inr.inr.inr.inr.inr.inr.inr.inr.inr.inr.inr.inr.inr.inr.inr.inr.inr.inr.inr.inr.inr.inl =>
            refine .inr ⟨by
              have := (show b'.tmps.getD 77 undef = undef from hd ⟨23, .guard⟩ (by simp) rfl)
              cases hq : b'.tmps[77]? with
              | none => simp [Region.wanted, yielded, hq]
              | some u =>
                obtain rfl : u = undef := by simpa [hq] using this
                simp [Region.wanted, yielded, hq, undef], rfl, rfl, Upd.refl _ _⟩
          case inr.inr.inr.inr.inr.inr.inr.inr.inr.inr.inr.inr.inr.inr.inr.inr.inr.inr.inr.inr.inr.inr.inr.inr.inr.inr.inr.inr.inr.inr.inr.inr.inl =>
            refine .inr ⟨by
              have := tmp_some (show b'.tmps.getD 57 undef = .bool true from hd ⟨3, .guard⟩ (by simp) rfl)
              simp [Region.wanted, yielded, this], rfl, rfl, Upd.refl _ _⟩
          case inr.inr.inr.inr.inr.inr.inr.inr.inr.inr.inr.inr.inr.inr.inr.inr.inr.inr.inr.inr.inr.inr.inr.inr.inr.inr.inr.inr.inr.inr.inr.inr.inr.inl =>
            refine .inl ⟨by simp [Region.wanted], ?_⟩
            have e3 : b'.tmps[57]?.getD undef = .bool true := by have := (show b'.tmps.getD 57 undef = .bool true from hd ⟨3, .data⟩ (by simp) rfl); simpa using this
            have e32 : b'.tmps[86]?.getD undef = undef := by have := (show b'.tmps.getD 86 undef = undef from hd ⟨32, .data⟩ (by simp) rfl); simpa using this
            clear hd hk
            go_step
            exact ⟨_, rfl, rfl, Upd.refl _ _⟩
          case inr.inr.inr.inr.inr.inr.inr.inr.inr.inr.inr.inr.inr.inr.inr.inr.inr.inr.inr.inr.inr.inr.inr.inr.inr.inr.inr.inr.inr.inr.inr.inr.inr.inr.inl =>
            refine .inl ⟨by simp [Region.wanted], ?_⟩
            have e33 : b'.tmps[87]?.getD undef = .bool true := by have := (show b'.tmps.getD 87 undef = .bool true from hd ⟨33, .data⟩ (by simp) rfl); simpa using this
            clear hd hk
            go_step
            exact ⟨_, rfl, rfl, Upd.refl _ _⟩
          case inr.inr.inr.inr.inr.inr.inr.inr.inr.inr.inr.inr.inr.inr.inr.inr.inr.inr.inr.inr.inr.inr.inr.inr.inr.inr.inr.inr.inr.inr.inr.inr.inr.inr.inr.inl =>
            refine .inl ⟨by
              have := tmp_some (show b'.tmps.getD 88 undef = .bool true from hd ⟨34, .guard⟩ (by simp) rfl)
              simp [Region.wanted, yielded, this], ?_⟩
            clear hd hk
            go_step
            refine (works_any w1' (HEE.out.ext HW1.out)).mono ?_
            rintro e w2 ⟨rfl, hu⟩
            exact ⟨_, rfl, rfl, hu⟩
          case inr.inr.inr.inr.inr.inr.inr.inr.inr.inr.inr.inr.inr.inr.inr.inr.inr.inr.inr.inr.inr.inr.inr.inr.inr.inr.inr.inr.inr.inr.inr.inr.inr.inr.inr.inr.inl =>
            refine .inl ⟨by simp [Region.wanted], ?_⟩
            have e34 : b'.tmps[88]?.getD undef = .bool true := by have := (show b'.tmps.getD 88 undef = .bool true from hd ⟨34, .data⟩ (by simp) rfl); simpa using this
            have e35 : b'.tmps[89]?.getD undef = .bool true := by have := (show b'.tmps.getD 89 undef = .bool true from hd ⟨35, .data⟩ (by simp) rfl); simpa using this
            clear hd hk
            go_step
            exact ⟨_, rfl, rfl, Upd.refl _ _⟩
          case inr.inr.inr.inr.inr.inr.inr.inr.inr.inr.inr.inr.inr.inr.inr.inr.inr.inr.inr.inr.inr.inr.inr.inr.inr.inr.inr.inr.inr.inr.inr.inr.inr.inr.inr.inr.inr =>
            refine .inl ⟨by simp [Region.wanted], ?_⟩
            have e36 : b'.tmps[90]?.getD undef = .bool true := by have := (show b'.tmps.getD 90 undef = .bool true from hd ⟨36, .data⟩ (by simp) rfl); simpa using this
            clear hd hk
            go_step
            exact ⟨_, rfl, rfl, Upd.refl _ _⟩
        · intro v w1' hx1' hp
          have h37 : v 37 = .bool true := hp 37 (by decide)
          have HX8 := Lib.hid (HXF.out.trans hx1')
          clear hp hx1'
          simp only [List.size_toArray, List.length_cons, List.length_nil, Nat.reduceAdd, fillAll, nbkNDst]
          go_simp
          go_wp2
          go_ret
          exact ⟨rfl, HX8.out⟩
      case true =>
        have HPE := Lib.hid (pe_eq HMX.out.symm HMY.out.symm HWX.out HWY.out)
        refine wp_region_invH Nothing (fun _ => Ext) 1000 nbkYDst (nbkYPhi x y g3 g4) 91 (by kernel_rfl) (by decide) (by decide) rfl (fun i hi => .inl ((by decide : ∀ i, i < 38 → nbkYDst i < 91) i hi)) (fun i w w' h => ⟨h, fun _ => h⟩) (fun i j v w w' _ _ _ _ h hu => h.ext hu) ?_ ?_
        · intro i o b' w1' ho hx1' hd hk hE hSZ
          have hi : i < 38 := (Array.getElem?_eq_some_iff.1 ho).1
          have his : i = 0 ∨ i = 1 ∨ i = 2 ∨ i = 3 ∨ i = 4 ∨ i = 5 ∨ i = 6 ∨ i = 7 ∨ i = 8 ∨ i = 9 ∨ i = 10 ∨ i = 11 ∨ i = 12 ∨ i = 13 ∨ i = 14 ∨ i = 15 ∨ i = 16 ∨ i = 17 ∨ i = 18 ∨ i = 19 ∨ i = 20 ∨ i = 21 ∨ i = 22 ∨ i = 23 ∨ i = 24 ∨ i = 25 ∨ i = 26 ∨ i = 27 ∨ i = 28 ∨ i = 29 ∨ i = 30 ∨ i = 31 ∨ i = 32 ∨ i = 33 ∨ i = 34 ∨ i = 35 ∨ i = 36 ∨ i = 37 := by omega
          clear hE hSZ
          have HW1 := Lib.hid hx1'
          clear hx1'
          rcases his with rfl | rfl | rfl | rfl | rfl | rfl | rfl | rfl | rfl | rfl | rfl | rfl | rfl | rfl | rfl | rfl | rfl | rfl | rfl | rfl | rfl | rfl | rfl | rfl | rfl | rfl | rfl | rfl | rfl | rfl | rfl | rfl | rfl | rfl | rfl | rfl | rfl | rfl
          all_goals (simp at ho; subst ho)
          case inl =>
            refine .inl ⟨by simp [Region.wanted], ?_⟩
            have o4 : b'.eval (.tmp 4) = .pointer (some ⟨g4, 0, none⟩) := by
              have := hk 4 (fun j oj _ e => (nbkYDst_ne (by decide) e).elim)
              simpa [Act.eval] using this
            have hg1 := HW1.out.at_ HG4.out id
            exact wp_load_mid (w := w1') 63 (.tmp 4) rfl g4 0 o4 (nmCells y).toList _ (fun j u hj => by have := cellAt hg1 j u (by simpa using hj); simpa using this) Tryz.underlying63 rfl (by kernel_rfl) ⟨_, rfl, rfl, Upd.refl _ _⟩
          case inr.inl =>
            refine .inl ⟨by simp [Region.wanted], ?_⟩
            have e0 : b'.tmps[54]?.getD undef = .agg (nmCells y) := by have := (show b'.tmps.getD 54 undef = .agg (nmCells y) from hd ⟨0, .data⟩ (by simp) rfl); simpa using this
            clear hd hk
            go_step
            refine (may_any w1' y).mono ?_
            rintro e w2 ⟨rfl, hu⟩
            exact ⟨_, rfl, (show Value.bool (mayF y) = .bool true from by rw [← HMY.out]), hu⟩
          case inr.inr.inl =>
            refine .inl ⟨by simp [Region.wanted], ?_⟩
            have e1 : b'.tmps[55]?.getD undef = .bool true := by have := (show b'.tmps.getD 55 undef = .bool true from hd ⟨1, .data⟩ (by simp) rfl); simpa using this
            clear hd hk
            go_step
            exact ⟨_, rfl, rfl, Upd.refl _ _⟩
          case inr.inr.inr.inl =>
            refine .inl ⟨by simp [Region.wanted], ?_⟩
            have e2 : b'.tmps[56]?.getD undef = .bool false := by have := (show b'.tmps.getD 56 undef = .bool false from hd ⟨2, .data⟩ (by simp) rfl); simpa using this
            clear hd hk
            go_step
            exact ⟨_, rfl, rfl, Upd.refl _ _⟩
          case inr.inr.inr.inr.inl =>
            refine .inl ⟨by
              have := tmp_some (show b'.tmps.getD 57 undef = .bool false from hd ⟨3, .guard⟩ (by simp) rfl)
              simp [Region.wanted, yielded, this], ?_⟩
            have o3 : b'.eval (.tmp 3) = .pointer (some ⟨g3, 0, none⟩) := by
              have := hk 3 (fun j oj _ e => (nbkYDst_ne (by decide) e).elim)
              simpa [Act.eval] using this
            have hg1 := HW1.out.at_ HG3.out id
            exact wp_load_mid (w := w1') 63 (.tmp 3) rfl g3 0 o3 (nmCells x).toList _ (fun j u hj => by have := cellAt hg1 j u (by simpa using hj); simpa using this) Tryz.underlying63 rfl (by kernel_rfl) ⟨_, rfl, rfl, Upd.refl _ _⟩
          case inr.inr.inr.inr.inr.inl =>
            refine .inl ⟨by
              have := tmp_some (show b'.tmps.getD 57 undef = .bool false from hd ⟨3, .guard⟩ (by simp) rfl)
              simp [Region.wanted, yielded, this], ?_⟩
            have e4 : b'.tmps[58]?.getD undef = .agg (nmCells x) := by have := (show b'.tmps.getD 58 undef = .agg (nmCells x) from hd ⟨4, .data⟩ (by simp) rfl); simpa using this
            clear hd hk
            go_step
            refine (put_any w1' x HWX.out (HEE.out.ext HW1.out).tab).mono ?_
            rintro e w2 ⟨rfl, hu⟩
            exact ⟨_, rfl, rfl, hu⟩
          case inr.inr.inr.inr.inr.inr.inl =>
            refine .inl ⟨by
              have := tmp_some (show b'.tmps.getD 57 undef = .bool false from hd ⟨3, .guard⟩ (by simp) rfl)
              simp [Region.wanted, yielded, this], ?_⟩
            have o4 : b'.eval (.tmp 4) = .pointer (some ⟨g4, 0, none⟩) := by
              have := hk 4 (fun j oj _ e => (nbkYDst_ne (by decide) e).elim)
              simpa [Act.eval] using this
            have hg1 := HW1.out.at_ HG4.out id
            exact wp_load_mid (w := w1') 63 (.tmp 4) rfl g4 0 o4 (nmCells y).toList _ (fun j u hj => by have := cellAt hg1 j u (by simpa using hj); simpa using this) Tryz.underlying63 rfl (by kernel_rfl) ⟨_, rfl, rfl, Upd.refl _ _⟩
          case inr.inr.inr.inr.inr.inr.inr.inl =>
            refine .inl ⟨by
              have := tmp_some (show b'.tmps.getD 57 undef = .bool false from hd ⟨3, .guard⟩ (by simp) rfl)
              simp [Region.wanted, yielded, this], ?_⟩
            have e6 : b'.tmps[60]?.getD undef = .agg (nmCells y) := by have := (show b'.tmps.getD 60 undef = .agg (nmCells y) from hd ⟨6, .data⟩ (by simp) rfl); simpa using this
            clear hd hk
            go_step
            refine (put_any w1' y HWY.out (HEE.out.ext HW1.out).tab).mono ?_
            rintro e w2 ⟨rfl, hu⟩
            exact ⟨_, rfl, rfl, hu⟩
          case inr.inr.inr.inr.inr.inr.inr.inr.inl =>
            refine .inl ⟨by
              have := tmp_some (show b'.tmps.getD 57 undef = .bool false from hd ⟨3, .guard⟩ (by simp) rfl)
              simp [Region.wanted, yielded, this], ?_⟩
            have e5 : b'.tmps[59]?.getD undef = str (putF x) := by have := (show b'.tmps.getD 59 undef = str (putF x) from hd ⟨5, .data⟩ (by simp) rfl); simpa using this
            have e7 : b'.tmps[61]?.getD undef = str (putF y) := by have := (show b'.tmps.getD 61 undef = str (putF y) from hd ⟨7, .data⟩ (by simp) rfl); simpa using this
            clear hd hk
            go_step
            exact ⟨_, rfl, (show Value.bool _ = .bool (eqB x y) by rw [← HPE.out]), Upd.refl _ _⟩
          case inr.inr.inr.inr.inr.inr.inr.inr.inr.inl =>
            refine .inl ⟨by
              have := tmp_some (show b'.tmps.getD 57 undef = .bool false from hd ⟨3, .guard⟩ (by simp) rfl)
              simp [Region.wanted, yielded, this], ?_⟩
            have o3 : b'.eval (.tmp 3) = .pointer (some ⟨g3, 0, none⟩) := by
              have := hk 3 (fun j oj _ e => (nbkYDst_ne (by decide) e).elim)
              simpa [Act.eval] using this
            have hg1 := HW1.out.at_ HG3.out id
            exact wp_load_mid (w := w1') 63 (.tmp 3) rfl g3 0 o3 (nmCells x).toList _ (fun j u hj => by have := cellAt hg1 j u (by simpa using hj); simpa using this) Tryz.underlying63 rfl (by kernel_rfl) ⟨_, rfl, rfl, Upd.refl _ _⟩
          case inr.inr.inr.inr.inr.inr.inr.inr.inr.inr.inl =>
            refine .inl ⟨by
              have := tmp_some (show b'.tmps.getD 57 undef = .bool false from hd ⟨3, .guard⟩ (by simp) rfl)
              simp [Region.wanted, yielded, this], ?_⟩
            have o4 : b'.eval (.tmp 4) = .pointer (some ⟨g4, 0, none⟩) := by
              have := hk 4 (fun j oj _ e => (nbkYDst_ne (by decide) e).elim)
              simpa [Act.eval] using this
            have hg1 := HW1.out.at_ HG4.out id
            exact wp_load_mid (w := w1') 63 (.tmp 4) rfl g4 0 o4 (nmCells y).toList _ (fun j u hj => by have := cellAt hg1 j u (by simpa using hj); simpa using this) Tryz.underlying63 rfl (by kernel_rfl) ⟨_, rfl, rfl, Upd.refl _ _⟩
          case inr.inr.inr.inr.inr.inr.inr.inr.inr.inr.inr.inl =>
            refine .inl ⟨by
              have := tmp_some (show b'.tmps.getD 57 undef = .bool false from hd ⟨3, .guard⟩ (by simp) rfl)
              simp [Region.wanted, yielded, this], ?_⟩
            have o63 : b'.eval (.tmp 63) = .agg (nmCells x) := by
              have := (show b'.tmps.getD 63 undef = .agg (nmCells x) from hd ⟨9, .data⟩ (by simp) rfl)
              simpa [Act.eval] using this
            have o64 : b'.eval (.tmp 64) = .agg (nmCells y) := by
              have := (show b'.tmps.getD 64 undef = .agg (nmCells y) from hd ⟨10, .data⟩ (by simp) rfl)
              simpa [Act.eval] using this
            exact wp_eql_nm (.tmp 63) (.tmp 64) rfl o63 o64 ⟨_, rfl, rfl, Upd.refl _ _⟩
          case inr.inr.inr.inr.inr.inr.inr.inr.inr.inr.inr.inr.inl =>
            refine .inl ⟨by
              have := tmp_some (show b'.tmps.getD 57 undef = .bool false from hd ⟨3, .guard⟩ (by simp) rfl)
              simp [Region.wanted, yielded, this], ?_⟩
            have e8 : b'.tmps[62]?.getD undef = .bool (eqB x y) := by have := (show b'.tmps.getD 62 undef = .bool (eqB x y) from hd ⟨8, .data⟩ (by simp) rfl); simpa using this
            have e11 : b'.tmps[65]?.getD undef = .bool (eqB x y) := by have := (show b'.tmps.getD 65 undef = .bool (eqB x y) from hd ⟨11, .data⟩ (by simp) rfl); simpa using this
            clear hd hk
            go_step
            exact ⟨_, rfl, (show Value.bool _ = .bool true by simp), Upd.refl _ _⟩
          case inr.inr.inr.inr.inr.inr.inr.inr.inr.inr.inr.inr.inr.inl =>
            refine .inl ⟨by
              have := tmp_some (show b'.tmps.getD 57 undef = .bool false from hd ⟨3, .guard⟩ (by simp) rfl)
              simp [Region.wanted, yielded, this], ?_⟩
            have e12 : b'.tmps[66]?.getD undef = .bool true := by have := (show b'.tmps.getD 66 undef = .bool true from hd ⟨12, .data⟩ (by simp) rfl); simpa using this
            clear hd hk
            go_step
            exact ⟨_, rfl, rfl, Upd.refl _ _⟩
          case inr.inr.inr.inr.inr.inr.inr.inr.inr.inr.inr.inr.inr.inr.inl =>
            refine .inl ⟨by
              have := tmp_some (show b'.tmps.getD 67 undef = .bool true from hd ⟨13, .guard⟩ (by simp) rfl)
              simp [Region.wanted, yielded, this], ?_⟩
            have o3 : b'.eval (.tmp 3) = .pointer (some ⟨g3, 0, none⟩) := by
              have := hk 3 (fun j oj _ e => (nbkYDst_ne (by decide) e).elim)
              simpa [Act.eval] using this
            have hg1 := HW1.out.at_ HG3.out id
            exact wp_load_mid (w := w1') 63 (.tmp 3) rfl g3 0 o3 (nmCells x).toList _ (fun j u hj => by have := cellAt hg1 j u (by simpa using hj); simpa using this) Tryz.underlying63 rfl (by kernel_rfl) ⟨_, rfl, rfl, Upd.refl _ _⟩
          case inr.inr.inr.inr.inr.inr.inr.inr.inr.inr.inr.inr.inr.inr.inr.inl =>
            refine .inl ⟨by
              have := tmp_some (show b'.tmps.getD 67 undef = .bool true from hd ⟨13, .guard⟩ (by simp) rfl)
              simp [Region.wanted, yielded, this], ?_⟩
            have o4 : b'.eval (.tmp 4) = .pointer (some ⟨g4, 0, none⟩) := by
              have := hk 4 (fun j oj _ e => (nbkYDst_ne (by decide) e).elim)
              simpa [Act.eval] using this
            have hg1 := HW1.out.at_ HG4.out id
            exact wp_load_mid (w := w1') 63 (.tmp 4) rfl g4 0 o4 (nmCells y).toList _ (fun j u hj => by have := cellAt hg1 j u (by simpa using hj); simpa using this) Tryz.underlying63 rfl (by kernel_rfl) ⟨_, rfl, rfl, Upd.refl _ _⟩
          case inr.inr.inr.inr.inr.inr.inr.inr.inr.inr.inr.inr.inr.inr.inr.inr.inl =>
            refine .inl ⟨by
              have := tmp_some (show b'.tmps.getD 67 undef = .bool true from hd ⟨13, .guard⟩ (by simp) rfl)
              simp [Region.wanted, yielded, this], ?_⟩
            have e14 : b'.tmps[68]?.getD undef = .agg (nmCells x) := by have := (show b'.tmps.getD 68 undef = .agg (nmCells x) from hd ⟨14, .data⟩ (by simp) rfl); simpa using this
            have e15 : b'.tmps[69]?.getD undef = .agg (nmCells y) := by have := (show b'.tmps.getD 69 undef = .agg (nmCells y) from hd ⟨15, .data⟩ (by simp) rfl); simpa using this
            clear hd hk
            go_step
            refine (compare_any w1' x y HWX.out.kind HWY.out.kind).mono ?_
            rintro e w2 ⟨rfl, hu⟩
            exact ⟨_, rfl, rfl, hu⟩
          case inr.inr.inr.inr.inr.inr.inr.inr.inr.inr.inr.inr.inr.inr.inr.inr.inr.inl =>
            refine .inl ⟨by
              have := tmp_some (show b'.tmps.getD 67 undef = .bool true from hd ⟨13, .guard⟩ (by simp) rfl)
              simp [Region.wanted, yielded, this], ?_⟩
            have e16 : b'.tmps[70]?.getD undef = .int .i64 (orF (cmps x y)) := by have := (show b'.tmps.getD 70 undef = .int .i64 (orF (cmps x y)) from hd ⟨16, .data⟩ (by simp) rfl); simpa using this
            clear hd hk
            go_step
            exact ⟨_, rfl, (show Value.bool _ = .bool (eqB x y) by rw [← HCE.out]), Upd.refl _ _⟩
          case inr.inr.inr.inr.inr.inr.inr.inr.inr.inr.inr.inr.inr.inr.inr.inr.inr.inr.inl =>
            refine .inl ⟨by
              have := tmp_some (show b'.tmps.getD 67 undef = .bool true from hd ⟨13, .guard⟩ (by simp) rfl)
              simp [Region.wanted, yielded, this], ?_⟩
            have o3 : b'.eval (.tmp 3) = .pointer (some ⟨g3, 0, none⟩) := by
              have := hk 3 (fun j oj _ e => (nbkYDst_ne (by decide) e).elim)
              simpa [Act.eval] using this
            have hg1 := HW1.out.at_ HG3.out id
            exact wp_load_mid (w := w1') 63 (.tmp 3) rfl g3 0 o3 (nmCells x).toList _ (fun j u hj => by have := cellAt hg1 j u (by simpa using hj); simpa using this) Tryz.underlying63 rfl (by kernel_rfl) ⟨_, rfl, rfl, Upd.refl _ _⟩
          case inr.inr.inr.inr.inr.inr.inr.inr.inr.inr.inr.inr.inr.inr.inr.inr.inr.inr.inr.inl =>
            refine .inl ⟨by
              have := tmp_some (show b'.tmps.getD 67 undef = .bool true from hd ⟨13, .guard⟩ (by simp) rfl)
              simp [Region.wanted, yielded, this], ?_⟩
            have o4 : b'.eval (.tmp 4) = .pointer (some ⟨g4, 0, none⟩) := by
              have := hk 4 (fun j oj _ e => (nbkYDst_ne (by decide) e).elim)
              simpa [Act.eval] using this
            have hg1 := HW1.out.at_ HG4.out id
            exact wp_load_mid (w := w1') 63 (.tmp 4) rfl g4 0 o4 (nmCells y).toList _ (fun j u hj => by have := cellAt hg1 j u (by simpa using hj); simpa using this) Tryz.underlying63 rfl (by kernel_rfl) ⟨_, rfl, rfl, Upd.refl _ _⟩
          case inr.inr.inr.inr.inr.inr.inr.inr.inr.inr.inr.inr.inr.inr.inr.inr.inr.inr.inr.inr.inl =>
            refine .inl ⟨by
              have := tmp_some (show b'.tmps.getD 67 undef = .bool true from hd ⟨13, .guard⟩ (by simp) rfl)
              simp [Region.wanted, yielded, this], ?_⟩
            have o72 : b'.eval (.tmp 72) = .agg (nmCells x) := by
              have := (show b'.tmps.getD 72 undef = .agg (nmCells x) from hd ⟨18, .data⟩ (by simp) rfl)
              simpa [Act.eval] using this
            have o73 : b'.eval (.tmp 73) = .agg (nmCells y) := by
              have := (show b'.tmps.getD 73 undef = .agg (nmCells y) from hd ⟨19, .data⟩ (by simp) rfl)
              simpa [Act.eval] using this
            exact wp_eql_nm (.tmp 72) (.tmp 73) rfl o72 o73 ⟨_, rfl, rfl, Upd.refl _ _⟩
          case inr.inr.inr.inr.inr.inr.inr.inr.inr.inr.inr.inr.inr.inr.inr.inr.inr.inr.inr.inr.inr.inl =>
            refine .inl ⟨by
              have := tmp_some (show b'.tmps.getD 67 undef = .bool true from hd ⟨13, .guard⟩ (by simp) rfl)
              simp [Region.wanted, yielded, this], ?_⟩
            have e17 : b'.tmps[71]?.getD undef = .bool (eqB x y) := by have := (show b'.tmps.getD 71 undef = .bool (eqB x y) from hd ⟨17, .data⟩ (by simp) rfl); simpa using this
            have e20 : b'.tmps[74]?.getD undef = .bool (eqB x y) := by have := (show b'.tmps.getD 74 undef = .bool (eqB x y) from hd ⟨20, .data⟩ (by simp) rfl); simpa using this
            clear hd hk
            go_step
            exact ⟨_, rfl, (show Value.bool _ = .bool true by simp), Upd.refl _ _⟩
          case inr.inr.inr.inr.inr.inr.inr.inr.inr.inr.inr.inr.inr.inr.inr.inr.inr.inr.inr.inr.inr.inr.inl =>
            refine .inl ⟨by
              have := tmp_some (show b'.tmps.getD 57 undef = .bool false from hd ⟨3, .guard⟩ (by simp) rfl)
              simp [Region.wanted, yielded, this], ?_⟩
            have e13 : b'.tmps[67]?.getD undef = .bool true := by have := (show b'.tmps.getD 67 undef = .bool true from hd ⟨13, .data⟩ (by simp) rfl); simpa using this
            have e21 : b'.tmps[75]?.getD undef = .bool true := by have := (show b'.tmps.getD 75 undef = .bool true from hd ⟨21, .data⟩ (by simp) rfl); simpa using this
            clear hd hk
            go_step
            exact ⟨_, rfl, rfl, Upd.refl _ _⟩
          case inr.inr.inr.inr.inr.inr.inr.inr.inr.inr.inr.inr.inr.inr.inr.inr.inr.inr.inr.inr.inr.inr.inr.inl =>
            refine .inl ⟨by
              have := tmp_some (show b'.tmps.getD 57 undef = .bool false from hd ⟨3, .guard⟩ (by simp) rfl)
              simp [Region.wanted, yielded, this], ?_⟩
            have e22 : b'.tmps[76]?.getD undef = .bool true := by have := (show b'.tmps.getD 76 undef = .bool true from hd ⟨22, .data⟩ (by simp) rfl); simpa using this
            clear hd hk
            go_step
            exact ⟨_, rfl, rfl, Upd.refl _ _⟩
          case inr.inr.inr.inr.inr.inr.inr.inr.inr.inr.inr.inr.inr.inr.inr.inr.inr.inr.inr.inr.inr.inr.inr.inr.inl =>
            refine .inl ⟨by
              have := tmp_some (show b'.tmps.getD 77 undef = .bool true from hd ⟨23, .guard⟩ (by simp) rfl)
              simp [Region.wanted, yielded, this], ?_⟩
            have o3 : b'.eval (.tmp 3) = .pointer (some ⟨g3, 0, none⟩) := by
              have := hk 3 (fun j oj _ e => (nbkYDst_ne (by decide) e).elim)
              simpa [Act.eval] using this
            have hg1 := HW1.out.at_ HG3.out id
            exact wp_load_mid (w := w1') 63 (.tmp 3) rfl g3 0 o3 (nmCells x).toList _ (fun j u hj => by have := cellAt hg1 j u (by simpa using hj); simpa using this) Tryz.underlying63 rfl (by kernel_rfl) ⟨_, rfl, rfl, Upd.refl _ _⟩
          case inr.inr.inr.inr.inr.inr.inr.inr.inr.inr.inr.inr.inr.inr.inr.inr.inr.inr.inr.inr.inr.inr.inr.inr.inr.inl =>
            refine .inl ⟨by
              have := tmp_some (show b'.tmps.getD 77 undef = .bool true from hd ⟨23, .guard⟩ (by simp) rfl)
              simp [Region.wanted, yielded, this], ?_⟩
            have o4 : b'.eval (.tmp 4) = .pointer (some ⟨g4, 0, none⟩) := by
              have := hk 4 (fun j oj _ e => (nbkYDst_ne (by decide) e).elim)
              simpa [Act.eval] using this
            have hg1 := HW1.out.at_ HG4.out id
            exact wp_load_mid (w := w1') 63 (.tmp 4) rfl g4 0 o4 (nmCells y).toList _ (fun j u hj => by have := cellAt hg1 j u (by simpa using hj); simpa using this) Tryz.underlying63 rfl (by kernel_rfl) ⟨_, rfl, rfl, Upd.refl _ _⟩
          case inr.inr.inr.inr.inr.inr.inr.inr.inr.inr.inr.inr.inr.inr.inr.inr.inr.inr.inr.inr.inr.inr.inr.inr.inr.inr.inl =>
            refine .inl ⟨by
              have := tmp_some (show b'.tmps.getD 77 undef = .bool true from hd ⟨23, .guard⟩ (by simp) rfl)
              simp [Region.wanted, yielded, this], ?_⟩
            have e24 : b'.tmps[78]?.getD undef = .agg (nmCells x) := by have := (show b'.tmps.getD 78 undef = .agg (nmCells x) from hd ⟨24, .data⟩ (by simp) rfl); simpa using this
            have e25 : b'.tmps[79]?.getD undef = .agg (nmCells y) := by have := (show b'.tmps.getD 79 undef = .agg (nmCells y) from hd ⟨25, .data⟩ (by simp) rfl); simpa using this
            clear hd hk
            go_step
            refine (compare_any w1' x y HWX.out.kind HWY.out.kind).mono ?_
            rintro e w2 ⟨rfl, hu⟩
            exact ⟨_, rfl, rfl, hu⟩
          case inr.inr.inr.inr.inr.inr.inr.inr.inr.inr.inr.inr.inr.inr.inr.inr.inr.inr.inr.inr.inr.inr.inr.inr.inr.inr.inr.inl =>
            refine .inl ⟨by
              have := tmp_some (show b'.tmps.getD 77 undef = .bool true from hd ⟨23, .guard⟩ (by simp) rfl)
              simp [Region.wanted, yielded, this], ?_⟩
            have o4 : b'.eval (.tmp 4) = .pointer (some ⟨g4, 0, none⟩) := by
              have := hk 4 (fun j oj _ e => (nbkYDst_ne (by decide) e).elim)
              simpa [Act.eval] using this
            have hg1 := HW1.out.at_ HG4.out id
            exact wp_load_mid (w := w1') 63 (.tmp 4) rfl g4 0 o4 (nmCells y).toList _ (fun j u hj => by have := cellAt hg1 j u (by simpa using hj); simpa using this) Tryz.underlying63 rfl (by kernel_rfl) ⟨_, rfl, rfl, Upd.refl _ _⟩
          case inr.inr.inr.inr.inr.inr.inr.inr.inr.inr.inr.inr.inr.inr.inr.inr.inr.inr.inr.inr.inr.inr.inr.inr.inr.inr.inr.inr.inl =>
            refine .inl ⟨by
              have := tmp_some (show b'.tmps.getD 77 undef = .bool true from hd ⟨23, .guard⟩ (by simp) rfl)
              simp [Region.wanted, yielded, this], ?_⟩
            have o3 : b'.eval (.tmp 3) = .pointer (some ⟨g3, 0, none⟩) := by
              have := hk 3 (fun j oj _ e => (nbkYDst_ne (by decide) e).elim)
              simpa [Act.eval] using this
            have hg1 := HW1.out.at_ HG3.out id
            exact wp_load_mid (w := w1') 63 (.tmp 3) rfl g3 0 o3 (nmCells x).toList _ (fun j u hj => by have := cellAt hg1 j u (by simpa using hj); simpa using this) Tryz.underlying63 rfl (by kernel_rfl) ⟨_, rfl, rfl, Upd.refl _ _⟩
          case inr.inr.inr.inr.inr.inr.inr.inr.inr.inr.inr.inr.inr.inr.inr.inr.inr.inr.inr.inr.inr.inr.inr.inr.inr.inr.inr.inr.inr.inl =>
            refine .inl ⟨by
              have := tmp_some (show b'.tmps.getD 77 undef = .bool true from hd ⟨23, .guard⟩ (by simp) rfl)
              simp [Region.wanted, yielded, this], ?_⟩
            have e27 : b'.tmps[81]?.getD undef = .agg (nmCells y) := by have := (show b'.tmps.getD 81 undef = .agg (nmCells y) from hd ⟨27, .data⟩ (by simp) rfl); simpa using this
            have e28 : b'.tmps[82]?.getD undef = .agg (nmCells x) := by have := (show b'.tmps.getD 82 undef = .agg (nmCells x) from hd ⟨28, .data⟩ (by simp) rfl); simpa using this
            clear hd hk
            go_step
            refine (compare_any w1' y x HWY.out.kind HWX.out.kind).mono ?_
            rintro e w2 ⟨rfl, hu⟩
            exact ⟨_, rfl, rfl, hu⟩
          case inr.inr.inr.inr.inr.inr.inr.inr.inr.inr.inr.inr.inr.inr.inr.inr.inr.inr.inr.inr.inr.inr.inr.inr.inr.inr.inr.inr.inr.inr.inl =>
            refine .inl ⟨by
              have := tmp_some (show b'.tmps.getD 77 undef = .bool true from hd ⟨23, .guard⟩ (by simp) rfl)
              simp [Region.wanted, yielded, this], ?_⟩
            have e29 : b'.tmps[83]?.getD undef = .int .i64 (orF (cmps y x)) := by have := (show b'.tmps.getD 83 undef = .int .i64 (orF (cmps y x)) from hd ⟨29, .data⟩ (by simp) rfl); simpa using this
            clear hd hk
            go_step
            exact ⟨_, rfl, (show Value.int .i64 (wrap64 (-orF (cmps y x))) = _ from HNG.out ()), Upd.refl _ _⟩
          case inr.inr.inr.inr.inr.inr.inr.inr.inr.inr.inr.inr.inr.inr.inr.inr.inr.inr.inr.inr.inr.inr.inr.inr.inr.inr.inr.inr.inr.inr.inr.inl =>
            refine .inl ⟨by
              have := tmp_some (show b'.tmps.getD 77 undef = .bool true from hd ⟨23, .guard⟩ (by simp) rfl)
              simp [Region.wanted, yielded, this], ?_⟩
            have e26 : b'.tmps[80]?.getD undef = .int .i64 (orF (cmps x y)) := by have := (show b'.tmps.getD 80 undef = .int .i64 (orF (cmps x y)) from hd ⟨26, .data⟩ (by simp) rfl); simpa using this
            have e30 : b'.tmps[84]?.getD undef = .int .i64 (orF (cmps x y)) := by have := (show b'.tmps.getD 84 undef = .int .i64 (orF (cmps x y)) from hd ⟨30, .data⟩ (by simp) rfl); simpa using this
            clear hd hk
            go_step
            exact ⟨_, rfl, (show Value.bool _ = .bool true by simp), Upd.refl _ _⟩
          case inr.inr.inr.inr.inr.inr.inr.inr.inr.inr.inr.inr.inr.inr.inr.inr.inr.inr.inr.inr.inr.inr.inr.inr.inr.inr.inr.inr.inr.inr.inr.inr.inl =>
            refine .inl ⟨by
              have := tmp_some (show b'.tmps.getD 57 undef = .bool false from hd ⟨3, .guard⟩ (by simp) rfl)
              simp [Region.wanted, yielded, this], ?_⟩
            have e23 : b'.tmps[77]?.getD undef = .bool true := by have := (show b'.tmps.getD 77 undef = .bool true from hd ⟨23, .data⟩ (by simp) rfl); simpa using this
            have e31 : b'.tmps[85]?.getD undef = .bool true := by have := (show b'.tmps.getD 85 undef = .bool true from hd ⟨31, .data⟩ (by simp) rfl); simpa using this
            clear hd hk
            go_step
            exact ⟨_, rfl, rfl, Upd.refl _ _⟩
          case inr.inr.inr.inr.inr.inr.inr.inr.inr.inr.inr.inr.inr.inr.inr.inr.inr.inr.inr.inr.inr.inr.inr.inr.inr.inr.inr.inr.inr.inr.inr.inr.inr.inl =>
            refine .inl ⟨by simp [Region.wanted], ?_⟩
            have e3 : b'.tmps[57]?.getD undef = .bool false := by have := (show b'.tmps.getD 57 undef = .bool false from hd ⟨3, .data⟩ (by simp) rfl); simpa using this
            have e32 : b'.tmps[86]?.getD undef = .bool true := by have := (show b'.tmps.getD 86 undef = .bool true from hd ⟨32, .data⟩ (by simp) rfl); simpa using this
            clear hd hk
            go_step
            exact ⟨_, rfl, rfl, Upd.refl _ _⟩
          case inr.inr.inr.inr.inr.inr.inr.inr.inr.inr.inr.inr.inr.inr.inr.inr.inr.inr.inr.inr.inr.inr.inr.inr.inr.inr.inr.inr.inr.inr.inr.inr.inr.inr.inl =>
            refine .inl ⟨by simp [Region.wanted], ?_⟩
            have e33 : b'.tmps[87]?.getD undef = .bool true := by have := (show b'.tmps.getD 87 undef = .bool true from hd ⟨33, .data⟩ (by simp) rfl); simpa using this
            clear hd hk
            go_step
            exact ⟨_, rfl, rfl, Upd.refl _ _⟩
          case inr.inr.inr.inr.inr.inr.inr.inr.inr.inr.inr.inr.inr.inr.inr.inr.inr.inr.inr.inr.inr.inr.inr.inr.inr.inr.inr.inr.inr.inr.inr.inr.inr.inr.inr.inl =>
            refine .inl ⟨by
              have := tmp_some (show b'.tmps.getD 88 undef = .bool true from hd ⟨34, .guard⟩ (by simp) rfl)
              simp [Region.wanted, yielded, this], ?_⟩
            clear hd hk
            go_step
            refine (works_any w1' (HEE.out.ext HW1.out)).mono ?_
            rintro e w2 ⟨rfl, hu⟩
            exact ⟨_, rfl, rfl, hu⟩
          case inr.inr.inr.inr.inr.inr.inr.inr.inr.inr.inr.inr.inr.inr.inr.inr.inr.inr.inr.inr.inr.inr.inr.inr.inr.inr.inr.inr.inr.inr.inr.inr.inr.inr.inr.inr.inl =>
            refine .inl ⟨by simp [Region.wanted], ?_⟩
            have e34 : b'.tmps[88]?.getD undef = .bool true := by have := (show b'.tmps.getD 88 undef = .bool true from hd ⟨34, .data⟩ (by simp) rfl); simpa using this
            have e35 : b'.tmps[89]?.getD undef = .bool true := by have := (show b'.tmps.getD 89 undef = .bool true from hd ⟨35, .data⟩ (by simp) rfl); simpa using this
            clear hd hk
            go_step
            exact ⟨_, rfl, rfl, Upd.refl _ _⟩
          case inr.inr.inr.inr.inr.inr.inr.inr.inr.inr.inr.inr.inr.inr.inr.inr.inr.inr.inr.inr.inr.inr.inr.inr.inr.inr.inr.inr.inr.inr.inr.inr.inr.inr.inr.inr.inr =>
            refine .inl ⟨by simp [Region.wanted], ?_⟩
            have e36 : b'.tmps[90]?.getD undef = .bool true := by have := (show b'.tmps.getD 90 undef = .bool true from hd ⟨36, .data⟩ (by simp) rfl); simpa using this
            clear hd hk
            go_step
            exact ⟨_, rfl, rfl, Upd.refl _ _⟩
        · intro v w1' hx1' hp
          have h37 : v 37 = .bool true := hp 37 (by decide)
          have HX8 := Lib.hid (HXF.out.trans hx1')
          clear hp hx1'
          simp only [List.size_toArray, List.length_cons, List.length_nil, Nat.reduceAdd, fillAll, nbkYDst]
          go_simp
          go_wp2
          go_ret
          exact ⟨rfl, HX8.out⟩
  case true =>
    obtain ⟨hmp, hwp, hps⟩ := HGOOD.out rfl
    have HMP := Lib.hid hmp
    have HWP := Lib.hid hwp
    have HPS := Lib.hid hps
    clear hmp hwp hps
    go_wp2_with (first | (refine wpList_load_blk_g rfl _ _ rfl rfl HG7.out (Tryz.nmT p) ?_) | (go_at_call 52; fail))
    refine (put_any _ p HWP.out HEZ.out.tab).mono ?_
    rintro e wa ⟨rfl, ha⟩
    rw [HPS.out]
    have HG7a := Lib.hid (ha.at_ HG7.out id)
    have HG3a := Lib.hid (ha.at_ HG3.out id)
    have HG4a := Lib.hid (ha.at_ HG4.out id)
    have HXa := Lib.hid (HXZ.out.trans ha)
    clear ha
    go_wp2_with (first | (refine wpList_load_blk_g rfl _ _ rfl rfl HG7a.out (Tryz.nmT p) ?_) | (go_at_call 53; fail))
    refine (may_any _ p).mono ?_
    rintro e wq ⟨rfl, hq⟩
    rw [HMP.out]
    have HG3q := Lib.hid (hq.at_ HG3a.out id)
    have HG4q := Lib.hid (hq.at_ HG4a.out id)
    have HXq := Lib.hid (HXa.out.trans hq)
    clear hq
    go_upto_region 6 with (fail)
    obtain ⟨mx, hmx⟩ : ∃ b, b = mayF x := ⟨_, rfl⟩
    have HMX := Lib.hid hmx
    clear hmx
    go_wp2_with (refine wpList_load_blk_g rfl _ _ rfl rfl HG3q.out (Tryz.nmT x) ?_)
    refine (may_any _ x).mono ?_
    rintro e wc ⟨rfl, hc⟩
    rw [← HMX.out]
    have HG3c := Lib.hid (hc.at_ HG3q.out id)
    have HG4c := Lib.hid (hc.at_ HG4q.out id)
    have HXc := Lib.hid (HXq.out.trans hc)
    have HEc := Lib.hid (HE.out.ext HXc.out)
    clear hc
    cases mx
    case false =>
      go_wp2_with (refine wpList_load_blk_g rfl _ _ rfl rfl HG3c.out (Tryz.nmT x) ?_)
      refine (put_any _ x HWX.out HEc.out.tab).mono ?_
      rintro e wd ⟨rfl, hd⟩
      rw [show putF x = [] from by unfold putF; rw [← HMX.out]; rfl]
      have HXd := Lib.hid (HXc.out.trans hd)
      clear hd
      go_wp2_with (go_at_call 25; fail)
      refine (works_any _ (HE.out.ext HXd.out)).mono ?_
      rintro e we ⟨rfl, he⟩
      have HXe := Lib.hid (HXd.out.trans he)
      clear he
      go_wp2
      go_ret
      exact ⟨rfl, HXe.out⟩
    case true =>
      have hpx := parse_put HMX.out.symm HWX.out
      have hDl : (putF x).length ≤ 1000000 := by
        rw [← accF_all HMX.out.symm]
        have := accF_len HWX.out (k := (numsF x).length) (by rw [numsF_length]; exact (countF_le _).2)
        have h2 := (countF_le x.kind).2
        rw [numsF_length] at this ⊢; omega
      have HPX := Lib.hid hpx
      have HDL := Lib.hid hDl
      clear hpx hDl
      go_wp2_with (first | (refine wpList_load_blk_g rfl _ _ rfl rfl HG3c.out (Tryz.nmT x) ?_) | (go_at_call 52; fail))
      refine (put_any _ x HWX.out HEc.out.tab).mono ?_
      rintro e wd ⟨rfl, hd⟩
      have HXd := Lib.hid (HXc.out.trans hd)
      obtain ⟨px, hpx⟩ : ∃ l, l = putF x := ⟨_, rfl⟩
      rw [← hpx]
      have HPQ := Lib.hid hpx
      clear hpx
      go_wp2_with (go_at_call 35; fail)
      refine (parse_lit _ px x true (by rw [HPQ.out]; exact HDL.out) (HE.out.ext HXd.out) (by rw [HPQ.out]; exact HPX.out)).mono ?_
      rintro e we ⟨rfl, he⟩
      obtain ⟨wf, hwf⟩ : ∃ u, u = we.alloc (.cells (nmCells x) 63) := ⟨_, rfl⟩
      obtain ⟨g9, hg9⟩ : ∃ g, g = we.heap.size := ⟨_, rfl⟩
      have hxf : Ext we wf := by rw [hwf]; exact (Upd.refl _ _).alloc _
      have HG9 := Lib.hid (show wf.heap[g9]? = some (.cells (nmCells x) 63) by rw [hg9, hwf]; exact newAt _ _)
      have HG3f := Lib.hid (hxf.at_ (he.at_ (hd.at_ HG3c.out id) id) id)
      have HG4f := Lib.hid (hxf.at_ (he.at_ (hd.at_ HG4c.out id) id) id)
      have HXF := Lib.hid (HXd.out.trans (he.trans hxf))
      have HWF := Lib.hid hwf
      have HGQ9 := Lib.hid hg9
      clear hd he hxf hwf hg9
      obtain ⟨q0, q1, q2, q3, q4, q5, hxl⟩ : ∃ a b c d e f, nmCells x = #[.int .u8 a, .int .u64 b, .int .u64 c, .int .u64 d, .int .u64 e, .int .u64 f] := ⟨_, _, _, _, _, _, rfl⟩
      have HXL := Lib.hid hxl
      clear hxl
      rw [HXL.out]
      go_upto_region 9 with (fail)
      rw [← HXL.out, show we.alloc (.cells (nmCells x) 63) = wf from HWF.out.symm, show we.heap.size = g9 from HGQ9.out.symm]
      go_upto_region 11 with (first | (refine wpList_load_blk_g rfl _ _ rfl rfl HG9.out (Tryz.nmT x) ?_) | (refine wpList_load_blk_g rfl _ _ rfl rfl HG3f.out (Tryz.nmT x) ?_) | (refine wpList_neq_nm rfl _ _ rfl rfl rfl ?_; rw [eqB_self]))
      have HG3 := HG3f
      have HG4 := HG4f
      have HEE := Lib.hid (HE.out.ext HXF.out)
      have HCE := Lib.hid (ce_eq x y)
      have HNG := Lib.hid (ng_eq x y)
      obtain ⟨my, hmy⟩ : ∃ b, b = mayF y := ⟨_, rfl⟩
      have HMY := Lib.hid hmy
      clear hmy
      cases my
      case false =>
        refine wp_region_invH Nothing (fun _ => Ext) 1000 nbkNDst (nbkNPhi x y g3 g4) 91 (by kernel_rfl) (by decide) (by decide) rfl (fun i hi => .inl ((by decide : ∀ i, i < 38 → nbkNDst i < 91) i hi)) (fun i w w' h => ⟨h, fun _ => h⟩) (fun i j v w w' _ _ _ _ h hu => h.ext hu) ?_ ?_
        · intro i o b' w1' ho hx1' hd hk hE hSZ
          have hi : i < 38 := (Array.getElem?_eq_some_iff.1 ho).1
          have his : i = 0 ∨ i = 1 ∨ i = 2 ∨ i = 3 ∨ i = 4 ∨ i = 5 ∨ i = 6 ∨ i = 7 ∨ i = 8 ∨ i = 9 ∨ i = 10 ∨ i = 11 ∨ i = 12 ∨ i = 13 ∨ i = 14 ∨ i = 15 ∨ i = 16 ∨ i = 17 ∨ i = 18 ∨ i = 19 ∨ i = 20 ∨ i = 21 ∨ i = 22 ∨ i = 23 ∨ i = 24 ∨ i = 25 ∨ i = 26 ∨ i = 27 ∨ i = 28 ∨ i = 29 ∨ i = 30 ∨ i = 31 ∨ i = 32 ∨ i = 33 ∨ i = 34 ∨ i = 35 ∨ i = 36 ∨ i = 37 := by omega
          clear hE hSZ
          have HW1 := Lib.hid hx1'
          clear hx1'
          rcases his with rfl | rfl | rfl | rfl | rfl | rfl | rfl | rfl | rfl | rfl | rfl | rfl | rfl | rfl | rfl | rfl | rfl | rfl | rfl | rfl | rfl | rfl | rfl | rfl | rfl | rfl | rfl | rfl | rfl | rfl | rfl | rfl | rfl | rfl | rfl | rfl | rfl | rfl
          all_goals (simp at ho; subst ho)
          case inl =>
            refine .inl ⟨by simp [Region.wanted], ?_⟩
            have o4 : b'.eval (.tmp 4) = .pointer (some ⟨g4, 0, none⟩) := by
              have := hk 4 (fun j oj _ e => (nbkNDst_ne (by decide) e).elim)
              simpa [Act.eval] using this
            have hg1 := HW1.out.at_ HG4.out id
            exact wp_load_mid (w := w1') 63 (.tmp 4) rfl g4 0 o4 (nmCells y).toList _ (fun j u hj => by have := cellAt hg1 j u (by simpa using hj); simpa using this) Tryz.underlying63 rfl (by kernel_rfl) ⟨_, rfl, rfl, Upd.refl _ _⟩
          case inr.inl =>
            refine .inl ⟨by simp [Region.wanted], ?_⟩
            have e0 : b'.tmps[54]?.getD undef = .agg (nmCells y) := by have := (show b'.tmps.getD 54 undef = .agg (nmCells y) from hd ⟨0, .data⟩ (by simp) rfl); simpa using this
            clear hd hk
            go_step
            refine (may_any w1' y).mono ?_
            rintro e w2 ⟨rfl, hu⟩
            exact ⟨_, rfl, (show Value.bool (mayF y) = .bool false from by rw [← HMY.out]), hu⟩
          case inr.inr.inl =>
            refine .inl ⟨by simp [Region.wanted], ?_⟩
            have e1 : b'.tmps[55]?.getD undef = .bool false := by have := (show b'.tmps.getD 55 undef = .bool false from hd ⟨1, .data⟩ (by simp) rfl); simpa using this
            clear hd hk
            go_step
            exact ⟨_, rfl, rfl, Upd.refl _ _⟩
          case inr.inr.inr.inl =>
            refine .inl ⟨by simp [Region.wanted], ?_⟩
            have e2 : b'.tmps[56]?.getD undef = .bool true := by have := (show b'.tmps.getD 56 undef = .bool true from hd ⟨2, .data⟩ (by simp) rfl); simpa using this
            clear hd hk
            go_step
            exact ⟨_, rfl, rfl, Upd.refl _ _⟩
          case inr.inr.inr.inr.inl =>
            refine .inr ⟨by
              have := tmp_some (show b'.tmps.getD 57 undef = .bool true from hd ⟨3, .guard⟩ (by simp) rfl)
              simp [Region.wanted, yielded, this], rfl, rfl, Upd.refl _ _⟩
          case inr.inr.inr.inr.inr.inl =>
            refine .inr ⟨by
              have := tmp_some (show b'.tmps.getD 57 undef = .bool true from hd ⟨3, .guard⟩ (by simp) rfl)
              simp [Region.wanted, yielded, this], rfl, rfl, Upd.refl _ _⟩
          case inr.inr.inr.inr.inr.inr.inl =>
            refine .inr ⟨by
              have := tmp_some (show b'.tmps.getD 57 undef = .bool true from hd ⟨3, .guard⟩ (by simp) rfl)
              simp [Region.wanted, yielded, this], rfl, rfl, Upd.refl _ _⟩
          case inr.inr.inr.inr.inr.inr.inr.inl =>
            refine .inr ⟨by
              have := tmp_some (show b'.tmps.getD 57 undef = .bool true from hd ⟨3, .guard⟩ (by simp) rfl)
              simp [Region.wanted, yielded, this], rfl, rfl, Upd.refl _ _⟩
          case inr.inr.inr.inr.inr.inr.inr.inr.inl =>
            refine .inr ⟨by
              have := tmp_some (show b'.tmps.getD 57 undef = .bool true from hd ⟨3, .guard⟩ (by simp) rfl)
              simp [Region.wanted, yielded, this], rfl, rfl, Upd.refl _ _⟩
          case inr.inr.inr.inr.inr.inr.inr.inr.inr.inl =>
            refine .inr ⟨by
              have := tmp_some (show b'.tmps.getD 57 undef = .bool true from hd ⟨3, .guard⟩ (by simp) rfl)
              simp [Region.wanted, yielded, this], rfl, rfl, Upd.refl _ _⟩
          case inr.inr.inr.inr.inr.inr.inr.inr.inr.inr.inl =>
            refine .inr ⟨by
              have := tmp_some (show b'.tmps.getD 57 undef = .bool true from hd ⟨3, .guard⟩ (by simp) rfl)
              simp [Region.wanted, yielded, this], rfl, rfl, Upd.refl _ _⟩
          case inr.inr.inr.inr.inr.inr.inr.inr.inr.inr.inr.inl =>
            refine .inr ⟨by
              have := tmp_some (show b'.tmps.getD 57 undef = .bool true from hd ⟨3, .guard⟩ (by simp) rfl)
              simp [Region.wanted, yielded, this], rfl, rfl, Upd.refl _ _⟩
          case inr.inr.inr.inr.inr.inr.inr.inr.inr.inr.inr.inr.inl =>
            refine .inr ⟨by
              have := tmp_some (show b'.tmps.getD 57 undef = .bool true from hd ⟨3, .guard⟩ (by simp) rfl)
              simp [Region.wanted, yielded, this], rfl, rfl, Upd.refl _ _⟩
          case inr.inr.inr.inr.inr.inr.inr.inr.inr.inr.inr.inr.inr.inl =>
            refine .inr ⟨by
              have := tmp_some (show b'.tmps.getD 57 undef = .bool true from hd ⟨3, .guard⟩ (by simp) rfl)
              simp [Region.wanted, yielded, this], rfl, rfl, Upd.refl _ _⟩
          case inr.inr.inr.inr.inr.inr.inr.inr.inr.inr.inr.inr.inr.inr.inl =>
            refine .inr ⟨by
              have := (show b'.tmps.getD 67 undef = undef from hd ⟨13, .guard⟩ (by simp) rfl)
              cases hq : b'.tmps[67]? with
              | none => simp [Region.wanted, yielded, hq]
              | some u =>
                obtain rfl : u = undef := by simpa [hq] using this
                simp [Region.wanted, yielded, hq, undef], rfl, rfl, Upd.refl _ _⟩
          case inr.inr.inr.inr.inr.inr.inr.inr.inr.inr.inr.inr.inr.inr.inr.inl =>
            refine .inr ⟨by
              have := (show b'.tmps.getD 67 undef = undef from hd ⟨13, .guard⟩ (by simp) rfl)
              cases hq : b'.tmps[67]? with
              | none => simp [Region.wanted, yielded, hq]
              | some u =>
                obtain rfl : u = undef := by simpa [hq] using this
                simp [Region.wanted, yielded, hq, undef], rfl, rfl, Upd.refl _ _⟩
          case inr.inr.inr.inr.inr.inr.inr.inr.inr.inr.inr.inr.inr.inr.inr.inr.inl =>
            refine .inr ⟨by
              have := (show b'.tmps.getD 67 undef = undef from hd ⟨13, .guard⟩ (by simp) rfl)
              cases hq : b'.tmps[67]? with
              | none => simp [Region.wanted, yielded, hq]
              | some u =>
                obtain rfl : u = undef := by simpa [hq] using this
                simp [Region.wanted, yielded, hq, undef], rfl, rfl, Upd.refl _ _⟩
          case inr.inr.inr.inr.inr.inr.inr.inr.inr.inr.inr.inr.inr.inr.inr.inr.inr.inl =>
            refine .inr ⟨by
              have := (show b'.tmps.getD 67 undef = undef from hd ⟨13, .guard⟩ (by simp) rfl)
              cases hq : b'.tmps[67]? with
              | none => simp [Region.wanted, yielded, hq]
              | some u =>
                obtain rfl : u = undef := by simpa [hq] using this
                simp [Region.wanted, yielded, hq, undef], rfl, rfl, Upd.refl _ _⟩
          case inr.inr.inr.inr.inr.inr.inr.inr.inr.inr.inr.inr.inr.inr.inr.inr.inr.inr.inl =>
            refine .inr ⟨by
              have := (show b'.tmps.getD 67 undef = undef from hd ⟨13, .guard⟩ (by simp) rfl)
              cases hq : b'.tmps[67]? with
              | none => simp [Region.wanted, yielded, hq]
              | some u =>
                obtain rfl : u = undef := by simpa [hq] using this
                simp [Region.wanted, yielded, hq, undef], rfl, rfl, Upd.refl _ _⟩
          case inr.inr.inr.inr.inr.inr.inr.inr.inr.inr.inr.inr.inr.inr.inr.inr.inr.inr.inr.inl =>
            refine .inr ⟨by
              have := (show b'.tmps.getD 67 undef = undef from hd ⟨13, .guard⟩ (by simp) rfl)
              cases hq : b'.tmps[67]? with
              | none => simp [Region.wanted, yielded, hq]
              | some u =>
                obtain rfl : u = undef := by simpa [hq] using this
                simp [Region.wanted, yielded, hq, undef], rfl, rfl, Upd.refl _ _⟩
          case inr.inr.inr.inr.inr.inr.inr.inr.inr.inr.inr.inr.inr.inr.inr.inr.inr.inr.inr.inr.inl =>
            refine .inr ⟨by
              have := (show b'.tmps.getD 67 undef = undef from hd ⟨13, .guard⟩ (by simp) rfl)
              cases hq : b'.tmps[67]? with
              | none => simp [Region.wanted, yielded, hq]
              | some u =>
                obtain rfl : u = undef := by simpa [hq] using this
                simp [Region.wanted, yielded, hq, undef], rfl, rfl, Upd.refl _ _⟩
          case inr.inr.inr.inr.inr.inr.inr.inr.inr.inr.inr.inr.inr.inr.inr.inr.inr.inr.inr.inr.inr.inl =>
            refine .inr ⟨by
              have := (show b'.tmps.getD 67 undef = undef from hd ⟨13, .guard⟩ (by simp) rfl)
              cases hq : b'.tmps[67]? with
              | none => simp [Region.wanted, yielded, hq]
              | some u =>
                obtain rfl : u = undef := by simpa [hq] using this
                simp [Region.wanted, yielded, hq, undef], rfl, rfl, Upd.refl _ _⟩
          case inr.inr.inr.inr.inr.inr.inr.inr.inr.inr.inr.inr.inr.inr.inr.inr.inr.inr.inr.inr.inr.inr.inl =>
            refine .inr ⟨by
              have := tmp_some (show b'.tmps.getD 57 undef = .bool true from hd ⟨3, .guard⟩ (by simp) rfl)
              simp [Region.wanted, yielded, this], rfl, rfl, Upd.refl _ _⟩
          case inr.inr.inr.inr.inr.inr.inr.inr.inr.inr.inr.inr.inr.inr.inr.inr.inr.inr.inr.inr.inr.inr.inr.inl =>
            refine .inr ⟨by
              have := tmp_some (show b'.tmps.getD 57 undef = .bool true from hd ⟨3, .guard⟩ (by simp) rfl)
              simp [Region.wanted, yielded, this], rfl, rfl, Upd.refl _ _⟩
          case inr.inr.inr.inr.inr.inr.inr.inr.inr.inr.inr.inr.inr.inr.inr.inr.inr.inr.inr.inr.inr.inr.inr.inr.inl =>
            refine .inr ⟨by
              have := (show b'.tmps.getD 77 undef = undef from hd ⟨23, .guard⟩ (by simp) rfl)
              cases hq : b'.tmps[77]? with
              | none => simp [Region.wanted, yielded, hq]
              | some u =>
                obtain rfl : u = undef := by simpa [hq] using this
                simp [Region.wanted, yielded, hq, undef], rfl, rfl, Upd.refl _ _⟩
          case inr.inr.inr.inr.inr.inr.inr.inr.inr.inr.inr.inr.inr.inr.inr.inr.inr.inr.inr.inr.inr.inr.inr.inr.inr.inl =>
            refine .inr ⟨by
              have := (show b'.tmps.getD 77 undef = undef from hd ⟨23, .guard⟩ (by simp) rfl)
              cases hq : b'.tmps[77]? with
              | none => simp [Region.wanted, yielded, hq]
              | some u =>
                obtain rfl : u = undef := by simpa [hq] using this
                simp [Region.wanted, yielded, hq, undef], rfl, rfl, Upd.refl _ _⟩
          case inr.inr.inr.inr.inr.inr.inr.inr.inr.inr.inr.inr.inr.inr.inr.inr.inr.inr.inr.inr.inr.inr.inr.inr.inr.inr.inl =>
            refine .inr ⟨by
              have := (show b'.tmps.getD 77 undef = undef from hd ⟨23, .guard⟩ (by simp) rfl)
              cases hq : b'.tmps[77]? with
              | none => simp [Region.wanted, yielded, hq]
              | some u =>
                obtain rfl : u = undef := by simpa [hq] using this
                simp [Region.wanted, yielded, hq, undef], rfl, rfl, Upd.refl _ _⟩
          case inr.inr.inr.inr.inr.inr.inr.inr.inr.inr.inr.inr.inr.inr.inr.inr.inr.inr.inr.inr.inr.inr.inr.inr.inr.inr.inr.inl =>
            refine .inr ⟨by
              have := (show b'.tmps.getD 77 undef = undef from hd ⟨23, .guard⟩ (by simp) rfl)
              cases hq : b'.tmps[77]? with
              | none => simp [Region.wanted, yielded, hq]
              | some u =>
                obtain rfl : u = undef := by simpa [hq] using this
                simp [Region.wanted, yielded, hq, undef], rfl, rfl, Upd.refl _ _⟩
          case inr.inr.inr.inr.inr.inr.inr.inr.inr.inr.inr.inr.inr.inr.inr.inr.inr.inr.inr.inr.inr.inr.inr.inr.inr.inr.inr.inr.inl =>
            refine .inr ⟨by
              have := (show b'.tmps.getD 77 undef = undef from hd ⟨23, .guard⟩ (by simp) rfl)
              cases hq : b'.tmps[77]? with
              | none => simp [Region.wanted, yielded, hq]
              | some u =>
                obtain rfl : u = undef := by simpa [hq] using this
                simp [Region.wanted, yielded, hq, undef], rfl, rfl, Upd.refl _ _⟩
          case inr.inr.inr.inr.inr.inr.inr.inr.inr.inr.inr.inr.inr.inr.inr.inr.inr.inr.inr.inr.inr.inr.inr.inr.inr.inr.inr.inr.inr.inl =>
            refine .inr ⟨by
              have := (show b'.tmps.getD 77 undef = undef from hd ⟨23, .guard⟩ (by simp) rfl)
              cases hq : b'.tmps[77]? with
              | none => simp [Region.wanted, yielded, hq]
              | some u =>
                obtain rfl : u = undef := by simpa [hq] using this
                simp [Region.wanted, yielded, hq, undef], rfl, rfl, Upd.refl _ _⟩
          case inr.inr.inr.inr.inr.inr.inr.inr.inr.inr.inr.inr.inr.inr.inr.inr.inr.inr.inr.inr.inr.inr.inr.inr.inr.inr.inr.inr.inr.inr.inl =>
            refine .inr ⟨by
              have := (show b'.tmps.getD 77 undef = undef from hd ⟨23, .guard⟩ (by simp) rfl)
              cases hq : b'.tmps[77]? with
              | none => simp [Region.wanted, yielded, hq]
              | some u =>
                obtain rfl : u = undef := by simpa [hq] using this
                simp [Region.wanted, yielded, hq, undef], rfl, rfl, Upd.refl _ _⟩
          case inr.inr.inr.inr.inr.inr.inr.inr.inr.inr.inr.inr.inr.inr.inr.inr.inr.inr.inr.inr.inr.inr.inr.inr.inr.inr.inr.inr.inr.inr.inr.inl =>
            refine .inr ⟨by
              have := (show b'.tmps.getD 77 undef = undef from hd ⟨23, .guard⟩ (by simp) rfl)
              cases hq : b'.tmps[77]? with
              | none => simp [Region.wanted, yielded, hq]
              | some u =>
                obtain rfl : u = undef := by simpa [hq] using this
                simp [Region.wanted, yielded, hq, undef], rfl, rfl, Upd.refl _ _⟩
          case inr.inr.inr.inr.inr.inr.inr.inr.inr.inr.inr.inr.inr.inr.inr.inr.inr.inr.inr.inr.inr.inr.inr.inr.inr.inr.inr.inr.inr.inr.inr.inr.inl =>
            refine .inr ⟨by
              have := tmp_some (show b'.tmps.getD 57 undef = .bool true from hd ⟨3, .guard⟩ (by simp) rfl)
              simp [Region.wanted, yielded, this], rfl, rfl, Upd.refl _ _⟩
          case inr.inr.inr.inr.inr.inr.inr.inr.inr.inr.inr.inr.inr.inr.inr.inr.inr.inr.inr.inr.inr.inr.inr.inr.inr.inr.inr.inr.inr.inr.inr.inr.inr.inl =>
            refine .inl ⟨by simp [Region.wanted], ?_⟩
            have e3 : b'.tmps[57]?.getD undef = .bool true := by have := (show b'.tmps.getD 57 undef = .bool true from hd ⟨3, .data⟩ (by simp) rfl); simpa using this
            have e32 : b'.tmps[86]?.getD undef = undef := by have := (show b'.tmps.getD 86 undef = undef from hd ⟨32, .data⟩ (by simp) rfl); simpa using this
            clear hd hk
            go_step
            exact ⟨_, rfl, rfl, Upd.refl _ _⟩
          case inr.inr.inr.inr.inr.inr.inr.inr.inr.inr.inr.inr.inr.inr.inr.inr.inr.inr.inr.inr.inr.inr.inr.inr.inr.inr.inr.inr.inr.inr.inr.inr.inr.inr.inl =>
            refine .inl ⟨by simp [Region.wanted], ?_⟩
            have e33 : b'.tmps[87]?.getD undef = .bool true := by have := (show b'.tmps.getD 87 undef = .bool true from hd ⟨33, .data⟩ (by simp) rfl); simpa using this
            clear hd hk
            go_step
            exact ⟨_, rfl, rfl, Upd.refl _ _⟩
          case inr.inr.inr.inr.inr.inr.inr.inr.inr.inr.inr.inr.inr.inr.inr.inr.inr.inr.inr.inr.inr.inr.inr.inr.inr.inr.inr.inr.inr.inr.inr.inr.inr.inr.inr.inl =>
            refine .inl ⟨by
              have := tmp_some (show b'.tmps.getD 88 undef = .bool true from hd ⟨34, .guard⟩ (by simp) rfl)
              simp [Region.wanted, yielded, this], ?_⟩
            clear hd hk
            go_step
            refine (works_any w1' (HEE.out.ext HW1.out)).mono ?_
            rintro e w2 ⟨rfl, hu⟩
            exact ⟨_, rfl, rfl, hu⟩
          case inr.inr.inr.inr.inr.inr.inr.inr.inr.inr.inr.inr.inr.inr.inr.inr.inr.inr.inr.inr.inr.inr.inr.inr.inr.inr.inr.inr.inr.inr.inr.inr.inr.inr.inr.inr.inl =>
            refine .inl ⟨by simp [Region.wanted], ?_⟩
            have e34 : b'.tmps[88]?.getD undef = .bool true := by have := (show b'.tmps.getD 88 undef = .bool true from hd ⟨34, .data⟩ (by simp) rfl); simpa using this
            have e35 : b'.tmps[89]?.getD undef = .bool true := by have := (show b'.tmps.getD 89 undef = .bool true from hd ⟨35, .data⟩ (by simp) rfl); simpa using this
            clear hd hk
            go_step
            exact ⟨_, rfl, rfl, Upd.refl _ _⟩
          case inr.inr.inr.inr.inr.inr.inr.inr.inr.inr.inr.inr.inr.inr.inr.inr.inr.inr.inr.inr.inr.inr.inr.inr.inr.inr.inr.inr.inr.inr.inr.inr.inr.inr.inr.inr.inr =>
            refine .inl ⟨by simp [Region.wanted], ?_⟩
            have e36 : b'.tmps[90]?.getD undef = .bool true := by have := (show b'.tmps.getD 90 undef = .bool true from hd ⟨36, .data⟩ (by simp) rfl); simpa using this
            clear hd hk
            go_step
            exact ⟨_, rfl, rfl, Upd.refl _ _⟩
        · intro v w1' hx1' hp
          have h37 : v 37 = .bool true := hp 37 (by decide)
          have HX8 := Lib.hid (HXF.out.trans hx1')
          clear hp hx1'
          simp only [List.size_toArray, List.length_cons, List.length_nil, Nat.reduceAdd, fillAll, nbkNDst]
          go_simp
          go_wp2
          go_ret
          exact ⟨rfl, HX8.out⟩
      case true =>
        have HPE := Lib.hid (pe_eq HMX.out.symm HMY.out.symm HWX.out HWY.out)
        refine wp_region_invH Nothing (fun _ => Ext) 1000 nbkYDst (nbkYPhi x y g3 g4) 91 (by kernel_rfl) (by decide) (by decide) rfl (fun i hi => .inl ((by decide : ∀ i, i < 38 → nbkYDst i < 91) i hi)) (fun i w w' h => ⟨h, fun _ => h⟩) (fun i j v w w' _ _ _ _ h hu => h.ext hu) ?_ ?_
        · intro i o b' w1' ho hx1' hd hk hE hSZ
          have hi : i < 38 := (Array.getElem?_eq_some_iff.1 ho).1
          have his : i = 0 ∨ i = 1 ∨ i = 2 ∨ i = 3 ∨ i = 4 ∨ i = 5 ∨ i = 6 ∨ i = 7 ∨ i = 8 ∨ i = 9 ∨ i = 10 ∨ i = 11 ∨ i = 12 ∨ i = 13 ∨ i = 14 ∨ i = 15 ∨ i = 16 ∨ i = 17 ∨ i = 18 ∨ i = 19 ∨ i = 20 ∨ i = 21 ∨ i = 22 ∨ i = 23 ∨ i = 24 ∨ i = 25 ∨ i = 26 ∨ i = 27 ∨ i = 28 ∨ i = 29 ∨ i = 30 ∨ i = 31 ∨ i = 32 ∨ i = 33 ∨ i = 34 ∨ i = 35 ∨ i = 36 ∨ i = 37 := by omega
          clear hE hSZ
          have HW1 := Lib.hid hx1'
          clear hx1'
          rcases his with rfl | rfl | rfl | rfl | rfl | rfl | rfl | rfl | rfl | rfl | rfl | rfl | rfl | rfl | rfl | rfl | rfl | rfl | rfl | rfl | rfl | rfl | rfl | rfl | rfl | rfl | rfl | rfl | rfl | rfl | rfl | rfl | rfl | rfl | rfl | rfl | rfl | rfl
          all_goals (simp at ho; subst ho)
          case inl =>
            refine .inl ⟨by simp [Region.wanted], ?_⟩
            have o4 : b'.eval (.tmp 4) = .pointer (some ⟨g4, 0, none⟩) := by
              have := hk 4 (fun j oj _ e => (nbkYDst_ne (by decide) e).elim)
              simpa [Act.eval] using this
            have hg1 := HW1.out.at_ HG4.out id
            exact wp_load_mid (w := w1') 63 (.tmp 4) rfl g4 0 o4 (nmCells y).toList _ (fun j u hj => by have := cellAt hg1 j u (by simpa using hj); simpa using this) Tryz.underlying63 rfl (by kernel_rfl) ⟨_, rfl, rfl, Upd.refl _ _⟩
          case inr.inl =>
            refine .inl ⟨by simp [Region.wanted], ?_⟩
            have e0 : b'.tmps[54]?.getD undef = .agg (nmCells y) := by have := (show b'.tmps.getD 54 undef = .agg (nmCells y) from hd ⟨0, .data⟩ (by simp) rfl); simpa using this
            clear hd hk
            go_step
            refine (may_any w1' y).mono ?_
            rintro e w2 ⟨rfl, hu⟩
            exact ⟨_, rfl, (show Value.bool (mayF y) = .bool true from by rw [← HMY.out]), hu⟩
          case inr.inr.inl =>
            refine .inl ⟨by simp [Region.wanted], ?_⟩
            have e1 : b'.tmps[55]?.getD undef = .bool true := by have := (show b'.tmps.getD 55 undef = .bool true from hd ⟨1, .data⟩ (by simp) rfl); simpa using this
            clear hd hk
            go_step
            exact ⟨_, rfl, rfl, Upd.refl _ _⟩
          case inr.inr.inr.inl =>
            refine .inl ⟨by simp [Region.wanted], ?_⟩
            have e2 : b'.tmps[56]?.getD undef = .bool false := by have := (show b'.tmps.getD 56 undef = .bool false from hd ⟨2, .data⟩ (by simp) rfl); simpa using this
            clear hd hk
            go_step
            exact ⟨_, rfl, rfl, Upd.refl _ _⟩
          case inr.inr.inr.inr.inl =>
            refine .inl ⟨by
              have := tmp_some (show b'.tmps.getD 57 undef = .bool false from hd ⟨3, .guard⟩ (by simp) rfl)
              simp [Region.wanted, yielded, this], ?_⟩
            have o3 : b'.eval (.tmp 3) = .pointer (some ⟨g3, 0, none⟩) := by
              have := hk 3 (fun j oj _ e => (nbkYDst_ne (by decide) e).elim)
              simpa [Act.eval] using this
            have hg1 := HW1.out.at_ HG3.out id
            exact wp_load_mid (w := w1') 63 (.tmp 3) rfl g3 0 o3 (nmCells x).toList _ (fun j u hj => by have := cellAt hg1 j u (by simpa using hj); simpa using this) Tryz.underlying63 rfl (by kernel_rfl) ⟨_, rfl, rfl, Upd.refl _ _⟩
          case inr.inr.inr.inr.inr.inl =>
            refine .inl ⟨by
              have := tmp_some (show b'.tmps.getD 57 undef = .bool false from hd ⟨3, .guard⟩ (by simp) rfl)
              simp [Region.wanted, yielded, this], ?_⟩
            have e4 : b'.tmps[58]?.getD undef = .agg (nmCells x) := by have := (show b'.tmps.getD 58 undef = .agg (nmCells x) from hd ⟨4, .data⟩ (by simp) rfl); simpa using this
            clear hd hk
            go_step
            refine (put_any w1' x HWX.out (HEE.out.ext HW1.out).tab).mono ?_
            rintro e w2 ⟨rfl, hu⟩
            exact ⟨_, rfl, rfl, hu⟩
          case inr.inr.inr.inr.inr.inr.inl =>
            refine .inl ⟨by
              have := tmp_some (show b'.tmps.getD 57 undef = .bool false from hd ⟨3, .guard⟩ (by simp) rfl)
              simp [Region.wanted, yielded, this], ?_⟩
            have o4 : b'.eval (.tmp 4) = .pointer (some ⟨g4, 0, none⟩) := by
              have := hk 4 (fun j oj _ e => (nbkYDst_ne (by decide) e).elim)
              simpa [Act.eval] using this
            have hg1 := HW1.out.at_ HG4.out id
            exact wp_load_mid (w := w1') 63 (.tmp 4) rfl g4 0 o4 (nmCells y).toList _ (fun j u hj => by have := cellAt hg1 j u (by simpa using hj); simpa using this) Tryz.underlying63 rfl (by kernel_rfl) ⟨_, rfl, rfl, Upd.refl _ _⟩
          case inr.inr.inr.inr.inr.inr.inr.inl =>
            refine .inl ⟨by
              have := tmp_some (show b'.tmps.getD 57 undef = .bool false from hd ⟨3, .guard⟩ (by simp) rfl)
              simp [Region.wanted, yielded, this], ?_⟩
            have e6 : b'.tmps[60]?.getD undef = .agg (nmCells y) := by have := (show b'.tmps.getD 60 undef = .agg (nmCells y) from hd ⟨6, .data⟩ (by simp) rfl); simpa using this
            clear hd hk
            go_step
            refine (put_any w1' y HWY.out (HEE.out.ext HW1.out).tab).mono ?_
            rintro e w2 ⟨rfl, hu⟩
            exact ⟨_, rfl, rfl, hu⟩
          case inr.inr.inr.inr.inr.inr.inr.inr.inl =>
            refine .inl ⟨by
              have := tmp_some (show b'.tmps.getD 57 undef = .bool false from hd ⟨3, .guard⟩ (by simp) rfl)
              simp [Region.wanted, yielded, this], ?_⟩
            have e5 : b'.tmps[59]?.getD undef = str (putF x) := by have := (show b'.tmps.getD 59 undef = str (putF x) from hd ⟨5, .data⟩ (by simp) rfl); simpa using this
            have e7 : b'.tmps[61]?.getD undef = str (putF y) := by have := (show b'.tmps.getD 61 undef = str (putF y) from hd ⟨7, .data⟩ (by simp) rfl); simpa using this
            clear hd hk
            go_step
            exact ⟨_, rfl, (show Value.bool _ = .bool (eqB x y) by rw [← HPE.out]), Upd.refl _ _⟩
          case inr.inr.inr.inr.inr.inr.inr.inr.inr.inl =>
            refine .inl ⟨by
              have := tmp_some (show b'.tmps.getD 57 undef = .bool false from hd ⟨3, .guard⟩ (by simp) rfl)
              simp [Region.wanted, yielded, this], ?_⟩
            have o3 : b'.eval (.tmp 3) = .pointer (some ⟨g3, 0, none⟩) := by
              have := hk 3 (fun j oj _ e => (nbkYDst_ne (by decide) e).elim)
              simpa [Act.eval] using this
            have hg1 := HW1.out.at_ HG3.out id
            exact wp_load_mid (w := w1') 63 (.tmp 3) rfl g3 0 o3 (nmCells x).toList _ (fun j u hj => by have := cellAt hg1 j u (by simpa using hj); simpa using this) Tryz.underlying63 rfl (by kernel_rfl) ⟨_, rfl, rfl, Upd.refl _ _⟩
          case inr.inr.inr.inr.inr.inr.inr.inr.inr.inr.inl =>
            refine .inl ⟨by
              have := tmp_some (show b'.tmps.getD 57 undef = .bool false from hd ⟨3, .guard⟩ (by simp) rfl)
              simp [Region.wanted, yielded, this], ?_⟩
            have o4 : b'.eval (.tmp 4) = .pointer (some ⟨g4, 0, none⟩) := by
              have := hk 4 (fun j oj _ e => (nbkYDst_ne (by decide) e).elim)
              simpa [Act.eval] using this
            have hg1 := HW1.out.at_ HG4.out id
            exact wp_load_mid (w := w1') 63 (.tmp 4) rfl g4 0 o4 (nmCells y).toList _ (fun j u hj => by have := cellAt hg1 j u (by simpa using hj); simpa using this) Tryz.underlying63 rfl (by kernel_rfl) ⟨_, rfl, rfl, Upd.refl _ _⟩
          case inr.inr.inr.inr.inr.inr.inr.inr.inr.inr.inr.inl =>
            refine .inl ⟨by
              have := tmp_some (show b'.tmps.getD 57 undef = .bool false from hd ⟨3, .guard⟩ (by simp) rfl)
              simp [Region.wanted, yielded, this], ?_⟩
            have o63 : b'.eval (.tmp 63) = .agg (nmCells x) := by
              have := (show b'.tmps.getD 63 undef = .agg (nmCells x) from hd ⟨9, .data⟩ (by simp) rfl)
              simpa [Act.eval] using this
            have o64 : b'.eval (.tmp 64) = .agg (nmCells y) := by
              have := (show b'.tmps.getD 64 undef = .agg (nmCells y) from hd ⟨10, .data⟩ (by simp) rfl)
              simpa [Act.eval] using this
            exact wp_eql_nm (.tmp 63) (.tmp 64) rfl o63 o64 ⟨_, rfl, rfl, Upd.refl _ _⟩
          case inr.inr.inr.inr.inr.inr.inr.inr.inr.inr.inr.inr.inl =>
            refine .inl ⟨by
              have := tmp_some (show b'.tmps.getD 57 undef = .bool false from hd ⟨3, .guard⟩ (by simp) rfl)
              simp [Region.wanted, yielded, this], ?_⟩
            have e8 : b'.tmps[62]?.getD undef = .bool (eqB x y) := by have := (show b'.tmps.getD 62 undef = .bool (eqB x y) from hd ⟨8, .data⟩ (by simp) rfl); simpa using this
            have e11 : b'.tmps[65]?.getD undef = .bool (eqB x y) := by have := (show b'.tmps.getD 65 undef = .bool (eqB x y) from hd ⟨11, .data⟩ (by simp) rfl); simpa using this
            clear hd hk
            go_step
            exact ⟨_, rfl, (show Value.bool _ = .bool true by simp), Upd.refl _ _⟩
          case inr.inr.inr.inr.inr.inr.inr.inr.inr.inr.inr.inr.inr.inl =>
            refine .inl ⟨by
              have := tmp_some (show b'.tmps.getD 57 undef = .bool false from hd ⟨3, .guard⟩ (by simp) rfl)
              simp [Region.wanted, yielded, this], ?_⟩
            have e12 : b'.tmps[66]?.getD undef = .bool true := by have := (show b'.tmps.getD 66 undef = .bool true from hd ⟨12, .data⟩ (by simp) rfl); simpa using this
            clear hd hk
            go_step
            exact ⟨_, rfl, rfl, Upd.refl _ _⟩
          case inr.inr.inr.inr.inr.inr.inr.inr.inr.inr.inr.inr.inr.inr.inl =>
            refine .inl ⟨by
              have := tmp_some (show b'.tmps.getD 67 undef = .bool true from hd ⟨13, .guard⟩ (by simp) rfl)
              simp [Region.wanted, yielded, this], ?_⟩
            have o3 : b'.eval (.tmp 3) = .pointer (some ⟨g3, 0, none⟩) := by
              have := hk 3 (fun j oj _ e => (nbkYDst_ne (by decide) e).elim)
              simpa [Act.eval] using this
            have hg1 := HW1.out.at_ HG3.out id
            exact wp_load_mid (w := w1') 63 (.tmp 3) rfl g3 0 o3 (nmCells x).toList _ (fun j u hj => by have := cellAt hg1 j u (by simpa using hj); simpa using this) Tryz.underlying63 rfl (by kernel_rfl) ⟨_, rfl, rfl, Upd.refl _ _⟩
          case inr.inr.inr.inr.inr.inr.inr.inr.inr.inr.inr.inr.inr.inr.inr.inl =>
            refine .inl ⟨by
              have := tmp_some (show b'.tmps.getD 67 undef = .bool true from hd ⟨13, .guard⟩ (by simp) rfl)
              simp [Region.wanted, yielded, this], ?_⟩
            have o4 : b'.eval (.tmp 4) = .pointer (some ⟨g4, 0, none⟩) := by
              have := hk 4 (fun j oj _ e => (nbkYDst_ne (by decide) e).elim)
              simpa [Act.eval] using this
            have hg1 := HW1.out.at_ HG4.out id
            exact wp_load_mid (w := w1') 63 (.tmp 4) rfl g4 0 o4 (nmCells y).toList _ (fun j u hj => by have := cellAt hg1 j u (by simpa using hj); simpa using this) Tryz.underlying63 rfl (by kernel_rfl) ⟨_, rfl, rfl, Upd.refl _ _⟩
          case inr.inr.inr.inr.inr.inr.inr.inr.inr.inr.inr.inr.inr.inr.inr.inr.inl =>
            refine .inl ⟨by
              have := tmp_some (show b'.tmps.getD 67 undef = .bool true from hd ⟨13, .guard⟩ (by simp) rfl)
              simp [Region.wanted, yielded, this], ?_⟩
            have e14 : b'.tmps[68]?.getD undef = .agg (nmCells x) := by have := (show b'.tmps.getD 68 undef = .agg (nmCells x) from hd ⟨14, .data⟩ (by simp) rfl); simpa using this
            have e15 : b'.tmps[69]?.getD undef = .agg (nmCells y) := by have := (show b'.tmps.getD 69 undef = .agg (nmCells y) from hd ⟨15, .data⟩ (by simp) rfl); simpa using this
            clear hd hk
            go_step
            refine (compare_any w1' x y HWX.out.kind HWY.out.kind).mono ?_
            rintro e w2 ⟨rfl, hu⟩
            exact ⟨_, rfl, rfl, hu⟩
          case inr.inr.inr.inr.inr.inr.inr.inr.inr.inr.inr.inr.inr.inr.inr.inr.inr.inl =>
            refine .inl ⟨by
              have := tmp_some (show b'.tmps.getD 67 undef = .bool true from hd ⟨13, .guard⟩ (by simp) rfl)
              simp [Region.wanted, yielded, this], ?_⟩
            have e16 : b'.tmps[70]?.getD undef = .int .i64 (orF (cmps x y)) := by have := (show b'.tmps.getD 70 undef = .int .i64 (orF (cmps x y)) from hd ⟨16, .data⟩ (by simp) rfl); simpa using this
            clear hd hk
            go_step
            exact ⟨_, rfl, (show Value.bool _ = .bool (eqB x y) by rw [← HCE.out]), Upd.refl _ _⟩
          case inr.inr.inr.inr.inr.inr.inr.inr.inr.inr.inr.inr.inr.inr.inr.inr.inr.inr.inl =>
            refine .inl ⟨by
              have := tmp_some (show b'.tmps.getD 67 undef = .bool true from hd ⟨13, .guard⟩ (by simp) rfl)
              simp [Region.wanted, yielded, this], ?_⟩
            have o3 : b'.eval (.tmp 3) = .pointer (some ⟨g3, 0, none⟩) := by
              have := hk 3 (fun j oj _ e => (nbkYDst_ne (by decide) e).elim)
              simpa [Act.eval] using this
            have hg1 := HW1.out.at_ HG3.out id
            exact wp_load_mid (w := w1') 63 (.tmp 3) rfl g3 0 o3 (nmCells x).toList _ (fun j u hj => by have := cellAt hg1 j u (by simpa using hj); simpa using this) Tryz.underlying63 rfl (by kernel_rfl) ⟨_, rfl, rfl, Upd.refl _ _⟩
          case inr.inr.inr.inr.inr.inr.inr.inr.inr.inr.inr.inr.inr.inr.inr.inr.inr.inr.inr.inl =>
            refine .inl ⟨by
              have := tmp_some (show b'.tmps.getD 67 undef = .bool true from hd ⟨13, .guard⟩ (by simp) rfl)
              simp [Region.wanted, yielded, this], ?_⟩
            have o4 : b'.eval (.tmp 4) = .pointer (some ⟨g4, 0, none⟩) := by
              have := hk 4 (fun j oj _ e => (nbkYDst_ne (by decide) e).elim)
              simpa [Act.eval] using this
            have hg1 := HW1.out.at_ HG4.out id
            exact wp_load_mid (w := w1') 63 (.tmp 4) rfl g4 0 o4 (nmCells y).toList _ (fun j u hj => by have := cellAt hg1 j u (by simpa using hj); simpa using this) Tryz.underlying63 rfl (by kernel_rfl) ⟨_, rfl, rfl, Upd.refl _ _⟩
          case inr.inr.inr.inr.inr.inr.inr.inr.inr.inr.inr.inr.inr.inr.inr.inr.inr.inr.inr.inr.inl =>
            refine .inl ⟨by
              have := tmp_some (show b'.tmps.getD 67 undef = .bool true from hd ⟨13, .guard⟩ (by simp) rfl)
              simp [Region.wanted, yielded, this], ?_⟩
            have o72 : b'.eval (.tmp 72) = .agg (nmCells x) := by
              have := (show b'.tmps.getD 72 undef = .agg (nmCells x) from hd ⟨18, .data⟩ (by simp) rfl)
              simpa [Act.eval] using this
            have o73 : b'.eval (.tmp 73) = .agg (nmCells y) := by
              have := (show b'.tmps.getD 73 undef = .agg (nmCells y) from hd ⟨19, .data⟩ (by simp) rfl)
              simpa [Act.eval] using this
            exact wp_eql_nm (.tmp 72) (.tmp 73) rfl o72 o73 ⟨_, rfl, rfl, Upd.refl _ _⟩
          case inr.inr.inr.inr.inr.inr.inr.inr.inr.inr.inr.inr.inr.inr.inr.inr.inr.inr.inr.inr.inr.inl =>
            refine .inl ⟨by
              have := tmp_some (show b'.tmps.getD 67 undef = .bool true from hd ⟨13, .guard⟩ (by simp) rfl)
              simp [Region.wanted, yielded, this], ?_⟩
            have e17 : b'.tmps[71]?.getD undef = .bool (eqB x y) := by have := (show b'.tmps.getD 71 undef = .bool (eqB x y) from hd ⟨17, .data⟩ (by simp) rfl); simpa using this
            have e20 : b'.tmps[74]?.getD undef = .bool (eqB x y) := by have := (show b'.tmps.getD 74 undef = .bool (eqB x y) from hd ⟨20, .data⟩ (by simp) rfl); simpa using this
            clear hd hk
            go_step
            exact ⟨_, rfl, (show Value.bool _ = .bool true by simp), Upd.refl _ _⟩
          case inr.inr.inr.inr.inr.inr.inr.inr.inr.inr.inr.inr.inr.inr.inr.inr.inr.inr.inr.inr.inr.inr.inl =>
            refine .inl ⟨by
              have := tmp_some (show b'.tmps.getD 57 undef = .bool false from hd ⟨3, .guard⟩ (by simp) rfl)
              simp [Region.wanted, yielded, this], ?_⟩
            have e13 : b'.tmps[67]?.getD undef = .bool true := by have := (show b'.tmps.getD 67 undef = .bool true from hd ⟨13, .data⟩ (by simp) rfl); simpa using this
            have e21 : b'.tmps[75]?.getD undef = .bool true := by have := (show b'.tmps.getD 75 undef = .bool true from hd ⟨21, .data⟩ (by simp) rfl); simpa using this
            clear hd hk
            go_step
            exact ⟨_, rfl, rfl, Upd.refl _ _⟩
          case inr.inr.inr.inr.inr.inr.inr.inr.inr.inr.inr.inr.inr.inr.inr.inr.inr.inr.inr.inr.inr.inr.inr.inl =>
            refine .inl ⟨by
              have := tmp_some (show b'.tmps.getD 57 undef = .bool false from hd ⟨3, .guard⟩ (by simp) rfl)
              simp [Region.wanted, yielded, this], ?_⟩
            have e22 : b'.tmps[76]?.getD undef = .bool true := by have := (show b'.tmps.getD 76 undef = .bool true from hd ⟨22, .data⟩ (by simp) rfl); simpa using this
            clear hd hk
            go_step
            exact ⟨_, rfl, rfl, Upd.refl _ _⟩
          case inr.inr.inr.inr.inr.inr.inr.inr.inr.inr.inr.inr.inr.inr.inr.inr.inr.inr.inr.inr.inr.inr.inr.inr.inl =>
            refine .inl ⟨by
              have := tmp_some (show b'.tmps.getD 77 undef = .bool true from hd ⟨23, .guard⟩ (by simp) rfl)
              simp [Region.wanted, yielded, this], ?_⟩
            have o3 : b'.eval (.tmp 3) = .pointer (some ⟨g3, 0, none⟩) := by
              have := hk 3 (fun j oj _ e => (nbkYDst_ne (by decide) e).elim)
              simpa [Act.eval] using this
            have hg1 := HW1.out.at_ HG3.out id
            exact wp_load_mid (w := w1') 63 (.tmp 3) rfl g3 0 o3 (nmCells x).toList _ (fun j u hj => by have := cellAt hg1 j u (by simpa using hj); simpa using this) Tryz.underlying63 rfl (by kernel_rfl) ⟨_, rfl, rfl, Upd.refl _ _⟩
          case inr.inr.inr.inr.inr.inr.inr.inr.inr.inr.inr.inr.inr.inr.inr.inr.inr.inr.inr.inr.inr.inr.inr.inr.inr.inl =>
            refine .inl ⟨by
              have := tmp_some (show b'.tmps.getD 77 undef = .bool true from hd ⟨23, .guard⟩ (by simp) rfl)
              simp [Region.wanted, yielded, this], ?_⟩
            have o4 : b'.eval (.tmp 4) = .pointer (some ⟨g4, 0, none⟩) := by
              have := hk 4 (fun j oj _ e => (nbkYDst_ne (by decide) e).elim)
              simpa [Act.eval] using this
            have hg1 := HW1.out.at_ HG4.out id
            exact wp_load_mid (w := w1') 63 (.tmp 4) rfl g4 0 o4 (nmCells y).toList _ (fun j u hj => by have := cellAt hg1 j u (by simpa using hj); simpa using this) Tryz.underlying63 rfl (by kernel_rfl) ⟨_, rfl, rfl, Upd.refl _ _⟩
          case inr.inr.inr.inr.inr.inr.inr.inr.inr.inr.inr.inr.inr.inr.inr.inr.inr.inr.inr.inr.inr.inr.inr.inr.inr.inr.inl =>
            refine .inl ⟨by
              have := tmp_some (show b'.tmps.getD 77 undef = .bool true from hd ⟨23, .guard⟩ (by simp) rfl)
              simp [Region.wanted, yielded, this], ?_⟩
            have e24 : b'.tmps[78]?.getD undef = .agg (nmCells x) := by have := (show b'.tmps.getD 78 undef = .agg (nmCells x) from hd ⟨24, .data⟩ (by simp) rfl); simpa using this
            have e25 : b'.tmps[79]?.getD undef = .agg (nmCells y) := by have := (show b'.tmps.getD 79 undef = .agg (nmCells y) from hd ⟨25, .data⟩ (by simp) rfl); simpa using this
            clear hd hk
            go_step
            refine (compare_any w1' x y HWX.out.kind HWY.out.kind).mono ?_
            rintro e w2 ⟨rfl, hu⟩
            exact ⟨_, rfl, rfl, hu⟩
          case inr.inr.inr.inr.inr.inr.inr.inr.inr.inr.inr.inr.inr.inr.inr.inr.inr.inr.inr.inr.inr.inr.inr.inr.inr.inr.inr.inl =>
            refine .inl ⟨by
              have := tmp_some (show b'.tmps.getD 77 undef = .bool true from hd ⟨23, .guard⟩ (by simp) rfl)
              simp [Region.wanted, yielded, this], ?_⟩
            have o4 : b'.eval (.tmp 4) = .pointer (some ⟨g4, 0, none⟩) := by
              have := hk 4 (fun j oj _ e => (nbkYDst_ne (by decide) e).elim)
              simpa [Act.eval] using this
            have hg1 := HW1.out.at_ HG4.out id
            exact wp_load_mid (w := w1') 63 (.tmp 4) rfl g4 0 o4 (nmCells y).toList _ (fun j u hj => by have := cellAt hg1 j u (by simpa using hj); simpa using this) Tryz.underlying63 rfl (by kernel_rfl) ⟨_, rfl, rfl, Upd.refl _ _⟩
          case inr.inr.inr.inr.inr.inr.inr.inr.inr.inr.inr.inr.inr.inr.inr.inr.inr.inr.inr.inr.inr.inr.inr.inr.inr.inr.inr.inr.inl =>
            refine .inl ⟨by
              have := tmp_some (show b'.tmps.getD 77 undef = .bool true from hd ⟨23, .guard⟩ (by simp) rfl)
              simp [Region.wanted, yielded, this], ?_⟩
            have o3 : b'.eval (.tmp 3) = .pointer (some ⟨g3, 0, none⟩) := by
              have := hk 3 (fun j oj _ e => (nbkYDst_ne (by decide) e).elim)
              simpa [Act.eval] using this
            have hg1 := HW1.out.at_ HG3.out id
            exact wp_load_mid (w := w1') 63 (.tmp 3) rfl g3 0 o3 (nmCells x).toList _ (fun j u hj => by have := cellAt hg1 j u (by simpa using hj); simpa using this) Tryz.underlying63 rfl (by kernel_rfl) ⟨_, rfl, rfl, Upd.refl _ _⟩
          case inr.inr.inr.inr.inr.inr.inr.inr.inr.inr.inr.inr.inr.inr.inr.inr.inr.inr.inr.inr.inr.inr.inr.inr.inr.inr.inr.inr.inr.inl =>
            refine .inl ⟨by
              have := tmp_some (show b'.tmps.getD 77 undef = .bool true from hd ⟨23, .guard⟩ (by simp) rfl)
              simp [Region.wanted, yielded, this], ?_⟩
            have e27 : b'.tmps[81]?.getD undef = .agg (nmCells y) := by have := (show b'.tmps.getD 81 undef = .agg (nmCells y) from hd ⟨27, .data⟩ (by simp) rfl); simpa using this
            have e28 : b'.tmps[82]?.getD undef = .agg (nmCells x) := by have := (show b'.tmps.getD 82 undef = .agg (nmCells x) from hd ⟨28, .data⟩ (by simp) rfl); simpa using this
            clear hd hk
            go_step
            refine (compare_any w1' y x HWY.out.kind HWX.out.kind).mono ?_
            rintro e w2 ⟨rfl, hu⟩
            exact ⟨_, rfl, rfl, hu⟩
          case inr.inr.inr.inr.inr.inr.inr.inr.inr.inr.inr.inr.inr.inr.inr.inr.inr.inr.inr.inr.inr.inr.inr.inr.inr.inr.inr.inr.inr.inr.inl =>
            refine .inl ⟨by
              have := tmp_some (show b'.tmps.getD 77 undef = .bool true from hd ⟨23, .guard⟩ (by simp) rfl)
              simp [Region.wanted, yielded, this], ?_⟩
            have e29 : b'.tmps[83]?.getD undef = .int .i64 (orF (cmps y x)) := by have := (show b'.tmps.getD 83 undef = .int .i64 (orF (cmps y x)) from hd ⟨29, .data⟩ (by simp) rfl); simpa using this
            clear hd hk
            go_step
            exact ⟨_, rfl, (show Value.int .i64 (wrap64 (-orF (cmps y x))) = _ from HNG.out ()), Upd.refl _ _⟩
          case inr.inr.inr.inr.inr.inr.inr.inr.inr.inr.inr.inr.inr.inr.inr.inr.inr.inr.inr.inr.inr.inr.inr.inr.inr.inr.inr.inr.inr.inr.inr.inl =>
            refine .inl ⟨by
              have := tmp_some (show b'.tmps.getD 77 undef = .bool true from hd ⟨23, .guard⟩ (by simp) rfl)
              simp [Region.wanted, yielded, this], ?_⟩
            have e26 : b'.tmps[80]?.getD undef = .int .i64 (orF (cmps x y)) := by have := (show b'.tmps.getD 80 undef = .int .i64 (orF (cmps x y)) from hd ⟨26, .data⟩ (by simp) rfl); simpa using this
            have e30 : b'.tmps[84]?.getD undef = .int .i64 (orF (cmps x y)) := by have := (show b'.tmps.getD 84 undef = .int .i64 (orF (cmps x y)) from hd ⟨30, .data⟩ (by simp) rfl); simpa using this
            clear hd hk
            go_step
            exact ⟨_, rfl, (show Value.bool _ = .bool true by simp), Upd.refl _ _⟩
          case inr.inr.inr.inr.inr.inr.inr.inr.inr.inr.inr.inr.inr.inr.inr.inr.inr.inr.inr.inr.inr.inr.inr.inr.inr.inr.inr.inr.inr.inr.inr.inr.inl =>
            refine .inl ⟨by
              have := tmp_some (show b'.tmps.getD 57 undef = .bool false from hd ⟨3, .guard⟩ (by simp) rfl)
              simp [Region.wanted, yielded, this], ?_⟩
            have e23 : b'.tmps[77]?.getD undef = .bool true := by have := (show b'.tmps.getD 77 undef = .bool true from hd ⟨23, .data⟩ (by simp) rfl); simpa using this
            have e31 : b'.tmps[85]?.getD undef = .bool true := by have := (show b'.tmps.getD 85 undef = .bool true from hd ⟨31, .data⟩ (by simp) rfl); simpa using this
            clear hd hk
            go_step
            exact ⟨_, rfl, rfl, Upd.refl _ _⟩
          case inr.inr.inr.inr.inr.inr.inr.inr.inr.inr.inr.inr.inr.inr.inr.inr.inr.inr.inr.inr.inr.inr.inr.inr.inr.inr.inr.inr.inr.inr.inr.inr.inr.inl =>
            refine .inl ⟨by simp [Region.wanted], ?_⟩
            have e3 : b'.tmps[57]?.getD undef = .bool false := by have := (show b'.tmps.getD 57 undef = .bool false from hd ⟨3, .data⟩ (by simp) rfl); simpa using this
            have e32 : b'.tmps[86]?.getD undef = .bool true := by have := (show b'.tmps.getD 86 undef = .bool true from hd ⟨32, .data⟩ (by simp) rfl); simpa using this
            clear hd hk
            go_step
            exact ⟨_, rfl, rfl, Upd.refl _ _⟩
          case inr.inr.inr.inr.inr.inr.inr.inr.inr.inr.inr.inr.inr.inr.inr.inr.inr.inr.inr.inr.inr.inr.inr.inr.inr.inr.inr.inr.inr.inr.inr.inr.inr.inr.inl =>
            refine .inl ⟨by simp [Region.wanted], ?_⟩
            have e33 : b'.tmps[87]?.getD undef = .bool true := by have := (show b'.tmps.getD 87 undef = .bool true from hd ⟨33, .data⟩ (by simp) rfl); simpa using this
            clear hd hk
            go_step
            exact ⟨_, rfl, rfl, Upd.refl _ _⟩
          case inr.inr.inr.inr.inr.inr.inr.inr.inr.inr.inr.inr.inr.inr.inr.inr.inr.inr.inr.inr.inr.inr.inr.inr.inr.inr.inr.inr.inr.inr.inr.inr.inr.inr.inr.inl =>
            refine .inl ⟨by
              have := tmp_some (show b'.tmps.getD 88 undef = .bool true from hd ⟨34, .guard⟩ (by simp) rfl)
              simp [Region.wanted, yielded, this], ?_⟩
            clear hd hk
            go_step
            refine (works_any w1' (HEE.out.ext HW1.out)).mono ?_
            rintro e w2 ⟨rfl, hu⟩
            exact ⟨_, rfl, rfl, hu⟩
          case inr.inr.inr.inr.inr.inr.inr.inr.inr.inr.inr.inr.inr.inr.inr.inr.inr.inr.inr.inr.inr.inr.inr.inr.inr.inr.inr.inr.inr.inr.inr.inr.inr.inr.inr.inr.inl =>
            refine .inl ⟨by simp [Region.wanted], ?_⟩
            have e34 : b'.tmps[88]?.getD undef = .bool true := by have := (show b'.tmps.getD 88 undef = .bool true from hd ⟨34, .data⟩ (by simp) rfl); simpa using this
            have e35 : b'.tmps[89]?.getD undef = .bool true := by have := (show b'.tmps.getD 89 undef = .bool true from hd ⟨35, .data⟩ (by simp) rfl); simpa using this
            clear hd hk
            go_step
            exact ⟨_, rfl, rfl, Upd.refl _ _⟩
          case inr.inr.inr.inr.inr.inr.inr.inr.inr.inr.inr.inr.inr.inr.inr.inr.inr.inr.inr.inr.inr.inr.inr.inr.inr.inr.inr.inr.inr.inr.inr.inr.inr.inr.inr.inr.inr =>
            refine .inl ⟨by simp [Region.wanted], ?_⟩
            have e36 : b'.tmps[90]?.getD undef = .bool true := by have := (show b'.tmps.getD 90 undef = .bool true from hd ⟨36, .data⟩ (by simp) rfl); simpa using this
            clear hd hk
            go_step
            exact ⟨_, rfl, rfl, Upd.refl _ _⟩
        · intro v w1' hx1' hp
          have h37 : v 37 = .bool true := hp 37 (by decide)
          have HX8 := Lib.hid (HXF.out.trans hx1')
          clear hp hx1'
          simp only [List.size_toArray, List.length_cons, List.length_nil, Nat.reduceAdd, fillAll, nbkYDst]
          go_simp
          go_wp2
          go_ret
          exact ⟨rfl, HX8.out⟩
end Go.Proofs.YtfniemagbapeaaaGreatDoor
