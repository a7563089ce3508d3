/-
  CONTRACT of name.Compare, its draws told: behind it lie new blocks and draws alone. No condition.
-/
import Derived.Test.YtfniemagbapeaaaGreatDoorNInvJ
import Derived.Test.YtfniemagbapeaaaGreatDoorNCmp2
namespace Go.Proofs.YtfniemagbapeaaaGreatDoor
open Go.RowKit

def ExtD (w w' : World) : Prop := Ext w w' ∧ w.drawn ≤ w'.drawn
theorem ExtD.refl (w : World) : ExtD w w := ⟨Upd.refl _ _, Nat.le_refl _⟩
theorem ExtD.trans {a b c : World} (h : ExtD a b) (h' : ExtD b c) : ExtD a c := ⟨h.1.trans h'.1, Nat.le_trans h.2 h'.2⟩
theorem ExtD.alloc {a b : World} (h : ExtD a b) (o : Obj) : ExtD a (b.alloc o) := ⟨h.1.alloc o, h.2⟩
theorem wp_region_K {P : Program} {id : Nat} {ops : Array Oper} {Q : Exit → Act → World → Prop} {a : Act} {w : World} (dst : Nat → Tmp) (N : Nat) (J : (Nat → Bool) → (Nat → Value) → World → Prop) (hm : P.follows .mixedOrders = true)
    (hac : ((List.range ops.size).all fun i => match ops[i]? with | some o => o.after.toList.all fun e => !(Region.binds .any e) || decide (e.on < i) | none => true) = true)
    (hinj : ((List.range ops.size).all fun j => (List.range ops.size).all fun k => decide (dst j = dst k → j = k)) = true) (hN : a.tmps.size = N)
    (h0 : J (fun _ => false) (fun _ => undef) { w with drawn := w.drawn + 1 })
    (step : ∀ (i : Nat) (o : Oper) (b : Act) (L : Nat → Bool) (v : Nat → Value) (w1 : World), ops[i]? = some o → L i = false → (∀ e ∈ o.after, Region.binds .any e = true → L e.on = true) →
      (∀ j, j < ops.size → L j = true → dst j < N → b.tmps.getD (dst j) undef = v j) → (∀ t, (∀ j, j < ops.size → dst j ≠ t) → b.tmps.getD t undef = a.tmps.getD t undef) → b.tmps.size = N → J L v w1 →
      (Region.wanted o (yielded ops b.tmps) = true ∧ o.wp P b w1 (fun b' w' => ∃ x, b' = b.put (some (dst i)) x ∧ J (mrkL L i) (mrkV v i x) w') Q) ∨ (Region.wanted o (yielded ops b.tmps) = false ∧ o.dst = some (dst i) ∧ J (mrkL L i) (mrkV v i undef) w1))
    (fin : ∀ L v w1, (∀ i, i < ops.size → L i = true) → J L v w1 → Q .normal (fillAll a dst v ops.size) w1) : (Code.region id ops true).wp P Q a w := by
  subst hN
  simp only [List.all_eq_true, List.mem_range, decide_eq_true_eq] at hinj
  have hacc : ∀ (i : Nat) (o : Oper), ops[i]? = some o → ∀ e ∈ o.after, Region.binds .any e = true → e.on < i := by
    intro i o ho e he hb
    have hlt : i < ops.size := (Array.getElem?_eq_some_iff.1 ho).1
    rw [List.all_eq_true] at hac
    have := hac i (List.mem_range.2 hlt)
    rw [ho] at this
    simp only [List.all_eq_true] at this
    have := this e (by simpa using he)
    rw [hb] at this
    simpa using this
  have done : ∀ (listed : Array Bool) (v : Nat → Value) (w1 : World), listed.size = ops.size → J (fun k => listed.getD k false) v w1 → Region.ready .any ops listed = [] → Q .normal (fillN a dst listed v ops.size) w1 := by
    intro listed v w1 hs hJ hr
    have hall := fun i hi => all_listedB hs hacc hr ops.size i hi hi
    rw [fillN_all _ hall]
    exact fin _ v w1 hall hJ
  have main : ∀ (fuel : Nat) (listed : Array Bool) (v : Nat → Value) (w1 : World), leftN listed ops.size ≤ fuel → listed.size = ops.size → J (fun k => listed.getD k false) v w1 → wpAny P .any ops Q fuel listed (fillN a dst listed v ops.size) w1 := by
    intro fuel
    induction fuel with
    | zero =>
      intro listed v w1 hl hs hJ
      have hall := leftN_zero (l := listed) ops.size (by omega)
      have hr : Region.ready .any ops listed = [] := by
        rw [List.eq_nil_iff_forall_not_mem]
        intro i hi
        obtain ⟨hh, o, ho, -⟩ := mem_ready.1 hi
        have hlt : i < ops.size := (Array.getElem?_eq_some_iff.1 ho).1
        rw [getD_flip (by omega), hall i hlt] at hh; cases hh
      exact ⟨hr, done _ _ _ hs hJ hr⟩
    | succ fuel ih =>
      intro listed v w1 hl hs hJ
      refine ⟨done _ _ _ hs hJ, fun i hi => ?_⟩
      obtain ⟨hh, o, ho, hall⟩ := mem_ready.1 hi
      have hlt : i < ops.size := (Array.getElem?_eq_some_iff.1 ho).1
      rw [getD_flip (by omega)] at hh
      have hw := step i o (fillN a dst listed v ops.size) (fun k => listed.getD k false) v w1 ho hh (fun e he hb => hall e he hb) (fun j hj hlj hd => (fillN_at hlj hd ops.size (fun j k hj hk => hinj j hj k hk) hj).1) (fun t ht => fillN_other ops.size fun j hj _ => ht j hj) (fillN_size _) hJ
      have fin2 : ∀ x w', J (mrkL (fun k => listed.getD k false) i) (mrkV v i x) w' → wpAny P .any ops Q fuel (listed.setIfInBounds i true) ((fillN a dst listed v ops.size).put (some (dst i)) x) w' := by
        intro x w' hJ'
        have hp2 := (fillN_put (a := a) (v := v) x hh ops.size (fun j hj hne he => hne (hinj j hj i hlt he)) (by omega)).1 hlt
        rw [hp2]
        refine ih _ _ _ (by have := (leftN_set hh (show i < listed.size by omega) ops.size).1 hlt; omega) (by simp [hs]) ?_
        rw [getD_mrkL (by omega)]
        exact hJ'
      unfold wpOp
      rw [ho]
      rcases hw with hw | hw
      · simp only [hw.1, if_true]
        refine .inl (Oper.wp_mono ?_ hw.2)
        rintro b' w' ⟨x, rfl, hJ'⟩
        exact fin2 x w' hJ'
      · simp only [hw.1]
        rw [if_neg (by decide), hw.2.1]
        exact fin2 undef w1 hw.2.2
  have hn : fillN a dst (Array.replicate ops.size false) (fun _ => undef) ops.size = a := fillN_none _ (fun i hi => by simp [hi])
  refine wp_region_any hm ?_
  have := main ops.size (Array.replicate ops.size false) (fun _ => undef) { w with drawn := w.drawn + 1 } (leftN_le _) (by simp) (by
    rw [show (fun k => (Array.replicate ops.size false).getD k false) = fun _ => false from by funext k; simp [Array.getD]]
    exact h0)
  rw [hn] at this
  exact this
theorem wp_region_D {P : Program} {id : Nat} {ops : Array Oper} {Q : Exit → Act → World → Prop} {a : Act} {w : World} (dst : Nat → Tmp) (Φ : Nat → Value → World → Prop) (N : Nat) (hm : P.follows .mixedOrders = true)
    (hac : ((List.range ops.size).all fun i => match ops[i]? with | some o => o.after.toList.all fun e => !(Region.binds .any e) || decide (e.on < i) | none => true) = true)
    (hinj : ((List.range ops.size).all fun j => (List.range ops.size).all fun k => decide (dst j = dst k → j = k)) = true) (hN : a.tmps.size = N) (hsz : ∀ i, i < ops.size → dst i < N)
    (hΦ : ∀ i v w w', Φ i v w → Ext w w' → Φ i v w')
    (step : ∀ (i : Nat) (o : Oper) (b : Act) (w1 : World), ops[i]? = some o → ExtD w w1 → (∀ e ∈ o.after, Region.binds .any e = true → Φ e.on (b.tmps.getD (dst e.on) undef) w1) → (∀ t, (∀ (j : Nat) (oj : Oper), ops[j]? = some oj → dst j = t → False) → b.tmps.getD t undef = a.tmps.getD t undef) →
      Region.wanted o (yielded ops b.tmps) = true ∧ o.wp P b w1 (fun b' w' => ∃ v, b' = b.put (some (dst i)) v ∧ Φ i v w' ∧ ExtD w1 w') Q)
    (fin : ∀ v w1, ExtD w w1 → (∀ i, i < ops.size → Φ i (v i) w1) → Q .normal (fillAll a dst v ops.size) w1) : (Code.region id ops true).wp P Q a w := by
  have hac' := hac
  simp only [List.all_eq_true, List.mem_range] at hac'
  have hlt : ∀ (i : Nat) (o : Oper), ops[i]? = some o → ∀ e ∈ o.after, Region.binds .any e = true → e.on < ops.size := by
    intro i o ho e he hb
    have hi : i < ops.size := (Array.getElem?_eq_some_iff.1 ho).1
    have := hac' i hi
    rw [ho] at this
    simp only [List.all_eq_true] at this
    have := this e (by simpa using he)
    rw [hb] at this
    simp at this
    omega
  refine wp_region_K dst N (fun L v w1 => ExtD w w1 ∧ ∀ i, i < ops.size → L i = true → Φ i (v i) w1) hm hac hinj hN ⟨⟨⟨rfl, rfl, rfl, Nat.le_refl _, fun _ _ _ => rfl⟩, Nat.le_succ _⟩, fun _ _ h => by cases h⟩ ?_ ?_
  · intro i o b L v w1 ho hLi hA hV hO hSZ hJ
    obtain ⟨hx, hp⟩ := hJ
    obtain ⟨h1, h2⟩ := step i o b w1 ho hx (fun e he hb => by
      have hl := hlt i o ho e he hb
      rw [hV e.on hl (hA e he hb) (hsz _ hl)]
      exact hp _ hl (hA e he hb)) (fun t ht => hO t (fun j hj e => ht j ops[j] (by simp [hj]) e))
    refine .inl ⟨h1, Oper.wp_mono ?_ h2⟩
    rintro b' w' ⟨x, rfl, hx1, hx2⟩
    refine ⟨x, rfl, hx.trans hx2, fun k hk hL => ?_⟩
    by_cases hki : k = i
    · subst hki; simpa [mrkV] using hx1
    · have hL' : L k = true := by simpa [mrkL, hki] using hL
      have := hΦ k _ _ _ (hp k hk hL') hx2.1
      simpa [mrkV, hki] using this
  · intro L v w1 hL hJ
    exact fin v w1 hJ.1 fun i hi => hJ.2 i hi (hL i hi)
theorem cmp8_D (w : World) (a b : Nat) : Calls Tryz.prog 74 #[.int .u8 a, .int .u8 b] w fun e w' => e = .returned (.int .i64 (cmpN a b)) ∧ ExtD w w' := by
  have h1 : ((a : Int) != (a : Int)) = false := by simp
  have h2 : ((b : Int) != (b : Int)) = false := by simp
  by_cases hl : a < b
  · have HC := Lib.hid (show cmpN a b = -1 by unfold cmpN; rw [if_pos hl])
    go_enter Tryz.func74, Tryz.ntmps74
    go_wp2
    go_ret
    exact ⟨by rw [HC.out]; rfl, ExtD.refl _⟩
  · by_cases hg : b < a
    · have HC := Lib.hid (show cmpN a b = 1 by unfold cmpN; rw [if_neg hl, if_pos hg])
      go_enter Tryz.func74, Tryz.ntmps74
      go_wp2
      go_ret
      exact ⟨by rw [HC.out]; rfl, ExtD.refl _⟩
    · have HC := Lib.hid (show cmpN a b = 0 by unfold cmpN; rw [if_neg hl, if_neg hg])
      go_enter Tryz.func74, Tryz.ntmps74
      go_wp2
      go_ret
      exact ⟨by rw [HC.out]; rfl, ExtD.refl _⟩
theorem cmp64_D (w : World) (a b : Nat) : Calls Tryz.prog 75 #[.int .u64 a, .int .u64 b] w fun e w' => e = .returned (.int .i64 (cmpN a b)) ∧ ExtD w w' := by
  have h1 : ((a : Int) != (a : Int)) = false := by simp
  have h2 : ((b : Int) != (b : Int)) = false := by simp
  by_cases hl : a < b
  · have HC := Lib.hid (show cmpN a b = -1 by unfold cmpN; rw [if_pos hl])
    go_enter Tryz.func75, Tryz.ntmps75
    go_wp2
    go_ret
    exact ⟨by rw [HC.out]; rfl, ExtD.refl _⟩
  · by_cases hg : b < a
    · have HC := Lib.hid (show cmpN a b = 1 by unfold cmpN; rw [if_neg hl, if_pos hg])
      go_enter Tryz.func75, Tryz.ntmps75
      go_wp2
      go_ret
      exact ⟨by rw [HC.out]; rfl, ExtD.refl _⟩
    · have HC := Lib.hid (show cmpN a b = 0 by unfold cmpN; rw [if_neg hl, if_neg hg])
      go_enter Tryz.func75, Tryz.ntmps75
      go_wp2
      go_ret
      exact ⟨by rw [HC.out]; rfl, ExtD.refl _⟩
set_option maxHeartbeats 400000 in
theorem or_D {S : Nat → Prop} (w : World) (v : Value) (l : List Int) (h : Row S w v l.length (l.map i64)) :
    Calls Tryz.prog 73 #[v] w fun e w' => e = .returned (.int .i64 (orF l)) ∧ ExtD w w' := by
  have g := h.addr
  have G := Lib.hid g
  obtain ⟨a, c, rfl, hn, hm, -⟩ := h
  unfold maxLen at hm
  clear g
  go_enter Tryz.func73, Tryz.ntmps73
  go_wp2
  go_loopw [8] (fun i wr => ∃ k : Nat, k ≤ l.length ∧ i = .int .i64 k ∧ ExtD w wr ∧ ∀ j (h : j < l.length), j < k → l[j] = 0) (fun i _ => l.length - (intOf i).toNat)
  case atStart => exact ⟨0, Nat.zero_le _, rfl, ExtD.refl _, fun j _ hj => absurd hj (Nat.not_lt_zero _)⟩
  case round =>
    obtain ⟨k, hk, rfl, hx, hno⟩ := hrel
    have HNO := Lib.hid hno
    clear hno
    by_cases hlt : k < l.length
    · obtain ⟨b, o, c', e, -, -, -, hq⟩ := G.out (by omega)
      cases e
      have hc := hx.1.cell (hq k (i64 l[k]) (by simp [hlt])) id
      obtain ⟨s, hs⟩ : ∃ s, s = l[k] := ⟨_, rfl⟩
      rw [← hs] at hc
      have HS := Lib.hid hs
      have HX := Lib.hid hx
      clear hx hq hs
      by_cases he : s = 0
      · have hb : (s != 0) = false := by simpa using he
        have HE := Lib.hid he
        clear he
        go_wp2
        go_roundw
        case rel =>
          refine ⟨k + 1, by omega, by go_num, HX.out, fun j hj hjk => ?_⟩
          by_cases hjk' : j = k
          · subst hjk'; rw [← HS.out]; exact HE.out
          · exact HNO.out j hj (by omega)
        case measure => simp [intOf]; omega
      · have hb : (s != 0) = true := by simpa using he
        have HE := Lib.hid he
        clear he
        go_wp2
        go_ret
        exact ⟨by rw [orF_at hlt HNO.out (by rw [← HS.out]; exact HE.out), ← HS.out]; rfl, HX.out⟩
    · go_wp2
      go_ret
      refine ⟨by rw [orF_zero (fun j hj => HNO.out j hj (by omega))]; rfl, hx⟩
set_option maxRecDepth 100000 in
set_option maxHeartbeats 4000000 in
theorem compare_D (w : World) (x y : Nm) :
    Calls Tryz.prog 49 #[.agg (nmCells x), .agg (nmCells y)] w fun e w' => e = .returned (.int .i64 (orF (cmps x y))) ∧ ExtD w w' := by
  have hb2 : ((w.alloc (.cells (nmCells x) 63)).alloc (.cells (nmCells y) 63)).heap[w.heap.size]? = some (.cells (nmCells x) 63 (0, 0)) := ((Upd.refl Nothing _).alloc _).at_ (newAt _ _) id
  have hb3 := newAt (w.alloc (.cells (nmCells x) 63)) (.cells (nmCells y) 63)
  have hx : ExtD w ((w.alloc (.cells (nmCells x) 63)).alloc (.cells (nmCells y) 63)) := ((ExtD.refl _).alloc _).alloc _
  obtain ⟨wb, hwb⟩ : ∃ u, u = (w.alloc (.cells (nmCells x) 63)).alloc (.cells (nmCells y) 63) := ⟨_, rfl⟩
  obtain ⟨g2, hg2⟩ : ∃ g, g = w.heap.size := ⟨_, rfl⟩
  obtain ⟨g3, hg3⟩ : ∃ g, g = w.heap.size + 1 := ⟨_, rfl⟩
  rw [← hwb, ← hg2] at hb2
  rw [← hwb, show (w.alloc (.cells (nmCells x) 63)).heap.size = g3 from by rw [hg3]; simp] at hb3
  rw [← hwb] at hx
  have HX := Lib.hid hx
  have HB2 := Lib.hid hb2
  have HB3 := Lib.hid hb3
  have HWB := Lib.hid hwb
  have HG2 := Lib.hid hg2
  have HG3 := Lib.hid hg3
  clear hx hb2 hb3 hwb hg2 hg3
  go_enter Tryz.func49, Tryz.ntmps49
  go_upto_region 1 with (fail)
  rw [show (w.alloc (.cells (nmCells x) 63)).alloc (.cells (nmCells y) 63) = wb from HWB.out.symm, show w.heap.size + 1 = g3 from HG3.out.symm, show w.heap.size = g2 from HG2.out.symm]
  refine wp_region_D ncmDst (ncmPhi x y g2 g3) 37 (by kernel_rfl) (by decide) (by decide) rfl (by decide : ∀ i, i < 33 → ncmDst i < 37) (fun i v w w' h hu => h.ext hu) ?_ ?_
  · intro i o b' w1' ho hx1' hd hk
    have hi : i < 33 := (Array.getElem?_eq_some_iff.1 ho).1
    have his : i = 0 ∨ i = 1 ∨ i = 2 ∨ i = 3 ∨ i = 4 ∨ i = 5 ∨ i = 6 ∨ i = 7 ∨ i = 8 ∨ i = 9 ∨ i = 10 ∨ i = 11 ∨ i = 12 ∨ i = 13 ∨ i = 14 ∨ i = 15 ∨ i = 16 ∨ i = 17 ∨ i = 18 ∨ i = 19 ∨ i = 20 ∨ i = 21 ∨ i = 22 ∨ i = 23 ∨ i = 24 ∨ i = 25 ∨ i = 26 ∨ i = 27 ∨ i = 28 ∨ i = 29 ∨ i = 30 ∨ i = 31 ∨ i = 32 := by omega
    have HW1 := Lib.hid hx1'
    clear hx1'
    rcases his with rfl | rfl | rfl | rfl | rfl | rfl | rfl | rfl | rfl | rfl | rfl | rfl | rfl | rfl | rfl | rfl | rfl | rfl | rfl | rfl | rfl | rfl | rfl | rfl | rfl | rfl | rfl | rfl | rfl | rfl | rfl | rfl | rfl
    all_goals (simp at ho; subst ho)
    case inl =>
      refine ⟨by simp [Region.wanted], ?_⟩
      have o2 : b'.tmps[2]?.getD undef = .pointer (some ⟨g2, 0, none⟩) := by
        have := hk 2 (fun j oj _ e => (ncmDst_ne (by decide) e).elim)
        simpa using this
      clear hd hk
      go_step
      exact ⟨_, rfl, rfl, ExtD.refl _⟩
    case inr.inl =>
      refine ⟨by simp [Region.wanted], ?_⟩
      have e0 : b'.tmps[5]?.getD undef = .pointer (some ⟨g2, 0, none⟩) := by have := (show b'.tmps.getD 5 undef = .pointer (some ⟨g2, 0, none⟩) from hd ⟨0, .data⟩ (by simp) rfl); simpa using this
      clear hd hk
      have hc : w1'.cell? ⟨g2, 0, none⟩ = some (.int .u8 x.kind) := cellAt (HW1.out.1.at_ HB2.out id) 0 _ rfl
      go_step
      exact ⟨_, rfl, rfl, ExtD.refl _⟩
    case inr.inr.inl =>
      refine ⟨by simp [Region.wanted], ?_⟩
      have o3 : b'.tmps[3]?.getD undef = .pointer (some ⟨g3, 0, none⟩) := by
        have := hk 3 (fun j oj _ e => (ncmDst_ne (by decide) e).elim)
        simpa using this
      clear hd hk
      go_step
      exact ⟨_, rfl, rfl, ExtD.refl _⟩
    case inr.inr.inr.inl =>
      refine ⟨by simp [Region.wanted], ?_⟩
      have e2 : b'.tmps[7]?.getD undef = .pointer (some ⟨g3, 0, none⟩) := by have := (show b'.tmps.getD 7 undef = .pointer (some ⟨g3, 0, none⟩) from hd ⟨2, .data⟩ (by simp) rfl); simpa using this
      clear hd hk
      have hc : w1'.cell? ⟨g3, 0, none⟩ = some (.int .u8 y.kind) := cellAt (HW1.out.1.at_ HB3.out id) 0 _ rfl
      go_step
      exact ⟨_, rfl, rfl, ExtD.refl _⟩
    case inr.inr.inr.inr.inl =>
      refine ⟨by simp [Region.wanted], ?_⟩
      have e1 : b'.tmps[6]?.getD undef = .int .u8 x.kind := by have := (show b'.tmps.getD 6 undef = .int .u8 x.kind from hd ⟨1, .data⟩ (by simp) rfl); simpa using this
      have e3 : b'.tmps[8]?.getD undef = .int .u8 y.kind := by have := (show b'.tmps.getD 8 undef = .int .u8 y.kind from hd ⟨3, .data⟩ (by simp) rfl); simpa using this
      clear hd hk
      go_step
      refine (cmp8_D w1' x.kind y.kind).mono ?_
      rintro e w2 ⟨rfl, hu⟩
      exact ⟨_, rfl, rfl, hu⟩
    case inr.inr.inr.inr.inr.inl =>
      refine ⟨by simp [Region.wanted], ?_⟩
      have o2 : b'.tmps[2]?.getD undef = .pointer (some ⟨g2, 0, none⟩) := by
        have := hk 2 (fun j oj _ e => (ncmDst_ne (by decide) e).elim)
        simpa using this
      clear hd hk
      go_step
      exact ⟨_, rfl, rfl, ExtD.refl _⟩
    case inr.inr.inr.inr.inr.inr.inl =>
      refine ⟨by simp [Region.wanted], ?_⟩
      have e5 : b'.tmps[10]?.getD undef = .pointer (some ⟨g2, 1, none⟩) := by have := (show b'.tmps.getD 10 undef = .pointer (some ⟨g2, 1, none⟩) from hd ⟨5, .data⟩ (by simp) rfl); simpa using this
      clear hd hk
      have hc : w1'.cell? ⟨g2, 1, none⟩ = some (u64 x.doc) := cellAt (HW1.out.1.at_ HB2.out id) 1 _ rfl
      go_step
      exact ⟨_, rfl, rfl, ExtD.refl _⟩
    case inr.inr.inr.inr.inr.inr.inr.inl =>
      refine ⟨by simp [Region.wanted], ?_⟩
      have o3 : b'.tmps[3]?.getD undef = .pointer (some ⟨g3, 0, none⟩) := by
        have := hk 3 (fun j oj _ e => (ncmDst_ne (by decide) e).elim)
        simpa using this
      clear hd hk
      go_step
      exact ⟨_, rfl, rfl, ExtD.refl _⟩
    case inr.inr.inr.inr.inr.inr.inr.inr.inl =>
      refine ⟨by simp [Region.wanted], ?_⟩
      have e7 : b'.tmps[12]?.getD undef = .pointer (some ⟨g3, 1, none⟩) := by have := (show b'.tmps.getD 12 undef = .pointer (some ⟨g3, 1, none⟩) from hd ⟨7, .data⟩ (by simp) rfl); simpa using this
      clear hd hk
      have hc : w1'.cell? ⟨g3, 1, none⟩ = some (u64 y.doc) := cellAt (HW1.out.1.at_ HB3.out id) 1 _ rfl
      go_step
      exact ⟨_, rfl, rfl, ExtD.refl _⟩
    case inr.inr.inr.inr.inr.inr.inr.inr.inr.inl =>
      refine ⟨by simp [Region.wanted], ?_⟩
      have e6 : b'.tmps[11]?.getD undef = u64 x.doc := by have := (show b'.tmps.getD 11 undef = u64 x.doc from hd ⟨6, .data⟩ (by simp) rfl); simpa using this
      have e8 : b'.tmps[13]?.getD undef = u64 y.doc := by have := (show b'.tmps.getD 13 undef = u64 y.doc from hd ⟨8, .data⟩ (by simp) rfl); simpa using this
      clear hd hk
      go_step
      refine (cmp64_D w1' x.doc y.doc).mono ?_
      rintro e w2 ⟨rfl, hu⟩
      exact ⟨_, rfl, rfl, hu⟩
    case inr.inr.inr.inr.inr.inr.inr.inr.inr.inr.inl =>
      refine ⟨by simp [Region.wanted], ?_⟩
      have o2 : b'.tmps[2]?.getD undef = .pointer (some ⟨g2, 0, none⟩) := by
        have := hk 2 (fun j oj _ e => (ncmDst_ne (by decide) e).elim)
        simpa using this
      clear hd hk
      go_step
      exact ⟨_, rfl, rfl, ExtD.refl _⟩
    case inr.inr.inr.inr.inr.inr.inr.inr.inr.inr.inr.inl =>
      refine ⟨by simp [Region.wanted], ?_⟩
      have e10 : b'.tmps[15]?.getD undef = .pointer (some ⟨g2, 2, none⟩) := by have := (show b'.tmps.getD 15 undef = .pointer (some ⟨g2, 2, none⟩) from hd ⟨10, .data⟩ (by simp) rfl); simpa using this
      clear hd hk
      have hc : w1'.cell? ⟨g2, 2, none⟩ = some (u64 x.n) := cellAt (HW1.out.1.at_ HB2.out id) 2 _ rfl
      go_step
      exact ⟨_, rfl, rfl, ExtD.refl _⟩
    case inr.inr.inr.inr.inr.inr.inr.inr.inr.inr.inr.inr.inl =>
      refine ⟨by simp [Region.wanted], ?_⟩
      have o3 : b'.tmps[3]?.getD undef = .pointer (some ⟨g3, 0, none⟩) := by
        have := hk 3 (fun j oj _ e => (ncmDst_ne (by decide) e).elim)
        simpa using this
      clear hd hk
      go_step
      exact ⟨_, rfl, rfl, ExtD.refl _⟩
    case inr.inr.inr.inr.inr.inr.inr.inr.inr.inr.inr.inr.inr.inl =>
      refine ⟨by simp [Region.wanted], ?_⟩
      have e12 : b'.tmps[17]?.getD undef = .pointer (some ⟨g3, 2, none⟩) := by have := (show b'.tmps.getD 17 undef = .pointer (some ⟨g3, 2, none⟩) from hd ⟨12, .data⟩ (by simp) rfl); simpa using this
      clear hd hk
      have hc : w1'.cell? ⟨g3, 2, none⟩ = some (u64 y.n) := cellAt (HW1.out.1.at_ HB3.out id) 2 _ rfl
      go_step
      exact ⟨_, rfl, rfl, ExtD.refl _⟩
    case inr.inr.inr.inr.inr.inr.inr.inr.inr.inr.inr.inr.inr.inr.inl =>
      refine ⟨by simp [Region.wanted], ?_⟩
      have e11 : b'.tmps[16]?.getD undef = u64 x.n := by have := (show b'.tmps.getD 16 undef = u64 x.n from hd ⟨11, .data⟩ (by simp) rfl); simpa using this
      have e13 : b'.tmps[18]?.getD undef = u64 y.n := by have := (show b'.tmps.getD 18 undef = u64 y.n from hd ⟨13, .data⟩ (by simp) rfl); simpa using this
      clear hd hk
      go_step
      refine (cmp64_D w1' x.n y.n).mono ?_
      rintro e w2 ⟨rfl, hu⟩
      exact ⟨_, rfl, rfl, hu⟩
    case inr.inr.inr.inr.inr.inr.inr.inr.inr.inr.inr.inr.inr.inr.inr.inl =>
      refine ⟨by simp [Region.wanted], ?_⟩
      have o2 : b'.tmps[2]?.getD undef = .pointer (some ⟨g2, 0, none⟩) := by
        have := hk 2 (fun j oj _ e => (ncmDst_ne (by decide) e).elim)
        simpa using this
      clear hd hk
      go_step
      exact ⟨_, rfl, rfl, ExtD.refl _⟩
    case inr.inr.inr.inr.inr.inr.inr.inr.inr.inr.inr.inr.inr.inr.inr.inr.inl =>
      refine ⟨by simp [Region.wanted], ?_⟩
      have e15 : b'.tmps[20]?.getD undef = .pointer (some ⟨g2, 3, none⟩) := by have := (show b'.tmps.getD 20 undef = .pointer (some ⟨g2, 3, none⟩) from hd ⟨15, .data⟩ (by simp) rfl); simpa using this
      clear hd hk
      have hc : w1'.cell? ⟨g2, 3, none⟩ = some (u64 x.proc) := cellAt (HW1.out.1.at_ HB2.out id) 3 _ rfl
      go_step
      exact ⟨_, rfl, rfl, ExtD.refl _⟩
    case inr.inr.inr.inr.inr.inr.inr.inr.inr.inr.inr.inr.inr.inr.inr.inr.inr.inl =>
      refine ⟨by simp [Region.wanted], ?_⟩
      have o3 : b'.tmps[3]?.getD undef = .pointer (some ⟨g3, 0, none⟩) := by
        have := hk 3 (fun j oj _ e => (ncmDst_ne (by decide) e).elim)
        simpa using this
      clear hd hk
      go_step
      exact ⟨_, rfl, rfl, ExtD.refl _⟩
    case inr.inr.inr.inr.inr.inr.inr.inr.inr.inr.inr.inr.inr.inr.inr.inr.inr.inr.inl =>
      refine ⟨by simp [Region.wanted], ?_⟩
      have e17 : b'.tmps[22]?.getD undef = .pointer (some ⟨g3, 3, none⟩) := by have := (show b'.tmps.getD 22 undef = .pointer (some ⟨g3, 3, none⟩) from hd ⟨17, .data⟩ (by simp) rfl); simpa using this
      clear hd hk
      have hc : w1'.cell? ⟨g3, 3, none⟩ = some (u64 y.proc) := cellAt (HW1.out.1.at_ HB3.out id) 3 _ rfl
      go_step
      exact ⟨_, rfl, rfl, ExtD.refl _⟩
    case inr.inr.inr.inr.inr.inr.inr.inr.inr.inr.inr.inr.inr.inr.inr.inr.inr.inr.inr.inl =>
      refine ⟨by simp [Region.wanted], ?_⟩
      have e16 : b'.tmps[21]?.getD undef = u64 x.proc := by have := (show b'.tmps.getD 21 undef = u64 x.proc from hd ⟨16, .data⟩ (by simp) rfl); simpa using this
      have e18 : b'.tmps[23]?.getD undef = u64 y.proc := by have := (show b'.tmps.getD 23 undef = u64 y.proc from hd ⟨18, .data⟩ (by simp) rfl); simpa using this
      clear hd hk
      go_step
      refine (cmp64_D w1' x.proc y.proc).mono ?_
      rintro e w2 ⟨rfl, hu⟩
      exact ⟨_, rfl, rfl, hu⟩
    case inr.inr.inr.inr.inr.inr.inr.inr.inr.inr.inr.inr.inr.inr.inr.inr.inr.inr.inr.inr.inl =>
      refine ⟨by simp [Region.wanted], ?_⟩
      have o2 : b'.tmps[2]?.getD undef = .pointer (some ⟨g2, 0, none⟩) := by
        have := hk 2 (fun j oj _ e => (ncmDst_ne (by decide) e).elim)
        simpa using this
      clear hd hk
      go_step
      exact ⟨_, rfl, rfl, ExtD.refl _⟩
    case inr.inr.inr.inr.inr.inr.inr.inr.inr.inr.inr.inr.inr.inr.inr.inr.inr.inr.inr.inr.inr.inl =>
      refine ⟨by simp [Region.wanted], ?_⟩
      have e20 : b'.tmps[25]?.getD undef = .pointer (some ⟨g2, 4, none⟩) := by have := (show b'.tmps.getD 25 undef = .pointer (some ⟨g2, 4, none⟩) from hd ⟨20, .data⟩ (by simp) rfl); simpa using this
      clear hd hk
      have hc : w1'.cell? ⟨g2, 4, none⟩ = some (u64 x.inc) := cellAt (HW1.out.1.at_ HB2.out id) 4 _ rfl
      go_step
      exact ⟨_, rfl, rfl, ExtD.refl _⟩
    case inr.inr.inr.inr.inr.inr.inr.inr.inr.inr.inr.inr.inr.inr.inr.inr.inr.inr.inr.inr.inr.inr.inl =>
      refine ⟨by simp [Region.wanted], ?_⟩
      have o3 : b'.tmps[3]?.getD undef = .pointer (some ⟨g3, 0, none⟩) := by
        have := hk 3 (fun j oj _ e => (ncmDst_ne (by decide) e).elim)
        simpa using this
      clear hd hk
      go_step
      exact ⟨_, rfl, rfl, ExtD.refl _⟩
    case inr.inr.inr.inr.inr.inr.inr.inr.inr.inr.inr.inr.inr.inr.inr.inr.inr.inr.inr.inr.inr.inr.inr.inl =>
      refine ⟨by simp [Region.wanted], ?_⟩
      have e22 : b'.tmps[27]?.getD undef = .pointer (some ⟨g3, 4, none⟩) := by have := (show b'.tmps.getD 27 undef = .pointer (some ⟨g3, 4, none⟩) from hd ⟨22, .data⟩ (by simp) rfl); simpa using this
      clear hd hk
      have hc : w1'.cell? ⟨g3, 4, none⟩ = some (u64 y.inc) := cellAt (HW1.out.1.at_ HB3.out id) 4 _ rfl
      go_step
      exact ⟨_, rfl, rfl, ExtD.refl _⟩
    case inr.inr.inr.inr.inr.inr.inr.inr.inr.inr.inr.inr.inr.inr.inr.inr.inr.inr.inr.inr.inr.inr.inr.inr.inl =>
      refine ⟨by simp [Region.wanted], ?_⟩
      have e21 : b'.tmps[26]?.getD undef = u64 x.inc := by have := (show b'.tmps.getD 26 undef = u64 x.inc from hd ⟨21, .data⟩ (by simp) rfl); simpa using this
      have e23 : b'.tmps[28]?.getD undef = u64 y.inc := by have := (show b'.tmps.getD 28 undef = u64 y.inc from hd ⟨23, .data⟩ (by simp) rfl); simpa using this
      clear hd hk
      go_step
      refine (cmp64_D w1' x.inc y.inc).mono ?_
      rintro e w2 ⟨rfl, hu⟩
      exact ⟨_, rfl, rfl, hu⟩
    case inr.inr.inr.inr.inr.inr.inr.inr.inr.inr.inr.inr.inr.inr.inr.inr.inr.inr.inr.inr.inr.inr.inr.inr.inr.inl =>
      refine ⟨by simp [Region.wanted], ?_⟩
      have o2 : b'.tmps[2]?.getD undef = .pointer (some ⟨g2, 0, none⟩) := by
        have := hk 2 (fun j oj _ e => (ncmDst_ne (by decide) e).elim)
        simpa using this
      clear hd hk
      go_step
      exact ⟨_, rfl, rfl, ExtD.refl _⟩
    case inr.inr.inr.inr.inr.inr.inr.inr.inr.inr.inr.inr.inr.inr.inr.inr.inr.inr.inr.inr.inr.inr.inr.inr.inr.inr.inl =>
      refine ⟨by simp [Region.wanted], ?_⟩
      have e25 : b'.tmps[30]?.getD undef = .pointer (some ⟨g2, 5, none⟩) := by have := (show b'.tmps.getD 30 undef = .pointer (some ⟨g2, 5, none⟩) from hd ⟨25, .data⟩ (by simp) rfl); simpa using this
      clear hd hk
      have hc : w1'.cell? ⟨g2, 5, none⟩ = some (u64 x.k) := cellAt (HW1.out.1.at_ HB2.out id) 5 _ rfl
      go_step
      exact ⟨_, rfl, rfl, ExtD.refl _⟩
    case inr.inr.inr.inr.inr.inr.inr.inr.inr.inr.inr.inr.inr.inr.inr.inr.inr.inr.inr.inr.inr.inr.inr.inr.inr.inr.inr.inl =>
      refine ⟨by simp [Region.wanted], ?_⟩
      have o3 : b'.tmps[3]?.getD undef = .pointer (some ⟨g3, 0, none⟩) := by
        have := hk 3 (fun j oj _ e => (ncmDst_ne (by decide) e).elim)
        simpa using this
      clear hd hk
      go_step
      exact ⟨_, rfl, rfl, ExtD.refl _⟩
    case inr.inr.inr.inr.inr.inr.inr.inr.inr.inr.inr.inr.inr.inr.inr.inr.inr.inr.inr.inr.inr.inr.inr.inr.inr.inr.inr.inr.inl =>
      refine ⟨by simp [Region.wanted], ?_⟩
      have e27 : b'.tmps[32]?.getD undef = .pointer (some ⟨g3, 5, none⟩) := by have := (show b'.tmps.getD 32 undef = .pointer (some ⟨g3, 5, none⟩) from hd ⟨27, .data⟩ (by simp) rfl); simpa using this
      clear hd hk
      have hc : w1'.cell? ⟨g3, 5, none⟩ = some (u64 y.k) := cellAt (HW1.out.1.at_ HB3.out id) 5 _ rfl
      go_step
      exact ⟨_, rfl, rfl, ExtD.refl _⟩
    case inr.inr.inr.inr.inr.inr.inr.inr.inr.inr.inr.inr.inr.inr.inr.inr.inr.inr.inr.inr.inr.inr.inr.inr.inr.inr.inr.inr.inr.inl =>
      refine ⟨by simp [Region.wanted], ?_⟩
      have e26 : b'.tmps[31]?.getD undef = u64 x.k := by have := (show b'.tmps.getD 31 undef = u64 x.k from hd ⟨26, .data⟩ (by simp) rfl); simpa using this
      have e28 : b'.tmps[33]?.getD undef = u64 y.k := by have := (show b'.tmps.getD 33 undef = u64 y.k from hd ⟨28, .data⟩ (by simp) rfl); simpa using this
      clear hd hk
      go_step
      refine (cmp64_D w1' x.k y.k).mono ?_
      rintro e w2 ⟨rfl, hu⟩
      exact ⟨_, rfl, rfl, hu⟩
    case inr.inr.inr.inr.inr.inr.inr.inr.inr.inr.inr.inr.inr.inr.inr.inr.inr.inr.inr.inr.inr.inr.inr.inr.inr.inr.inr.inr.inr.inr.inl =>
      refine ⟨by simp [Region.wanted], ?_⟩
      have e4 : b'.tmps[9]?.getD undef = .int .i64 (cmpN x.kind y.kind) := by have := (show b'.tmps.getD 9 undef = .int .i64 (cmpN x.kind y.kind) from hd ⟨4, .data⟩ (by simp) rfl); simpa using this
      have e9 : b'.tmps[14]?.getD undef = .int .i64 (cmpN x.doc y.doc) := by have := (show b'.tmps.getD 14 undef = .int .i64 (cmpN x.doc y.doc) from hd ⟨9, .data⟩ (by simp) rfl); simpa using this
      have e14 : b'.tmps[19]?.getD undef = .int .i64 (cmpN x.n y.n) := by have := (show b'.tmps.getD 19 undef = .int .i64 (cmpN x.n y.n) from hd ⟨14, .data⟩ (by simp) rfl); simpa using this
      have e19 : b'.tmps[24]?.getD undef = .int .i64 (cmpN x.proc y.proc) := by have := (show b'.tmps.getD 24 undef = .int .i64 (cmpN x.proc y.proc) from hd ⟨19, .data⟩ (by simp) rfl); simpa using this
      have e24 : b'.tmps[29]?.getD undef = .int .i64 (cmpN x.inc y.inc) := by have := (show b'.tmps.getD 29 undef = .int .i64 (cmpN x.inc y.inc) from hd ⟨24, .data⟩ (by simp) rfl); simpa using this
      have e29 : b'.tmps[34]?.getD undef = .int .i64 (cmpN x.k y.k) := by have := (show b'.tmps.getD 34 undef = .int .i64 (cmpN x.k y.k) from hd ⟨29, .data⟩ (by simp) rfl); simpa using this
      clear hd hk
      go_step
      exact ⟨_, rfl, (show CmpRow x y _ _ from (row_new w1' ((cmps x y).map i64).toArray 3 6 w1'.heap.size (by decide) rfl).mono (fun _ _ => trivial)), (ExtD.refl _).alloc _⟩
    case inr.inr.inr.inr.inr.inr.inr.inr.inr.inr.inr.inr.inr.inr.inr.inr.inr.inr.inr.inr.inr.inr.inr.inr.inr.inr.inr.inr.inr.inr.inr.inl =>
      refine ⟨by simp [Region.wanted], ?_⟩
      have h30 := hd ⟨30, .data⟩ (by simp) rfl
      have h30 : CmpRow x y (b'.tmps.getD 35 undef) w1' := h30
      have h30' := h30
      obtain ⟨a30, c30, q30, -, -, -⟩ := h30'
      have e30 : b'.tmps[35]?.getD undef = .slice a30 6 c30 := by simpa using q30
      rw [show b'.tmps.getD 35 undef = .slice a30 6 c30 from q30] at h30
      clear hd hk
      go_step
      refine (or_D w1' _ (cmps x y) h30).mono ?_
      rintro e w2 ⟨rfl, hu⟩
      exact ⟨_, rfl, rfl, hu⟩
    case inr.inr.inr.inr.inr.inr.inr.inr.inr.inr.inr.inr.inr.inr.inr.inr.inr.inr.inr.inr.inr.inr.inr.inr.inr.inr.inr.inr.inr.inr.inr.inr =>
      refine ⟨by simp [Region.wanted], ?_⟩
      have e31 : b'.tmps[36]?.getD undef = .int .i64 (orF (cmps x y)) := by have := (show b'.tmps.getD 36 undef = .int .i64 (orF (cmps x y)) from hd ⟨31, .data⟩ (by simp) rfl); simpa using this
      clear hd hk
      go_step
      exact ⟨_, rfl, rfl, ExtD.refl _⟩
  · intro v w1' hx1' hp
    have hz : v 32 = .int .i64 (orF (cmps x y)) := hp 32 (by decide)
    have HX8 := Lib.hid (HX.out.trans hx1')
    clear hp hx1'
    simp only [List.size_toArray, List.length_cons, List.length_nil, Nat.reduceAdd, fillAll, ncmDst]
    go_simp
    go_wp2
    go_ret
    exact ⟨rfl, HX8.out⟩
end Go.Proofs.YtfniemagbapeaaaGreatDoor
