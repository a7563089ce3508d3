/-
  CONTRACT of the pins' Right. Condition: at most 1000000 pins.
  CONTRACT of the pins' Take. Condition: at most 1000000 bytes.
-/
import Derived.Test.YtnkmpoplibnflaaGreatDoorGAO
set_option maxRecDepth 100000
set_option maxHeartbeats 16000000
namespace Go.Proofs.YtnkmpoplibnflaaGreatDoor.Wk
open Go Go.Proofs.YtnkmpoplibnflaaGreatDoor Go.RowKit
def riseBy {α : Type} (r : α -> α -> Bool) : List α -> Bool
 | [] => true
 | [_] => true
 | a :: b :: l => r a b && riseBy r (b :: l)
theorem riseT_by : ∀ l : List Tr, riseT l = riseBy (fun a b => decide (a.1 < b.1)) l
 | [] => rfl
 | [_] => rfl
 | a :: b :: l => by rw [riseT, riseBy, riseT_by (b :: l)]
theorem riseL_by : ∀ l : List Tr, riseL l = riseBy trLt l
 | [] => rfl
 | [_] => rfl
 | a :: b :: l => by rw [riseL, riseBy, riseL_by (b :: l)]
theorem rise_bad {α : Type} {r : α -> α -> Bool} : ∀ {l : List α} {m : Nat} (h : m + 1 < l.length), r l[m] l[m + 1] = false -> riseBy r l = false
 | [], _, h, _ => by simp at h
 | [_], _, h, _ => by simp at h
 | a :: b :: l, 0, _, e => by simp at e; simp [riseBy, e]
 | a :: b :: l, m + 1, h, e => by
  have := rise_bad (r := r) (l := b :: l) (m := m) (by simpa using h) (by simpa using e)
  simp [riseBy, this]
theorem rise_ok {α : Type} {r : α -> α -> Bool} : ∀ {l : List α}, (∀ m (h : m + 1 < l.length), r l[m] l[m + 1] = true) -> riseBy r l = true
 | [], _ => rfl
 | [_], _ => rfl
 | a :: b :: l, h => by
  have h0 := h 0 (by simp)
  simp at h0
  have := rise_ok (r := r) (l := b :: l) (fun m hm => by have := h (m + 1) (by simpa using hm); simpa using this)
  simp [riseBy, h0, this]
theorem pinsRight_any {S : Nat -> Prop} (w : World) (v : Value) (l : List Tr) (h : Row S w v l.length (flatT l)) (hlen : l.length <= 1000000) :
  Calls Tryz.prog 160 #[.agg #[v]] w fun e w' => e = .returned (.bool (riseT l)) /\ Ext w w' := by
 have H := zq h
 obtain ⟨a0, c0, rfl, hn, hm, -⟩ := h
 unfold maxLen at hm
 obtain ⟨w1, hw1⟩ : ∃ u, u = w.alloc (.cells #[.slice a0 l.length c0] 205) := ⟨_, rfl⟩
 have hx1 : Ext w w1 := by rw [hw1]; exact uZ.alloc _
 have hg1 : w1.heap[w.heap.size]? = some (.cells #[.slice a0 l.length c0] 205 (0, 0)) := by rw [hw1]; exact newAt _ _
 have HX1 := zq hx1
 have HG1 := zq hg1
 have HW1 := zq hw1
 have p0 := cZ hg1 0 _ rfl
 have pl := lZ hg1
 clear hx1 hg1 hw1
 go_enter Tryz.func160, Tryz.ntmps160
 go_upto_region 1 with fail
 rw [show w.alloc (.cells #[.slice a0 l.length c0] 205) = w1 from HW1.out.symm]
 go_wp2
 go_loopw [7] (fun t wr => ∃ n : Nat, n <= l.length /\ t = .int .i64 n /\ Hid (∀ m (h : m + 1 < l.length), m + 1 < n -> l[m].1 < l[m + 1].1) /\ Hid (Ext w1 wr)) (fun t _ => l.length - (intOf t).toNat)
 case atStart => exact ⟨0, Nat.zero_le _, rfl, zq (fun m _ h => (by omega)), zq uZ⟩
 case round =>
  obtain ⟨n, hn', rfl, HUP, HX⟩ := hrel
  have hg := HX.out.at_ HG1.out id
  have r0 := cZ hg 0 _ rfl
  have rl := lZ hg
  clear p0 pl hg
  by_cases hlt : n < l.length
  ·obtain ⟨b1, o1, c1, e1, -, -, -, hq1⟩ := (H.out.ext (HX1.out.trans HX.out)).addr (by omega)
   cases e1
   have HLT := zq hlt
   by_cases hn0 : n = 0
   ·have HN := zq hn0
    have hb : decide (0 < n) = false := by simp [hn0]
    clear hn0 hq1
    go_upto_region 4 with fail
    go_region
    go_wp2
    go_roundw
    case rel => exact ⟨n + 1, by omega, by go_num, zq (fun m _ h => (by have := HN.out; omega)), zq HX.out.drew⟩
    case measure => simp [intOf]; omega
   ·obtain ⟨m, hmn⟩ : ∃ m, n = m + 1 := ⟨n - 1, by omega⟩
    subst hmn
    have hb : decide (0 < m + 1) = true := by simp
    have d0 : wr.cell? ⟨b1, o1 + m * 3, none⟩ = some (.int .u64 (l[m].1 : Int)) := hq1 _ _ (flatT_at m (by omega)).1
    have d1 : wr.cell? ⟨b1, o1 + (m + 1) * 3, none⟩ = some (.int .u64 (l[m + 1].1 : Int)) := hq1 _ _ (flatT_at (m + 1) hlt).1
    clear hq1 hn0
    obtain ⟨x, hx⟩ : ∃ x, x = l[m].1 := ⟨_, rfl⟩
    obtain ⟨y, hy⟩ : ∃ x, x = l[m + 1].1 := ⟨_, rfl⟩
    rw [<- hx] at d0
    rw [<- hy] at d1
    by_cases hxy : x < y
    ·have hxi : ¬ (y : Int) <= (x : Int) := by omega
     have HXY := zq (show l[m].1 < l[m + 1].1 by rw [<- hx, <- hy]; exact hxy)
     clear hx hy hxy
     go_upto_region 4 with fail
     go_region
     go_wp2
     go_roundw
     case rel =>
      refine ⟨m + 1 + 1, by omega, by go_num, zq (fun k h hk => ?_), zq HX.out.drew⟩
      rcases Nat.lt_or_ge (k + 1) (m + 1) with g | g
      ·exact HUP.out k h g
      ·have e2 : k = m := by omega
       subst e2; exact HXY.out
     case measure => simp [intOf]; omega
    ·have hxi : (y : Int) <= (x : Int) := by omega
     have HB := zq (show riseT l = false by rw [riseT_by]; exact rise_bad hlt (decide_eq_false (by rw [hx, hy] at hxy; exact hxy)))
     clear hx hy hxy
     go_upto_region 4 with fail
     go_region
     go_wp2
     go_ret
     exact ⟨by rw [HB.out]; rfl, (HX1.out.trans HX.out).drew⟩
  ·have HB := zq (show riseT l = true by rw [riseT_by]; exact rise_ok (fun m h => by have := HUP.out m h (by omega); simpa using this))
   go_wp2
   go_ret
   exact ⟨by rw [HB.out]; rfl, HX1.out.trans HX.out⟩
end Go.Proofs.YtnkmpoplibnflaaGreatDoor.Wk
set_option maxRecDepth 100000
set_option maxHeartbeats 16000000
namespace Go.Proofs.YtnkmpoplibnflaaGreatDoor.Wk
open Go Go.Proofs.YtnkmpoplibnflaaGreatDoor Go.RowKit
theorem Tryz.pinT : SliceT Tryz.prog 203 276 3 24 := sliceT_of Tryz.underlying203 (by kernel_rfl) (by decide)
theorem Tryz.pinsT (x : Value) : StructT Tryz.prog 205 (#[x] : Array Value).size := ⟨_, Tryz.underlying205, rfl, by kernel_rfl⟩
def PinsPost (w : World) (l : List UInt8) (p : Nat) (e : Ending) (w' : World) : Prop := Ext w w' ∧
 (∀ ps q, pinsO l p = some (ps, q) -> ∃ v, e = .returned (.tuple #[.agg #[v], .int .i64 (q : Int), .int .i64 0]) /\ Row (From w.heap.size) w' v ps.length (flatT ps)) ∧
 (pinsO l p = none -> ∃ (E : Int) (a : Nat), E ≠ 0 /\ e = .returned (.tuple #[.agg #[.slice none 0 0], .int .i64 (a : Int), .int .i64 E]))
theorem pinsO_no {l : List UInt8} {p : Nat} (h : numO l p = none) : pinsO l p = none := by simp [pinsO, h]
theorem pinsO_bad {l : List UInt8} {M p a : Nat} (h : numO l p = some (M, a)) (hm : manyO (tripO l) M a = none) : pinsO l p = none := by simp [pinsO, h, hm]
theorem pinsO_is {l : List UInt8} {M p a q : Nat} {es : List Tr} (h : numO l p = some (M, a)) (hm : manyO (tripO l) M a = some (es, q)) : pinsO l p = if riseT es = true then some (es, q) else none := by simp [pinsO, h, hm]
theorem pinsTake_any {S : Nat -> Prop} (w : World) (v : Value) (l : List UInt8) (h : Bytes S w v l) (p : Nat) (hp : p <= l.length) (hl : l.length <= 1000000) :
  Calls Tryz.prog 148 #[v, .int .i64 p] w (PinsPost w l p) := by
 have H := zq h
 obtain ⟨a0, c0, rfl, hn, hm, -⟩ := h
 obtain ⟨w1, hw1⟩ : ∃ u, u = w.alloc (.cells #[.slice none 0 0] 205) := ⟨_, rfl⟩
 have hx1 : Ext w w1 := by rw [hw1]; exact uZ.alloc _
 have hg1 : w1.heap[w.heap.size]? = some (.cells #[.slice none 0 0] 205 (0, 0)) := by rw [hw1]; exact newAt _ _
 have HX1 := zq hx1
 have HG1 := zq hg1
 have HW1 := zq hw1
 clear hx1 hg1 hw1
 go_enter Tryz.func148, Tryz.ntmps148
 go_wp2_with (go_at_call 145; fail)
 rw [show w.alloc (.cells #[.slice none 0 0] 205) = w1 from HW1.out.symm]
 refine (vNum_any w1 _ l (H.out.ext HX1.out) p hp).mono ?_
 intro e w2 hpo
 obtain ⟨M, a1, E1, rfl, hok, hbad, hx2⟩ := hpo.form
 have HX2 := zq (HX1.out.trans hx2)
 have HG2 := zq (hx2.at_ HG1.out id)
 have HOK := zq hok
 have HA := zq (show E1 = 0 -> a1 <= l.length from fun e => (numO_le hp (hok e)).2.1)
 have HJ0 := zq (show E1 = 0 -> manyO (tripO l) M a1 = joinO [] (manyO (tripO l) M a1) from fun _ => (joinO_nil _).symm)
 have HM := zq (show E1 = 0 -> M < 18446744073709551616 from fun e => (numO_le hp (hok e)).2.2)
 have HNO := zq (show E1 ≠ 0 -> pinsO l p = none from fun e => pinsO_no (hbad e))
 clear hpo hok hbad hx2 HG1
 go_wp2
 go_loopw [5, 6, 7, 8] (fun at' e n u8' wr => ∃ (a k : Nat) (E : Int) (dn : List Tr) (r : Value), at' = .int .i64 (a : Int) /\ e = .int .i64 E /\ n = .int .u64 (k : Int) ∧
   Hid (wr.heap[w.heap.size]? = some (.cells #[r] 205 (0, 0))) /\ Hid (wr.ownsRow (w.heap.size + 1) 276 3 r dn.length (flatT dn)) /\ Hid (Ext w wr) /\ Hid (E = 0 -> E1 = 0 /\ a <= l.length /\ dn.length <= a /\ k <= M /\ manyO (tripO l) M a1 = joinO dn (manyO (tripO l) k a)) /\ Hid (E ≠ 0 -> pinsO l p = none)) (fun _ e n _ _ => if intOf e = 0 then (intOf n).toNat + 1 else 0)
 case atStart => exact ⟨a1, M, E1, [], .slice none 0 0, rfl, rfl, rfl, HG2, zq (World.ownsRow_nil _ _ _ _), HX2, zq (fun e => ⟨e, HA.out e, by simp, Nat.le_refl _, HJ0.out e⟩), HNO⟩
 case round =>
  obtain ⟨a, k, E, dn, r, rfl, rfl, rfl, HG, HOWN, HX, HE0, HE1⟩ := hrel
  obtain ⟨ra, rc, rfl⟩ := ownsFormN HOWN.out
  have hxs := HX.out.size
  have g0 := cZ HG.out 0 _ rfl
  have f0 := freeAt HG.out 0
  have l0 := lZ HG.out
  by_cases hE : E = 0
  case neg =>
   have hb : (E != 0) = true := by simpa using hE
   have hb2 : (E == 0) = false := by simpa using hE
   have HB := zq (HE1.out hE)
   have HEE := zq hE
   clear hE
   go_wp2
   obtain ⟨w9, hw9⟩ : ∃ u, u = wr.setCell ⟨w.heap.size, 0, none⟩ (.slice none 0 0) := ⟨_, rfl⟩
   have hu9 : Upd (At w.heap.size) wr w9 := by rw [hw9]; exact Upd.own _ _ _ _
   have hg9 : w9.heap[w.heap.size]? = some (.cells #[.slice none 0 0] 205 (0, 0)) := by rw [hw9]; exact setAt HG.out
   rw [<- hw9]
   have HX9 := zq (HX.out.step hu9 (fun i hi e => by unfold At at e; omega))
   refine bodyPost_blk3 rfl rfl rfl hg9 (Tryz.pinsT (.slice none 0 0)) ?_
   exact ⟨HX9.out, fun ps q e => (by rw [HB.out] at e; cases e), fun _ => ⟨E, p, HEE.out, rfl⟩⟩
  obtain ⟨hE1, ha, hda, hkM, hj⟩ := HE0.out hE
  subst hE
  have hM := HM.out hE1
  have HJ := zq hj
  have HNUM := zq (HOK.out hE1)
  have HE1Z := zq hE1
  clear hj HE0 HE1 hE1 HA HOK HNO HJ0 HM
  by_cases hk0 : k = 0
  ·have hb : ¬ (0 : Int) < (k : Int) := by omega
   have hE : manyO (tripO l) M a1 = some (dn, a) := by rw [HJ.out, hk0, joinO_done]
   have HE := zq hE
   have HIS := zq (pinsO_is HNUM.out hE)
   have hrow := Row.of_owns HOWN.out
   clear hk0 hE
   go_wp2_with (go_at_call 160; fail)
   refine (pinsRight_any wr _ dn hrow (by omega)).mono ?_
   rintro e w3 ⟨rfl, hx3⟩
   have HX3 := zq (HX.out.trans hx3)
   have HG3 := zq (hx3.at_ HG.out id)
   have HR3 := zq (hrow.ext hx3)
   have g3 := cZ HG3.out 0 _ rfl
   have f3 := freeAt HG3.out 0
   have l3 := lZ HG3.out
   clear hx3 hrow g0 f0 l0
   cases hr : riseT dn with
   | true =>
    have HIS2 := zq (show pinsO l p = some (dn, a) by rw [HIS.out, if_pos hr])
    clear hr
    go_wp2
    obtain ⟨w9, hw9⟩ : ∃ u, u = w3.setCell ⟨w.heap.size, 0, none⟩ (.slice ra dn.length rc) := ⟨_, rfl⟩
    have hu9 : Upd (At w.heap.size) w3 w9 := by rw [hw9]; exact Upd.own _ _ _ _
    have hg9 : w9.heap[w.heap.size]? = some (.cells #[.slice ra dn.length rc] 205 (0, 0)) := by rw [hw9]; exact setAt HG3.out
    rw [<- hw9]
    have HX9 := zq (HX3.out.step hu9 (fun i hi e => by unfold At at e; omega))
    have HR9 := zq ((HR3.out.upd hu9 (fun k h e => by unfold From at h; unfold At at e; omega)).mono (T := From w.heap.size) (fun k h => by unfold From at h ⊢; omega))
    refine bodyPost_blk3 rfl rfl rfl hg9 (Tryz.pinsT (.slice none 0 0)) ?_
    refine ⟨HX9.out, fun ps q e => ?_, fun e => (by rw [HIS2.out] at e; cases e)⟩
    rw [HIS2.out] at e
    cases e
    exact ⟨_, rfl, HR9.out⟩
   | false =>
    have HIS2 := zq (show pinsO l p = none by rw [HIS.out, if_neg (by rw [hr]; decide)])
    clear hr
    go_wp2
    obtain ⟨w9, hw9⟩ : ∃ u, u = w3.setCell ⟨w.heap.size, 0, none⟩ (.slice none 0 0) := ⟨_, rfl⟩
    have hu9 : Upd (At w.heap.size) w3 w9 := by rw [hw9]; exact Upd.own _ _ _ _
    have hg9 : w9.heap[w.heap.size]? = some (.cells #[.slice none 0 0] 205 (0, 0)) := by rw [hw9]; exact setAt HG3.out
    rw [<- hw9]
    have HX9 := zq (HX3.out.step hu9 (fun i hi e => by unfold At at e; omega))
    refine bodyPost_blk3 rfl rfl rfl hg9 (Tryz.pinsT (.slice none 0 0)) ?_
    exact ⟨HX9.out, fun ps q e => (by rw [HIS2.out] at e; cases e), fun _ => ⟨2, p, by decide, rfl⟩⟩
  ·obtain ⟨k', hk'⟩ : ∃ k', k = k' + 1 := ⟨k - 1, by omega⟩
   subst hk'
   have hb : (0 : Int) < ((k' + 1 : Nat) : Int) := by omega
   go_wp2_with (go_at_call 129; fail)
   refine (vTrip_any _ _ l (H.out.ext HX.out) a ha (by omega)).mono ?_
   rintro e w3 ⟨hx3, hs, hnn⟩
   have HX3 := zq (HX.out.trans hx3)
   have HO3 := zq (hx3.ownsRow HOWN.out (fun _ _ e => e))
   have HG3 := zq (hx3.at_ HG.out id)
   have hxs3 := hx3.size
   clear hx3 g0 f0 l0
   cases ht : tripO l a with
   | none =>
    obtain ⟨E, hE, rfl⟩ := hnn ht
    have hb : (E == 0) = false := by simpa using hE
    have HB := zq (show pinsO l p = none from pinsO_bad HNUM.out (by rw [HJ.out, joinO_bad ht]))
    have HE := zq hE
    clear hs hnn hE ht
    go_wp2
    go_roundw
    case rel => exact ⟨a, k' + 1, E, dn, _, rfl, rfl, rfl, HG3, HO3, HX3, zq (fun e => absurd e HE.out), zq (fun _ => HB.out)⟩
    case measure => have := HE.out; simp [intOf, this]
   | some r =>
    obtain ⟨⟨x, y, z⟩, q⟩ := r
    obtain ⟨hq, haq, hx64, hy64, hz64, b, cc, rfl, hcc, d0, d1, d2⟩ := hs x y z q ht
    have HJ2 := zq (show manyO (tripO l) M a1 = joinO (dn ++ [(x, y, z)]) (manyO (tripO l) k' q) by rw [HJ.out, joinO_step ht])
    have hlit := (HO3.out.alloc (.cells #[.int .u64 (x : Int), .int .u64 (y : Int), .int .u64 (z : Int)] 276)).drew
    have hsrc := (row_new w3 #[.int .u64 (x : Int), .int .u64 (y : Int), .int .u64 (z : Int)] 276 1 w3.heap.size (by decide) rfl).upd (Upd.refl Nothing _).drew (fun _ _ e => e)
    have hbase : w.heap.size + 1 <= (w3.alloc (.cells #[.int .u64 (x : Int), .int .u64 (y : Int), .int .u64 (z : Int)] 276)).drew.heap.size := Nat.le_trans (by have := lZ HG3.out; omega) (le_drew_alloc _ _)
    have hone : OneCells (#[.int .u64 (x : Int), .int .u64 (y : Int), .int .u64 (z : Int)] : Array Value).toList := cellsT_one (x, y, z)
    have q4 : dn.length + 1 <= maxLen := by unfold maxLen; omega
    have q5 : (dn.length + 1) * 24 <= 140737488355328 := by omega
    have hdn2 : dn.length + 1 <= q := by omega
    have g3 := cZ HG3.out 0 _ rfl
    have f3 := freeAt HG3.out 0
    have l3 := lZ HG3.out
    have hkk : (0 : Int) <= (k' : Int) := by omega
    clear hs hnn ht hn hp
    go_upto_region 6 with fail
    go_region_law (refine step_append_row (by rfl) (.tmp 32) (.tmp 43) 203 (by rfl) Tryz.pinT hlit hsrc (by rfl) (by rfl) (by rfl) hone (by decide) q4 q5 hbase ?_; intro v6 w6 hown6 hg6; obtain ⟨a6, n6, rfl⟩ := ownsFormN hown6; have f6 := freeAt (grownAt HG3.out hg6 (fun j hj e => by have := (HO3.out.lt j hj).1; omega)) 0; have l6 := lZ (grownAt HG3.out hg6 (fun j hj e => by have := (HO3.out.lt j hj).1; omega)); have c6 := cZ (grownAt HG3.out hg6 (fun j hj e => by have := (HO3.out.lt j hj).1; omega)) 0 _ rfl)
    all_goals
     have hg6b := grownAt HG3.out hg6 (fun j hj e => by have := (HO3.out.lt j hj).1; omega)
     have hx6 := ((HX3.out.alloc (.cells #[.int .u64 (x : Int), .int .u64 (y : Int), .int .u64 (z : Int)] 276)).drew).grown hg6 (fun j hj h => by have := (HO3.out.lt j hj).1; omega)
     obtain ⟨w9, hw9⟩ : ∃ u, u = w6.setCell ⟨w.heap.size, 0, none⟩ (.slice a6 (dn.length + 1) n6) := ⟨_, rfl⟩
     have hu9 : Upd (At w.heap.size) w6 w9 := by rw [hw9]; exact Upd.own _ _ _ _
     have hg9 : w9.heap[w.heap.size]? = some (.cells #[.slice a6 (dn.length + 1) n6] 205 (0, 0)) := by rw [hw9]; exact setAt hg6b
     rw [<- hw9]
     have HX9 := zq (hx6.step hu9 (fun i hi e => by unfold At at e; omega))
     have HO9 := zq (hu9.ownsRow hown6 (fun k hk e => by have := (hown6.lt k hk).1; have e : k = w.heap.size := e; omega))
     have HG9 := zq hg9
     clear hg6b hx6 hw9 hu9 hg9 hown6 hg6 f6 l6 c6 g3 f3 l3 hlit hsrc hbase d0 d1 d2
     go_wp2
     go_roundw
     case rel =>
      refine ⟨q, k', 0, dn ++ [(x, y, z)], _, rfl, rfl, by go_num, HG9, zq ?_, HX9, zq (fun _ => ⟨HE1Z.out, hq, by simp; omega, by omega, HJ2.out⟩), zq (fun e => absurd rfl e)⟩
      rw [flatT_snoc, List.length_append]
      exact HO9.out
     case measure => simp [intOf]
end Go.Proofs.YtnkmpoplibnflaaGreatDoor.Wk
