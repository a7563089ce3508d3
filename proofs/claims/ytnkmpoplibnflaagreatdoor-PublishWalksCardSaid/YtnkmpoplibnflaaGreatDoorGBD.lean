/-
  CONTRACTS of the reference's pins: Right, Take. Conditions: at most 1000000 pins, bytes.
  CONTRACT of the reference's Put of pins. Condition: its bytes are at most 1000000.
-/
import Derived.Test.YtnkmpoplibnflaaGreatDoorGAP
import Derived.Test.YtnkmpoplibnflaaGreatDoorGAW
set_option maxRecDepth 100000
set_option maxHeartbeats 16000000
namespace Go.Proofs.YtnkmpoplibnflaaGreatDoor.Wk
open Go Go.Proofs.YtnkmpoplibnflaaGreatDoor Go.RowKit
theorem Tryz.rpinT : SliceT Tryz.prog 89 223 3 24 := sliceT_of Tryz.underlying89 (by kernel_rfl) (by decide)
theorem pr_bad {l : List Tr} {m x y : Nat} (h : m + 1 < l.length) (hx : x = (l[m]'(Nat.lt_of_succ_lt h)).1) (hy : y = l[m + 1].1) (hn : ¬ x < y) : riseT l = false := by
 rw [riseT_by]; exact rise_bad h (decide_eq_false (by subst hx hy; exact hn))
theorem rpinsRight_any {S : Nat -> Prop} (w : World) (v : Value) (l : List Tr) (h : Row S w v l.length (flatT l)) (hlen : l.length <= 1000000) :
  Calls Tryz.prog 99 #[v] w fun e w' => e = .returned (.bool (riseT l)) /\ Ext w w' := by
 have H := zq h
 obtain ⟨a0, c0, rfl, hn, hm, -⟩ := h
 unfold maxLen at hm
 go_enter Tryz.func99, Tryz.ntmps99
 go_wp2
 go_loopw [3] (fun t wr => ∃ n : Nat, n <= l.length + 1 /\ t = .int .i64 ((n + 1 : Nat) : Int) /\ Hid (∀ m (h : m + 1 < l.length), m < n -> l[m].1 < l[m + 1].1) /\ Hid (Ext w wr)) (fun t _ => l.length + 2 - (intOf t).toNat)
 case atStart => exact ⟨0, Nat.zero_le _, rfl, zq (fun m _ h => (by omega)), zq uZ⟩
 case round =>
  obtain ⟨n, hn', rfl, HUP, HX⟩ := hrel
  by_cases hlt : n + 1 < l.length
  ·obtain ⟨b1, o1, c1, e1, -, -, -, hq1⟩ := (H.out.ext HX.out).addr (by omega)
   cases e1
   have HLT := zq hlt
   obtain ⟨x, hx⟩ : ∃ x, x = (l[n]'(Nat.lt_of_succ_lt hlt)).1 := ⟨_, rfl⟩
   obtain ⟨y, hy⟩ : ∃ x, x = l[n + 1].1 := ⟨_, rfl⟩
   have d0 : wr.cell? ⟨b1, o1 + n * 3, none⟩ = some (.int .u64 (x : Int)) := by rw [hx]; exact hq1 _ _ (flatT_at n (Nat.lt_of_succ_lt hlt)).1
   have d1 : wr.cell? ⟨b1, o1 + (n + 1) * 3, none⟩ = some (.int .u64 (y : Int)) := by rw [hy]; exact hq1 _ _ (flatT_at (n + 1) hlt).1
   have HXX := zq hx
   have HYY := zq hy
   clear hq1 hx hy
   by_cases hxy : x < y
   ·have hxi : ¬ (y : Int) <= (x : Int) := by omega
    have HXY := zq hxy
    clear hxy
    go_upto_region 4 with fail
    go_region
    go_wp2
    go_roundw
    case rel =>
     refine ⟨n + 1, by omega, by go_num, zq (fun k h hk => ?_), zq HX.out.drew⟩
     rcases Nat.lt_or_ge k n with g | g
     ·exact HUP.out k h g
     ·have e2 : k = n := by omega
      subst e2; exact HXX.out ▸ HYY.out ▸ HXY.out
    case measure => simp [intOf]; omega
   ·have hxi : (y : Int) <= (x : Int) := by omega
    have HB := zq (pr_bad HLT.out HXX.out HYY.out hxy)
    clear hxy
    go_upto_region 4 with fail
    go_region
    go_wp2
    go_ret
    exact ⟨by rw [HB.out]; rfl, HX.out.drew⟩
  ·have HB := zq (show riseT l = true by rw [riseT_by]; exact rise_ok (fun m h => by have := HUP.out m h (by omega); simpa using this))
   have hlti : ¬ ((n : Int) + 1 < (l.length : Int)) := by omega
   go_wp2
   go_ret
   exact ⟨by rw [HB.out]; rfl, HX.out⟩
def RPinsPost (w : World) (l : List UInt8) (p : Nat) (e : Ending) (w' : World) : Prop := Ext w w' ∧
 (∀ ps q, pinsO l p = some (ps, q) -> ∃ v, e = .returned (.tuple #[v, .int .i64 (q : Int), .int .i64 0]) /\ Row (From w.heap.size) w' v ps.length (flatT ps)) ∧
 (pinsO l p = none -> ∃ (E : Int) (a : Nat), E ≠ 0 /\ e = .returned (.tuple #[.slice none 0 0, .int .i64 (a : Int), .int .i64 E]))
theorem rpinsTake_any {S : Nat -> Prop} (w : World) (v : Value) (l : List UInt8) (h : Bytes S w v l) (p : Nat) (hp : p <= l.length) (hl : l.length <= 1000000) :
  Calls Tryz.prog 94 #[v, .int .i64 p] w (RPinsPost w l p) := by
 have H := zq h
 obtain ⟨a0, c0, rfl, hn, hm, -⟩ := h
 go_enter Tryz.func94, Tryz.ntmps94
 go_wp2_with (go_at_call 90; fail)
 refine (rNum_any w _ l H.out p hp (by omega)).mono ?_
 intro e w2 hpo
 obtain ⟨M, a1, E1, rfl, hok, hbad, hx2⟩ := hpo.form
 have HX2 := zq hx2
 clear hpo hx2
 by_cases hE1 : E1 = 0
 case neg =>
  have hb : (E1 != 0) = true := by simpa using hE1
  have HE := zq hE1
  have HB := zq (pinsO_no (hbad hE1))
  clear hE1 hok hbad
  go_wp2
  go_ret3
  exact ⟨HX2.out, fun ps q e => (by rw [HB.out] at e; cases e), fun _ => ⟨E1, p, HE.out, rfl⟩⟩
 subst hE1
 have HNUM := zq (hok rfl)
 obtain ⟨-, ha1, hM⟩ := numO_le hp (hok rfl)
 clear hok hbad
 go_wp2
 go_loopw [8, 10] (fun at' out wr => ∃ (a : Nat) (dn : List Tr), at' = .int .i64 (a : Int) /\ Hid (wr.ownsRow w.heap.size 223 3 out dn.length (flatT dn)) /\ Hid (Ext w wr) /\ a <= l.length /\ dn.length <= a /\ dn.length <= M /\ Hid (manyO (tripO l) M a1 = joinO dn (manyO (tripO l) (M - dn.length) a))) (fun at' _ _ => l.length - (intOf at').toNat)
 case atStart => exact ⟨a1, [], rfl, zq (World.ownsRow_nil _ _ _ _), HX2, ha1, by simp, by simp, zq (joinO_nil _).symm⟩
 case round =>
  obtain ⟨a, dn, rfl, HOWN, HX, ha, hda, hkM, HJ⟩ := hrel
  obtain ⟨ra, rc, rfl⟩ := ownsFormN HOWN.out
  have hxs := HX.out.size
  have hdl : dn.length <= 1000000 := by omega
  by_cases hlt : dn.length < M
  ·have hlti : (dn.length : Int) < (M : Int) := by omega
   go_wp2_with (go_at_call 69; fail)
   refine (rTrip_any wr _ l (H.out.ext HX.out) a ha (by omega)).mono ?_
   rintro e w3 ⟨hx3, hs, hnn⟩
   have HX3 := zq (HX.out.trans hx3)
   have HO3 := zq (hx3.ownsRow HOWN.out (fun _ _ e => e))
   clear hx3
   cases ht : tripO l a with
   | none =>
    obtain ⟨E, hE, rfl⟩ := hnn ht
    have hb : (E != 0) = true := by simpa using hE
    have HB := zq (show pinsO l p = none from pinsO_bad HNUM.out (joinO_bad' HJ.out (by omega) ht))
    have HE := zq hE
    clear hs hnn hE ht
    go_wp2
    go_ret3
    exact ⟨HX3.out, fun ps q e => (by rw [HB.out] at e; cases e), fun _ => ⟨E, p, HE.out, rfl⟩⟩
   | some r =>
    obtain ⟨⟨x, y, z⟩, q⟩ := r
    obtain ⟨hq, haq, hx64, hy64, hz64, b, cc, rfl, hcc, d0, d1, d2⟩ := hs x y z q ht
    have HJ2 := zq (joinO_step' HJ.out hlt ht)
    have hlit := (HO3.out.alloc (.cells #[.int .u64 (x : Int), .int .u64 (y : Int), .int .u64 (z : Int)] 223)).drew
    have hsrc := (row_new w3 #[.int .u64 (x : Int), .int .u64 (y : Int), .int .u64 (z : Int)] 223 1 w3.heap.size (by decide) rfl).upd (Upd.refl Nothing _).drew (fun _ _ e => e)
    have hbase : w.heap.size <= (w3.alloc (.cells #[.int .u64 (x : Int), .int .u64 (y : Int), .int .u64 (z : Int)] 223)).drew.heap.size := Nat.le_trans HX3.out.size (le_drew_alloc _ _)
    have hone : OneCells (#[.int .u64 (x : Int), .int .u64 (y : Int), .int .u64 (z : Int)] : Array Value).toList := cellsT_one (x, y, z)
    have q4 : dn.length + 1 <= maxLen := by unfold maxLen; omega
    have q5 : (dn.length + 1) * 24 <= 140737488355328 := by omega
    clear hs hnn ht hn hp
    go_upto_region 9 with fail
    go_region_law (refine step_append_row (by rfl) (.tmp 41) (.tmp 52) 89 (by rfl) Tryz.rpinT hlit hsrc (by rfl) (by rfl) (by rfl) hone (by decide) q4 q5 hbase ?_; intro v6 w6 hown6 hg6)
    all_goals
     have hx6 := ((HX3.out.alloc (.cells #[.int .u64 (x : Int), .int .u64 (y : Int), .int .u64 (z : Int)] 223)).drew).grown hg6 (fun j hj h => by have := (HO3.out.lt j hj).1; omega)
     have HX6 := zq hx6
     have HO6 := zq hown6
     clear hx6 hown6 hg6 hlit hsrc hbase d0 d1 d2
     go_wp2
     go_roundw
     case rel =>
      refine ⟨q, dn ++ [(x, y, z)], rfl, zq ?_, HX6, hq, by simp; omega, by simp; omega, zq ?_⟩
      ·rw [flatT_snoc, List.length_append]; exact HO6.out
      ·rw [List.length_append]; exact HJ2.out
     case measure => simp [intOf]; omega
  ·have hlti : ¬ (dn.length : Int) < (M : Int) := by omega
   have hE := joinO_end HJ.out hlt
   have HIS := zq (pinsO_is HNUM.out hE)
   clear hE hlt
   go_wp2_with (go_at_call 99; fail)
   refine (rpinsRight_any wr _ dn (Row.of_owns HOWN.out) (by omega)).mono ?_
   rintro e w3 ⟨rfl, hx3⟩
   have HX3 := zq (HX.out.trans hx3)
   have HR3 := zq ((Row.of_owns HOWN.out).ext hx3)
   clear hx3
   cases hr : riseT dn with
   | true =>
    have HIS2 := zq (show pinsO l p = some (dn, a) by rw [HIS.out, if_pos hr])
    clear hr
    go_wp2
    go_ret3
    refine ⟨HX3.out, fun ps q e => ?_, fun e => (by rw [HIS2.out] at e; cases e)⟩
    rw [HIS2.out] at e
    cases e
    exact ⟨_, rfl, HR3.out⟩
   | false =>
    have HIS2 := zq (show pinsO l p = none by rw [HIS.out, if_neg (by rw [hr]; decide)])
    clear hr
    go_wp2
    go_ret3
    exact ⟨HX3.out, fun ps q e => (by rw [HIS2.out] at e; cases e), fun _ => ⟨2, p, by decide, rfl⟩⟩
end Go.Proofs.YtnkmpoplibnflaaGreatDoor.Wk
set_option maxRecDepth 100000
set_option maxHeartbeats 16000000
namespace Go.Proofs.YtnkmpoplibnflaaGreatDoor.Wk
open Go Go.Proofs.YtnkmpoplibnflaaGreatDoor Go.RowKit
theorem encTr_nums (x y z : Nat) : encTr (x, y, z) = vputs [x, y, z] := by simp [encTr, vputs]
theorem rpinsPut_any {S : Nat -> Prop} (w : World) (v : Value) (l : List Tr) (h : Row S w v l.length (flatT l)) (h64 : ∀ e ∈ l, e.1 < 18446744073709551616 /\ e.2.1 < 18446744073709551616 /\ e.2.2 < 18446744073709551616) (hlen : (encPins l).length <= 1000000) :
  Calls Tryz.prog 101 #[v] w fun e w' => ∃ v', e = .returned v' /\ w'.ownsRow w.heap.size 5 1 v' (encPins l).length ((encPins l).map u8) /\ Ext w w' := by
 have H := zq h
 have H64 := zq h64
 have HLEN := zq (show ((l.map encTr).flatten).length <= 1000000 by simp [encPins] at hlen; simp; omega)
 have hcnt : l.length <= 1000000 := by have h1 := flat_count encTr (fun e => by have := vput_len1 e.1; simp [encTr]; omega) l; have := HLEN.out; omega
 have hvl : (vput l.length).length <= 10 := vput_len_le (by omega)
 have HENC := zq (show encPins l = vput l.length ++ (l.map encTr).flatten from rfl)
 obtain ⟨a0, c0, rfl, hn, hm, -⟩ := h
 unfold maxLen at hm
 clear h64 hlen
 go_enter Tryz.func101, Tryz.ntmps101
 go_wp2_with (go_at_call 96; fail)
 refine (rPut_any w l.length (by omega)).mono ?_
 rintro e w2 ⟨v2, rfl, hown2, hx2⟩
 have HX2 := zq hx2
 have HO2 := zq (show w2.ownsRow w.heap.size 5 1 v2 (vput l.length ++ ((l.take 0).map encTr).flatten).length ((vput l.length ++ ((l.take 0).map encTr).flatten).map u8) by simpa using hown2)
 clear hown2 hx2
 go_wp2
 go_loopw [3, 4] (fun out t wr => ∃ n : Nat, n <= l.length /\ t = .int .i64 n /\ Hid (wr.ownsRow w.heap.size 5 1 out (vput l.length ++ ((l.take n).map encTr).flatten).length ((vput l.length ++ ((l.take n).map encTr).flatten).map u8)) /\ Hid (Ext w wr)) (fun _ t _ => l.length - (intOf t).toNat)
 case atStart => exact ⟨0, Nat.zero_le _, rfl, HO2, HX2⟩
 case round =>
  obtain ⟨n, hn', rfl, HOWN, HX⟩ := hrel
  obtain ⟨PL, hPL⟩ : ∃ p, p = vput l.length ++ ((l.take n).map encTr).flatten := ⟨_, rfl⟩
  have HPL := zq hPL
  have hplen : PL.length <= 1000010 := by rw [hPL, List.length_append]; have h1 := flat_take_le encTr l n; have := HLEN.out; omega
  rw [<- hPL] at HOWN
  clear hPL
  obtain ⟨ra, rc, rfl⟩ := ownsFormN HOWN.out
  have hxs := HX.out.size
  by_cases hlt : n < l.length
  ·obtain ⟨b1, o1, c1, e1, -, -, -, hq0⟩ := H.out.addr (by omega)
   cases e1
   have hq1 : ∀ j u, (flatT l)[j]? = some u -> wr.cell? ⟨b1, o1 + j, none⟩ = some u := fun j u h => HX.out.cell (hq0 j u h) id
   have HLO := zq (show ∀ j, (Value.slice ra PL.length rc).ownBlock = some j -> w.heap.size <= j from fun j hj => (HOWN.out.lt j hj).1)
   obtain ⟨x, hx⟩ : ∃ x, x = l[n].1 := ⟨_, rfl⟩
   obtain ⟨y, hy⟩ : ∃ x, x = l[n].2.1 := ⟨_, rfl⟩
   obtain ⟨z, hz⟩ : ∃ x, x = l[n].2.2 := ⟨_, rfl⟩
   have hxyz := H64.out l[n] (List.getElem_mem hlt)
   have hnums : ∀ m ∈ [x, y, z], m < 18446744073709551616 := by
    intro m hm
    simp at hm
    rcases hm with rfl | rfl | rfl
    ·rw [hx]; exact hxyz.1
    ·rw [hy]; exact hxyz.2.1
    ·rw [hz]; exact hxyz.2.2
   have d0 : wr.cell? ⟨b1, o1 + n * 3, none⟩ = some (.int .u64 (x : Int)) := by rw [hx]; exact hq1 _ _ (flatT_at n hlt).1
   have d1 : wr.cell? ⟨b1, o1 + n * 3 + 1, none⟩ = some (.int .u64 (y : Int)) := by rw [hy]; exact hq1 _ _ (flatT_at n hlt).2.1
   have d2 : wr.cell? ⟨b1, o1 + n * 3 + 2, none⟩ = some (.int .u64 (z : Int)) := by rw [hz]; exact hq1 _ _ (flatT_at n hlt).2.2
   have hen : encTr l[n] = vputs [x, y, z] := by rw [<- encTr_nums, hx, hy, hz]
   have hvs : (vputs [x, y, z]).length <= 30 := vputs_len hnums
   have hv1 : 0 < (vputs [x, y, z]).length := by have := vput_len1 x; simp [vputs]; omega
   have HEN := zq hen
   have HTK := zq (show l.take (n + 1) = l.take n ++ [l[n]] from List.take_succ_eq_append_getElem hlt)
   have hltb : (n : Int) < (l.length : Int) := by omega
   obtain ⟨w3, hw3⟩ : ∃ u, u = (wr.alloc (.cells #[.int .u64 (x : Int), .int .u64 (y : Int), .int .u64 (z : Int)] 22)).drew := ⟨_, rfl⟩
   have hx3 : Ext wr w3 := by rw [hw3]; exact (uZ.alloc _).drew
   have hrow3 : Nums (At wr.heap.size) w3 (.slice (some ⟨wr.heap.size, 0, none⟩) 3 3) [x, y, z] := by
    rw [hw3]; exact (row_new wr #[.int .u64 (x : Int), .int .u64 (y : Int), .int .u64 (z : Int)] 22 3 wr.heap.size (by decide) rfl).upd (Upd.refl Nothing _).drew (fun _ _ e => e)
   have hlen1 : ((vputs [x, y, z]).map YtnkmpoplibnflaaGreatDoor.u8).length = (vputs [x, y, z]).length * 1 := by simp
   have q4 : PL.length + (vputs [x, y, z]).length <= maxLen := by unfold maxLen; omega
   have q5 : (PL.length + (vputs [x, y, z]).length) * 1 <= 140737488355328 := by omega
   have HX3 := zq (HX.out.trans hx3)
   have HO3 := zq (hx3.ownsRow HOWN.out (fun _ _ e => e))
   clear hq1 hq0 hx hy hz hen hxyz
   go_upto_region 5 with fail
   go_region_law (first
    | (go_simp; go_at_call 73; rw [<- hw3]; refine (rAll_any w3 _ [x, y, z] hrow3 (by simp) hnums).mono ?_; rintro e w5 ⟨v5, rfl, hown5, hx5⟩; have hlit := hx5.ownsRow HO3.out (fun _ _ e => e); have hsrc := Row.of_owns hown5; have hbase := (HX3.out.trans hx5).size; have hxw := HX3.out.trans hx5)
    | (refine step_append_row (by rfl) (.tmp 15) (.tmp 32) 23 (by rfl) Tryz.bytesT hlit hsrc (by rfl) (by rfl) hlen1 (u8_one _) hv1 q4 q5 hbase ?_; intro v6 w6 hown6 hg6; have hx6 := hxw.grown hg6 (fun j hj h => by have := HLO.out j hj; omega)))
   all_goals
    have HX6 := zq hx6
    have HO6 := zq hown6
    clear hx6 hown6 hg6 hlit hsrc hbase hxw d0 d1 d2 hrow3 hx3
    go_wp2
    go_roundw
    case rel =>
     refine ⟨n + 1, by omega, by go_num, zq ?_, HX6⟩
     have e : vput l.length ++ ((l.take (n + 1)).map encTr).flatten = PL ++ vputs [x, y, z] := by
      rw [HTK.out, List.map_append, List.flatten_append, HPL.out, List.append_assoc]
      simp only [List.map_cons, List.map_nil, List.flatten_cons, List.flatten_nil, List.append_nil]
      exact congrArg (fun z => vput l.length ++ ((List.map encTr (List.take n l)).flatten ++ z)) HEN.out
     rw [e, List.length_append, List.map_append]
     exact HO6.out
    case measure => simp [intOf]; omega
  ·have hkl : n = l.length := by omega
   have HF := zq (show encPins l = PL by rw [HENC.out, HPL.out, hkl, List.take_length])
   clear hkl
   go_wp2
   go_ret
   exact ⟨_, rfl, by rw [HF.out]; exact HOWN.out, HX.out⟩
end Go.Proofs.YtnkmpoplibnflaaGreatDoor.Wk
