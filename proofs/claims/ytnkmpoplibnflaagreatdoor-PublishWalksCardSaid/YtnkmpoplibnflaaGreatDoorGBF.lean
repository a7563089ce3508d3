/-
  CONTRACT of the reference's Put of versions, that is right. Condition: its bytes are at most 1000000.
  CONTRACT of the reference's Parse of versions. Condition: at most 1000000 bytes.
  CONTRACT of the reference's Parse of a document. Condition: at most 1000000 bytes.
-/
import Derived.Test.YtnkmpoplibnflaaGreatDoorGAW
import Derived.Test.YtnkmpoplibnflaaGreatDoorWRVer
import Derived.Test.YtnkmpoplibnflaaGreatDoorGAQ
import Derived.Test.YtnkmpoplibnflaaGreatDoorGAR
import Derived.Test.YtnkmpoplibnflaaGreatDoorGBD
set_option maxRecDepth 100000
set_option maxHeartbeats 16000000
namespace Go.Proofs.YtnkmpoplibnflaaGreatDoor.Wk
open Go Go.Proofs.YtnkmpoplibnflaaGreatDoor Go.RowKit
theorem rverPut_any {S : Nat -> Prop} (w : World) (v : Value) (l : List Ver) (h : Vers S w v l) (hr : verRight l = true) (h64 : ∀ e ∈ l, e.1 < 18446744073709551616) (hlen : (encVers l).length <= 1000000) :
  Calls Tryz.prog 98 #[v] w fun e w' => ∃ v', e = .returned (.tuple #[v', .int .i64 0]) /\ w'.ownsRow w.heap.size 5 1 v' (encVers l).length ((encVers l).map u8) /\ Ext w w' := by
 have H := zq h
 have H64 := zq h64
 have HLEN := zq (show ((l.map encVer).flatten).length <= 1000000 by simp [encVers] at hlen; simp; omega)
 have hcnt : l.length <= 1000000 := by have h1 := flat_count encVer (fun e => by have := vput_len1 e.1; simp [encVer, vtext]; omega) l; have := HLEN.out; omega
 have hvl : (vput l.length).length <= 10 := vput_len_le (by omega)
 have HENC := zq (show encVers l = vput l.length ++ (l.map encVer).flatten from rfl)
 have HR := zq hr
 obtain ⟨a0, c0, rfl, hn, hm, -⟩ := h
 unfold maxLen at hm
 clear h64 hlen hr
 go_enter Tryz.func98, Tryz.ntmps98
 go_wp2_with (go_at_call 115; fail)
 refine (rverRight_any w _ l H.out hcnt H64.out).mono ?_
 rintro e w1 ⟨rfl, hx1⟩
 rw [HR.out]
 have HX1 := zq hx1
 clear hx1
 go_wp2_with (go_at_call 96; fail)
 refine (rPut_any w1 l.length (by omega)).mono ?_
 rintro e w2 ⟨v2, rfl, hown2, hx2⟩
 have HX2 := zq (HX1.out.trans hx2)
 have HO2 := zq (show w2.ownsRow w.heap.size 5 1 v2 (vput l.length ++ ((l.take 0).map encVer).flatten).length ((vput l.length ++ ((l.take 0).map encVer).flatten).map u8) by simpa using hown2.mono_base HX1.out.size)
 clear hown2 hx2
 go_wp2
 go_loopw [4, 5] (fun out t wr => ∃ n : Nat, n <= l.length /\ t = .int .i64 n /\ Hid (wr.ownsRow w.heap.size 5 1 out (vput l.length ++ ((l.take n).map encVer).flatten).length ((vput l.length ++ ((l.take n).map encVer).flatten).map u8)) /\ Hid (Ext w wr)) (fun _ t _ => l.length - (intOf t).toNat)
 case atStart => exact ⟨0, Nat.zero_le _, rfl, HO2, HX2⟩
 case round =>
  obtain ⟨n, hn', rfl, HOWN, HX⟩ := hrel
  obtain ⟨PL, hPL⟩ : ∃ p, p = vput l.length ++ ((l.take n).map encVer).flatten := ⟨_, rfl⟩
  have HPL := zq hPL
  have hplen : PL.length <= 1000010 := by rw [hPL, List.length_append]; have h1 := flat_take_le encVer l n; have := HLEN.out; omega
  rw [<- hPL] at HOWN
  clear hPL
  obtain ⟨ra, rc, rfl⟩ := ownsFormN HOWN.out
  have hxs := HX.out.size
  by_cases hlt : n < l.length
  ·obtain ⟨b1, o1, c1, e1, -, -, -, hq0⟩ := H.out.addr (by omega)
   cases e1
   have HQ := zq hq0
   have hq1 : ∀ j u, _ -> wr.cell? ⟨b1, o1 + j, none⟩ = some u := fun j u h => HX.out.cell (hq0 j u h) id
   have HLO := zq (show ∀ j, (Value.slice ra PL.length rc).ownBlock = some j -> w.heap.size <= j /\ j < wr.heap.size from fun j hj => HOWN.out.lt j hj)
   clear hq0
   have HLT := zq hlt
   obtain ⟨s, hs⟩ : ∃ s, s = l[n].2 := ⟨_, rfl⟩
   obtain ⟨x, hd⟩ : ∃ s, s = l[n].1 := ⟨_, rfl⟩
   have hdi : x < 18446744073709551616 := hd ▸ H64.out _ (List.getElem_mem hlt)
   have hen : encVer l[n] = vput x ++ vtext s := by rw [hs, hd]; rfl
   have hsl : s.length <= 1000000 := by have := congrArg List.length hen; simp [vtext] at this; have h3 := flat_mem_le encVer hlt; have := HLEN.out; omega
   have hca := ver_cells hq1 hlt hd hs
   have e0 : wr.cell? ⟨b1, o1 + n * 10, none⟩ = some (.int .u64 (x : Int)) := hca 0 _ rfl
   have e1 := hca 1 _ rfl
   have e2 := hca 2 _ rfl
   have e3 := hca 3 _ rfl
   have e4 := hca 4 _ rfl
   have e5 := hca 5 _ rfl
   have e6 := hca 6 _ rfl
   have e7 := hca 7 _ rfl
   have e8 := hca 8 _ rfl
   have e9 := hca 9 _ rfl
   obtain ⟨w1, hw1⟩ : ∃ u, u = wr.alloc (.cells #[.int .u64 (x : Int), .int .u64 0, .int .u64 0, .int .u64 0, .int .u64 0, .int .u64 0, .int .u64 0, str s, .bool true, .bool false] 193) := ⟨_, rfl⟩
   have hx1 : Ext wr w1 := by rw [hw1]; exact uZ.alloc _
   have hg1 : w1.heap[wr.heap.size]? = some (.cells #[.int .u64 (x : Int), .int .u64 0, .int .u64 0, .int .u64 0, .int .u64 0, .int .u64 0, .int .u64 0, str s, .bool true, .bool false] 193 (0, 0)) := by rw [hw1]; exact newAt _ _
   have HG1 := zq hg1
   have HW1 := zq hw1
   replace HOWN := zq (hx1.ownsRow HOWN.out (fun _ _ e => e))
   replace HX := zq (HX.out.trans hx1)
   have HEN := zq hen
   have hb12 : (vput x).length + (vtext s).length <= 1000000 := by have h1 := congrArg List.length hen; rw [List.length_append] at h1; have h3 := flat_mem_le encVer hlt; have := HLEN.out; omega
   clear hca hx1 hg1 hw1 hen hs hd hq1
   go_upto_region 8 with fail
   rw [show wr.alloc (.cells #[.int .u64 (x : Int), .int .u64 0, .int .u64 0, .int .u64 0, .int .u64 0, .int .u64 0, .int .u64 0, .string ⟨s.toArray⟩, .bool true, .bool false] 193) = w1 from HW1.out.symm]
   clear e0 e1 e2 e3 e4 e5 e6 e7 e8 e9
   have y0 := cZ HG1.out 0 _ rfl
   have y1 := cZ HG1.out 1 _ rfl
   have y2 := cZ HG1.out 2 _ rfl
   have y3 := cZ HG1.out 3 _ rfl
   have y4 := cZ HG1.out 4 _ rfl
   have y5 := cZ HG1.out 5 _ rfl
   have y6 := cZ HG1.out 6 _ rfl
   have y7 := cZ HG1.out 7 _ rfl
   have y8 := cZ HG1.out 8 _ rfl
   have y9 := cZ HG1.out 9 _ rfl
   have yl := lZ HG1.out
   go_wp2_with (go_at_call 96; fail)
   refine (rPut_any w1 x hdi).mono ?_
   rintro e w5 ⟨v5, rfl, hown5, hx5⟩
   have hbase5 : w.heap.size <= w5.heap.size := (HX.out.trans hx5).size
   go_wp2_with (at_builtin; go_must (refine wpList_append_row rfl _ _ _ rfl Tryz.bytesT rfl (hx5.ownsRow HOWN.out (fun _ _ e => e)) rfl (Row.of_owns hown5) (by simp) (u8_one _) ?c3 ?c4 hbase5 ?_))
   case c3 => unfold maxLen; omega
   case c4 => omega
   intro v6 w6 hown6 hg6 _
   have hu6 : Upd (fun k => (Value.slice ra PL.length rc).ownBlock = some k) w1 w6 := (hx5.mono (fun _ _ e => e.elim)).grown hg6 (fun k hk _ => hk)
   have HX6 := zq ((HX.out.trans hx5).grown hg6 (fun j hj h => by have := (HLO.out j hj).1; omega))
   have HO6 := zq hown6
   have HU6 := zq hu6
   clear hown5 hx5 hown6 hg6 hu6 hbase5
   have hg6 := HU6.out.at_ HG1.out (fun e => by have := (HLO.out _ e).2; omega)
   clear y0 y1 y2 y3 y4 y5 y6 y7 y8 y9 yl
   have y7 := cZ hg6 7 _ rfl
   have yl := lZ hg6
   clear hg6
   obtain ⟨r6, c6, rfl⟩ := ownsFormN HO6.out
   have HLO6 := zq (show ∀ j, (Value.slice r6 (PL.length + (vput x).length) c6).ownBlock = some j -> w.heap.size <= j from fun j hj => (HO6.out.lt j hj).1)
   go_wp2_with (go_at_call 97; fail)
   refine (rText_any w6 s (by omega)).mono ?_
   rintro e w7 ⟨v7, rfl, hown7, hx7⟩
   have hbase7 : w.heap.size <= w7.heap.size := (HX6.out.trans hx7).size
   go_wp2_with (at_builtin; go_must (refine wpList_append_row rfl _ _ _ rfl Tryz.bytesT rfl (hx7.ownsRow HO6.out (fun _ _ e => e)) rfl (Row.of_owns hown7) (by simp) (u8_one _) ?c3 ?c4 hbase7 ?_))
   case c3 => unfold maxLen; omega
   case c4 => omega
   intro v8 w8 hown8 hg8 _
   have HX8 := zq ((HX6.out.trans hx7).grown hg8 (fun j hj h => by have := HLO6.out j hj; omega))
   have HO8 := zq hown8
   clear hown7 hx7 hown8 hg8 hbase7
   go_wp2
   go_roundw
   case rel =>
    refine ⟨n + 1, by have := HLT.out; omega, by go_num, zq ?_, HX8⟩
    have e : vput l.length ++ ((l.take (n + 1)).map encVer).flatten = PL ++ (vput x ++ vtext s) := by
     rw [List.take_succ_eq_append_getElem HLT.out, List.map_append, List.flatten_append, HPL.out, List.append_assoc]
     simp only [List.map_cons, List.map_nil, List.flatten_cons, List.flatten_nil, List.append_nil]
     exact congrArg (fun z => vput l.length ++ ((List.map encVer (List.take n l)).flatten ++ z)) HEN.out
    rw [e]
    have h8 := HO8.out
    rw [<- List.map_append, <- List.map_append] at h8
    try rw [List.append_assoc] at h8
    rw [show (PL ++ (vput x ++ vtext s)).length = PL.length + (vput x).length + (vtext s).length by simp; omega]
    exact h8
   case measure => have := HLT.out; simp [intOf]; omega
  ·have hkl : n = l.length := by omega
   have HF := zq (show encVers l = PL by rw [HENC.out, HPL.out, hkl, List.take_length])
   clear hkl
   go_wp2
   go_ret2
   exact ⟨_, rfl, by rw [HF.out]; exact HOWN.out, HX.out⟩
end Go.Proofs.YtnkmpoplibnflaaGreatDoor.Wk
set_option maxRecDepth 100000
set_option maxHeartbeats 16000000
namespace Go.Proofs.YtnkmpoplibnflaaGreatDoor.Wk
open Go Go.Proofs.YtnkmpoplibnflaaGreatDoor Go.RowKit
theorem Tryz.rversT : SliceT Tryz.prog 90 193 10 80 := sliceT_of Tryz.underlying90 (by kernel_rfl) (by decide)
theorem rverParse_any {S : Nat -> Prop} (w : World) (v : Value) (l : List UInt8) (h : Bytes S w v l) (hl : l.length <= 1000000) :
  Calls Tryz.prog 95 #[v] w (VerPost w l) := by
 have H := zq h
 obtain ⟨a0, c0, rfl, hn, hm, -⟩ := h
 go_enter Tryz.func95, Tryz.ntmps95
 go_wp2_with (go_at_call 90; fail)
 refine (rNum_any w _ l H.out 0 (Nat.zero_le _) (by omega)).mono ?_
 intro e w1 hp
 obtain ⟨M, a1, E1, rfl, hok, hbad, hx1⟩ := hp.form
 have HX1 := zq hx1
 clear hp hx1
 by_cases hE1 : E1 = 0
 case neg =>
  have hb : (E1 != 0) = true := by simpa using hE1
  have HE := zq hE1
  have HB := zq (versO_no (hbad hE1))
  clear hE1 hok hbad
  go_wp2
  go_ret2
  exact ⟨HX1.out, fun es e => (by rw [HB.out] at e; cases e), fun _ => ⟨E1, HE.out, rfl⟩⟩
 subst hE1
 have HNUM := zq (hok rfl)
 obtain ⟨-, ha1, hM⟩ := numO_le (Nat.zero_le _) (hok rfl)
 clear hok hbad
 go_wp2
 go_loopw [5, 7] (fun at' out wr => ∃ (a : Nat) (dn : List Ver), at' = .int .i64 (a : Int) /\ Hid (wr.ownsRow w.heap.size 193 10 out dn.length (flatV dn)) /\ Hid (Ext w wr) /\ a <= l.length /\ dn.length <= a /\ dn.length <= M /\ Hid (manyO (verO l) M a1 = joinO dn (manyO (verO l) (M - dn.length) a)) /\ Hid (∀ e ∈ dn, e.1 < 18446744073709551616)) (fun at' _ _ => l.length - (intOf at').toNat)
 case atStart => exact ⟨a1, [], rfl, zq (World.ownsRow_nil _ _ _ _), HX1, ha1, by simp, by simp, zq (joinO_nil _).symm, zq (by simp)⟩
 case round =>
  obtain ⟨a, dn, rfl, HOWN, HX, ha, hda, hkM, HJ, HLT⟩ := hrel
  obtain ⟨ra, rc, rfl⟩ := ownsFormN HOWN.out
  have hxs := HX.out.size
  have hdl : dn.length <= 1000000 := by omega
  by_cases hlt : dn.length < M
  ·have hlti : (dn.length : Int) < (M : Int) := by omega
   go_wp2_with (go_at_call 90; fail)
   refine (rNum_any wr _ l (H.out.ext HX.out) a ha (by omega)).mono ?_
   intro e w5 hp
   obtain ⟨n2, q, E2, rfl, hok2, hbad2, hx5⟩ := hp.form
   have HX5 := zq (HX.out.trans hx5)
   have HO5 := zq (hx5.ownsRow HOWN.out (fun _ _ e => e))
   clear hp hx5
   by_cases hE2 : E2 = 0
   case neg =>
    have hb : (E2 != 0) = true := by simpa using hE2
    have HE := zq hE2
    have HB := zq (versO_bad HNUM.out (joinO_bad' HJ.out (by omega) (verO_no1 (hbad2 hE2))))
    clear hE2 hok2 hbad2
    go_wp2
    go_ret2
    exact ⟨HX5.out, fun es e => (by rw [HB.out] at e; cases e), fun _ => ⟨E2, HE.out, rfl⟩⟩
   subst hE2
   replace hok2 := hok2 rfl
   have HTX := zq hok2
   have hq := (numO_le ha hok2).2.1
   have hqa := (numO_le ha hok2).1
   clear hbad2
   go_wp2_with (go_at_call 92; fail)
   refine (rTxt_any w5 _ l (H.out.ext HX5.out) q hq (by omega)).mono ?_
   intro e w7 hp
   obtain ⟨s, q2, E3, rfl, hok3, hbad3, hx7⟩ := hp.form
   have HX7 := zq (HX5.out.trans hx7)
   have HO7 := zq (hx7.ownsRow HO5.out (fun _ _ e => e))
   clear hp hx7
   by_cases hE3 : E3 = 0
   case neg =>
    have hb : (E3 != 0) = true := by simpa using hE3
    have HE := zq hE3
    have HB := zq (versO_bad HNUM.out (joinO_bad' HJ.out (by omega) (verO_no2 HTX.out (hbad3 hE3))))
    clear hE3 hok2 hok3 hbad3
    go_wp2
    go_ret2
    exact ⟨HX7.out, fun es e => (by rw [HB.out] at e; cases e), fun _ => ⟨E3, HE.out, rfl⟩⟩
   subst hE3
   replace hok3 := hok3 rfl
   have hq2 := (textO_le hq hok3).2.1
   have hqq := (textO_le hq hok3).1
   have HN := zq (show n2 < 18446744073709551616 from (numO_le ha hok2).2.2)
   have HST := zq (verO_of hok2 hok3)
   have hone : OneCells (#[.int .u64 (n2 : Int), .int .u64 0, .int .u64 0, .int .u64 0, .int .u64 0, .int .u64 0, .int .u64 0, str s, .bool true, .bool false] : Array Value).toList := by intro u hu; simp at hu; rcases hu with rfl | rfl | rfl | rfl | rfl | rfl | rfl | rfl | rfl | rfl <;> rfl
   have hbase : w.heap.size <= w7.heap.size := HX7.out.size
   clear hok2 hok3 hbad3
   go_wp2_with (at_builtin; go_must (refine wpList_append_row rfl _ _ _ rfl Tryz.rversT rfl (HO7.out.alloc _) rfl (row_new _ #[.int .u64 (n2 : Int), .int .u64 0, .int .u64 0, .int .u64 0, .int .u64 0, .int .u64 0, .int .u64 0, str s, .bool true, .bool false] _ 1 _ (by decide) (by simp)) rfl hone ?c3 ?c4 ?c5 ?_))
   case c3 => unfold maxLen; omega
   case c4 => omega
   case c5 => first | omega | (simp; omega)
   intro v9 w9 hown9 hg9 _
   have hx9 : Ext w w9 := (HX7.out.alloc _).grown hg9 (fun j hj h => by have := (HOWN.out.lt j hj).1; omega)
   have HX9 := zq hx9
   have HO9 := zq hown9
   clear hx9 hown9 hg9
   go_wp2
   go_roundw
   case rel =>
    refine ⟨q2, dn ++ [(n2, s)], rfl, zq ?_, HX9, hq2, by simp; omega, by simp; omega, zq ?_, zq ?_⟩
    ·rw [flatV_snoc, List.length_append]; exact HO9.out
    ·rw [List.length_append]; exact joinO_step' HJ.out hlt HST.out
    ·intro u hu
     rcases List.mem_append.1 hu with hu | hu
     ·exact HLT.out u hu
     ·rw [List.mem_singleton.1 hu]; exact HN.out
   case measure => simp [intOf]; omega
  ·have hlti : ¬ (dn.length : Int) < (M : Int) := by omega
   have hE := joinO_end HJ.out hlt
   have HIS := zq (versO_is HNUM.out hE)
   clear hE hlt
   by_cases hal : a = l.length
   ·have hb : ((a : Int) != (l.length : Int)) = false := by simp [hal]
    have HAL := zq hal
    clear hal
    go_wp2_with (go_at_call 115; fail)
    refine (rverRight_any _ _ dn (Row.of_owns HOWN.out) (by omega) HLT.out).mono ?_
    rintro e w2 ⟨rfl, hx2⟩
    have HX2 := zq (HX.out.trans hx2)
    have HR2 := zq ((Row.of_owns HOWN.out).ext hx2)
    clear hx2
    cases hr : verRight dn with
    | true =>
     have HIS2 := zq (show versO l = some dn by rw [HIS.out, if_pos ⟨HAL.out, hr⟩])
     clear hr
     go_wp2
     go_ret2
     refine ⟨HX2.out, fun es e => ?_, fun e => (by rw [HIS2.out] at e; cases e)⟩
     rw [HIS2.out] at e
     cases e
     exact ⟨_, rfl, HR2.out⟩
    | false =>
     have HIS2 := zq (show versO l = none by rw [HIS.out, if_neg (fun h => by rw [hr] at h; cases h.2)])
     clear hr
     go_wp2
     go_ret2
     exact ⟨HX2.out, fun es e => (by rw [HIS2.out] at e; cases e), fun _ => ⟨2, by decide, rfl⟩⟩
   ·have hb : ((a : Int) != (l.length : Int)) = true := by simp; omega
    have HIS2 := zq (show versO l = none by rw [HIS.out, if_neg (fun h => hal h.1)])
    clear hal
    go_wp2
    go_ret2
    exact ⟨HX.out, fun es e => (by rw [HIS2.out] at e; cases e), fun _ => ⟨2, by decide, rfl⟩⟩
end Go.Proofs.YtnkmpoplibnflaaGreatDoor.Wk
set_option maxRecDepth 100000
set_option maxHeartbeats 16000000
namespace Go.Proofs.YtnkmpoplibnflaaGreatDoor.Wk
open Go Go.Proofs.YtnkmpoplibnflaaGreatDoor Go.RowKit
theorem Tryz.rdocT : StructT Tryz.prog 92 docZ.size := ⟨_, Tryz.underlying92, rfl, by kernel_rfl⟩
theorem _root_.Go.Proofs.YtnkmpoplibnflaaGreatDoor.Row.drewN' {S : Nat -> Prop} {w w' : World} {v : Value} {n : Nat} {cs : List Value} (h : Row S w v n cs) (e : w' = w.drew) : Row S w' v n cs := by
 subst e
 obtain ⟨a, c, h1, h2, h3, h4, h5, h6⟩ := h
 exact ⟨a, c, h1, h2, h3, h4, h5, fun b o e j u hj => h6 b o e j u hj⟩
def RDocPost (w : World) (l : List UInt8) (e : Ending) (w' : World) : Prop := ∃ (E : Int) (e0 e1 e2 e3 : Nat) (hd sd : Bool) (pa va : Option Addr) (pn pc vn vc : Nat),
 e = .returned (.tuple #[.agg (docC e0 e1 e2 e3 hd sd pa va pn pc vn vc), .int .i64 E]) /\ Ext w w' /\ (E ≠ 0 -> docO l = none) ∧
 (E = 0 -> ∃ d, docO l = some d /\ e0 = d.epoch /\ e1 = d.proc /\ e2 = d.inc /\ e3 = d.until_ /\ hd = ((d.held : Int) == 1) /\ sd = ((d.sealed_ : Int) == 1) /\ d.held <= 1 /\ d.sealed_ <= 1 /\ Row (From w.heap.size) w' (.slice pa pn pc) d.pins.length (flatT d.pins) /\ Vers (From w.heap.size) w' (.slice va vn vc) d.vers)
theorem rdocPost_bad {w w' : World} {l : List UInt8} (E : Int) (hE : E ≠ 0) (h : docO l = none) (hx : Ext w w') : RDocPost w l (.returned (.tuple #[.agg docZ, .int .i64 E])) w' :=
 ⟨E, 0, 0, 0, 0, false, false, none, none, 0, 0, 0, 0, by rw [docZ_is], hx, fun _ => h, fun e => absurd e hE⟩
theorem rdocParse_any {S : Nat -> Prop} (w : World) (v : Value) (l : List UInt8) (h : Bytes S w v l) (hl : l.length <= 1000000) :
  Calls Tryz.prog 71 #[v] w (RDocPost w l) := by
 have H := zq h
 obtain ⟨a0, c0, rfl, hn, hm, -⟩ := h
 obtain ⟨w1, hw1⟩ : ∃ u, u = w.alloc (.cells docZ 92) := ⟨_, rfl⟩
 have hx1 : Ext w w1 := by rw [hw1]; exact uZ.alloc _
 have hg1 : w1.heap[w.heap.size]? = some (.cells docZ 92 (0, 0)) := by rw [hw1]; exact newAt _ _
 have HX1 := zq hx1
 have HG1 := zq hg1
 have HW1 := zq hw1
 clear hx1 hg1 hw1
 have hfin : ∀ w9 : World, Ext w w9 -> w9.heap[w.heap.size]? = some (.cells docZ 92 (0, 0)) -> Ext w (w9.setRow w.heap.size docZ) /\ (w9.setRow w.heap.size docZ).heap[w.heap.size]? = some (.cells docZ 92 (0, 0)) := fun w9 hx hg =>
  ⟨hx.step (T := At w.heap.size) (Upd.row _ _ _) (fun k hk e => by have e : k = w.heap.size := e; omega), setRow_heap _ _ _ _ _ _ hg⟩
 have HFIN := zq hfin
 clear hfin
 go_enter Tryz.func71, Tryz.ntmps71
 go_wp2_with (go_at_call 69; fail)
 rw [show w.alloc (.cells #[.int .u64 0, .int .u64 0, .int .u64 0, .int .u64 0, .bool false, .slice none 0 0, .slice none 0 0, .bool false] 92) = w1 from HW1.out.symm]
 refine (rSix_any w1 _ l (H.out.ext HX1.out) (by omega)).mono ?_
 rintro e w2 ⟨hx2, ⟨a, b, c, d, f, g, q, hm6, hq, r, k, rfl, hk, d0, d1, d2, d3, d4, d5⟩ | ⟨hm6, E, hE, rfl⟩⟩
 case inr =>
  have HX2 := zq (HX1.out.trans hx2)
  have HG2 := zq (hx2.at_ HG1.out id)
  have hb : (E != 0) = true := by simpa using hE
  have HE := zq hE
  have HB := zq (show docO l = none by unfold docO; rw [hm6])
  clear hx2 hm6 hE
  go_wp2_with (refine wpList_store_blk rfl _ _ _ rfl rfl (cells := docZ) rfl (g := w.heap.size) HG2.out Tryz.rdocT rfl docZ_one ?_)
  refine bodyPost_blk2 rfl rfl rfl (HFIN.out _ HX2.out HG2.out).2 Tryz.rdocT ?_
  exact rdocPost_bad E HE.out HB.out (HFIN.out _ HX2.out HG2.out).1
 have HX2 := zq (HX1.out.trans hx2)
 have HG2 := zq (hx2.at_ HG1.out id)
 have HM6 := zq hm6
 have HD := zq (And.intro d0 (And.intro d1 (And.intro d2 (And.intro d3 (And.intro d4 d5)))))
 clear hx2 hm6 d0 d1 d2 d3 d4 d5
 go_wp2_with (go_at_call 94; fail)
 refine (rpinsTake_any w2 _ l (H.out.ext HX2.out) q hq hl).mono ?_
 rintro e w3 ⟨hx3, hs, hnn⟩
 have HX3 := zq (HX2.out.trans hx3)
 have HG3 := zq (hx3.at_ HG2.out id)
 have HX23 := zq hx3
 clear hx3
 cases hp : pinsO l q with
 | none =>
  obtain ⟨E, aa, hE, rfl⟩ := hnn hp
  have hb : (E != 0) = true := by simpa using hE
  have HE := zq hE
  have HB := zq (docO_p HM6.out hp)
  clear hs hnn hp hE
  go_wp2_with (refine wpList_store_blk rfl _ _ _ rfl rfl (cells := docZ) rfl (g := w.heap.size) HG3.out Tryz.rdocT rfl docZ_one ?_)
  refine bodyPost_blk2 rfl rfl rfl (HFIN.out _ HX3.out HG3.out).2 Tryz.rdocT ?_
  exact rdocPost_bad E HE.out HB.out (HFIN.out _ HX3.out HG3.out).1
 | some rr =>
  obtain ⟨ps, q2⟩ := rr
  obtain ⟨pv, rfl, hprow⟩ := hs ps q2 hp
  obtain ⟨hq2a, hq2⟩ := ((pins_reads l).ok hq hp).2
  have HP := zq hp
  have HPR := zq hprow
  obtain ⟨pa, pc, rfl, -, -, -⟩ := hprow
  have HX4 := HX3
  have HX24 := HX23
  have HG4 := HG3
  obtain ⟨d0, d1, d2, d3, d4, d5⟩ := HD.out
  replace d4 := HX23.out.cell d4 id
  replace d5 := HX23.out.cell d5 id
  clear hs hnn hp d0 d1 d2 d3
  go_upto_region 7 with fail
  by_cases hf : f <= 1
  case neg =>
   have hb : (1 : Int) < (f : Int) := by omega
   have HB := zq (docO_f HM6.out HP.out (g := g) (fun h => hf h.1))
   clear hf
   go_wp2_with (refine wpList_store_blk rfl _ _ _ rfl rfl (cells := docZ) rfl (g := w.heap.size) HG4.out Tryz.rdocT rfl docZ_one ?_)
   refine bodyPost_blk2 rfl rfl rfl (HFIN.out _ HX4.out HG4.out).2 Tryz.rdocT ?_
   exact rdocPost_bad 2 (by decide) HB.out (HFIN.out _ HX4.out HG4.out).1
  by_cases hg : g <= 1
  case neg =>
   have hb : (1 : Int) < (g : Int) := by omega
   have hb2 : ¬ (1 : Int) < (f : Int) := by omega
   have HB := zq (docO_f HM6.out HP.out (f := f) (fun h => hg h.2))
   clear hg hf
   go_wp2_with (refine wpList_store_blk rfl _ _ _ rfl rfl (cells := docZ) rfl (g := w.heap.size) HG4.out Tryz.rdocT rfl docZ_one ?_)
   refine bodyPost_blk2 rfl rfl rfl (HFIN.out _ HX4.out HG4.out).2 Tryz.rdocT ?_
   exact rdocPost_bad 2 (by decide) HB.out (HFIN.out _ HX4.out HG4.out).1
  have hb2 : ¬ (1 : Int) < (f : Int) := by omega
  have hb3 : ¬ (1 : Int) < (g : Int) := by omega
  have HFG := zq (And.intro hf hg)
  clear hf hg
  go_wp2_with (go_at_call 92; fail)
  refine (rTxt_any w3 _ l (H.out.ext HX4.out) q2 hq2 (by omega)).mono ?_
  intro e w5 hpo
  obtain ⟨s, q3, E3, rfl, hok3, hbad3, hx5⟩ := hpo.form
  have HX5 := zq (HX4.out.trans hx5)
  have HG5 := zq (hx5.at_ HG4.out id)
  have HPR5 := zq (HPR.out.ext hx5)
  have HX25 := zq (HX24.out.trans hx5)
  clear hpo hx5 d4 d5 hb2 hb3
  by_cases hE3 : E3 = 0
  case neg =>
   have hb : (E3 != 0) = true := by simpa using hE3
   have HB := zq (docO_t HM6.out HP.out HFG.out (hbad3 hE3))
   have HE := zq hE3
   clear hE3 hok3 hbad3
   go_wp2_with (refine wpList_store_blk rfl _ _ _ rfl rfl (cells := docZ) rfl (g := w.heap.size) HG5.out Tryz.rdocT rfl docZ_one ?_)
   refine bodyPost_blk2 rfl rfl rfl (HFIN.out _ HX5.out HG5.out).2 Tryz.rdocT ?_
   exact rdocPost_bad E3 HE.out HB.out (HFIN.out _ HX5.out HG5.out).1
  subst hE3
  have HT := zq (hok3 rfl)
  obtain ⟨-, hq3, hsl⟩ := textO_le hq2 (hok3 rfl)
  clear hok3 hbad3
  by_cases hlt : q3 < l.length
  ·have hb : (q3 : Int) < (l.length : Int) := by omega
   have HB := zq (docO_l HM6.out HP.out HFG.out HT.out (by omega))
   clear hlt
   go_wp2_with (refine wpList_store_blk rfl _ _ _ rfl rfl (cells := docZ) rfl (g := w.heap.size) HG5.out Tryz.rdocT rfl docZ_one ?_)
   refine bodyPost_blk2 rfl rfl rfl (HFIN.out _ HX5.out HG5.out).2 Tryz.rdocT ?_
   exact rdocPost_bad 11 (by decide) HB.out (HFIN.out _ HX5.out HG5.out).1
  have hb : ¬ (q3 : Int) < (l.length : Int) := by omega
  have HQ3 := zq (show q3 = l.length by omega)
  obtain ⟨gc, w6, hcv, hbs, hx6⟩ := conv_text (P := Tryz.prog) w5 s (src := 9) (dst := 23) (e := 5) Tryz.underlying9 Tryz.underlying23 Tryz.underlying5 (by unfold maxLen; omega)
  have HBS := zq hbs
  have HX56 := zq hx6
  clear hx6 hbs
  go_wp2_with (go_at_call 95; fail)
  refine (rverParse_any w6 _ s HBS.out (by omega)).mono ?_
  rintro e w7 ⟨hx7, hs, hnn⟩
  have hx57 := HX56.out.trans hx7
  have HX7 := zq (HX5.out.trans hx57)
  have HG7 := zq (hx57.at_ HG5.out id)
  have HPR7 := zq (HPR5.out.ext hx57)
  have HX27 := zq (HX25.out.trans hx57)
  clear hx57 hx7 hcv
  cases hv : versO s with
  | none =>
   obtain ⟨E, hE, rfl⟩ := hnn hv
   have hb : (E != 0) = true := by simpa using hE
   have HE := zq hE
   have HB := zq (docO_v HM6.out HP.out HFG.out HT.out HQ3.out hv)
   clear hs hnn hv hE
   go_wp2_with (refine wpList_store_blk rfl _ _ _ rfl rfl (cells := docZ) rfl (g := w.heap.size) HG7.out Tryz.rdocT rfl docZ_one ?_)
   refine bodyPost_blk2 rfl rfl rfl (HFIN.out _ HX7.out HG7.out).2 Tryz.rdocT ?_
   exact rdocPost_bad E HE.out HB.out (HFIN.out _ HX7.out HG7.out).1
  | some vs =>
   obtain ⟨vv, rfl, hvrow⟩ := hs vs hv
   have HVR := zq hvrow
   obtain ⟨va, vc, rfl, -, -, -⟩ := hvrow
   have HB := zq (docO_ok' HM6.out HP.out HFG.out HT.out HQ3.out hv)
   obtain ⟨d0, d1, d2, d3, d4, d5⟩ := HD.out
   replace d0 := HX27.out.cell d0 id
   replace d1 := HX27.out.cell d1 id
   replace d2 := HX27.out.cell d2 id
   replace d3 := HX27.out.cell d3 id
   replace d4 := HX27.out.cell d4 id
   replace d5 := HX27.out.cell d5 id
   have g0 := cZ HG7.out 0 (.int .u64 0) rfl
   have g1 := cZ HG7.out 1 (.int .u64 0) rfl
   have g2 := cZ HG7.out 2 (.int .u64 0) rfl
   have g3 := cZ HG7.out 3 (.int .u64 0) rfl
   have g4 := cZ HG7.out 4 (.bool false) rfl
   have g5 := cZ HG7.out 5 (.slice none 0 0) rfl
   have g6 := cZ HG7.out 6 (.slice none 0 0) rfl
   have g7 := cZ HG7.out 7 (.bool false) rfl
   have f0 := freeAt HG7.out 0
   have f1 := freeAt HG7.out 1
   have f2 := freeAt HG7.out 2
   have f3 := freeAt HG7.out 3
   have f4 := freeAt HG7.out 4
   have f5 := freeAt HG7.out 5
   have f6 := freeAt HG7.out 6
   have f7 := freeAt HG7.out 7
   have l7 := lZ HG7.out
   clear hs hnn hv
   go_upto_region 17 with fail
   go_region
   obtain ⟨w9, hw9⟩ : ∃ u, u = ((((((((w7.setCell ⟨w.heap.size, 0, none⟩ (.int .u64 (a : Int))).setCell ⟨w.heap.size, 1, none⟩ (.int .u64 (b : Int))).setCell ⟨w.heap.size, 2, none⟩ (.int .u64 (c : Int))).setCell ⟨w.heap.size, 3, none⟩ (.int .u64 (d : Int))).setCell ⟨w.heap.size, 4, none⟩ (.bool ((f : Int) == 1))).setCell ⟨w.heap.size, 5, none⟩ (.slice pa ps.length pc)).setCell ⟨w.heap.size, 6, none⟩ (.slice va vs.length vc)).setCell ⟨w.heap.size, 7, none⟩ (.bool ((g : Int) == 1))).drew := ⟨_, rfl⟩
   rw [<- hw9]
   have hst := doc_stores HG7.out (.int .u64 (a : Int)) (.int .u64 (b : Int)) (.int .u64 (c : Int)) (.int .u64 (d : Int)) (.bool ((f : Int) == 1)) (.slice pa ps.length pc) (.slice va vs.length vc) (.bool ((g : Int) == 1))
   have hg9 : w9.heap[w.heap.size]? = some (.cells (docC a b c d ((f : Int) == 1) ((g : Int) == 1) pa va ps.length pc vs.length vc) 92 (0, 0)) := by
    rw [hw9, drew_heap]; unfold docC; exact hst.1
   have hx9 : Ext w w9 := by
    rw [hw9]
    exact Upd.drew (HX7.out.step hst.2 (fun k hk e => by have e : k = w.heap.size := e; omega))
   have HG9 := zq hg9
   have HU9 := zq hst.2
   have HW9 := zq hw9
   have HX9 := zq hx9
   clear hst hg9 hx9 hw9 d0 d1 d2 d3 d4 d5 g0 g1 g2 g3 g4 g5 g6 g7 f0 f1 f2 f3 f4 f5 f6 f7 l7
   go_wp2
   refine bodyPost_blk2 rfl rfl rfl HG9.out Tryz.rdocT ?_
   have hsz := HX5.out.size
   refine ⟨0, a, b, c, d, _, _, pa, va, ps.length, pc, vs.length, vc, rfl, HX9.out, fun e => absurd rfl e, fun _ => ⟨_, HB.out, rfl, rfl, rfl, rfl, rfl, rfl, HFG.out.1, HFG.out.2, ?_, ?_⟩⟩
   ·exact (((HPR7.out.upd HU9.out (fun k h e => by have h : w2.heap.size <= k := h; have e : k = w.heap.size := e; have := lZ HG2.out; omega))).mono (fun k h => by have h : w2.heap.size <= k := h; have := HX2.out.size; show w.heap.size <= k; omega)).drewN' HW9.out
   ·exact (((HVR.out.upd HU9.out (fun k h e => by have h : w6.heap.size <= k := h; have e : k = w.heap.size := e; have := lZ HG5.out; have := HX56.out.size; omega))).mono (fun k h => by have h : w6.heap.size <= k := h; have := HX56.out.size; show w.heap.size <= k; omega)).drewN' HW9.out
end Go.Proofs.YtnkmpoplibnflaaGreatDoor.Wk
