/-
  CONTRACT of the reference's Parse of catalogs. Condition: at most 1000000 bytes.
  CONTRACT of the reference's Put of a catalog, that is right. Condition: its bytes are at most 1000000.
  A base tells of few lives, plain. No program in sight.
-/
import Derived.Test.YtnkmpoplibnflaaGreatDoorGAV
import Derived.Test.YtnkmpoplibnflaaGreatDoorGAU
set_option maxRecDepth 100000
set_option maxHeartbeats 16000000
namespace Go.Proofs.YtnkmpoplibnflaaGreatDoor.Wk
open Go Go.Proofs.YtnkmpoplibnflaaGreatDoor Go.RowKit
theorem Tryz.rentsT : SliceT Tryz.prog 93 177 2 24 := sliceT_of Tryz.underlying93 (by kernel_rfl) (by decide)
theorem rcatParse_any {S : Nat -> Prop} (w : World) (v : Value) (l : List UInt8) (h : Bytes S w v l) (hl : l.length <= 1000000) :
  Calls Tryz.prog 70 #[v] w (CatPost w l) := by
 have H := zq h
 obtain ⟨a0, c0, rfl, hn, hm, -⟩ := h
 go_enter Tryz.func70, Tryz.ntmps70
 go_wp2_with (go_at_call 90; fail)
 refine (rNum_any w _ l H.out 0 (Nat.zero_le _) (by omega)).mono ?_
 intro e w1 hp
 obtain ⟨M, a1, E1, rfl, hok, hbad, hx1⟩ := hp.form
 have HX1 := zq hx1
 clear hp hx1
 by_cases hE1 : E1 = 0
 case neg =>
  have hb : (E1 != 0) = true := by simpa using hE1
  have HE := zq hE1
  have HB := zq (catO_no (hbad hE1))
  clear hE1 hok hbad
  go_wp2
  go_ret2
  exact ⟨HX1.out, fun es e => (by rw [HB.out] at e; cases e), fun _ => ⟨E1, HE.out, rfl⟩⟩
 subst hE1
 have HNUM := zq (hok rfl)
 obtain ⟨-, ha1, hM⟩ := numO_le (Nat.zero_le _) (hok rfl)
 clear hok hbad
 go_wp2
 go_loopw [5, 7] (fun at' out wr => ∃ (a : Nat) (dn : List Ent), at' = .int .i64 (a : Int) /\ Hid (wr.ownsRow w.heap.size 177 2 out dn.length (flatE dn)) /\ Hid (Ext w wr) /\ a <= l.length /\ dn.length <= a /\ dn.length <= M /\ Hid (manyO (entO l) M a1 = joinO dn (manyO (entO l) (M - dn.length) a)) /\ Hid (∀ e ∈ dn, e.2 < 18446744073709551616)) (fun at' _ _ => l.length - (intOf at').toNat)
 case atStart => exact ⟨a1, [], rfl, zq (World.ownsRow_nil _ _ _ _), HX1, ha1, by simp, by simp, zq (joinO_nil _).symm, zq (by simp)⟩
 case round =>
  obtain ⟨a, dn, rfl, HOWN, HX, ha, hda, hkM, HJ, HLT⟩ := hrel
  obtain ⟨ra, rc, rfl⟩ := ownsFormN HOWN.out
  have hxs := HX.out.size
  have hdl : dn.length <= 1000000 := by omega
  by_cases hlt : dn.length < M
  ·have hlti : (dn.length : Int) < (M : Int) := by omega
   go_wp2_with (go_at_call 92; fail)
   refine (rTxt_any wr _ l (H.out.ext HX.out) a ha (by omega)).mono ?_
   intro e w5 hp
   obtain ⟨s, q, E2, rfl, hok2, hbad2, hx5⟩ := hp.form
   have HX5 := zq (HX.out.trans hx5)
   have HO5 := zq (hx5.ownsRow HOWN.out (fun _ _ e => e))
   clear hp hx5
   by_cases hE2 : E2 = 0
   case neg =>
    have hb : (E2 != 0) = true := by simpa using hE2
    have HE := zq hE2
    have HB := zq (catO_bad HNUM.out (joinO_bad' HJ.out (by omega) (entO_no1 (hbad2 hE2))))
    clear hE2 hok2 hbad2
    go_wp2
    go_ret2
    exact ⟨HX5.out, fun es e => (by rw [HB.out] at e; cases e), fun _ => ⟨E2, HE.out, rfl⟩⟩
   subst hE2
   replace hok2 := hok2 rfl
   have HTX := zq hok2
   have hq := (textO_le ha hok2).2.1
   have hqa := (textO_le ha hok2).1
   clear hbad2
   go_wp2_with (go_at_call 90; fail)
   refine (rNum_any w5 _ l (H.out.ext HX5.out) q hq (by omega)).mono ?_
   intro e w7 hp
   obtain ⟨n2, q2, E3, rfl, hok3, hbad3, hx7⟩ := hp.form
   have HX7 := zq (HX5.out.trans hx7)
   have HO7 := zq (hx7.ownsRow HO5.out (fun _ _ e => e))
   clear hp hx7
   by_cases hE3 : E3 = 0
   case neg =>
    have hb : (E3 != 0) = true := by simpa using hE3
    have HE := zq hE3
    have HB := zq (catO_bad HNUM.out (joinO_bad' HJ.out (by omega) (entO_no2 HTX.out (hbad3 hE3))))
    clear hE3 hok2 hok3 hbad3
    go_wp2
    go_ret2
    exact ⟨HX7.out, fun es e => (by rw [HB.out] at e; cases e), fun _ => ⟨E3, HE.out, rfl⟩⟩
   subst hE3
   replace hok3 := hok3 rfl
   have hq2 := (numO_le hq hok3).2.1
   have hqq := (numO_le hq hok3).1
   have HN := zq (show n2 < 18446744073709551616 from (numO_le hq hok3).2.2)
   have HST := zq (entO_of hok2 hok3)
   have hone : OneCells (#[str s, .int .u64 (n2 : Int)] : Array Value).toList := by intro u hu; simp at hu; rcases hu with rfl | rfl <;> rfl
   have hbase : w.heap.size <= w7.heap.size := HX7.out.size
   clear hok2 hok3 hbad3
   go_wp2_with (at_builtin; go_must (refine wpList_append_row rfl _ _ _ rfl Tryz.rentsT rfl (HO7.out.alloc _) rfl (row_new _ #[str s, .int .u64 (n2 : Int)] _ 1 _ (by decide) (by simp)) rfl hone ?c3 ?c4 ?c5 ?_))
   case c3 => unfold maxLen; omega
   case c4 => omega
   case c5 => first | omega | (simp; omega)
   intro v9 w9 hown9 hg9 _
   have hx9 : Ext w w9 := (HX7.out.alloc _).grown hg9 (fun j hj h => by have := (HOWN.out.lt j hj).1; omega)
   have HX9 := zq hx9
   have HO9 := zq hown9
   clear hx9 hown9 hg9
   go_wp2
   go_roundw
   case rel =>
    refine ⟨q2, dn ++ [(s, n2)], rfl, zq ?_, HX9, hq2, by simp; omega, by simp; omega, zq ?_, zq ?_⟩
    ·rw [flatE_snoc, List.length_append]; exact HO9.out
    ·rw [List.length_append]; exact joinO_step' HJ.out hlt HST.out
    ·intro u hu
     rcases List.mem_append.1 hu with hu | hu
     ·exact HLT.out u hu
     ·rw [List.mem_singleton.1 hu]; exact HN.out
   case measure => simp [intOf]; omega
  ·have hlti : ¬ (dn.length : Int) < (M : Int) := by omega
   have hE := joinO_end HJ.out hlt
   have HIS := zq (catO_is HNUM.out hE)
   clear hE hlt
   by_cases hal : a = l.length
   ·have hb : ((a : Int) != (l.length : Int)) = false := by simp [hal]
    have HAL := zq hal
    clear hal
    go_wp2_with (go_at_call 93; fail)
    refine (rcatRight_any _ _ dn (Row.of_owns HOWN.out) (by omega) HLT.out).mono ?_
    rintro e w2 ⟨rfl, hx2⟩
    have HX2 := zq (HX.out.trans hx2)
    have HR2 := zq ((Row.of_owns HOWN.out).ext hx2)
    clear hx2
    cases hr : catRight dn with
    | true =>
     have HIS2 := zq (show catO l = some dn by rw [HIS.out, if_pos ⟨HAL.out, hr⟩])
     clear hr
     go_wp2
     go_ret2
     refine ⟨HX2.out, fun es e => ?_, fun e => (by rw [HIS2.out] at e; cases e)⟩
     rw [HIS2.out] at e
     cases e
     exact ⟨_, rfl, HR2.out⟩
    | false =>
     have HIS2 := zq (show catO l = none by rw [HIS.out, if_neg (fun h => by rw [hr] at h; cases h.2)])
     clear hr
     go_wp2
     go_ret2
     exact ⟨HX2.out, fun es e => (by rw [HIS2.out] at e; cases e), fun _ => ⟨2, by decide, rfl⟩⟩
   ·have hb : ((a : Int) != (l.length : Int)) = true := by simp; omega
    have HIS2 := zq (show catO l = none by rw [HIS.out, if_neg (fun h => hal h.1)])
    clear hal
    go_wp2
    go_ret2
    exact ⟨HX.out, fun es e => (by rw [HIS2.out] at e; cases e), fun _ => ⟨2, by decide, rfl⟩⟩
end Go.Proofs.YtnkmpoplibnflaaGreatDoor.Wk
set_option maxRecDepth 100000
set_option maxHeartbeats 16000000
namespace Go.Proofs.YtnkmpoplibnflaaGreatDoor.Wk
open Go Go.Proofs.YtnkmpoplibnflaaGreatDoor Go.RowKit
theorem flat_take_le {α : Type} (f : α -> List UInt8) (l : List α) (n : Nat) : (((l.take n).map f).flatten).length <= ((l.map f).flatten).length := by
 have h := congrArg (fun x => ((x.map f).flatten).length) (List.take_append_drop n l)
 simp only [List.map_append, List.flatten_append, List.length_append] at h
 omega
theorem flat_mem_le {α : Type} (f : α -> List UInt8) {l : List α} {n : Nat} (h : n < l.length) : (f l[n]).length <= ((l.map f).flatten).length := by
 have h2 := flat_take_le f l (n + 1)
 rw [List.take_succ_eq_append_getElem h] at h2
 simp only [List.map_append, List.flatten_append, List.length_append, List.map_cons, List.map_nil, List.flatten_cons, List.flatten_nil, List.length_nil] at h2
 omega
theorem flat_count {α : Type} (f : α -> List UInt8) (hf : ∀ e, 1 <= (f e).length) : ∀ l : List α, l.length <= ((l.map f).flatten).length
 | [] => by simp
 | a :: l => by
  have := flat_count f hf l
  have := hf a
  simp only [List.map_cons, List.flatten_cons, List.length_append, List.length_cons]
  omega
theorem rcatPut_any {S : Nat -> Prop} (w : World) (v : Value) (l : List Ent) (h : Ents S w v l) (hr : catRight l = true) (h64 : ∀ e ∈ l, e.2 < 18446744073709551616) (hlen : (encCat l).length <= 1000000) :
  Calls Tryz.prog 74 #[v] w fun e w' => ∃ v', e = .returned (.tuple #[v', .int .i64 0]) /\ w'.ownsRow w.heap.size 5 1 v' (encCat l).length ((encCat l).map u8) /\ Ext w w' := by
 have H := zq h
 have H64 := zq h64
 have HLEN := zq (show ((l.map encEnt).flatten).length <= 1000000 by simp [encCat] at hlen; simp; omega)
 have hcnt : l.length <= 1000000 := by have h1 := flat_count encEnt (fun e => by have := vput_len1 e.2; simp [encEnt, vtext]; omega) l; have := HLEN.out; omega
 have hvl : (vput l.length).length <= 10 := vput_len_le (by omega)
 have HENC := zq (show encCat l = vput l.length ++ (l.map encEnt).flatten from rfl)
 have HR := zq hr
 obtain ⟨a0, c0, rfl, hn, hm, -⟩ := h
 unfold maxLen at hm
 clear h64 hlen hr
 go_enter Tryz.func74, Tryz.ntmps74
 go_wp2_with (go_at_call 93; fail)
 refine (rcatRight_any w _ l H.out hcnt H64.out).mono ?_
 rintro e w1 ⟨rfl, hx1⟩
 rw [HR.out]
 have HX1 := zq hx1
 clear hx1
 go_wp2_with (go_at_call 96; fail)
 refine (rPut_any w1 l.length (by omega)).mono ?_
 rintro e w2 ⟨v2, rfl, hown2, hx2⟩
 have HX2 := zq (HX1.out.trans hx2)
 have HO2 := zq (show w2.ownsRow w.heap.size 5 1 v2 (vput l.length ++ ((l.take 0).map encEnt).flatten).length ((vput l.length ++ ((l.take 0).map encEnt).flatten).map u8) by simpa using hown2.mono_base HX1.out.size)
 clear hown2 hx2
 go_wp2
 go_loopw [4, 5] (fun out t wr => ∃ n : Nat, n <= l.length /\ t = .int .i64 n /\ Hid (wr.ownsRow w.heap.size 5 1 out (vput l.length ++ ((l.take n).map encEnt).flatten).length ((vput l.length ++ ((l.take n).map encEnt).flatten).map u8)) /\ Hid (Ext w wr)) (fun _ t _ => l.length - (intOf t).toNat)
 case atStart => exact ⟨0, Nat.zero_le _, rfl, HO2, HX2⟩
 case round =>
  obtain ⟨n, hn', rfl, HOWN, HX⟩ := hrel
  obtain ⟨PL, hPL⟩ : ∃ p, p = vput l.length ++ ((l.take n).map encEnt).flatten := ⟨_, rfl⟩
  have HPL := zq hPL
  have hplen : PL.length <= 1000010 := by rw [hPL, List.length_append]; have h1 := flat_take_le encEnt l n; have := HLEN.out; omega
  rw [<- hPL] at HOWN
  clear hPL
  obtain ⟨ra, rc, rfl⟩ := ownsFormN HOWN.out
  have hxs := HX.out.size
  by_cases hlt : n < l.length
  ·obtain ⟨b1, o1, c1, e1, -, -, -, hq0⟩ := H.out.addr (by omega)
   cases e1
   have HQ := zq hq0
   have hq1 : ∀ j u, _ -> wr.cell? ⟨b1, o1 + j, none⟩ = some u := fun j u h => HX.out.cell (hq0 j u h) id
   have HLO := zq (show ∀ j, (Value.slice ra PL.length rc).ownBlock = some j -> w.heap.size <= j /\ j < wr.heap.size from fun j hj => HOWN.out.lt j hj)
   clear hq0
   have HLT := zq hlt
   obtain ⟨s, hs⟩ : ∃ s, s = l[n].1 := ⟨_, rfl⟩
   obtain ⟨di, hd⟩ : ∃ s, s = l[n].2 := ⟨_, rfl⟩
   have hdi : di < 18446744073709551616 := hd ▸ H64.out _ (List.getElem_mem hlt)
   have d0 : wr.cell? ⟨b1, o1 + n * 2, none⟩ = some (str s) := by rw [hs]; exact hq1 _ _ (flatE_at n hlt).1
   have d1 : wr.cell? ⟨b1, o1 + n * 2 + 1, none⟩ = some (.int .u64 (di : Int)) := by rw [hd]; exact hq1 _ _ (flatE_at n hlt).2
   have hen : encEnt l[n] = vtext s ++ vput di := by rw [hs, hd]; rfl
   have HD := zq hd
   have hsl : s.length <= 1000000 := by have := congrArg List.length hen; simp [vtext] at this; have h3 := flat_mem_le encEnt hlt; have := HLEN.out; omega
   have hb12 : (vtext s).length + (vput di).length <= 1000000 := by have h1 := congrArg List.length hen; rw [List.length_append] at h1; have h3 := flat_mem_le encEnt hlt; have := HLEN.out; omega
   have HEN := zq hen
   clear hen hq1 hs hd
   go_wp2_with (go_at_call 97; fail)
   refine (rText_any wr s (by omega)).mono ?_
   rintro e w5 ⟨v5, rfl, hown5, hx5⟩
   have hbase5 : w.heap.size <= w5.heap.size := (HX.out.trans hx5).size
   go_wp2_with (at_builtin; go_must (refine wpList_append_row rfl _ _ _ rfl Tryz.bytesT rfl (hx5.ownsRow HOWN.out (fun _ _ e => e)) rfl (Row.of_owns hown5) (by simp) (u8_one _) ?c3 ?c4 hbase5 ?_))
   case c3 => unfold maxLen; omega
   case c4 => omega
   intro v6 w6 hown6 hg6 _
   have hu6 : Upd (fun k => (Value.slice ra PL.length rc).ownBlock = some k) wr w6 := (hx5.mono (fun _ _ e => e.elim)).grown hg6 (fun k hk _ => hk)
   have HX6 := zq ((HX.out.trans hx5).grown hg6 (fun j hj h => by have := (HLO.out j hj).1; omega))
   have HO6 := zq hown6
   have HU6 := zq hu6
   clear hown5 hx5 hown6 hg6 hu6 hbase5
   have d2 : w6.cell? ⟨b1, o1 + n * 2 + 1, none⟩ = some (.int .u64 (di : Int)) := by rw [HD.out]; exact HX6.out.cell (HQ.out _ _ (flatE_at n HLT.out).2) id
   clear d0 d1
   obtain ⟨r6, c6, rfl⟩ := ownsFormN HO6.out
   have HLO6 := zq (show ∀ j, (Value.slice r6 (PL.length + (vtext s).length) c6).ownBlock = some j -> w.heap.size <= j from fun j hj => (HO6.out.lt j hj).1)
   go_wp2_with (go_at_call 96; fail)
   refine (rPut_any w6 di hdi).mono ?_
   rintro e w7 ⟨v7, rfl, hown7, hx7⟩
   have hbase7 : w.heap.size <= w7.heap.size := (HX6.out.trans hx7).size
   go_wp2_with (at_builtin; go_must (refine wpList_append_row rfl _ _ _ rfl Tryz.bytesT rfl (hx7.ownsRow HO6.out (fun _ _ e => e)) rfl (Row.of_owns hown7) (by simp) (u8_one _) ?c3 ?c4 hbase7 ?_))
   case c3 => unfold maxLen; omega
   case c4 => omega
   intro v8 w8 hown8 hg8 _
   have HX8 := zq ((HX6.out.trans hx7).grown hg8 (fun j hj h => by have := HLO6.out j hj; omega))
   have HO8 := zq hown8
   clear hown7 hx7 hown8 hg8 hbase7
   go_wp2
   go_roundw
   case rel =>
    refine ⟨n + 1, by have := HLT.out; omega, by go_num, zq ?_, HX8⟩
    have e : vput l.length ++ ((l.take (n + 1)).map encEnt).flatten = PL ++ (vtext s ++ vput di) := by
     rw [List.take_succ_eq_append_getElem HLT.out, List.map_append, List.flatten_append, HPL.out, List.append_assoc]
     simp only [List.map_cons, List.map_nil, List.flatten_cons, List.flatten_nil, List.append_nil]
     exact congrArg (fun z => vput l.length ++ ((List.map encEnt (List.take n l)).flatten ++ z)) HEN.out
    rw [e]
    have h8 := HO8.out
    rw [<- List.map_append, <- List.map_append] at h8
    try rw [List.append_assoc] at h8
    rw [show (PL ++ (vtext s ++ vput di)).length = PL.length + (vtext s).length + (vput di).length by simp; omega]
    exact h8
   case measure => have := HLT.out; simp [intOf]; omega
  ·have hkl : n = l.length := by omega
   have HF := zq (show encCat l = PL by rw [HENC.out, HPL.out, hkl, List.take_length])
   clear hkl
   go_wp2
   go_ret2
   exact ⟨_, rfl, by rw [HF.out]; exact HOWN.out, HX.out⟩
end Go.Proofs.YtnkmpoplibnflaaGreatDoor.Wk
set_option maxRecDepth 100000
set_option maxHeartbeats 16000000
namespace Go.Proofs.YtnkmpoplibnflaaGreatDoor.Wk
open Go Go.Proofs.YtnkmpoplibnflaaGreatDoor Go.RowKit
theorem baseO_last {l : List UInt8} {x : StP} (h : baseO l x) (hl : l.length <= 60000) : x.last.length <= 60000 := by
 obtain ⟨b, rfl, hs, -⟩ := h
 have henc := (stO_ok hs).1
 have h1 := flat_count encTr (fun e => by have := vput_len1 e.1; simp [encTr]; omega) x.last
 have h2 : b.length <= (frameF 12 b).length := by rw [frameF_len]; omega
 have h3 : ((x.last.map encTr).flatten).length <= b.length := by rw [<- henc]; obtain ⟨ch, tl, l, cont⟩ := x; simp [encSt]; omega
 omega
end Go.Proofs.YtnkmpoplibnflaaGreatDoor.Wk
