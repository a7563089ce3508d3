/-
  CONTRACT of the catalog's Parse. Condition: at most 1000000 bytes.
  CONTRACT of state's Parse. Condition: at most 60000 bytes.
-/
import Derived.Test.YtnkmpoplibnflaaGreatDoorWCat
import Derived.Test.YtnkmpoplibnflaaGreatDoorGAO
import Derived.Test.YtnkmpoplibnflaaGreatDoorGAR
import Derived.Test.YtnkmpoplibnflaaGreatDoorGAS
set_option maxRecDepth 100000
set_option maxHeartbeats 16000000
namespace Go.Proofs.YtnkmpoplibnflaaGreatDoor.Wk
open Go Go.Proofs.YtnkmpoplibnflaaGreatDoor Go.RowKit
theorem Tryz.entsT : SliceT Tryz.prog 211 259 2 24 := sliceT_of Tryz.underlying211 (by kernel_rfl) (by decide)
def CatPost (w : World) (l : List UInt8) (e : Ending) (w' : World) : Prop := Ext w w' ∧
 (∀ es, catO l = some es -> ∃ v, e = .returned (.tuple #[v, .int .i64 0]) /\ Ents (From w.heap.size) w' v es) ∧
 (catO l = none -> ∃ E : Int, E ≠ 0 /\ e = .returned (.tuple #[.slice none 0 0, .int .i64 E]))
theorem catParse_any {S : Nat -> Prop} (w : World) (v : Value) (l : List UInt8) (h : Bytes S w v l) (hl : l.length <= 1000000) :
  Calls Tryz.prog 131 #[v] w (CatPost w l) := by
 have H := zq h
 obtain ⟨a0, c0, rfl, hn, hm, -⟩ := h
 go_enter Tryz.func131, Tryz.ntmps131
 go_wp2_with (go_at_call 145; fail)
 refine (vNum_any w _ l H.out 0 (Nat.zero_le _)).mono ?_
 intro e w1 hp
 obtain ⟨M, a1, E1, rfl, hok, hbad, hx1⟩ := hp.form
 have HX1 := zq hx1
 have HOK := zq hok
 have HA := zq (show E1 = 0 -> a1 <= l.length /\ M < 18446744073709551616 from fun e => by have := numO_le (Nat.zero_le _) (hok e); exact ⟨this.2.1, this.2.2⟩)
 have HJ0 := zq (show E1 = 0 -> manyO (entO l) M a1 = joinO [] (manyO (entO l) (M - 0) a1) from fun _ => (joinO_nil _).symm)
 have HNO := zq (show E1 ≠ 0 -> catO l = none from fun e => catO_no (hbad e))
 clear hp hok hbad hx1
 go_wp2
 go_loopw [5, 6, 7, 8] (fun at' e out i wr => ∃ (a k : Nat) (E : Int) (dn : List Ent), at' = .int .i64 (a : Int) /\ e = .int .i64 E /\ i = .int .u64 (k : Int) /\ k <= 1000000 ∧
   wr.ownsRow w.heap.size 259 2 out dn.length (flatE dn) /\ Ext w wr /\ Hid (E = 0 -> E1 = 0 /\ a <= l.length /\ k <= M /\ k = dn.length /\ dn.length <= a /\ manyO (entO l) M a1 = joinO dn (manyO (entO l) (M - k) a)) /\ Hid (E ≠ 0 -> catO l = none) /\ Hid (E = 0 -> ∀ e ∈ dn, e.2 < 18446744073709551616)) (fun _ _ _ i _ => M - (intOf i).toNat)
 case atStart => exact ⟨a1, 0, E1, [], rfl, rfl, rfl, by omega, World.ownsRow_nil _ _ _ _, HX1.out, zq (fun e => ⟨e, (HA.out e).1, Nat.zero_le _, rfl, by simp, HJ0.out e⟩), HNO, zq (by simp)⟩
 case round =>
  obtain ⟨a, k, E, dn, rfl, rfl, rfl, hk, hown, hx, HE0, HE1, HLT⟩ := hrel
  obtain ⟨ra, rc, rfl⟩ := ownsFormN hown
  have HOWN := zq hown
  have HX := zq hx
  have hxs := hx.size
  clear hown hx
  by_cases hE : E = 0
  case neg =>
   have hb : (E != 0) = true := by simpa using hE
   have hb2 : (E == 0) = false := by simpa using hE
   have HB := zq (HE1.out hE)
   have HEE := zq hE
   clear hE
   go_wp2
   all_goals go_ret2
   all_goals exact ⟨HX.out, fun es e => (by rw [HB.out] at e; cases e), fun _ => ⟨E, HEE.out, rfl⟩⟩
  obtain ⟨hE1, ha, hkM, hkd, hda, hj⟩ := HE0.out hE
  subst hE
  have HJ := zq hj
  have HNUM := zq (HOK.out hE1)
  have HE1Z := zq hE1
  replace HLT := zq (HLT.out rfl)
  clear hj HE0 HE1 hE1 HA HOK HNO HJ0
  by_cases hlt : k < M
  ·have hlti : (k : Int) < (M : Int) := by omega
   obtain ⟨w4, hw4⟩ : ∃ u, u = wr.alloc (.cells #[str [], .int .u64 0] 259) := ⟨_, rfl⟩
   have hx4 : Ext wr w4 := by rw [hw4]; exact uZ.alloc _
   have hg4 : w4.heap[wr.heap.size]? = some (.cells #[str [], .int .u64 0] 259 (0, 0)) := by rw [hw4]; exact newAt _ _
   have HX4 := zq (HX.out.trans hx4)
   have HO4 := zq (hx4.ownsRow HOWN.out (fun _ _ e => e))
   have hw4s : wr.heap.size < w4.heap.size := lZ hg4
   have HLO := zq (show ∀ k, (Value.slice ra dn.length rc).ownBlock = some k -> k < wr.heap.size from fun k hk => (HOWN.out.lt k hk).2)
   have HG4 := zq hg4
   have HW4 := zq hw4
   clear hx4 hg4 hw4
   go_wp2_with (go_at_call 146; fail)
   rw [show wr.alloc (.cells #[str [], .int .u64 0] 259) = w4 from HW4.out.symm]
   refine (vTxt_any w4 _ l (H.out.ext HX4.out) a ha (by omega)).mono ?_
   intro e w5 hp
   obtain ⟨s, q, E2, rfl, hok2, hbad2, hx5⟩ := hp.form
   have HX5 := zq (HX4.out.trans hx5)
   have HO5 := zq (hx5.ownsRow HO4.out (fun _ _ e => e))
   have HG5 := zq (hx5.at_ HG4.out id)
   have HOK2 := zq hok2
   have HBAD2 := zq hbad2
   have b0 := cZ HG5.out 0 _ rfl
   have f0 := freeAt HG5.out 0
   have l0 := lZ HG5.out
   have hxs5 := HX5.out.size
   clear hp hok2 hbad2 hx5 HO4 HG4 HX4
   obtain ⟨w6, hw6⟩ : ∃ u, u = w5.setCell ⟨wr.heap.size, 0, none⟩ (str s) := ⟨_, rfl⟩
   have hu6 : Upd (At wr.heap.size) w5 w6 := by rw [hw6]; exact Upd.own _ _ _ _
   have hg6 : w6.heap[wr.heap.size]? = some (.cells #[str s, .int .u64 0] 259 (0, 0)) := by rw [hw6]; exact setAt HG5.out
   have HX6 := zq (HX5.out.step hu6 (fun i hi e => by unfold At at e; omega))
   have HO6 := zq (hu6.ownsRow HO5.out (fun k hk e => by have := HLO.out k hk; have e : k = wr.heap.size := e; omega))
   have HG6 := zq hg6
   have HW6 := zq hw6
   clear hu6 hg6 hw6
   by_cases hE2 : E2 = 0
   case neg =>
    have hb : (E2 != 0) = true := by simpa using hE2
    have HB := zq (catO_bad HNUM.out (joinO_bad' HJ.out (by omega) (entO_no1 (HBAD2.out hE2))))
    have HEE := zq hE2
    clear hE2
    have HXB := zq (show Ext w (w5.setCell ⟨wr.heap.size, 0, none⟩ (str s)) from HX5.out.step (Upd.own _ _ _ _) (fun i hi e => by unfold At at e; omega))
    go_wp2
    go_ret2
    exact ⟨HXB.out, fun es e => (by rw [HB.out] at e; cases e), fun _ => ⟨E2, HEE.out, rfl⟩⟩
   subst hE2
   have htx := HOK2.out rfl
   have HTX := zq htx
   have hq := (textO_le ha htx).2.1
   have hqa := (textO_le ha htx).1
   clear HOK2 HBAD2 htx
   go_wp2_with (go_at_call 145; fail)
   rw [<- HW6.out]
   clear b0 f0 l0
   refine (vNum_any w6 _ l (H.out.ext HX6.out) q hq).mono ?_
   intro e w7 hp
   obtain ⟨n2, q2, E3, rfl, hok3, hbad3, hx7⟩ := hp.form
   have HX7 := zq (HX6.out.trans hx7)
   have HO7 := zq (hx7.ownsRow HO6.out (fun _ _ e => e))
   have hg7 := hx7.at_ HG6.out id
   have HG7 := zq hg7
   have HOK3 := zq hok3
   have HBAD3 := zq hbad3
   have b1 := cZ hg7 1 _ rfl
   have f1 := freeAt hg7 1
   have l1 := lZ hg7
   clear hp hok3 hbad3 hx7 HO6 HG6 HX6
   obtain ⟨w8, hw8⟩ : ∃ u, u = w7.setCell ⟨wr.heap.size, 1, none⟩ (.int .u64 (n2 : Int)) := ⟨_, rfl⟩
   have hu8 : Upd (At wr.heap.size) w7 w8 := by rw [hw8]; exact Upd.own _ _ _ _
   have hg8 : w8.heap[wr.heap.size]? = some (.cells #[str s, .int .u64 (n2 : Int)] 259 (0, 0)) := by rw [hw8]; exact setAt HG7.out
   have HX8 := zq (HX7.out.step hu8 (fun i hi e => by unfold At at e; omega))
   have HO8 := zq (hu8.ownsRow HO7.out (fun k hk e => by have := HLO.out k hk; have e : k = wr.heap.size := e; omega))
   have HG8 := zq hg8
   have HW8 := zq hw8
   clear hu8 hg8 hw8
   go_upto_region 10 with fail
   rw [<- HW8.out]
   have hc8 := HG8.out
   have c0 := cZ hc8 0 _ rfl
   have c1 := cZ hc8 1 _ rfl
   clear hc8
   have hst : E3 = 0 -> entO l a = some ((s, n2), q2) /\ a < q2 /\ q2 <= l.length /\ n2 < 18446744073709551616 := fun e => ⟨entO_of HTX.out (HOK3.out e), by have := (numO_le hq (HOK3.out e)).1; omega, (numO_le hq (HOK3.out e)).2.1, (numO_le hq (HOK3.out e)).2.2⟩
   have hbd : E3 ≠ 0 -> catO l = none := fun e => catO_bad HNUM.out (joinO_bad' HJ.out (by omega) (entO_no2 HTX.out (HBAD3.out e)))
   have HST := zq hst
   have HBD := zq hbd
   have hone : OneCells (#[str s, .int .u64 (n2 : Int)] : Array Value).toList := by intro u hu; simp at hu; rcases hu with rfl | rfl <;> rfl
   have hbase : w.heap.size <= w8.heap.size := HX8.out.size
   have hdl : dn.length <= 1000000 := by omega
   clear hst hbd HOK3 HBAD3 HTX b1 f1 l1
   go_wp2_with (at_builtin; go_must (refine wpList_append_row rfl _ _ _ rfl Tryz.entsT rfl (HO8.out.alloc _) rfl (row_new _ _ _ 1 _ (by decide) (by simp)) rfl hone ?c3 ?c4 ?c5 ?_))
   case c3 => unfold maxLen; omega
   case c4 => omega
   case c5 => first | omega | (simp; omega)
   intro v9 w9 hown9 hg9 _
   have hx9 : Ext w w9 := (HX8.out.alloc _).grown hg9 (fun j hj h => by have := (HOWN.out.lt j hj).1; omega)
   have HX9 := zq hx9
   have HO9 := zq hown9
   clear hx9 hown9 hg9
   go_wp2
   go_roundw
   case rel =>
    refine ⟨q2, k + 1, E3, dn ++ [(s, n2)], rfl, rfl, by go_num, by omega, ?_, HX9.out, zq (fun e => ?_), zq HBD.out, zq (fun e => ?_)⟩
    ·rw [flatE_snoc, List.length_append]; exact HO9.out
    ·obtain ⟨h1, h2, h3, h4⟩ := HST.out e
     exact ⟨HE1Z.out, h3, by omega, by simp; omega, by simp; omega, joinO_step' HJ.out hlt h1⟩
    ·intro u hu
     rcases List.mem_append.1 hu with hu | hu
     ·exact HLT.out u hu
     ·rw [List.mem_singleton.1 hu]; exact (HST.out e).2.2.2
   case measure => simp [intOf]; omega
  ·have hlti : ¬ (k : Int) < (M : Int) := by omega
   have hE := joinO_end HJ.out hlt
   have HE := zq hE
   have HIS := zq (catO_is HNUM.out hE)
   clear hE hlt
   by_cases hal : a = l.length
   ·have hb : ((a : Int) != (l.length : Int)) = false := by simp [hal]
    have HAL := zq hal
    clear hal
    go_wp2_with (go_at_call 147; fail)
    refine (catRight_any _ _ dn (Row.of_owns HOWN.out) (by omega) HLT.out).mono ?_
    rintro e w2 ⟨rfl, hx2⟩
    have HX2 := zq (HX.out.trans hx2)
    have HR2 := zq ((Row.of_owns HOWN.out).ext hx2)
    clear hx2
    cases hr : catRight dn with
    | true =>
     have HIS2 := zq (show catO l = some dn by rw [HIS.out, if_pos ⟨HAL.out, hr⟩])
     clear hr
     go_wp2
     go_ret2
     refine ⟨HX2.out, fun es e => ?_, fun e => (by rw [HIS2.out] at e; cases e)⟩
     rw [HIS2.out] at e
     cases e
     exact ⟨_, rfl, HR2.out⟩
    | false =>
     have HIS2 := zq (show catO l = none by rw [HIS.out, if_neg (fun h => by rw [hr] at h; cases h.2)])
     clear hr
     go_wp2
     go_ret2
     exact ⟨HX2.out, fun es e => (by rw [HIS2.out] at e; cases e), fun _ => ⟨2, by decide, rfl⟩⟩
   ·have hb : ((a : Int) != (l.length : Int)) = true := by simp; omega
    have HIS2 := zq (show catO l = none by rw [HIS.out, if_neg (fun h => hal h.1)])
    clear hal
    go_wp2
    go_ret2
    exact ⟨HX.out, fun es e => (by rw [HIS2.out] at e; cases e), fun _ => ⟨2, by decide, rfl⟩⟩
end Go.Proofs.YtnkmpoplibnflaaGreatDoor.Wk
set_option maxRecDepth 100000
set_option maxHeartbeats 16000000
namespace Go.Proofs.YtnkmpoplibnflaaGreatDoor.Wk
open Go Go.Proofs.YtnkmpoplibnflaaGreatDoor Go.RowKit
def stC (ch tl e0 e1 e2 e3 : Nat) (hd sd : Bool) (pa va ca la : Option Addr) (pn pc vn vc cn cc ln lc : Nat) : Array Value := #[.int .u64 (ch : Int), .int .u64 (tl : Int), .int .u64 (e0 : Int), .int .u64 (e1 : Int), .int .u64 (e2 : Int), .int .u64 (e3 : Int), .bool hd, .slice pa pn pc, .slice va vn vc, .bool sd, .slice ca cn cc, .slice la ln lc]
def stZ : Array Value := #[.int .u64 0, .int .u64 0, .int .u64 0, .int .u64 0, .int .u64 0, .int .u64 0, .bool false, .slice none 0 0, .slice none 0 0, .bool false, .slice none 0 0, .slice none 0 0]
theorem stZ_one : AllOne stZ := by simp [AllOne, stZ, Value.oneCell']
theorem Tryz.stT : StructT Tryz.prog 214 stZ.size := ⟨_, Tryz.underlying214, rfl, by kernel_rfl⟩
def IsSt (st : Array Value) (ch tl : Nat) (lv : Value) : Prop := ∃ (e0 e1 e2 e3 : Nat) (hd sd : Bool) (pa va ca la : Option Addr) (pn pc vn vc cn cc ln lc : Nat), st = stC ch tl e0 e1 e2 e3 hd sd pa va ca la pn pc vn vc cn cc ln lc /\ lv = .slice la ln lc
def StPost (w : World) (l : List UInt8) (e : Ending) (w' : World) : Prop := ∃ (st : Array Value) (ch tl : Nat) (lv : Value) (E : Int), IsSt st ch tl lv /\ e = .returned (.tuple #[.agg st, .int .i64 E]) /\ Ext w w' /\ (E ≠ 0 -> ∀ x, ¬ baseO l x) /\ (E = 0 -> ∃ x, baseO l x /\ ch = x.chain /\ tl = x.tail /\ ch < 18446744073709551616 /\ tl < 18446744073709551616 /\ Row (From w.heap.size) w' lv x.last.length (flatT x.last))
theorem stPost_bad {w w' : World} {l : List UInt8} (E : Int) (hE : E ≠ 0) (h : ∀ x, ¬ baseO l x) (hx : Ext w w') : StPost w l (.returned (.tuple #[.agg stZ, .int .i64 E])) w' :=
 ⟨stZ, 0, 0, .slice none 0 0, E, ⟨0, 0, 0, 0, false, false, none, none, none, none, 0, 0, 0, 0, 0, 0, 0, 0, rfl, rfl⟩, rfl, hx, fun _ => h, fun e => absurd e hE⟩
theorem baseO_no {l body : List UInt8} {ok : Bool} (h1 : ∀ b', l = frameF 12 b' -> ok = true /\ body = b') (h2 : ok = false \/ stO body = none \/ ∀ x, stO body = some x -> riseL x.last = false) : ∀ x, ¬ baseO l x := by
 rintro x ⟨b, rfl, hs, hr⟩
 obtain ⟨h3, rfl⟩ := h1 b rfl
 rcases h2 with h2 | h2 | h2
 ·rw [h2] at h3; cases h3
 ·rw [h2] at hs; cases hs
 ·rw [h2 x hs] at hr; cases hr
theorem baseO_no2 {l body : List UInt8} (h1 : ∀ b', l = frameF 12 b' -> body = b') (h2 : stO body = none \/ ∀ x, stO body = some x -> riseL x.last = false) : ∀ x, ¬ baseO l x := by
 rintro x ⟨b, rfl, hs, hr⟩
 obtain rfl := h1 b rfl
 rcases h2 with h2 | h2
 ·rw [h2] at hs; cases hs
 ·rw [h2 x hs] at hr; cases hr
theorem stO_no1 {l : List UInt8} (h : tripO l 0 = none) : stO l = none := by
 unfold stO; rw [tripO_none h]
theorem stO_no2 {l : List UInt8} {a b c q : Nat} (h : tripO l 0 = some ((a, b, c), q)) (h2 : manyO (tripO l) c q = none) : stO l = none := by
 unfold stO; rw [tripO_ok h]; simp [h2]
theorem stO_cat {l : List UInt8} {b c q r : Nat} {ts : List Tr} (h : tripO l 0 = some ((0, b, c), q)) (h2 : manyO (tripO l) c q = some (ts, r)) : stO l = (catO (l.drop r)).map (fun es => ⟨0, b, ts, .cat es⟩) := by
 unfold stO; rw [tripO_ok h]; simp [h2]
theorem stO_doc {l : List UInt8} {a b c q r : Nat} {ts : List Tr} (h : tripO l 0 = some ((a, b, c), q)) (h2 : manyO (tripO l) c q = some (ts, r)) (h0 : a ≠ 0) : stO l = (docO (l.drop r)).map (fun d => ⟨a, b, ts, .doc d⟩) := by
 unfold stO; rw [tripO_ok h]; simp [h2, h0]
theorem sub_row {S : Nat -> Prop} {w : World} {b o c q : Nat} {l : List UInt8} (h : Bytes S w (.slice (some ⟨b, o, none⟩) l.length c) l) (hq : q <= l.length) :
  Bytes S w (.slice (if c = q then some ⟨b, o, none⟩ else some ⟨b, o + q, none⟩) (l.length - q) (c - q)) (l.drop q) := by
 have hlen : (l.drop q).length = l.length - q := by simp
 obtain ⟨a, c', e, h1, h2, -, h4, h5⟩ := h
 cases e
 refine ⟨_, _, by rw [hlen], by omega, by omega, ?_, ?_, ?_⟩
 ·intro e; split at e <;> cases e
 ·intro x e hx
  have hl0 : 0 < l.length := by
   rcases hx with hx | hx
   ·simp at hx; omega
   ·cases l with
    | nil => simp at hx
    | cons y r => simp
  have := h4 ⟨b, o, none⟩ rfl (.inl hl0)
  split at e <;> cases e <;> exact ⟨rfl, this.2⟩
 ·intro b' o' e j u hj
  split at e
  ·cases e
   have : j < l.length - q := by have := (List.getElem?_eq_some_iff.1 hj).1; simpa using this
   omega
  ·cases e
   rw [Nat.add_assoc]
   refine h5 b o rfl (q + j) u ?_
   rw [List.map_drop, List.getElem?_drop] at hj
   exact hj
theorem many_le {l : List UInt8} {k p q : Nat} {ts : List Tr} (hp : p <= l.length) (h : manyO (tripO l) k p = some (ts, q)) : q <= l.length /\ ts.length <= l.length := by
 obtain ⟨-, -, h3, h4, h5⟩ := (trip_reads l).many hp h
 exact ⟨h3, by omega⟩
theorem stParse_any {S : Nat -> Prop} (w : World) (v : Value) (l : List UInt8) (h : Bytes S w v l) (hl : l.length <= 60000) :
  Calls Tryz.prog 121 #[v] w (StPost w l) := by
 have H := zq h
 obtain ⟨a0, c0, rfl, hn, hm, -⟩ := h
 obtain ⟨w1, hw1⟩ : ∃ u, u = w.alloc (.cells stZ 214) := ⟨_, rfl⟩
 have hx1 : Ext w w1 := by rw [hw1]; exact uZ.alloc _
 have hg1 : w1.heap[w.heap.size]? = some (.cells stZ 214 (0, 0)) := by rw [hw1]; exact newAt _ _
 have HX1 := zq hx1
 have HG1 := zq hg1
 have HW1 := zq hw1
 clear hx1 hg1 hw1
 have hfin : ∀ w9 : World, Ext w w9 -> w9.heap[w.heap.size]? = some (.cells stZ 214 (0, 0)) -> Ext w (w9.setRow w.heap.size stZ) /\ (w9.setRow w.heap.size stZ).heap[w.heap.size]? = some (.cells stZ 214 (0, 0)) := fun w9 hx hg =>
  ⟨hx.step (T := At w.heap.size) (Upd.row _ _ _) (fun k hk e => by have e : k = w.heap.size := e; omega), setRow_heap _ _ _ _ _ _ hg⟩
 have HFIN := zq hfin
 clear hfin
 go_enter Tryz.func121, Tryz.ntmps121
 go_wp2_with (go_at_call 128; fail)
 rw [show w.alloc (.cells #[.int .u64 0, .int .u64 0, .int .u64 0, .int .u64 0, .int .u64 0, .int .u64 0, .bool false, .slice none 0 0, .slice none 0 0, .bool false, .slice none 0 0, .slice none 0 0] 214) = w1 from HW1.out.symm]
 refine (whole_any w1 _ l (H.out.ext HX1.out) hl).mono ?_
 rintro e w2 ⟨ok, body, bv, rfl, hbb, hx2, hbl, hok, hun⟩
 have HX2 := zq (HX1.out.trans hx2)
 have HG2 := zq (hx2.at_ HG1.out id)
 have HOK := zq hok
 have HUN := zq hun
 have HBB := zq hbb
 have HBL := zq (show body.length <= 60000 by omega)
 obtain ⟨ab, cb, rfl, hbn, hbm, -⟩ := hbb
 clear hx2 hok hun
 go_wp2_with (go_at_call 129; fail)
 refine (vTrip_any w2 _ body HBB.out 0 (Nat.zero_le _) (by omega)).mono ?_
 rintro e w3 ⟨hx3, hs, hnn⟩
 have HX3 := zq (HX2.out.trans hx3)
 have HX23 := zq hx3
 have HG3 := zq (hx3.at_ HG2.out id)
 clear hx3
 cases ht : tripO body 0 with
 | none =>
  obtain ⟨E, hE, rfl⟩ := hnn ht
  have hb : (E != 0) = true := by simpa using hE
  have HB := zq (baseO_no HUN.out (.inr (.inl (stO_no1 ht))))
  clear hs hnn ht hE
  go_wp2_with (refine wpList_store_blk rfl _ _ _ rfl rfl (cells := stZ) rfl (g := w.heap.size) HG3.out Tryz.stT rfl stZ_one ?_)
  all_goals
   refine bodyPost_blk2 rfl rfl rfl (HFIN.out _ HX3.out HG3.out).2 Tryz.stT ?_
   exact stPost_bad 220 (by decide) HB.out (HFIN.out _ HX3.out HG3.out).1
 | some rr =>
  obtain ⟨⟨x, y, z⟩, q⟩ := rr
  obtain ⟨hq, hq0, hx64, hy64, hz64, r, k, rfl, hk, d0, d1, d2⟩ := hs x y z q ht
  have HT := zq ht
  have HD := zq (And.intro d0 (And.intro d1 d2))
  clear hs hnn ht d0 d1 d2
  cases ok with
  | false =>
   have HB := zq (baseO_no HUN.out (.inl rfl))
   go_wp2_with (refine wpList_store_blk rfl _ _ _ rfl rfl (cells := stZ) rfl (g := w.heap.size) HG3.out Tryz.stT rfl stZ_one ?_)
   refine bodyPost_blk2 rfl rfl rfl (HFIN.out _ HX3.out HG3.out).2 Tryz.stT ?_
   exact stPost_bad 220 (by decide) HB.out (HFIN.out _ HX3.out HG3.out).1
  | true =>
   have HU := zq (show ∀ b', l = frameF 12 b' -> body = b' from fun b e => (HUN.out b e).2)
   have HOK2 := zq (HOK.out rfl)
   obtain ⟨d0, d1, d2⟩ := HD.out
   have hrl : r < w3.heap.size := World.block_lt_of_cell? w3 ⟨r, 0, none⟩ d0
   have hrn : ¬ r = w3.heap.size := by omega
   go_upto_region 5 with fail
   go_region
   obtain ⟨w4, hw4⟩ : ∃ u, u = (w3.alloc (.cells #[.int .u64 (x : Int), .int .u64 (y : Int), .int .u64 0, .int .u64 0, .int .u64 0, .int .u64 0, .bool false, .slice none 0 0, .slice none 0 0, .bool false, .slice none 0 0, .slice none 0 0] 214)).drew := ⟨_, rfl⟩
   rw [<- hw4]
   have hx4 : Ext w3 w4 := by rw [hw4]; exact (uZ.alloc _).drew
   have hg4 : w4.heap[w3.heap.size]? = some (.cells #[.int .u64 (x : Int), .int .u64 (y : Int), .int .u64 0, .int .u64 0, .int .u64 0, .int .u64 0, .bool false, .slice none 0 0, .slice none 0 0, .bool false, .slice none 0 0, .slice none 0 0] 214 (0, 0)) := by rw [hw4, drew_heap]; exact newAt _ _
   have HX4 := zq (HX3.out.trans hx4)
   have HG4 := zq (hx4.at_ HG3.out id)
   have HY4 := zq hg4
   have HX24 := zq (HX23.out.trans hx4)
   replace d2 := hx4.cell d2 id
   have hne : w.heap.size < w3.heap.size := lZ HG3.out
   clear hx4 hg4 hw4 d0 d1 hrl hrn
   go_wp2_with (go_at_call 130; fail)
   refine (lives_any w4 _ body (HBB.out.ext HX24.out) q z hq (by have := HBL.out; omega) hz64).mono ?_
   rintro e w5 ⟨hx5, hs, hnn⟩
   have HX5 := zq (HX4.out.trans hx5)
   have HG5 := zq (hx5.at_ HG4.out id)
   have HY5 := zq (hx5.at_ HY4.out id)
   have HX25 := zq (HX24.out.trans hx5)
   have b11 := cZ HY5.out 11 (.slice none 0 0) rfl
   have f11 := freeAt HY5.out 11
   have l11 := lZ HY5.out
   clear hx5 d2
   cases hlv : manyO (tripO body) z q with
   | none =>
    obtain ⟨E, aa, hE, rfl⟩ := hnn hlv
    have hb : (E != 0) = true := by simpa using hE
    have hb2 : (E == 0) = false := by simpa using hE
    have HB := zq (baseO_no2 HU.out (.inl (stO_no2 HT.out hlv)))
    have HX6 := zq (show Ext w (w5.setCell ⟨w3.heap.size, 11, none⟩ (.slice none 0 0)) from HX5.out.step (Upd.own _ _ _ _) (fun k hk e => by have e : k = w3.heap.size := e; omega))
    have HG6 := zq ((Upd.own w5 w3.heap.size 11 (.slice none 0 0)).at_ HG5.out (by unfold At; omega))
    clear hs hnn hlv hE
    go_wp2_with (refine wpList_store_blk rfl _ _ _ rfl rfl (cells := stZ) rfl (g := w.heap.size) HG6.out Tryz.stT rfl stZ_one ?_)
    refine bodyPost_blk2 rfl rfl rfl (HFIN.out _ HX6.out HG6.out).2 Tryz.stT ?_
    exact stPost_bad 220 (by decide) HB.out (HFIN.out _ HX6.out HG6.out).1
   | some rr =>
    obtain ⟨ts, q3⟩ := rr
    obtain ⟨hq3, lv, rfl, hlrow⟩ := hs ts q3 hlv
    obtain ⟨la, lc, rfl, hln, hlm, -⟩ := id hlrow
    have hts := (many_le hq hlv).2
    have HLV := zq hlv
    have HR5 := zq hlrow
    obtain ⟨w6, hw6⟩ : ∃ u, u = w5.setCell ⟨w3.heap.size, 11, none⟩ (.slice la ts.length lc) := ⟨_, rfl⟩
    have hu6 : Upd (At w3.heap.size) w5 w6 := by rw [hw6]; exact Upd.own _ _ _ _
    have hy6 : w6.heap[w3.heap.size]? = some (.cells #[.int .u64 (x : Int), .int .u64 (y : Int), .int .u64 0, .int .u64 0, .int .u64 0, .int .u64 0, .bool false, .slice none 0 0, .slice none 0 0, .bool false, .slice none 0 0, .slice la ts.length lc] 214 (0, 0)) := by rw [hw6]; exact setAt HY5.out
    have HX6 := zq (HX5.out.step hu6 (fun k hk e => by have e : k = w3.heap.size := e; omega))
    have HG6 := zq (hu6.at_ HG5.out (by unfold At; omega))
    have HY6 := zq hy6
    have HR6 := zq (HR5.out.upd hu6 (fun k h e => by have h : w4.heap.size <= k := h; have e : k = w3.heap.size := e; have := lZ HY4.out; omega))
    have HX26 := zq ((HX25.out.step hu6 (fun k hk e => by have e : k = w3.heap.size := e; have := HX23.out.size; omega)))
    have HW6 := zq hw6
    clear hs hnn hlv hlrow hy6 hu6 hw6
    go_upto_region 7 with fail
    rw [<- HW6.out]
    have e0 := cZ HY6.out 0 _ rfl
    have l6 := lZ HY6.out
    have hcatc : body.drop q3 = (body.drop q3).take (body.length - q3) := by rw [List.take_of_length_le (by simp)]
    clear b11 f11 l11
    have hb0 : 0 < body.length := by omega
    obtain ⟨bb, ob, cc, ebb, -, hbc, hbm2, hbq⟩ := HBB.out.addr hb0
    cases ebb
    have hq3i : (q3 : Int) <= (body.length : Int) := by omega
    obtain ⟨A, hA, hsub⟩ : ∃ A, (if cb = q3 then some ⟨bb, ob, none⟩ else some ⟨bb, ob + q3, none⟩ : Option Addr) = A /\ Bytes (fun _ => True) w6 (.slice A (body.length - q3) (cb - q3)) (body.drop q3) := ⟨_, rfl, sub_row (HBB.out.ext HX26.out) hq3⟩
    have HSUB := zq hsub
    have HDL := zq (show (body.drop q3).length <= 60000 by have := HBL.out; simp; omega)
    clear hsub hbq
    by_cases hxz : x = 0
    ·have HXZ := zq hxz
     have hbx : ((x : Int) == 0) = true := by simp [hxz]
     clear hxz
     go_wp2_with (go_at_call 131; fail)
     refine (catParse_any w6 _ _ HSUB.out (by have := HDL.out; omega)).mono ?_
     rintro e w7 ⟨hx7, hs, hnn⟩
     have HX7 := zq (HX6.out.trans hx7)
     have HG7 := zq (hx7.at_ HG6.out id)
     have HY7 := zq (hx7.at_ HY6.out id)
     have HR7 := zq (HR6.out.ext hx7)
     have b10 := cZ HY7.out 10 (.slice none 0 0) rfl
     have f10 := freeAt HY7.out 10
     have l10 := lZ HY7.out
     clear hx7 e0 l6 hA
     cases hc : catO (body.drop q3) with
     | none =>
      obtain ⟨E, hE, rfl⟩ := hnn hc
      have hb : (E != 0) = true := by simpa using hE
      have HB := zq (baseO_no2 HU.out (.inl (by have h1 := HT.out; rw [HXZ.out] at h1; rw [stO_cat h1 HLV.out, hc]; rfl)))
      have HX8 := zq (show Ext w (w7.setCell ⟨w3.heap.size, 10, none⟩ (.slice none 0 0)) from HX7.out.step (Upd.own _ _ _ _) (fun k hk e => by have e : k = w3.heap.size := e; omega))
      have HG8 := zq ((Upd.own w7 w3.heap.size 10 (.slice none 0 0)).at_ HG7.out (by unfold At; omega))
      clear hs hnn hc hE
      go_wp2_with (refine wpList_store_blk rfl _ _ _ rfl rfl (cells := stZ) rfl (g := w.heap.size) HG8.out Tryz.stT rfl stZ_one ?_)
      refine bodyPost_blk2 rfl rfl rfl (HFIN.out _ HX8.out HG8.out).2 Tryz.stT ?_
      exact stPost_bad 220 (by decide) HB.out (HFIN.out _ HX8.out HG8.out).1
     | some es =>
      obtain ⟨cv, rfl, hcrow⟩ := hs es hc
      obtain ⟨ca, cn, rfl, -, -, -⟩ := hcrow
      have HSO := zq (show stO body = some ⟨x, y, ts, .cat es⟩ by have h1 := HT.out; rw [HXZ.out] at h1 ⊢; rw [stO_cat h1 HLV.out, hc]; rfl)
      obtain ⟨w8, hw8⟩ : ∃ u, u = w7.setCell ⟨w3.heap.size, 10, none⟩ (.slice ca es.length cn) := ⟨_, rfl⟩
      have hu8 : Upd (At w3.heap.size) w7 w8 := by rw [hw8]; exact Upd.own _ _ _ _
      have HYE := zq (show w8.heap[w3.heap.size]? = some (.cells #[.int .u64 (x : Int), .int .u64 (y : Int), .int .u64 0, .int .u64 0, .int .u64 0, .int .u64 0, .bool false, .slice none 0 0, .slice none 0 0, .bool false, .slice ca es.length cn, .slice la ts.length lc] 214 (0, 0)) by rw [hw8]; exact setAt HY7.out)
      have HXE := zq (HX7.out.step hu8 (fun k hk e => by have e : k = w3.heap.size := e; omega))
      have HGE := zq (hu8.at_ HG7.out (by unfold At; omega))
      have HRE := zq (HR7.out.upd hu8 (fun k h e => by have h : w4.heap.size <= k := h; have e : k = w3.heap.size := e; have := lZ HY4.out; omega))
      have HW8 := zq hw8
      clear hs hnn hc hw8 hu8
      go_upto_region 11 with fail
      rw [<- HW8.out]
      clear b10 f10 l10
      have z0 := cZ HYE.out 0 _ rfl
      have z1 := cZ HYE.out 1 _ rfl
      have z2 := cZ HYE.out 2 _ rfl
      have z3 := cZ HYE.out 3 _ rfl
      have z4 := cZ HYE.out 4 _ rfl
      have z5 := cZ HYE.out 5 _ rfl
      have z6 := cZ HYE.out 6 _ rfl
      have z7 := cZ HYE.out 7 _ rfl
      have z8 := cZ HYE.out 8 _ rfl
      have z9 := cZ HYE.out 9 _ rfl
      have z10 := cZ HYE.out 10 _ rfl
      have z11 := cZ HYE.out 11 _ rfl
      have zl := lZ HYE.out
      go_wp2_with (go_at_call 133; fail)
      refine (rises_any w8 #[.int .u64 (x : Int), .int .u64 (y : Int), .int .u64 0, .int .u64 0, .int .u64 0, .int .u64 0, .bool false, .slice none 0 0, .slice none 0 0, .bool false, .slice ca es.length cn, .slice la ts.length lc] _ ts ⟨_, _, _, _, _, _, _, _, _, _, _, rfl⟩ (by simp [Value.oneCell']) HRE.out (by have := HBL.out; omega)).mono ?_
      rintro e w9 ⟨rfl, hx9⟩
      have HX9 := zq (HXE.out.trans hx9)
      have HG9 := zq (hx9.at_ HGE.out id)
      have HY9 := zq (hx9.at_ HYE.out id)
      have HR9 := zq (HRE.out.ext hx9)
      clear hx9 zl z0 z1 z2 z3 z4 z5 z6 z7 z8 z9 z10 z11
      cases hr : riseL ts with
      | false =>
       have HB := zq (baseO_no2 HU.out (.inr (fun x' hx' => by rw [HSO.out] at hx'; cases hx'; exact hr)))
       clear hr
       go_wp2_with (refine wpList_store_blk rfl _ _ _ rfl rfl (cells := stZ) rfl (g := w.heap.size) HG9.out Tryz.stT rfl stZ_one ?_)
       refine bodyPost_blk2 rfl rfl rfl (HFIN.out _ HX9.out HG9.out).2 Tryz.stT ?_
       exact stPost_bad 220 (by decide) HB.out (HFIN.out _ HX9.out HG9.out).1
      | true =>
       have HRR := zq hr
       clear hr
       have z0 := cZ HY9.out 0 _ rfl
       have z1 := cZ HY9.out 1 _ rfl
       have z2 := cZ HY9.out 2 _ rfl
       have z3 := cZ HY9.out 3 _ rfl
       have z4 := cZ HY9.out 4 _ rfl
       have z5 := cZ HY9.out 5 _ rfl
       have z6 := cZ HY9.out 6 _ rfl
       have z7 := cZ HY9.out 7 _ rfl
       have z8 := cZ HY9.out 8 _ rfl
       have z9 := cZ HY9.out 9 _ rfl
       have z10 := cZ HY9.out 10 _ rfl
       have z11 := cZ HY9.out 11 _ rfl
       have zl := lZ HY9.out
       go_wp2_with (refine wpList_store_blk rfl _ _ _ rfl rfl (cells := #[.int .u64 (x : Int), .int .u64 (y : Int), .int .u64 0, .int .u64 0, .int .u64 0, .int .u64 0, .bool false, .slice none 0 0, .slice none 0 0, .bool false, .slice ca es.length cn, .slice la ts.length lc]) rfl (g := w.heap.size) HG9.out Tryz.stT rfl (by simp [AllOne, Value.oneCell']) ?_)
       have hg10 : (w9.setRow w.heap.size #[.int .u64 (x : Int), .int .u64 (y : Int), .int .u64 0, .int .u64 0, .int .u64 0, .int .u64 0, .bool false, .slice none 0 0, .slice none 0 0, .bool false, .slice ca es.length cn, .slice la ts.length lc]).heap[w.heap.size]? = some (.cells #[.int .u64 (x : Int), .int .u64 (y : Int), .int .u64 0, .int .u64 0, .int .u64 0, .int .u64 0, .bool false, .slice none 0 0, .slice none 0 0, .bool false, .slice ca es.length cn, .slice la ts.length lc] 214 (0, 0)) := setRow_heap _ _ _ _ _ _ HG9.out
       refine bodyPost_blk2 rfl rfl rfl hg10 Tryz.stT ?_
       refine ⟨_, x, y, .slice la ts.length lc, 0, ⟨0, 0, 0, 0, false, false, none, none, ca, la, 0, 0, 0, 0, es.length, cn, ts.length, lc, rfl, rfl⟩, rfl, HX9.out.step (Upd.row _ _ _) (fun k hk e => by have e : k = w.heap.size := e; omega), fun e => absurd rfl e, fun _ => ?_⟩
       rcases HOK2.out with hfr | ⟨-, hnil⟩
       ·exact ⟨_, ⟨body, hfr, HSO.out, HRR.out⟩, rfl, rfl, hx64, hy64, (HR9.out.upd (Upd.row w9 w.heap.size _) (fun k h e => by have h : w4.heap.size <= k := h; have e : k = w.heap.size := e; have := HX4.out.size; have := lZ HY4.out; omega)).mono (fun k h => by have h : w4.heap.size <= k := h; have := HX4.out.size; show w.heap.size <= k; omega)⟩
       ·rw [hnil] at hb0; simp at hb0
    ·have HXZ := zq hxz
     have hbx : ((x : Int) == 0) = false := by simp; omega
     clear hxz
     go_wp2_with (go_at_call 132; fail)
     refine (docParse_any w6 _ _ HSUB.out (by have := HDL.out; omega)).mono ?_
     rintro e w7 ⟨E, e0, e1, e2, e3, hd, sd, pa, va, pn, pc, vn, vc, rfl, hdok, hdbad, hx7⟩
     have HX7 := zq (HX6.out.trans hx7)
     have HG7 := zq (hx7.at_ HG6.out id)
     have HY7 := zq (hx7.at_ HY6.out id)
     have HR7 := zq (HR6.out.ext hx7)
     have HDOK := zq hdok
     have HDBAD := zq hdbad
     have hone : AllOne (docC e0 e1 e2 e3 hd sd pa va pn pc vn vc) := by simp [AllOne, docC, Value.oneCell']
     clear hx7 l6 hA hdok hdbad
     go_upto_region 11 with (refine wpList_store_in rfl 209 (.tmp 66) (.tmp 64) rfl (i := 2) (g := w3.heap.size) (cells := docC e0 e1 e2 e3 hd sd pa va pn pc vn vc) rfl rfl HY7.out Tryz.docT (Nat.le_of_ble_eq_true rfl) hone ?_; intro w8 hu8 hy8)
     have HXE := zq (HX7.out.step hu8 (fun k hk e => by have e : k = w3.heap.size := e; omega))
     have HGE := zq (hu8.at_ HG7.out (by unfold At; omega))
     have HRE := zq (HR7.out.upd hu8 (fun k h e => by have h : w4.heap.size <= k := h; have e : k = w3.heap.size := e; have := lZ HY4.out; omega))
     have HYE := zq (show w8.heap[w3.heap.size]? = some (.cells #[.int .u64 (x : Int), .int .u64 (y : Int), .int .u64 (e0 : Int), .int .u64 (e1 : Int), .int .u64 (e2 : Int), .int .u64 (e3 : Int), .bool hd, .slice pa pn pc, .slice va vn vc, .bool sd, .slice none 0 0, .slice la ts.length lc] 214 (0, 0)) from hy8)
     clear hu8 hy8 hone
     by_cases hE : E = 0
     case neg =>
      have hb : (E != 0) = true := by simpa using hE
      have HB := zq (baseO_no2 HU.out (.inl (by rw [stO_doc HT.out HLV.out HXZ.out, HDBAD.out hE]; rfl)))
      clear hE
      go_wp2_with (refine wpList_store_blk rfl _ _ _ rfl rfl (cells := stZ) rfl (g := w.heap.size) HGE.out Tryz.stT rfl stZ_one ?_)
      refine bodyPost_blk2 rfl rfl rfl (HFIN.out _ HXE.out HGE.out).2 Tryz.stT ?_
      exact stPost_bad 220 (by decide) HB.out (HFIN.out _ HXE.out HGE.out).1
     subst hE
     obtain ⟨dd, hdd⟩ := Option.ne_none_iff_exists'.1 (HDOK.out rfl)
     have HSO := zq (show stO body = some ⟨x, y, ts, .doc dd⟩ by rw [stO_doc HT.out HLV.out HXZ.out, hdd]; rfl)
     clear hdd
     have z0 := cZ HYE.out 0 _ rfl
     have z1 := cZ HYE.out 1 _ rfl
     have z2 := cZ HYE.out 2 _ rfl
     have z3 := cZ HYE.out 3 _ rfl
     have z4 := cZ HYE.out 4 _ rfl
     have z5 := cZ HYE.out 5 _ rfl
     have z6 := cZ HYE.out 6 _ rfl
     have z7 := cZ HYE.out 7 _ rfl
     have z8 := cZ HYE.out 8 _ rfl
     have z9 := cZ HYE.out 9 _ rfl
     have z10 := cZ HYE.out 10 _ rfl
     have z11 := cZ HYE.out 11 _ rfl
     have zl := lZ HYE.out
     go_wp2_with (go_at_call 133; fail)
     refine (rises_any w8 #[.int .u64 (x : Int), .int .u64 (y : Int), .int .u64 (e0 : Int), .int .u64 (e1 : Int), .int .u64 (e2 : Int), .int .u64 (e3 : Int), .bool hd, .slice pa pn pc, .slice va vn vc, .bool sd, .slice none 0 0, .slice la ts.length lc] _ ts ⟨_, _, _, _, _, _, _, _, _, _, _, rfl⟩ (by simp [Value.oneCell']) HRE.out (by have := HBL.out; omega)).mono ?_
     rintro e w9 ⟨rfl, hx9⟩
     have HX9 := zq (HXE.out.trans hx9)
     have HG9 := zq (hx9.at_ HGE.out id)
     have HY9 := zq (hx9.at_ HYE.out id)
     have HR9 := zq (HRE.out.ext hx9)
     clear hx9 zl z0 z1 z2 z3 z4 z5 z6 z7 z8 z9 z10 z11
     cases hr : riseL ts with
     | false =>
      have HB := zq (baseO_no2 HU.out (.inr (fun x' hx' => by rw [HSO.out] at hx'; cases hx'; exact hr)))
      clear hr
      go_wp2_with (refine wpList_store_blk rfl _ _ _ rfl rfl (cells := stZ) rfl (g := w.heap.size) HG9.out Tryz.stT rfl stZ_one ?_)
      refine bodyPost_blk2 rfl rfl rfl (HFIN.out _ HX9.out HG9.out).2 Tryz.stT ?_
      exact stPost_bad 220 (by decide) HB.out (HFIN.out _ HX9.out HG9.out).1
     | true =>
      have HRR := zq hr
      clear hr
      have z0 := cZ HY9.out 0 _ rfl
      have z1 := cZ HY9.out 1 _ rfl
      have z2 := cZ HY9.out 2 _ rfl
      have z3 := cZ HY9.out 3 _ rfl
      have z4 := cZ HY9.out 4 _ rfl
      have z5 := cZ HY9.out 5 _ rfl
      have z6 := cZ HY9.out 6 _ rfl
      have z7 := cZ HY9.out 7 _ rfl
      have z8 := cZ HY9.out 8 _ rfl
      have z9 := cZ HY9.out 9 _ rfl
      have z10 := cZ HY9.out 10 _ rfl
      have z11 := cZ HY9.out 11 _ rfl
      have zl := lZ HY9.out
      go_wp2_with (refine wpList_store_blk rfl _ _ _ rfl rfl (cells := #[.int .u64 (x : Int), .int .u64 (y : Int), .int .u64 (e0 : Int), .int .u64 (e1 : Int), .int .u64 (e2 : Int), .int .u64 (e3 : Int), .bool hd, .slice pa pn pc, .slice va vn vc, .bool sd, .slice none 0 0, .slice la ts.length lc]) rfl (g := w.heap.size) HG9.out Tryz.stT rfl (by simp [AllOne, Value.oneCell']) ?_)
      have hg10 : (w9.setRow w.heap.size #[.int .u64 (x : Int), .int .u64 (y : Int), .int .u64 (e0 : Int), .int .u64 (e1 : Int), .int .u64 (e2 : Int), .int .u64 (e3 : Int), .bool hd, .slice pa pn pc, .slice va vn vc, .bool sd, .slice none 0 0, .slice la ts.length lc]).heap[w.heap.size]? = some (.cells #[.int .u64 (x : Int), .int .u64 (y : Int), .int .u64 (e0 : Int), .int .u64 (e1 : Int), .int .u64 (e2 : Int), .int .u64 (e3 : Int), .bool hd, .slice pa pn pc, .slice va vn vc, .bool sd, .slice none 0 0, .slice la ts.length lc] 214 (0, 0)) := setRow_heap _ _ _ _ _ _ HG9.out
      refine bodyPost_blk2 rfl rfl rfl hg10 Tryz.stT ?_
      refine ⟨_, x, y, .slice la ts.length lc, 0, ⟨e0, e1, e2, e3, hd, sd, pa, va, none, la, pn, pc, vn, vc, 0, 0, ts.length, lc, rfl, rfl⟩, rfl, HX9.out.step (Upd.row _ _ _) (fun k hk e => by have e : k = w.heap.size := e; omega), fun e => absurd rfl e, fun _ => ?_⟩
      rcases HOK2.out with hfr | ⟨-, hnil⟩
      ·exact ⟨_, ⟨body, hfr, HSO.out, HRR.out⟩, rfl, rfl, hx64, hy64, (HR9.out.upd (Upd.row w9 w.heap.size _) (fun k h e => by have h : w4.heap.size <= k := h; have e : k = w.heap.size := e; have := HX4.out.size; have := lZ HY4.out; omega)).mono (fun k h => by have h : w4.heap.size <= k := h; have := HX4.out.size; show w.heap.size <= k; omega)⟩
      ·rw [hnil] at hb0; simp at hb0
end Go.Proofs.YtnkmpoplibnflaaGreatDoor.Wk
