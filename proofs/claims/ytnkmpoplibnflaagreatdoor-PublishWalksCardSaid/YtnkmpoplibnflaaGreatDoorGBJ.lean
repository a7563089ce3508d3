/-
  The reference's Put of a state that was read. Condition: at most 60000 bytes.
  CONTRACT of the reference's Parse of a state. Condition: at most 60000 bytes.
  CONTRACT of the reference's Base. Conditions: a floor above 0; at most 60000 bytes.
  CONTRACT of the reference's Seq. Condition: at most 1000000 lives.
-/
import Derived.Test.YtnkmpoplibnflaaGreatDoorWRStW
import Derived.Test.YtnkmpoplibnflaaGreatDoorGBI
import Derived.Test.YtnkmpoplibnflaaGreatDoorGAN
import Derived.Test.YtnkmpoplibnflaaGreatDoorGAV
set_option maxRecDepth 100000
set_option maxHeartbeats 16000000
namespace Go.Proofs.YtnkmpoplibnflaaGreatDoor.Wk
open Go Go.Proofs.YtnkmpoplibnflaaGreatDoor Go.RowKit
theorem blankB : DocB blankD := ⟨by intro n hn; simp [blankD, DocP.nums] at hn; omega, by intro e he; simp [blankD] at he, by intro e he; simp [blankD] at he, by decide, by decide, rfl, rfl⟩
theorem blank_len : (encDoc blankD).length <= 60000 := by simp [encDoc, blankD, DocP.nums, vputs, vput_small, encPins, encVers, vtext]
theorem rstPut_st {S : Nat -> Prop} (w : World) (st : Array Value) (x : StP) (body : List UInt8) (hs : stO body = some x) (h : StIs S w st x) (hl : body.length <= 60000) :
  Calls Tryz.prog 60 #[.agg st] w fun e w' => Ext w w' /\ ((riseL x.last = true /\ ∃ v', e = .returned (.tuple #[v', .int .i64 0]) /\ w'.ownsRow w.heap.size 5 1 v' (frameF 12 body).length ((frameF 12 body).map u8)) ∨
   (riseL x.last = false /\ e = .returned (.tuple #[.slice none 0 0, .int .i64 2]))) := by
 obtain ⟨henc, hcat, hdoc⟩ := stO_ok hs
 have hB := stO_lt hs
 obtain ⟨la, lc, hrow, hcont⟩ := h
 obtain ⟨ch, tl, l, cont⟩ := x
 have hlen : (vputs [ch, tl, l.length]).length + (((l.map encTr).flatten).length + (encCont cont).length) = body.length := by
  have := congrArg List.length henc; simpa [encSt] using this
 cases cont with
 | cat es =>
  obtain ⟨ca, cn, rfl, hes⟩ := hcont
  have hc0 : ch = 0 := by
   rcases Nat.eq_zero_or_pos ch with h | h
   ·exact h
   ·obtain ⟨d, e, -⟩ := hdoc (by show ch ≠ 0; omega); cases e
  obtain ⟨es', e, hr⟩ := hcat hc0
  cases e
  have hcf : contF ch es blankD = encCat es := by unfold contF; rw [if_pos hc0]
  have hbody : vputs [ch, tl, l.length] ++ ((l.map encTr).flatten ++ contF ch es blankD) = body := by rw [hcf]; exact henc
  have hlen' : (encCont (.cat es)).length = (encCat es).length := rfl
  have := rstPut_any (S := S) w ch tl blankD es l none none ca la 0 0 cn lc hB.chain hB.tail blankB hr (hB.cat es rfl) hB.last (fun _ => ⟨rfl, rfl, rfl, rfl, rfl⟩) (fun h => absurd hc0 h) (Row.nil S w) (Row.nil S w) hes hrow (by omega) blank_len (by omega) (by rw [hbody]; exact hl)
  rw [hbody] at this
  exact this
 | doc d =>
  obtain ⟨pa, pc, va, vc, rfl, hp, hv⟩ := hcont
  have hc0 : ch ≠ 0 := by
   intro h
   obtain ⟨es, e, -⟩ := hcat h; cases e
  obtain ⟨d', e, h1, h2, h3, h4⟩ := hdoc hc0
  cases e
  have hcf : contF ch [] d = encDoc d := by unfold contF; rw [if_neg hc0]
  have hbody : vputs [ch, tl, l.length] ++ ((l.map encTr).flatten ++ contF ch [] d) = body := by rw [hcf]; exact henc
  have hlen' : (encCont (.doc d)).length = (encDoc d).length := rfl
  obtain ⟨b1, b2, b3⟩ := hB.doc d rfl
  have := rstPut_any (S := S) w ch tl d [] l pa va none la pc vc 0 lc hB.chain hB.tail ⟨b1, b2, b3, h1, h2, h3, h4⟩ rfl (by simp) hB.last (fun h => absurd h hc0) (fun _ => rfl) hp hv (Row.nil S w) hrow (by simp [encCat, vput_small]) (by omega) (by omega) (by rw [hbody]; exact hl)
  rw [hbody] at this
  exact this
end Go.Proofs.YtnkmpoplibnflaaGreatDoor.Wk
set_option maxRecDepth 100000
set_option maxHeartbeats 16000000
namespace Go.Proofs.YtnkmpoplibnflaaGreatDoor.Wk
open Go Go.Proofs.YtnkmpoplibnflaaGreatDoor Go.RowKit
def RStPost (w : World) (l : List UInt8) (e : Ending) (w' : World) : Prop := ∃ (st : Array Value) (E : Int), e = .returned (.tuple #[.agg st, .int .i64 E]) /\ Ext w w' /\ (∃ ch tl lv, IsSt st ch tl lv) ∧
 (E ≠ 0 -> E = 220 /\ st = stZ /\ ∀ x, ¬ baseO l x) /\ (E = 0 -> ∃ x, baseO l x /\ StIs (From w.heap.size) w' st x)
theorem rstPost_bad {w w' : World} {l : List UInt8} (h : ∀ x, ¬ baseO l x) (hx : Ext w w') : RStPost w l (.returned (.tuple #[.agg stZ, .int .i64 220])) w' :=
 ⟨stZ, 220, rfl, hx, ⟨0, 0, _, 0, 0, 0, 0, false, false, none, none, none, none, 0, 0, 0, 0, 0, 0, 0, 0, rfl, rfl⟩, fun _ => ⟨rfl, rfl, h⟩, fun e => (by cases e)⟩
theorem baseO_no3 {l body : List UInt8} (h1 : ∀ b', l = frameF 12 b' -> body = b') (h2 : l ≠ frameF 12 body) : ∀ x, ¬ baseO l x := by
 rintro x ⟨b, hb, -, -⟩
 rw [h1 b hb] at h2
 exact h2 hb
theorem take_one {a b : List UInt8} {k : Nat} (h1 : k < a.length) (h2 : k < b.length) (h : a.take k = b.take k) {x y : UInt8} (hx : x = a[k]) (hy : y = b[k]) (e : x = y) : a.take (k + 1) = b.take (k + 1) := by
 rw [List.take_succ_eq_append_getElem h1, List.take_succ_eq_append_getElem h2, h, <- hx, <- hy, e]
theorem ne_one {a b : List UInt8} {k : Nat} (h1 : k < a.length) (h2 : k < b.length) {x y : UInt8} (hx : x = a[k]) (hy : y = b[k]) (e : x ≠ y) : a ≠ b := by
 intro h; subst h; exact e (by rw [hx, hy])
theorem bodies_snoc {fs : List Fr} {n : Nat} (h : n < fs.length) : ((fs.take (n + 1)).map (·.2)).flatten = ((fs.take n).map (·.2)).flatten ++ fs[n].2 := by
 rw [List.take_succ_eq_append_getElem h, List.map_append, List.flatten_append]
 simp only [List.map_cons, List.map_nil, List.flatten_cons, List.flatten_nil, List.append_nil]
theorem rstParse_any {S : Nat -> Prop} (w : World) (v : Value) (l : List UInt8) (h : Bytes S w v l) (hl : l.length <= 60000) :
  Calls Tryz.prog 50 #[v] w (RStPost w l) := by
 have H := zq h
 obtain ⟨a0, c0, rfl, hn, hm, -⟩ := h
 obtain ⟨w1, hw1⟩ : ∃ u, u = w.alloc (.cells stZ 96) := ⟨_, rfl⟩
 have hx1 : Ext w w1 := by rw [hw1]; exact uZ.alloc _
 have hg1 : w1.heap[w.heap.size]? = some (.cells stZ 96 (0, 0)) := by rw [hw1]; exact newAt _ _
 have HX1 := zq hx1
 have HG1 := zq hg1
 have HW1 := zq hw1
 clear hx1 hg1 hw1
 have hfin : ∀ w9 : World, Ext w w9 -> w9.heap[w.heap.size]? = some (.cells stZ 96 (0, 0)) -> Ext w (w9.setRow w.heap.size stZ) /\ (w9.setRow w.heap.size stZ).heap[w.heap.size]? = some (.cells stZ 96 (0, 0)) := fun w9 hx hg =>
  ⟨hx.step (T := At w.heap.size) (Upd.row _ _ _) (fun k hk e => by have e : k = w.heap.size := e; omega), setRow_heap _ _ _ _ _ _ hg⟩
 have HFIN := zq hfin
 clear hfin
 go_enter Tryz.func50, Tryz.ntmps50
 go_wp2_with (go_at_call 58; fail)
 rw [show w.alloc (.cells #[.int .u64 0, .int .u64 0, .int .u64 0, .int .u64 0, .int .u64 0, .int .u64 0, .bool false, .slice none 0 0, .slice none 0 0, .bool false, .slice none 0 0, .slice none 0 0] 96) = w1 from HW1.out.symm]
 refine (rfall_any w1 _ l (H.out.ext HX1.out) (by omega)).mono ?_
 rintro e w2 ⟨fs, p, vf, rfl, hP, hT, ⟨vs, r1, r2, r3⟩, hx2⟩
 have HX2 := zq (HX1.out.trans hx2)
 have HG2 := zq (hx2.at_ HG1.out id)
 have HR2 := zq r2
 have HR3 := zq r3
 have HR1 := zq r1
 obtain ⟨af, cf, rfl, hfn, hfm, -⟩ := r2
 have hpl := hP.le
 obtain ⟨body, hbody⟩ : ∃ b, b = (fs.map (·.2)).flatten := ⟨_, rfl⟩
 have HBODY := zq hbody
 have hbl : body.length <= l.length := by rw [hbody]; have := hpl.2.2; have := hpl.1; omega
 have hfl : fs.length <= 60000 := by have := hpl.2.1; have := hpl.1; omega
 have HUN := zq (show ∀ b', l = frameF 12 b' -> body = b' from fun b' e => by
  rw [e] at hP hT
  have hb6 : b'.length <= 65535 := by rw [e, frameF_len] at hl; omega
  obtain ⟨h5, -⟩ := hP.all hb6 hT
  rw [hbody, h5]; simp)
 clear hP hT hx2 r3 r1 hpl hbody
 go_wp2
 go_loopw [6, 7] (fun out t wr => ∃ n : Nat, n <= fs.length /\ t = .int .i64 n /\ Hid (wr.ownsRow w2.heap.size 5 1 out (((fs.take n).map (·.2)).flatten).length ((((fs.take n).map (·.2)).flatten).map YtnkmpoplibnflaaGreatDoor.u8)) /\ Hid (Ext w2 wr)) (fun _ t _ => fs.length - (intOf t).toNat)
 case atStart => exact ⟨0, Nat.zero_le _, rfl, zq (World.ownsRow_nil _ _ _ _), zq uZ⟩
 case round =>
  obtain ⟨n, hn', rfl, HOWN, HX⟩ := hrel
  obtain ⟨PL, hPL⟩ : ∃ p, p = ((fs.take n).map (·.2)).flatten := ⟨_, rfl⟩
  have HPL := zq hPL
  have hplen : PL.length <= body.length := by
   have h := congrArg (fun x => ((x.map (·.2)).flatten : List UInt8).length) (List.take_append_drop n fs)
   simp only [List.map_append, List.flatten_append, List.length_append] at h
   rw [hPL, HBODY.out]; omega
  rw [<- hPL] at HOWN
  clear hPL
  obtain ⟨ra, rc, rfl⟩ := ownsFormN HOWN.out
  have hxs := HX.out.size
  by_cases hlt : n < fs.length
  ·obtain ⟨b1, o1, c1, e1, -, -, -, hq1⟩ := HR2.out.addr (by omega)
   cases e1
   have hv0 : n < vs.length := by rw [HR1.out]; exact hlt
   obtain ⟨q1, q2⟩ := frCells_at HR1.out n hlt hv0
   have hbd := (HR3.out n hlt hv0).ext HX.out
   obtain ⟨bd, hbdq⟩ : ∃ b, b = fs[n].2 := ⟨_, rfl⟩
   have hbd2 : Bytes (fun _ => True) wr vs[n] bd := by rw [hbdq]; exact hbd
   have hbl2 : PL.length + bd.length <= body.length := by
    have h := congrArg (fun x => ((x.map (·.2)).flatten : List UInt8).length) (List.take_append_drop (n + 1) fs)
    simp only [List.map_append, List.flatten_append, List.length_append] at h
    rw [bodies_snoc hlt, List.length_append, <- hbdq, <- HPL.out] at h
    rw [HBODY.out]; omega
   have HSN := zq (show ((fs.take (n + 1)).map (·.2)).flatten = PL ++ bd by rw [bodies_snoc hlt, HPL.out, hbdq])
   obtain ⟨vv, hvv⟩ : ∃ u, u = vs[n] := ⟨_, rfl⟩
   rw [<- hvv] at hbd2
   have d1 : wr.cell? ⟨b1, o1 + n * 2 + 1, none⟩ = some vv := by rw [hvv]; exact HX.out.cell (hq1 _ _ q2) id
   have HBD := zq hbd2
   obtain ⟨ab, cb, rfl, -⟩ := hbd2
   have hb2 : w2.heap.size <= wr.heap.size := hxs
   have hlti : (n : Int) < (fs.length : Int) := by omega
   clear hbd hbdq hvv q1 q2 hq1
   go_wp2_with (at_builtin; go_must (refine wpList_append_row rfl _ _ _ rfl Tryz.bytesT rfl HOWN.out rfl HBD.out (by simp) (u8_one _) ?c3 ?c4 hb2 ?_))
   case c3 => unfold maxLen; omega
   case c4 => omega
   intro v6 w6 hown6 hg6 _
   have HX6 := zq (HX.out.grown hg6 (fun j hj h => by have := (HOWN.out.lt j hj).1; omega))
   have HO6 := zq hown6
   clear hown6 hg6 d1
   go_wp2
   go_roundw
   case rel =>
    refine ⟨n + 1, by omega, by go_num, zq ?_, HX6⟩
    rw [HSN.out, List.length_append, List.map_append]
    exact HO6.out
   case measure => simp [intOf]; omega
  ·have hkl : n = fs.length := by omega
   have hPB : PL = body := by rw [HPL.out, HBODY.out, hkl, List.take_length]
   subst hPB
   have HX3 := zq (HX2.out.trans HX.out)
   have HG3 := zq (HX.out.at_ HG2.out id)
   have hlti : ¬ ((fs.length : Int) < (fs.length : Int)) := by omega
   clear HPL hkl
   obtain ⟨w0, hw0⟩ : ∃ x, x = wr := ⟨_, rfl⟩
   subst hw0
   go_wp2_with (go_at_call 59; fail)
   refine (read_any w0 _ PL (Row.of_owns HOWN.out) (by omega)).mono ?_
   rintro e w4 ⟨st, ok, rfl, hx4, ⟨ch, tl, lv, e0, e1, e2, e3, hd, sd, pa, va, ca, la, pn, pc, vn, vc, cn, cc, ln, lc, rfl, rfl⟩, hbad, hok⟩
   have HX4 := zq (HX3.out.trans hx4)
   have HG4 := zq (hx4.at_ HG3.out id)
   have HWR := zq hx4.size
   have HBAD := zq hbad
   have HOK := zq hok
   clear hx4 hbad hok
   rw [show stC ch tl e0 e1 e2 e3 hd sd pa va ca la pn pc vn vc cn cc ln lc = #[.int .u64 (ch : Int), .int .u64 (tl : Int), .int .u64 (e0 : Int), .int .u64 (e1 : Int), .int .u64 (e2 : Int), .int .u64 (e3 : Int), .bool hd, .slice pa pn pc, .slice va vn vc, .bool sd, .slice ca cn cc, .slice la ln lc] from rfl]
   obtain ⟨w5, hw5⟩ : ∃ u, u = w4.alloc (.cells #[.int .u64 (ch : Int), .int .u64 (tl : Int), .int .u64 (e0 : Int), .int .u64 (e1 : Int), .int .u64 (e2 : Int), .int .u64 (e3 : Int), .bool hd, .slice pa pn pc, .slice va vn vc, .bool sd, .slice ca cn cc, .slice la ln lc] 96) := ⟨_, rfl⟩
   have hx5 : Ext w4 w5 := by rw [hw5]; exact uZ.alloc _
   have HX5 := zq (HX4.out.trans hx5)
   have HX45 := zq hx5
   have HG5 := zq (hx5.at_ HG4.out id)
   have HY5 := zq (show w5.heap[w4.heap.size]? = some (.cells #[.int .u64 (ch : Int), .int .u64 (tl : Int), .int .u64 (e0 : Int), .int .u64 (e1 : Int), .int .u64 (e2 : Int), .int .u64 (e3 : Int), .bool hd, .slice pa pn pc, .slice va vn vc, .bool sd, .slice ca cn cc, .slice la ln lc] 96 (0, 0)) by rw [hw5]; exact newAt _ _)
   have HW5 := zq hw5
   clear hx5 hw5
   go_upto_region 8 with fail
   rw [show w4.alloc (.cells #[.int .u64 (ch : Int), .int .u64 (tl : Int), .int .u64 (e0 : Int), .int .u64 (e1 : Int), .int .u64 (e2 : Int), .int .u64 (e3 : Int), .bool hd, .slice pa pn pc, .slice va vn vc, .bool sd, .slice ca cn cc, .slice la ln lc] 96) = w5 from HW5.out.symm]
   cases ok with
   | false =>
    have HB := zq (baseO_no2 HUN.out (.inl (HBAD.out rfl)))
    go_wp2_with (refine wpList_store_blk rfl _ _ _ rfl rfl (cells := stZ) rfl (g := w.heap.size) HG5.out Tryz.rstT rfl stZ_one ?_)
    refine bodyPost_blk2 rfl rfl rfl (HFIN.out _ HX5.out HG5.out).2 Tryz.rstT ?_
    exact rstPost_bad HB.out (HFIN.out _ HX5.out HG5.out).1
   | true =>
    obtain ⟨x, hso, hst⟩ := HOK.out rfl
    have HSO := zq hso
    have HST := zq hst
    clear hso hst
    have z0 := cZ HY5.out 0 _ rfl
    have z1 := cZ HY5.out 1 _ rfl
    have z2 := cZ HY5.out 2 _ rfl
    have z3 := cZ HY5.out 3 _ rfl
    have z4 := cZ HY5.out 4 _ rfl
    have z5 := cZ HY5.out 5 _ rfl
    have z6 := cZ HY5.out 6 _ rfl
    have z7 := cZ HY5.out 7 _ rfl
    have z8 := cZ HY5.out 8 _ rfl
    have z9 := cZ HY5.out 9 _ rfl
    have z10 := cZ HY5.out 10 _ rfl
    have z11 := cZ HY5.out 11 _ rfl
    have zl := lZ HY5.out
    go_wp2_with (go_at_call 60; fail)
    refine (rstPut_st w5 #[.int .u64 (ch : Int), .int .u64 (tl : Int), .int .u64 (e0 : Int), .int .u64 (e1 : Int), .int .u64 (e2 : Int), .int .u64 (e3 : Int), .bool hd, .slice pa pn pc, .slice va vn vc, .bool sd, .slice ca cn cc, .slice la ln lc] x PL HSO.out (HST.out.upd HX45.out (fun _ _ e => e)) (by omega)).mono ?_
    rintro e w6 ⟨hx6, ⟨hrise, v6, rfl, hown6⟩ | ⟨hrise, rfl⟩⟩
    case inr =>
     have HX6 := zq (HX5.out.trans hx6)
     have HG6 := zq (hx6.at_ HG5.out id)
     have HB := zq (baseO_no2 HUN.out (.inr (fun y hy => by rw [HSO.out] at hy; cases hy; exact hrise)))
     clear hx6 z0 z1 z2 z3 z4 z5 z6 z7 z8 z9 z10 z11 zl
     go_wp2_with (refine wpList_store_blk rfl _ _ _ rfl rfl (cells := stZ) rfl (g := w.heap.size) HG6.out Tryz.rstT rfl stZ_one ?_)
     refine bodyPost_blk2 rfl rfl rfl (HFIN.out _ HX6.out HG6.out).2 Tryz.rstT ?_
     exact rstPost_bad HB.out (HFIN.out _ HX6.out HG6.out).1
    have HRI := zq hrise
    have HX6 := zq (HX5.out.trans hx6)
    have HG6 := zq (hx6.at_ HG5.out id)
    have HY6 := zq (hx6.at_ HY5.out id)
    have HX46 := zq (HX45.out.trans hx6)
    obtain ⟨r6, c6, rfl⟩ := ownsFormN hown6
    have HO6 := zq hown6
    clear hx6 hown6 hrise z0 z1 z2 z3 z4 z5 z6 z7 z8 z9 z10 z11 zl
    by_cases hle : (frameF 12 PL).length = l.length
    case neg =>
     have hb : (((frameF 12 PL).length : Int) != (l.length : Int)) = true := by simp; omega
     have HB := zq (baseO_no3 HUN.out (fun e => hle (by rw [<- e])))
     clear hle
     go_wp2_with (refine wpList_store_blk rfl _ _ _ rfl rfl (cells := stZ) rfl (g := w.heap.size) HG6.out Tryz.rstT rfl stZ_one ?_)
     refine bodyPost_blk2 rfl rfl rfl (HFIN.out _ HX6.out HG6.out).2 Tryz.rstT ?_
     exact rstPost_bad HB.out (HFIN.out _ HX6.out HG6.out).1
    have hb : (((frameF 12 PL).length : Int) != (l.length : Int)) = false := by simp [hle]
    have HLE := zq hle
    go_wp2
    go_loopw [12] (fun t wr => ∃ k : Nat, k <= l.length /\ t = .int .i64 k /\ Hid (l.take k = (frameF 12 PL).take k) /\ Hid (Ext w6 wr)) (fun t _ => l.length - (intOf t).toNat)
    case atStart => exact ⟨0, Nat.zero_le _, rfl, zq (by simp), zq uZ⟩
    case round =>
     obtain ⟨k, hk, rfl, HTK, HXR⟩ := hrel
     have HGR := zq (HXR.out.at_ HG6.out id)
     have HYR := zq (HXR.out.at_ HY6.out id)
     have HX7 := zq (HX6.out.trans HXR.out)
     by_cases hlt : k < l.length
     ·have hlt2 : k < (frameF 12 PL).length := by rw [HLE.out]; exact hlt
      obtain ⟨b1, o1, c1, e1, -, -, -, hq1⟩ := (H.out.ext HX7.out).addr (by omega)
      cases e1
      obtain ⟨b2, o2, c2, e2, -, -, -, hq2⟩ := (Row.of_owns (HXR.out.ownsRow HO6.out (fun _ _ e => e))).addr (by omega)
      cases e2
      obtain ⟨x8, hx8⟩ : ∃ x, x = l[k] := ⟨_, rfl⟩
      obtain ⟨y8, hy8⟩ : ∃ x, x = (frameF 12 PL)[k] := ⟨_, rfl⟩
      have d0 : wr.cell? ⟨b1, o1 + k, none⟩ = some (.int .u8 (x8.toNat : Int)) := by rw [hx8]; exact bytes_cell hq1 k hlt
      have d1 : wr.cell? ⟨b2, o2 + k, none⟩ = some (.int .u8 (y8.toNat : Int)) := by rw [hy8]; exact bytes_cell hq2 k hlt2
      have HX8 := zq hx8
      have HY8 := zq hy8
      clear hq1 hq2 hx8 hy8
      by_cases hxy : x8 = y8
      ·have hbb : ((x8.toNat : Int) != (y8.toNat : Int)) = false := by simp [hxy]
       have HT2 := zq (take_one hlt hlt2 HTK.out HX8.out HY8.out hxy)
       clear hxy
       go_upto_region 16 with fail
       go_region
       go_wp2
       go_roundw
       case rel => exact ⟨k + 1, by omega, by go_num, HT2, zq HXR.out.drew⟩
       case measure => simp [intOf]; omega
      ·have hbb : ((x8.toNat : Int) != (y8.toNat : Int)) = true := by
        have : x8.toNat ≠ y8.toNat := fun e => hxy (UInt8.toNat_inj.1 e)
        simp; omega
       have HB := zq (baseO_no3 HUN.out (ne_one hlt hlt2 HX8.out HY8.out hxy))
       have HG8 := zq (show wr.drew.heap[w.heap.size]? = some (.cells stZ 96 (0, 0)) by rw [drew_heap]; exact HGR.out)
       have HX9 := zq HX7.out.drew
       clear hxy
       go_upto_region 16 with fail
       go_region
       go_wp2_with (refine wpList_store_blk rfl _ _ _ rfl rfl (cells := stZ) rfl (g := w.heap.size) HG8.out Tryz.rstT rfl stZ_one ?_)
       refine bodyPost_blk2 rfl rfl rfl (HFIN.out _ HX9.out HG8.out).2 Tryz.rstT ?_
       exact rstPost_bad HB.out (HFIN.out _ HX9.out HG8.out).1
     ·have hkl : k = l.length := by omega
      have hle2 : l = frameF 12 PL := by
       have h1 := HTK.out
       rw [hkl, List.take_length, <- HLE.out, List.take_length] at h1
       exact h1
      have HL2 := zq hle2
      have hurow : Upd (At w.heap.size) wr (wr.setRow w.heap.size #[.int .u64 (ch : Int), .int .u64 (tl : Int), .int .u64 (e0 : Int), .int .u64 (e1 : Int), .int .u64 (e2 : Int), .int .u64 (e3 : Int), .bool hd, .slice pa pn pc, .slice va vn vc, .bool sd, .slice ca cn cc, .slice la ln lc]) := Upd.row _ _ _
      clear hkl hle2
      have z0 := cZ HYR.out 0 _ rfl
      have z1 := cZ HYR.out 1 _ rfl
      have z2 := cZ HYR.out 2 _ rfl
      have z3 := cZ HYR.out 3 _ rfl
      have z4 := cZ HYR.out 4 _ rfl
      have z5 := cZ HYR.out 5 _ rfl
      have z6 := cZ HYR.out 6 _ rfl
      have z7 := cZ HYR.out 7 _ rfl
      have z8 := cZ HYR.out 8 _ rfl
      have z9 := cZ HYR.out 9 _ rfl
      have z10 := cZ HYR.out 10 _ rfl
      have z11 := cZ HYR.out 11 _ rfl
      have zl := lZ HYR.out
      go_wp2_with (refine wpList_store_blk rfl _ _ _ rfl rfl (cells := #[.int .u64 (ch : Int), .int .u64 (tl : Int), .int .u64 (e0 : Int), .int .u64 (e1 : Int), .int .u64 (e2 : Int), .int .u64 (e3 : Int), .bool hd, .slice pa pn pc, .slice va vn vc, .bool sd, .slice ca cn cc, .slice la ln lc]) rfl (g := w.heap.size) HGR.out Tryz.rstT rfl (by simp [AllOne, Value.oneCell']) ?_)
      have hg10 : (wr.setRow w.heap.size #[.int .u64 (ch : Int), .int .u64 (tl : Int), .int .u64 (e0 : Int), .int .u64 (e1 : Int), .int .u64 (e2 : Int), .int .u64 (e3 : Int), .bool hd, .slice pa pn pc, .slice va vn vc, .bool sd, .slice ca cn cc, .slice la ln lc]).heap[w.heap.size]? = some (.cells #[.int .u64 (ch : Int), .int .u64 (tl : Int), .int .u64 (e0 : Int), .int .u64 (e1 : Int), .int .u64 (e2 : Int), .int .u64 (e3 : Int), .bool hd, .slice pa pn pc, .slice va vn vc, .bool sd, .slice ca cn cc, .slice la ln lc] 96 (0, 0)) := setRow_heap _ _ _ _ _ _ HGR.out
      refine bodyPost_blk2 rfl rfl rfl hg10 Tryz.rstT ?_
      refine ⟨_, 0, rfl, HX7.out.step hurow (fun k hk e => by have e : k = w.heap.size := e; omega), ⟨ch, tl, _, e0, e1, e2, e3, hd, sd, pa, va, ca, la, pn, pc, vn, vc, cn, cc, ln, lc, rfl, rfl⟩, fun e => absurd rfl e, fun _ => ⟨x, ⟨PL, HL2.out, HSO.out, HRI.out⟩, ?_⟩⟩
      have h1 := (HST.out.upd (HX46.out.trans HXR.out) (fun _ _ e => e)).upd hurow (fun k h e => by have h : w0.heap.size <= k := h; have e : k = w.heap.size := e; have := lZ HG3.out; omega)
      exact h1.mono (fun k h => by have h : w0.heap.size <= k := h; have := HX3.out.size; show w.heap.size <= k; omega)
end Go.Proofs.YtnkmpoplibnflaaGreatDoor.Wk
set_option maxRecDepth 100000
set_option maxHeartbeats 16000000
namespace Go.Proofs.YtnkmpoplibnflaaGreatDoor.Wk
open Go Go.Proofs.YtnkmpoplibnflaaGreatDoor Go.RowKit
theorem stIs_head {S : Nat -> Prop} {w : World} {st : Array Value} {x : StP} {ch tl : Nat} (h : StIs S w st x) (h0 : st[0]? = some (.int .u64 (ch : Int))) (h1 : st[1]? = some (.int .u64 (tl : Int))) : ch = x.chain /\ tl = x.tail := by
 obtain ⟨la, lc, -, h2⟩ := h
 cases hc : x.cont with
 | cat es =>
  rw [hc] at h2
  obtain ⟨ca, cn, rfl, -⟩ := h2
  simp at h0 h1
  omega
 | doc d =>
  rw [hc] at h2
  obtain ⟨pa, pc, va, vc, rfl, -⟩ := h2
  simp at h0 h1
  omega
def RBasePost (w : World) (l : List UInt8) (c f : Nat) (e : Ending) (w' : World) : Prop := ∃ (st : Array Value) (E : Int), e = .returned (.tuple #[.agg st, .int .i64 E]) /\ Ext w w' /\ (∃ ch tl lv, IsSt st ch tl lv) /\ (E = 0 -> ∃ x, baseO l x /\ x.chain = c /\ x.tail = f /\ StIs (From w.heap.size) w' st x) /\ (E ≠ 0 -> E = 220 /\ ∀ x, baseO l x -> ¬ (x.chain = c /\ x.tail = f))
theorem rbasePost_bad {w w' : World} {l : List UInt8} {c f : Nat} (h : ∀ x, baseO l x -> ¬ (x.chain = c /\ x.tail = f)) (hx : Ext w w') : RBasePost w l c f (.returned (.tuple #[.agg stZ, .int .i64 220])) w' :=
 ⟨stZ, 220, rfl, hx, ⟨0, 0, _, 0, 0, 0, 0, false, false, none, none, none, none, 0, 0, 0, 0, 0, 0, 0, 0, rfl, rfl⟩, fun e => (by cases e), fun _ => ⟨rfl, h⟩⟩
theorem rbase_any {S : Nat -> Prop} (w : World) (c f : Nat) (v : Value) (l : List UInt8) (h : Bytes S w v l) (hl : l.length <= 60000) (hf : 0 < f) :
  Calls Tryz.prog 38 #[.int .u64 c, .int .u64 f, v] w (RBasePost w l c f) := by
 have H := zq h
 obtain ⟨a0, c0, rfl, hn, hm, -⟩ := h
 obtain ⟨w1, hw1⟩ : ∃ u, u = w.alloc (.cells stZ 96) := ⟨_, rfl⟩
 have hx1 : Ext w w1 := by rw [hw1]; exact uZ.alloc _
 have hg1 : w1.heap[w.heap.size]? = some (.cells stZ 96 (0, 0)) := by rw [hw1]; exact newAt _ _
 have HX1 := zq hx1
 have HG1 := zq hg1
 have HW1 := zq hw1
 clear hx1 hg1 hw1
 have hfin : ∀ w9 : World, Ext w w9 -> w9.heap[w.heap.size]? = some (.cells stZ 96 (0, 0)) -> Ext w (w9.setRow w.heap.size stZ) /\ (w9.setRow w.heap.size stZ).heap[w.heap.size]? = some (.cells stZ 96 (0, 0)) := fun w9 hx hg =>
  ⟨hx.step (T := At w.heap.size) (Upd.row _ _ _) (fun k hk e => by have e : k = w.heap.size := e; omega), setRow_heap _ _ _ _ _ _ hg⟩
 have HFIN := zq hfin
 have hf0 : ((f : Int) == 0) = false := by simp; omega
 clear hfin hf
 go_enter Tryz.func38, Tryz.ntmps38
 go_wp2_with (go_at_call 50; fail)
 rw [show w.alloc (.cells #[.int .u64 0, .int .u64 0, .int .u64 0, .int .u64 0, .int .u64 0, .int .u64 0, .bool false, .slice none 0 0, .slice none 0 0, .bool false, .slice none 0 0, .slice none 0 0] 96) = w1 from HW1.out.symm]
 refine (rstParse_any w1 _ l (H.out.ext HX1.out) hl).mono ?_
 rintro e w2 ⟨st, E, rfl, hx2, ⟨ch, tl, lv, e0, e1, e2, e3, hd, sd, pa, va, ca, la, pn, pc, vn, vc, cn, cc, ln, lc, rfl, rfl⟩, hbad, hok⟩
 have HX2 := zq (HX1.out.trans hx2)
 have HG2 := zq (hx2.at_ HG1.out id)
 have HBAD := zq hbad
 have HOK := zq hok
 clear hx2 hbad hok hf0
 rw [show stC ch tl e0 e1 e2 e3 hd sd pa va ca la pn pc vn vc cn cc ln lc = #[.int .u64 (ch : Int), .int .u64 (tl : Int), .int .u64 (e0 : Int), .int .u64 (e1 : Int), .int .u64 (e2 : Int), .int .u64 (e3 : Int), .bool hd, .slice pa pn pc, .slice va vn vc, .bool sd, .slice ca cn cc, .slice la ln lc] from rfl]
 obtain ⟨w3, hw3⟩ : ∃ u, u = w2.alloc (.cells #[.int .u64 (ch : Int), .int .u64 (tl : Int), .int .u64 (e0 : Int), .int .u64 (e1 : Int), .int .u64 (e2 : Int), .int .u64 (e3 : Int), .bool hd, .slice pa pn pc, .slice va vn vc, .bool sd, .slice ca cn cc, .slice la ln lc] 96) := ⟨_, rfl⟩
 have hx3 : Ext w2 w3 := by rw [hw3]; exact uZ.alloc _
 have hg3 : w3.heap[w2.heap.size]? = some (.cells #[.int .u64 (ch : Int), .int .u64 (tl : Int), .int .u64 (e0 : Int), .int .u64 (e1 : Int), .int .u64 (e2 : Int), .int .u64 (e3 : Int), .bool hd, .slice pa pn pc, .slice va vn vc, .bool sd, .slice ca cn cc, .slice la ln lc] 96 (0, 0)) := by rw [hw3]; exact newAt _ _
 have HX3 := zq (HX2.out.trans hx3)
 have HG3 := zq (hx3.at_ HG2.out id)
 have HY3 := zq hg3
 have HX23 := zq hx3
 have HW3 := zq hw3
 clear hx3 hg3 hw3
 go_upto_region 4 with fail
 rw [show w2.alloc (.cells #[.int .u64 (ch : Int), .int .u64 (tl : Int), .int .u64 (e0 : Int), .int .u64 (e1 : Int), .int .u64 (e2 : Int), .int .u64 (e3 : Int), .bool hd, .slice pa pn pc, .slice va vn vc, .bool sd, .slice ca cn cc, .slice la ln lc] 96) = w3 from HW3.out.symm]
 have z0 := cZ HY3.out 0 _ rfl
 have z1 := cZ HY3.out 1 _ rfl
 have z2 := cZ HY3.out 2 _ rfl
 have z3 := cZ HY3.out 3 _ rfl
 have z4 := cZ HY3.out 4 _ rfl
 have z5 := cZ HY3.out 5 _ rfl
 have z6 := cZ HY3.out 6 _ rfl
 have z7 := cZ HY3.out 7 _ rfl
 have z8 := cZ HY3.out 8 _ rfl
 have z9 := cZ HY3.out 9 _ rfl
 have z10 := cZ HY3.out 10 _ rfl
 have z11 := cZ HY3.out 11 _ rfl
 have zl := lZ HY3.out
 by_cases hE : E = 0
 case neg =>
  have hb : (E != 0) = true := by simpa using hE
  have HB := zq (show ∀ x, baseO l x -> ¬ (x.chain = c /\ x.tail = f) from fun x hx => absurd hx ((HBAD.out hE).2.2 x))
  clear hE z0 z1 z2 z3 z4 z5 z6 z7 z8 z9 z10 z11 zl
  go_wp2_with (refine wpList_store_blk rfl _ _ _ rfl rfl (cells := stZ) rfl (g := w.heap.size) HG3.out Tryz.rstT rfl stZ_one ?_)
  refine bodyPost_blk2 rfl rfl rfl (HFIN.out _ HX3.out HG3.out).2 Tryz.rstT ?_
  exact rbasePost_bad HB.out (HFIN.out _ HX3.out HG3.out).1
 subst hE
 obtain ⟨x, hx, hrow⟩ := HOK.out rfl
 obtain ⟨hxc, hxt⟩ := stIs_head hrow rfl rfl
 have HXB := zq hx
 have HXC := zq hxc
 have HXT := zq hxt
 have HROW := zq hrow
 clear hx hxc hxt hrow
 by_cases h1 : ch = c
 case neg =>
  have hb : ((ch : Int) != (c : Int)) = true := by simp; omega
  have HB := zq (show ∀ x, baseO l x -> ¬ (x.chain = c /\ x.tail = f) from fun y hy => by rw [baseO_one hl hy HXB.out]; exact fun h => h1 (by rw [HXC.out]; exact h.1))
  clear h1
  go_wp2_with (refine wpList_store_blk rfl _ _ _ rfl rfl (cells := stZ) rfl (g := w.heap.size) HG3.out Tryz.rstT rfl stZ_one ?_)
  refine bodyPost_blk2 rfl rfl rfl (HFIN.out _ HX3.out HG3.out).2 Tryz.rstT ?_
  exact rbasePost_bad HB.out (HFIN.out _ HX3.out HG3.out).1
 have hb1 : ((ch : Int) != (c : Int)) = false := by simp [h1]
 by_cases h2 : tl = f
 case neg =>
  have hb : ((tl : Int) != (f : Int)) = true := by simp; omega
  have HB := zq (show ∀ x, baseO l x -> ¬ (x.chain = c /\ x.tail = f) from fun y hy => by rw [baseO_one hl hy HXB.out]; exact fun h => h2 (by rw [HXT.out]; exact h.2))
  clear h1 h2
  go_wp2_with (refine wpList_store_blk rfl _ _ _ rfl rfl (cells := stZ) rfl (g := w.heap.size) HG3.out Tryz.rstT rfl stZ_one ?_)
  refine bodyPost_blk2 rfl rfl rfl (HFIN.out _ HX3.out HG3.out).2 Tryz.rstT ?_
  exact rbasePost_bad HB.out (HFIN.out _ HX3.out HG3.out).1
 have hb2 : ((tl : Int) != (f : Int)) = false := by simp [h2]
 have HEQ := zq (And.intro h1 h2)
 clear h1 h2
 go_wp2_with (refine wpList_store_blk rfl _ _ _ rfl rfl (cells := #[.int .u64 (ch : Int), .int .u64 (tl : Int), .int .u64 (e0 : Int), .int .u64 (e1 : Int), .int .u64 (e2 : Int), .int .u64 (e3 : Int), .bool hd, .slice pa pn pc, .slice va vn vc, .bool sd, .slice ca cn cc, .slice la ln lc]) rfl (g := w.heap.size) HG3.out Tryz.rstT rfl (by simp [AllOne, Value.oneCell']) ?_)
 have hg10 : (w3.setRow w.heap.size #[.int .u64 (ch : Int), .int .u64 (tl : Int), .int .u64 (e0 : Int), .int .u64 (e1 : Int), .int .u64 (e2 : Int), .int .u64 (e3 : Int), .bool hd, .slice pa pn pc, .slice va vn vc, .bool sd, .slice ca cn cc, .slice la ln lc]).heap[w.heap.size]? = some (.cells #[.int .u64 (ch : Int), .int .u64 (tl : Int), .int .u64 (e0 : Int), .int .u64 (e1 : Int), .int .u64 (e2 : Int), .int .u64 (e3 : Int), .bool hd, .slice pa pn pc, .slice va vn vc, .bool sd, .slice ca cn cc, .slice la ln lc] 96 (0, 0)) := setRow_heap _ _ _ _ _ _ HG3.out
 refine bodyPost_blk2 rfl rfl rfl hg10 Tryz.rstT ?_
 refine ⟨_, 0, rfl, HX3.out.step (Upd.row _ _ _) (fun k hk e => by have e : k = w.heap.size := e; omega), ⟨ch, tl, _, e0, e1, e2, e3, hd, sd, pa, va, ca, la, pn, pc, vn, vc, cn, cc, ln, lc, rfl, rfl⟩, fun _ => ⟨x, HXB.out, by rw [<- HXC.out]; exact HEQ.out.1, by rw [<- HXT.out]; exact HEQ.out.2, ?_⟩, fun e => absurd rfl e⟩
 exact ((HROW.out.upd HX23.out (fun _ _ e => e)).upd (Upd.row w3 w.heap.size _) (fun k h e => by have h : w1.heap.size <= k := h; have e : k = w.heap.size := e; have := lZ HG1.out; omega)).mono (fun k h => by have h : w1.heap.size <= k := h; have := HX1.out.size; show w.heap.size <= k; omega)
end Go.Proofs.YtnkmpoplibnflaaGreatDoor.Wk
set_option maxRecDepth 100000
set_option maxHeartbeats 16000000
namespace Go.Proofs.YtnkmpoplibnflaaGreatDoor.Wk
open Go Go.Proofs.YtnkmpoplibnflaaGreatDoor Go.RowKit
theorem rseq_any {S : Nat -> Prop} (w : World) (st : Array Value) (v : Value) (l : List Tr) (p i : Nat) (hst : ∃ x0 x1 x2 x3 x4 x5 x6 x7 x8 x9 x10, st = #[x0, x1, x2, x3, x4, x5, x6, x7, x8, x9, x10, v]) (hone : st.all (·.oneCell') = true) (h : Row S w v l.length (flatT l)) (hlen : l.length <= 1000000) :
  Calls Tryz.prog 39 #[.agg st, .int .u64 p, .int .u64 i] w fun e w' => e = .returned (.tuple #[.int .u64 (((seqF l p i).getD 0 : Nat) : Int), .bool (seqF l p i).isSome]) /\ Ext w w' := by
 have H := zq h
 obtain ⟨a0, c0, rfl, hn, hm, -⟩ := h
 unfold maxLen at hm
 obtain ⟨x0, x1, x2, x3, x4, x5, x6, x7, x8, x9, x10, rfl⟩ := hst
 obtain ⟨w1, hw1⟩ : ∃ u, u = w.alloc (.cells #[x0, x1, x2, x3, x4, x5, x6, x7, x8, x9, x10, .slice a0 l.length c0] 96) := ⟨_, rfl⟩
 have hx1 : Ext w w1 := by rw [hw1]; exact uZ.alloc _
 have hg1 : w1.heap[w.heap.size]? = some (.cells #[x0, x1, x2, x3, x4, x5, x6, x7, x8, x9, x10, .slice a0 l.length c0] 96 (0, 0)) := by rw [hw1]; exact newAt _ _
 have HX1 := zq hx1
 have HW1 := zq hw1
 have HG1 := zq hg1
 have p0 := cZ hg1 11 _ rfl
 have pl := lZ hg1
 clear hx1 hg1 hw1
 go_enter Tryz.func39, Tryz.ntmps39
 go_upto_region 1 with fail
 rw [show w.alloc (.cells #[x0, x1, x2, x3, x4, x5, x6, x7, x8, x9, x10, .slice a0 l.length c0] 96) = w1 from HW1.out.symm]
 clear HW1 p0 pl
 go_wp2
 go_loopw [8] (fun t wr => ∃ n : Nat, n <= l.length /\ t = .int .i64 n /\ Hid (∀ k (hk : k < l.length), k < n -> ¬ (l[k].1 = p /\ l[k].2.1 = i)) /\ Hid (Ext w1 wr)) (fun t _ => l.length - (intOf t).toNat)
 case atStart => exact ⟨0, Nat.zero_le _, rfl, zq (fun k _ h => (by omega)), zq uZ⟩
 case round =>
  obtain ⟨n, hn', rfl, HNO, HX⟩ := hrel
  have g11 := cZ (HX.out.at_ HG1.out id) 11 (.slice a0 l.length c0) rfl
  have gl := lZ (HX.out.at_ HG1.out id)
  by_cases hlt : n < l.length
  ·obtain ⟨b1, o1, c1, e1, -, -, -, hq1⟩ := (H.out.ext (HX1.out.trans HX.out)).addr (by omega)
   cases e1
   have hc := who_cells hq1 hlt (x := l[n]) rfl
   have HLT := zq hlt
   obtain ⟨x, hx⟩ : ∃ x, x = l[n].1 := ⟨_, rfl⟩
   obtain ⟨y, hy⟩ : ∃ x, x = l[n].2.1 := ⟨_, rfl⟩
   obtain ⟨z, hz⟩ : ∃ x, x = l[n].2.2 := ⟨_, rfl⟩
   have d0 : wr.cell? ⟨b1, o1 + n * 3, none⟩ = some (.int .u64 (x : Int)) := by rw [hx]; exact hc 0 _ rfl
   have d1 : wr.cell? ⟨b1, o1 + n * 3 + 1, none⟩ = some (.int .u64 (y : Int)) := by rw [hy]; exact hc 1 _ rfl
   have d2 : wr.cell? ⟨b1, o1 + n * 3 + 2, none⟩ = some (.int .u64 (z : Int)) := by rw [hz]; exact hc 2 _ rfl
   have HXX := zq hx
   have HYY := zq hy
   have HZZ := zq hz
   clear hq1 hc hx hy hz
   by_cases h1 : x = p
   ·have hb1 : ((x : Int) == (p : Int)) = true := by simp [h1]
    by_cases h2 : y = i
    ·have hb2 : ((y : Int) == (i : Int)) = true := by simp [h2]
     have HF := zq (show seqF l p i = some z from HZZ.out ▸ seq_some HLT.out HNO.out ⟨HXX.out ▸ h1, HYY.out ▸ h2⟩)
     clear h1 h2
     go_wp2
     go_ret2
     exact ⟨by rw [HF.out]; rfl, HX1.out.trans HX.out⟩
    ·have hb2 : ((y : Int) == (i : Int)) = false := by simp; omega
     have HNE := zq h2
     clear h1 h2
     go_wp2
     go_roundw
     case rel =>
      refine ⟨n + 1, by omega, by go_num, zq (fun k hk hkn => ?_), zq HX.out⟩
      rcases Nat.lt_or_ge k n with g | g
      ·exact HNO.out k hk g
      ·have e2 : k = n := by omega
       subst e2
       exact fun h => HNE.out (HYY.out.trans h.2)
     case measure => simp [intOf]; omega
   ·have hb1 : ((x : Int) == (p : Int)) = false := by simp; omega
    have HNE := zq h1
    clear h1
    go_wp2
    go_roundw
    case rel =>
     refine ⟨n + 1, by omega, by go_num, zq (fun k hk hkn => ?_), zq HX.out⟩
     rcases Nat.lt_or_ge k n with g | g
     ·exact HNO.out k hk g
     ·have e2 : k = n := by omega
      subst e2
      exact fun h => HNE.out (HXX.out.trans h.1)
    case measure => simp [intOf]; omega
  ·have HF := zq (show seqF l p i = none from seq_none (fun k hk => HNO.out k hk (by omega)))
   go_wp2
   go_ret2
   exact ⟨by rw [HF.out]; rfl, HX1.out.trans HX.out⟩
end Go.Proofs.YtnkmpoplibnflaaGreatDoor.Wk
