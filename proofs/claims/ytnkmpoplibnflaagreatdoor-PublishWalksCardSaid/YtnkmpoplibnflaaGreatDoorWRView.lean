/-
  CONTRACTS of the reference's has, Of. No condition but sizes.
-/
import Derived.Test.YtnkmpoplibnflaaGreatDoorNRef5
import Derived.Test.YtnkmpoplibnflaaGreatDoorGAF
set_option maxRecDepth 100000
set_option maxHeartbeats 16000000
namespace Go.Proofs.YtnkmpoplibnflaaGreatDoor
open Go.RowKit
theorem rhas_any {S : Nat -> Prop} (w : World) (nv : Value) (l : List (List UInt8)) (kd chain m : Nat) (hr : Texts S w nv l) (hs : ∀ s ∈ l, s.length <= 1000000) :
  Calls Tryz.prog 37 #[nv, .int .u8 kd, .int .u64 chain, .int .u64 m] w fun e w' => e = .returned (.bool (hasF l kd chain m)) /\ Ext w w' := by
 have G := zq hr
 have HLB := zq hs
 obtain ⟨na, cp, rfl, hlc, hm, -⟩ := hr
 unfold maxLen at hm
 clear hs
 go_enter Tryz.func37, Tryz.ntmps37
 go_wp2
 go_loopw [9] (fun t wr => ∃ n : Nat, n <= l.length /\ t = .int .i64 n /\ hasF (l.take n) kd chain m = false /\ Ext w wr) (fun t _ => l.length - (intOf t).toNat)
 case atStart => exact ⟨0, Nat.zero_le _, rfl, by rw [List.take_zero]; rfl, uZ⟩
 case round =>
  obtain ⟨n, hn, rfl, hno, hx⟩ := hrel
  have HNO := zq hno
  clear hno
  by_cases hlt : n < l.length
  ·obtain ⟨b1, o1, c1, e1, -, -, -, hq1⟩ := (G.out.ext hx).addr (by omega)
   cases e1
   have hc := texts_cell hq1 n hlt
   have hsl := HLB.out (l[n]) (List.getElem_mem hlt)
   have hsn : l.take (n + 1) = l.take n ++ [l[n]] := List.take_succ_eq_append_getElem hlt
   have hmem : l[n] ∈ l := List.getElem_mem hlt
   obtain ⟨s, hs⟩ : ∃ s, s = l[n] := ⟨_, rfl⟩
   rw [<- hs] at hc hsl hsn hmem
   obtain ⟨x, hxx⟩ : ∃ x, x = (parseF s).1 := ⟨_, rfl⟩
   obtain ⟨ok, hok⟩ : ∃ o, o = (parseF s).2 := ⟨_, rfl⟩
   have hpp : parseF s = (x, ok) := by rw [hxx, hok]
   have hcon := fun wq => rparse_any wq s hsl
   unfold ParsePost at hcon
   simp only [hpp] at hcon
   obtain ⟨xk, xd, xn, xp, xi, xs⟩ := x
   have hst : hasF (l.take (n + 1)) kd chain m = (ok && decide (xk = kd) && decide (xd = chain) && decide (xn = m)) := by
    rw [hsn, has_snoc, HNO.out, hpp]; simp
   have hall : (ok && decide (xk = kd) && decide (xd = chain) && decide (xn = m)) = true -> hasF l kd chain m = true := fun h => by
    refine has_iff.2 ⟨s, hmem, ?_⟩
    rw [hpp]
    simpa [and_assoc] using h
   have HCON := zq (show ∀ wq, Calls Tryz.prog 36 #[str s] wq (fun e w' => e = .returned (.tuple #[.agg #[.int .u8 xk, .int .u64 xd, .int .u64 xn, .int .u64 xp, .int .u64 xi, .int .u64 xs], .bool ok]) /\ Ext wq w') from hcon)
   have HST := zq hst
   have HALL := zq hall
   have HX := zq hx
   clear hq1 hsl hsn hmem hs hxx hok hpp hcon hst hall hx
   go_wp2_with (go_at_call 36; fail)
   refine (HCON.out _).mono ?_
   rintro e w5 ⟨rfl, hx5⟩
   have HX5 := zq (((HX.out.trans hx5)).alloc (.cells #[.int .u8 xk, .int .u64 xd, .int .u64 xn, .int .u64 xp, .int .u64 xi, .int .u64 xs] 73))
   clear hx5 hc
   have key : ∀ b : Bool, (ok && decide (xk = kd) && decide (xd = chain) && decide (xn = m)) = b -> Hid ((b = true -> hasF l kd chain m = true) /\ hasF (l.take (n + 1)) kd chain m = b) := fun b hb => zq ⟨fun h => HALL.out (hb.trans h), HST.out.trans hb⟩
   have K := zq key
   clear key
   cases ok with
   | false =>
    have HK := K.out false (by simp)
    go_wp2
    go_roundw
    case rel => exact ⟨n + 1, by omega, by go_num, HK.out.2, HX5.out⟩
    case measure => simp [intOf]; omega
   | true =>
    by_cases h1 : xk = kd
    ·have g1 : ((xk : Int) == (kd : Int)) = true := by simp [h1]
     by_cases h2 : xd = chain
     ·have g2 : ((xd : Int) == (chain : Int)) = true := by simp [h2]
      by_cases h3 : xn = m
      ·have g3 : ((xn : Int) == (m : Int)) = true := by simp [h3]
       have HK : Hid (hasF l kd chain m = true) := zq ((K.out true (by simp [h1, h2, h3])).out.1 rfl)
       clear h1 h2 h3
       go_wp2
       go_ret
       exact ⟨by rw [HK.out]; rfl, HX5.out⟩
      ·have g3 : ((xn : Int) == (m : Int)) = false := by simp; omega
       have HK := K.out false (by simp [h3])
       clear h1 h2 h3
       go_wp2
       go_roundw
       case rel => exact ⟨n + 1, by omega, by go_num, HK.out.2, HX5.out⟩
       case measure => simp [intOf]; omega
     ·have g2 : ((xd : Int) == (chain : Int)) = false := by simp; omega
      have HK := K.out false (by simp [h2])
      clear h1 h2
      go_wp2
      go_roundw
      case rel => exact ⟨n + 1, by omega, by go_num, HK.out.2, HX5.out⟩
      case measure => simp [intOf]; omega
    ·have g1 : ((xk : Int) == (kd : Int)) = false := by simp; omega
     have HK := K.out false (by simp [h1])
     clear h1
     go_wp2
     go_roundw
     case rel => exact ⟨n + 1, by omega, by go_num, HK.out.2, HX5.out⟩
     case measure => simp [intOf]; omega
  ·have hnl : n = l.length := by omega
   have HF := zq (show hasF l kd chain m = false by have := HNO.out; rw [hnl, List.take_length] at this; exact this)
   go_wp2
   go_ret
   exact ⟨by rw [HF.out]; rfl, hx⟩
end Go.Proofs.YtnkmpoplibnflaaGreatDoor
namespace Go.Proofs.YtnkmpoplibnflaaGreatDoor
open Go.RowKit
theorem Tryz.rviewT : StructT Tryz.prog 75 3 := ⟨_, Tryz.underlying75, rfl, by kernel_rfl⟩
theorem rof_any {S : Nat -> Prop} (w : World) (chain : Nat) (nv : Value) (l : List (List UInt8)) (hr : Texts S w nv l) (hs : ∀ s ∈ l, s.length <= 1000000) :
  Calls Tryz.prog 29 #[.int .u64 chain, nv] w fun e w' => ∃ t, e = .returned (.agg (vwCells ⟨chain, floorF chain l, t⟩)) /\ IsTail (hasF l 1 chain) (floorF chain l) t /\ Ext w w' := by
 obtain ⟨w2, hw2⟩ : ∃ u, u = (w.alloc (.cells #[.int .u64 0, .int .u64 0, .int .u64 0] 75)).alloc (.cells #[.int .u64 chain, .int .u64 0, .int .u64 0] 75) := ⟨_, rfl⟩
 have hx2 : Ext w w2 := by rw [hw2]; exact (uZ.alloc _).alloc _
 obtain ⟨g0, hg0⟩ : ∃ g, g = w.heap.size := ⟨_, rfl⟩
 obtain ⟨g1, hg1⟩ : ∃ g, g = w.heap.size + 1 := ⟨_, rfl⟩
 have hV0 : w2.heap[g0]? = some (.cells #[.int .u64 0, .int .u64 0, .int .u64 0] 75 (0, 0)) := by
  rw [hw2, hg0]; exact (Below.heap_alloc _ _ _ (by simp)).trans (newAt _ _)
 have hV1 : w2.heap[g1]? = some (.cells #[.int .u64 chain, .int .u64 0, .int .u64 0] 75 (0, 0)) := by
  rw [hw2, hg1]; have := newAt (w.alloc (.cells #[.int .u64 0, .int .u64 0, .int .u64 0] 75)) (.cells #[.int .u64 chain, .int .u64 0, .int .u64 0] 75); simpa using this
 have G := zq hr
 have HLB := zq hs
 have HX2 := zq hx2
 have HV0 := zq hV0
 have HV1 := zq hV1
 have HW2 := zq hw2
 have HG0 := zq hg0
 have HG1 := zq hg1
 have HGE := zq (show g0 ≠ g1 /\ w.heap.size <= g0 /\ w.heap.size <= g1 by omega)
 obtain ⟨na, cp, rfl, hlc, hm, -⟩ := hr
 unfold maxLen at hm
 clear hs hx2 hV0 hV1 hw2 hg0 hg1
 go_enter Tryz.func29, Tryz.ntmps29
 go_wp2
 rw [show (w.alloc (.cells #[.int .u64 0, .int .u64 0, .int .u64 0] 75)).alloc (.cells #[.int .u64 chain, .int .u64 0, .int .u64 0] 75) = w2 from HW2.out.symm, <- HG1.out, <- HG0.out]
 go_loopw [6] (fun t wr => ∃ n : Nat, n <= l.length /\ t = .int .i64 n /\ wr.heap[g0]? = some (.cells #[.int .u64 0, .int .u64 0, .int .u64 0] 75 (0, 0)) /\ wr.heap[g1]? = some (.cells #[.int .u64 chain, .int .u64 (floorF chain (l.take n)), .int .u64 0] 75 (0, 0)) /\ Ext w wr) (fun t _ => l.length - (intOf t).toNat)
 case atStart => exact ⟨0, Nat.zero_le _, rfl, HV0.out, by rw [List.take_zero]; exact HV1.out, HX2.out⟩
 case round =>
  obtain ⟨n, hn, rfl, hv0, hv1, hx⟩ := hrel
  have HX := zq hx
  have HU0 := zq hv0
  have HU1 := zq hv1
  clear hv0 hv1 HV0 HV1
  by_cases hlt : n < l.length
  ·obtain ⟨b1, o1, c1, e1, -, -, -, hq1⟩ := (G.out.ext hx).addr (by omega)
   cases e1
   have hc := texts_cell hq1 n hlt
   have hsl := HLB.out (l[n]) (List.getElem_mem hlt)
   have hsn : l.take (n + 1) = l.take n ++ [l[n]] := List.take_succ_eq_append_getElem hlt
   have hfs := floor_snoc chain (l.take n) (l[n])
   rw [<- hsn] at hfs
   obtain ⟨s, hs⟩ : ∃ s, s = l[n] := ⟨_, rfl⟩
   rw [<- hs] at hc hsl hfs
   obtain ⟨x, hxx⟩ : ∃ x, x = (parseF s).1 := ⟨_, rfl⟩
   obtain ⟨ok, hok⟩ : ∃ o, o = (parseF s).2 := ⟨_, rfl⟩
   have hpp : parseF s = (x, ok) := by rw [hxx, hok]
   obtain ⟨f, hf⟩ : ∃ f, f = floorF chain (l.take n) := ⟨_, rfl⟩
   have hcon := fun wq => rparse_any wq s hsl
   unfold ParsePost at hcon
   simp only [hpp] at hcon
   obtain ⟨xk, xd, xn, xp, xi, xs⟩ := x
   rw [<- hf] at hfs HU1
   unfold floorStep at hfs
   rw [hpp] at hfs
   have HCON := zq (show ∀ wq, Calls Tryz.prog 36 #[str s] wq (fun e w' => e = .returned (.tuple #[.agg #[.int .u8 xk, .int .u64 xd, .int .u64 xn, .int .u64 xp, .int .u64 xi, .int .u64 xs], .bool ok]) /\ Ext wq w') from hcon)
   have HFS := zq hfs
   clear hq1 hsl hsn hs hxx hok hpp hcon hf hfs hx
   go_wp2_with (go_at_call 36; fail)
   refine (HCON.out _).mono ?_
   rintro e w5 ⟨rfl, hx5⟩
   obtain ⟨w6, hw6⟩ : ∃ u, u = w5.alloc (.cells #[.int .u8 xk, .int .u64 xd, .int .u64 xn, .int .u64 xp, .int .u64 xi, .int .u64 xs] 73) := ⟨_, rfl⟩
   have hx6 : Ext wr w6 := hx5.trans (by rw [hw6]; exact uZ.alloc _)
   have HX6 := zq (HX.out.trans hx6)
   have HU06 := zq (hx6.at_ HU0.out id)
   have HU16 := zq (hx6.at_ HU1.out id)
   have HU15 := zq (hx5.at_ HU1.out id)
   have HU05 := zq (hx5.at_ HU0.out id)
   have HX5 := zq (HX.out.trans hx5)
   have b0 := cZ HU15.out 0 _ rfl
   have b1 := cZ HU15.out 1 _ rfl
   have b2 := cZ HU15.out 2 _ rfl
   have fr1 := freeAt HU15.out 1
   have hbl := lZ HU15.out
   have HW6 := zq hw6
   clear hx5 hc hx6 hw6
   have KEEP : Hid (floorF chain (l.take (n + 1)) = f -> ∃ n', n' <= l.length /\ Value.int .i64 ((n : Int) + 1) = .int .i64 (n' : Nat) /\ w6.heap[g0]? = some (.cells #[.int .u64 0, .int .u64 0, .int .u64 0] 75 (0, 0)) /\ w6.heap[g1]? = some (.cells #[.int .u64 chain, .int .u64 (floorF chain (l.take n')), .int .u64 0] 75 (0, 0)) /\ Ext w w6) := zq fun h =>
    ⟨n + 1, by omega, by go_num, HU06.out, by rw [h]; exact HU16.out, HX6.out⟩
   cases ok with
   | false =>
    go_wp2
    rw [<- HW6.out]
    go_roundw
    case rel => exact KEEP.out (by rw [HFS.out]; simp)
    case measure => simp [intOf]; omega
   | true =>
    by_cases h2 : xk = 2
    ·have g2 : ((xk : Int) == 2) = true := by simp [h2]
     by_cases hd : xd = chain
     ·have gd : ((xd : Int) == (chain : Int)) = true := by simp [hd]
      by_cases hfn : f < xn
      ·have hfz : (f : Int) < (xn : Int) := by omega
       have HH := zq (And.intro h2 hd)
       clear h2 hd
       have HFX := zq (show floorF chain (l.take (n + 1)) = xn by rw [HFS.out, if_pos ⟨rfl, HH.out.1, HH.out.2⟩]; show max f xn = xn; omega)
       go_wp2
       obtain ⟨w7, hw7⟩ : ∃ u, u = (w5.setCell ⟨g1, 1, none⟩ (.int .u64 xn)).alloc (.cells #[.int .u8 xk, .int .u64 xd, .int .u64 xn, .int .u64 xp, .int .u64 xi, .int .u64 xs] 73) := ⟨_, rfl⟩
       rw [<- hw7]
       have hu7 : Upd (At g1) w5 w7 := by rw [hw7]; exact (Upd.own _ _ _ _).alloc _
       have hV7 : w7.heap[g1]? = some (.cells #[.int .u64 chain, .int .u64 xn, .int .u64 0] 75 (0, 0)) := by
        rw [hw7]; exact (Upd.refl Nothing _).alloc _ |>.at_ (setAt HU15.out) id
       go_roundw
       case rel =>
        refine ⟨n + 1, by omega, by go_num, hu7.at_ HU05.out (by have := HGE.out; unfold At; omega), ?_, HX5.out.step hu7 (fun i hi e => by have := HGE.out; unfold At at e; omega)⟩
        rw [HFX.out]; exact hV7
       case measure => simp [intOf]; omega
      ·have hfz : ¬ (f : Int) < (xn : Int) := by omega
       have HK := zq (show floorF chain (l.take (n + 1)) = f by rw [HFS.out, if_pos ⟨rfl, h2, hd⟩]; show max f xn = f; omega)
       clear h2 hd
       go_wp2
       rw [<- HW6.out]
       go_roundw
       case rel => exact KEEP.out HK.out
       case measure => simp [intOf]; omega
     ·have gd : ((xd : Int) == (chain : Int)) = false := by simp; omega
      have HK := zq (show floorF chain (l.take (n + 1)) = f by rw [HFS.out, if_neg (fun h => hd h.2.2)])
      clear h2 hd
      go_wp2
      rw [<- HW6.out]
      go_roundw
      case rel => exact KEEP.out HK.out
      case measure => simp [intOf]; omega
    ·have g2 : ((xk : Int) == 2) = false := by simp; omega
     have HK := zq (show floorF chain (l.take (n + 1)) = f by rw [HFS.out, if_neg (fun h => h2 h.2.1)])
     clear h2
     go_wp2
     rw [<- HW6.out]
     go_roundw
     case rel => exact KEEP.out HK.out
     case measure => simp [intOf]; omega
  ·have hkl : n = l.length := by omega
   rw [hkl, List.take_length] at HU1
   obtain ⟨f, hf⟩ : ∃ f, f = floorF chain l := ⟨_, rfl⟩
   have hfl : f < 18446744073709551616 := by rw [hf]; exact floor_lt _ _
   rw [<- hf] at HU1
   have HF := zq hf
   have b0 := cZ HU1.out 0 _ rfl
   have b1 := cZ HU1.out 1 _ rfl
   have b2 := cZ HU1.out 2 _ rfl
   have fr2 := freeAt HU1.out 2
   have hbl := lZ HU1.out
   clear hf hx hkl
   go_wp2
   obtain ⟨wo, hwo⟩ : ∃ u, u = wr.setCell ⟨g1, 2, none⟩ (.int .u64 f) := ⟨_, rfl⟩
   rw [<- hwo]
   have huo : Upd (At g1) wr wo := by rw [hwo]; exact Upd.own _ _ _ _
   have hVo : wo.heap[g1]? = some (.cells #[.int .u64 chain, .int .u64 f, .int .u64 f] 75 (0, 0)) := by rw [hwo]; exact setAt HU1.out
   have HV0o := zq (huo.at_ HU0.out (by have := HGE.out; unfold At; omega))
   have HXo := zq (HX.out.step huo (fun i hi e => by have := HGE.out; unfold At at e; omega))
   have HVo := zq hVo
   clear hwo huo hVo b0 b1 b2 fr2 hbl HU0 HU1 HX
   go_loopw [] (fun wq => ∃ t : Nat, f <= t /\ t < 18446744073709551616 /\ (∀ j, f < j -> j <= t -> hasF l 1 chain j = true) /\ wq.heap[g0]? = some (.cells #[.int .u64 0, .int .u64 0, .int .u64 0] 75 (0, 0)) ∧
     wq.heap[g1]? = some (.cells #[.int .u64 chain, .int .u64 f, .int .u64 t] 75 (0, 0)) /\ Ext w wq) (fun wq => 18446744073709551616 - tailOf wq g1)
   case atStart => exact ⟨f, Nat.le_refl _, hfl, fun j h1 h2 => by omega, HV0o.out, HVo.out, HXo.out⟩
   case round =>
    obtain ⟨t, hft, htl, hall, hv0, hv1, hx⟩ := hrel
    have HALL := zq hall
    have HX := zq hx
    have HV0 := zq hv0
    have HV1 := zq hv1
    have b0 := cZ hv1 0 _ rfl
    have b1 := cZ hv1 1 _ rfl
    have b2 := cZ hv1 2 _ rfl
    have fr2 := freeAt hv1 2
    have hbl := lZ hv1
    have c0 := cZ hv0 0 _ rfl
    have c1 := cZ hv0 1 _ rfl
    have c2 := cZ hv0 2 _ rfl
    have e0 := freeAt hv0 0
    have e1 := freeAt hv0 1
    have e2 := freeAt hv0 2
    have hbl0 := lZ hv0
    have HMEAS := zq (tailOf_at b2)
    clear hall hx hv0 hv1 HVo HV0o HXo
    have OUT : Hid (∀ wz, Upd (At g0) wr wz \/ True -> True) := zq fun _ _ => trivial
    clear OUT
    by_cases hmax : t = 18446744073709551615
    ·have hmz : ¬ ((t : Int) < 18446744073709551615) := by omega
     have HMX := zq hmax
     clear hmax
     go_wp2
     obtain ⟨w3, hw3⟩ : ∃ u, u = (((wr.setCell ⟨g0, 0, none⟩ (.int .u64 chain)).setCell ⟨g0, 1, none⟩ (.int .u64 f)).setCell ⟨g0, 2, none⟩ (.int .u64 t)) := ⟨_, rfl⟩
     rw [<- hw3]
     have hb3 : w3.heap[g0]? = some (.cells #[.int .u64 chain, .int .u64 f, .int .u64 t] 75 (0, 0)) := by
      rw [hw3]
      exact setAt (setAt (setAt HV0.out))
     have hu3 : Upd (At g0) wr w3 := by
      rw [hw3]; exact ((Upd.own _ _ _ _).trans (Upd.own _ _ _ _)).trans (Upd.own _ _ _ _)
     have hx3 : Ext w w3 := HX.out.step hu3 (fun i hi e => by have := HGE.out; unfold At at e; omega)
     refine bodyPost_blk rfl rfl rfl hb3 Tryz.rviewT ?_
     rw [<- HF.out]
     exact ⟨t, rfl, ⟨hft, htl, HALL.out, .inl HMX.out⟩, hx3⟩
    ·have hmz : (t : Int) < 18446744073709551615 := by omega
     have hcon := rhas_any wr _ l 1 chain (t + 1) (G.out.ext HX.out) HLB.out
     rw [show ((t + 1 : Nat) : Int) = (t : Int) + 1 by omega] at hcon
     have HCON := zq hcon
     have HMX := zq hmax
     clear hcon hmax
     go_wp2_with (go_at_call 37; fail)
     refine HCON.out.mono ?_
     rintro e w2' ⟨rfl, hx2'⟩
     have HX2' := zq (HX.out.trans hx2')
     have HV02 := zq (hx2'.at_ HV0.out id)
     have HV12 := zq (hx2'.at_ HV1.out id)
     have d0 := cZ HV12.out 0 _ rfl
     have d1 := cZ HV12.out 1 _ rfl
     have d2 := cZ HV12.out 2 _ rfl
     have dr := freeAt HV12.out 2
     have dl := lZ HV12.out
     have k0 := cZ HV02.out 0 _ rfl
     have k1 := cZ HV02.out 1 _ rfl
     have k2 := cZ HV02.out 2 _ rfl
     have j0 := freeAt HV02.out 0
     have j1 := freeAt HV02.out 1
     have j2 := freeAt HV02.out 2
     have kl := lZ HV02.out
     obtain ⟨q, hq⟩ : ∃ q, q = hasF l 1 chain (t + 1) := ⟨_, rfl⟩
     rw [<- hq]
     have HQ := zq hq
     clear hx2' hq b0 b1 b2 fr2 hbl c0 c1 c2 e0 e1 e2 hbl0
     cases q with
     | false =>
      go_wp2
      obtain ⟨w3, hw3⟩ : ∃ u, u = (((w2'.setCell ⟨g0, 0, none⟩ (.int .u64 chain)).setCell ⟨g0, 1, none⟩ (.int .u64 f)).setCell ⟨g0, 2, none⟩ (.int .u64 t)) := ⟨_, rfl⟩
      rw [<- hw3]
      have hb3 : w3.heap[g0]? = some (.cells #[.int .u64 chain, .int .u64 f, .int .u64 t] 75 (0, 0)) := by
       rw [hw3]
       exact setAt (setAt (setAt HV02.out))
      have hu3 : Upd (At g0) w2' w3 := by
       rw [hw3]; exact ((Upd.own _ _ _ _).trans (Upd.own _ _ _ _)).trans (Upd.own _ _ _ _)
      have hx3 : Ext w w3 := HX2'.out.step hu3 (fun i hi e => by have := HGE.out; unfold At at e; omega)
      refine bodyPost_blk rfl rfl rfl hb3 Tryz.rviewT ?_
      rw [<- HF.out]
      exact ⟨t, rfl, ⟨hft, htl, HALL.out, .inr (by rw [<- HQ.out])⟩, hx3⟩
     | true =>
      go_wp2
      obtain ⟨w3, hw3⟩ : ∃ u, u = w2'.setCell ⟨g1, 2, none⟩ (.int .u64 ((t : Int) + 1)) := ⟨_, rfl⟩
      rw [<- hw3]
      have hb3 : w3.heap[g1]? = some (.cells #[.int .u64 chain, .int .u64 f, .int .u64 ((t + 1 : Nat) : Int)] 75 (0, 0)) := by
       rw [hw3]
       exact setAt HV12.out
      have hu3 : Upd (At g1) w2' w3 := by rw [hw3]; exact Upd.own _ _ _ _
      have hmx := HMX.out
      refine ⟨⟨t + 1, by omega, by omega, ?_, hu3.at_ HV02.out (by have := HGE.out; unfold At; omega), hb3, HX2'.out.step hu3 (fun i hi e => by have := HGE.out; unfold At at e; omega)⟩, ?_⟩
      ·intro j h1 h2
       rcases Nat.lt_or_ge t j with g | g
       ·rw [show j = t + 1 by omega, <- HQ.out]
       ·exact HALL.out j h1 g
      ·rw [HMEAS.out, tailOf_at (cZ hb3 2 _ rfl)]; omega
end Go.Proofs.YtnkmpoplibnflaaGreatDoor
