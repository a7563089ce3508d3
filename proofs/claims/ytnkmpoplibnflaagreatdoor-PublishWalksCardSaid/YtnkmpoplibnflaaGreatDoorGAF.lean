/-
  CONTRACTS of name.OfSlot, OfBase, Parse at a known text, and of view's Next, Of. Condition: the library's variables lie as they are laid.
  Rows of bytes, compared; the type of bytes.
-/
import Derived.Test.YtnkmpoplibnflaaGreatDoorGAE
import Derived.Maps.OwnSet
import Derived.WalkKit
import Derived.WalkMore
import Derived.Test.YtnkmpoplibnflaaGreatDoorGAA
set_option maxRecDepth 100000
set_option maxHeartbeats 16000000
namespace Go.Proofs.YtnkmpoplibnflaaGreatDoor
open Go.RowKit Go.Maps
def vwCells (v : Vw) : Array Value := #[u64 v.chain, u64 v.floor, u64 v.tail]
theorem z64 : (0 : Nat) < 18446744073709551616 := by decide
theorem ofSlot_any (w : World) (a b : Nat) (ha : a < 18446744073709551616) (hb : b < 18446744073709551616) (ht : Tab w) :
  Calls Tryz.prog 26 #[u64 a, u64 b] w fun e w' => e = .returned (str (putF ⟨1, a, b, 0, 0, 0⟩)) /\ Ext w w' := by
 have hp := put_any w ⟨1, a, b, 0, 0, 0⟩ ⟨by show (1 : Nat) < 256; decide, ha, hb, z64, z64, z64⟩ ht
 have HP := zq hp
 clear hp
 go_enter Tryz.func26, Tryz.ntmps26
 go_wp2_with (go_at_call 31; fail)
 refine HP.out.mono ?_
 rintro e w1 ⟨rfl, hx1⟩
 go_wp2
 go_ret
 exact ⟨rfl, hx1⟩
theorem ofBase_any (w : World) (a b : Nat) (ha : a < 18446744073709551616) (hb : b < 18446744073709551616) (ht : Tab w) :
  Calls Tryz.prog 87 #[u64 a, u64 b] w fun e w' => e = .returned (str (putF ⟨2, a, b, 0, 0, 0⟩)) /\ Ext w w' := by
 have hp := put_any w ⟨2, a, b, 0, 0, 0⟩ ⟨by show (2 : Nat) < 256; decide, ha, hb, z64, z64, z64⟩ ht
 have HP := zq hp
 clear hp
 go_enter Tryz.func87, Tryz.ntmps87
 go_wp2_with (go_at_call 31; fail)
 refine HP.out.mono ?_
 rintro e w1 ⟨rfl, hx1⟩
 go_wp2
 go_ret
 exact ⟨rfl, hx1⟩
theorem parse_lit (w : World) (s : List UInt8) (x : Nm) (ok : Bool) (hs : s.length <= 1000000) (hE : Env w) (hp : parseF s = (x, ok)) :
  Calls Tryz.prog 106 #[str s] w fun e w' => e = .returned (.tuple #[.agg (nmCells x), .bool ok]) /\ Ext w w' := by
 refine (parse_any w s hs hE).mono ?_
 rintro e w' ⟨rfl, hx⟩
 rw [hp]; exact ⟨rfl, hx⟩
theorem next_any (w : World) (v : Vw) (hv : v.tail < 18446744073709551616) : Calls Tryz.prog 107 #[.agg (vwCells v)] w fun e w' => e = .returned (.tuple #[u64 (if v.tail = 18446744073709551615 then 0 else v.tail + 1), .bool (decide (v.tail ≠ 18446744073709551615))]) /\ Ext w w' := by
 show Calls Tryz.prog 107 #[.agg #[.int .u64 v.chain, .int .u64 v.floor, .int .u64 v.tail]] w _
 by_cases h : v.tail = 18446744073709551615
 ·have f0 : ((v.tail : Int) == 18446744073709551615) = true := by simp [h]
  rw [if_pos h, show decide (v.tail ≠ 18446744073709551615) = false by simp [h]]
  clear h
  go_enter Tryz.func107, Tryz.ntmps107
  go_wp2
  go_ret2
  exact ⟨rfl, uZ.alloc _⟩
 ·have f0 : ((v.tail : Int) == 18446744073709551615) = false := by simp; omega
  rw [if_neg h, show decide (v.tail ≠ 18446744073709551615) = true by simp [h]]
  have hlt : (v.tail : Int) + 1 <= 18446744073709551615 := by omega
  clear h
  go_enter Tryz.func107, Tryz.ntmps107
  go_wp2
  go_ret2
  exact ⟨rfl, uZ.alloc _⟩
theorem Tryz.viewT : StructT Tryz.prog 168 3 := ⟨_, Tryz.underlying168, rfl, by kernel_rfl⟩
theorem Tryz.keyU64 : Keyed Tryz.prog 22 := int_keyed Tryz.underlying22
theorem Tryz.zeroUnit (w : World) : (zeroValue 199).run Tryz.prog w = .ok (.agg #[]) w := by kernel_rfl
def tailOf (w : World) (b : Nat) : Nat := match w.cell? ⟨b, 2, none⟩ with | some v => (intOf v).toNat | none => 0
theorem tailOf_at {w : World} {b t : Nat} (h : w.cell? ⟨b, 2, none⟩ = some (.int .u64 t)) : tailOf w b = t := by unfold tailOf; rw [h]; simp [intOf]
def SlotsIs (w : World) (b n chain : Nat) (l : List (List UInt8)) : Prop :=
 ∃ D : DataW Unit, w.ownsMap Tryz.prog 22 unitElem b n D /\ ∀ k : Nat, Maps.has D (.int .u64 k) = hasF l 1 chain k
theorem slots_made (w : World) (chain : Nat) : SlotsIs (w.alloc (.map #[] 0)) w.heap.size 0 chain [] :=
 ⟨.map [], World.ownsMap_made _ _ _ _, fun k => by rfl⟩
theorem SlotsIs.upd {S : Nat -> Prop} {w w' : World} {b n chain : Nat} {l : List (List UInt8)} (h : SlotsIs w b n chain l) (hu : Upd S w w') (hs : ¬ S b) : SlotsIs w' b n chain l := by
 obtain ⟨D, ⟨es, c, hb, h1⟩, h2⟩ := h
 exact ⟨D, ⟨es, c, hu.at_ hb hs, h1⟩, h2⟩
theorem SlotsIs.mono {w : World} {b n chain : Nat} {l : List (List UInt8)} (h : SlotsIs w b n chain l) {n' : Nat} (hn : n <= n') : SlotsIs w b n' chain l := by
 obtain ⟨D, h1, h2⟩ := h; exact ⟨D, h1.mono hn, h2⟩
theorem SlotsIs.skip {w : World} {b n chain : Nat} {l : List (List UInt8)} {s : List UInt8} (h : SlotsIs w b n chain l) (hs : ((parseF s).2 && decide ((parseF s).1.kind = 1) && decide ((parseF s).1.doc = chain)) = false) : SlotsIs w b (n + 1) chain (l ++ [s]) := by
 obtain ⟨D, h1, h2⟩ := h
 exact ⟨D, h1.mono (Nat.le_succ _), fun k => by rw [has_snoc, hs, h2]; simp⟩
theorem u64_key (k : Nat) (hk : k < 18446744073709551616) : keyOf Tryz.prog 22 (.int .u64 k) = some (.int .u64 k) :=
 keyOf_int_mk Tryz.underlying22 (by have e1 : IntKind.min .u64 = 0 := rfl; have e2 : IntKind.max .u64 = 18446744073709551615 := rfl; show (decide (IntKind.min .u64 <= (k : Int)) && decide ((k : Int) <= IntKind.max .u64)) = true; rw [e1, e2]; simp; omega)
theorem has_put {D : DataW Unit} (hD : IsMap D) {l : List (List UInt8)} {chain : Nat} (h2 : ∀ k : Nat, Maps.has D (.int .u64 k) = hasF l 1 chain k) {s : List UInt8} {x : Nm} (hp : parseF s = (x, true)) (hk : x.kind = 1) (hd : x.doc = chain) (k : Nat) :
  Maps.has (D.put (.int .u64 x.n) (.agg [])) (.int .u64 k) = hasF (l ++ [s]) 1 chain k := by
 rw [has_snoc, hp, hk, hd]
 by_cases e : x.n = k
 ·subst e
  rw [has_put_same (k := .int .u64 x.n) hD (by simp [WideAt.IsKeyLit])]; simp
 ·rw [has_put_other (by intro h; injection h with _ h; omega), h2]; simp [e]
theorem upd_map {w w' : World} {b : Nat} (h : w.grownBy w' (some b)) : Upd (At b) w w' := ⟨h.os, h.tape, h.output, h.size, fun k hk e => h.block k hk (fun e' => e (by cases e'; rfl))⟩
theorem viewOf_any {S' : Nat -> Prop} (w : World) (chain : Nat) (nv : Value) (l : List (List UInt8)) (hr : Texts S' w nv l) (hl : l.length <= 1000000) (hb : ∀ s ∈ l, s.length <= 1000000) (hE : Env w) :
  Calls Tryz.prog 85 #[.int .u64 chain, nv] w fun e w' => ∃ t, e = .returned (.agg (vwCells ⟨chain, floorF chain l, t⟩)) /\ IsTail (hasF l 1 chain) (floorF chain l) t /\ Ext w w' := by
 have hmm := @run_makeMap Tryz.prog
 have G := zq hr
 have HE := zq hE
 have HLB := zq hb
 obtain ⟨na, nc, rfl, -, hm, -⟩ := hr
 unfold maxLen at hm
 clear hE hb
 go_enter Tryz.func85, Tryz.ntmps85
 go_wp2
 go_step3
 go_wp2
 go_loopw [20] (fun t wr => ∃ n : Nat, n <= l.length /\ t = .int .i64 n /\ wr.heap[w.heap.size]? = some (.cells #[.int .u64 0, .int .u64 0, .int .u64 0] 168 (0, 0)) ∧
   wr.heap[w.heap.size + 1]? = some (.cells #[.int .u64 chain, .int .u64 (floorF chain (l.take n)), .int .u64 0] 168 (0, 0)) /\ SlotsIs wr (w.heap.size + 2) n chain (l.take n) /\ Ext w wr) (fun t _ => l.length - (intOf t).toNat)
 case atStart =>
  refine ⟨0, Nat.zero_le _, rfl, ?_, ?_, ?_, ?_⟩
  ·exact (Below.heap_alloc _ _ _ (by simp; omega)).trans ((Below.heap_alloc _ _ _ (by simp)).trans (newAt _ _))
  ·refine (Below.heap_alloc _ _ _ (by simp)).trans ?_
   have := newAt (w.alloc (.cells #[.int .u64 0, .int .u64 0, .int .u64 0] 168)) (.cells #[.int .u64 chain, .int .u64 0, .int .u64 0] 168)
   simpa [floorF] using this
  ·have := slots_made ((w.alloc (.cells #[.int .u64 0, .int .u64 0, .int .u64 0] 168)).alloc (.cells #[.int .u64 chain, .int .u64 0, .int .u64 0] 168)) chain
   simpa using this
  ·exact ((uZ.alloc _).alloc _).alloc _
 case round =>
  obtain ⟨n, hn, rfl, hv0, hv1, hsl, hx⟩ := hrel
  have HX := zq hx
  have HV0 := zq hv0
  have HV1 := zq hv1
  have HSS := zq hsl
  clear hv0 hv1 hsl
  by_cases hlt : n < l.length
  ·obtain ⟨b1, o1, c1, e1, -, -, -, hq1⟩ := (G.out.ext hx).addr (by omega)
   cases e1
   have hc := texts_cell hq1 n hlt
   have hsl := HLB.out (l[n]) (List.getElem_mem hlt)
   have hsn : l.take (n + 1) = l.take n ++ [l[n]] := List.take_succ_eq_append_getElem hlt
   have hfs := floor_snoc chain (l.take n) (l[n])
   rw [<- hsn] at hfs
   obtain ⟨s, hs⟩ : ∃ s, s = l[n] := ⟨_, rfl⟩
   rw [<- hs] at hc hsl hfs hsn
   obtain ⟨x, hxx⟩ : ∃ x, x = (parseF s).1 := ⟨_, rfl⟩
   obtain ⟨ok, hok⟩ : ∃ o, o = (parseF s).2 := ⟨_, rfl⟩
   have hpp : parseF s = (x, ok) := by rw [hxx, hok]
   obtain ⟨f, hf⟩ : ∃ f, f = floorF chain (l.take n) := ⟨_, rfl⟩
   have hfl : f < 18446744073709551616 := by rw [hf]; exact floor_lt _ _
   have hwf : ok = true -> WfNm x := fun h => by rw [hxx]; exact (put_parse (by rw [<- hok]; exact h)).2.1
   have HWF := zq hwf
   obtain ⟨xk, xd, xn, xp, xi, xs⟩ := x
   rw [<- hf] at hfs HV1
   unfold floorStep at hfs
   rw [hpp] at hfs
   have HFS := zq hfs
   have HSN := zq hsn
   have HPP := zq hpp
   have HSL := zq hsl
   clear hx hq1 hsl hs hxx hok hpp hf hfs hsn hwf
   go_wp2_with (go_at_call 106; fail)
   refine (parse_lit _ s _ ok HSL.out (HE.out.ext HX.out) HPP.out).mono ?_
   rintro e w5 ⟨rfl, hx5⟩
   have HX5 := zq (HX.out.trans hx5)
   have HV05 := zq (hx5.at_ HV0.out id)
   have HV15 := zq (hx5.at_ HV1.out id)
   have HSS5 := zq (HSS.out.upd hx5 id)
   clear hx5 hc HV0 HV1 HSS
   obtain ⟨w6, hw6⟩ : ∃ u, u = w5.alloc (.cells (nmCells ⟨xk, xd, xn, xp, xi, xs⟩) 78) := ⟨_, rfl⟩
   have hx6 : Ext w5 w6 := by rw [hw6]; exact uZ.alloc _
   have HX6 := zq (HX5.out.trans hx6)
   have HV06 := zq (hx6.at_ HV05.out id)
   have HV16 := zq (hx6.at_ HV15.out id)
   have HSS6 := zq (HSS5.out.upd hx6 id)
   have b0 := cZ HV15.out 0 _ rfl
   have b1 := cZ HV15.out 1 _ rfl
   have b2 := cZ HV15.out 2 _ rfl
   have fr1 := freeAt HV15.out 1
   have hbl := lZ HV15.out
   have HW6 := zq hw6
   rw [show nmCells ⟨xk, xd, xn, xp, xi, xs⟩ = #[.int .u8 xk, .int .u64 xd, .int .u64 xn, .int .u64 xp, .int .u64 xi, .int .u64 xs] from rfl] at *
   clear hx6 hw6
   cases ok with
   | false =>
    go_wp2
    rw [<- HW6.out]
    go_roundw
    case rel =>
     refine ⟨n + 1, by omega, by go_num, HV06.out, ?_, ?_, HX6.out⟩
     ·rw [HFS.out]; exact HV16.out
     ·rw [HSN.out]; exact HSS6.out.skip (by rw [HPP.out]; rfl)
    case measure => simp [intOf]; omega
   | true =>
    by_cases hd : xd = chain
    ·have g0 : ((xd : Int) != (chain : Int)) = false := by simp [hd]
     have hxn : xn < 18446744073709551616 := (HWF.out rfl).n
     by_cases h2 : xk = 2
     ·have g2 : ((xk : Int) == 2) = true := by simp [h2]
      go_wp2
      have hmx : (max (f : Int) (xn : Int)) = ((max f xn : Nat) : Int) := by omega
      obtain ⟨w7, hw7⟩ : ∃ u, u = (w5.setCell ⟨w.heap.size + 1, 1, none⟩ (.int .u64 (max (f : Int) (xn : Int)))).alloc (.cells #[.int .u8 2, .int .u64 chain, .int .u64 xn, .int .u64 xp, .int .u64 xi, .int .u64 xs] 78) := ⟨_, rfl⟩
      rw [<- hw7]
      have hu7 : Upd (At (w.heap.size + 1)) w5 w7 := by rw [hw7]; exact (Upd.own _ _ _ _).alloc _
      have hV7 : w7.heap[w.heap.size + 1]? = some (.cells #[.int .u64 chain, .int .u64 (max f xn : Nat), .int .u64 0] 168 (0, 0)) := by
       rw [hw7, <- hmx]
       exact (Upd.refl Nothing _).alloc _ |>.at_ (setAt HV15.out) id
      go_roundw
      case rel =>
       refine ⟨n + 1, by omega, by go_num, hu7.at_ HV05.out (by unfold At; omega), ?_, ?_, HX5.out.step hu7 (fun i hi e => by unfold At at e; omega)⟩
       ·rw [HFS.out, if_pos ⟨trivial, h2, hd⟩]; exact hV7
       ·rw [HSN.out]; exact (HSS5.out.upd hu7 (by unfold At; omega)).skip (by rw [HPP.out]; simp [h2])
      case measure => simp [intOf]; omega
     ·have g2 : ((xk : Int) == 2) = false := by simp; omega
      by_cases h1 : xk = 1
      ·have g1 : ((xk : Int) == 1) = true := by simp [h1]
       obtain ⟨D, hown, hhas⟩ := HSS6.out
       have hkey := u64_key xn hxn
       go_wp2_with (first
        | (at_mapUpdate; refine wpList_mapUpdate_own _ rfl _ _ _ 196 rfl 22 199 Tryz.keyU64 Tryz.underlying196 (unitElem (H := Unit)) (w.heap.size + 2) n D rfl ?ho (by unfold maxLen; omega) _ _ _ rfl rfl hkey _ [] unitElem_mk ?_; rotate_left; intro w7 hown7 hg7)
        | go_in)
       case ho =>
        have := HW6.out
        simp only [h1, hd] at this
        rw [this] at hown; exact hown
       have hx7 : Upd (At (w.heap.size + 2)) w6 w7 := by
        have := HW6.out
        simp only [h1, hd] at this
        rw [this]; exact upd_map hg7
       go_wp2
       go_roundw
       case rel =>
        refine ⟨n + 1, by omega, by go_num, hx7.at_ HV06.out (by unfold At; omega), ?_, ?_, HX6.out.step hx7 (fun i hi e => by unfold At at e; omega)⟩
        ·rw [HFS.out]; simpa [h2] using hx7.at_ HV16.out (by unfold At; omega)
        ·rw [HSN.out]; exact ⟨_, hown7, has_put hown.isMap hhas HPP.out h1 hd⟩
       case measure => simp [intOf]; omega
      ·have g1 : ((xk : Int) == 1) = false := by simp; omega
       go_wp2
       have hw6 := HW6.out
       simp only [hd] at hw6
       rw [<- hw6]
       go_roundw
       case rel =>
        refine ⟨n + 1, by omega, by go_num, HV06.out, ?_, ?_, HX6.out⟩
        ·rw [HFS.out]; simpa [hd, h2] using HV16.out
        ·rw [HSN.out]; exact HSS6.out.skip (by rw [HPP.out]; simp [h1])
       case measure => simp [intOf]; omega
    ·have g0 : ((xd : Int) != (chain : Int)) = true := by simp; omega
     go_wp2
     rw [<- HW6.out]
     go_roundw
     case rel =>
      refine ⟨n + 1, by omega, by go_num, HV06.out, ?_, ?_, HX6.out⟩
      ·rw [HFS.out]; simpa [hd] using HV16.out
      ·rw [HSN.out]; exact HSS6.out.skip (by rw [HPP.out]; simp [hd])
     case measure => simp [intOf]; omega
  ·have hkl : n = l.length := by omega
   rw [hkl, List.take_length] at HV1 HSS
   obtain ⟨f, hf⟩ : ∃ f, f = floorF chain l := ⟨_, rfl⟩
   have hfl : f < 18446744073709551616 := by rw [hf]; exact floor_lt _ _
   rw [<- hf] at HV1
   have HF := zq hf
   have b0 := cZ HV1.out 0 _ rfl
   have b1 := cZ HV1.out 1 _ rfl
   have b2 := cZ HV1.out 2 _ rfl
   have fr2 := freeAt HV1.out 2
   have hbl := lZ HV1.out
   clear hf hx hkl
   go_wp2
   go_step3
   go_wp2
   obtain ⟨wo, hwo⟩ : ∃ u, u = wr.setCell ⟨w.heap.size + 1, 2, none⟩ (.int .u64 f) := ⟨_, rfl⟩
   rw [<- hwo]
   have huo : Upd (At (w.heap.size + 1)) wr wo := by rw [hwo]; exact Upd.own _ _ _ _
   have hVo : wo.heap[w.heap.size + 1]? = some (.cells #[.int .u64 chain, .int .u64 f, .int .u64 f] 168 (0, 0)) := by
    rw [hwo]; exact setAt HV1.out
   have HV0o := zq (huo.at_ HV0.out (by unfold At; omega))
   have HSo := zq (HSS.out.upd huo (by unfold At; omega))
   have HXo := zq (HX.out.step huo (fun i hi e => by unfold At at e; omega))
   have HVo := zq hVo
   clear hwo huo hVo b0 b1 b2 fr2 hbl HV0 HV1 HSS HX
   go_loopw [] (fun wq => ∃ t : Nat, f <= t /\ t < 18446744073709551616 /\ (∀ j, f < j -> j <= t -> hasF l 1 chain j = true) /\ wq.heap[w.heap.size]? = some (.cells #[.int .u64 0, .int .u64 0, .int .u64 0] 168 (0, 0)) ∧
     wq.heap[w.heap.size + 1]? = some (.cells #[.int .u64 chain, .int .u64 f, .int .u64 t] 168 (0, 0)) /\ SlotsIs wq (w.heap.size + 2) l.length chain l /\ Ext w wq) (fun wq => 18446744073709551616 - tailOf wq (w.heap.size + 1))
   case atStart => exact ⟨f, Nat.le_refl _, hfl, fun j h1 h2 => by omega, HV0o.out, HVo.out, HSo.out, HXo.out⟩
   case round =>
    obtain ⟨t, hft, htl, hall, hv0, hv1, hss, hx⟩ := hrel
    have HALL := zq hall
    have HX := zq hx
    have HV0 := zq hv0
    have HV1 := zq hv1
    have b0 := cZ hv1 0 _ rfl
    have b1 := cZ hv1 1 _ rfl
    have b2 := cZ hv1 2 _ rfl
    have fr2 := freeAt hv1 2
    have hbl := lZ hv1
    have hmeas := tailOf_at b2
    obtain ⟨D, hown, hhas⟩ := hss
    have HOWN := zq hown
    have HHAS := zq hhas
    clear hall hx hv0 hv1 hown hhas HSo HXo HVo HV0o
    go_wp2_with (go_at_call 107; fail)
    refine (next_any wr ⟨chain, f, t⟩ htl).mono ?_
    rintro e w2 ⟨rfl, hx2⟩
    have HX2 := zq (HX.out.trans hx2)
    have HO2 := zq (show w2.ownsMap Tryz.prog 22 unitElem (w.heap.size + 2) l.length D from by
     obtain ⟨es, c, hb, h1⟩ := HOWN.out; exact ⟨es, c, hx2.at_ hb id, h1⟩)
    have HV02 := zq (hx2.at_ HV0.out id)
    have HV12 := zq (hx2.at_ HV1.out id)
    have c0 := cZ HV12.out 0 _ rfl
    have c1 := cZ HV12.out 1 _ rfl
    have c2 := cZ HV12.out 2 _ rfl
    have d0 := cZ HV02.out 0 _ rfl
    have d1 := cZ HV02.out 1 _ rfl
    have d2 := cZ HV02.out 2 _ rfl
    have e0 := freeAt HV02.out 0
    have e1 := freeAt HV02.out 1
    have e2 := freeAt HV02.out 2
    have f2 := freeAt HV12.out 2
    have hbl2 := lZ HV12.out
    have hbl0 := lZ HV02.out
    clear hx2 b0 b1 b2 fr2 hbl
    by_cases hmax : t = 18446744073709551615
    ·rw [if_pos hmax, show decide (t ≠ 18446744073709551615) = false by simp [hmax]]
     have hkey := u64_key 0 (by decide)
     go_wp2_with (first
      | (at_lookup; refine wpList_lookup_own_unit _ rfl _ _ 196 rfl 22 199 Tryz.keyU64 Tryz.underlying196 (Tryz.zeroUnit _) (w.heap.size + 2) l.length D rfl HO2.out _ _ rfl hkey ?_)
      | go_in)
     rw [Exit.noGoto_ret]
     obtain ⟨w3, hw3⟩ : ∃ u, u = (((w2.setCell ⟨w.heap.size, 0, none⟩ (.int .u64 chain)).setCell ⟨w.heap.size, 1, none⟩ (.int .u64 f)).setCell ⟨w.heap.size, 2, none⟩ (.int .u64 18446744073709551615)).alloc (.cells #[] 199) := ⟨_, rfl⟩
     rw [<- hw3]
     have hb3 : w3.heap[w.heap.size]? = some (.cells #[.int .u64 chain, .int .u64 f, .int .u64 18446744073709551615] 168 (0, 0)) := by
      rw [hw3]
      exact ((Upd.refl Nothing _).alloc _).at_ (setAt (setAt (setAt HV02.out))) id
     have hu3 : Upd (At w.heap.size) w2 w3 := by
      rw [hw3]; exact (((Upd.own _ _ _ _).trans (Upd.own _ _ _ _)).trans (Upd.own _ _ _ _)).alloc _
     have hx3 : Ext w w3 := HX2.out.step hu3 (fun i hi e => by unfold At at e; omega)
     refine bodyPost_blk rfl rfl rfl hb3 Tryz.viewT ?_
     rw [<- HF.out]
     exact ⟨t, by rw [hmax]; rfl, ⟨hft, htl, HALL.out, .inl hmax⟩, hx3⟩
    ·obtain ⟨m, hm⟩ : ∃ m, m = t + 1 := ⟨_, rfl⟩
     rw [if_neg hmax, show decide (t ≠ 18446744073709551615) = true by simp [hmax], <- hm]
     have hml : m < 18446744073709551616 := by omega
     have hkey := u64_key m hml
     have hh := HHAS.out m
     obtain ⟨q, hq⟩ : ∃ q, q = hasF l 1 chain m := ⟨_, rfl⟩
     rw [<- hq] at hh
     have HM := zq hm
     have HMX := zq hmax
     clear hm hmax
     have HQ := zq hq
     have HH := zq hh
     clear hq hh
     go_wp2_with (first
      | (at_lookup; refine wpList_lookup_own_unit _ rfl _ _ 196 rfl 22 199 Tryz.keyU64 Tryz.underlying196 (Tryz.zeroUnit _) (w.heap.size + 2) l.length D rfl HO2.out _ _ rfl hkey ?_)
      | go_in)
     ·rename_i hthere
      have hq : q = false := by rw [<- HH.out]; simpa using hthere
      rw [Exit.noGoto_ret]
      obtain ⟨w3, hw3⟩ : ∃ u, u = (((w2.setCell ⟨w.heap.size, 0, none⟩ (.int .u64 chain)).setCell ⟨w.heap.size, 1, none⟩ (.int .u64 f)).setCell ⟨w.heap.size, 2, none⟩ (.int .u64 t)).alloc (.cells #[] 199) := ⟨_, rfl⟩
      rw [<- hw3]
      have hb3 : w3.heap[w.heap.size]? = some (.cells #[.int .u64 chain, .int .u64 f, .int .u64 t] 168 (0, 0)) := by
       rw [hw3]
       exact ((Upd.refl Nothing _).alloc _).at_ (setAt (setAt (setAt HV02.out))) id
      have hu3 : Upd (At w.heap.size) w2 w3 := by
       rw [hw3]; exact (((Upd.own _ _ _ _).trans (Upd.own _ _ _ _)).trans (Upd.own _ _ _ _)).alloc _
      have hx3 : Ext w w3 := HX2.out.step hu3 (fun i hi e => by unfold At at e; omega)
      refine bodyPost_blk rfl rfl rfl hb3 Tryz.viewT ?_
      rw [<- HF.out]
      exact ⟨t, rfl, ⟨hft, htl, HALL.out, .inr (by rw [<- HM.out, <- HQ.out, hq])⟩, hx3⟩
     ·rename_i hthere
      have hq : q = true := by rw [<- HH.out]; simpa using hthere
      obtain ⟨w3, hw3⟩ : ∃ u, u = (w2.setCell ⟨w.heap.size + 1, 2, none⟩ (.int .u64 m)).alloc (.cells #[] 199) := ⟨_, rfl⟩
      rw [<- hw3]
      have hb3 : w3.heap[w.heap.size + 1]? = some (.cells #[.int .u64 chain, .int .u64 f, .int .u64 m] 168 (0, 0)) := by
       rw [hw3]
       exact ((Upd.refl Nothing _).alloc _).at_ (setAt HV12.out) id
      have hu3 : Upd (At (w.heap.size + 1)) w2 w3 := by rw [hw3]; exact (Upd.own _ _ _ _).alloc _
      have hm := HM.out
      refine ⟨⟨m, by omega, hml, ?_, hu3.at_ HV02.out (by unfold At; omega), hb3, ?_, HX2.out.step hu3 (fun i hi e => by unfold At at e; omega)⟩, ?_⟩
      ·intro j h1 h2
       rcases Nat.lt_or_ge t j with g | g
       ·rw [show j = m by omega, <- HQ.out, hq]
       ·exact HALL.out j h1 g
      ·exact SlotsIs.upd ⟨D, HO2.out, HHAS.out⟩ hu3 (by unfold At; omega)
      ·rw [hmeas, tailOf_at (cZ hb3 2 _ rfl)]; omega
end Go.Proofs.YtnkmpoplibnflaaGreatDoor
set_option maxRecDepth 100000
set_option maxHeartbeats 16000000
namespace Go.Proofs.YtnkmpoplibnflaaGreatDoor.Wk
open Go.Proofs.YtnkmpoplibnflaaGreatDoor Go.RowKit
theorem beq_len_ne {l1 l2 : List UInt8} (h : l1.length ≠ l2.length) : (l1 == l2) = false := by
 rw [beq_eq_false_iff_ne]; intro e; exact h (by rw [e])
theorem take_ext {l1 l2 : List UInt8} {k : Nat} (h1 : k < l1.length) (h2 : k < l2.length) (h : l1.take k = l2.take k) (e : (l1[k].toNat : Int) = l2[k].toNat) : l1.take (k+1) = l2.take (k+1) := by
 rw [List.take_succ_eq_append_getElem h1, List.take_succ_eq_append_getElem h2, h]
 congr 2
 exact UInt8.toNat_inj.1 (by omega)
theorem beq_of_take {l1 l2 : List UInt8} (hl : l1.length = l2.length) (h : l1.take l1.length = l2.take l1.length) : (l1 == l2) = true := by
 rw [beq_iff_eq]; rw [List.take_length] at h; rw [h, hl, List.take_length]
theorem beq_ne_at {l1 l2 : List UInt8} {k : Nat} (h1 : k < l1.length) (h2 : k < l2.length) (e : ¬ (l1[k].toNat : Int) = l2[k].toNat) : (l1 == l2) = false := by
 rw [beq_eq_false_iff_ne]; intro e'; subst e'; exact e rfl
theorem sameBytes_any {S1 S2 : Nat -> Prop} (w : World) (v1 v2 : Value) (l1 l2 : List UInt8) (h1 : Bytes S1 w v1 l1) (h2 : Bytes S2 w v2 l2) :
  Calls Tryz.prog 24 #[v1, v2] w fun e w' => e = .returned (.bool (l1 == l2)) /\ Ext w w' := by
 have g1 := h1.addr
 have g2 := h2.addr
 obtain ⟨a1, c1, rfl, hn1, hm1, -⟩ := h1
 obtain ⟨a2, c2, rfl, hn2, hm2, -⟩ := h2
 unfold maxLen at hm1 hm2
 by_cases hl : l1.length = l2.length
 ·have hb : ((l1.length : Int) != (l2.length : Int)) = false := by simp [hl]
  have HL := zq hl
  have G1 := zq g1
  have G2 := zq g2
  clear hl g1 g2
  go_enter Tryz.func24, Tryz.ntmps24
  go_wp2
  go_loopw [5] (fun i wr => ∃ k : Nat, k <= l1.length /\ i = .int .i64 k /\ l1.take k = l2.take k /\ Ext w wr)
   (fun i _ => l1.length - (intOf i).toNat)
  case atStart => exact ⟨0, Nat.zero_le _, rfl, rfl, uZ⟩
  case round =>
   obtain ⟨k, hk, rfl, ht, hx⟩ := hrel
   have HT := zq ht
   clear ht
   by_cases hlt : k < l1.length
   ·have hlt2 : k < l2.length := by rw [<- HL.out]; exact hlt
    obtain ⟨b1, o1, c1', e1, -, -, -, hc1⟩ := G1.out (by omega)
    obtain ⟨b2, o2, c2', e2, -, -, -, hc2⟩ := G2.out (by omega)
    cases e1; cases e2
    have q1 := hx.cell (bytes_cell hc1 k hlt) id
    have q2 := hx.cell (bytes_cell hc2 k hlt2) id
    clear hc1 hc2
    by_cases he : (l1[k].toNat : Int) = l2[k].toNat
    ·have HE := zq he
     have hb2 : ((l1[k].toNat : Int) != (l2[k].toNat : Int)) = false := by simp [he]
     clear he
     go_wp2
     go_quiet (fail)
     go_wp2
     go_roundw
     case rel => exact ⟨k + 1, by omega, by go_num, take_ext hlt hlt2 HT.out HE.out, hx.drewN _⟩
     case measure => simp [intOf]; omega
    ·have hb2 : ((l1[k].toNat : Int) != (l2[k].toNat : Int)) = true := by simpa using he
     have HE := zq he
     clear he
     go_wp2
     go_quiet (fail)
     go_wp2
     go_ret
     exact ⟨by rw [beq_ne_at hlt hlt2 HE.out]; rfl, hx.drewN _⟩
   ·go_wp2
    go_ret
    have hkl : k = l1.length := by omega
    subst hkl
    exact ⟨by rw [beq_of_take HL.out HT.out]; rfl, hx⟩
 ·have hb : ((l1.length : Int) != (l2.length : Int)) = true := by simp; omega
  have HL := zq hl
  clear hl g1 g2
  go_enter Tryz.func24, Tryz.ntmps24
  go_wp2
  go_ret
  exact ⟨by rw [beq_len_ne HL.out]; rfl, uZ⟩
theorem Tryz.bytesT : SliceT Tryz.prog 23 5 1 1 := sliceT_of Tryz.underlying23 (by kernel_rfl) (by decide)
end Go.Proofs.YtnkmpoplibnflaaGreatDoor.Wk
