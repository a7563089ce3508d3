/-
  CONTRACT of view's Of. Condition: the library's variables lie as they are laid.
  CONTRACT of view's Live where nothing is live. No condition.
-/
import Derived.Test.YtfpioijfocmfcaaGreatDoorGYO
import Derived.Maps.OwnSet
import Derived.WalkKit
import Derived.WalkMore
namespace Go.Proofs.YtfpioijfocmfcaaGreatDoor
open Go.RowKit Go.Maps

theorem Tryz.viewT : StructT Tryz.prog 24 3 := ⟨_, Tryz.underlying24, rfl, by kernel_rfl⟩
theorem Tryz.keyU64 : Keyed Tryz.prog 22 := int_keyed Tryz.underlying22
theorem Tryz.zeroUnit (w : World) : (zeroValue 68).run Tryz.prog w = .ok (.agg #[]) w := by kernel_rfl
/-- The tail of the view in block b. -/
def tailOf (w : World) (b : Nat) : Nat := match w.cell? ⟨b, 2, none⟩ with | some v => (intOf v).toNat | none => 0
theorem tailOf_at {w : World} {b t : Nat} (h : w.cell? ⟨b, 2, none⟩ = some (.int .u64 t)) : tailOf w b = t := by unfold tailOf; rw [h]; simp [intOf]
/-- Block b is a set of the chain's slots that l names. -/
def SlotsIs (w : World) (b n chain : Nat) (l : List (List UInt8)) : Prop :=
  ∃ D : DataW Unit, w.ownsMap Tryz.prog 22 unitElem b n D ∧ ∀ k : Nat, Maps.has D (.int .u64 k) = hasF l 1 chain k
theorem slots_made (w : World) (chain : Nat) : SlotsIs (w.alloc (.map #[] 0)) w.heap.size 0 chain [] :=
  ⟨.map [], World.ownsMap_made _ _ _ _, fun k => by rfl⟩
theorem SlotsIs.upd {S : Nat → Prop} {w w' : World} {b n chain : Nat} {l : List (List UInt8)} (h : SlotsIs w b n chain l) (hu : Upd S w w') (hs : ¬ S b) : SlotsIs w' b n chain l := by
  obtain ⟨D, ⟨es, c, hb, h1⟩, h2⟩ := h
  exact ⟨D, ⟨es, c, hu.at_ hb hs, h1⟩, h2⟩
theorem SlotsIs.mono {w : World} {b n chain : Nat} {l : List (List UInt8)} (h : SlotsIs w b n chain l) {n' : Nat} (hn : n ≤ n') : SlotsIs w b n' chain l := by
  obtain ⟨D, h1, h2⟩ := h; exact ⟨D, h1.mono hn, h2⟩
theorem SlotsIs.skip {w : World} {b n chain : Nat} {l : List (List UInt8)} {s : List UInt8} (h : SlotsIs w b n chain l) (hs : ((parseF s).2 && decide ((parseF s).1.kind = 1) && decide ((parseF s).1.doc = chain)) = false) : SlotsIs w b (n + 1) chain (l ++ [s]) := by
  obtain ⟨D, h1, h2⟩ := h
  exact ⟨D, h1.mono (Nat.le_succ _), fun k => by rw [has_snoc, hs, h2]; simp⟩
theorem u64_key (k : Nat) (hk : k < 18446744073709551616) : keyOf Tryz.prog 22 (.int .u64 k) = some (.int .u64 k) :=
  keyOf_int_mk Tryz.underlying22 (by have e1 : IntKind.min .u64 = 0 := rfl; have e2 : IntKind.max .u64 = 18446744073709551615 := rfl; show (decide (IntKind.min .u64 ≤ (k : Int)) && decide ((k : Int) ≤ IntKind.max .u64)) = true; rw [e1, e2]; simp; omega)
theorem has_put {D : DataW Unit} (hD : IsMap D) {l : List (List UInt8)} {chain : Nat} (h2 : ∀ k : Nat, Maps.has D (.int .u64 k) = hasF l 1 chain k) {s : List UInt8} {x : Nm} (hp : parseF s = (x, true)) (hk : x.kind = 1) (hd : x.doc = chain) (k : Nat) :
    Maps.has (D.put (.int .u64 x.n) (.agg [])) (.int .u64 k) = hasF (l ++ [s]) 1 chain k := by
  rw [has_snoc, hp, hk, hd]
  by_cases e : x.n = k
  · subst e
    rw [has_put_same (k := .int .u64 x.n) hD (by simp [WideAt.IsKeyLit])]; simp
  · rw [has_put_other (by intro h; injection h with _ h; omega), h2]; simp [e]
theorem upd_map {w w' : World} {b : Nat} (h : w.grownBy w' (some b)) : Upd (At b) w w' := ⟨h.os, h.tape, h.output, h.size, fun k hk e => h.block k hk (fun e' => e (by cases e'; rfl))⟩

set_option maxRecDepth 100000 in
set_option maxHeartbeats 4000000 in
theorem viewOf_any {S' : Nat → Prop} (w : World) (chain : Nat) (nv : Value) (l : List (List UInt8)) (hr : Texts S' w nv l) (hl : l.length ≤ 1000000) (hb : ∀ s ∈ l, s.length ≤ 1000000) (hE : Env w) :
    Calls Tryz.prog 14 #[.int .u64 chain, nv] w fun e w' => ∃ t, e = .returned (.agg (vwCells ⟨chain, floorF chain l, t⟩)) ∧ IsTail (hasF l 1 chain) (floorF chain l) t ∧ Ext w w' := by
  have hmm := @run_makeMap Tryz.prog
  have G := Lib.hid hr
  have HE := Lib.hid hE
  have HLB := Lib.hid hb
  obtain ⟨na, nc, rfl, -, hm, -⟩ := hr
  unfold maxLen at hm
  clear hE hb
  go_enter Tryz.func14, Tryz.ntmps14
  go_wp2
  go_step3
  go_wp2
  go_loopw [20] (fun t wr => ∃ n : Nat, n ≤ l.length ∧ t = .int .i64 n ∧ wr.heap[w.heap.size]? = some (.cells #[.int .u64 0, .int .u64 0, .int .u64 0] 24 (0, 0)) ∧
      wr.heap[w.heap.size + 1]? = some (.cells #[.int .u64 chain, .int .u64 (floorF chain (l.take n)), .int .u64 0] 24 (0, 0)) ∧ SlotsIs wr (w.heap.size + 2) n chain (l.take n) ∧ Ext w wr) (fun t _ => l.length - (intOf t).toNat)
  case atStart =>
    refine ⟨0, Nat.zero_le _, rfl, ?_, ?_, ?_, ?_⟩
    · exact (Below.heap_alloc _ _ _ (by simp; omega)).trans ((Below.heap_alloc _ _ _ (by simp)).trans (newAt _ _))
    · refine (Below.heap_alloc _ _ _ (by simp)).trans ?_
      have := newAt (w.alloc (.cells #[.int .u64 0, .int .u64 0, .int .u64 0] 24)) (.cells #[.int .u64 chain, .int .u64 0, .int .u64 0] 24)
      simpa [floorF] using this
    · have := slots_made ((w.alloc (.cells #[.int .u64 0, .int .u64 0, .int .u64 0] 24)).alloc (.cells #[.int .u64 chain, .int .u64 0, .int .u64 0] 24)) chain
      simpa using this
    · exact (((Upd.refl _ _).alloc _).alloc _).alloc _
  case round =>
    obtain ⟨n, hn, rfl, hv0, hv1, hsl, hx⟩ := hrel
    have HX := Lib.hid hx
    have HV0 := Lib.hid hv0
    have HV1 := Lib.hid hv1
    have HSS := Lib.hid hsl
    clear hv0 hv1 hsl
    by_cases hlt : n < l.length
    · obtain ⟨b1, o1, c1, e1, -, -, -, hq1⟩ := (G.out.ext hx).addr (by omega)
      cases e1
      have hc := texts_cell hq1 n hlt
      have hsl := HLB.out (l[n]) (List.getElem_mem hlt)
      have hsn : l.take (n + 1) = l.take n ++ [l[n]] := List.take_succ_eq_append_getElem hlt
      have hfs := floor_snoc chain (l.take n) (l[n])
      rw [← hsn] at hfs
      obtain ⟨s, hs⟩ : ∃ s, s = l[n] := ⟨_, rfl⟩
      rw [← hs] at hc hsl hfs hsn
      obtain ⟨x, hxx⟩ : ∃ x, x = (parseF s).1 := ⟨_, rfl⟩
      obtain ⟨ok, hok⟩ : ∃ o, o = (parseF s).2 := ⟨_, rfl⟩
      have hpp : parseF s = (x, ok) := by rw [hxx, hok]
      obtain ⟨f, hf⟩ : ∃ f, f = floorF chain (l.take n) := ⟨_, rfl⟩
      have hfl : f < 18446744073709551616 := by rw [hf]; exact floor_lt _ _
      have hwf : ok = true → WfNm x := fun h => by rw [hxx]; exact (put_parse (by rw [← hok]; exact h)).2.1
      have HWF := Lib.hid hwf
      obtain ⟨xk, xd, xn, xp, xi, xs⟩ := x
      rw [← hf] at hfs HV1
      unfold floorStep at hfs
      rw [hpp] at hfs
      have HFS := Lib.hid hfs
      have HSN := Lib.hid hsn
      have HPP := Lib.hid hpp
      have HSL := Lib.hid hsl
      clear hx hq1 hsl hs hxx hok hpp hf hfs hsn hwf
      go_wp2_with (go_at_call 25; fail)
      refine (parse_lit _ s _ ok HSL.out (HE.out.ext HX.out) HPP.out).mono ?_
      rintro e w5 ⟨rfl, hx5⟩
      have HX5 := Lib.hid (HX.out.trans hx5)
      have HV05 := Lib.hid (hx5.at_ HV0.out id)
      have HV15 := Lib.hid (hx5.at_ HV1.out id)
      have HSS5 := Lib.hid (HSS.out.upd hx5 id)
      clear hx5 hc HV0 HV1 HSS
      obtain ⟨w6, hw6⟩ : ∃ u, u = w5.alloc (.cells (nmCells ⟨xk, xd, xn, xp, xi, xs⟩) 58) := ⟨_, rfl⟩
      have hx6 : Ext w5 w6 := by rw [hw6]; exact (Upd.refl _ _).alloc _
      have HX6 := Lib.hid (HX5.out.trans hx6)
      have HV06 := Lib.hid (hx6.at_ HV05.out id)
      have HV16 := Lib.hid (hx6.at_ HV15.out id)
      have HSS6 := Lib.hid (HSS5.out.upd hx6 id)
      have b0 := cellAt HV15.out 0 _ rfl
      have b1 := cellAt HV15.out 1 _ rfl
      have b2 := cellAt HV15.out 2 _ rfl
      have fr1 := freeAt HV15.out 1
      have hbl := lt_of_heap HV15.out
      have HW6 := Lib.hid hw6
      rw [show nmCells ⟨xk, xd, xn, xp, xi, xs⟩ = #[.int .u8 xk, .int .u64 xd, .int .u64 xn, .int .u64 xp, .int .u64 xi, .int .u64 xs] from rfl] at *
      clear hx6 hw6
      cases ok with
      | false =>
        go_wp2
        rw [← HW6.out]
        go_roundw
        case rel =>
          refine ⟨n + 1, by omega, by go_num, HV06.out, ?_, ?_, HX6.out⟩
          · rw [HFS.out]; exact HV16.out
          · rw [HSN.out]; exact HSS6.out.skip (by rw [HPP.out]; rfl)
        case measure => simp [intOf]; omega
      | true =>
        by_cases hd : xd = chain
        · have g0 : ((xd : Int) != (chain : Int)) = false := by simp [hd]
          have hxn : xn < 18446744073709551616 := (HWF.out rfl).n
          by_cases h2 : xk = 2
          · have g2 : ((xk : Int) == 2) = true := by simp [h2]
            go_wp2
            have hmx : (max (f : Int) (xn : Int)) = ((max f xn : Nat) : Int) := by omega
            obtain ⟨w7, hw7⟩ : ∃ u, u = (w5.setCell ⟨w.heap.size + 1, 1, none⟩ (.int .u64 (max (f : Int) (xn : Int)))).alloc (.cells #[.int .u8 2, .int .u64 chain, .int .u64 xn, .int .u64 xp, .int .u64 xi, .int .u64 xs] 58) := ⟨_, rfl⟩
            rw [← hw7]
            have hu7 : Upd (At (w.heap.size + 1)) w5 w7 := by rw [hw7]; exact (Upd.own _ _ _ _).alloc _
            have hV7 : w7.heap[w.heap.size + 1]? = some (.cells #[.int .u64 chain, .int .u64 (max f xn : Nat), .int .u64 0] 24 (0, 0)) := by
              rw [hw7, ← hmx]
              exact (Upd.refl Nothing _).alloc _ |>.at_ (setAt HV15.out) id
            go_roundw
            case rel =>
              refine ⟨n + 1, by omega, by go_num, hu7.at_ HV05.out (by unfold At; omega), ?_, ?_, HX5.out.step hu7 (fun i hi e => by unfold At at e; omega)⟩
              · rw [HFS.out, if_pos ⟨trivial, h2, hd⟩]; exact hV7
              · rw [HSN.out]; exact (HSS5.out.upd hu7 (by unfold At; omega)).skip (by rw [HPP.out]; simp [h2])
            case measure => simp [intOf]; omega
          · have g2 : ((xk : Int) == 2) = false := by simp; omega
            by_cases h1 : xk = 1
            · have g1 : ((xk : Int) == 1) = true := by simp [h1]
              obtain ⟨D, hown, hhas⟩ := HSS6.out
              have hkey := u64_key xn hxn
              go_wp2_with (first
                | (at_mapUpdate; refine wpList_mapUpdate_own _ rfl _ _ _ 67 rfl 22 68 Tryz.keyU64 Tryz.underlying67 (unitElem (H := Unit)) (w.heap.size + 2) n D rfl ?ho (by unfold maxLen; omega) _ _ _ rfl rfl hkey _ [] unitElem_mk ?_; rotate_left; intro w7 hown7 hg7)
                | go_in)
              case ho =>
                have := HW6.out
                simp only [h1, hd] at this
                rw [this] at hown; exact hown
              have hx7 : Upd (At (w.heap.size + 2)) w6 w7 := by
                have := HW6.out
                simp only [h1, hd] at this
                rw [this]; exact upd_map hg7
              go_wp2
              go_roundw
              case rel =>
                refine ⟨n + 1, by omega, by go_num, hx7.at_ HV06.out (by unfold At; omega), ?_, ?_, HX6.out.step hx7 (fun i hi e => by unfold At at e; omega)⟩
                · rw [HFS.out]; simpa [h2] using hx7.at_ HV16.out (by unfold At; omega)
                · rw [HSN.out]; exact ⟨_, hown7, has_put hown.isMap hhas HPP.out h1 hd⟩
              case measure => simp [intOf]; omega
            · have g1 : ((xk : Int) == 1) = false := by simp; omega
              go_wp2
              have hw6 := HW6.out
              simp only [hd] at hw6
              rw [← hw6]
              go_roundw
              case rel =>
                refine ⟨n + 1, by omega, by go_num, HV06.out, ?_, ?_, HX6.out⟩
                · rw [HFS.out]; simpa [hd, h2] using HV16.out
                · rw [HSN.out]; exact HSS6.out.skip (by rw [HPP.out]; simp [h1])
              case measure => simp [intOf]; omega
        · have g0 : ((xd : Int) != (chain : Int)) = true := by simp; omega
          go_wp2
          rw [← HW6.out]
          go_roundw
          case rel =>
            refine ⟨n + 1, by omega, by go_num, HV06.out, ?_, ?_, HX6.out⟩
            · rw [HFS.out]; simpa [hd] using HV16.out
            · rw [HSN.out]; exact HSS6.out.skip (by rw [HPP.out]; simp [hd])
          case measure => simp [intOf]; omega
    · have hkl : n = l.length := by omega
      rw [hkl, List.take_length] at HV1 HSS
      obtain ⟨f, hf⟩ : ∃ f, f = floorF chain l := ⟨_, rfl⟩
      have hfl : f < 18446744073709551616 := by rw [hf]; exact floor_lt _ _
      rw [← hf] at HV1
      have HF := Lib.hid hf
      have b0 := cellAt HV1.out 0 _ rfl
      have b1 := cellAt HV1.out 1 _ rfl
      have b2 := cellAt HV1.out 2 _ rfl
      have fr2 := freeAt HV1.out 2
      have hbl := lt_of_heap HV1.out
      clear hf hx hkl
      go_wp2
      go_step3
      go_wp2
      obtain ⟨wo, hwo⟩ : ∃ u, u = wr.setCell ⟨w.heap.size + 1, 2, none⟩ (.int .u64 f) := ⟨_, rfl⟩
      rw [← hwo]
      have huo : Upd (At (w.heap.size + 1)) wr wo := by rw [hwo]; exact Upd.own _ _ _ _
      have hVo : wo.heap[w.heap.size + 1]? = some (.cells #[.int .u64 chain, .int .u64 f, .int .u64 f] 24 (0, 0)) := by
        rw [hwo]; exact setAt HV1.out
      have HV0o := Lib.hid (huo.at_ HV0.out (by unfold At; omega))
      have HSo := Lib.hid (HSS.out.upd huo (by unfold At; omega))
      have HXo := Lib.hid (HX.out.step huo (fun i hi e => by unfold At at e; omega))
      have HVo := Lib.hid hVo
      clear hwo huo hVo b0 b1 b2 fr2 hbl HV0 HV1 HSS HX
      go_loopw [] (fun wq => ∃ t : Nat, f ≤ t ∧ t < 18446744073709551616 ∧ (∀ j, f < j → j ≤ t → hasF l 1 chain j = true) ∧ wq.heap[w.heap.size]? = some (.cells #[.int .u64 0, .int .u64 0, .int .u64 0] 24 (0, 0)) ∧
          wq.heap[w.heap.size + 1]? = some (.cells #[.int .u64 chain, .int .u64 f, .int .u64 t] 24 (0, 0)) ∧ SlotsIs wq (w.heap.size + 2) l.length chain l ∧ Ext w wq) (fun wq => 18446744073709551616 - tailOf wq (w.heap.size + 1))
      case atStart => exact ⟨f, Nat.le_refl _, hfl, fun j h1 h2 => by omega, HV0o.out, HVo.out, HSo.out, HXo.out⟩
      case round =>
        obtain ⟨t, hft, htl, hall, hv0, hv1, hss, hx⟩ := hrel
        have HALL := Lib.hid hall
        have HX := Lib.hid hx
        have HV0 := Lib.hid hv0
        have HV1 := Lib.hid hv1
        have b0 := cellAt hv1 0 _ rfl
        have b1 := cellAt hv1 1 _ rfl
        have b2 := cellAt hv1 2 _ rfl
        have fr2 := freeAt hv1 2
        have hbl := lt_of_heap hv1
        have hmeas := tailOf_at b2
        obtain ⟨D, hown, hhas⟩ := hss
        have HOWN := Lib.hid hown
        have HHAS := Lib.hid hhas
        clear hall hx hv0 hv1 hown hhas HSo HXo HVo HV0o
        go_wp2_with (go_at_call 16; fail)
        refine (next_any wr ⟨chain, f, t⟩ htl).mono ?_
        rintro e w2 ⟨rfl, hx2⟩
        have HX2 := Lib.hid (HX.out.trans hx2)
        have HO2 := Lib.hid (show w2.ownsMap Tryz.prog 22 unitElem (w.heap.size + 2) l.length D from by
          obtain ⟨es, c, hb, h1⟩ := HOWN.out; exact ⟨es, c, hx2.at_ hb id, h1⟩)
        have HV02 := Lib.hid (hx2.at_ HV0.out id)
        have HV12 := Lib.hid (hx2.at_ HV1.out id)
        have c0 := cellAt HV12.out 0 _ rfl
        have c1 := cellAt HV12.out 1 _ rfl
        have c2 := cellAt HV12.out 2 _ rfl
        have d0 := cellAt HV02.out 0 _ rfl
        have d1 := cellAt HV02.out 1 _ rfl
        have d2 := cellAt HV02.out 2 _ rfl
        have e0 := freeAt HV02.out 0
        have e1 := freeAt HV02.out 1
        have e2 := freeAt HV02.out 2
        have f2 := freeAt HV12.out 2
        have hbl2 := lt_of_heap HV12.out
        have hbl0 := lt_of_heap HV02.out
        clear hx2 b0 b1 b2 fr2 hbl
        by_cases hmax : t = 18446744073709551615
        · rw [if_pos hmax, show decide (t ≠ 18446744073709551615) = false by simp [hmax]]
          have hkey := u64_key 0 (by decide)
          go_wp2_with (first
            | (at_lookup; refine wpList_lookup_own_unit _ rfl _ _ 67 rfl 22 68 Tryz.keyU64 Tryz.underlying67 (Tryz.zeroUnit _) (w.heap.size + 2) l.length D rfl HO2.out _ _ rfl hkey ?_)
            | go_in)
          rw [Exit.noGoto_ret]
          obtain ⟨w3, hw3⟩ : ∃ u, u = (((w2.setCell ⟨w.heap.size, 0, none⟩ (.int .u64 chain)).setCell ⟨w.heap.size, 1, none⟩ (.int .u64 f)).setCell ⟨w.heap.size, 2, none⟩ (.int .u64 18446744073709551615)).alloc (.cells #[] 68) := ⟨_, rfl⟩
          rw [← hw3]
          have hb3 : w3.heap[w.heap.size]? = some (.cells #[.int .u64 chain, .int .u64 f, .int .u64 18446744073709551615] 24 (0, 0)) := by
            rw [hw3]
            exact ((Upd.refl Nothing _).alloc _).at_ (setAt (setAt (setAt HV02.out))) id
          have hu3 : Upd (At w.heap.size) w2 w3 := by
            rw [hw3]; exact (((Upd.own _ _ _ _).trans (Upd.own _ _ _ _)).trans (Upd.own _ _ _ _)).alloc _
          have hx3 : Ext w w3 := HX2.out.step hu3 (fun i hi e => by unfold At at e; omega)
          refine bodyPost_blk rfl rfl rfl hb3 Tryz.viewT ?_
          rw [← HF.out]
          exact ⟨t, by rw [hmax]; rfl, ⟨hft, htl, HALL.out, .inl hmax⟩, hx3⟩
        · obtain ⟨m, hm⟩ : ∃ m, m = t + 1 := ⟨_, rfl⟩
          rw [if_neg hmax, show decide (t ≠ 18446744073709551615) = true by simp [hmax], ← hm]
          have hml : m < 18446744073709551616 := by omega
          have hkey := u64_key m hml
          have hh := HHAS.out m
          obtain ⟨q, hq⟩ : ∃ q, q = hasF l 1 chain m := ⟨_, rfl⟩
          rw [← hq] at hh
          have HM := Lib.hid hm
          have HMX := Lib.hid hmax
          clear hm hmax
          have HQ := Lib.hid hq
          have HH := Lib.hid hh
          clear hq hh
          go_wp2_with (first
            | (at_lookup; refine wpList_lookup_own_unit _ rfl _ _ 67 rfl 22 68 Tryz.keyU64 Tryz.underlying67 (Tryz.zeroUnit _) (w.heap.size + 2) l.length D rfl HO2.out _ _ rfl hkey ?_)
            | go_in)
          · rename_i hthere
            have hq : q = false := by rw [← HH.out]; simpa using hthere
            rw [Exit.noGoto_ret]
            obtain ⟨w3, hw3⟩ : ∃ u, u = (((w2.setCell ⟨w.heap.size, 0, none⟩ (.int .u64 chain)).setCell ⟨w.heap.size, 1, none⟩ (.int .u64 f)).setCell ⟨w.heap.size, 2, none⟩ (.int .u64 t)).alloc (.cells #[] 68) := ⟨_, rfl⟩
            rw [← hw3]
            have hb3 : w3.heap[w.heap.size]? = some (.cells #[.int .u64 chain, .int .u64 f, .int .u64 t] 24 (0, 0)) := by
              rw [hw3]
              exact ((Upd.refl Nothing _).alloc _).at_ (setAt (setAt (setAt HV02.out))) id
            have hu3 : Upd (At w.heap.size) w2 w3 := by
              rw [hw3]; exact (((Upd.own _ _ _ _).trans (Upd.own _ _ _ _)).trans (Upd.own _ _ _ _)).alloc _
            have hx3 : Ext w w3 := HX2.out.step hu3 (fun i hi e => by unfold At at e; omega)
            refine bodyPost_blk rfl rfl rfl hb3 Tryz.viewT ?_
            rw [← HF.out]
            exact ⟨t, rfl, ⟨hft, htl, HALL.out, .inr (by rw [← HM.out, ← HQ.out, hq])⟩, hx3⟩
          · rename_i hthere
            have hq : q = true := by rw [← HH.out]; simpa using hthere
            obtain ⟨w3, hw3⟩ : ∃ u, u = (w2.setCell ⟨w.heap.size + 1, 2, none⟩ (.int .u64 m)).alloc (.cells #[] 68) := ⟨_, rfl⟩
            rw [← hw3]
            have hb3 : w3.heap[w.heap.size + 1]? = some (.cells #[.int .u64 chain, .int .u64 f, .int .u64 m] 24 (0, 0)) := by
              rw [hw3]
              exact ((Upd.refl Nothing _).alloc _).at_ (setAt HV12.out) id
            have hu3 : Upd (At (w.heap.size + 1)) w2 w3 := by rw [hw3]; exact (Upd.own _ _ _ _).alloc _
            have hm := HM.out
            refine ⟨⟨m, by omega, hml, ?_, hu3.at_ HV02.out (by unfold At; omega), hb3, ?_, HX2.out.step hu3 (fun i hi e => by unfold At at e; omega)⟩, ?_⟩
            · intro j h1 h2
              rcases Nat.lt_or_ge t j with g | g
              · rw [show j = m by omega, ← HQ.out, hq]
              · exact HALL.out j h1 g
            · exact SlotsIs.upd ⟨D, HO2.out, HHAS.out⟩ hu3 (by unfold At; omega)
            · rw [hmeas, tailOf_at (cellAt hb3 2 _ rfl)]; omega
end Go.Proofs.YtfpioijfocmfcaaGreatDoor
namespace Go.Proofs.YtfpioijfocmfcaaGreatDoor
open Go.RowKit

theorem live_nil (w : World) (v : Vw) (h : v.tail ≤ v.floor) : Calls Tryz.prog 18 #[.agg (vwCells v)] w fun e w' => e = .returned (.slice none 0 0) ∧ Ext w w' := by
  show Calls Tryz.prog 18 #[.agg #[.int .u64 v.chain, .int .u64 v.floor, .int .u64 v.tail]] w _
  have h' : ¬ ((v.floor : Int) < (v.tail : Int)) := by omega
  go_enter Tryz.func18, Tryz.ntmps18
  go_wp2
  refine wp_loop_rounds 1 ?_
  rw [rounds_succ]
  go_wp2
  go_ret
  exact ⟨rfl, (Upd.refl _ _).alloc _⟩
end Go.Proofs.YtfpioijfocmfcaaGreatDoor
