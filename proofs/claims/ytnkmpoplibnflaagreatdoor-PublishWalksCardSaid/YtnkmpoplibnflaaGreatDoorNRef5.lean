/-
  CONTRACT of the reference's Parse. Condition: a text of few bytes.
-/
import Derived.Test.YtnkmpoplibnflaaGreatDoorGBC
import Derived.Great.BuildSlice
set_option maxRecDepth 100000
set_option maxHeartbeats 16000000
namespace Go.Proofs.YtnkmpoplibnflaaGreatDoor
open Go.RowKit
theorem wp_buildStructs {P : Program} {o : Oper} {a : Act} {w : World} {K : Act -> World -> Prop} {Q : Exit -> Act -> World -> Prop} (t e : TypeId) (len s bytes : Nat) (parts : Array (Nat × Operand)) (ho : o.op = .buildSlice t len parts) (T : SliceT P t e s bytes)
  (vs : List Value) (hlen : vs.length = len) (hpos : 0 < len) (hsmall : len * s <= 2 ^ 24) (h1 : ∀ v ∈ vs, v.cells.size = s) (hparts : (parts.map fun (i, x) => (i, a.eval x)).toList = (vs.zipIdx 0).map fun x => (x.2, x.1))
  (h : K (a.put o.dst (.slice (some ⟨w.heap.size, 0, none⟩) len len)) (w.alloc (.cells (vs.flatMap fun v => v.cells.toList).toArray e))) : o.wp P a w K Q := by
 obtain ⟨hu, ⟨i, z, hi, hz, h2, h3, h4⟩, hp⟩ := T
 subst h2
 have hpp : 0 < len * i.size := Nat.mul_pos hpos hp
 refine wp_buildSlice t e len parts ho _ i z hu hi hz (by omega) (by omega) ?_ h
 rw [hparts]
 exact Great.fill_whole hp vs _ h1 (by simp [hlen])
theorem Tryz.rnamesT : SliceT Tryz.prog 113 73 6 48 := sliceT_of Tryz.underlying113 (by kernel_rfl) (by decide)
def allCells (l : List Nat) : List Value := (nmCells (ofF 1 l)).toList ++ ((nmCells (ofF 2 l)).toList ++ ((nmCells (ofF 3 l)).toList ++ (nmCells (ofF 4 l)).toList))
abbrev AllRow (l : List Nat) (v : Value) (w : World) : Prop := Row (fun _ => True) w v 4 (allCells l)
theorem AllRow.ext {l : List Nat} {v : Value} {w w' : World} (h : AllRow l v w) (hu : Ext w w') : AllRow l v w' := Row.ext h hu
theorem all_row (w : World) (l : List Nat) : AllRow l (.slice (some ⟨w.heap.size, 0, none⟩) 4 4) (w.alloc (.cells (allCells l).toArray 73)) := by
 have := (row_new w (allCells l).toArray 73 4 w.heap.size (by decide) rfl).mono (T := fun _ => True) (fun _ _ => trivial)
 simpa using this
theorem Tryz.numsT : SliceT Tryz.prog 80 22 1 8 := sliceT_of Tryz.underlying80 (by kernel_rfl) (by decide)
theorem getD_zeros (dn : List Nat) (i : Nat) : (dn ++ [0, 0]).getD i 0 = dn.getD i 0 := by
 simp only [List.getD_eq_getElem?_getD]
 by_cases h : i < dn.length
 ·rw [List.getElem?_append_left h]
 ·rw [List.getElem?_append_right (by omega), List.getElem?_eq_none (l := dn) (by omega)]
  have : i - dn.length = 0 \/ i - dn.length = 1 \/ 2 <= i - dn.length := by omega
  rcases this with e | e | e
  ·rw [e]; rfl
  ·rw [e]; rfl
  ·rw [List.getElem?_eq_none (by simpa using e)]
theorem ofF_zeros (k : Nat) (dn : List Nat) : ofF k (dn ++ [0, 0]) = ofF k dn := by
 unfold ofF; simp only [getD_zeros]
theorem ofF_wf {k : Nat} (hk : k <= 4) {l : List Nat} (h : ∀ u ∈ l, u < 18446744073709551616) : WfNm (ofF k l) := by
 have hg : ∀ i, l.getD i 0 < 18446744073709551616 := fun i => by
  rw [List.getD_eq_getElem?_getD]
  by_cases hi : i < l.length
  ·rw [List.getElem?_eq_getElem hi]; exact h _ (List.getElem_mem hi)
  ·rw [List.getElem?_eq_none (by omega)]; decide
 have z : (0 : Nat) < 18446744073709551616 := by decide
 unfold ofF
 split
 ·exact ⟨by show k < 256; omega, hg 0, hg 1, z, z, z⟩
 ·split
  ·exact ⟨by show k < 256; omega, z, z, hg 0, hg 1, hg 2⟩
  ·exact ⟨by show k < 256; omega, hg 0, z, hg 1, hg 2, hg 3⟩
theorem parse_short {s : List UInt8} {w0 : List UInt8} {ws : List (List UInt8)} (h : splitF s = w0 :: ws) (hl : ws.length < 2 \/ 4 < ws.length) : parseF s = (Nm.zero, false) := by
 unfold parseF; rw [h]
 rcases parseW_cases w0 ws with ⟨l, -, -, h2, -⟩ | hp
 ·have := countF_le (kindF w0); omega
 ·exact hp
theorem parse_nums {s : List UInt8} {w0 : List UInt8} {ws : List (List UInt8)} (h : splitF s = w0 :: ws) (hn : numsP ws = none) : parseF s = (Nm.zero, false) := by
 unfold parseF; rw [h]
 rcases parseW_cases w0 ws with ⟨l, h1, -⟩ | hp
 ·rw [hn] at h1; cases h1
 ·exact hp
theorem put_ne {x : Nm} {s : List UInt8} (h : putF x = s) (hs : s ≠ []) : mayF x = true := by
 cases hm : mayF x with
 | true => rfl
 | false => unfold putF at h; rw [hm] at h; exact absurd h.symm hs
theorem parse_try {s : List UInt8} {w0 : List UInt8} {ws : List (List UInt8)} (h : splitF s = w0 :: ws) {dn : List Nat} (hn : numsP ws = some dn) (hno : ∀ k, 1 <= k -> k <= 4 -> putF (ofF k dn) ≠ s) : parseF s = (Nm.zero, false) := by
 cases hp : (parseF s).2 with
 | false => exact Prod.ext (parse_bad hp) hp
 | true =>
  obtain ⟨h1, h2, h3⟩ := put_parse hp
  obtain ⟨k1, k2, k3⟩ := mayF_iff.1 h1
  have hw := split_put h1
  rw [h3, h] at hw
  unfold wordsF at hw
  injection hw with _ hw
  rw [hw, numsP_digits _ (numsF_lt h2)] at hn
  cases hn
  exact absurd (by rw [k3]; exact h3) (hno _ k1 k2)
def npVal (l : List Nat) (gl m cap : Nat) : Nat -> Value
 | 0 => .slice (some ⟨gl, 0, none⟩) m cap
 | 1 => .pointer (some ⟨gl, 0, none⟩)
 | 2 => u64 (l.getD 0 0)
 | 3 => .slice (some ⟨gl, 0, none⟩) m cap
 | 4 => .pointer (some ⟨gl, 1, none⟩)
 | 5 => u64 (l.getD 1 0)
 | 6 => .agg (nmCells (ofF 1 l))
 | 7 => .slice (some ⟨gl, 0, none⟩) m cap
 | 8 => .pointer (some ⟨gl, 0, none⟩)
 | 9 => u64 (l.getD 0 0)
 | 10 => .slice (some ⟨gl, 0, none⟩) m cap
 | 11 => .pointer (some ⟨gl, 1, none⟩)
 | 12 => u64 (l.getD 1 0)
 | 13 => .agg (nmCells (ofF 2 l))
 | 14 => .slice (some ⟨gl, 0, none⟩) m cap
 | 15 => .pointer (some ⟨gl, 0, none⟩)
 | 16 => u64 (l.getD 0 0)
 | 17 => .slice (some ⟨gl, 0, none⟩) m cap
 | 18 => .pointer (some ⟨gl, 1, none⟩)
 | 19 => u64 (l.getD 1 0)
 | 20 => .slice (some ⟨gl, 0, none⟩) m cap
 | 21 => .pointer (some ⟨gl, 2, none⟩)
 | 22 => u64 (l.getD 2 0)
 | 23 => .agg (nmCells (ofF 3 l))
 | 24 => .slice (some ⟨gl, 0, none⟩) m cap
 | 25 => .pointer (some ⟨gl, 0, none⟩)
 | 26 => u64 (l.getD 0 0)
 | 27 => .slice (some ⟨gl, 0, none⟩) m cap
 | 28 => .pointer (some ⟨gl, 1, none⟩)
 | 29 => u64 (l.getD 1 0)
 | 30 => .slice (some ⟨gl, 0, none⟩) m cap
 | 31 => .pointer (some ⟨gl, 2, none⟩)
 | 32 => u64 (l.getD 2 0)
 | 33 => .slice (some ⟨gl, 0, none⟩) m cap
 | 34 => .pointer (some ⟨gl, 3, none⟩)
 | 35 => u64 (l.getD 3 0)
 | 36 => .agg (nmCells (ofF 4 l))
 | _ => undef
def npDst (i : Nat) : Tmp := if i = 38 then 9 else 46 + i
theorem npDst_ne {j t : Nat} (ht : t = 5) (e : npDst j = t) : False := by
 unfold npDst at e
 have e : (if j = 38 then 9 else 46 + j : Nat) = t := e
 rcases ht with rfl <;> (repeat' (split at e)) <;> omega
def npPhi (l : List Nat) (gl m cap : Nat) (i : Nat) (v : Value) (w : World) : Prop := if i = 37 then AllRow l v w else if i = 38 then AllRow l v w else v = npVal l gl m cap i
theorem npPhi.ext {l : List Nat} {gl m cap : Nat} {i : Nat} {v : Value} {w w' : World} (h : npPhi l gl m cap i v w) (hu : Ext w w') : npPhi l gl m cap i v w' := by
 unfold npPhi at h ⊢
 by_cases c : i = 37
 ·rw [if_pos c] at h ⊢; exact h.ext hu
 ·rw [if_neg c] at h ⊢
  by_cases c : i = 38
  ·rw [if_pos c] at h ⊢; exact h.ext hu
  ·rw [if_neg c] at h ⊢
   exact h
theorem all_at {l : List Nat} {w : World} {v : Value} (h : AllRow l v w) {k : Nat} (hk : k < 4) : ∃ b o c, v = .slice (some ⟨b, o, none⟩) 4 c /\ 4 <= c /\ c <= maxLen /\ w.rangeAt b (o + k * 6) (nmCells (ofF (k + 1) l)).toList := by
 obtain ⟨b, o, c, e, -, h1, h2, hq⟩ := h.addr (by decide)
 refine ⟨b, o, c, e, h1, h2, fun j u hj => ?_⟩
 have hj6 : j < 6 := by have := (List.getElem?_eq_some_iff.1 hj).1; simpa [nmCells] using this
 rw [Nat.add_assoc]
 apply hq
 have e : k = 0 \/ k = 1 \/ k = 2 \/ k = 3 := by omega
 have e2 : j = 0 \/ j = 1 \/ j = 2 \/ j = 3 \/ j = 4 \/ j = 5 := by omega
 rcases e with rfl | rfl | rfl | rfl <;> rcases e2 with rfl | rfl | rfl | rfl | rfl | rfl <;> exact hj
theorem rparse_any (w : World) (s : List UInt8) (hs : s.length <= 1000000) :
  Calls Tryz.prog 36 #[str s] w (ParsePost s w) := by
 obtain ⟨w0, ws, hsp⟩ := splitF_cons s
 have hlb : ws.length <= 1000000 := by have := splitF_len s; rw [hsp] at this; simp at this; omega
 have HSP := zq hsp
 have HLB := zq hlb
 have HS := zq hs
 have hx0 : Ext w (w.alloc (.cells (nmCells Nm.zero) 73)) := uZ.alloc _
 have hb0 := newAt w (.cells (nmCells Nm.zero) 73)
 obtain ⟨wa, hwa⟩ : ∃ u, u = w.alloc (.cells (nmCells Nm.zero) 73) := ⟨_, rfl⟩
 obtain ⟨g2, hg2⟩ : ∃ u, u = w.heap.size := ⟨_, rfl⟩
 rw [<- hwa] at hx0 hb0
 rw [<- hg2] at hb0
 have HX0 := zq hx0
 have HR0 := zq hb0
 have HWA := zq hwa
 have HG2 := zq hg2
 clear hsp hlb hs hx0 hb0 hwa hg2
 go_enter Tryz.func36, Tryz.ntmps36
 go_upto_region 1 with (fail)
 rw [show w.alloc (.cells #[.int .u8 0, .int .u64 0, .int .u64 0, .int .u64 0, .int .u64 0, .int .u64 0] 73) = wa from HWA.out.symm, show w.heap.size = g2 from HG2.out.symm]
 go_wp2_with (go_at_call 48; fail)
 refine (rsplit_any wa s HS.out).mono ?_
 rintro e w1 ⟨v1, rfl, hown, hx1⟩
 rw [HSP.out] at hown
 have hrow := Row.of_owns hown
 obtain ⟨a4, n4, c4, rfl⟩ := ownsForm hown
 obtain ⟨b4, o4, c4', e4, -, -, hc4, -⟩ := hrow.addr (by simp)
 cases e4
 have HROW1 := zq hrow
 have HX1 := zq (HX0.out.trans hx1)
 have HR1 := zq (hx1.at_ HR0.out id)
 have hg21 : g2 < w1.heap.size := lZ HR1.out
 have HG21 := zq hg21
 obtain ⟨B, hB⟩ : ∃ B, B = w1.heap.size := ⟨_, rfl⟩
 have HB := zq hB
 have hlen : (w0 :: ws).length = ws.length + 1 := rfl
 rw [hlen]
 clear hown hrow hx1 hg21 hlen hB
 unfold maxLen at hc4
 go_wp2
 go_loopw [5, 6] (fun v t wr => ∃ (k : Nat) (dn : List Nat), k <= ws.length /\ t = .int .i64 ((k : Int) + 1) /\ dn.length = k /\ numsP (ws.take k) = some dn /\ wr.ownsRow B 22 1 v k (dn.map u64) /\ Ext w1 wr) (fun _ t _ => ws.length + 1 - (intOf t).toNat)
 case atStart => exact ⟨0, [], Nat.zero_le _, rfl, rfl, rfl, World.ownsRow_nil _ _ _ _, uZ⟩
 case round =>
  obtain ⟨k, dn, hk, rfl, hdl, hnp, hown, hx⟩ := hrel
  have HX := zq hx
  have HDL := zq hdl
  have HNP := zq hnp
  have HOWN := zq hown
  have HRR := zq (hx.at_ HR1.out id)
  have HXW := zq (HX1.out.trans hx)
  have hlbb := HLB.out
  by_cases hlt : k < ws.length
  ·obtain ⟨b1, o1, c1, e1, -, -, -, hq1⟩ := (HROW1.out.ext hx).addr (by simp)
   cases e1
   have hc := texts_cell (l := w0 :: ws) hq1 (k + 1) (by simp; omega)
   simp only [List.getElem_cons_succ] at hc
   have hxl : (ws[k]).length <= 1000000 := by
    have := split_len s (ws[k]) (by rw [HSP.out]; simp)
    have := HS.out; omega
   have hsn : ws.take (k + 1) = ws.take k ++ [ws[k]] := List.take_succ_eq_append_getElem hlt
   have hbad := numsP_bad (ws := ws) hlt
   obtain ⟨x, hxe⟩ : ∃ x, x = ws[k] := ⟨_, rfl⟩
   rw [<- hxe] at hc hxl hsn hbad
   have HSN := zq hsn
   have HBAD := zq (show numF x = none -> parseF s = (Nm.zero, false) from fun h => parse_nums HSP.out (hbad h))
   have hv := numF_val x
   obtain ⟨hv1, hv2⟩ := hv
   obtain ⟨u, hu⟩ : ∃ u, u = valF x := ⟨_, rfl⟩
   have hu64 : u < 18446744073709551616 := by rw [hu]; exact valF_lt x
   have hok : okF x = true -> numF x = some u := fun h => by
    rw [hu]; apply hv1.1
    unfold okF eqB at h; simpa using h
   have hno : okF x = false -> numF x = none := fun h => by
    cases hq : numF x with
    | none => rfl
    | some t =>
     have := hv1.2 (by rw [hv2 t hq]; exact hq)
     unfold okF eqB at h
     rw [this] at h; simp at h
   have HOK := zq hok
   have HNO := zq hno
   have HU := zq hu
   obtain ⟨a5, n5, c5, rfl⟩ := ownsForm hown
   clear hx hq1 hsn hbad hnp hown hdl hxe hv1 hv2 hok hno
   go_wp2_with (go_at_call 49; fail)
   refine (number_any _ x hxl).mono ?_
   rintro e w5 ⟨rfl, hx5⟩
   rw [<- HU.out]
   have HX5 := zq (HX.out.trans hx5)
   have HXW5 := zq (HXW.out.trans hx5)
   have HR5 := zq (hx5.at_ HRR.out id)
   have hown5 := hx5.ownsRow HOWN.out (fun _ _ e => e)
   clear hx5 hc hxl hu
   cases hq : okF x with
   | false =>
    have HP := zq (HBAD.out (HNO.out hq))
    clear hq hown5
    go_wp2_with (refine wpList_store_blk rfl _ _ _ rfl rfl (cells := nmCells Nm.zero) rfl HR5.out (Tryz.rnmT _) rfl (nmCells_one _) ?_)
    go_wp2
    refine bodyPost_blk2 rfl rfl rfl (setRow_heap _ _ _ _ _ _ HR5.out) (Tryz.rnmT _) ?_
    exact ⟨by rw [HP.out]; rfl, ext_res HXW5.out HG2.out⟩
   | true =>
    have HNF := zq (HOK.out hq)
    clear hq
    go_wp2_with (at_builtin; go_must (refine wpList_append_row rfl _ _ _ rfl Tryz.numsT rfl (hown5.alloc _) rfl (row_new _ _ _ 1 _ (by decide) (by simp)) rfl (by intro u hu; simp at hu; subst hu; rfl) ?c3 ?c4 ?c5 ?_))
    case c3 => unfold maxLen; omega
    case c4 => omega
    case c5 => have := HX5.out.size; have := HB.out; first | omega | (simp; omega)
    intro v' w6 hown6 hg _
    have hx6 := (HX5.out.alloc _).grown hg (fun j hj h => by have := (hown5.lt j hj).1; have := HB.out; omega)
    have HX6 := zq hx6
    have HO6 := zq hown6
    clear hx6 hg hown6 hown5
    go_wp2
    go_roundw
    case rel =>
     refine ⟨k + 1, dn ++ [u], by omega, by push_cast; rfl, by rw [List.length_append, HDL.out]; rfl, by rw [HSN.out]; exact numsP_snoc HNP.out HNF.out, ?_, HX6.out⟩
     rw [List.map_append]
     exact HO6.out
    case measure => simp [intOf]; omega
  ·have hkl : k = ws.length := by omega
   have hnp' : numsP ws = some dn := by rw [hkl, List.take_length] at hnp; exact hnp
   have HNW := zq hnp'
   have hdb := (numsP_some hnp').2
   have HDB := zq hdb
   obtain ⟨a5, n5, c5, rfl⟩ := ownsForm hown
   have hn5 : n5 = k := by
    obtain ⟨-, ⟨h2, h3⟩ | ⟨g', cap', cur, e1, -⟩⟩ := hown
    ·cases h2; exact h3.symm
    ·cases e1; rfl
   subst hn5
   have HKL := zq hkl
   clear hx hnp hown hdl hnp' hdb hkl
   by_cases h24 : n5 < 2 \/ 4 < n5
   ·have HP := zq (parse_short HSP.out (by rw [<- HKL.out]; exact h24))
    rcases h24 with h2 | h4
    all_goals
     go_wp2_with (refine wpList_store_blk rfl _ _ _ rfl rfl (cells := nmCells Nm.zero) rfl HRR.out (Tryz.rnmT _) rfl (nmCells_one _) ?_)
     go_wp2
     refine bodyPost_blk2 rfl rfl rfl (setRow_heap _ _ _ _ _ _ HRR.out) (Tryz.rnmT _) ?_
     exact ⟨by rw [HP.out]; rfl, ext_res HXW.out HG2.out⟩
   ·have h2 : 2 <= n5 := by omega
    have h4 : n5 <= 4 := by omega
    have hown := HOWN.out
    clear h24
    go_wp2_with (at_builtin; go_must (refine wpList_append_row rfl _ _ _ rfl Tryz.numsT rfl (hown.alloc _) rfl (row_new _ _ _ 2 _ (by decide) (by simp)) rfl (by intro u hu; simp at hu; subst hu; rfl) ?c3 ?c4 ?c5 ?_))
    case c3 => unfold maxLen; omega
    case c4 => omega
    case c5 => have := HX.out.size; have := HB.out; first | omega | (simp; omega)
    intro v' w6 hown6 hg _
    have hx6 := (HX.out.alloc _).grown hg (fun j hj h => by have := (hown.lt j hj).1; have := HB.out; omega)
    obtain ⟨l, hl⟩ : ∃ l, l = dn ++ [0, 0] := ⟨_, rfl⟩
    obtain ⟨m, hm⟩ : ∃ m, m = n5 + 2 := ⟨_, rfl⟩
    have hll : l.length = m := by rw [hl, List.length_append, HDL.out, hm]; rfl
    have hown7 : w6.ownsRow B 22 1 v' m (l.map u64) := by rw [hm, hl, List.map_append]; exact hown6
    obtain ⟨gl, cap, rfl⟩ : ∃ gl cap, v' = .slice (some ⟨gl, 0, none⟩) m cap := by
     obtain ⟨-, ⟨h2, h3⟩ | ⟨g', cap', cur, e1, -⟩⟩ := hown7
     ·omega
     ·exact ⟨g', cap', e1⟩
    obtain ⟨b7, o7, c7, e7, -, hm7, hc7, hq7⟩ := (Row.of_owns hown7).addr (by omega)
    cases e7
    have hcell : ∀ i, i < 4 -> w6.cell? ⟨gl, i, none⟩ = some (u64 (l.getD i 0)) \/ m <= i := fun i hi => by
     by_cases him : i < m
     ·have hil : i < l.length := by omega
      left
      have := hq7 i (u64 (l[i])) (by rw [List.getElem?_map, List.getElem?_eq_getElem hil]; rfl)
      rw [Nat.zero_add] at this
      rw [this, List.getD_eq_getElem?_getD, List.getElem?_eq_getElem hil]; rfl
     ·right; omega
    have HCELL := zq (fun i (hi : i < 4) => (hcell i hi).resolve_right (by omega))
    have HX6 := zq hx6
    have HXW6 := zq (HX1.out.trans hx6)
    have HR6 := zq (hx6.at_ HR1.out id)
    have HL := zq hl
    have hm4 : 4 <= m := by omega
    have hm0 : 0 < m := by omega
    have hm1 : (1 : Int) < (m : Int) := by omega
    have hm2 : (2 : Int) < (m : Int) := by omega
    have hm3 : (3 : Int) < (m : Int) := by omega
    unfold maxLen at hc7
    have hlb : ∀ u ∈ l, u < 18446744073709551616 := fun u hu => by
     rw [hl, List.mem_append] at hu
     rcases hu with hu | hu
     ·exact HDB.out u hu
     ·simp at hu; subst hu; decide
    have HLBD := zq hlb
    clear hx6 hg hown6 hown hown7 hcell hq7 hl hm hll hlb
    go_upto_region 13 with (fail)
    refine wp_region_invH Nothing (fun _ => Ext) 1000 npDst (npPhi l gl m cap) 100 (by kernel_rfl) (by decide) (by decide) rfl (fun i hi => .inl ((by decide : ∀ i, i < 39 -> npDst i < 100) i hi)) (fun i w w' h => ⟨h, fun _ => h⟩) (fun i j v w w' _ _ _ _ h hu => h.ext hu) ?_ ?_
    ·intro i o b' w1' ho hx1' hd hk hE hSZ
     have hi : i < 39 := (Array.getElem?_eq_some_iff.1 ho).1
     have his : i = 0 \/ i = 1 \/ i = 2 \/ i = 3 \/ i = 4 \/ i = 5 \/ i = 6 \/ i = 7 \/ i = 8 \/ i = 9 \/ i = 10 \/ i = 11 \/ i = 12 \/ i = 13 \/ i = 14 \/ i = 15 \/ i = 16 \/ i = 17 \/ i = 18 \/ i = 19 \/ i = 20 \/ i = 21 \/ i = 22 \/ i = 23 \/ i = 24 \/ i = 25 \/ i = 26 \/ i = 27 \/ i = 28 \/ i = 29 \/ i = 30 \/ i = 31 \/ i = 32 \/ i = 33 \/ i = 34 \/ i = 35 \/ i = 36 \/ i = 37 \/ i = 38 := by omega
     clear hE hSZ
     have HW1 := zq hx1'
     clear hx1'
     rcases his with rfl | rfl | rfl | rfl | rfl | rfl | rfl | rfl | rfl | rfl | rfl | rfl | rfl | rfl | rfl | rfl | rfl | rfl | rfl | rfl | rfl | rfl | rfl | rfl | rfl | rfl | rfl | rfl | rfl | rfl | rfl | rfl | rfl | rfl | rfl | rfl | rfl | rfl | rfl
     all_goals (simp at ho; subst ho)
     case inl =>
      refine .inl ⟨rfl, ?_⟩
      have o5 : b'.tmps[5]?.getD undef = .slice (some ⟨gl, 0, none⟩) m cap := tAt (hk 5 (fun j oj _ e => (npDst_ne (by decide) e).elim))
      clear hd hk
      go_step
      exact ⟨_, rfl, rfl, uZ⟩
     ·
      refine .inl ⟨rfl, ?_⟩
      have e0 : b'.tmps[46]?.getD undef = .slice (some ⟨gl, 0, none⟩) m cap := tAt (hd ⟨0, .data⟩ (by simp) rfl)
      clear hd hk
      go_step
      exact ⟨_, rfl, rfl, uZ⟩
     ·
      refine .inl ⟨rfl, ?_⟩
      have e1 : b'.tmps[47]?.getD undef = .pointer (some ⟨gl, 0, none⟩) := tAt (hd ⟨1, .data⟩ (by simp) rfl)
      clear hd hk
      have hc := HW1.out.cell (HCELL.out 0 (by decide)) id
      go_step
      exact ⟨_, rfl, rfl, uZ⟩
     ·
      refine .inl ⟨rfl, ?_⟩
      have o5 : b'.tmps[5]?.getD undef = .slice (some ⟨gl, 0, none⟩) m cap := tAt (hk 5 (fun j oj _ e => (npDst_ne (by decide) e).elim))
      clear hd hk
      go_step
      exact ⟨_, rfl, rfl, uZ⟩
     ·
      refine .inl ⟨rfl, ?_⟩
      have e3 : b'.tmps[49]?.getD undef = .slice (some ⟨gl, 0, none⟩) m cap := tAt (hd ⟨3, .data⟩ (by simp) rfl)
      clear hd hk
      go_step
      exact ⟨_, rfl, rfl, uZ⟩
     ·
      refine .inl ⟨rfl, ?_⟩
      have e4 : b'.tmps[50]?.getD undef = .pointer (some ⟨gl, 1, none⟩) := tAt (hd ⟨4, .data⟩ (by simp) rfl)
      clear hd hk
      have hc := HW1.out.cell (HCELL.out 1 (by decide)) id
      go_step
      exact ⟨_, rfl, rfl, uZ⟩
     ·
      refine .inl ⟨rfl, ?_⟩
      have e2 : b'.tmps[48]?.getD undef = u64 (l.getD 0 0) := tAt (hd ⟨2, .data⟩ (by simp) rfl)
      have e5 : b'.tmps[51]?.getD undef = u64 (l.getD 1 0) := tAt (hd ⟨5, .data⟩ (by simp) rfl)
      clear hd hk
      go_step
      exact ⟨_, rfl, (by unfold npPhi; simp [npVal, nmCells, ofF]), uZ⟩
     ·
      refine .inl ⟨rfl, ?_⟩
      have o5 : b'.tmps[5]?.getD undef = .slice (some ⟨gl, 0, none⟩) m cap := tAt (hk 5 (fun j oj _ e => (npDst_ne (by decide) e).elim))
      clear hd hk
      go_step
      exact ⟨_, rfl, rfl, uZ⟩
     ·
      refine .inl ⟨rfl, ?_⟩
      have e7 : b'.tmps[53]?.getD undef = .slice (some ⟨gl, 0, none⟩) m cap := tAt (hd ⟨7, .data⟩ (by simp) rfl)
      clear hd hk
      go_step
      exact ⟨_, rfl, rfl, uZ⟩
     ·
      refine .inl ⟨rfl, ?_⟩
      have e8 : b'.tmps[54]?.getD undef = .pointer (some ⟨gl, 0, none⟩) := tAt (hd ⟨8, .data⟩ (by simp) rfl)
      clear hd hk
      have hc := HW1.out.cell (HCELL.out 0 (by decide)) id
      go_step
      exact ⟨_, rfl, rfl, uZ⟩
     ·
      refine .inl ⟨rfl, ?_⟩
      have o5 : b'.tmps[5]?.getD undef = .slice (some ⟨gl, 0, none⟩) m cap := tAt (hk 5 (fun j oj _ e => (npDst_ne (by decide) e).elim))
      clear hd hk
      go_step
      exact ⟨_, rfl, rfl, uZ⟩
     ·
      refine .inl ⟨rfl, ?_⟩
      have e10 : b'.tmps[56]?.getD undef = .slice (some ⟨gl, 0, none⟩) m cap := tAt (hd ⟨10, .data⟩ (by simp) rfl)
      clear hd hk
      go_step
      exact ⟨_, rfl, rfl, uZ⟩
     ·
      refine .inl ⟨rfl, ?_⟩
      have e11 : b'.tmps[57]?.getD undef = .pointer (some ⟨gl, 1, none⟩) := tAt (hd ⟨11, .data⟩ (by simp) rfl)
      clear hd hk
      have hc := HW1.out.cell (HCELL.out 1 (by decide)) id
      go_step
      exact ⟨_, rfl, rfl, uZ⟩
     ·
      refine .inl ⟨rfl, ?_⟩
      have e9 : b'.tmps[55]?.getD undef = u64 (l.getD 0 0) := tAt (hd ⟨9, .data⟩ (by simp) rfl)
      have e12 : b'.tmps[58]?.getD undef = u64 (l.getD 1 0) := tAt (hd ⟨12, .data⟩ (by simp) rfl)
      clear hd hk
      go_step
      exact ⟨_, rfl, (by unfold npPhi; simp [npVal, nmCells, ofF]), uZ⟩
     ·
      refine .inl ⟨rfl, ?_⟩
      have o5 : b'.tmps[5]?.getD undef = .slice (some ⟨gl, 0, none⟩) m cap := tAt (hk 5 (fun j oj _ e => (npDst_ne (by decide) e).elim))
      clear hd hk
      go_step
      exact ⟨_, rfl, rfl, uZ⟩
     ·
      refine .inl ⟨rfl, ?_⟩
      have e14 : b'.tmps[60]?.getD undef = .slice (some ⟨gl, 0, none⟩) m cap := tAt (hd ⟨14, .data⟩ (by simp) rfl)
      clear hd hk
      go_step
      exact ⟨_, rfl, rfl, uZ⟩
     ·
      refine .inl ⟨rfl, ?_⟩
      have e15 : b'.tmps[61]?.getD undef = .pointer (some ⟨gl, 0, none⟩) := tAt (hd ⟨15, .data⟩ (by simp) rfl)
      clear hd hk
      have hc := HW1.out.cell (HCELL.out 0 (by decide)) id
      go_step
      exact ⟨_, rfl, rfl, uZ⟩
     ·
      refine .inl ⟨rfl, ?_⟩
      have o5 : b'.tmps[5]?.getD undef = .slice (some ⟨gl, 0, none⟩) m cap := tAt (hk 5 (fun j oj _ e => (npDst_ne (by decide) e).elim))
      clear hd hk
      go_step
      exact ⟨_, rfl, rfl, uZ⟩
     ·
      refine .inl ⟨rfl, ?_⟩
      have e17 : b'.tmps[63]?.getD undef = .slice (some ⟨gl, 0, none⟩) m cap := tAt (hd ⟨17, .data⟩ (by simp) rfl)
      clear hd hk
      go_step
      exact ⟨_, rfl, rfl, uZ⟩
     ·
      refine .inl ⟨rfl, ?_⟩
      have e18 : b'.tmps[64]?.getD undef = .pointer (some ⟨gl, 1, none⟩) := tAt (hd ⟨18, .data⟩ (by simp) rfl)
      clear hd hk
      have hc := HW1.out.cell (HCELL.out 1 (by decide)) id
      go_step
      exact ⟨_, rfl, rfl, uZ⟩
     ·
      refine .inl ⟨rfl, ?_⟩
      have o5 : b'.tmps[5]?.getD undef = .slice (some ⟨gl, 0, none⟩) m cap := tAt (hk 5 (fun j oj _ e => (npDst_ne (by decide) e).elim))
      clear hd hk
      go_step
      exact ⟨_, rfl, rfl, uZ⟩
     ·
      refine .inl ⟨rfl, ?_⟩
      have e20 : b'.tmps[66]?.getD undef = .slice (some ⟨gl, 0, none⟩) m cap := tAt (hd ⟨20, .data⟩ (by simp) rfl)
      clear hd hk
      go_step
      exact ⟨_, rfl, rfl, uZ⟩
     ·
      refine .inl ⟨rfl, ?_⟩
      have e21 : b'.tmps[67]?.getD undef = .pointer (some ⟨gl, 2, none⟩) := tAt (hd ⟨21, .data⟩ (by simp) rfl)
      clear hd hk
      have hc := HW1.out.cell (HCELL.out 2 (by decide)) id
      go_step
      exact ⟨_, rfl, rfl, uZ⟩
     ·
      refine .inl ⟨rfl, ?_⟩
      have e16 : b'.tmps[62]?.getD undef = u64 (l.getD 0 0) := tAt (hd ⟨16, .data⟩ (by simp) rfl)
      have e19 : b'.tmps[65]?.getD undef = u64 (l.getD 1 0) := tAt (hd ⟨19, .data⟩ (by simp) rfl)
      have e22 : b'.tmps[68]?.getD undef = u64 (l.getD 2 0) := tAt (hd ⟨22, .data⟩ (by simp) rfl)
      clear hd hk
      go_step
      exact ⟨_, rfl, (by unfold npPhi; simp [npVal, nmCells, ofF]), uZ⟩
     ·
      refine .inl ⟨rfl, ?_⟩
      have o5 : b'.tmps[5]?.getD undef = .slice (some ⟨gl, 0, none⟩) m cap := tAt (hk 5 (fun j oj _ e => (npDst_ne (by decide) e).elim))
      clear hd hk
      go_step
      exact ⟨_, rfl, rfl, uZ⟩
     ·
      refine .inl ⟨rfl, ?_⟩
      have e24 : b'.tmps[70]?.getD undef = .slice (some ⟨gl, 0, none⟩) m cap := tAt (hd ⟨24, .data⟩ (by simp) rfl)
      clear hd hk
      go_step
      exact ⟨_, rfl, rfl, uZ⟩
     ·
      refine .inl ⟨rfl, ?_⟩
      have e25 : b'.tmps[71]?.getD undef = .pointer (some ⟨gl, 0, none⟩) := tAt (hd ⟨25, .data⟩ (by simp) rfl)
      clear hd hk
      have hc := HW1.out.cell (HCELL.out 0 (by decide)) id
      go_step
      exact ⟨_, rfl, rfl, uZ⟩
     ·
      refine .inl ⟨rfl, ?_⟩
      have o5 : b'.tmps[5]?.getD undef = .slice (some ⟨gl, 0, none⟩) m cap := tAt (hk 5 (fun j oj _ e => (npDst_ne (by decide) e).elim))
      clear hd hk
      go_step
      exact ⟨_, rfl, rfl, uZ⟩
     ·
      refine .inl ⟨rfl, ?_⟩
      have e27 : b'.tmps[73]?.getD undef = .slice (some ⟨gl, 0, none⟩) m cap := tAt (hd ⟨27, .data⟩ (by simp) rfl)
      clear hd hk
      go_step
      exact ⟨_, rfl, rfl, uZ⟩
     ·
      refine .inl ⟨rfl, ?_⟩
      have e28 : b'.tmps[74]?.getD undef = .pointer (some ⟨gl, 1, none⟩) := tAt (hd ⟨28, .data⟩ (by simp) rfl)
      clear hd hk
      have hc := HW1.out.cell (HCELL.out 1 (by decide)) id
      go_step
      exact ⟨_, rfl, rfl, uZ⟩
     ·
      refine .inl ⟨rfl, ?_⟩
      have o5 : b'.tmps[5]?.getD undef = .slice (some ⟨gl, 0, none⟩) m cap := tAt (hk 5 (fun j oj _ e => (npDst_ne (by decide) e).elim))
      clear hd hk
      go_step
      exact ⟨_, rfl, rfl, uZ⟩
     ·
      refine .inl ⟨rfl, ?_⟩
      have e30 : b'.tmps[76]?.getD undef = .slice (some ⟨gl, 0, none⟩) m cap := tAt (hd ⟨30, .data⟩ (by simp) rfl)
      clear hd hk
      go_step
      exact ⟨_, rfl, rfl, uZ⟩
     ·
      refine .inl ⟨rfl, ?_⟩
      have e31 : b'.tmps[77]?.getD undef = .pointer (some ⟨gl, 2, none⟩) := tAt (hd ⟨31, .data⟩ (by simp) rfl)
      clear hd hk
      have hc := HW1.out.cell (HCELL.out 2 (by decide)) id
      go_step
      exact ⟨_, rfl, rfl, uZ⟩
     ·
      refine .inl ⟨rfl, ?_⟩
      have o5 : b'.tmps[5]?.getD undef = .slice (some ⟨gl, 0, none⟩) m cap := tAt (hk 5 (fun j oj _ e => (npDst_ne (by decide) e).elim))
      clear hd hk
      go_step
      exact ⟨_, rfl, rfl, uZ⟩
     ·
      refine .inl ⟨rfl, ?_⟩
      have e33 : b'.tmps[79]?.getD undef = .slice (some ⟨gl, 0, none⟩) m cap := tAt (hd ⟨33, .data⟩ (by simp) rfl)
      clear hd hk
      go_step
      exact ⟨_, rfl, rfl, uZ⟩
     ·
      refine .inl ⟨rfl, ?_⟩
      have e34 : b'.tmps[80]?.getD undef = .pointer (some ⟨gl, 3, none⟩) := tAt (hd ⟨34, .data⟩ (by simp) rfl)
      clear hd hk
      have hc := HW1.out.cell (HCELL.out 3 (by decide)) id
      go_step
      exact ⟨_, rfl, rfl, uZ⟩
     ·
      refine .inl ⟨rfl, ?_⟩
      have e26 : b'.tmps[72]?.getD undef = u64 (l.getD 0 0) := tAt (hd ⟨26, .data⟩ (by simp) rfl)
      have e29 : b'.tmps[75]?.getD undef = u64 (l.getD 1 0) := tAt (hd ⟨29, .data⟩ (by simp) rfl)
      have e32 : b'.tmps[78]?.getD undef = u64 (l.getD 2 0) := tAt (hd ⟨32, .data⟩ (by simp) rfl)
      have e35 : b'.tmps[81]?.getD undef = u64 (l.getD 3 0) := tAt (hd ⟨35, .data⟩ (by simp) rfl)
      clear hd hk
      go_step
      exact ⟨_, rfl, (by unfold npPhi; simp [npVal, nmCells, ofF]), uZ⟩
     ·
      refine .inl ⟨rfl, ?_⟩
      have o52 : b'.eval (.tmp 52) = .agg (nmCells (ofF 1 l)) := by
       have := (show b'.tmps.getD 52 undef = .agg (nmCells (ofF 1 l)) from hd ⟨6, .data⟩ (by simp) rfl)
       simpa [Act.eval] using this
      have o59 : b'.eval (.tmp 59) = .agg (nmCells (ofF 2 l)) := by
       have := (show b'.tmps.getD 59 undef = .agg (nmCells (ofF 2 l)) from hd ⟨13, .data⟩ (by simp) rfl)
       simpa [Act.eval] using this
      have o69 : b'.eval (.tmp 69) = .agg (nmCells (ofF 3 l)) := by
       have := (show b'.tmps.getD 69 undef = .agg (nmCells (ofF 3 l)) from hd ⟨23, .data⟩ (by simp) rfl)
       simpa [Act.eval] using this
      have o82 : b'.eval (.tmp 82) = .agg (nmCells (ofF 4 l)) := by
       have := (show b'.tmps.getD 82 undef = .agg (nmCells (ofF 4 l)) from hd ⟨36, .data⟩ (by simp) rfl)
       simpa [Act.eval] using this
      refine wp_buildStructs 113 73 4 6 48 _ rfl Tryz.rnamesT [.agg (nmCells (ofF 1 l)), .agg (nmCells (ofF 2 l)), .agg (nmCells (ofF 3 l)), .agg (nmCells (ofF 4 l))] rfl (by decide) (by decide) ?_ ?_ ?_
      ·intro v hv
       simp only [List.mem_cons, List.not_mem_nil, or_false] at hv
       rcases hv with rfl | rfl | rfl | rfl <;> rfl
      ·simp [o52, o59, o69, o82]
      ·exact ⟨_, rfl, all_row w1' l, uZ.alloc _⟩
     ·
      refine .inl ⟨rfl, ?_⟩
      have h37 := hd ⟨37, .data⟩ (by simp) rfl
      have h37 : AllRow l (b'.tmps.getD 83 undef) w1' := h37
      have h37' := h37
      obtain ⟨a37, c37, q37, -, -, -⟩ := h37'
      have e37 : b'.tmps[83]?.getD undef = .slice a37 4 c37 := by simpa using q37
      rw [show b'.tmps.getD 83 undef = .slice a37 4 c37 from q37] at h37
      clear hd hk
      go_step
      exact ⟨_, rfl, h37, uZ⟩
    ·intro v w1' hx1' hp
     have hs : AllRow l (v 38) w1' := hp 38 (by decide)
     obtain ⟨v9, hv9⟩ : ∃ u, u = v 38 := ⟨_, rfl⟩
     rw [<- hv9] at hs
     have HA := zq hs
     have HX7 := zq (HXW6.out.trans hx1')
     have HR7 := zq (hx1'.at_ HR6.out id)
     clear hp hx1' hs
     simp only [List.size_toArray, List.length_cons, List.length_nil, Nat.reduceAdd, fillAll, npDst]
     go_simp
     rw [<- hv9]
     clear hv9
     obtain ⟨b9, o9, c9, rfl, h49, hc9, -⟩ := all_at HA.out (k := 0) (by decide)
     unfold maxLen at hc9
     go_wp2
     go_loopw [10] (fun t wr => ∃ k : Nat, k <= 4 /\ t = .int .i64 k /\ Ext w1' wr /\ ∀ j, j < k -> putF (ofF (j + 1) l) ≠ s) (fun t _ => 4 - (intOf t).toNat)
     case atStart => exact ⟨0, by decide, rfl, uZ, fun j hj => absurd hj (Nat.not_lt_zero _)⟩
     case round =>
      obtain ⟨k, hk, rfl, hx, hno⟩ := hrel
      have HXK := zq (HX7.out.trans hx)
      have HXS := zq hx
      have HNOK := zq hno
      have HRK := zq (hx.at_ HR7.out id)
      by_cases hlt : k < 4
      ·obtain ⟨b1, o1, c1, e1, -, -, hr1⟩ := all_at (HA.out.ext hx) hlt
       cases e1
       have HRNG := zq hr1
       have hwf := ofF_wf (k := k + 1) (by omega) HLBD.out
       obtain ⟨y, hy⟩ : ∃ y, y = ofF (k + 1) l := ⟨_, rfl⟩
       rw [<- hy] at hr1 hwf
       have HY := zq hy
       clear hx hno hy
       go_wp2_with (first | (refine wpList_load_mid rfl _ _ rfl _ _ rfl _ _ hr1 Tryz.underlying73 rfl (by kernel_rfl) ?_) | (go_at_call 28; fail))
       refine (rput_any _ y hwf).mono ?_
       rintro e w8 ⟨rfl, hx8⟩
       have HX8 := zq (HXK.out.trans hx8)
       have HXS8 := zq (HXS.out.trans hx8)
       have HR8 := zq (hx8.at_ HRK.out id)
       have hr8 : w8.rangeAt b9 (o9 + k * 6) (nmCells y).toList := fun j u hj => hx8.cell (hr1 j u hj) id
       obtain ⟨D, hD⟩ : ∃ D, D = putF y := ⟨_, rfl⟩
       rw [<- hD]
       have HD := zq hD
       clear hx8 hD hr1
       by_cases hds : D = s
       ·have hne : s ≠ [] := fun e => by
         have h1 := HSP.out
         rw [e] at h1
         have h3 : 1 = ws.length + 1 := congrArg List.length h1
         have h2 := HKL.out
         omega
        have hpy : putF y = s := by rw [<- HD.out]; exact hds
        have hp := parse_unique (put_ne hpy hne) hwf hpy
        have HP := zq hp
        subst hds
        clear hne hpy hp hwf
        go_wp2_with (first | (refine wpList_load_mid rfl _ _ rfl _ _ rfl _ _ hr8 Tryz.underlying73 rfl (by kernel_rfl) ?_) | (refine wpList_store_blk rfl _ _ _ rfl rfl (cells := nmCells y) rfl HR8.out (Tryz.rnmT _) rfl (nmCells_one _) ?_))
        go_wp2
        refine bodyPost_blk2 rfl rfl rfl (setRow_heap _ _ _ _ _ _ HR8.out) (Tryz.rnmT _) ?_
        exact ⟨by rw [HP.out]; rfl, ext_res HX8.out HG2.out⟩
       ·have hb : ((⟨D.toArray⟩ : ByteArray).toList == (⟨s.toArray⟩ : ByteArray).toList) = false := by
         rw [beq_eq_false_iff_ne, bytes_toList, bytes_toList]; exact hds
        have hb2 : (D == s) = false := by rw [beq_eq_false_iff_ne]; exact hds
        have HDS := zq hds
        clear hds hr8 hwf
        go_wp2
        go_roundw
        case rel =>
         refine ⟨k + 1, by omega, by go_num, HXS8.out, fun j hj => ?_⟩
         by_cases hjk : j = k
         ·subst hjk
          rw [<- HY.out, <- HD.out]; exact HDS.out
         ·exact HNOK.out j (by omega)
        case measure => simp [intOf]; omega
      ·have hp := parse_try HSP.out HNW.out (fun q q1 q2 => by
        have := hno (q - 1) (by omega)
        rw [show q - 1 + 1 = q by omega, HL.out, ofF_zeros] at this
        exact this)
       have HP := zq hp
       clear hp hno hx
       go_wp2_with (refine wpList_store_blk rfl _ _ _ rfl rfl (cells := nmCells Nm.zero) rfl HRK.out (Tryz.rnmT _) rfl (nmCells_one _) ?_)
       go_wp2
       refine bodyPost_blk2 rfl rfl rfl (setRow_heap _ _ _ _ _ _ HRK.out) (Tryz.rnmT _) ?_
       exact ⟨by rw [HP.out]; rfl, ext_res HXK.out HG2.out⟩
end Go.Proofs.YtnkmpoplibnflaaGreatDoor
