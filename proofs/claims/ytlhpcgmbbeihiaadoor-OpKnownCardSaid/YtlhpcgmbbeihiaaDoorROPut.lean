/-
  CONTRACT of the reference's ref19.Put.
-/
import Derived.Test.YtlhpcgmbbeihiaaDoorOPut
import Derived.Test.YtlhpcgmbbeihiaaDoorRDPut
import Derived.Test.YtlhpcgmbbeihiaaDoorMB
import Derived.Test.YtlhpcgmbbeihiaaDoorVAll
namespace Go.Proofs.YtlhpcgmbbeihiaaDoor
open Go.RowKit

/-- One more part behind what has been written. -/
theorem own_part {w : World} {B n m : Nat} {v : Value} {l t : List UInt8} (h : w.ownsRow B 5 1 v (n + m) (l.map Go.Proofs.YtlhpcgmbbeihiaaDoor.u8 ++ t.map Go.Proofs.YtlhpcgmbbeihiaaDoor.u8)) (hn : n = l.length) (hm : m = t.length) : w.ownsRow B 5 1 v (l ++ t).length ((l ++ t).map Go.Proofs.YtlhpcgmbbeihiaaDoor.u8) := by
  subst hn; subst hm
  rw [List.length_append, List.map_append]; exact h

set_option maxRecDepth 100000 in
set_option maxHeartbeats 4000000 in
theorem roPut_any {S : Nat → Prop} (w : World) (o : Oper') (v : Value) (h : Row S w v o.edits.length (editCells o.edits)) (hw : WfOp o) (hl : (opPut o).length ≤ 70368744177664) :
    Calls Tryd.prog 12 #[.agg (opCells o v)] w (OPutPost o w) := by
  have hbx := newAt w (.cells (opCells o v) 36)
  have hux : Ext w (w.alloc (.cells (opCells o v) 36)) := (Upd.refl _ _).alloc _
  have HR := Lib.hid (h.ext hux)
  have HBX := Lib.hid hbx
  have HUX := Lib.hid hux
  have hparts := opPut_parts o
  have e5 := vtext_len (editsPut o.edits)
  have e2 := vtext_len o.name
  have e3 := vtext_len o.to
  have e4 := vtext_len o.text
  have hwe : ∀ x ∈ o.edits, 0 ≤ x.kind := fun x hx => (hw.edits x hx).1
  obtain ⟨a, c, rfl, -, -, -⟩ := h
  clear hbx hux
  simp only [opCells]
  go_enter Tryd.func12, Tryd.ntmps12
  go_wp2_with (go_at_call 20; fail)
  refine (rright_any _ o _ HR.out hwe hw.k0).mono ?_
  rintro e w1 ⟨rfl, hx1⟩
  have HB1 := Lib.hid (hx1.at_ HBX.out id)
  have HX1 := Lib.hid (HUX.out.trans hx1)
  have HR1 := Lib.hid (HR.out.ext hx1)
  have hs1 : w.heap.size < w1.heap.size := lt_of_heap HB1.out
  clear hx1
  by_cases hr : opRight o = true
  · have hd := (opRight_kind hr).2.2
    rw [hr]
    have HRI := Lib.hid hr
    clear hr
    obtain ⟨y0, y1, y2, y3, y4, y5, y6, y7, y8⟩ := opLit_cells o _ HB1.out
    go_wp2_with (go_at_call 36; fail)
    refine (rdPut_any _ _ o.edits HR1.out hwe (by omega)).mono ?_
    rintro e w2 ⟨v2, rfl, hok, -, hx2⟩
    have hown2 := hok hd
    rw [if_pos hd]
    have HB2 := Lib.hid (hx2.at_ HB1.out id)
    have HX2 := Lib.hid (HX1.out.trans hx2)
    have hs2 : w.heap.size < w2.heap.size := lt_of_heap HB2.out
    have HED := Lib.hid hown2
    clear hx2 hok hd hown2 y0 y1 y2 y3 y4 y5 y6 y7 y8
    obtain ⟨y0, y1, y2, y3, y4, y5, y6, y7, y8⟩ := opLit_cells o _ HB2.out
    obtain ⟨D, hD⟩ : ∃ D : Nat, o.doc = D := Int.eq_ofNat_of_zero_le hw.doc.1
    have hD64 : D < 18446744073709551616 := by have := hw.doc.2; omega
    rw [hD] at y1
    have HD := Lib.hid hD
    have HKB := Lib.hid (byte_of hw.k0 hw.k1)
    obtain ⟨L0, hL0⟩ : ∃ L, L = ([UInt8.ofNat o.kind.toNat] : List UInt8) := ⟨_, rfl⟩
    have hl0 : L0.length ≤ 1 := by rw [hL0]; exact Nat.le_refl _
    have HLE0 := Lib.hid (show (1 : Nat) = L0.length from by rw [hL0]; rfl)
    have hlit : (w2.alloc (.cells #[.int .u8 o.kind] 5)).ownsRow w2.heap.size 5 1 (.slice (some ⟨w2.heap.size, 0, none⟩) 1 1) L0.length (L0.map Go.Proofs.YtlhpcgmbbeihiaaDoor.u8) := by
      rw [hL0]
      have := own_lit w2 #[.int .u8 o.kind] 5 1 w2.heap.size w2.heap.size (by unfold maxLen; omega) rfl (Nat.le_refl _) rfl
      rw [show (([UInt8.ofNat o.kind.toNat] : List UInt8).map Go.Proofs.YtlhpcgmbbeihiaaDoor.u8) = [Go.Proofs.YtlhpcgmbbeihiaaDoor.u8 (UInt8.ofNat o.kind.toNat)] from rfl, ← HKB.out]; exact this
    have hvd : (vput D).length ≤ 10 := vput_len_le hD64
    have HBL := Lib.hid (((Upd.refl Nothing w2).alloc (.cells #[.int .u8 o.kind] 5)).at_ HB2.out id)
    have HXL := Lib.hid (HX2.out.alloc (.cells #[.int .u8 o.kind] 5))
    have HEL := Lib.hid (HED.out.alloc (.cells #[.int .u8 o.kind] 5))
    have hsl : w.heap.size < (w2.alloc (.cells #[.int .u8 o.kind] 5)).heap.size := by simp; omega
    have HL0 := Lib.hid hL0
    clear hL0
    have HSEP := Lib.hid (fun k (hk : v2.ownBlock = some k) => show k < w2.heap.size from (HED.out.lt k hk).2)
    have hszb : w2.heap.size ≤ (w2.alloc (.cells #[.int .u8 o.kind] 5)).heap.size := by simp
    clear hD y0 y1 y2 y3 y4 y5 y6 y7 y8
    -- vput D
    have x0 := (opLit_cells o _ HB2.out).1
    obtain ⟨y0, y1, y2, y3, y4, y5, y6, y7, y8⟩ := opLit_cells o _ HBL.out
    rw [HD.out] at y1
    go_wp2_with (go_at_call 37; fail)
    refine (rPut_any _ D hD64).mono ?_
    rintro e w5 ⟨v5, rfl, hown5, hx5⟩
    have hx5s := hx5.size
    have hown1 := hx5.ownsRow hlit (fun _ _ e => e)
    have HB5 := Lib.hid (hx5.at_ HBL.out id)
    have HX5 := Lib.hid (HXL.out.trans hx5)
    have HE5 := Lib.hid (hx5.ownsRow HEL.out (fun _ _ e => e))
    have hsz5 : w2.heap.size ≤ w5.heap.size := Nat.le_trans hszb hx5s
    clear hlit hx5 x0 y0 y1 y2 y3 y4 y5 y6 y7 y8
    obtain ⟨a2, n2, c2, rfl⟩ := ownsForm hown5
    go_wp2_with (at_builtin; go_must (refine wpList_append_row rfl _ _ _ rfl Tryd.bytesT rfl hown1 rfl (Row.of_owns hown5) (by simp) (u8_one _) ?c3 ?c4 ?c5 ?_))
    case c3 => unfold maxLen; omega
    case c4 => omega
    case c5 => omega
    intro vA wA hownA hg _
    have htag : ∀ j, (Value.slice (some ⟨w2.heap.size, 0, none⟩) 1 1).ownBlock = some j → j ≠ w.heap.size := fun j hj => by
      obtain ⟨cur, hc⟩ := owns_tag hown1 hj
      exact tag_ne HB5.out (by decide) hc
    have HBA := Lib.hid (grownAt2 HB5.out hg htag)
    have hzA : w2.heap.size ≤ wA.heap.size := by have := hg.size; omega
    have HXA := Lib.hid (HX5.out.grown hg (fun j hj h => by have := (hown1.lt j hj).1; omega))
    have HEDA := Lib.hid ((grownUpd hg).ownsRow HE5.out (fun k hk e => by have := HSEP.out k hk; have := (hown1.lt k e).1; omega))
    have hownA := own_part (l := L0) (t := vput D) hownA (by first | rfl | exact HLE0.out) rfl
    obtain ⟨LA, hLA⟩ : ∃ L, L = L0 ++ vput D := ⟨_, rfl⟩
    rw [← hLA] at hownA
    have hlA : LA.length ≤ L0.length + (vput D).length := by rw [hLA, List.length_append]; exact Nat.le_refl _
    have HLA := Lib.hid hLA
    clear hLA
    clear hg htag hown1 hown5 HB5 HX5 HE5
    -- vtext o.name
    obtain ⟨y0, y1, y2, y3, y4, y5, y6, y7, y8⟩ := opLit_cells o _ HBA.out
    go_wp2_with (go_at_call 38; fail)
    refine (rText_any _ o.name (by omega)).mono ?_
    rintro e w5 ⟨v5, rfl, hown5, hx5⟩
    have hx5s := hx5.size
    have hown1 := hx5.ownsRow hownA (fun _ _ e => e)
    have HB5 := Lib.hid (hx5.at_ HBA.out id)
    have HX5 := Lib.hid (HXA.out.trans hx5)
    have HE5 := Lib.hid (hx5.ownsRow HEDA.out (fun _ _ e => e))
    have hsz5 : w2.heap.size ≤ w5.heap.size := Nat.le_trans hzA hx5s
    clear hownA hx5 y0 y1 y2 y3 y4 y5 y6 y7 y8
    obtain ⟨a1, n1, c1, rfl⟩ := ownsForm hown1
    obtain ⟨a2, n2, c2, rfl⟩ := ownsForm hown5
    go_wp2_with (at_builtin; go_must (refine wpList_append_row rfl _ _ _ rfl Tryd.bytesT rfl hown1 rfl (Row.of_owns hown5) (by simp) (u8_one _) ?c3 ?c4 ?c5 ?_))
    case c3 => unfold maxLen; omega
    case c4 => omega
    case c5 => omega
    intro vB wB hownB hg _
    have htag : ∀ j, (Value.slice a1 n1 c1).ownBlock = some j → j ≠ w.heap.size := fun j hj => by
      obtain ⟨cur, hc⟩ := owns_tag hown1 hj
      exact tag_ne HB5.out (by decide) hc
    have HBB := Lib.hid (grownAt2 HB5.out hg htag)
    have hzB : w2.heap.size ≤ wB.heap.size := by have := hg.size; omega
    have HXB := Lib.hid (HX5.out.grown hg (fun j hj h => by have := (hown1.lt j hj).1; omega))
    have HEDB := Lib.hid ((grownUpd hg).ownsRow HE5.out (fun k hk e => by have := HSEP.out k hk; have := (hown1.lt k e).1; omega))
    have hownB := own_part (l := LA) (t := vtext o.name) hownB rfl rfl
    obtain ⟨LB, hLB⟩ : ∃ L, L = LA ++ vtext o.name := ⟨_, rfl⟩
    rw [← hLB] at hownB
    have hlB : LB.length ≤ LA.length + (vtext o.name).length := by rw [hLB, List.length_append]; exact Nat.le_refl _
    have HLB := Lib.hid hLB
    clear hLB
    clear hg htag hown1 hown5 HB5 HX5 HE5
    -- vtext o.to
    obtain ⟨y0, y1, y2, y3, y4, y5, y6, y7, y8⟩ := opLit_cells o _ HBB.out
    go_wp2_with (go_at_call 38; fail)
    refine (rText_any _ o.to (by omega)).mono ?_
    rintro e w5 ⟨v5, rfl, hown5, hx5⟩
    have hx5s := hx5.size
    have hown1 := hx5.ownsRow hownB (fun _ _ e => e)
    have HB5 := Lib.hid (hx5.at_ HBB.out id)
    have HX5 := Lib.hid (HXB.out.trans hx5)
    have HE5 := Lib.hid (hx5.ownsRow HEDB.out (fun _ _ e => e))
    have hsz5 : w2.heap.size ≤ w5.heap.size := Nat.le_trans hzB hx5s
    clear hownB hx5 y0 y1 y2 y3 y4 y5 y6 y7 y8
    obtain ⟨a1, n1, c1, rfl⟩ := ownsForm hown1
    obtain ⟨a2, n2, c2, rfl⟩ := ownsForm hown5
    go_wp2_with (at_builtin; go_must (refine wpList_append_row rfl _ _ _ rfl Tryd.bytesT rfl hown1 rfl (Row.of_owns hown5) (by simp) (u8_one _) ?c3 ?c4 ?c5 ?_))
    case c3 => unfold maxLen; omega
    case c4 => omega
    case c5 => omega
    intro vC wC hownC hg _
    have htag : ∀ j, (Value.slice a1 n1 c1).ownBlock = some j → j ≠ w.heap.size := fun j hj => by
      obtain ⟨cur, hc⟩ := owns_tag hown1 hj
      exact tag_ne HB5.out (by decide) hc
    have HBC := Lib.hid (grownAt2 HB5.out hg htag)
    have hzC : w2.heap.size ≤ wC.heap.size := by have := hg.size; omega
    have HXC := Lib.hid (HX5.out.grown hg (fun j hj h => by have := (hown1.lt j hj).1; omega))
    have HEDC := Lib.hid ((grownUpd hg).ownsRow HE5.out (fun k hk e => by have := HSEP.out k hk; have := (hown1.lt k e).1; omega))
    have hownC := own_part (l := LB) (t := vtext o.to) hownC rfl rfl
    obtain ⟨LC, hLC⟩ : ∃ L, L = LB ++ vtext o.to := ⟨_, rfl⟩
    rw [← hLC] at hownC
    have hlC : LC.length ≤ LB.length + (vtext o.to).length := by rw [hLC, List.length_append]; exact Nat.le_refl _
    have HLC := Lib.hid hLC
    clear hLC
    clear hg htag hown1 hown5 HB5 HX5 HE5
    -- vtext o.text
    obtain ⟨y0, y1, y2, y3, y4, y5, y6, y7, y8⟩ := opLit_cells o _ HBC.out
    go_wp2_with (go_at_call 38; fail)
    refine (rText_any _ o.text (by omega)).mono ?_
    rintro e w5 ⟨v5, rfl, hown5, hx5⟩
    have hx5s := hx5.size
    have hown1 := hx5.ownsRow hownC (fun _ _ e => e)
    have HB5 := Lib.hid (hx5.at_ HBC.out id)
    have HX5 := Lib.hid (HXC.out.trans hx5)
    have HE5 := Lib.hid (hx5.ownsRow HEDC.out (fun _ _ e => e))
    have hsz5 : w2.heap.size ≤ w5.heap.size := Nat.le_trans hzC hx5s
    clear hownC hx5 y0 y1 y2 y3 y4 y5 y6 y7 y8
    obtain ⟨a1, n1, c1, rfl⟩ := ownsForm hown1
    obtain ⟨a2, n2, c2, rfl⟩ := ownsForm hown5
    go_wp2_with (at_builtin; go_must (refine wpList_append_row rfl _ _ _ rfl Tryd.bytesT rfl hown1 rfl (Row.of_owns hown5) (by simp) (u8_one _) ?c3 ?c4 ?c5 ?_))
    case c3 => unfold maxLen; omega
    case c4 => omega
    case c5 => omega
    intro vD wD hownD hg _
    have htag : ∀ j, (Value.slice a1 n1 c1).ownBlock = some j → j ≠ w.heap.size := fun j hj => by
      obtain ⟨cur, hc⟩ := owns_tag hown1 hj
      exact tag_ne HB5.out (by decide) hc
    have HBD := Lib.hid (grownAt2 HB5.out hg htag)
    have hzD : w2.heap.size ≤ wD.heap.size := by have := hg.size; omega
    have HXD := Lib.hid (HX5.out.grown hg (fun j hj h => by have := (hown1.lt j hj).1; omega))
    have HEDD := Lib.hid ((grownUpd hg).ownsRow HE5.out (fun k hk e => by have := HSEP.out k hk; have := (hown1.lt k e).1; omega))
    have hownD := own_part (l := LC) (t := vtext o.text) hownD rfl rfl
    obtain ⟨LD, hLD⟩ : ∃ L, L = LC ++ vtext o.text := ⟨_, rfl⟩
    rw [← hLD] at hownD
    have hlD : LD.length ≤ LC.length + (vtext o.text).length := by rw [hLD, List.length_append]; exact Nat.le_refl _
    have HLD := Lib.hid hLD
    clear hLD
    clear hg htag hown1 hown5 HB5 HX5 HE5
    -- vtext (editsPut o.edits)
    obtain ⟨y0, y1, y2, y3, y4, y5, y6, y7, y8⟩ := opLit_cells o _ HBD.out
    have hcv := row_string (P := Tryd.prog) (Row.of_owns HEDD.out) Tryd.underlying26 Tryd.underlying5 Tryd.underlying9
    go_wp2_with (go_at_call 38; fail)
    refine (rText_any _ (editsPut o.edits) (by omega)).mono ?_
    rintro e w5 ⟨v5, rfl, hown5, hx5⟩
    have hx5s := hx5.size
    have hown1 := hx5.ownsRow hownD (fun _ _ e => e)
    have HB5 := Lib.hid (hx5.at_ HBD.out id)
    have HX5 := Lib.hid (HXD.out.trans hx5)
    have HE5 := Lib.hid (hx5.ownsRow HEDD.out (fun _ _ e => e))
    have hsz5 : w2.heap.size ≤ w5.heap.size := Nat.le_trans hzD hx5s
    clear hownD hx5 y0 y1 y2 y3 y4 y5 y6 y7 y8 hcv
    obtain ⟨a1, n1, c1, rfl⟩ := ownsForm hown1
    obtain ⟨a2, n2, c2, rfl⟩ := ownsForm hown5
    go_wp2_with (at_builtin; go_must (refine wpList_append_row rfl _ _ _ rfl Tryd.bytesT rfl hown1 rfl (Row.of_owns hown5) (by simp) (u8_one _) ?c3 ?c4 ?c5 ?_))
    case c3 => unfold maxLen; omega
    case c4 => omega
    case c5 => omega
    intro vE wE hownE hg _
    have htag : ∀ j, (Value.slice a1 n1 c1).ownBlock = some j → j ≠ w.heap.size := fun j hj => by
      obtain ⟨cur, hc⟩ := owns_tag hown1 hj
      exact tag_ne HB5.out (by decide) hc
    have HBE := Lib.hid (grownAt2 HB5.out hg htag)
    have hzE : w2.heap.size ≤ wE.heap.size := by have := hg.size; omega
    have HXE := Lib.hid (HX5.out.grown hg (fun j hj h => by have := (hown1.lt j hj).1; omega))
    have HEDE := Lib.hid ((grownUpd hg).ownsRow HE5.out (fun k hk e => by have := HSEP.out k hk; have := (hown1.lt k e).1; omega))
    have hownE := own_part (l := LD) (t := vtext (editsPut o.edits)) hownE rfl rfl
    obtain ⟨LE, hLE⟩ : ∃ L, L = LD ++ vtext (editsPut o.edits) := ⟨_, rfl⟩
    rw [← hLE] at hownE
    have hlE : LE.length ≤ LD.length + (vtext (editsPut o.edits)).length := by rw [hLE, List.length_append]; exact Nat.le_refl _
    have HLE := Lib.hid hLE
    clear hLE
    clear hg htag hown1 hown5 HB5 HX5 HE5
    -- the three numbers
    obtain ⟨y0, y1, y2, y3, y4, y5, y6, y7, y8⟩ := opLit_cells o _ HBE.out
    obtain ⟨p1, p2, hp1⟩ : ∃ x : Nat, o.epoch = x ∧ x < 18446744073709551616 := ⟨o.epoch.toNat, by have := hw.epoch.1; omega, by have := hw.epoch.1; have := hw.epoch.2; omega⟩
    obtain ⟨q1, q2, hq1⟩ : ∃ x : Nat, o.version = x ∧ x < 18446744073709551616 := ⟨o.version.toNat, by have := hw.version.1; omega, by have := hw.version.1; have := hw.version.2; omega⟩
    obtain ⟨r1, r2, hr1⟩ : ∃ x : Nat, o.dur = x ∧ x < 18446744073709551616 := ⟨o.dur.toNat, by have := hw.dur.1; omega, by have := hw.dur.1; have := hw.dur.2; omega⟩
    rw [p2] at y6
    rw [q2] at y7
    rw [r2] at y8
    have hfin : opPut o = LE ++ vputs [p1, q1, r1] := by
      rw [opAcc_end HD.out p2 q2 r2, HLE.out, HLD.out, HLC.out, HLB.out, HLA.out, HL0.out]; simp [opAcc]
    have hfl := congrArg List.length hfin
    rw [List.length_append] at hfl
    have HFIN := Lib.hid hfin
    clear p2 q2 r2 hfin y0 y1 y2 y3 y4 y5
    go_wp2_with (go_at_call 39; fail)
    have hrn := row_new wE #[.int .u64 (p1 : Int), .int .u64 (q1 : Int), .int .u64 (r1 : Int)] 22 3 wE.heap.size (by decide) rfl
    refine (rAll_any _ _ [p1, q1, r1] hrn (by simp) (by intro n hn; simp at hn; omega)).mono ?_
    rintro e w5 ⟨v5, rfl, hown5, hx5⟩
    have hown1 := hx5.ownsRow (hownE.alloc (.cells #[.int .u64 (p1 : Int), .int .u64 (q1 : Int), .int .u64 (r1 : Int)] 22)) (fun _ _ e => e)
    have hszE := lt_of_heap HBE.out
    have hsz5 : w2.heap.size ≤ w5.heap.size := by have := hx5.size; simp at this; omega
    have HX5 := Lib.hid ((HXE.out.alloc (.cells #[.int .u64 (p1 : Int), .int .u64 (q1 : Int), .int .u64 (r1 : Int)] 22)).trans hx5)
    clear hownE hx5 hrn
    obtain ⟨a1, n1, c1, rfl⟩ := ownsForm hown1
    obtain ⟨a2, n2, c2, rfl⟩ := ownsForm hown5
    go_wp2_with (at_builtin; go_must (refine wpList_append_row rfl _ _ _ rfl Tryd.bytesT rfl hown1 rfl (Row.of_owns hown5) (by simp) (u8_one _) ?c3 ?c4 ?c5 ?_))
    case c3 => unfold maxLen; omega
    case c4 => omega
    case c5 => omega
    intro v' w6 hown6 hg _
    have HX6 := Lib.hid (HX5.out.grown hg (fun j hj h => by have := (hown1.lt j hj).1; omega))
    clear hg
    go_wp2
    go_ret2
    exact oput_ok HRI.out (by rw [HFIN.out, List.length_append, List.map_append]; exact hown6.mono_base (by omega)) HX6.out
  · have hrf : opRight o = false := by simpa using hr
    rw [hrf]
    have HRI := Lib.hid hrf
    clear hr hrf
    go_wp2
    go_ret2
    exact ⟨nilS, by rw [HRI.out]; rfl, fun h => (by rw [HRI.out] at h; cases h), fun _ => rfl, HX1.out⟩
end Go.Proofs.YtlhpcgmbbeihiaaDoor
