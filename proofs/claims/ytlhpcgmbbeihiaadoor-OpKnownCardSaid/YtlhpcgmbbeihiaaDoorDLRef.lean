/-
  CONTRACT of the law's own function ref: an operation, as the reference has it.
-/
import Derived.Test.YtlhpcgmbbeihiaaDoorDSame1
import Derived.Deep.RegionHeld3
namespace Go.Proofs.YtlhpcgmbbeihiaaDoor
open Go.RowKit

/-- A load under another name: the region's walk branches over it and does not try to take it first. -/
abbrev LoadX (t : TypeId) (x : Operand) : Op := .load t x
theorem opCells_edits (o : Oper') (v v' : Value) : (opCells o v).setIfInBounds 5 v' = opCells o v' := rfl

set_option maxRecDepth 100000 in
set_option maxHeartbeats 1000000 in
theorem lawRef_any {S : Nat → Prop} (w : World) (o : Oper') (v : Value) (h : Row S w v o.edits.length (editCells o.edits)) (hl : o.edits.length ≤ 1000) :
    Calls Tryd.prog 13 #[.agg (opCells o v)] w fun e w' => ∃ v', e = .returned (.agg (opCells o v')) ∧ w'.ownsRow w.heap.size 72 3 v' o.edits.length (editCells o.edits) ∧ Ext w w' := by
  obtain ⟨hb1, hb2, hx⟩ := twoBoxes w (.cells (opCells o v) 25) (.cells (opCells (Oper'.zero 0) nilS) 36)
  obtain ⟨wa, hwa⟩ : ∃ wa, wa = ((w.alloc (.cells (opCells o v) 25)).alloc (.cells (opCells (Oper'.zero 0) nilS) 36)).alloc (.cells (opCells o nilS) 36) := ⟨_, rfl⟩
  have hsz : ((w.alloc (.cells (opCells o v) 25)).alloc (.cells (opCells (Oper'.zero 0) nilS) 36)).heap.size = w.heap.size + 2 := by simp
  have hxa : Ext w wa := by rw [hwa]; exact hx.alloc _
  have ha1 : wa.heap[w.heap.size]? = some (.cells (opCells o v) 25 (0, 0)) := by rw [hwa]; exact ((Upd.refl Nothing _).alloc _).at_ hb1 (fun e => e)
  have ha2 : wa.heap[w.heap.size + 1]? = some (.cells (opCells (Oper'.zero 0) nilS) 36 (0, 0)) := by rw [hwa]; exact ((Upd.refl Nothing _).alloc _).at_ hb2 (fun e => e)
  have ha3 : wa.heap[w.heap.size + 2]? = some (.cells (opCells o nilS) 36 (0, 0)) := by rw [hwa, ← hsz]; exact newAt _ _
  have HWA := Lib.hid hwa
  have g1 := h.addr
  obtain ⟨a1, z1, rfl, hn1, hm1, -⟩ := h
  have HXA := Lib.hid hxa
  have HA1 := Lib.hid ha1
  have G1 := Lib.hid g1
  unfold maxLen at hm1
  clear hwa hb1 hb2 hx hsz ha1 g1 hxa
  simp only [opCells]
  go_enter Tryd.func13, Tryd.ntmps13
  go_wp2
  obtain ⟨g, hg⟩ : ∃ g, g = w.heap.size + 1 + 1 := ⟨_, rfl⟩
  rw [show w.heap.size + 1 + 1 = g from hg.symm]
  rw [show ((w.alloc (.cells #[.int .u8 o.kind, .int .u64 o.doc, str o.name, str o.to, str o.text, .slice a1 o.edits.length z1, .int .u64 o.epoch, .int .u64 o.version, .int .u64 o.dur] 25)).alloc (.cells #[.int .u8 0, .int .u64 0, .string ⟨#[]⟩, .string ⟨#[]⟩, .string ⟨#[]⟩, .slice none 0 0, .int .u64 0, .int .u64 0, .int .u64 0] 36)).alloc (.cells #[.int .u8 o.kind, .int .u64 o.doc, str o.name, str o.to, str o.text, .slice none 0 0, .int .u64 o.epoch, .int .u64 o.version, .int .u64 o.dur] 36) = wa from HWA.out.symm]
  rw [show w.heap.size + 2 = g from by omega] at ha3
  have HG := Lib.hid hg
  have hgw : w.heap.size + 1 < g := by omega
  clear hg
  go_loopw [4] (fun i wr => ∃ (k : Nat) (va : Option Addr) (vn vc : Nat), k ≤ o.edits.length ∧ i = .int .i64 k ∧ Ext w wr ∧ wr.heap[w.heap.size]? = some (.cells (opCells o (.slice a1 o.edits.length z1)) 25 (0, 0)) ∧ wr.heap[w.heap.size + 1]? = some (.cells (opCells (Oper'.zero 0) nilS) 36 (0, 0)) ∧ wr.heap[g]? = some (.cells (opCells o (.slice va vn vc)) 36 (0, 0)) ∧ wr.ownsRow (g + 1) 72 3 (.slice va vn vc) k (editCells (o.edits.take k)))
      (fun i _ => o.edits.length - (intOf i).toNat)
  case atStart => exact ⟨0, none, 0, 0, Nat.zero_le _, rfl, HXA.out, HA1.out, ha2, ha3, World.ownsRow_nil _ _ _ _⟩
  case round =>
    obtain ⟨k, va, vn, vc, hk, rfl, hx, hb1, hb2, hb3, hown⟩ := hrel
    have y1 := cellAt hb1 5 (.slice a1 o.edits.length z1) rfl
    have y3 := cellAt hb3 5 (.slice va vn vc) rfl
    by_cases hlt : k < o.edits.length
    · obtain ⟨b1, o1', c1', e1', -, -, -, hq1⟩ := G1.out (by omega)
      cases e1'
      obtain ⟨p1', p2', p3'⟩ := edit_cells hq1 k hlt
      clear hq1
      have hbw : b1 < w.heap.size := World.block_lt_of_cell? w ⟨b1, o1' + k * 3, none⟩ p1'
      have p1' := hx.cell p1' id
      have p2' := hx.cell p2' id
      have p3' := hx.cell p3' id
      have hne : ∀ j, (Value.slice va vn vc).ownBlock = some j → ¬ j = g := fun j hj e => by have := (hown.lt j hj).1; omega
      have hlo : ∀ j, (Value.slice va vn vc).ownBlock = some j → g < j := fun j hj => by have := (hown.lt j hj).1; omega
      have HLO := Lib.hid hlo
      have HNE := Lib.hid hne
      clear hlo hne
      have hlg := lt_of_heap hb3
      have ff := freeAt hb3 5
      obtain ⟨x, hxx⟩ : ∃ x, x = o.edits[k] := ⟨_, rfl⟩
      rw [← hxx] at p1' p2' p3'
      have HXX := Lib.hid hxx
      have ngb : g ≠ b1 := by omega
      have ngw : g ≠ w.heap.size := by omega
      obtain ⟨i0, z0, hi, hz0, hz1, hz2, hz3⟩ := Tryd.reditsT.info
      clear hxx
      go_wp2_with fail
      rw [show Op.load 34 (.tmp 29) = LoadX 34 (.tmp 29) from rfl]
      go_region_held3 (fun w' => w'.cell? ⟨w.heap.size, 5, none⟩ = some (.slice (some ⟨b1, o1', none⟩) o.edits.length z1) ∧ w'.cell? ⟨b1, o1' + k * 3, none⟩ = some (.int .u8 x.kind) ∧ w'.cell? ⟨b1, o1' + k * 3 + 1, none⟩ = some (.int .i64 x.n) ∧ w'.cell? ⟨b1, o1' + k * 3 + 2, none⟩ = some (str x.text)) (first | go_keep | exact ⟨s1, s2, s3, s4⟩)
        ((refine step_append_lies ((wr.alloc (.cells #[.int .u8 x.kind, .int .i64 x.n, str x.text] 72)).drew) (by rfl) (.tmp 30) (.tmp 50) 34 (by rfl) (g + 1) 72 i0 z0 3 32 Tryd.underlying34 hi hz0 hz1 hz2 hz3 (by omega) (.slice va vn vc) k (editCells (o.edits.take k)) (by rfl) ((hown.alloc _).drew) ⟨wr.heap.size, 0, none⟩ 1 1 [.int .u8 x.kind, .int .i64 x.n, str x.text] (by rfl) (by rfl) (World.news_of_block (cs := #[.int .u8 x.kind, .int .i64 x.n, str x.text]) (t := 72) (fr := (0, 0)) (heap_alloc_new wr _)) (edit_one x) (by omega) (by unfold maxLen; omega) (by omega) (by simp; omega) (wr.heap.size + 1) (by simp) ?_; intro gg cap w5 hown5 hgrow hat hgl; have gbx := grownAt hb3 hgrow HNE.out; have g13 := cellAt gbx 5 (.slice va vn vc) rfl; have gff := freeAt gbx 5; have hu5 : Upd (fun k => (Value.slice va vn vc).ownBlock = some k) wr w5 := (((Upd.refl _ wr).alloc _).drew).trans (grownUpd hgrow); have s1 := hu5.cell y1 (fun e => by have := HLO.out _ e; simp only at this; omega); have s2 := hu5.cell p1' (fun e => by have := HLO.out _ e; simp only at this; omega); have s3 := hu5.cell p2' (fun e => by have := HLO.out _ e; simp only at this; omega); have s4 := hu5.cell p3' (fun e => by have := HLO.out _ e; simp only at this; omega)))
      all_goals
        go_wp2
        go_roundw
        case rel =>
          have hbl := hown5.lt gg rfl
          refine ⟨k + 1, some ⟨gg, 0, none⟩, k + 1, cap, by omega, by go_num, ?_, ?_, ?_, setAt gbx, ?_⟩
          · exact (hx.step hu5 (fun i hi e => by have := HLO.out _ e; omega)).setCell (p := ⟨_, _, none⟩) (fun h => by simp only at h; omega) _
          · exact (Upd.own _ _ _ _).at_ (hu5.at_ hb1 (fun e => by have := HLO.out _ e; omega)) (fun e => by unfold At at e; omega)
          · exact (Upd.own _ _ _ _).at_ (hu5.at_ hb2 (fun e => by have := HLO.out _ e; omega)) (fun e => by unfold At at e; omega)
          · rw [List.take_succ_eq_append_getElem hlt, ← HXX.out, editCells_snoc]
            exact (Upd.own _ _ _ _).ownsRow hown5 (fun j hj e => by simp only [Value.ownBlock, Option.some.injEq] at hj; unfold At at e; omega)
        case measure => simp [intOf]; omega
    · have hkl : k = o.edits.length := by omega
      have hus := Upd.row wr (w.heap.size + 1) (opCells o (.slice va vn vc))
      have HO := Lib.hid hown
      have HKL := Lib.hid hkl
      clear hown hkl y3
      go_wp2_with (first | (refine wpList_load_blk rfl _ _ rfl rfl hb3 (Tryd.ropT _ _) ?_) | (refine wpList_store_blk rfl _ _ _ rfl rfl (cells := opCells o (.slice va vn vc)) rfl hb2 (Tryd.ropT _ _) rfl (opCells_one _ _ _ _) ?_))
      refine bodyPost_blk rfl rfl rfl (setRow_heap _ _ _ _ _ _ hb2) (Tryd.ropT _ _) ?_
      refine ⟨_, rfl, ?_, hx.step hus (fun i hi e => by unfold At at e; omega)⟩
      have h6 := (hus.ownsRow HO.out (fun j hj e => by have := (HO.out.lt j hj).1; unfold At at e; omega)).mono_base (base' := w.heap.size) (by omega)
      rw [HKL.out, List.take_length] at h6
      exact h6
end Go.Proofs.YtlhpcgmbbeihiaaDoor
