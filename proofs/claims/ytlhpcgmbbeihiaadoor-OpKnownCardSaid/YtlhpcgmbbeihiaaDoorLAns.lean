/-
  CONTRACT of the law's own function answer: an answer, as the reference has it.
-/
import Derived.Test.YtlhpcgmbbeihiaaDoorShow
import Derived.Test.YtlhpcgmbbeihiaaDoorDSame1
import Derived.Test.YtlhpcgmbbeihiaaDoorDPut
namespace Go.Proofs.YtlhpcgmbbeihiaaDoor
open Go.RowKit

theorem Tryd.ransT (a : Ans) (v : Value) : StructT Tryd.prog 55 (ansCells a v).size := ⟨_, Tryd.underlying55, rfl, by kernel_rfl⟩
theorem ansCells_one (a : Ans) (va : Option Addr) (vn vc : Nat) : (ansCells a (.slice va vn vc)).all (·.oneCell') = true := by simp [ansCells, Value.oneCell']
def Ans.zero : Ans := ⟨0, 0, [], []⟩

set_option maxRecDepth 100000 in
set_option maxHeartbeats 1000000 in
theorem lawAns_any {S : Nat → Prop} (w : World) (a : Ans) (v : Value) (h : Texts S w v a.names) (hl : a.names.length ≤ 1000) :
    Calls Tryd.prog 25 #[.agg (ansCells a v)] w fun e w' => ∃ v', e = .returned (.agg (ansCells a v')) ∧ w'.ownsRow w.heap.size 9 1 v' a.names.length (strs a.names) ∧ Ext w w' := by
  obtain ⟨hb1, hb2, hx⟩ := twoBoxes w (.cells (ansCells a v) 53) (.cells (ansCells Ans.zero nilS) 55)
  obtain ⟨wa, hwa⟩ : ∃ wa, wa = ((w.alloc (.cells (ansCells a v) 53)).alloc (.cells (ansCells Ans.zero nilS) 55)).alloc (.cells (ansCells a nilS) 55) := ⟨_, rfl⟩
  have hsz : ((w.alloc (.cells (ansCells a v) 53)).alloc (.cells (ansCells Ans.zero nilS) 55)).heap.size = w.heap.size + 2 := by simp
  have hxa : Ext w wa := by rw [hwa]; exact hx.alloc _
  have ha1 : wa.heap[w.heap.size]? = some (.cells (ansCells a v) 53 (0, 0)) := by rw [hwa]; exact ((Upd.refl Nothing _).alloc _).at_ hb1 (fun e => e)
  have ha2 : wa.heap[w.heap.size + 1]? = some (.cells (ansCells Ans.zero nilS) 55 (0, 0)) := by rw [hwa]; exact ((Upd.refl Nothing _).alloc _).at_ hb2 (fun e => e)
  have ha3 : wa.heap[w.heap.size + 2]? = some (.cells (ansCells a nilS) 55 (0, 0)) := by rw [hwa, ← hsz]; exact newAt _ _
  have hwsz : wa.heap.size = w.heap.size + 3 := by rw [hwa]; simp
  have HWA := Lib.hid hwa
  have hr := h.ext hxa
  have HR := Lib.hid hr
  obtain ⟨a1, z1, rfl, hn1, hm1, -⟩ := h
  have HXA := Lib.hid hxa
  have HA1 := Lib.hid ha1
  unfold maxLen at hm1
  obtain ⟨g, hg⟩ : ∃ g, g = w.heap.size + 2 := ⟨_, rfl⟩
  rw [← hg] at ha3
  have y1 : wa.cell? ⟨w.heap.size, 3, none⟩ = some (.slice a1 a.names.length z1) := cellAt ha1 3 _ rfl
  have y3 : wa.cell? ⟨g, 3, none⟩ = some (.slice none 0 0) := cellAt ha3 3 _ rfl
  have hgw : w.heap.size + 1 < g := by omega
  have hgs : g + 1 = wa.heap.size := by omega
  have HG := Lib.hid hg
  have HGS := Lib.hid hgs
  have HWSZ := Lib.hid hwsz
  clear hwa hb1 hb2 hx hsz ha1 hxa hr hg hgs hwsz
  simp only [ansCells]
  go_enter Tryd.func25, Tryd.ntmps25
  go_upto_region 2 with (fail)
  rw [show ((w.alloc (.cells #[.int .i64 a.err, .int .u64 a.n, str a.text, .slice a1 a.names.length z1] 53)).alloc (.cells #[.int .i64 0, .int .u64 0, .string ⟨#[]⟩, .slice none 0 0] 55)).alloc (.cells #[.int .i64 a.err, .int .u64 a.n, str a.text, .slice none 0 0] 55) = wa from HWA.out.symm]
  rw [show w.heap.size + 1 + 1 = g from HG.out.symm]
  go_wp2_with (at_builtin; go_must (refine wpList_append_row rfl _ _ _ rfl Tryd.textsT rfl (World.ownsRow_nil wa (w.heap.size + 3) 9 1) rfl HR.out (by rw [strs, List.length_map, Nat.mul_one]) (strs_one _) ?c3 ?c4 ?c5 ?_))
  case c3 => unfold maxLen; omega
  case c4 => omega
  case c5 => rw [HWSZ.out]; omega
  intro v' w5 hown5 hgrow _
  obtain ⟨va, vn, vc, rfl⟩ := ownsForm hown5
  have hno : ∀ j, (Value.slice none 0 0).ownBlock = some j → False := fun j hj => by simp [Value.ownBlock] at hj
  have gb3 := grownAt2 ha3 hgrow (fun j hj => (hno j hj).elim)
  have gb2 := grownAt2 ha2 hgrow (fun j hj => (hno j hj).elim)
  have hx5 : Ext w w5 := HXA.out.grown hgrow (fun j hj _ => hno j hj)
  have gset := setAt (j := 3) (u := .slice va vn vc) gb3
  have g13 := cellAt gb3 3 (.slice none 0 0) rfl
  have gff := freeAt gb3 3
  have gb2' : (w5.setCell ⟨g, 3, none⟩ (.slice va vn vc)).heap[w.heap.size + 1]? = some (.cells (ansCells Ans.zero nilS) 55 (0, 0)) := (Upd.own _ _ _ _).at_ gb2 (fun e => by unfold At at e; omega)
  have hx6 : Ext w (w5.setCell ⟨g, 3, none⟩ (.slice va vn vc)) := hx5.setCell (p := ⟨_, _, none⟩) (fun h => by simp only at h; omega) _
  have hown6 := (Upd.own w5 g 3 (.slice va vn vc)).ownsRow hown5 (fun j hj e => by have := (hown5.lt j hj).1; have := HG.out; unfold At at e; omega)
  have hlg := lt_of_heap gb3
  have HG5 := Lib.hid hgrow
  have HS := Lib.hid gset
  have HB2 := Lib.hid gb2'
  have HX6 := Lib.hid hx6
  have HO6 := Lib.hid hown6
  clear hgrow gb3 gb2 hx5 gset gb2' hx6 hown5 hown6 y1 y3 ha2 ha3 hno
  go_wp2_with (first | (refine wpList_load_blk rfl _ _ rfl rfl HS.out (Tryd.ransT a (.slice va vn vc)) ?_) | (refine wpList_store_blk rfl _ _ _ rfl rfl (cells := ansCells a (.slice va vn vc)) rfl HB2.out (Tryd.ransT _ _) rfl (ansCells_one _ _ _ _) ?_))
  refine bodyPost_blk rfl rfl rfl (setRow_heap _ _ _ _ _ _ HB2.out) (Tryd.ransT a (.slice va vn vc)) ?_
  have hus := Upd.row (w5.setCell ⟨g, 3, none⟩ (.slice va vn vc)) (w.heap.size + 1) (ansCells a (.slice va vn vc))
  refine ⟨_, rfl, ?_, HX6.out.step hus (fun i hi e => by unfold At at e; omega)⟩
  exact (hus.ownsRow HO6.out (fun j hj e => by have := (HO6.out.lt j hj).1; unfold At at e; omega)).mono_base (base' := w.heap.size) (by omega)
end Go.Proofs.YtlhpcgmbbeihiaaDoor
