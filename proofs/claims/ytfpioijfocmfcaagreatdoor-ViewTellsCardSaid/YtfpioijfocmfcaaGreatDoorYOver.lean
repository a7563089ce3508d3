/-
  CONTRACTS of view's Keep.earlier, Keep.done, Keep.over, and of View.Void, View.Next. No condition.
-/
import Derived.Test.YtfpioijfocmfcaaGreatDoorYOf
import Derived.Test.YtfpioijfocmfcaaGreatDoorYLay
import Derived.Laws.StructEq
namespace Go.Proofs.YtfpioijfocmfcaaGreatDoor
open Go.RowKit Go.Shelf Go.Lib

set_option maxRecDepth 100000 in
set_option maxHeartbeats 1000000 in
theorem earlier_any {S : Nat → Prop} (w : World) (a b c : Value) (q : Option Mk) (m : Mk) (h : OwnIs S w c q) :
    Calls Tryz.prog 44 #[.agg #[a, b, c], .agg (mkCells m)] w fun e w' => e = .returned (.bool (earlierF q m)) ∧ Ext w w' := by
  show Calls Tryz.prog 44 #[.agg #[a, b, c], .agg #[.int .u64 m.proc, .int .u64 m.inc, .int .u64 m.k]] w _
  have HX := Lib.hid (show Ext w ((w.alloc (.cells #[a, b, c] 28)).alloc (.cells #[.int .u64 m.proc, .int .u64 m.inc, .int .u64 m.k] 61)) from ((Upd.refl _ _).alloc _).alloc _)
  cases q with
  | none =>
    have h : c = .pointer none := h
    subst h
    go_enter Tryz.func44, Tryz.ntmps44
    go_wp2
    go_quiet (fail)
    go_wp2
    go_ret
    exact ⟨rfl, HX.out.drewN _⟩
  | some q =>
    obtain ⟨g, o, rfl, -, hr⟩ := h
    have c0 := hr 0 (u64 q.proc) rfl
    have c1 := hr 1 (u64 q.inc) rfl
    rw [Nat.add_zero] at c0
    have hg := World.block_lt_of_cell? w ⟨g, o, none⟩ c0
    clear hr
    by_cases hp : m.proc = q.proc
    · have f0 : ((m.proc : Int) == (q.proc : Int)) = true := by simp [hp]
      have HR := Lib.hid (show earlierF (some q) m = decide (m.inc < q.inc) by simp [earlierF, hp])
      clear hp
      go_enter Tryz.func44, Tryz.ntmps44
      go_wp2
      go_quiet (fail)
      go_wp2
      go_ret
      exact ⟨by rw [HR.out]; rfl, HX.out.drewN _⟩
    · have f0 : ((m.proc : Int) == (q.proc : Int)) = false := by simp; omega
      have HR := Lib.hid (show earlierF (some q) m = false by simp [earlierF, hp])
      clear hp
      go_enter Tryz.func44, Tryz.ntmps44
      go_wp2
      go_quiet (fail)
      go_wp2
      go_ret
      exact ⟨by rw [HR.out]; rfl, HX.out.drewN _⟩
/-- The closure of Keep.done: is it the same life's? -/
theorem same_pred (m : Mk) (B : Nat) (w : World) {T : TypeId} (hb : w.heap[B]? = some (.cells #[.int .u64 m.proc, .int .u64 m.inc, .int .u64 m.k] T (0, 0))) :
    PredBelow Tryz.prog 64 #[.pointer (some ⟨B, 0, none⟩)] (fun x => .agg (encM x).toArray) (sameL m) w := fun W x hbw => by
  have hB := lt_of_heap hb
  have hbW : W.heap[B]? = some (.cells #[.int .u64 m.proc, .int .u64 m.inc, .int .u64 m.k] T (0, 0)) := (hbw.block B hB).trans hb
  have hBW := lt_of_heap hbW
  have c0 := cellAt hbW 0 _ rfl
  have c1 := cellAt hbW 1 _ rfl
  clear hbW hb
  have HB := Lib.hid hbw
  clear hbw
  show Calls Tryz.prog 64 #[.agg #[.int .u64 x.proc, .int .u64 x.inc, .int .u64 x.k], .pointer (some ⟨B, 0, none⟩)] W _
  by_cases hp : x.proc = m.proc
  · have f0 : ((x.proc : Int) == (m.proc : Int)) = true := by simp [hp]
    have HR := Lib.hid (show sameL m x = ((x.inc : Int) == (m.inc : Int)) by rw [Bool.eq_iff_iff]; simp [sameL, hp]; omega)
    clear hp
    go_enter Tryz.func64, Tryz.ntmps64
    go_wp2
    go_ret
    exact ⟨by rw [HR.out]; rfl, HB.out.alloc HB.out.size _⟩
  · have f0 : ((x.proc : Int) == (m.proc : Int)) = false := by simp; omega
    have HR := Lib.hid (show sameL m x = false by simp [sameL, hp])
    clear hp
    go_enter Tryz.func64, Tryz.ntmps64
    go_wp2
    go_ret
    exact ⟨by rw [HR.out]; rfl, HB.out.alloc HB.out.size _⟩
/-- Of no element. -/
theorem idx_none (p : Option Addr) (cap : Nat) (f : Value) (w : World) : Calls Tryz.prog 63 #[.slice p 0 cap, f] w fun e w' => e = .returned (.int .i64 (-1)) ∧ Ext w w' := by
  go_enter Tryz.func63, Tryz.ntmps63
  go_wp2
  refine wp_loop_rounds 1 ?_
  rw [rounds_succ]
  go_wp2
  go_ret
  exact ⟨rfl, Upd.refl _ _⟩
set_option maxRecDepth 100000 in
set_option maxHeartbeats 1000000 in
theorem done_any {S : Nat → Prop} (w : World) (a b c : Value) (l : List Mk) (m : Mk) (h : MkRow S w b l) :
    Calls Tryz.prog 46 #[.agg #[a, b, c], .agg (mkCells m)] w fun e w' => e = .returned (.bool (doneF l m)) ∧ Ext w w' := by
  show Calls Tryz.prog 46 #[.agg #[a, b, c], .agg #[.int .u64 m.proc, .int .u64 m.inc, .int .u64 m.k]] w _
  obtain ⟨w2, hw2⟩ : ∃ u, u = (w.alloc (.cells #[a, b, c] 28)).alloc (.cells #[.int .u64 m.proc, .int .u64 m.inc, .int .u64 m.k] 61) := ⟨_, rfl⟩
  have hx2 : Ext w w2 := by rw [hw2]; exact ((Upd.refl _ _).alloc _).alloc _
  have hK : w2.heap[w.heap.size]? = some (.cells #[a, b, c] 28 (0, 0)) := by
    rw [hw2]; exact (Below.heap_alloc _ _ _ (by simp)).trans (newAt _ _)
  have hM : w2.heap[w.heap.size + 1]? = some (.cells #[.int .u64 m.proc, .int .u64 m.inc, .int .u64 m.k] 61 (0, 0)) := by
    rw [hw2]; have := newAt (w.alloc (.cells #[a, b, c] 28)) (.cells #[.int .u64 m.proc, .int .u64 m.inc, .int .u64 m.k] 61); simpa using this
  have hr := h.ext hx2
  have HW2 := Lib.hid hw2
  have HX2 := Lib.hid hx2
  have HK := Lib.hid hK
  have HM := Lib.hid hM
  have HR := Lib.hid hr
  obtain ⟨ad, cp, rfl, -, -, -⟩ := hr
  clear hw2 hx2 hK hM h
  go_enter Tryz.func46, Tryz.ntmps46
  go_wp2_with (go_at_call 63; fail)
  rw [show (w.alloc (.cells #[a, .slice ad l.length cp, c] 28)).alloc (.cells #[.int .u64 m.proc, .int .u64 m.inc, .int .u64 m.k] 61) = w2 from HW2.out.symm]
  by_cases hl : l = []
  · subst hl
    refine (idx_none ad cp _ w2).mono ?_
    rintro e w3 ⟨rfl, hx3⟩
    have HX3 := Lib.hid (HX2.out.trans hx3)
    clear hx3
    go_wp2
    go_quiet (fail)
    go_wp2
    go_ret
    exact ⟨rfl, HX3.out.drewN _⟩
  have hpos : 0 < l.length := List.length_pos_iff.2 hl
  obtain ⟨b1, o1, c1, e1, -, hn1, hm1, hq⟩ := HR.out.addr hpos
  cases e1
  have hb1 : b1 < w2.heap.size := World.block_lt_of_cell? w2 ⟨b1, o1 + 0 * 3 + 0, none⟩ (mk_cells hq hpos 0 _ rfl)
  unfold maxLen at hm1
  have hcon := AnyQ.slices_IndexFunc (P := Tryz.prog) Tryz.idxM 3 Tryz.isAgg61 Tryz.sizeOf61 encM (fun _ => rfl) (sameL m) 64 #[.pointer (some ⟨w.heap.size + 1, 0, none⟩)] (enters_of Tryz.func64 (by kernel_rfl) rfl)
    b1 o1 l.length cp l w2 (same_pred m _ w2 HM.out) (Nat.le_refl _) (by omega) hb1 (mk_holds hq)
  change Calls Tryz.prog 63 _ _ _ at hcon
  rw [List.take_length] at hcon
  refine hcon.mono ?_
  rintro e w3 ⟨rfl, hb3⟩
  have hx3 := ext_below hb3
  have HX3 := Lib.hid (HX2.out.trans hx3)
  have HK3 := Lib.hid (hx3.at_ HK.out id)
  have HM3 := Lib.hid (hx3.at_ HM.out id)
  have hf := idx_find (sameL m) l 0
  change (Lib.idxBy (fun _ y => sameL m y) l default = -1 ∧ _) ∨ (∃ k, ∃ h : k < l.length, Lib.idxBy (fun _ y => sameL m y) l default = _ ∧ _) at hf
  clear hcon hb3
  rcases hf with ⟨hf1, hf2⟩ | ⟨k, hk, hf1, hf2⟩
  · rw [hf1]
    have HD := Lib.hid (show doneF l m = false by unfold doneF; rw [hf2])
    clear hf1 hf2 hx3 hq
    go_wp2
    go_quiet (fail)
    go_wp2
    go_ret
    exact ⟨by rw [HD.out]; rfl, HX3.out.drewN _⟩
  · rw [hf1]
    have HD := Lib.hid (show doneF l m = decide (m.k ≤ (l[k]).k) by unfold doneF; rw [hf2])
    have d0 := hx3.cell (mk_cells hq hk 2 (u64 (l[k]).k) rfl) id
    have d1 := cellAt HK3.out 1 _ rfl
    have d2 := cellAt HM3.out 2 _ rfl
    have hki : ((0 + k : Nat) : Int) = (k : Int) := by omega
    rw [hki]
    have hk' : (k : Int) < (l.length : Int) := by omega
    generalize (l[k]).k = z at HD d0
    clear hf1 hf2 hx3 hq hki
    go_wp2
    go_quiet (fail)
    go_wp2
    go_ret
    exact ⟨by rw [HD.out]; rfl, HX3.out.drewN _⟩
end Go.Proofs.YtfpioijfocmfcaaGreatDoor
