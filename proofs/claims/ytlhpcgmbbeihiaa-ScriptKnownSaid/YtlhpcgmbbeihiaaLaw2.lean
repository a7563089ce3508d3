/-
  CONTRACTS of the law's own functions: ref.
-/
import Derived.Test.YtlhpcgmbbeihiaaLaw1
namespace Go.Proofs.Ytlhpcgmbbeihiaa
open Go.RowKit

theorem setL_size : ∀ (zs : List Value) (cs : Array Value) (o : Nat), (setL cs o zs).size = cs.size
  | [], _, _ => rfl
  | z :: zs, cs, o => by rw [setL, setL_size]; simp
theorem setL_at : ∀ (zs : List Value) (cs : Array Value) (o j : Nat), o + zs.length ≤ cs.size → (setL cs o zs)[j]? = if o ≤ j ∧ j < o + zs.length then zs[j - o]? else cs[j]?
  | [], cs, o, j, _ => by simp only [setL, List.length_nil]; rw [if_neg (by omega)]
  | z :: zs, cs, o, j, h => by
    simp only [List.length_cons] at h ⊢
    rw [setL, setL_at zs _ (o + 1) j (by simp; omega)]
    by_cases h1 : o = j
    · subst h1
      rw [if_neg (by omega), if_pos (by omega), Nat.sub_self]
      simp [Array.getElem?_setIfInBounds]; omega
    · by_cases h2 : o + 1 ≤ j ∧ j < o + 1 + zs.length
      · rw [if_pos h2, if_pos (by omega), show j - o = (j - (o + 1)) + 1 from by omega, List.getElem?_cons_succ]
      · rw [if_neg h2, if_neg (by omega), Array.getElem?_setIfInBounds, if_neg h1]
theorem setL_full (zs : List Value) (cs : Array Value) (h : cs.size = zs.length) : setL cs 0 zs = zs.toArray := by
  refine Array.ext_getElem? fun j => ?_
  rw [setL_at zs cs 0 j (by omega)]
  split
  · simp
  · rw [Array.getElem?_eq_none (by omega)]; simp; omega
/-- A world by what is known of it. -/
theorem World.gen {R : World → Prop} {w : World} (P : World → Prop) (hp : P w) (h : ∀ w2, P w2 → R w2) : R w := h w hp
def RefMid (wa : World) (B b n : Nat) (x : Ev) (v' : Value) (xs : List Value) (w2 : World) : Prop :=
  Ext wa w2 ∧ w2.heap[b]? = some (.cells (evCells x v' nilS) 61 (0, 0)) ∧ w2.ownsRow B 100 3 v' n xs
theorem ref_put {wa w1 : World} {b B n : Nat} {old : Array Value} {x : Ev} {v' : Value} {xs : List Value} (hw : Ext wa w1) (hz : w1.heap[b]? = some (.cells old 61 (0, 0))) (h14 : old.size = 14) (hb : wa.heap.size ≤ b) (ho : w1.ownsRow B 100 3 v' n xs) :
    RefMid wa B b n x v' xs ((((((((((((((w1.setCell ⟨b, 0, none⟩ (.int .u8 x.kind)).setCell ⟨b, 1, none⟩ (.int .i64 x.proc)).setCell ⟨b, 2, none⟩ (.int .u8 x.op.kind)).setCell ⟨b, 3, none⟩ (.int .u64 x.op.doc)).setCell ⟨b, 4, none⟩ (str x.op.name)).setCell ⟨b, 5, none⟩ (str x.op.to)).setCell ⟨b, 6, none⟩ (str x.op.text)).setCell ⟨b, 7, none⟩ (v')).setCell ⟨b, 8, none⟩ (.int .u64 x.op.epoch)).setCell ⟨b, 9, none⟩ (.int .u64 x.op.version)).setCell ⟨b, 10, none⟩ (.int .u64 x.op.dur)).setCell ⟨b, 11, none⟩ (.int .u64 x.by_)).setCell ⟨b, 12, none⟩ (.int .i64 x.ops)).setCell ⟨b, 13, none⟩ (.slice none 0 0)) := by
  have hc := Upd.cells b (evCells x v' nilS).toList w1 0
  have hd := setCellsAt (evCells x v' nilS).toList w1 0 _ hz
  rw [setL_full _ _ h14] at hd
  have h : RefMid wa B b n x v' xs (w1.setCells b 0 (evCells x v' nilS).toList) := ⟨hw.step hc (fun i hi e => by unfold At at e; omega), hd, hc.ownsT ho (fun k cur hk => by cases hk; exact tag_ne hz (by decide))⟩
  simpa only [evCells, World.setCells, Nat.zero_add, Nat.reduceAdd] using h

set_option maxRecDepth 100000 in
set_option maxHeartbeats 2000000 in
theorem ref_any {S T : Nat → Prop} (w : World) (x : Ev) (v u : Value) (h : Row S w v x.op.edits.length (editCells x.op.edits)) (f : Row T w u x.keep.length (bools x.keep)) (hl : x.op.edits.length ≤ 1000) (hk : x.keep.length ≤ 1000) :
    Calls Try.prog 28 #[.agg (evCells x v u)] w fun e w' => ∃ v' u', e = .returned (.agg (evCells x v' u')) ∧ w'.ownsRow w.heap.size 100 3 v' x.op.edits.length (editCells x.op.edits) ∧ w'.ownsRow w.heap.size 4 1 u' x.keep.length (bools x.keep) ∧ Ext w w' := by
  obtain ⟨hb1, hb2, hx⟩ := twoBoxes w (.cells (evCells x v u) 44) (.cells (evCells (Ev.zero 0 0) nilS nilS) 61)
  obtain ⟨wa, hwa⟩ : ∃ wa, wa = (w.alloc (.cells (evCells x v u) 44)).alloc (.cells (evCells (Ev.zero 0 0) nilS nilS) 61) := ⟨_, rfl⟩
  have hsz : wa.heap.size = w.heap.size + 2 := by rw [hwa]; simp
  rw [← hwa] at hb1 hb2 hx
  have y0 := cellAt hb1 0 (.int .u8 x.kind) rfl
  have y1 := cellAt hb1 1 (.int .i64 x.proc) rfl
  have y2 := cellAt hb1 2 (.int .u8 x.op.kind) rfl
  have y3 := cellAt hb1 3 (.int .u64 x.op.doc) rfl
  have y4 := cellAt hb1 4 (str x.op.name) rfl
  have y5 := cellAt hb1 5 (str x.op.to) rfl
  have y6 := cellAt hb1 6 (str x.op.text) rfl
  have y7 := cellAt hb1 7 v rfl
  have y8 := cellAt hb1 8 (.int .u64 x.op.epoch) rfl
  have y9 := cellAt hb1 9 (.int .u64 x.op.version) rfl
  have y10 := cellAt hb1 10 (.int .u64 x.op.dur) rfl
  have y11 := cellAt hb1 11 (.int .u64 x.by_) rfl
  have y12 := cellAt hb1 12 (.int .i64 x.ops) rfl
  have HWA := Lib.hid hwa
  have H := Lib.hid (h.ext hx)
  have FF := Lib.hid (f.ext hx)
  have HX := Lib.hid hx
  have HB1 := Lib.hid hb1
  have HB2 := Lib.hid hb2
  have hne1 : ¬ w.heap.size = wa.heap.size := by omega
  have hne2 : ¬ wa.heap.size = w.heap.size := by omega
  have HSZ := Lib.hid hsz
  clear hsz
  clear hwa h f hx hb1 hb2
  simp only [evCells]
  go_enter Try.func28, Try.ntmps28
  go_wp2_with fail
  rw [show (w.alloc (.cells #[.int .u8 x.kind, .int .i64 x.proc, .int .u8 x.op.kind, .int .u64 x.op.doc, str x.op.name, str x.op.to, str x.op.text, v, .int .u64 x.op.epoch, .int .u64 x.op.version, .int .u64 x.op.dur, .int .u64 x.by_, .int .i64 x.ops, u] 44)).alloc (.cells #[.int .u8 0, .int .i64 0, .int .u8 0, .int .u64 0, .string ⟨#[]⟩, .string ⟨#[]⟩, .string ⟨#[]⟩, .slice none 0 0, .int .u64 0, .int .u64 0, .int .u64 0, .int .u64 0, .int .i64 0, .slice none 0 0] 61) = wa from HWA.out.symm]
  go_region_held3 (fun w' => w'.cell? ⟨w.heap.size, 0, none⟩ = some (.int .u8 x.kind) ∧ w'.cell? ⟨w.heap.size, 1, none⟩ = some (.int .i64 x.proc) ∧ w'.cell? ⟨w.heap.size, 2, none⟩ = some (.int .u8 x.op.kind) ∧ w'.cell? ⟨w.heap.size, 3, none⟩ = some (.int .u64 x.op.doc) ∧ w'.cell? ⟨w.heap.size, 4, none⟩ = some (str x.op.name) ∧ w'.cell? ⟨w.heap.size, 5, none⟩ = some (str x.op.to) ∧ w'.cell? ⟨w.heap.size, 6, none⟩ = some (str x.op.text) ∧ w'.cell? ⟨w.heap.size, 7, none⟩ = some (v) ∧ w'.cell? ⟨w.heap.size, 8, none⟩ = some (.int .u64 x.op.epoch) ∧ w'.cell? ⟨w.heap.size, 9, none⟩ = some (.int .u64 x.op.version) ∧ w'.cell? ⟨w.heap.size, 10, none⟩ = some (.int .u64 x.op.dur) ∧ w'.cell? ⟨w.heap.size, 11, none⟩ = some (.int .u64 x.by_) ∧ w'.cell? ⟨w.heap.size, 12, none⟩ = some (.int .i64 x.ops)) (first | go_keep | exact ⟨s0, s1, s2, s3, s4, s5, s6, s7, s8, s9, s10, s11, s12⟩)
    ((go_at_call 42; refine (operation_any _ x.op v (by first | exact H.out.ext ((Upd.refl _ wa).drew) | exact H.out.ext (((Upd.refl _ wa).alloc _).drew)) hl).mono ?_; rintro e w1 ⟨v', rfl, ho, hu⟩; obtain ⟨va, vn, vc, rfl⟩ := ownsForm ho; unfold opCells; have hw1 : Ext wa w1 := (by first | exact (((Upd.refl _ wa).drew).trans hu) | exact ((((Upd.refl _ wa).alloc _).drew).trans hu)); (first | (have hw2 : Ext wa.drew w1 := hu; clear hw2) | (have hz := hu.at_ (show (wa.alloc (.cells (evCells (Ev.zero 0 0) nilS nilS) 61)).drew.heap[wa.heap.size]? = some (.cells (evCells (Ev.zero 0 0) nilS nilS) 61 (0, 0)) from newAt _ _) (fun e => e); have ff := freeAt hz; have f0 := ff 0; have f1 := ff 1; have f2 := ff 2; have f3 := ff 3; have f4 := ff 4; have f5 := ff 5; have f6 := ff 6; have f7 := ff 7; have f8 := ff 8; have f9 := ff 9; have f10 := ff 10; have f11 := ff 11; have f12 := ff 12; have f13 := ff 13; have z0 := cellAt hz 0 (.int .u8 0) rfl; have z1 := cellAt hz 1 (.int .i64 0) rfl; have z2 := cellAt hz 2 (.int .u8 0) rfl; have z3 := cellAt hz 3 (.int .u64 0) rfl; have z4 := cellAt hz 4 (str []) rfl; have z5 := cellAt hz 5 (str []) rfl; have z6 := cellAt hz 6 (str []) rfl; have z7 := cellAt hz 7 (nilS) rfl; have z8 := cellAt hz 8 (.int .u64 0) rfl; have z9 := cellAt hz 9 (.int .u64 0) rfl; have z10 := cellAt hz 10 (.int .u64 0) rfl; have z11 := cellAt hz 11 (.int .u64 0) rfl; have z12 := cellAt hz 12 (.int .i64 0) rfl; have z13 := cellAt hz 13 (nilS) rfl)); have s0 := hw1.cell y0 (fun e => e); have s1 := hw1.cell y1 (fun e => e); have s2 := hw1.cell y2 (fun e => e); have s3 := hw1.cell y3 (fun e => e); have s4 := hw1.cell y4 (fun e => e); have s5 := hw1.cell y5 (fun e => e); have s6 := hw1.cell y6 (fun e => e); have s7 := hw1.cell y7 (fun e => e); have s8 := hw1.cell y8 (fun e => e); have s9 := hw1.cell y9 (fun e => e); have s10 := hw1.cell y10 (fun e => e); have s11 := hw1.cell y11 (fun e => e); have s12 := hw1.cell y12 (fun e => e)))
  · refine World.gen (RefMid wa w.heap.size w1.heap.size x.op.edits.length x (.slice va vn vc) (editCells x.op.edits)) ?_ ?_
    · exact ⟨hw1.alloc _, newAt _ _, (ho.mono_base (by have := HSZ.out; show _ ≤ wa.heap.size; omega)).alloc _⟩
    · have hbw : w.heap.size + 1 < w1.heap.size := by have := HSZ.out; have := hw1.size; omega
      clear hu hw1 ho
      generalize w1.heap.size = b at hbw ⊢
      rename_i hHeld
      rintro w2 ⟨hx2, hb2, ho2⟩
      clear s0 s1 s2 s3 s4 s5 s6 s7 s8 s9 s10 s11 s12 hHeld y0 y1 y2 y3 y4 y5 y6 y7 y8 y9 y10 y11 y12 hne1 hne2
      have FW := Lib.hid (FF.out.ext hx2)
      have q13 := hx2.cell (cellAt HB1.out 13 u rfl) id
      have z13 := cellAt hb2 13 (.slice none 0 0) rfl
      have HX2 := Lib.hid (HX.out.trans hx2)
      have HBB := Lib.hid (hx2.at_ HB2.out id)
      have HO2 := Lib.hid ho2
      have HB2' := Lib.hid hb2
      clear hx2 ho2 hb2
      go_wp2_with (at_builtin; go_must (refine wpList_append_row rfl _ _ _ rfl Try.boolsT rfl (World.ownsRow_nil _ w2.heap.size _ _) rfl FW.out (by simp [bools]) (by intro u hu; obtain ⟨b, _, rfl⟩ := List.mem_map.1 hu; rfl) ?k3 ?k4 (Nat.le_refl _) ?_))
      case k3 => unfold maxLen; omega
      case k4 => omega
      intro v3 w3 hown3 hg3 _
      obtain ⟨ka, kn, kc, rfl⟩ := ownsForm hown3
      have hu3 : Ext w2 w3 := (Upd.refl _ _).grown hg3 (fun k e => by simp [Value.ownBlock] at e)
      have hb3 := hu3.at_ HB2'.out id
      have y13 := cellAt hb3 13 (.slice none 0 0) rfl
      have f13 := freeAt hb3 13
      have hu4 := Upd.own w3 b 13 (.slice ka kn kc)
      have hb4 : (w3.setCell ⟨b, 13, none⟩ (.slice ka kn kc)).heap[b]? = some (.cells (evCells x (.slice va vn vc) (.slice ka kn kc)) 61 (0, 0)) := setAt hb3
      have hbb4 : (w3.setCell ⟨b, 13, none⟩ (.slice ka kn kc)).heap[w.heap.size + 1]? = some (.cells (evCells (Ev.zero 0 0) nilS nilS) 61 (0, 0)) := hu4.at_ (hu3.at_ HBB.out id) (fun e => by unfold At at e; omega)
      have hus := Upd.row (w3.setCell ⟨b, 13, none⟩ (.slice ka kn kc)) (w.heap.size + 1) (evCells x (.slice va vn vc) (.slice ka kn kc))
      have HG3 := Lib.hid hg3
      have HOWN := Lib.hid hown3
      have HU3 := Lib.hid hu3
      have HU4 := Lib.hid hu4
      have HB3 := Lib.hid hb3
      clear hg3 hu3 hu4 hb3 hown3
      go_wp2_with (first | (refine wpList_load_blk rfl _ _ rfl rfl hb4 (Try.revT _ _ _) ?_) | (refine wpList_store_blk rfl _ _ _ rfl rfl (cells := evCells x (.slice va vn vc) (.slice ka kn kc)) rfl hbb4 (Try.revT _ _ _) rfl (evCells_one _ _ _ _ _ _ _) ?_))
      refine bodyPost_blk rfl rfl rfl (setRow_heap _ _ _ _ _ _ hbb4) (Try.revT _ _ _) ?_
      have hwu : w.heap.size ≤ w2.heap.size := HX2.out.size
      refine ⟨_, _, rfl, ?_, ?_, ?_⟩
      · exact hus.ownsT (HU4.out.ownsT (HU3.out.ownsRow HO2.out (fun _ _ e => e)) (fun k cur hk => by cases hk; exact tag_ne HB3.out (by decide))) (fun k cur hk => by cases hk; exact tag_ne hbb4 (by decide))
      · exact (hus.ownsT (HU4.out.ownsT (by simpa using HOWN.out) (fun k cur hk => by cases hk; exact tag_ne HB3.out (by decide))) (fun k cur hk => by cases hk; exact tag_ne hbb4 (by decide))).mono_base hwu
      · exact ((HX2.out.trans HU3.out).step HU4.out (fun i hi e => by unfold At at e; omega)).step hus (fun i hi e => by unfold At at e; omega)
  · refine World.gen (RefMid wa w.heap.size wa.heap.size x.op.edits.length x (.slice va vn vc) (editCells x.op.edits)) ?_ ?_
    · exact ref_put hw1 hz rfl (Nat.le_refl _) (ho.mono_base (by have := HSZ.out; simp; omega))
    · have hbw : w.heap.size + 1 < wa.heap.size := by have := HSZ.out; omega
      rename_i hHeld
      clear hu hw1 ho hz ff s0 s1 s2 s3 s4 s5 s6 s7 s8 s9 s10 s11 s12 f0 f1 f2 f3 f4 f5 f6 f7 f8 f9 f10 f11 f12 f13 z0 z1 z2 z3 z4 z5 z6 z7 z8 z9 z10 z11 z12 z13 hne1 hne2 hHeld y0 y1 y2 y3 y4 y5 y6 y7 y8 y9 y10 y11 y12
      generalize hbq : wa.heap.size = b at hbw ⊢
      have HBQ := Lib.hid hbq
      clear hbq
      rintro w2 ⟨hx2, hb2, ho2⟩
      have FW := Lib.hid (FF.out.ext hx2)
      have q13 := hx2.cell (cellAt HB1.out 13 u rfl) id
      have z13 := cellAt hb2 13 (.slice none 0 0) rfl
      have HX2 := Lib.hid (HX.out.trans hx2)
      have HBB := Lib.hid (hx2.at_ HB2.out id)
      have HO2 := Lib.hid ho2
      have HB2' := Lib.hid hb2
      clear hx2 ho2 hb2
      go_wp2_with (at_builtin; go_must (refine wpList_append_row rfl _ _ _ rfl Try.boolsT rfl (World.ownsRow_nil _ w2.heap.size _ _) rfl FW.out (by simp [bools]) (by intro u hu; obtain ⟨b, _, rfl⟩ := List.mem_map.1 hu; rfl) ?k3 ?k4 (Nat.le_refl _) ?_))
      case k3 => unfold maxLen; omega
      case k4 => omega
      intro v3 w3 hown3 hg3 _
      obtain ⟨ka, kn, kc, rfl⟩ := ownsForm hown3
      have hu3 : Ext w2 w3 := (Upd.refl _ _).grown hg3 (fun k e => by simp [Value.ownBlock] at e)
      have hb3 := hu3.at_ HB2'.out id
      have y13 := cellAt hb3 13 (.slice none 0 0) rfl
      have f13 := freeAt hb3 13
      have hu4 := Upd.own w3 b 13 (.slice ka kn kc)
      have hb4 : (w3.setCell ⟨b, 13, none⟩ (.slice ka kn kc)).heap[b]? = some (.cells (evCells x (.slice va vn vc) (.slice ka kn kc)) 61 (0, 0)) := setAt hb3
      have hbb4 : (w3.setCell ⟨b, 13, none⟩ (.slice ka kn kc)).heap[w.heap.size + 1]? = some (.cells (evCells (Ev.zero 0 0) nilS nilS) 61 (0, 0)) := hu4.at_ (hu3.at_ HBB.out id) (fun e => by unfold At at e; omega)
      have hus := Upd.row (w3.setCell ⟨b, 13, none⟩ (.slice ka kn kc)) (w.heap.size + 1) (evCells x (.slice va vn vc) (.slice ka kn kc))
      have HG3 := Lib.hid hg3
      have HOWN := Lib.hid hown3
      have HU3 := Lib.hid hu3
      have HU4 := Lib.hid hu4
      have HB3 := Lib.hid hb3
      clear hg3 hu3 hu4 hb3 hown3
      go_wp2_with (first | (refine wpList_load_blk rfl _ _ rfl rfl hb4 (Try.revT _ _ _) ?_) | (refine wpList_store_blk rfl _ _ _ rfl rfl (cells := evCells x (.slice va vn vc) (.slice ka kn kc)) rfl hbb4 (Try.revT _ _ _) rfl (evCells_one _ _ _ _ _ _ _) ?_))
      refine bodyPost_blk rfl rfl rfl (setRow_heap _ _ _ _ _ _ hbb4) (Try.revT _ _ _) ?_
      have hwu : w.heap.size ≤ w2.heap.size := HX2.out.size
      refine ⟨_, _, rfl, ?_, ?_, ?_⟩
      · exact hus.ownsT (HU4.out.ownsT (HU3.out.ownsRow HO2.out (fun _ _ e => e)) (fun k cur hk => by cases hk; exact tag_ne HB3.out (by decide))) (fun k cur hk => by cases hk; exact tag_ne hbb4 (by decide))
      · exact (hus.ownsT (HU4.out.ownsT (by simpa using HOWN.out) (fun k cur hk => by cases hk; exact tag_ne HB3.out (by decide))) (fun k cur hk => by cases hk; exact tag_ne hbb4 (by decide))).mono_base hwu
      · exact ((HX2.out.trans HU3.out).step HU4.out (fun i hi e => by unfold At at e; omega)).step hus (fun i hi e => by unfold At at e; omega)
end Go.Proofs.Ytlhpcgmbbeihiaa
