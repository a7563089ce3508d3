/-
  CONTRACT of chartroomref29.Read, at most 65536 bytes.
-/
import Derived.Test.YtlhpcgmbbeihiaaRef29d
namespace Go.Proofs.Ytlhpcgmbbeihiaa
open Go.RowKit

theorem Try.rcfgT (c : Cfg) : StructT Try.prog 27 (cfgCells c).size := ⟨_, Try.underlying27, rfl, by kernel_rfl⟩
theorem Try.reventsT : SliceT Try.prog 28 61 14 168 := sliceT_of Try.underlying28 (by kernel_rfl) (by decide)

/-- An event of the reference's, its rows the call's own. -/
def REvOwn (B : Nat) (w : World) (cs : List Value) (e : Ev) : Prop :=
  ∃ ve vk, cs = (evCells e ve vk).toList ∧ w.ownsRow B 100 3 ve e.op.edits.length (editCells e.op.edits) ∧ w.ownsRow B 4 1 vk e.keep.length (bools e.keep)
def REvsOwn (B : Nat) (w : World) (v : Value) (l : List Ev) : Prop :=
  ∃ css : List (List Value), css.length = l.length ∧ w.ownsRow B 61 14 v l.length css.flatten ∧ ∀ (i : Nat) (cs : List Value) (e : Ev), css[i]? = some cs → l[i]? = some e → REvOwn B w cs e
theorem REvOwn.upd {B : Nat} {S : Nat → Prop} {w w' : World} {cs : List Value} {e : Ev} (h : REvOwn B w cs e) (hu : Upd S w w') (hS : ∀ k cur, S k → w.heap[k]? ≠ some (.cells cur 100 (0, 0)) ∧ w.heap[k]? ≠ some (.cells cur 4 (0, 0))) : REvOwn B w' cs e := by
  obtain ⟨ve, vk, hc, h1, h2⟩ := h
  exact ⟨ve, vk, hc, hu.ownsT h1 (fun k cur hs => (hS k cur hs).1), hu.ownsT h2 (fun k cur hs => (hS k cur hs).2)⟩
theorem REvOwn.ext {B : Nat} {w w' : World} {cs : List Value} {e : Ev} (h : REvOwn B w cs e) (hu : Ext w w') : REvOwn B w' cs e := h.upd hu (fun _ _ e => e.elim)
theorem REvsOwn.snoc {B : Nat} {w5 w6 : World} {v v' : Value} {l : List Ev} {e : Ev} {css : List (List Value)} {ve vk : Value} {ob : Obj} (hl : css.length = l.length)
    (hev : ∀ (i : Nat) (cs : List Value) (e : Ev), css[i]? = some cs → l[i]? = some e → REvOwn B w5 cs e) (h1 : w5.ownsRow B 100 3 ve e.op.edits.length (editCells e.op.edits)) (h2 : w5.ownsRow B 4 1 vk e.keep.length (bools e.keep))
    (hv : w5.ownsRow B 61 14 v l.length css.flatten) (hown : w6.ownsRow B 61 14 v' (l.length + 1) (css.flatten ++ (evCells e ve vk).toList)) (hg : (w5.alloc ob).grownBy w6 v.ownBlock) : REvsOwn B w6 v' (l ++ [e]) := by
  have hu : Upd (fun k => v.ownBlock = some k) w5 w6 := ((Upd.refl (fun k => v.ownBlock = some k) w5).alloc ob).trans (grownUpd hg)
  have hS : ∀ k cur, v.ownBlock = some k → w5.heap[k]? ≠ some (.cells cur 100 (0, 0)) ∧ w5.heap[k]? ≠ some (.cells cur 4 (0, 0)) := fun k cur hk => by
    obtain ⟨c0, h0⟩ := owns_tag hv hk
    exact ⟨tag_ne h0 (by decide), tag_ne h0 (by decide)⟩
  refine ⟨css ++ [(evCells e ve vk).toList], by simp [hl], by simpa using hown, fun i cs x hi hx => ?_⟩
  by_cases hlt : i < l.length
  · rw [List.getElem?_append_left (by omega)] at hi
    rw [List.getElem?_append_left hlt] at hx
    exact (hev i cs x hi hx).upd hu hS
  · have hil : i = l.length := by have := (List.getElem?_eq_some_iff.1 hx).1; simp at this; omega
    subst hil
    rw [List.getElem?_append_right (by omega)] at hi
    simp [hl] at hi hx
    subst hi; subst hx
    exact REvOwn.upd ⟨ve, vk, rfl, h1, h2⟩ hu hS

theorem opF_le (l : List UInt8) : (opF l).2 ≤ 81 := by
  have h1 : opF l = opState l (partsF (opKind l)) (partsF (opKind l)).length := by rw [opState, List.take_length]; rfl
  have h2 := opState_le l (partsF (opKind l)) (partsF (opKind l)).length
  have h3 := partsLen (opKind l) (by unfold opKind; omega)
  rw [h1]; omega
theorem eventF_le (n : Nat) (l : List UInt8) : (eventF n l).2 ≤ 83 := by
  have := opF_le (l.drop 2)
  unfold eventF; dsimp only; repeat' split
  all_goals simp only []
  all_goals omega

set_option maxRecDepth 100000 in
set_option maxHeartbeats 1000000 in
theorem rread_any {S : Nat → Prop} (w : World) (v : Value) (l : List UInt8) (hb : Bytes S w v l) (hl : l.length ≤ 65536) :
    Calls Try.prog 9 #[v] w fun e w' => ∃ v', e = .returned (.tuple #[.agg (cfgCells (readF l).1), v']) ∧ REvsOwn w.heap.size w' v' (readF l).2 ∧ Ext w w' := by
  have hb' := hb
  obtain ⟨a, cc, rfl, h1, h2, h3⟩ := hb
  clear h3
  unfold maxLen at h2
  obtain ⟨wa, hwa⟩ : ∃ wa, wa = w.alloc (.cells (cfgCells ⟨0, 0, 0, 0⟩) 27) := ⟨_, rfl⟩
  have hsa : wa.heap.size = w.heap.size + 1 := by rw [hwa]; simp
  have hua : Ext w wa := by rw [hwa]; exact (Upd.refl _ _).alloc _
  have hrba : wa.heap[w.heap.size]? = some (.cells (cfgCells ⟨0, 0, 0, 0⟩) 27 (0, 0)) := by rw [hwa]; exact newAt _ _
  have HB := Lib.hid hb'
  have HBA := Lib.hid (hb'.ext hua)
  clear hb'
  have hng : ¬ (65536 : Int) < (l.length : Int) := by omega
  go_enter Try.func9, Try.ntmps9
  go_wp2_with (go_at_call 24; fail)
  rw [show w.alloc (Obj.cells #[Value.int IntKind.i64 0, Value.int IntKind.u64 0, Value.int IntKind.i64 0, Value.int IntKind.i64 0] 27) = wa from hwa.symm]
  have HWA := Lib.hid hwa
  have HSA := Lib.hid hsa
  clear hwa hsa
  refine (rat_any _ _ _ HBA.out _ 0 rfl).mono ?_
  rintro e w1 ⟨c1, rfl, hc1, HC1, rfl⟩
  go_wp2_with (go_at_call 24; fail)
  refine (rat_any _ _ _ HBA.out _ 1 rfl).mono ?_
  rintro e w1 ⟨c2, rfl, hc2, HC2, rfl⟩
  go_wp2_with (go_at_call 24; fail)
  refine (rat_any _ _ _ HBA.out _ 2 rfl).mono ?_
  rintro e w1 ⟨c3, rfl, hc3, HC3, rfl⟩
  go_wp2_with (go_at_call 24; fail)
  refine (rat_any _ _ _ HBA.out _ 3 rfl).mono ?_
  rintro e w1 ⟨c4, rfl, hc4, HC4, rfl⟩
  obtain ⟨n, hn⟩ : ∃ n, n = 1 + c1 % 64 := ⟨_, rfl⟩
  have HRD := Lib.hid (readF_eq (l1 := l.drop 1) (l2 := l.drop 2) (l3 := l.drop 3) (l4 := l.drop 4) hl (by rw [HC1.out]; rfl) rfl HC2.out (by rw [List.drop_drop]) HC3.out (by rw [List.drop_drop]) HC4.out (by rw [List.drop_drop]) hn)
  have hn1 : 1 ≤ n := by omega
  have hn2 : n ≤ 64 := by omega
  have hni : (1 : Int) + (c1 : Int) % 64 = (n : Int) := by omega
  rw [hni]
  clear hni HC1 hn
  have hsz : w.heap.size < wa.heap.size := by have := HSA.out; omega
  have hbc := newAt wa (.cells (cfgCells ⟨(n : Int), c2, 16 * (1 + (c3 : Int)), 1 + (c4 : Int)⟩) 27)
  have hrb5 := ((Upd.refl Nothing wa).alloc (.cells (cfgCells ⟨(n : Int), c2, 16 * (1 + (c3 : Int)), 1 + (c4 : Int)⟩) 27)).at_ hrba (fun e => e)
  have hu05 := hua.alloc (.cells (cfgCells ⟨(n : Int), c2, 16 * (1 + (c3 : Int)), 1 + (c4 : Int)⟩) 27)
  clear hrba hua
  go_wp2_with fail
  go_loopw [5, 6] (fun v q wr => ∃ (dn : List Ev) (j : Nat) (m : Nat), q = .int .i64 j ∧ j ≤ l.length + 100 ∧ eventsF n l.length (l.drop 4) = dn ++ eventsF n m (l.drop j) ∧ (l.drop j).length ≤ m ∧ dn.length + m = l.length ∧ Ext w wr ∧
      wr.heap[wa.heap.size]? = some (.cells (cfgCells ⟨(n : Int), c2, 16 * (1 + (c3 : Int)), 1 + (c4 : Int)⟩) 27 (0, 0)) ∧ wr.heap[w.heap.size]? = some (.cells (cfgCells ⟨0, 0, 0, 0⟩) 27 (0, 0)) ∧ REvsOwn w.heap.size wr v dn)
    (fun _ q _ => l.length - (intOf q).toNat)
  case atStart => exact ⟨[], 4, l.length, rfl, by omega, rfl, by simp, by simp, hu05, hbc, hrb5, [], rfl, World.ownsRow_nil _ _ _ _, fun i cs e h => by simp at h⟩
  case round =>
    obtain ⟨dn, j, m, rfl, hjb, he, hrm, hdm, hu, hbcr, hrbr, css, hcl, hown, hev⟩ := hrel
    have HE := Lib.hid he
    have HEV := Lib.hid hev
    have HCL := Lib.hid hcl
    have HRM := Lib.hid hrm
    clear he hev hcl hrm
    have hbl := lt_of_heap hbcr
    by_cases hlt : j < l.length
    · have hbn := cellAt hbcr 0 (.int .i64 (n : Int)) rfl
      go_wp2_with (go_at_call 25; fail)
      refine (revent_any _ _ _ (HB.out.ext hu) _ j n rfl hn1 hn2 (by omega)).mono ?_
      rintro e w5 ⟨ve, vk, rfl, hu5, ho1, ho2⟩
      obtain ⟨ea, en, ec, rfl⟩ := ownsForm ho1
      obtain ⟨ka, kn, kc, rfl⟩ := ownsForm ho2
      have hrm := HRM.out
      obtain ⟨m', rfl⟩ : ∃ m', m = m' + 1 := ⟨m - 1, by rw [List.length_drop] at hrm; omega⟩
      have hcons := HE.out
      rw [eventsF_cons _ _ _ (by intro h0; have := congrArg List.length h0; rw [List.length_drop] at this; simp at this; omega)] at hcons
      have hpos := eventF_pos n (l.drop j)
      have hle := eventF_le n (l.drop j)
      obtain ⟨ev, hevq⟩ : ∃ ev, ev = (eventF n (l.drop j)).1 := ⟨_, rfl⟩
      obtain ⟨kk, hkk⟩ : ∃ kk, kk = (eventF n (l.drop j)).2 := ⟨_, rfl⟩
      rw [← hevq] at ho1 ho2 hcons ⊢
      rw [← hkk] at hcons hpos hle ⊢
      have HC := Lib.hid hcons
      have HRM2 := Lib.hid hrm
      clear hcons hevq hkk hbn hrm
      have hown5 := hu5.ownsRow hown (fun _ _ e => e)
      have hev5 : ∀ (i : Nat) (cs : List Value) (e : Ev), css[i]? = some cs → dn[i]? = some e → REvOwn w.heap.size w5 cs e := fun i cs e h1 h2 => (HEV.out i cs e h1 h2).ext hu5
      have hbc5 := hu5.at_ hbcr (fun e => e)
      have hrb5 := hu5.at_ hrbr (fun e => e)
      have hus := hu.size
      have HEV5 := Lib.hid hev5
      have hx5 : Ext w w5 := hu.trans hu5
      have ho1' := ho1.mono_base hus
      have ho2' := ho2.mono_base hus
      have hbo := newAt w5 (.cells (evCells ev (.slice ea en ec) (.slice ka kn kc)) 61)
      clear hev5 hbcr hrbr ho1 ho2 hown hu
      unfold evCells
      go_wp2_with (at_builtin; go_must (refine wpList_append_row rfl _ _ _ rfl Try.reventsT rfl ((hown5.alloc _).alloc _) rfl (row_new _ _ _ 1 _ (by decide) (by simp)) rfl (evCells_ones ev ea ka en ec kn kc) ?k3 ?k4 ?k5 ?_))
      case k3 => unfold maxLen; omega
      case k4 => omega
      case k5 => have := hx5.size; simp; omega
      intro v' w6 hown6 hg _
      have hub : ∀ k, u5.ownBlock = some k → k ≠ wa.heap.size ∧ k ≠ w.heap.size := fun k hk => by
        obtain ⟨c0, h0⟩ := owns_tag hown5 hk
        exact ⟨fun e => by subst e; exact tag_ne hbc5 (by decide) h0, fun e => by subst e; exact tag_ne hrb5 (by decide) h0⟩
      have HUB := Lib.hid hub
      clear hub
      go_wp2
      go_roundw
      case rel =>
        refine ⟨dn ++ [ev], j + kk, m', by go_num, by omega, ?_, ?_, ?_, ?_, ?_, ?_, ?_⟩
        · rw [HC.out, List.drop_drop]; simp
        · have := HRM2.out; rw [List.length_drop] at this ⊢; omega
        · simp; omega
        · exact ((hx5.alloc _).alloc _).grown hg (fun j hj h => by have := (hown5.lt j hj).1; omega)
        · exact (grownUpd hg).at_ ((((Upd.refl Nothing w5).alloc _).alloc _).at_ hbc5 (fun e => e)) (fun e => (HUB.out _ e).1 rfl)
        · exact (grownUpd hg).at_ ((((Upd.refl Nothing w5).alloc _).alloc _).at_ hrb5 (fun e => e)) (fun e => (HUB.out _ e).2 rfl)
        · exact REvsOwn.snoc HCL.out (fun i cs e h1 h2 => (HEV5.out i cs e h1 h2).ext ((Upd.refl _ _).alloc _)) (ho1'.alloc _) (ho2'.alloc _) (hown5.alloc _) hown6 hg
      case measure => simp [intOf]; omega
    · have hus := Upd.row wr w.heap.size (cfgCells ⟨(n : Int), c2, 16 * (1 + (c3 : Int)), 1 + (c4 : Int)⟩)
      have hnil : l.drop j = [] := List.drop_eq_nil_of_le (by omega)
      have HNIL := Lib.hid hnil
      clear hnil
      go_wp2_with (first | (refine wpList_load_blk rfl _ _ rfl rfl hbcr (Try.rcfgT _) ?_) | (refine wpList_store_blk rfl _ _ _ rfl rfl (cells := cfgCells ⟨(n : Int), c2, 16 * (1 + (c3 : Int)), 1 + (c4 : Int)⟩) rfl hrbr (Try.rcfgT _) rfl (cfgCells_one _) ?_))
      refine bodyPost_blk2 rfl rfl rfl (setRow_heap _ _ _ _ _ _ hrbr) (Try.rcfgT _) ?_
      have hdn : (readF l).2 = dn := by rw [HRD.out]; show eventsF n l.length (l.drop 4) = dn; rw [HE.out, HNIL.out, eventsF_nil, List.append_nil]
      refine ⟨_, by rw [HRD.out], ?_, hu.step hus (fun i hi e => by unfold At at e; omega)⟩
      rw [hdn]
      exact ⟨css, HCL.out, hus.ownsT hown (fun k cur hk => by cases hk; exact tag_ne hrbr (by decide)), fun i cs e h1 h2 => (HEV.out i cs e h1 h2).upd hus (fun k cur hk => by cases hk; exact ⟨tag_ne hrbr (by decide), tag_ne hrbr (by decide)⟩)⟩

end Go.Proofs.Ytlhpcgmbbeihiaa
