/-
  CONTRACT of script.Read, at most 65536 bytes.
-/
import Derived.Test.YtlhpcgmbbeihiaaScriptRd6
namespace Go.Proofs.Ytlhpcgmbbeihiaa
open Go.RowKit

def cfgCells (c : Cfg) : Array Value := #[.int .i64 c.n, .int .u64 c.slack, .int .i64 c.bytes, .int .i64 c.entries]
theorem cfgCells_one (c : Cfg) : AllOne (cfgCells c) := by simp [AllOne, cfgCells, Value.oneCell']
theorem Try.cfgT (c : Cfg) : StructT Try.prog 31 (cfgCells c).size := ⟨_, Try.underlying31, rfl, by kernel_rfl⟩
theorem Try.eventsT : SliceT Try.prog 32 44 14 168 := sliceT_of Try.underlying32 (by kernel_rfl) (by decide)

/-- An event's cells, its rows the call's own. -/
def EvOwn (B : Nat) (w : World) (cs : List Value) (e : Ev) : Prop :=
  ∃ ve vk, cs = (evCells e ve vk).toList ∧ w.ownsRow B 46 3 ve e.op.edits.length (editCells e.op.edits) ∧ w.ownsRow B 4 1 vk e.keep.length (bools e.keep)
/-- A row of events, all of it the call's own. -/
def EvsOwn (B : Nat) (w : World) (v : Value) (l : List Ev) : Prop :=
  ∃ css : List (List Value), css.length = l.length ∧ w.ownsRow B 44 14 v l.length css.flatten ∧ ∀ (i : Nat) (cs : List Value) (e : Ev), css[i]? = some cs → l[i]? = some e → EvOwn B w cs e

theorem EvOwn.upd {B : Nat} {S : Nat → Prop} {w w' : World} {cs : List Value} {e : Ev} (h : EvOwn B w cs e) (hu : Upd S w w') (hS : ∀ k cur, S k → w.heap[k]? ≠ some (.cells cur 46 (0, 0)) ∧ w.heap[k]? ≠ some (.cells cur 4 (0, 0))) : EvOwn B w' cs e := by
  obtain ⟨ve, vk, hc, h1, h2⟩ := h
  exact ⟨ve, vk, hc, hu.ownsT h1 (fun k cur hs => (hS k cur hs).1), hu.ownsT h2 (fun k cur hs => (hS k cur hs).2)⟩
theorem readF_eq {l l1 l2 l3 l4 : List UInt8} {c1 c2 c3 c4 n : Nat} (h : l.length ≤ 65536) (C1 : c1 = hd l) (L1 : l1 = l.drop 1) (C2 : c2 = hd l1) (L2 : l2 = l1.drop 1) (C3 : c3 = hd l2) (L3 : l3 = l2.drop 1) (C4 : c4 = hd l3) (L4 : l4 = l3.drop 1) (hn : n = 1 + c1 % 64) :
    readF l = (⟨(n : Int), c2, 16 * (1 + (c3 : Int)), 1 + (c4 : Int)⟩, eventsF n l.length l4) := by
  subst L1; rw [List.drop_drop] at L2; subst L2; rw [List.drop_drop] at L3; subst L3; rw [List.drop_drop] at L4; subst L4
  subst C1; subst C2; subst C3; subst C4; subst hn
  rw [readF, List.take_of_length_le h, cfgF]
  simp only [Prod.mk.injEq, Cfg.mk.injEq, and_self, and_true]
  omega
theorem tag_ne {w : World} {k : Nat} {cs cur : Array Value} {T e : Nat} {fr : Nat × Nat} (h : w.heap[k]? = some (.cells cs T fr)) (hT : T ≠ e) : w.heap[k]? ≠ some (.cells cur e (0, 0)) := by
  rw [h]; intro hh; simp only [Option.some.injEq, Obj.cells.injEq] at hh; exact hT hh.2.1
theorem evCells_ones (e : Ev) (a b : Option Addr) (n c m d : Nat) : OneCells (evCells e (.slice a n c) (.slice b m d)).toList := by
  intro u hu
  have h := evCells_one e a b n c m d
  unfold AllOne at h
  exact (Array.all_eq_true_iff_forall_mem.1 h) u (by simpa using hu)
/-- An event more. -/
theorem EvsOwn.snoc {B : Nat} {w5 w6 : World} {v v' : Value} {l : List Ev} {e : Ev} {css : List (List Value)} {ve vk : Value} {ob : Obj} (hl : css.length = l.length)
    (hev : ∀ (i : Nat) (cs : List Value) (e : Ev), css[i]? = some cs → l[i]? = some e → EvOwn B w5 cs e) (h1 : w5.ownsRow B 46 3 ve e.op.edits.length (editCells e.op.edits)) (h2 : w5.ownsRow B 4 1 vk e.keep.length (bools e.keep))
    (hv : w5.ownsRow B 44 14 v l.length css.flatten) (hown : w6.ownsRow B 44 14 v' (l.length + 1) (css.flatten ++ (evCells e ve vk).toList)) (hg : (w5.alloc ob).grownBy w6 v.ownBlock) : EvsOwn B w6 v' (l ++ [e]) := by
  have hu : Upd (fun k => v.ownBlock = some k) w5 w6 := ((Upd.refl (fun k => v.ownBlock = some k) w5).alloc ob).trans (grownUpd hg)
  have hS : ∀ k cur, v.ownBlock = some k → w5.heap[k]? ≠ some (.cells cur 46 (0, 0)) ∧ w5.heap[k]? ≠ some (.cells cur 4 (0, 0)) := fun k cur hk => by
    obtain ⟨c0, h0⟩ := owns_tag hv hk
    exact ⟨tag_ne h0 (by decide), tag_ne h0 (by decide)⟩
  refine ⟨css ++ [(evCells e ve vk).toList], by simp [hl], by simpa using hown, fun i cs x hi hx => ?_⟩
  by_cases hlt : i < l.length
  · rw [List.getElem?_append_left (by omega)] at hi
    rw [List.getElem?_append_left hlt] at hx
    exact (hev i cs x hi hx).upd hu hS
  · have hil : i = l.length := by have := (List.getElem?_eq_some_iff.1 hx).1; simp at this; omega
    subst hil
    rw [List.getElem?_append_right (by omega)] at hi
    simp [hl] at hi hx
    subst hi; subst hx
    exact EvOwn.upd ⟨ve, vk, rfl, h1, h2⟩ hu hS

/-- How much a reader has left. -/
def leftOf (w : World) (r : Nat) : Nat := match w.heap[r]? with | some (.cells c _ _) => (match c.toList with | [.slice _ n _] => n | _ => 0) | _ => 0
theorem leftOf_reader {B : Nat} {w : World} {r : Nat} {l : List UInt8} (h : Reader B w r l) : leftOf w r = l.length := by
  obtain ⟨_, v, hr, a, c, rfl, _⟩ := h
  simp [leftOf, hr]

theorem eventsF_cons (n m : Nat) (l : List UInt8) (h : l ≠ []) : eventsF n (m + 1) l = (eventF n l).1 :: eventsF n m (l.drop (eventF n l).2) := by rw [eventsF, if_neg h]
theorem eventsF_nil (n m : Nat) : eventsF n m [] = [] := by cases m <;> simp [eventsF]

set_option maxRecDepth 100000 in
set_option maxHeartbeats 1000000 in
theorem read_any {S : Nat → Prop} (w : World) (v : Value) (l : List UInt8) (hb : Bytes S w v l) (hS : ∀ k, S k → k < w.heap.size) (hl : l.length ≤ 65536) :
    Calls Try.prog 10 #[v] w fun e w' => ∃ v', e = .returned (.tuple #[.agg (cfgCells (readF l).1), v']) ∧ EvsOwn w.heap.size w' v' (readF l).2 ∧ Ext w w' := by
  have hb' := hb
  obtain ⟨a, c, rfl, h1, h2, h3⟩ := hb
  have hmin : min (l.length : Int) 65536 = l.length := by omega
  have htake : l.take 65536 = l := List.take_of_length_le hl
  have HT := Lib.hid htake
  have H3 := Lib.hid h3
  have HB := Lib.hid hb'
  clear h3 hb' htake
  unfold maxLen at h2
  obtain ⟨wa, hwa⟩ : ∃ wa, wa = w.alloc (.cells (cfgCells ⟨0, 0, 0, 0⟩) 31) := ⟨_, rfl⟩
  have hsa : wa.heap.size = w.heap.size + 1 := by rw [hwa]; simp
  have hua : Ext w wa := by rw [hwa]; exact (Upd.refl _ _).alloc _
  have hrba : wa.heap[w.heap.size]? = some (.cells (cfgCells ⟨0, 0, 0, 0⟩) 31 (0, 0)) := by rw [hwa]; exact newAt _ _
  have hr0 : Reader w.heap.size (wa.alloc (.cells #[.slice a l.length c] 70)) (w.heap.size + 1) l :=
    ⟨by omega, _, by rw [← hsa]; exact newAt _ _, ((HB.out.ext hua).ext ((Upd.refl _ _).alloc _)).mono hS⟩
  have hrb0 := ((Upd.refl Nothing wa).alloc (.cells #[.slice a l.length c] 70)).at_ hrba (fun e => e)
  have hu00 : Ext w (wa.alloc (.cells #[.slice a l.length c] 70)) := hua.alloc _
  go_enter Try.func10, Try.ntmps10
  go_wp2_with fail
  go_step3
  go_wp2_with (go_at_call 26; fail)
  rw [show w.alloc (Obj.cells #[Value.int IntKind.i64 0, Value.int IntKind.u64 0, Value.int IntKind.i64 0, Value.int IntKind.i64 0] 31) = wa from hwa.symm]
  have HWA := Lib.hid hwa
  have HSA := Lib.hid hsa
  clear hwa hsa
  obtain ⟨r, hrr⟩ : ∃ r, r = w.heap.size + 1 := ⟨_, rfl⟩
  rw [← hrr] at hr0 ⊢
  have hwr : w.heap.size < r := by omega
  have HRR := Lib.hid hrr
  clear hrr
  refine (next_c _ r _ hr0).mono ?_
  rintro e w1 ⟨c1, l1, rfl, hc1, HC1, HL1, hu1, hr1, hlt1⟩
  have hrb1 := hu1.at_ hrb0 (fun e => by unfold At at e; omega)
  go_wp2_with (go_at_call 26; fail)
  refine (next_c _ r _ hr1).mono ?_
  rintro e w2 ⟨c2, l2, rfl, hc2, HC2, HL2, hu2, hr2, hlt2⟩
  have hrb2 := hu2.at_ hrb1 (fun e => by unfold At at e; omega)
  go_wp2_with (go_at_call 26; fail)
  refine (next_c _ r _ hr2).mono ?_
  rintro e w3 ⟨c3, l3, rfl, hc3, HC3, HL3, hu3, hr3, hlt3⟩
  have hrb3 := hu3.at_ hrb2 (fun e => by unfold At at e; omega)
  go_wp2_with (go_at_call 26; fail)
  refine (next_c _ r _ hr3).mono ?_
  rintro e w4 ⟨c4, l4, rfl, hc4, HC4, HL4, hu4, hr4, hlt4⟩
  have hrb4 := hu4.at_ hrb3 (fun e => by unfold At at e; omega)
  have hu04 : Ext w w4 := ((((hu00.step (T := At r) hu1 (fun i hi e => by unfold At at e; omega)).step hu2 (fun i hi e => by unfold At at e; omega)).step hu3 (fun i hi e => by unfold At at e; omega)).step hu4 (fun i hi e => by unfold At at e; omega))
  clear hrb0 hrb1 hrb2 hrb3 hrba hr0 hr1 hr2 hr3
  obtain ⟨n, hn⟩ : ∃ n, n = 1 + c1 % 64 := ⟨_, rfl⟩
  have HRD := Lib.hid (readF_eq hl HC1.out HL1.out HC2.out HL2.out HC3.out HL3.out HC4.out HL4.out hn)
  have hn1 : 1 ≤ n := by omega
  have hn2 : n ≤ 64 := by omega
  have hni : (1 : Int) + (c1 : Int) % 64 = (n : Int) := by omega
  have hbc := newAt w4 (.cells (cfgCells ⟨(n : Int), c2, 16 * (1 + (c3 : Int)), 1 + (c4 : Int)⟩) 31)
  have hrb5 := ((Upd.refl Nothing w4).alloc (.cells (cfgCells ⟨(n : Int), c2, 16 * (1 + (c3 : Int)), 1 + (c4 : Int)⟩) 31)).at_ hrb4 (fun e => e)
  have hr5 := hr4.alloc (.cells (cfgCells ⟨(n : Int), c2, 16 * (1 + (c3 : Int)), 1 + (c4 : Int)⟩) 31)
  have hu05 := hu04.alloc (.cells (cfgCells ⟨(n : Int), c2, 16 * (1 + (c3 : Int)), 1 + (c4 : Int)⟩) 31)
  have hN := Lib.hid hn
  clear hn
  rw [hni]
  clear hni HC1
  go_wp2_with fail
  go_step3
  go_wp2_with fail
  go_loopw [6] (fun v wr => ∃ (dn : List Ev) (rest : List UInt8) (m : Nat), eventsF n l.length l4 = dn ++ eventsF n m rest ∧ rest.length ≤ m ∧ dn.length + m = l.length ∧ Ext w wr ∧ Reader w.heap.size wr r rest ∧
      wr.heap[w4.heap.size]? = some (.cells (cfgCells ⟨(n : Int), c2, 16 * (1 + (c3 : Int)), 1 + (c4 : Int)⟩) 31 (0, 0)) ∧ wr.heap[w.heap.size]? = some (.cells (cfgCells ⟨0, 0, 0, 0⟩) 31 (0, 0)) ∧ EvsOwn w.heap.size wr v dn)
    (fun _ wr => leftOf wr r)
  case atStart => exact ⟨[], l4, l.length, rfl, by rw [HL4.out, HL3.out, HL2.out, HL1.out]; simp, by simp, hu05, hr5, hbc, hrb5, [], rfl, World.ownsRow_nil _ _ _ _, fun i cs e h => by simp at h⟩
  case round =>
    obtain ⟨dn, rest, m, he, hrm, hdm, hu, hr, hbcr, hrbr, css, hcl, hown, hev⟩ := hrel
    have HR := Lib.hid hr
    obtain ⟨hB0, vv, hrr, ar, cr, rfl, -⟩ := hr
    have hrc := cell_of_one hrr
    have hlr := lt_of_heap hrr
    have HE := Lib.hid he
    have HREL := Lib.hid hrr
    have HEV := Lib.hid hev
    have HCL := Lib.hid hcl
    clear he hrr hev hcl
    have hbl := lt_of_heap hbcr
    cases rest with
    | nil =>
      have hus := Upd.row wr w.heap.size (cfgCells ⟨(n : Int), c2, 16 * (1 + (c3 : Int)), 1 + (c4 : Int)⟩)
      obtain ⟨va, vn, vc, rfl⟩ := ownsForm hown
      go_wp2_with (first | (refine wpList_load_blk rfl _ _ rfl rfl hbcr (Try.cfgT _) ?_) | (refine wpList_store_blk rfl _ _ _ rfl rfl (cells := cfgCells ⟨(n : Int), c2, 16 * (1 + (c3 : Int)), 1 + (c4 : Int)⟩) rfl hrbr (Try.cfgT _) rfl (cfgCells_one _) ?_))
      rw [Exit.noGoto_ret]
      refine bodyPost_blk2 rfl rfl rfl (setRow_heap _ _ _ _ _ _ hrbr) (Try.cfgT _) ?_
      refine ⟨_, by rw [HRD.out], ⟨css, ?_, ?_, ?_⟩, hu.step hus (fun i hi e => by unfold At at e; omega)⟩
      · rw [HRD.out]; show css.length = (eventsF n l.length l4).length; rw [HE.out, eventsF_nil, List.append_nil, HCL.out]
      · rw [HRD.out]; show World.ownsRow _ _ _ _ _ (eventsF n l.length l4).length _; rw [HE.out, eventsF_nil, List.append_nil]
        exact hus.ownsT hown (fun k cur hk => by cases hk; exact tag_ne hrbr (by decide))
      · rw [HRD.out]; show ∀ (i : Nat) (cs : List Value) (e : Ev), css[i]? = some cs → (eventsF n l.length l4)[i]? = some e → _
        rw [HE.out, eventsF_nil, List.append_nil]
        exact fun i cs e h1 h2 => (HEV.out i cs e h1 h2).upd hus (fun k cur hk => by cases hk; exact ⟨tag_ne hrbr (by decide), tag_ne hrbr (by decide)⟩)
    | cons x xs =>
      have hne : ((xs.length : Int) + 1 == 0) = false := by rw [beq_eq_false_iff_ne]; omega
      have hbn := cellAt hbcr 0 (.int .i64 (n : Int)) rfl
      go_wp2_with (go_at_call 27; fail)
      refine (event_any _ r n _ hn1 hn2 HR.out).mono ?_
      rintro e w5 ⟨ve, vk, rfl, hu5, hr5', ho1, ho2, -⟩
      obtain ⟨ea, en, ec, rfl⟩ := ownsForm ho1
      obtain ⟨ka, kn, kc, rfl⟩ := ownsForm ho2
      obtain ⟨m', rfl⟩ : ∃ m', m = m' + 1 := ⟨m - 1, by simp only [List.length_cons] at hrm; omega⟩
      have hcons := HE.out
      rw [eventsF_cons _ _ _ (by simp)] at hcons
      have hpos := eventF_pos n (x :: xs)
      obtain ⟨ev, hevq⟩ : ∃ ev, ev = (eventF n (x :: xs)).1 := ⟨_, rfl⟩
      obtain ⟨kk, hkk⟩ : ∃ kk, kk = (eventF n (x :: xs)).2 := ⟨_, rfl⟩
      rw [← hevq] at ho1 ho2 hcons ⊢
      rw [← hkk] at hr5' hcons hpos
      have HC := Lib.hid hcons
      clear hcons hevq hkk hbn hrc
      have hT : ∀ e, 70 ≠ e → ∀ k cur, At r k → wr.heap[k]? ≠ some (.cells cur e (0, 0)) := fun e he k cur hk => by cases hk; exact tag_ne HREL.out he
      have hown5 := hu5.ownsT hown (hT _ (by decide))
      have hev5 : ∀ (i : Nat) (cs : List Value) (e : Ev), css[i]? = some cs → dn[i]? = some e → EvOwn w.heap.size w5 cs e := fun i cs e h1 h2 => (HEV.out i cs e h1 h2).upd hu5 (fun k cur hk => ⟨hT _ (by decide) k cur hk, hT _ (by decide) k cur hk⟩)
      have hbc5 := hu5.at_ hbcr (fun e => by unfold At at e; omega)
      have hrb5 := hu5.at_ hrbr (fun e => by unfold At at e; omega)
      have hus := hu.size
      have ho1' := ho1.mono_base hus
      have ho2' := ho2.mono_base hus
      have HT5 := Lib.hid hT
      have HEV5 := Lib.hid hev5
      have hlr5 := hr5'.lt
      have hx5 : Ext w w5 := hu.step hu5 (fun i hi e => by unfold At at e; omega)
      have hsz5 := hu5.size
      clear hT hev5 hbcr hrbr ho1 ho2 hown hu
      unfold evCells
      go_wp2_with (at_builtin; go_must (refine wpList_append_row rfl _ _ _ rfl Try.eventsT rfl (hown5.alloc _) rfl (row_new _ _ _ 1 _ (by decide) (by simp)) rfl (evCells_ones ev ea ka en ec kn kc) ?k3 ?k4 ?k5 ?_))
      case k3 => unfold maxLen; omega
      case k4 => omega
      case k5 => have := hx5.size; simp; omega
      intro v' w6 hown6 hg _
      have hub : ∀ k, u6.ownBlock = some k → k ≠ w4.heap.size ∧ r < k := fun k hk => by
        obtain ⟨c0, h0⟩ := owns_tag hown5 hk
        have hlo := (hown5.lt k hk).1
        obtain ⟨_, _, hr0, _⟩ := hr5'
        have n1 : k ≠ r := fun e => by subst e; exact tag_ne hr0 (by decide) h0
        have n2 : k ≠ w.heap.size := fun e => by subst e; exact tag_ne hrb5 (by decide) h0
        have n3 : k ≠ w4.heap.size := fun e => by subst e; exact tag_ne hbc5 (by decide) h0
        have := HRR.out
        exact ⟨n3, by omega⟩
      have hr6 : Reader w.heap.size w6 r ((x :: xs).drop kk) := (hr5'.alloc _).upd (grownUpd hg) (fun k hk => (hub k hk).2)
      have HUB := Lib.hid hub
      have HR6 := Lib.hid hr6
      clear hub hr6
      go_wp2
      go_roundw
      case rel =>
        refine ⟨dn ++ [ev], (x :: xs).drop kk, m', ?_, ?_, ?_, ?_, HR6.out, ?_, ?_, ?_⟩
        · rw [HC.out]; simp
        · rw [List.length_drop]; simp only [List.length_cons] at hrm ⊢; omega
        · simp; omega
        · exact (hx5.alloc _).grown hg (fun j hj h => by have := (hown5.lt j hj).1; omega)
        · exact (grownUpd hg).at_ (((Upd.refl Nothing w5).alloc _).at_ hbc5 (fun e => e)) (fun e => (HUB.out _ e).1 rfl)
        · exact (grownUpd hg).at_ (((Upd.refl Nothing w5).alloc _).at_ hrb5 (fun e => e)) (fun e => by have := (HUB.out _ e).2; omega)
        · exact EvsOwn.snoc HCL.out HEV5.out ho1' ho2' hown5 hown6 hg
      case measure =>
        rw [leftOf_reader HR6.out, leftOf_reader HR.out, List.length_drop]; simp only [List.length_cons]; omega

end Go.Proofs.Ytlhpcgmbbeihiaa
