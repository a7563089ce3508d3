/-
  CONTRACT of the writer's method op. By program (gen/wr4.py).
-/
import Derived.Test.YtlhpcgmbbeihiaaWr3
namespace Go.Proofs.Ytlhpcgmbbeihiaa
open Go.RowKit

def ocap (o : Oper') : Nat := 10 + o.name.length + o.to.length + o.text.length + esum o.edits
theorem nameW_len (t : List UInt8) (s : WSt) : (nameW t s).1.length ≤ s.1.length + 1 := by
  unfold nameW
  split
  · simp [putF]
  · split
    · rw [lettersW_len]; omega
    · simp
theorem editsW_len (l : List Edit) (s : WSt) : (editsW l s).1.length ≤ s.1.length + 1 + esum l := by
  unfold editsW
  have := foldEdit_len l (putF (l.length : Int) 4 (s.1, s.2 || !deltaRight l))
  simp [putF] at this ⊢; omega
theorem partW_len (o : Oper') (s : WSt) (c : UInt8) : (partW o s c).1.length ≤ s.1.length + ocap o := by
  have h1 := nameW_len o.name s
  have h2 := nameW_len o.to s
  have h3 := editsW_len o.edits s
  unfold ocap
  unfold partW
  split
  · simp [numberF]; omega
  split
  · omega
  split
  · omega
  split
  · rw [lettersW_len]; simp [putF]; omega
  split
  · omega
  split
  · simp [numberF]; omega
  split
  · simp [numberF]; omega
  · simp [numberF]; omega
theorem partsW_len (o : Oper') (ps : List UInt8) : ∀ s : WSt, (ps.foldl (partW o) s).1.length ≤ s.1.length + ps.length * ocap o := by
  induction ps with
  | nil => intro s; simp
  | cons c ps ih =>
    intro s
    have h1 := ih (partW o s c)
    have h2 := partW_len o s c
    simp only [List.foldl_cons, List.length_cons, Nat.succ_mul] at h1 ⊢
    omega
theorem opW_len (o : Oper') (s : WSt) (hk : o.kind.toNat < 18) : (opW o s).1.length ≤ s.1.length + 1 + 4 * ocap o := by
  unfold opW
  split
  · simp; omega
  · have h1 := partsW_len o (partsF o.kind.toNat) (putF (o.kind - 1) 17 (s.1, false))
    have h2 := partsLen o.kind.toNat hk
    have h3 : (partsF o.kind.toNat).length * ocap o ≤ 4 * ocap o := Nat.mul_le_mul_right _ h2
    simp [putF] at h1 ⊢; omega
theorem opRight_kind {o : Oper'} (h : opRight o = true) : 1 ≤ o.kind ∧ o.kind ≤ 17 := by
  unfold opRight at h
  simp only [Bool.and_eq_true, decide_eq_true_eq] at h
  exact ⟨h.1.1.1, h.1.1.2⟩
/-- A block that is no row of bytes stands as it stood. -/
theorem WS.obj {B r : Nat} {w w1 : World} {k : Nat} {o : Obj} (h : Upd (WS B r w) w w1) (hk : w.heap[k]? = some o) (ho : ∀ cur, o ≠ .cells cur 5 (0, 0)) (hr : k ≠ r) : w1.heap[k]? = some o :=
  h.at_ hk fun e => by
    rcases e with e | ⟨_, cur, e⟩
    · exact hr e
    · rw [hk] at e; exact ho cur (Option.some.inj e)
def WfOp (o : Oper') : Prop := ∀ x ∈ o.edits, WfEdit x

/-- The loop's relation. -/
def OpWLoop (B it b r : Nat) (o : Oper') (v : Value) (ps : List UInt8) (s : WSt) (w wr : World) : Prop :=
  ∃ k : Nat, k ≤ ps.length ∧ Writer B wr r ((ps.take k).foldl (partW o) s) ∧ Upd (WS B r w) w wr ∧ wr.heap[b]? = some (.cells (opCells o v) 41 (0, 0)) ∧ wr.heap[it]? = some (.stringIter ⟨ps.toArray⟩ k)

set_option maxRecDepth 100000 in
set_option maxHeartbeats 4000000 in
theorem op_any' {B : Nat} (w : World) (r : Nat) (o : Oper') (v : Value) (s : WSt) (h : Writer B w r s) (hr : Row (Till B) w v o.edits.length (editCells o.edits)) (hwf : WfOp o) (hl : s.1.length + 1 + 4 * ocap o < 70368744177000) :
    Calls Try.prog 47 #[.pointer (some ⟨r, 0, none⟩), .agg (opCells o v)] w fun e w' => e = .returned (.tuple #[]) ∧ Writer B w' r (opW o s) ∧ Upd (WS B r w) w w' := by
  have hbx := newAt w (.cells (opCells o v) 41)
  have hux : Ext w (w.alloc (.cells (opCells o v) 41)) := (Upd.refl _ _).alloc _
  obtain ⟨bs, bad0⟩ := s
  have hrw := h.lt
  have HBr := Lib.hid h.1
  have H00 := Lib.hid h
  have H := Lib.hid (h.ext hux)
  have HRR := Lib.hid (hr.ext hux)
  have HRR0 := Lib.hid hr
  have HWF := Lib.hid hwf
  have HBX := Lib.hid hbx
  have HUX := Lib.hid hux
  obtain ⟨-, -, vv, h2, -⟩ := h.ext hux
  have y1 := cellAt h2 1 (.bool bad0) rfl
  have f1 := freeAt h2 1
  have H2 := Lib.hid h2
  dsimp only at hl
  obtain ⟨a, c, rfl, hn, hm, -⟩ := hr
  have hrb : ¬ r = w.heap.size := by omega
  clear h h2 hbx hux hwf hm
  cases bad0 with
  | true =>
    simp only [opCells] at y1 f1 ⊢
    go_enter Try.func47, Try.ntmps47
    obtain ⟨hw2, hu2⟩ := H00.out.bad true
    have hal : Ext (w.setCell ⟨r, 1, none⟩ (.bool true)) ((w.setCell ⟨r, 1, none⟩ (.bool true)).alloc (.cells (opCells o (.slice a o.edits.length c)) 41)) := (Upd.refl _ _).alloc _
    have hw3 := hw2.ext hal
    have HW2 := Lib.hid hw3
    have HU2 := Lib.hid (hu2.ext hal)
    obtain ⟨-, -, v9, g9, -⟩ := hw3
    have x1 := cellAt g9 1 (.bool true) rfl
    simp only [opCells] at x1
    clear hw2 hu2 hal g9
    go_wp2
    refine bodyPost_ret (results_none rfl _ _ _) rfl ?_
    exact ⟨rfl, by rw [opW, if_pos (by simp)]; exact HW2.out, HU2.out⟩
  | false =>
    simp only [opCells] at y1 f1 ⊢
    go_enter Try.func47, Try.ntmps47
    have z0 := cellAt HBX.out 0 (.int .u8 o.kind) rfl
    have z1 := cellAt HBX.out 1 (.int .u64 o.doc) rfl
    have z2 := cellAt HBX.out 2 (str o.name) rfl
    have z3 := cellAt HBX.out 3 (str o.to) rfl
    have z4 := cellAt HBX.out 4 (str o.text) rfl
    have z5 := cellAt HBX.out 5 (.slice a o.edits.length c) rfl
    have z6 := cellAt HBX.out 6 (.int .u64 o.epoch) rfl
    have z7 := cellAt HBX.out 7 (.int .u64 o.version) rfl
    have z8 := cellAt HBX.out 8 (.int .u64 o.dur) rfl
    simp only [opCells] at z0 z1 z2 z3 z4 z5 z6 z7 z8
    go_wp2_with (go_at_call 15; fail)
    refine (right_any _ o (.slice a o.edits.length c) HRR.out).mono ?_
    rintro e w1 ⟨rfl, hu1⟩
    clear z0 z1 z2 z3 z4 z5 z6 z7 z8 y1 f1
    have h21 := hu1.at_ H2.out id
    have y1 := cellAt h21 1 (.bool false) rfl
    have f1 := freeAt h21 1
    have HW1 := Lib.hid (H.out.ext hu1)
    have HU1 := Lib.hid (HUX.out.trans hu1)
    have HB1 := Lib.hid (hu1.at_ HBX.out id)
    have hlt1 : w.heap.size < w1.heap.size := by have := hu1.size; simp at this; omega
    clear hu1 h21
    by_cases hd : opRight o = true
    · rw [hd]
      have HD := Lib.hid hd
      obtain ⟨hk1, hk2⟩ := opRight_kind hd
      clear hd
      obtain ⟨hw2, hu2⟩ := HW1.out.bad false
      have HW2 := Lib.hid hw2
      have HU2 := Lib.hid (WS.ext HU1.out hu2)
      have hb2 := WS.at_ hu2 HB1.out (by decide) (by omega)
      have hsz2 := hu2.size
      have HB2 := Lib.hid hb2
      have x0 := cellAt hb2 0 (.int .u8 o.kind) rfl
      obtain ⟨kn, hkn⟩ : ∃ kn : Nat, o.kind = kn := ⟨o.kind.toNat, by omega⟩
      rw [hkn] at x0 hk1 hk2
      have HKN := Lib.hid hkn
      clear hw2 hu2 hb2 hkn
      go_wp2_with (go_at_call 34; fail)
      refine (put_any _ r ((kn : Int) - 1) 17 _ HW2.out (by dsimp only; omega)).mono ?_
      rintro e w3 ⟨rfl, hw3, hu3⟩
      have hb3 := WS.at_ hu3 HB2.out (by decide) (by omega)
      have HW3 := Lib.hid hw3
      have HU3 := Lib.hid (WS.trans HU2.out hu3)
      have x0 := cellAt hb3 0 (.int .u8 kn) (by rw [← HKN.out]; rfl)
      have HB3 := Lib.hid hb3
      have hsz3 := hu3.size
      clear hw3 hu3 hb3
      go_wp2_with (go_at_call 54; fail)
      refine (scriptParts_any _ kn (by omega)).mono ?_
      rintro e w4 ⟨rfl, hu4⟩
      have HW4 := Lib.hid (HW3.out.ext hu4)
      have HU4 := Lib.hid (HU3.out.ext hu4)
      have HB4 := Lib.hid (hu4.at_ HB3.out id)
      have hsz4 := hu4.size
      have hpl := partsLen kn (by omega)
      have hlet := partsLetter kn
      obtain ⟨ps, hps⟩ : ∃ ps, ps = partsF kn := ⟨_, rfl⟩
      rw [← hps] at hpl hlet ⊢
      obtain ⟨s1, hs1⟩ : ∃ s1, s1 = putF ((kn : Int) - 1) 17 (bs, false) := ⟨_, rfl⟩
      rw [← hs1] at HW3 HW4
      have hs1l : s1.1.length = bs.length + 1 := by rw [hs1]; simp [putF]
      have HFIN := Lib.hid (show opW o (bs, false) = ps.foldl (partW o) s1 from by rw [opW, HD.out, if_neg (by simp), hs1, hps, HKN.out]; simp)
      have HLET := Lib.hid hlet
      have HKK := Lib.hid hk2
      clear hps hs1 hlet hu4
      obtain ⟨it, hit⟩ : ∃ it, it = w4.heap.size := ⟨_, rfl⟩
      have hitw : w.heap.size < it := by omega
      have hitr : r < it := by omega
      go_wp2_with fail
      rw [show w4.heap.size = it from hit.symm]
      have hal : Ext w4 (w4.alloc (.stringIter ⟨ps.toArray⟩ 0)) := (Upd.refl _ _).alloc _
      have hit0 := newAt w4 (.stringIter ⟨ps.toArray⟩ 0)
      rw [← hit] at hit0
      have HAT := Lib.hid (show OpWLoop B it w.heap.size r o (.slice a o.edits.length c) ps s1 w (w4.alloc (.stringIter ⟨ps.toArray⟩ 0)) from ⟨0, Nat.zero_le _, HW4.out.ext hal, HU4.out.ext hal, hal.at_ HB4.out id, hit0⟩)
      clear hal hit0 hit hsz2 hsz3 hsz4 x0 y1 f1 HW2 HW3 HW4 HU2 HU3 HU4 HB2 HB3 HB4
      go_loopw [5] (fun _ wr => OpWLoop B it w.heap.size r o (.slice a o.edits.length c) ps s1 w wr) (fun _ wr => ps.length - wr.iterPos it)
      case atStart => exact HAT.out
      case round =>
        clear HAT
        obtain ⟨k, hk, hw, hu, hbo, hit⟩ := hrel
        have hpos := iterPos_at hit
        have HPOS := Lib.hid hpos
        have hlen0 := partsW_len o (ps.take k) s1
        have hlen1 : (ps.take k).length * ocap o ≤ 4 * ocap o := Nat.mul_le_mul_right _ (by rw [List.length_take]; omega)
        have hlen2 : (ps.take k).length ≤ 3 ∨ ¬ k < ps.length := by rw [List.length_take]; omega
        have hlen3 : k < ps.length → (ps.take k).length * ocap o ≤ 3 * ocap o := fun h => Nat.mul_le_mul_right _ (by rw [List.length_take]; omega)
        obtain ⟨st, hst⟩ : ∃ st, st = (ps.take k).foldl (partW o) s1 := ⟨_, rfl⟩
        rw [← hst] at hw hlen0
        have HLEN := Lib.hid (show k < ps.length → st.1.length + ocap o ≤ bs.length + 1 + 4 * ocap o from fun h => by have := hlen3 h; omega)
        have HW := Lib.hid hw
        have HU := Lib.hid hu
        have HST := Lib.hid hst
        clear hpos hw hu hst hlen0 hlen1 hlen2 hlen3
        by_cases hlt : k < ps.length
        · obtain ⟨x, hx, hxs⟩ := HLET.out k (by have := HKK.out; omega) hlt
          have HX := Lib.hid hx
          have hcap := HLEN.out hlt
          have hoc : 10 + o.name.length + o.to.length + o.text.length + esum o.edits = ocap o := rfl
          have HSUC := Lib.hid (show (ps.take (k + 1)).foldl (partW o) s1 = partW o st x from by
            obtain ⟨h1, h2⟩ := List.getElem?_eq_some_iff.1 hx
            rw [List.take_succ_eq_append_getElem h1, List.foldl_append, ← HST.out, h2]; rfl)
          clear hx
          rcases hxs with rfl | rfl | rfl | rfl | rfl | rfl | rfl | rfl
          · obtain ⟨ws, hnx, hus, his⟩ := next_at (P := Try.prog) wr _ ps k 100 100 hit HX.out (by decide) rfl
            have hbos := hus.at_ hbo (fun e => by unfold At at e; omega)
            have hws : Writer B ws r st := by
              obtain ⟨g0, g1, gv, g2, g3⟩ := HW.out
              exact ⟨g0, by have := hus.size; omega, gv, hus.at_ g2 (fun e => by unfold At at e; omega), hus.ownsRow g3 (fun j hj e => by unfold At at e; subst e; obtain ⟨cur, hc⟩ := owns_tag g3 hj; rw [hit] at hc; cases hc)⟩
            have hUs : Upd (WS B r w) w ws := HU.out.step hus (fun i hi e => by unfold At at e; omega)
            have HWS := Lib.hid hws
            have HUS := Lib.hid hUs
            have HBS := Lib.hid hbos
            have HIS := Lib.hid his
            have zc := cellAt hbos 1 (.int .u64 o.doc) rfl
            clear hws hUs hbos his hbo hit
            go_wp2_with (go_at_call 35; fail)
            refine (number_any _ r o.doc 4 _ HWS.out (by omega)).mono ?_
            rintro e v1 ⟨rfl, hw, hu⟩
            have HW1 := Lib.hid hw
            have HU1 := Lib.hid (WS.trans HUS.out hu)
            have HB1 := Lib.hid (WS.at_ hu HBS.out (by decide) (by omega))
            have HI1 := Lib.hid (WS.obj hu HIS.out (fun cur e => by cases e) (by omega))
            clear hw hu zc hnx
            have HP := Lib.hid (iterPos_at HI1.out)
            go_wp2
            go_roundw
            case rel => exact ⟨k + 1, by omega, by rw [HSUC.out]; exact HW1.out, HU1.out, HB1.out, HI1.out⟩
            case measure => (have := HPOS.out; have := HP.out; omega)
          · obtain ⟨ws, hnx, hus, his⟩ := next_at (P := Try.prog) wr _ ps k 110 110 hit HX.out (by decide) rfl
            have hbos := hus.at_ hbo (fun e => by unfold At at e; omega)
            have hws : Writer B ws r st := by
              obtain ⟨g0, g1, gv, g2, g3⟩ := HW.out
              exact ⟨g0, by have := hus.size; omega, gv, hus.at_ g2 (fun e => by unfold At at e; omega), hus.ownsRow g3 (fun j hj e => by unfold At at e; subst e; obtain ⟨cur, hc⟩ := owns_tag g3 hj; rw [hit] at hc; cases hc)⟩
            have hUs : Upd (WS B r w) w ws := HU.out.step hus (fun i hi e => by unfold At at e; omega)
            have HWS := Lib.hid hws
            have HUS := Lib.hid hUs
            have HBS := Lib.hid hbos
            have HIS := Lib.hid his
            have zc := cellAt hbos 2 (str o.name) rfl
            clear hws hUs hbos his hbo hit
            go_wp2_with (go_at_call 63; fail)
            refine (name_any' _ r o.name _ HWS.out (by omega) (by omega)).mono ?_
            rintro e v1 ⟨rfl, hw, hu⟩
            have HW1 := Lib.hid hw
            have HU1 := Lib.hid (WS.trans HUS.out hu)
            have HB1 := Lib.hid (WS.at_ hu HBS.out (by decide) (by omega))
            have HI1 := Lib.hid (WS.obj hu HIS.out (fun cur e => by cases e) (by omega))
            clear hw hu zc hnx
            have HP := Lib.hid (iterPos_at HI1.out)
            go_wp2
            go_roundw
            case rel => exact ⟨k + 1, by omega, by rw [HSUC.out]; exact HW1.out, HU1.out, HB1.out, HI1.out⟩
            case measure => (have := HPOS.out; have := HP.out; omega)
          · obtain ⟨ws, hnx, hus, his⟩ := next_at (P := Try.prog) wr _ ps k 111 111 hit HX.out (by decide) rfl
            have hbos := hus.at_ hbo (fun e => by unfold At at e; omega)
            have hws : Writer B ws r st := by
              obtain ⟨g0, g1, gv, g2, g3⟩ := HW.out
              exact ⟨g0, by have := hus.size; omega, gv, hus.at_ g2 (fun e => by unfold At at e; omega), hus.ownsRow g3 (fun j hj e => by unfold At at e; subst e; obtain ⟨cur, hc⟩ := owns_tag g3 hj; rw [hit] at hc; cases hc)⟩
            have hUs : Upd (WS B r w) w ws := HU.out.step hus (fun i hi e => by unfold At at e; omega)
            have HWS := Lib.hid hws
            have HUS := Lib.hid hUs
            have HBS := Lib.hid hbos
            have HIS := Lib.hid his
            have zc := cellAt hbos 3 (str o.to) rfl
            clear hws hUs hbos his hbo hit
            go_wp2_with (go_at_call 63; fail)
            refine (name_any' _ r o.to _ HWS.out (by omega) (by omega)).mono ?_
            rintro e v1 ⟨rfl, hw, hu⟩
            have HW1 := Lib.hid hw
            have HU1 := Lib.hid (WS.trans HUS.out hu)
            have HB1 := Lib.hid (WS.at_ hu HBS.out (by decide) (by omega))
            have HI1 := Lib.hid (WS.obj hu HIS.out (fun cur e => by cases e) (by omega))
            clear hw hu zc hnx
            have HP := Lib.hid (iterPos_at HI1.out)
            go_wp2
            go_roundw
            case rel => exact ⟨k + 1, by omega, by rw [HSUC.out]; exact HW1.out, HU1.out, HB1.out, HI1.out⟩
            case measure => (have := HPOS.out; have := HP.out; omega)
          · obtain ⟨ws, hnx, hus, his⟩ := next_at (P := Try.prog) wr _ ps k 116 116 hit HX.out (by decide) rfl
            have hbos := hus.at_ hbo (fun e => by unfold At at e; omega)
            have hws : Writer B ws r st := by
              obtain ⟨g0, g1, gv, g2, g3⟩ := HW.out
              exact ⟨g0, by have := hus.size; omega, gv, hus.at_ g2 (fun e => by unfold At at e; omega), hus.ownsRow g3 (fun j hj e => by unfold At at e; subst e; obtain ⟨cur, hc⟩ := owns_tag g3 hj; rw [hit] at hc; cases hc)⟩
            have hUs : Upd (WS B r w) w ws := HU.out.step hus (fun i hi e => by unfold At at e; omega)
            have HWS := Lib.hid hws
            have HUS := Lib.hid hUs
            have HBS := Lib.hid hbos
            have HIS := Lib.hid his
            have zc := cellAt hbos 4 (str o.text) rfl
            clear hws hUs hbos his hbo hit
            go_wp2_with (go_at_call 34; fail)
            refine (put_any _ r (o.text.length : Int) 16 _ HWS.out (by omega)).mono ?_
            rintro e v1 ⟨rfl, hw, hu⟩
            have HW1 := Lib.hid hw
            have HU1 := Lib.hid (WS.trans HUS.out hu)
            have HB1 := Lib.hid (WS.at_ hu HBS.out (by decide) (by omega))
            have HI1 := Lib.hid (WS.obj hu HIS.out (fun cur e => by cases e) (by omega))
            clear hw hu zc hnx
            have zc := cellAt HB1.out 4 (str o.text) rfl
            go_wp2_with (go_at_call 64; fail)
            refine (letters_any' _ r o.text 26 _ HW1.out (by simp [putF]; omega)).mono ?_
            rintro e v2 ⟨rfl, hw, hu⟩
            have HW2 := Lib.hid hw
            have HU2 := Lib.hid (WS.trans HU1.out hu)
            have HB2 := Lib.hid (WS.at_ hu HB1.out (by decide) (by omega))
            have HI2 := Lib.hid (WS.obj hu HI1.out (fun cur e => by cases e) (by omega))
            clear hw hu zc
            have HP := Lib.hid (iterPos_at HI2.out)
            go_wp2
            go_roundw
            case rel => exact ⟨k + 1, by omega, by rw [HSUC.out]; exact HW2.out, HU2.out, HB2.out, HI2.out⟩
            case measure => (have := HPOS.out; have := HP.out; omega)
          · obtain ⟨ws, hnx, hus, his⟩ := next_at (P := Try.prog) wr _ ps k 101 101 hit HX.out (by decide) rfl
            have hbos := hus.at_ hbo (fun e => by unfold At at e; omega)
            have hws : Writer B ws r st := by
              obtain ⟨g0, g1, gv, g2, g3⟩ := HW.out
              exact ⟨g0, by have := hus.size; omega, gv, hus.at_ g2 (fun e => by unfold At at e; omega), hus.ownsRow g3 (fun j hj e => by unfold At at e; subst e; obtain ⟨cur, hc⟩ := owns_tag g3 hj; rw [hit] at hc; cases hc)⟩
            have hUs : Upd (WS B r w) w ws := HU.out.step hus (fun i hi e => by unfold At at e; omega)
            have HWS := Lib.hid hws
            have HUS := Lib.hid hUs
            have HBS := Lib.hid hbos
            have HIS := Lib.hid his
            have zc := cellAt hbos 5 (.slice a o.edits.length c) rfl
            have HUSR := Lib.hid hUs
            clear hws hUs hbos his hbo hit
            go_wp2_with (go_at_call 65; fail)
            refine (edits_any' _ r _ o.edits _ HWS.out (WS.row HUSR.out HBr.out HRR0.out) HWF.out (by omega)).mono ?_
            rintro e v1 ⟨rfl, hw, hu⟩
            have HW1 := Lib.hid hw
            have HU1 := Lib.hid (WS.trans HUS.out hu)
            have HB1 := Lib.hid (WS.at_ hu HBS.out (by decide) (by omega))
            have HI1 := Lib.hid (WS.obj hu HIS.out (fun cur e => by cases e) (by omega))
            clear hw hu zc hnx
            have HP := Lib.hid (iterPos_at HI1.out)
            go_wp2
            go_roundw
            case rel => exact ⟨k + 1, by omega, by rw [HSUC.out]; exact HW1.out, HU1.out, HB1.out, HI1.out⟩
            case measure => (have := HPOS.out; have := HP.out; omega)
          · obtain ⟨ws, hnx, hus, his⟩ := next_at (P := Try.prog) wr _ ps k 112 112 hit HX.out (by decide) rfl
            have hbos := hus.at_ hbo (fun e => by unfold At at e; omega)
            have hws : Writer B ws r st := by
              obtain ⟨g0, g1, gv, g2, g3⟩ := HW.out
              exact ⟨g0, by have := hus.size; omega, gv, hus.at_ g2 (fun e => by unfold At at e; omega), hus.ownsRow g3 (fun j hj e => by unfold At at e; subst e; obtain ⟨cur, hc⟩ := owns_tag g3 hj; rw [hit] at hc; cases hc)⟩
            have hUs : Upd (WS B r w) w ws := HU.out.step hus (fun i hi e => by unfold At at e; omega)
            have HWS := Lib.hid hws
            have HUS := Lib.hid hUs
            have HBS := Lib.hid hbos
            have HIS := Lib.hid his
            have zc := cellAt hbos 6 (.int .u64 o.epoch) rfl
            clear hws hUs hbos his hbo hit
            go_wp2_with (go_at_call 35; fail)
            refine (number_any _ r o.epoch 32 _ HWS.out (by omega)).mono ?_
            rintro e v1 ⟨rfl, hw, hu⟩
            have HW1 := Lib.hid hw
            have HU1 := Lib.hid (WS.trans HUS.out hu)
            have HB1 := Lib.hid (WS.at_ hu HBS.out (by decide) (by omega))
            have HI1 := Lib.hid (WS.obj hu HIS.out (fun cur e => by cases e) (by omega))
            clear hw hu zc hnx
            have HP := Lib.hid (iterPos_at HI1.out)
            go_wp2
            go_roundw
            case rel => exact ⟨k + 1, by omega, by rw [HSUC.out]; exact HW1.out, HU1.out, HB1.out, HI1.out⟩
            case measure => (have := HPOS.out; have := HP.out; omega)
          · obtain ⟨ws, hnx, hus, his⟩ := next_at (P := Try.prog) wr _ ps k 118 118 hit HX.out (by decide) rfl
            have hbos := hus.at_ hbo (fun e => by unfold At at e; omega)
            have hws : Writer B ws r st := by
              obtain ⟨g0, g1, gv, g2, g3⟩ := HW.out
              exact ⟨g0, by have := hus.size; omega, gv, hus.at_ g2 (fun e => by unfold At at e; omega), hus.ownsRow g3 (fun j hj e => by unfold At at e; subst e; obtain ⟨cur, hc⟩ := owns_tag g3 hj; rw [hit] at hc; cases hc)⟩
            have hUs : Upd (WS B r w) w ws := HU.out.step hus (fun i hi e => by unfold At at e; omega)
            have HWS := Lib.hid hws
            have HUS := Lib.hid hUs
            have HBS := Lib.hid hbos
            have HIS := Lib.hid his
            have zc := cellAt hbos 7 (.int .u64 o.version) rfl
            clear hws hUs hbos his hbo hit
            go_wp2_with (go_at_call 35; fail)
            refine (number_any _ r o.version 32 _ HWS.out (by omega)).mono ?_
            rintro e v1 ⟨rfl, hw, hu⟩
            have HW1 := Lib.hid hw
            have HU1 := Lib.hid (WS.trans HUS.out hu)
            have HB1 := Lib.hid (WS.at_ hu HBS.out (by decide) (by omega))
            have HI1 := Lib.hid (WS.obj hu HIS.out (fun cur e => by cases e) (by omega))
            clear hw hu zc hnx
            have HP := Lib.hid (iterPos_at HI1.out)
            go_wp2
            go_roundw
            case rel => exact ⟨k + 1, by omega, by rw [HSUC.out]; exact HW1.out, HU1.out, HB1.out, HI1.out⟩
            case measure => (have := HPOS.out; have := HP.out; omega)
          · obtain ⟨ws, hnx, hus, his⟩ := next_at (P := Try.prog) wr _ ps k 117 117 hit HX.out (by decide) rfl
            have hbos := hus.at_ hbo (fun e => by unfold At at e; omega)
            have hws : Writer B ws r st := by
              obtain ⟨g0, g1, gv, g2, g3⟩ := HW.out
              exact ⟨g0, by have := hus.size; omega, gv, hus.at_ g2 (fun e => by unfold At at e; omega), hus.ownsRow g3 (fun j hj e => by unfold At at e; subst e; obtain ⟨cur, hc⟩ := owns_tag g3 hj; rw [hit] at hc; cases hc)⟩
            have hUs : Upd (WS B r w) w ws := HU.out.step hus (fun i hi e => by unfold At at e; omega)
            have HWS := Lib.hid hws
            have HUS := Lib.hid hUs
            have HBS := Lib.hid hbos
            have HIS := Lib.hid his
            have zc := cellAt hbos 8 (.int .u64 o.dur) rfl
            clear hws hUs hbos his hbo hit
            go_wp2_with (go_at_call 35; fail)
            refine (number_any _ r o.dur 256 _ HWS.out (by omega)).mono ?_
            rintro e v1 ⟨rfl, hw, hu⟩
            have HW1 := Lib.hid hw
            have HU1 := Lib.hid (WS.trans HUS.out hu)
            have HB1 := Lib.hid (WS.at_ hu HBS.out (by decide) (by omega))
            have HI1 := Lib.hid (WS.obj hu HIS.out (fun cur e => by cases e) (by omega))
            clear hw hu zc hnx
            have HP := Lib.hid (iterPos_at HI1.out)
            go_wp2
            go_roundw
            case rel => exact ⟨k + 1, by omega, by rw [HSUC.out]; exact HW1.out, HU1.out, HB1.out, HI1.out⟩
            case measure => (have := HPOS.out; have := HP.out; omega)
        · have hkl : k = ps.length := by omega
          have HKL := Lib.hid hkl
          subst hkl
          have hnx := next_done (P := Try.prog) wr it ps hit
          clear hit hbo
          go_wp2
          go_end0
          have hst := HST.out
          rw [List.take_length] at hst
          exact ⟨rfl, by rw [HFIN.out, ← hst]; exact HW.out, HU.out⟩
    · have hdf : opRight o = false := by simpa using hd
      rw [hdf]
      have HD := Lib.hid hdf
      clear hd hdf
      obtain ⟨hw2, hu2⟩ := HW1.out.bad true
      have HW2 := Lib.hid hw2
      have HU2 := Lib.hid (WS.ext HU1.out hu2)
      clear hw2 hu2
      go_wp2
      refine bodyPost_ret (results_none rfl _ _ _) rfl ?_
      exact ⟨rfl, by rw [opW, HD.out, if_pos (by simp)]; exact HW2.out, HU2.out⟩
end Go.Proofs.Ytlhpcgmbbeihiaa
