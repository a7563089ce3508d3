/-
  CONTRACT of chartroomref29.operation. By program (gen/refop.py).
-/
import Derived.Test.YtlhpcgmbbeihiaaGRef29a
namespace Go.Proofs.Ytlhpcgmbbeihiaa
open Go.RowKit

theorem Try.ropT (o : Oper') (ve : Value) : StructT Try.prog 59 (opCells o ve).size := ⟨_, Try.underlying59, rfl, by kernel_rfl⟩
theorem run_index_str {P : Program} {T : TypeId} (hT : P.underlying T = some .string) {ps : List UInt8} {k : Nat} {c : UInt8} {m : Int} (hc : ps[k]? = some c) (hm : (c.toNat : Int) = m) (w : World) : (Instr.index T (str ps) (.int .i64 k)).run P w = .ok (.int .u8 m) w := by
  subst hm
  obtain ⟨hk, hck⟩ := List.getElem?_eq_some_iff.1 hc
  have hk' : k < (⟨ps.toArray⟩ : ByteArray).size := hk
  have hget : (⟨ps.toArray⟩ : ByteArray)[k]'hk' = c := hck
  rw [run_index_string _ _ _ _ _ hT, dif_pos ⟨by omega, by exact_mod_cast hk'⟩]
  congr 3
  simp only [Int.toNat_natCast]; rw [hget]
theorem partF_le (l : List UInt8) (x : Oper' × Nat) (c : UInt8) : (partF l x c).2 ≤ x.2 + 20 := by
  obtain ⟨o, n⟩ := x
  unfold partF; dsimp only
  have h1 := editsN_le (hd (l.drop n) % 4) (l.drop (n + 1))
  repeat' split
  all_goals simp only []
  all_goals omega
theorem opState_le (l ps : List UInt8) (k : Nat) : (opState l ps k).2 ≤ 1 + 20 * k := by
  induction k with
  | zero => simp [opState]
  | succ k ih =>
    by_cases hk : k < ps.length
    · have h := opState_succ (l := l) (List.getElem?_eq_getElem hk) (x := opState l ps k) rfl rfl
      have := partF_le l (opState l ps k) ps[k]
      rw [← h]; omega
    · rw [opState, List.take_of_length_le (by omega)]; rw [opState, List.take_of_length_le (by omega)] at ih; omega

set_option maxRecDepth 100000 in
set_option maxHeartbeats 4000000 in
theorem rop_any {S : Nat → Prop} (w : World) (v : Value) (l : List UInt8) (h : Bytes S w v l) (m : Int) (i : Nat) (hm : m = i) (hi : i ≤ 800000) :
    Calls Try.prog 40 #[v, .int .i64 m] w fun e w' => ∃ ve, e = .returned (.tuple #[.agg (opCells (opF (l.drop i)).1 ve), .int .i64 ((i + (opF (l.drop i)).2 : Nat) : Int)]) ∧ Ext w w' ∧
      w'.ownsRow w.heap.size 100 3 ve (opF (l.drop i)).1.edits.length (editCells (opF (l.drop i)).1.edits) := by
  subst hm
  have H := Lib.hid h
  clear h
  obtain ⟨L0, hL0⟩ : ∃ L0, L0 = l.drop i := ⟨_, rfl⟩
  have HL0 := Lib.hid hL0
  rw [← hL0]
  clear hL0
  go_enter Try.func40, Try.ntmps40
  go_wp2_with (go_at_call 24; fail)
  have hrb := newAt w (.cells (opCells (Oper'.zero 0) nilS) 59)
  refine (rat_any _ _ _ (H.out.ext ((Upd.refl _ _).alloc _)) _ i rfl).mono ?_
  rintro e w1 ⟨c, rfl, hc, HC, rfl⟩
  go_wp2_with (go_at_call 50; fail)
  rw [show (1 : Int) + (c : Int) % 17 = ((1 + c % 17 : Nat) : Int) from by omega]
  refine (rparts_any _ (1 + c % 17) (by omega)).mono ?_
  rintro e w2 ⟨rfl, hu2⟩
  have hpl := partsLen (1 + c % 17) (by omega)
  have hlet := partsLetter (1 + c % 17)
  obtain ⟨kk, hkk⟩ : ∃ kk, kk = 1 + c % 17 := ⟨_, rfl⟩
  rw [← hkk] at hpl hlet ⊢
  obtain ⟨ps, hps⟩ : ∃ ps, ps = partsF kk := ⟨_, rfl⟩
  rw [← hps] at hpl hlet ⊢
  have HKK := Lib.hid hkk
  have HPS := Lib.hid hps
  have HLET := Lib.hid hlet
  obtain ⟨wb, hwb⟩ : ∃ wb, wb = w.alloc (.cells (opCells (Oper'.zero 0) nilS) 59) := ⟨_, rfl⟩
  have hswb : wb.heap.size = w.heap.size + 1 := by rw [hwb]; simp
  have hrbb : wb.heap[w.heap.size]? = some (.cells (opCells (Oper'.zero 0) nilS) 59 (0, 0)) := by rw [hwb]; exact newAt _ _
  have hubb : Ext w wb := by rw [hwb]; exact (Upd.refl _ _).alloc _
  have hu2' : Ext (wb.alloc (.cells (opCells (Oper'.zero (1 + (c : Int) % 17)) nilS) 59)) w2 := by rw [hwb, show (1 : Int) + (c : Int) % 17 = (kk : Int) from by omega]; rw [show ((1 + c % 17 : Nat) : Int) = (kk : Int) from by omega] at hu2; exact hu2
  have hbo2 := hu2'.at_ (newAt wb (.cells (opCells (Oper'.zero (1 + (c : Int) % 17)) nilS) 59)) (fun e => e)
  rw [hswb] at hbo2
  have hrb2 := hu2'.at_ (((Upd.refl Nothing wb).alloc (.cells (opCells (Oper'.zero (1 + (c : Int) % 17)) nilS) 59)).at_ hrbb (fun e => e)) (fun e => e)
  have hu02 : Ext w w2 := (hubb.alloc _).trans hu2'
  clear hkk hps hlet hu2 hu2' hrb hwb hswb hrbb hubb
  go_wp2_with fail
  go_loopw [1, 8] (fun j q wr => ∃ (k : Nat) (o : Oper') (n : Nat) (ve : Value), k ≤ ps.length ∧ q = .int .i64 k ∧ j = .int .i64 ((i + n : Nat) : Int) ∧ (o, n) = opState L0 ps k ∧ Ext w wr ∧ wr.heap[w.heap.size + 1]? = some (.cells (opCells o ve) 59 (0, 0)) ∧
      wr.heap[w.heap.size]? = some (.cells (opCells (Oper'.zero 0) nilS) 59 (0, 0)) ∧ wr.ownsRow (w.heap.size + 2) 100 3 ve o.edits.length (editCells o.edits))
    (fun _ q _ => ps.length - (intOf q).toNat)
  case atStart =>
    exact ⟨0, Oper'.zero (1 + (c : Int) % 17), 1, nilS, Nat.zero_le _, rfl, by go_num, by rw [HC.out, ← HL0.out]; rfl, hu02, hbo2, hrb2, World.ownsRow_nil _ _ _ _⟩
  case round =>
    obtain ⟨k, o, n, ve, hk, rfl, rfl, hst, hu, hbo, hrbr, hown⟩ := hrel
    have hnle : n ≤ 81 := by have := opState_le L0 ps k; rw [← hst] at this; simp only at this; omega
    obtain ⟨L, hL⟩ : ∃ L, L = L0.drop n := ⟨_, rfl⟩
    obtain ⟨j, hj⟩ : ∃ j, j = i + n := ⟨_, rfl⟩
    have hLj : l.drop j = L := by rw [hL, hj, ← List.drop_drop, ← HL0.out]
    have hjb : j ≤ 800100 := by omega
    have HL := Lib.hid hL
    have HST := Lib.hid hst
    have HLJ := Lib.hid hLj
    rw [← hj]
    have HJ := Lib.hid hj
    clear hL hst hLj hj
    have hosz : ∀ j, ve.ownBlock = some j → w.heap.size + 1 < j ∧ j < wr.heap.size := fun j hj => by have := hown.lt j hj; omega
    have hbl := lt_of_heap hbo
    by_cases hlt : k < ps.length
    · obtain ⟨x, hx, hxs⟩ := HLET.out k (by have := HKK.out; omega) hlt
      have HX := Lib.hid hx
      clear hx
      have HB := Lib.hid (H.out.ext hu)
      rcases hxs with rfl | rfl | rfl | rfl | rfl | rfl | rfl | rfl
      · -- d
        have hidx := run_index_str (P := Try.prog) Try.underlying9 (m := 100) HX.out rfl
        go_wp2_with (go_at_call 24; fail)
        refine (rat_any _ _ _ HB.out _ j rfl).mono ?_
        rintro e w3 ⟨c3, rfl, hc3, HC3, rfl⟩
        have HC3' := Lib.hid (show c3 = hd (L0.drop n) by rw [HC3.out, HLJ.out, HL.out])
        have d := cellAt hbo 1 _ rfl
        have df := freeAt hbo
        go_wp2
        go_roundw
        case rel =>
          refine ⟨k + 1, { o with doc := (c3 : Int) % 4 }, n + 1, ve, by omega, by go_num, (by rw [← Nat.add_assoc, ← HJ.out]; go_num), opState_succ HX.out HST.out (partF_d HC3'.out), hu.setCell (p := ⟨_, _, none⟩) (fun h => by simp only at h; omega) _, setAt hbo, (Upd.own _ _ _ _).at_ hrbr (fun e => by unfold At at e; omega), (Upd.own _ _ _ _).ownsRow hown (fun j hj e => by have := hosz j hj; unfold At at e; omega)⟩
        case measure => simp [intOf]; omega
      · -- n
        have hidx := run_index_str (P := Try.prog) Try.underlying9 (m := 110) HX.out rfl
        go_wp2_with (go_at_call 24; fail)
        refine (rat_any _ _ _ HB.out _ j rfl).mono ?_
        rintro e w3 ⟨c3, rfl, hc3, HC3, rfl⟩
        have HC3' := Lib.hid (show c3 = hd (L0.drop n) by rw [HC3.out, HLJ.out, HL.out])
        go_wp2_with (go_at_call 51; fail)
        refine (rname_any _ c3 hc3).mono ?_
        rintro e w4 ⟨s, rfl, HS, hu4⟩
        have hbo4 := hu4.at_ hbo (fun e => e)
        have hrb4 := hu4.at_ hrbr (fun e => e)
        have hown4 := hu4.ownsRow hown (fun _ _ e => e)
        have d := cellAt hbo4 2 _ rfl
        have df := freeAt hbo4
        have hu04 := hu.trans hu4
        go_wp2
        go_roundw
        case rel =>
          refine ⟨k + 1, { o with name := s }, n + 1, ve, by omega, by go_num, (by rw [← Nat.add_assoc, ← HJ.out]; go_num), opState_succ HX.out HST.out (partF_nm (by rw [HS.out, HC3'.out])), hu04.setCell (p := ⟨_, _, none⟩) (fun h => by simp only at h; omega) _, setAt hbo4, (Upd.own _ _ _ _).at_ hrb4 (fun e => by unfold At at e; omega), (Upd.own _ _ _ _).ownsRow hown4 (fun j hj e => by have := hosz j hj; unfold At at e; omega)⟩
        case measure => simp [intOf]; omega
      · -- o
        have hidx := run_index_str (P := Try.prog) Try.underlying9 (m := 111) HX.out rfl
        go_wp2_with (go_at_call 24; fail)
        refine (rat_any _ _ _ HB.out _ j rfl).mono ?_
        rintro e w3 ⟨c3, rfl, hc3, HC3, rfl⟩
        have HC3' := Lib.hid (show c3 = hd (L0.drop n) by rw [HC3.out, HLJ.out, HL.out])
        go_wp2_with (go_at_call 51; fail)
        refine (rname_any _ c3 hc3).mono ?_
        rintro e w4 ⟨s, rfl, HS, hu4⟩
        have hbo4 := hu4.at_ hbo (fun e => e)
        have hrb4 := hu4.at_ hrbr (fun e => e)
        have hown4 := hu4.ownsRow hown (fun _ _ e => e)
        have d := cellAt hbo4 3 _ rfl
        have df := freeAt hbo4
        have hu04 := hu.trans hu4
        go_wp2
        go_roundw
        case rel =>
          refine ⟨k + 1, { o with to := s }, n + 1, ve, by omega, by go_num, (by rw [← Nat.add_assoc, ← HJ.out]; go_num), opState_succ HX.out HST.out (partF_o (by rw [HS.out, HC3'.out])), hu04.setCell (p := ⟨_, _, none⟩) (fun h => by simp only at h; omega) _, setAt hbo4, (Upd.own _ _ _ _).at_ hrb4 (fun e => by unfold At at e; omega), (Upd.own _ _ _ _).ownsRow hown4 (fun j hj e => by have := hosz j hj; unfold At at e; omega)⟩
        case measure => simp [intOf]; omega
      · -- t
        have hidx := run_index_str (P := Try.prog) Try.underlying9 (m := 116) HX.out rfl
        go_wp2_with (go_at_call 24; fail)
        refine (rat_any _ _ _ HB.out _ j rfl).mono ?_
        rintro e w3 ⟨c3, rfl, hc3, HC3, rfl⟩
        have HC3' := Lib.hid (show c3 = hd (L0.drop n) by rw [HC3.out, HLJ.out, HL.out])
        go_wp2_with (go_at_call 52; fail)
        refine (rletters_any _ _ _ HB.out _ _ (j + 1) (c3 % 16) (by omega) (by omega) (by omega) (by omega)).mono ?_
        rintro e w4 ⟨s, rfl, HS, hu4⟩
        have hbo4 := hu4.at_ hbo (fun e => e)
        have hrb4 := hu4.at_ hrbr (fun e => e)
        have hown4 := hu4.ownsRow hown (fun _ _ e => e)
        have d := cellAt hbo4 4 _ rfl
        have df := freeAt hbo4
        have hu04 := hu.trans hu4
        go_wp2
        go_roundw
        case rel =>
          refine ⟨k + 1, { o with text := s }, n + 1 + c3 % 16, ve, by omega, by go_num, (by rw [show i + (n + 1 + c3 % 16) = j + c3 % 16 + 1 from by rw [HJ.out]; omega]; go_num), opState_succ HX.out HST.out (partF_t HC3'.out (l2 := (L0.drop n).drop 1) rfl (by rw [HS.out, ← List.drop_drop, HLJ.out, HL.out])), hu04.setCell (p := ⟨_, _, none⟩) (fun h => by simp only at h; omega) _, setAt hbo4, (Upd.own _ _ _ _).at_ hrb4 (fun e => by unfold At at e; omega), (Upd.own _ _ _ _).ownsRow hown4 (fun j hj e => by have := hosz j hj; unfold At at e; omega)⟩
        case measure => simp [intOf]; omega
      · -- e
        have hidx := run_index_str (P := Try.prog) Try.underlying9 (m := 101) HX.out rfl
        go_wp2_with (go_at_call 24; fail)
        refine (rat_any _ _ _ HB.out _ j rfl).mono ?_
        rintro e w3 ⟨c3, rfl, hc3, HC3, rfl⟩
        have HC3' := Lib.hid (show c3 = hd (L0.drop n) by rw [HC3.out, HLJ.out, HL.out])
        go_wp2_with (go_at_call 53; fail)
        refine (redits_any _ _ _ HB.out _ j rfl (by omega)).mono ?_
        rintro e w4 ⟨v4, rfl, hu4, hown4⟩
        have hbo4 := hu4.at_ hbo (fun e => e)
        have hrb4 := hu4.at_ hrbr (fun e => e)
        have d := cellAt hbo4 5 _ rfl
        have df := freeAt hbo4
        have hu04 := hu.trans hu4
        have hosz4 : ∀ j, v4.ownBlock = some j → w.heap.size + 1 < j := fun j hj => by have := (hown4.lt j hj).1; omega
        obtain ⟨a4, n4, cc4, rfl⟩ := ownsForm hown4
        have hlj : hd (l.drop j) % 4 = c3 % 4 := by rw [HC3.out]
        have hl1 : l.drop (j + 1) = L.drop 1 := by rw [← List.drop_drop, HLJ.out]
        rw [hlj, hl1] at hown4
        rw [hlj, hl1]
        have heN := editsN_le (c3 % 4) (L.drop 1)
        obtain ⟨en, hen⟩ : ∃ en, en = editsN (c3 % 4) (L.drop 1) := ⟨_, rfl⟩
        rw [← hen] at heN ⊢
        have HEN := Lib.hid hen
        clear hen hlj hl1 hosz
        go_wp2
        go_roundw
        case rel =>
          refine ⟨k + 1, { o with edits := editsF (c3 % 4) (L.drop 1) }, n + 1 + en, _, by omega, by go_num, (by rw [show i + (n + 1 + en) = j + 1 + en from by rw [HJ.out]; omega]; go_num), opState_succ HX.out HST.out (by rw [partF_e, ← HL.out, HEN.out, HC3'.out, ← HL.out]), hu04.setCell (p := ⟨_, _, none⟩) (fun h => by simp only at h; omega) _, setAt hbo4, (Upd.own _ _ _ _).at_ hrb4 (fun e => by unfold At at e; omega), by rw [editsF_length]; exact ((Upd.own _ _ _ _).ownsRow hown4 (fun j hj e => by have := hosz4 j hj; unfold At at e; omega)).mono_base (by omega)⟩
        case measure => simp [intOf]; omega
      · -- p
        have hidx := run_index_str (P := Try.prog) Try.underlying9 (m := 112) HX.out rfl
        go_wp2_with (go_at_call 24; fail)
        refine (rat_any _ _ _ HB.out _ j rfl).mono ?_
        rintro e w3 ⟨c3, rfl, hc3, HC3, rfl⟩
        have HC3' := Lib.hid (show c3 = hd (L0.drop n) by rw [HC3.out, HLJ.out, HL.out])
        have d := cellAt hbo 6 _ rfl
        have df := freeAt hbo
        go_wp2
        go_roundw
        case rel =>
          refine ⟨k + 1, { o with epoch := (c3 : Int) % 32 }, n + 1, ve, by omega, by go_num, (by rw [← Nat.add_assoc, ← HJ.out]; go_num), opState_succ HX.out HST.out (partF_p HC3'.out), hu.setCell (p := ⟨_, _, none⟩) (fun h => by simp only at h; omega) _, setAt hbo, (Upd.own _ _ _ _).at_ hrbr (fun e => by unfold At at e; omega), (Upd.own _ _ _ _).ownsRow hown (fun j hj e => by have := hosz j hj; unfold At at e; omega)⟩
        case measure => simp [intOf]; omega
      · -- v
        have hidx := run_index_str (P := Try.prog) Try.underlying9 (m := 118) HX.out rfl
        go_wp2_with (go_at_call 24; fail)
        refine (rat_any _ _ _ HB.out _ j rfl).mono ?_
        rintro e w3 ⟨c3, rfl, hc3, HC3, rfl⟩
        have HC3' := Lib.hid (show c3 = hd (L0.drop n) by rw [HC3.out, HLJ.out, HL.out])
        have d := cellAt hbo 7 _ rfl
        have df := freeAt hbo
        go_wp2
        go_roundw
        case rel =>
          refine ⟨k + 1, { o with version := (c3 : Int) % 32 }, n + 1, ve, by omega, by go_num, (by rw [← Nat.add_assoc, ← HJ.out]; go_num), opState_succ HX.out HST.out (partF_v HC3'.out), hu.setCell (p := ⟨_, _, none⟩) (fun h => by simp only at h; omega) _, setAt hbo, (Upd.own _ _ _ _).at_ hrbr (fun e => by unfold At at e; omega), (Upd.own _ _ _ _).ownsRow hown (fun j hj e => by have := hosz j hj; unfold At at e; omega)⟩
        case measure => simp [intOf]; omega
      · -- u
        have hidx := run_index_str (P := Try.prog) Try.underlying9 (m := 117) HX.out rfl
        go_wp2_with (go_at_call 24; fail)
        refine (rat_any _ _ _ HB.out _ j rfl).mono ?_
        rintro e w3 ⟨c3, rfl, hc3, HC3, rfl⟩
        have HC3' := Lib.hid (show c3 = hd (L0.drop n) by rw [HC3.out, HLJ.out, HL.out])
        have d := cellAt hbo 8 _ rfl
        have df := freeAt hbo
        go_wp2
        go_roundw
        case rel =>
          refine ⟨k + 1, { o with dur := c3 }, n + 1, ve, by omega, by go_num, (by rw [← Nat.add_assoc, ← HJ.out]; go_num), opState_succ HX.out HST.out (partF_u HC3'.out), hu.setCell (p := ⟨_, _, none⟩) (fun h => by simp only at h; omega) _, setAt hbo, (Upd.own _ _ _ _).at_ hrbr (fun e => by unfold At at e; omega), (Upd.own _ _ _ _).ownsRow hown (fun j hj e => by have := hosz j hj; unfold At at e; omega)⟩
        case measure => simp [intOf]; omega
    · have hkn : k = ps.length := by omega
      subst hkn
      have hst2 : opF L0 = (o, n) := by rw [HST.out, opState, List.take_length, HPS.out, HKK.out, HC.out, ← HL0.out]; rfl
      have HST2 := Lib.hid hst2
      clear hst2
      obtain ⟨va, vn, vc, rfl⟩ := ownsForm hown
      have hus := Upd.row wr w.heap.size (opCells o (.slice va vn vc))
      go_wp2_with (first | (refine wpList_load_blk rfl _ _ rfl rfl hbo (Try.ropT _ _) ?_) | (refine wpList_store_blk rfl _ _ _ rfl rfl (cells := opCells o (.slice va vn vc)) rfl hrbr (Try.ropT _ _) rfl (opCells_one _ _ _ _) ?_))
      refine bodyPost_blk2 rfl rfl rfl (setRow_heap _ _ _ _ _ _ hrbr) (Try.ropT _ _) ?_
      refine ⟨_, by rw [HST2.out, ← HJ.out]; rfl, hu.step hus (fun i hi e => by unfold At at e; omega), ?_⟩
      rw [HST2.out]; exact (hus.ownsRow hown (fun j hj e => by have := hosz j hj; unfold At at e; omega)).mono_base (by omega)

end Go.Proofs.Ytlhpcgmbbeihiaa
