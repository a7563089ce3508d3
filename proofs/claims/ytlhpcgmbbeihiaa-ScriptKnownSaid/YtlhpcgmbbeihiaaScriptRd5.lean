/-
  CONTRACT of script's reader: op. By program (gen/scriptop.py).
-/
import Derived.Test.YtlhpcgmbbeihiaaScriptRd4
namespace Go.Proofs.Ytlhpcgmbbeihiaa
open Go.RowKit

def opCells (o : Oper') (ve : Value) : Array Value := #[.int .u8 o.kind, .int .u64 o.doc, str o.name, str o.to, str o.text, ve, .int .u64 o.epoch, .int .u64 o.version, .int .u64 o.dur]
theorem opCells_one (o : Oper') (a : Option Addr) (n c : Nat) : (opCells o (.slice a n c)).all (·.oneCell') = true := by simp [opCells, Value.oneCell']
def opState (l ps : List UInt8) (k : Nat) : Oper' × Nat := (ps.take k).foldl (partF l) (Oper'.zero (1 + (hd l : Int) % 17), 1)
theorem opState_succ {l ps : List UInt8} {k : Nat} {c : UInt8} (h : ps[k]? = some c) {x y : Oper' × Nat} (hx : x = opState l ps k) (hy : partF l x c = y) : y = opState l ps (k + 1) := by
  obtain ⟨hk, hc⟩ := List.getElem?_eq_some_iff.1 h
  rw [opState, List.take_succ_eq_append_getElem hk, List.foldl_append, ← opState, ← hx, hc, ← hy]; rfl
theorem partsLetter (k i : Nat) (hk : k < 18) (hi : i < (partsF k).length) : ∃ c, (partsF k)[i]? = some c ∧ (c = 100 ∨ c = 110 ∨ c = 111 ∨ c = 116 ∨ c = 101 ∨ c = 112 ∨ c = 118 ∨ c = 117) := by
  have key : ∀ k, k < 18 → ∀ i, i < (partsF k).length → ∃ c, (partsF k)[i]? = some c ∧ (c = 100 ∨ c = 110 ∨ c = 111 ∨ c = 116 ∨ c = 101 ∨ c = 112 ∨ c = 118 ∨ c = 117) := by
    intro k hk i hi
    refine ⟨_, List.getElem?_eq_getElem hi, ?_⟩
    have h : k = 0 ∨ k = 1 ∨ k = 2 ∨ k = 3 ∨ k = 4 ∨ k = 5 ∨ k = 6 ∨ k = 7 ∨ k = 8 ∨ k = 9 ∨ k = 10 ∨ k = 11 ∨ k = 12 ∨ k = 13 ∨ k = 14 ∨ k = 15 ∨ k = 16 ∨ k = 17 := by omega
    rcases h with rfl | rfl | rfl | rfl | rfl | rfl | rfl | rfl | rfl | rfl | rfl | rfl | rfl | rfl | rfl | rfl | rfl | rfl <;> simp [partsF] at hi
    all_goals (have hi2 : i = 0 ∨ i = 1 ∨ i = 2 ∨ i = 3 := by omega)
    all_goals (rcases hi2 with rfl | rfl | rfl | rfl)
    all_goals first | (exfalso; omega) | (simp [partsF])
  exact key k hk i hi
theorem partsLen (k : Nat) (hk : k < 18) : (partsF k).length ≤ 4 := by
  have h : k = 0 ∨ k = 1 ∨ k = 2 ∨ k = 3 ∨ k = 4 ∨ k = 5 ∨ k = 6 ∨ k = 7 ∨ k = 8 ∨ k = 9 ∨ k = 10 ∨ k = 11 ∨ k = 12 ∨ k = 13 ∨ k = 14 ∨ k = 15 ∨ k = 16 ∨ k = 17 := by omega
  rcases h with rfl | rfl | rfl | rfl | rfl | rfl | rfl | rfl | rfl | rfl | rfl | rfl | rfl | rfl | rfl | rfl | rfl | rfl <;> simp [partsF]
theorem partF_d {l : List UInt8} {o : Oper'} {n c : Nat} (h : c = hd (l.drop n)) : partF l (o, n) 100 = ({ o with doc := (c : Int) % 4 }, n + 1) := by subst h; rfl
theorem partF_nm {l : List UInt8} {o : Oper'} {n : Nat} {s : List UInt8} (h : s = nameF (hd (l.drop n))) : partF l (o, n) 110 = ({ o with name := s }, n + 1) := by subst h; rfl
theorem partF_o {l : List UInt8} {o : Oper'} {n : Nat} {s : List UInt8} (h : s = nameF (hd (l.drop n))) : partF l (o, n) 111 = ({ o with to := s }, n + 1) := by subst h; rfl
theorem partF_t {l l2 s : List UInt8} {o : Oper'} {n c : Nat} (h : c = hd (l.drop n)) (h2 : l2 = (l.drop n).drop 1) (hs : s = lettersF (c % 16) l2) : partF l (o, n) 116 = ({ o with text := s }, n + 1 + c % 16) := by
  subst h; rw [List.drop_drop] at h2; subst h2; subst hs; rfl
theorem partF_e {l : List UInt8} {o : Oper'} {n : Nat} : partF l (o, n) 101 = ({ o with edits := editsF (hd (l.drop n) % 4) ((l.drop n).drop 1) }, n + 1 + editsN (hd (l.drop n) % 4) ((l.drop n).drop 1)) := by
  rw [List.drop_drop]; rfl
theorem partF_p {l : List UInt8} {o : Oper'} {n c : Nat} (h : c = hd (l.drop n)) : partF l (o, n) 112 = ({ o with epoch := (c : Int) % 32 }, n + 1) := by subst h; rfl
theorem partF_v {l : List UInt8} {o : Oper'} {n c : Nat} (h : c = hd (l.drop n)) : partF l (o, n) 118 = ({ o with version := (c : Int) % 32 }, n + 1) := by subst h; rfl
theorem partF_u {l : List UInt8} {o : Oper'} {n c : Nat} (h : c = hd (l.drop n)) : partF l (o, n) 117 = ({ o with dur := c }, n + 1) := by subst h; rfl

/-- The loop's relation. -/
def OpLoop (B rb bo it r : Nat) (l ps : List UInt8) (w wr : World) : Prop :=
  ∃ (k : Nat) (o : Oper') (n : Nat) (ve : Value), k ≤ ps.length ∧ (o, n) = opState l ps k ∧ Upd (At r) w wr ∧ Reader B wr r (l.drop n) ∧ wr.heap[bo]? = some (.cells (opCells o ve) 41 (0, 0)) ∧
    wr.heap[rb]? = some (.cells (opCells (Oper'.zero 0) (.slice none 0 0)) 41 (0, 0)) ∧ wr.ownsRow (it + 1) 46 3 ve o.edits.length (editCells o.edits) ∧ wr.heap[it]? = some (.stringIter ⟨ps.toArray⟩ k)


set_option maxRecDepth 100000 in
set_option maxHeartbeats 4000000 in
theorem op_any {B : Nat} (w : World) (r : Nat) (l : List UInt8) (h : Reader B w r l) :
    Calls Try.prog 41 #[.pointer (some ⟨r, 0, none⟩)] w fun e w' => ∃ ve, e = .returned (.agg (opCells (opF l).1 ve)) ∧ Upd (At r) w w' ∧ Reader B w' r (l.drop (opF l).2) ∧
      w'.ownsRow w.heap.size 46 3 ve (opF l).1.edits.length (editCells (opF l).1.edits) := by
  have hrl := h.lt
  go_enter Try.func41, Try.ntmps41
  go_wp2_with (go_at_call 26; fail)
  have hrb := newAt w (.cells (opCells (Oper'.zero 0) (.slice none 0 0)) 41)
  refine (next_c _ r _ (h.alloc _)).mono ?_
  rintro e w1 ⟨c, l1, rfl, hc, HC, HL1, hu1, hr1, hlt1⟩
  have hrb1 := hu1.at_ hrb (fun e => by unfold At at e; omega)
  have hs1 : w.heap.size < w1.heap.size := by have := hu1.size; simp at this; omega
  go_wp2_with (go_at_call 54; fail)
  rw [show (1 : Int) + (c : Int) % 17 = ((1 + c % 17 : Nat) : Int) from by omega]
  refine (scriptParts_any _ (1 + c % 17) (by omega)).mono ?_
  rintro e w2 ⟨rfl, hu2⟩
  have hpl := partsLen (1 + c % 17) (by omega)
  have hlet := partsLetter (1 + c % 17)
  obtain ⟨kk, hkk⟩ : ∃ kk, kk = 1 + c % 17 := ⟨_, rfl⟩
  rw [← hkk] at hpl hlet ⊢
  obtain ⟨ps, hps⟩ : ∃ ps, ps = partsF kk := ⟨_, rfl⟩
  rw [← hps] at hpl hlet ⊢
  have HKK := Lib.hid hkk
  have HPS := Lib.hid hps
  have HLET := Lib.hid hlet
  have hs2 : w1.heap.size < w2.heap.size := by have := hu2.size; simp at this; omega
  have hbo2 := hu2.at_ (newAt w1 (.cells (opCells (Oper'.zero (1 + (c : Int) % 17)) (.slice none 0 0)) 41)) (fun e => e)
  have hrb2 := hu2.at_ ((((Upd.refl Nothing w1).alloc (.cells (opCells (Oper'.zero (1 + (c : Int) % 17)) (.slice none 0 0)) 41)).at_ hrb1 (fun e => e))) (fun e => e)
  have hr2 := (hr1.alloc (.cells (opCells (Oper'.zero (1 + (c : Int) % 17)) (.slice none 0 0)) 41)).upd hu2 (fun _ e => e.elim)
  have hu02 : Upd (At r) w w2 := (((((Upd.refl (At r) w).alloc _).trans hu1).alloc _).ext hu2)
  clear hkk hps hlet
  go_wp2_with fail
  go_loopw [5] (fun _ wr => OpLoop B w.heap.size w1.heap.size w2.heap.size r l ps w wr) (fun _ wr => ps.length - wr.iterPos w2.heap.size)
  case atStart =>
    refine ⟨0, Oper'.zero (1 + (c : Int) % 17), 1, .slice none 0 0, Nat.zero_le _, ?_, hu02.alloc _, ?_, ((Upd.refl Nothing w2).alloc _).at_ hbo2 id, ((Upd.refl Nothing w2).alloc _).at_ hrb2 id, World.ownsRow_nil _ _ _ _, newAt _ _⟩
    · rw [HC.out]; rfl
    · rw [← HL1.out]; exact hr2.alloc _
  case round =>
    obtain ⟨k, o, n, ve, hk, hst, hu, hr, hbo, hrbr, hown, hit⟩ := hrel
    obtain ⟨L, hL⟩ : ∃ L, L = l.drop n := ⟨_, rfl⟩
    rw [← hL] at hr
    have HL := Lib.hid hL
    have HST := Lib.hid hst
    clear hL hst
    have hpos := iterPos_at hit
    have HPOS := Lib.hid hpos
    clear hpos
    have hosz : ∀ j, ve.ownBlock = some j → w2.heap.size < j ∧ j < wr.heap.size := fun j hj => by have := hown.lt j hj; omega
    have hitl := lt_of_heap hit
    by_cases hlt : k < ps.length
    · obtain ⟨x, hx, hxs⟩ := HLET.out k (by have := HKK.out; omega) hlt
      have HX := Lib.hid hx
      clear hx
      rcases hxs with rfl | rfl | rfl | rfl | rfl | rfl | rfl | rfl
      · -- d
        obtain ⟨ws, hnx, hus, his⟩ := next_at (P := Try.prog) wr _ ps k 100 100 hit HX.out (by decide) rfl
        have hrs := hr.upd hus (fun j e => by unfold At at e; omega)
        have hbos := hus.at_ hbo (fun e => by unfold At at e; omega)
        have hrbs := hus.at_ hrbr (fun e => by unfold At at e; omega)
        have howns := hus.ownsRow hown (fun j hj e => by have := hosz j hj; unfold At at e; omega)
        clear hr hbo hrbr hown hit
        go_wp2_with (go_at_call 26; fail)
        refine (next_c _ r _ hrs).mono ?_
        rintro e w3 ⟨c3, l3, rfl, hc3, HC3, HL3, hu3, hr3, hlt3⟩
        have hbo3 := hu3.at_ hbos (fun e => by unfold At at e; omega)
        have hrb3 := hu3.at_ hrbs (fun e => by unfold At at e; omega)
        have hown3 := hu3.ownsRow howns (fun j hj e => by have := hosz j hj; unfold At at e; omega)
        have his3 := hu3.at_ his (fun e => by unfold At at e; omega)
        have d := cellAt hbo3 1 _ rfl
        have df := freeAt hbo3
        clear hrs hbos hrbs howns his
        go_wp2
        go_roundw
        case rel =>
          refine ⟨k + 1, { o with doc := (c3 : Int) % 4 }, n + 1, ve, by omega, opState_succ HX.out HST.out (partF_d (by rw [HC3.out, HL.out])), ?_, ?_, setAt hbo3, ?_, ?_, ?_⟩
          · exact ((hu.step hus (fun i h e => by unfold At at e; omega)).trans hu3).setCell (p := ⟨_, _, none⟩) (fun h => by simp only at h; omega) _
          · rw [← List.drop_drop, ← HL.out, ← HL3.out]; exact hr3.set (by omega) _ _
          · exact (Upd.own _ _ _ _).at_ hrb3 (fun e => by unfold At at e; omega)
          · exact (Upd.own _ _ _ _).ownsRow hown3 (fun j hj e => by have := hosz j hj; unfold At at e; omega)
          · exact (Upd.own _ _ _ _).at_ his3 (fun e => by unfold At at e; omega)
        case measure => rw [HPOS.out, iterPos_at ((Upd.own _ _ _ _).at_ his3 (fun e => by unfold At at e; omega))]; omega
      · -- n
        obtain ⟨ws, hnx, hus, his⟩ := next_at (P := Try.prog) wr _ ps k 110 110 hit HX.out (by decide) rfl
        have hrs := hr.upd hus (fun j e => by unfold At at e; omega)
        have hbos := hus.at_ hbo (fun e => by unfold At at e; omega)
        have hrbs := hus.at_ hrbr (fun e => by unfold At at e; omega)
        have howns := hus.ownsRow hown (fun j hj e => by have := hosz j hj; unfold At at e; omega)
        clear hr hbo hrbr hown hit
        go_wp2_with (go_at_call 55; fail)
        refine (name_c _ r _ hrs).mono ?_
        rintro e w3 ⟨s, l3, rfl, HS, HL3, hu3, hr3, hlt3⟩
        have hbo3 := hu3.at_ hbos (fun e => by unfold At at e; omega)
        have hrb3 := hu3.at_ hrbs (fun e => by unfold At at e; omega)
        have hown3 := hu3.ownsRow howns (fun j hj e => by have := hosz j hj; unfold At at e; omega)
        have his3 := hu3.at_ his (fun e => by unfold At at e; omega)
        have d := cellAt hbo3 2 _ rfl
        have df := freeAt hbo3
        clear hrs hbos hrbs howns his
        go_wp2
        go_roundw
        case rel =>
          refine ⟨k + 1, { o with name := s }, n + 1, ve, by omega, opState_succ HX.out HST.out (partF_nm (by rw [HS.out, HL.out])), ?_, ?_, setAt hbo3, ?_, ?_, ?_⟩
          · exact ((hu.step hus (fun i h e => by unfold At at e; omega)).trans hu3).setCell (p := ⟨_, _, none⟩) (fun h => by simp only at h; omega) _
          · rw [← List.drop_drop, ← HL.out, ← HL3.out]; exact hr3.set (by omega) _ _
          · exact (Upd.own _ _ _ _).at_ hrb3 (fun e => by unfold At at e; omega)
          · exact (Upd.own _ _ _ _).ownsRow hown3 (fun j hj e => by have := hosz j hj; unfold At at e; omega)
          · exact (Upd.own _ _ _ _).at_ his3 (fun e => by unfold At at e; omega)
        case measure => rw [HPOS.out, iterPos_at ((Upd.own _ _ _ _).at_ his3 (fun e => by unfold At at e; omega))]; omega
      · -- o
        obtain ⟨ws, hnx, hus, his⟩ := next_at (P := Try.prog) wr _ ps k 111 111 hit HX.out (by decide) rfl
        have hrs := hr.upd hus (fun j e => by unfold At at e; omega)
        have hbos := hus.at_ hbo (fun e => by unfold At at e; omega)
        have hrbs := hus.at_ hrbr (fun e => by unfold At at e; omega)
        have howns := hus.ownsRow hown (fun j hj e => by have := hosz j hj; unfold At at e; omega)
        clear hr hbo hrbr hown hit
        go_wp2_with (go_at_call 55; fail)
        refine (name_c _ r _ hrs).mono ?_
        rintro e w3 ⟨s, l3, rfl, HS, HL3, hu3, hr3, hlt3⟩
        have hbo3 := hu3.at_ hbos (fun e => by unfold At at e; omega)
        have hrb3 := hu3.at_ hrbs (fun e => by unfold At at e; omega)
        have hown3 := hu3.ownsRow howns (fun j hj e => by have := hosz j hj; unfold At at e; omega)
        have his3 := hu3.at_ his (fun e => by unfold At at e; omega)
        have d := cellAt hbo3 3 _ rfl
        have df := freeAt hbo3
        clear hrs hbos hrbs howns his
        go_wp2
        go_roundw
        case rel =>
          refine ⟨k + 1, { o with to := s }, n + 1, ve, by omega, opState_succ HX.out HST.out (partF_o (by rw [HS.out, HL.out])), ?_, ?_, setAt hbo3, ?_, ?_, ?_⟩
          · exact ((hu.step hus (fun i h e => by unfold At at e; omega)).trans hu3).setCell (p := ⟨_, _, none⟩) (fun h => by simp only at h; omega) _
          · rw [← List.drop_drop, ← HL.out, ← HL3.out]; exact hr3.set (by omega) _ _
          · exact (Upd.own _ _ _ _).at_ hrb3 (fun e => by unfold At at e; omega)
          · exact (Upd.own _ _ _ _).ownsRow hown3 (fun j hj e => by have := hosz j hj; unfold At at e; omega)
          · exact (Upd.own _ _ _ _).at_ his3 (fun e => by unfold At at e; omega)
        case measure => rw [HPOS.out, iterPos_at ((Upd.own _ _ _ _).at_ his3 (fun e => by unfold At at e; omega))]; omega
      · -- t
        obtain ⟨ws, hnx, hus, his⟩ := next_at (P := Try.prog) wr _ ps k 116 116 hit HX.out (by decide) rfl
        have hrs := hr.upd hus (fun j e => by unfold At at e; omega)
        have hbos := hus.at_ hbo (fun e => by unfold At at e; omega)
        have hrbs := hus.at_ hrbr (fun e => by unfold At at e; omega)
        have howns := hus.ownsRow hown (fun j hj e => by have := hosz j hj; unfold At at e; omega)
        clear hr hbo hrbr hown hit
        go_wp2_with (go_at_call 26; fail)
        refine (next_c _ r _ hrs).mono ?_
        rintro e w3 ⟨c3, l3, rfl, hc3, HC3, HL3, hu3, hr3, hlt3⟩
        go_wp2_with (go_at_call 56; fail)
        refine (letters_c _ r _ _ (c3 % 16) (by omega) (by omega) hr3).mono ?_
        rintro e w4 ⟨s, l4, rfl, HS, HL4, hu4, hr4, hlt4⟩
        have hu34 := hu3.trans hu4
        have hbo3 := hu34.at_ hbos (fun e => by unfold At at e; omega)
        have hrb3 := hu34.at_ hrbs (fun e => by unfold At at e; omega)
        have hown3 := hu34.ownsRow howns (fun j hj e => by have := hosz j hj; unfold At at e; omega)
        have his3 := hu34.at_ his (fun e => by unfold At at e; omega)
        have d := cellAt hbo3 4 _ rfl
        have df := freeAt hbo3
        clear hrs hbos hrbs howns his
        go_wp2
        go_roundw
        case rel =>
          refine ⟨k + 1, { o with text := s }, n + 1 + c3 % 16, ve, by omega, opState_succ HX.out HST.out (partF_t (by rw [HC3.out, HL.out]) (by rw [HL3.out, HL.out]) HS.out), ?_, ?_, setAt hbo3, ?_, ?_, ?_⟩
          · exact ((hu.step hus (fun i h e => by unfold At at e; omega)).trans hu34).setCell (p := ⟨_, _, none⟩) (fun h => by simp only at h; omega) _
          · rw [← List.drop_drop, ← List.drop_drop, ← HL.out, ← HL3.out, ← HL4.out]; exact hr4.set (by omega) _ _
          · exact (Upd.own _ _ _ _).at_ hrb3 (fun e => by unfold At at e; omega)
          · exact (Upd.own _ _ _ _).ownsRow hown3 (fun j hj e => by have := hosz j hj; unfold At at e; omega)
          · exact (Upd.own _ _ _ _).at_ his3 (fun e => by unfold At at e; omega)
        case measure => rw [HPOS.out, iterPos_at ((Upd.own _ _ _ _).at_ his3 (fun e => by unfold At at e; omega))]; omega
      · -- e
        obtain ⟨ws, hnx, hus, his⟩ := next_at (P := Try.prog) wr _ ps k 101 101 hit HX.out (by decide) rfl
        have hrs := hr.upd hus (fun j e => by unfold At at e; omega)
        have hbos := hus.at_ hbo (fun e => by unfold At at e; omega)
        have hrbs := hus.at_ hrbr (fun e => by unfold At at e; omega)
        have howns := hus.ownsRow hown (fun j hj e => by have := hosz j hj; unfold At at e; omega)
        clear hr hbo hrbr hown hit
        go_wp2_with (go_at_call 57; fail)
        refine (edits_any _ r _ hrs).mono ?_
        rintro e w3 ⟨v3, rfl, hu3, hr3, hown3⟩
        have hlt3 := hr3.lt
        have hss := hus.size
        have hbo3 := hu3.at_ hbos (fun e => by unfold At at e; omega)
        have hrb3 := hu3.at_ hrbs (fun e => by unfold At at e; omega)
        have his3 := hu3.at_ his (fun e => by unfold At at e; omega)
        have hosz3 : ∀ j, v3.ownBlock = some j → w2.heap.size < j := fun j hj => by have := (hown3.lt j hj).1; omega
        have d := cellAt hbo3 5 _ rfl
        have df := freeAt hbo3
        obtain ⟨a3, len3, cap3, rfl⟩ := ownsForm hown3
        clear hrs hbos hrbs howns his
        go_wp2
        go_roundw
        case rel =>
          refine ⟨k + 1, { o with edits := editsF (hd L % 4) (L.drop 1) }, n + 1 + editsN (hd L % 4) (L.drop 1), _, by omega, opState_succ HX.out HST.out (by rw [partF_e, ← HL.out]), ?_, ?_, setAt hbo3, ?_, ?_, ?_⟩
          · exact ((hu.step hus (fun i h e => by unfold At at e; omega)).trans hu3).setCell (p := ⟨_, _, none⟩) (fun h => by simp only at h; omega) _
          · rw [Nat.add_assoc, ← List.drop_drop, ← HL.out]; exact hr3.set (by omega) _ _
          · exact (Upd.own _ _ _ _).at_ hrb3 (fun e => by unfold At at e; omega)
          · rw [editsF_length]
            exact ((Upd.own _ _ _ _).ownsRow hown3 (fun j hj e => by have := hosz3 j hj; unfold At at e; omega)).mono_base (by omega)
          · exact (Upd.own _ _ _ _).at_ his3 (fun e => by unfold At at e; omega)
        case measure => rw [HPOS.out, iterPos_at ((Upd.own _ _ _ _).at_ his3 (fun e => by unfold At at e; omega))]; omega
      · -- p
        obtain ⟨ws, hnx, hus, his⟩ := next_at (P := Try.prog) wr _ ps k 112 112 hit HX.out (by decide) rfl
        have hrs := hr.upd hus (fun j e => by unfold At at e; omega)
        have hbos := hus.at_ hbo (fun e => by unfold At at e; omega)
        have hrbs := hus.at_ hrbr (fun e => by unfold At at e; omega)
        have howns := hus.ownsRow hown (fun j hj e => by have := hosz j hj; unfold At at e; omega)
        clear hr hbo hrbr hown hit
        go_wp2_with (go_at_call 26; fail)
        refine (next_c _ r _ hrs).mono ?_
        rintro e w3 ⟨c3, l3, rfl, hc3, HC3, HL3, hu3, hr3, hlt3⟩
        have hbo3 := hu3.at_ hbos (fun e => by unfold At at e; omega)
        have hrb3 := hu3.at_ hrbs (fun e => by unfold At at e; omega)
        have hown3 := hu3.ownsRow howns (fun j hj e => by have := hosz j hj; unfold At at e; omega)
        have his3 := hu3.at_ his (fun e => by unfold At at e; omega)
        have d := cellAt hbo3 6 _ rfl
        have df := freeAt hbo3
        clear hrs hbos hrbs howns his
        go_wp2
        go_roundw
        case rel =>
          refine ⟨k + 1, { o with epoch := (c3 : Int) % 32 }, n + 1, ve, by omega, opState_succ HX.out HST.out (partF_p (by rw [HC3.out, HL.out])), ?_, ?_, setAt hbo3, ?_, ?_, ?_⟩
          · exact ((hu.step hus (fun i h e => by unfold At at e; omega)).trans hu3).setCell (p := ⟨_, _, none⟩) (fun h => by simp only at h; omega) _
          · rw [← List.drop_drop, ← HL.out, ← HL3.out]; exact hr3.set (by omega) _ _
          · exact (Upd.own _ _ _ _).at_ hrb3 (fun e => by unfold At at e; omega)
          · exact (Upd.own _ _ _ _).ownsRow hown3 (fun j hj e => by have := hosz j hj; unfold At at e; omega)
          · exact (Upd.own _ _ _ _).at_ his3 (fun e => by unfold At at e; omega)
        case measure => rw [HPOS.out, iterPos_at ((Upd.own _ _ _ _).at_ his3 (fun e => by unfold At at e; omega))]; omega
      · -- v
        obtain ⟨ws, hnx, hus, his⟩ := next_at (P := Try.prog) wr _ ps k 118 118 hit HX.out (by decide) rfl
        have hrs := hr.upd hus (fun j e => by unfold At at e; omega)
        have hbos := hus.at_ hbo (fun e => by unfold At at e; omega)
        have hrbs := hus.at_ hrbr (fun e => by unfold At at e; omega)
        have howns := hus.ownsRow hown (fun j hj e => by have := hosz j hj; unfold At at e; omega)
        clear hr hbo hrbr hown hit
        go_wp2_with (go_at_call 26; fail)
        refine (next_c _ r _ hrs).mono ?_
        rintro e w3 ⟨c3, l3, rfl, hc3, HC3, HL3, hu3, hr3, hlt3⟩
        have hbo3 := hu3.at_ hbos (fun e => by unfold At at e; omega)
        have hrb3 := hu3.at_ hrbs (fun e => by unfold At at e; omega)
        have hown3 := hu3.ownsRow howns (fun j hj e => by have := hosz j hj; unfold At at e; omega)
        have his3 := hu3.at_ his (fun e => by unfold At at e; omega)
        have d := cellAt hbo3 7 _ rfl
        have df := freeAt hbo3
        clear hrs hbos hrbs howns his
        go_wp2
        go_roundw
        case rel =>
          refine ⟨k + 1, { o with version := (c3 : Int) % 32 }, n + 1, ve, by omega, opState_succ HX.out HST.out (partF_v (by rw [HC3.out, HL.out])), ?_, ?_, setAt hbo3, ?_, ?_, ?_⟩
          · exact ((hu.step hus (fun i h e => by unfold At at e; omega)).trans hu3).setCell (p := ⟨_, _, none⟩) (fun h => by simp only at h; omega) _
          · rw [← List.drop_drop, ← HL.out, ← HL3.out]; exact hr3.set (by omega) _ _
          · exact (Upd.own _ _ _ _).at_ hrb3 (fun e => by unfold At at e; omega)
          · exact (Upd.own _ _ _ _).ownsRow hown3 (fun j hj e => by have := hosz j hj; unfold At at e; omega)
          · exact (Upd.own _ _ _ _).at_ his3 (fun e => by unfold At at e; omega)
        case measure => rw [HPOS.out, iterPos_at ((Upd.own _ _ _ _).at_ his3 (fun e => by unfold At at e; omega))]; omega
      · -- u
        obtain ⟨ws, hnx, hus, his⟩ := next_at (P := Try.prog) wr _ ps k 117 117 hit HX.out (by decide) rfl
        have hrs := hr.upd hus (fun j e => by unfold At at e; omega)
        have hbos := hus.at_ hbo (fun e => by unfold At at e; omega)
        have hrbs := hus.at_ hrbr (fun e => by unfold At at e; omega)
        have howns := hus.ownsRow hown (fun j hj e => by have := hosz j hj; unfold At at e; omega)
        clear hr hbo hrbr hown hit
        go_wp2_with (go_at_call 26; fail)
        refine (next_c _ r _ hrs).mono ?_
        rintro e w3 ⟨c3, l3, rfl, hc3, HC3, HL3, hu3, hr3, hlt3⟩
        have hbo3 := hu3.at_ hbos (fun e => by unfold At at e; omega)
        have hrb3 := hu3.at_ hrbs (fun e => by unfold At at e; omega)
        have hown3 := hu3.ownsRow howns (fun j hj e => by have := hosz j hj; unfold At at e; omega)
        have his3 := hu3.at_ his (fun e => by unfold At at e; omega)
        have d := cellAt hbo3 8 _ rfl
        have df := freeAt hbo3
        clear hrs hbos hrbs howns his
        go_wp2
        go_roundw
        case rel =>
          refine ⟨k + 1, { o with dur := c3 }, n + 1, ve, by omega, opState_succ HX.out HST.out (partF_u (by rw [HC3.out, HL.out])), ?_, ?_, setAt hbo3, ?_, ?_, ?_⟩
          · exact ((hu.step hus (fun i h e => by unfold At at e; omega)).trans hu3).setCell (p := ⟨_, _, none⟩) (fun h => by simp only at h; omega) _
          · rw [← List.drop_drop, ← HL.out, ← HL3.out]; exact hr3.set (by omega) _ _
          · exact (Upd.own _ _ _ _).at_ hrb3 (fun e => by unfold At at e; omega)
          · exact (Upd.own _ _ _ _).ownsRow hown3 (fun j hj e => by have := hosz j hj; unfold At at e; omega)
          · exact (Upd.own _ _ _ _).at_ his3 (fun e => by unfold At at e; omega)
        case measure => rw [HPOS.out, iterPos_at ((Upd.own _ _ _ _).at_ his3 (fun e => by unfold At at e; omega))]; omega
    · have hkn : k = ps.length := by omega
      subst hkn
      have hnx := next_done (P := Try.prog) wr _ ps hit
      have hst2 : opF l = (o, n) := by rw [HST.out, opState, List.take_length, HPS.out, HKK.out, HC.out]; rfl
      have HST2 := Lib.hid hst2
      obtain ⟨va, vn, vc, rfl⟩ := ownsForm hown
      clear hst2
      go_wp2_with (first | (refine wpList_load_row rfl _ _ rfl w1.heap.size rfl _ _ _ _ hbo Try.underlying41 rfl (by kernel_rfl) ?_) | (refine wpList_store_row rfl _ _ _ rfl w.heap.size _ rfl rfl _ _ hrbr (by kernel_rfl) rfl (opCells_one _ _ _ _) ?_))
      refine bodyPost_ret_by (results_cell_row rfl _ _ w.heap.size _ (opCells o (.slice va vn vc)) (0, 0) _ rfl (setRow_heap _ _ _ _ _ _ hrbr) Try.underlying41 rfl (by kernel_rfl)) (by exact rfl) ?_
      have hus := Upd.row wr w.heap.size (opCells o (.slice va vn vc))
      refine ⟨_, by rw [HST2.out], hu.step hus (fun i hi e => by unfold At at e; omega), ?_, ?_⟩
      · rw [HST2.out]; show Reader _ _ _ (l.drop n); rw [← HL.out]; exact hr.upd hus (fun i e => by unfold At at e; omega)
      · rw [HST2.out]; exact (hus.ownsRow hown (fun j hj e => by have := hosz j hj; unfold At at e; omega)).mono_base (by omega)

end Go.Proofs.Ytlhpcgmbbeihiaa
