/-
  CONTRACTS of script's reader: edits.
-/
import Derived.Test.YtlhpcgmbbeihiaaScriptRd2
namespace Go.Proofs.Ytlhpcgmbbeihiaa
open Go.RowKit

def Edit.cells (e : Edit) : List Value := [.int .u8 e.kind, .int .i64 e.n, str e.text]
abbrev editCells (l : List Edit) : List Value := (l.map Edit.cells).flatten
theorem editCells_length (l : List Edit) : (editCells l).length = l.length * 3 := by
  induction l with
  | nil => rfl
  | cons e l ih => simp [editCells, Edit.cells] at ih ⊢; omega
theorem editCells_snoc (l : List Edit) (e : Edit) : editCells (l ++ [e]) = editCells l ++ e.cells := by simp [editCells]
theorem edit_one (e : Edit) : OneCells e.cells := by intro u hu; simp [Edit.cells] at hu; rcases hu with rfl | rfl | rfl <;> rfl
theorem Try.editsT : SliceT Try.prog 39 46 3 32 := sliceT_of Try.underlying39 (by kernel_rfl) (by decide)

theorem editF_text {l : List UInt8} (h : hd l % 3 = 1) : editF l = (⟨1 + (hd l : Int) % 3, 0, lettersF (1 + hd (l.drop 1) % 4) (l.drop 2)⟩, 2 + (1 + hd (l.drop 1) % 4)) := by rw [editF, if_pos h]
theorem editF_n {l : List UInt8} (h : ¬ hd l % 3 = 1) : editF l = (⟨1 + (hd l : Int) % 3, 1 + (hd (l.drop 1) : Int) % 16, []⟩, 2) := by rw [editF, if_neg h]

theorem edit_step_text {l1 L l2 l3 l4 s : List UInt8} {k c2 c3 : Nat} (HL : L = l1.drop (editsN k l1)) (HC2 : c2 = hd L) (HL2 : l2 = L.drop 1) (HC3 : c3 = hd l2) (HL3 : l3 = l2.drop 1) (HS : s = lettersF (1 + c3 % 4) l3) (HL4 : l4 = l3.drop (1 + c3 % 4)) (HK : c2 % 3 = 1) :
    l4 = l1.drop (editsN (k + 1) l1) ∧ editCells (editsF (k + 1) l1) = editCells (editsF k l1) ++ [.int .u8 (1 + (c2 : Int) % 3), .int .i64 0, str s] := by
  subst HL2; subst HL3; subst HC2; subst HC3; subst HS; subst HL4
  have he := editF_text HK
  refine ⟨?_, ?_⟩
  · rw [editsN_snoc, ← HL, he, show ∀ x, l1.drop (editsN k l1 + x) = L.drop x from fun x => by rw [HL, List.drop_drop], List.drop_drop, List.drop_drop]; congr 1; dsimp only; omega
  · rw [editsF_snoc, editCells_snoc, ← HL, he]; simp [Edit.cells]
theorem edit_step_n {l1 L l2 l3 : List UInt8} {k c2 c3 : Nat} (HL : L = l1.drop (editsN k l1)) (HC2 : c2 = hd L) (HL2 : l2 = L.drop 1) (HC3 : c3 = hd l2) (HL3 : l3 = l2.drop 1) (HK : ¬ c2 % 3 = 1) :
    l3 = l1.drop (editsN (k + 1) l1) ∧ editCells (editsF (k + 1) l1) = editCells (editsF k l1) ++ [.int .u8 (1 + (c2 : Int) % 3), .int .i64 (1 + (c3 : Int) % 16), str []] := by
  subst HL2; subst HL3; subst HC2; subst HC3
  have he := editF_n HK
  refine ⟨?_, ?_⟩
  · rw [editsN_snoc, ← HL, he, show ∀ x, l1.drop (editsN k l1 + x) = L.drop x from fun x => by rw [HL, List.drop_drop], List.drop_drop]
  · rw [editsF_snoc, editCells_snoc, ← HL, he]; simp [Edit.cells]

set_option maxRecDepth 100000 in
set_option maxHeartbeats 2000000 in
theorem edits_any {B : Nat} (w : World) (r : Nat) (l : List UInt8) (h : Reader B w r l) :
    Calls Try.prog 57 #[.pointer (some ⟨r, 0, none⟩)] w fun e w' => ∃ v, e = .returned v ∧ Upd (At r) w w' ∧ Reader B w' r (l.drop (1 + editsN (hd l % 4) (l.drop 1))) ∧
      w'.ownsRow w.heap.size 46 3 v (hd l % 4) (editCells (editsF (hd l % 4) (l.drop 1))) := by
  have hrl := h.lt
  go_enter Try.func57, Try.ntmps57
  go_wp2_with (go_at_call 26; refine (next_c w r l h).mono ?_; rintro e w1 ⟨c, l1, rfl, hc, HC, HL1, hu0, hr0, _⟩)
  go_loopw [2, 7] (fun v i wr => ∃ k : Nat, k ≤ c % 4 ∧ i = .int .i64 k ∧ Upd (At r) w wr ∧ Reader B wr r (l1.drop (editsN k l1)) ∧
      wr.ownsRow w.heap.size 46 3 v k (editCells (editsF k l1)))
    (fun _ i _ => c % 4 - (intOf i).toNat)
  case atStart => exact ⟨0, Nat.zero_le _, rfl, hu0, hr0, World.ownsRow_nil _ _ _ _⟩
  case round =>
    obtain ⟨k, hk, rfl, hu, hr, hown⟩ := hrel
    obtain ⟨L, hL⟩ : ∃ L, L = l1.drop (editsN k l1) := ⟨_, rfl⟩
    rw [← hL] at hr
    have HL := Lib.hid hL
    clear hL
    by_cases hlt : k < c % 4
    · go_wp2_with (go_at_call 26; fail)
      refine (next_c _ r _ hr).mono ?_
      rintro e w2 ⟨c2, l2, rfl, hc2, HC2, HL2, hu2, hr2, hlt2⟩
      have hr2a := hr2.alloc (.cells #[.int .u8 (1 + (c2 : Int) % 3), .int .i64 0, .string ⟨#[]⟩] 46)
      by_cases hk2 : c2 % 3 = 1
      · have hb2 : ((1 : Int) + (c2 : Int) % 3 == 2) = true := by rw [beq_iff_eq]; omega
        have HK := Lib.hid hk2
        clear hk2
        go_wp2_with (go_at_call 26; fail)
        refine (next_c _ r _ hr2a).mono ?_
        rintro e w3 ⟨c3, l3, rfl, hc3, HC3, HL3, hu3, hr3, hlt3⟩
        have hb3 := hu3.at_ (newAt _ _) (fun e => by unfold At at e; omega)
        go_wp2_with (go_at_call 56; fail)
        refine (letters_c _ r _ _ (1 + c3 % 4) (by omega) (by omega) hr3).mono ?_
        rintro e w4 ⟨s, l4, rfl, HS, HL4, hu4, hr4, hlt4⟩
        have hb4 := hu4.at_ hb3 (fun e => by unfold At at e; omega)
        obtain ⟨d0, d1, d2⟩ := three hb4
        have df := freeAt hb4
        have hu5 : Upd (At r) wr w4 := ((hu2.alloc _).trans hu3).trans hu4
        have hown4 := hu5.ownsRow hown (fun k hk e => by have := (hown.lt k hk).1; unfold At at e; omega)
        have hown5 := (Upd.own w4 w2.heap.size 2 (str s)).ownsRow hown4 (fun k hk e => by have := (hown.lt k hk).2; have := hu2.size; unfold At at e; omega)
        have hlo : ∀ j, u2.ownBlock = some j → w.heap.size ≤ j := fun j hj => (hown.lt j hj).1
        go_wp2_with (at_builtin; go_must (refine wpList_append_row rfl _ _ _ rfl Try.editsT rfl (hown5.alloc _) rfl (row_new _ _ _ 1 _ (by decide) (by simp)) rfl (edit_one ⟨1 + (c2 : Int) % 3, 0, s⟩) ?c3 ?c4 ?c5 ?_))
        case c3 => unfold maxLen; omega
        case c4 => omega
        case c5 => have := hu.size; have := hu5.size; simp; omega
        intro v' w5 hown6 hg _
        clear hown hown4 hown5 d0 d1 d2 df hb4 hb3
        obtain ⟨q1, q2⟩ := edit_step_text HL.out HC2.out HL2.out HC3.out HL3.out HS.out HL4.out HK.out
        have Q1 := Lib.hid q1
        have Q2 := Lib.hid q2
        clear q1 q2
        go_wp2
        go_roundw
        case rel =>
          refine ⟨k + 1, by omega, by go_num, ?_, ?_, ?_⟩
          · exact ((((hu.trans hu5).setCell (p := ⟨w2.heap.size, 2, none⟩) (fun h => by have := hu.size; have := hu2.size; simp only at h; omega) _).alloc _).grown hg (fun j hj h => by have := hlo j hj; omega))
          · rw [← Q1.out]
            exact ((hr4.set (by omega) _ _).alloc _).grown hg (fun j hj => by have := hlo j hj; omega)
          · rw [Q2.out]; exact hown6
        case measure => simp [intOf]; omega
      · have hb2 : ((1 : Int) + (c2 : Int) % 3 == 2) = false := by rw [beq_eq_false_iff_ne]; omega
        have HK := Lib.hid hk2
        clear hk2
        go_wp2_with (go_at_call 26; fail)
        refine (next_c _ r _ hr2a).mono ?_
        rintro e w3 ⟨c3, l3, rfl, hc3, HC3, HL3, hu3, hr3, hlt3⟩
        have hb3 := hu3.at_ (newAt _ _) (fun e => by unfold At at e; omega)
        obtain ⟨d0, d1, d2⟩ := three hb3
        have df := freeAt hb3
        have hu5 : Upd (At r) wr w3 := (hu2.alloc _).trans hu3
        have hown4 := hu5.ownsRow hown (fun k hk e => by have := (hown.lt k hk).1; unfold At at e; omega)
        have hown5 := (Upd.own w3 w2.heap.size 1 (.int .i64 (1 + (c3 : Int) % 16))).ownsRow hown4 (fun k hk e => by have := (hown.lt k hk).2; have := hu2.size; unfold At at e; omega)
        have hlo : ∀ j, u2.ownBlock = some j → w.heap.size ≤ j := fun j hj => (hown.lt j hj).1
        go_wp2_with (at_builtin; go_must (refine wpList_append_row rfl _ _ _ rfl Try.editsT rfl (hown5.alloc _) rfl (row_new _ _ _ 1 _ (by decide) (by simp)) rfl (edit_one ⟨1 + (c2 : Int) % 3, 1 + (c3 : Int) % 16, []⟩) ?d3 ?d4 ?d5 ?_))
        case d3 => unfold maxLen; omega
        case d4 => omega
        case d5 => have := hu.size; have := hu5.size; simp; omega
        intro v' w5 hown6 hg _
        clear hown hown4 hown5 d0 d1 d2 df hb3
        obtain ⟨q1, q2⟩ := edit_step_n HL.out HC2.out HL2.out HC3.out HL3.out HK.out
        have Q1 := Lib.hid q1
        have Q2 := Lib.hid q2
        clear q1 q2
        go_wp2
        go_roundw
        case rel =>
          refine ⟨k + 1, by omega, by go_num, ?_, ?_, ?_⟩
          · exact ((((hu.trans hu5).setCell (p := ⟨w2.heap.size, 1, none⟩) (fun h => by have := hu.size; have := hu2.size; simp only at h; omega) _).alloc _).grown hg (fun j hj h => by have := hlo j hj; omega))
          · rw [← Q1.out]
            exact ((hr3.set (by omega) _ _).alloc _).grown hg (fun j hj => by have := hlo j hj; omega)
          · rw [Q2.out]; exact hown6
        case measure => simp [intOf]; omega
    · have hkc : k = c % 4 := by omega
      have HKC := Lib.hid hkc
      clear hkc
      go_wp2
      go_ret
      refine ⟨_, rfl, hu, ?_, ?_⟩
      · rw [← HC.out, ← HL1.out, ← List.drop_drop, ← HL1.out, ← HKC.out, ← HL.out]; exact hr
      · rw [← HC.out, ← HL1.out, ← HKC.out]; exact hown

end Go.Proofs.Ytlhpcgmbbeihiaa
