/-
  CONTRACTS of chartroomref29: at, name, letters, parts. By the same plain functions as script's, at an index.
  CONTRACTS of chartroomref29: parts, edits.
-/
import Derived.Test.YtlhpcgmbbeihiaaScriptRd7
namespace Go.Proofs.Ytlhpcgmbbeihiaa
open Go.RowKit

theorem rat_any {S : Nat → Prop} (w : World) (v : Value) (l : List UInt8) (h : Bytes S w v l) (m : Int) (i : Nat) (hm : m = i) :
    Calls Try.prog 24 #[v, .int .i64 m] w fun e w' => ∃ c : Nat, e = .returned (.int .i64 c) ∧ c < 256 ∧ Hid (c = hd (l.drop i)) ∧ w = w' := by
  subst hm
  obtain ⟨a, c, rfl, h1, h2, h3, h4, h5⟩ := h
  unfold maxLen at h2
  by_cases hi : i < l.length
  · cases a with
    | none => have := h3 rfl; omega
    | some x =>
      obtain ⟨b, o, s⟩ := x
      have hsp := (h4 _ rfl (.inl (by omega))).1
      simp only at hsp; subst hsp
      have hc := bytes_cell (h5 b o rfl) i hi
      have hx : l[i].toNat < 256 := UInt8.toNat_lt _
      clear h3 h4 h5
      go_enter Try.func24, Try.ntmps24
      go_wp2
      go_ret
      exact ⟨l[i].toNat, rfl, hx, Lib.hid (by rw [List.drop_eq_getElem_cons hi]; rfl), rfl⟩
  · clear h3 h4 h5
    go_enter Try.func24, Try.ntmps24
    go_wp2
    go_ret
    exact ⟨0, rfl, by omega, Lib.hid (by rw [List.drop_eq_nil_of_le (by omega)]; rfl), rfl⟩

theorem rname_any (w : World) (c : Nat) (hc : c < 256) :
    Calls Try.prog 51 #[.int .i64 c] w fun e w' => ∃ s, e = .returned (str s) ∧ Hid (s = nameF c) ∧ Ext w w' := by
  by_cases h : c = 255
  · have h1 : ((c : Int) == 255) = true := by rw [beq_iff_eq]; omega
    have HC := Lib.hid h
    clear h
    go_enter Try.func51, Try.ntmps51
    go_wp2
    go_ret
    exact ⟨[], rfl, Lib.hid (by rw [nameF, if_pos HC.out]), Upd.refl _ _⟩
  · have h1 : ((c : Int) == 255) = false := by rw [beq_eq_false_iff_ne]; omega
    have HC := Lib.hid h
    clear h
    have hb : Bytes (At w.heap.size) (w.alloc (.cells #[.int .u8 (97 + (c : Int) % 6)] 5)) (.slice (some ⟨w.heap.size, 0, none⟩) 1 1) [UInt8.ofNat (97 + c % 6)] := by
      have := row_new w #[.int .u8 (97 + (c : Int) % 6)] 5 1 _ (by decide) rfl
      have e : [UInt8.ofNat (97 + c % 6)].map u8 = [Value.int .u8 (97 + (c : Int) % 6)] := by
        simp only [List.map_cons, List.map_nil, u8]; rw [UInt8.toNat_ofNat_of_lt' (by show 97 + c % 6 < 256; omega)]; rfl
      unfold Bytes; rw [e]; exact this
    obtain ⟨s, hs⟩ : ∃ s, s = [UInt8.ofNat (97 + c % 6)] := ⟨_, rfl⟩
    rw [← hs] at hb
    have HS := Lib.hid hs
    clear hs
    have hcv := row_string (P := Try.prog) hb Try.underlying22 Try.underlying5 Try.underlying9
    go_enter Try.func51, Try.ntmps51
    go_wp2
    go_ret
    exact ⟨_, rfl, Lib.hid (by rw [nameF, if_neg HC.out, HS.out]), (Upd.refl _ _).alloc _⟩

set_option maxHeartbeats 1000000 in
theorem rletters_any {S : Nat → Prop} (w : World) (v : Value) (l : List UInt8) (h : Bytes S w v l) (m mn : Int) (i n : Nat) (hm : m = i) (hmn : mn = n) (hn : n ≤ 100000) (hi : i ≤ 1000000) :
    Calls Try.prog 52 #[v, .int .i64 m, .int .i64 mn] w fun e w' => ∃ s, e = .returned (str s) ∧ Hid (s = lettersF n (l.drop i)) ∧ Ext w w' := by
  subst hm; subst hmn
  have H := Lib.hid h
  clear h
  go_enter Try.func52, Try.ntmps52
  go_wp2
  go_loopw [7, 8] (fun v j wr => ∃ k : Nat, k ≤ n ∧ j = .int .i64 k ∧ Ext w wr ∧ wr.ownsRow w.heap.size 5 1 v k ((lettersF k (l.drop i)).map u8))
    (fun _ j _ => n - (intOf j).toNat)
  case atStart => exact ⟨0, Nat.zero_le _, rfl, Upd.refl _ _, World.ownsRow_nil _ _ _ _⟩
  case round =>
    obtain ⟨k, hk, rfl, hu, hown⟩ := hrel
    by_cases hlt : k < n
    · go_wp2_with (go_at_call 24; fail)
      refine (rat_any _ _ _ (H.out.ext hu) _ (i + k) (by omega)).mono ?_
      rintro e w1 ⟨c, rfl, hc, HC, rfl⟩
      go_wp2_with (at_builtin; go_must (refine wpList_append_row rfl _ _ _ rfl Try.bytesT rfl (hown.alloc _) rfl (row_new _ _ _ 1 _ (by decide) (by simp)) rfl (by intro u hu; simp at hu; subst hu; rfl) ?c3 ?c4 ?c5 ?_))
      case c3 => unfold maxLen; omega
      case c4 => omega
      case c5 => have := hu.size; simp; omega
      intro v' w2 hown2 hg _
      go_wp2
      go_roundw
      case rel => exact ⟨k + 1, by omega, by go_num, (hu.alloc _).grown hg (fun j hj h => by have := (hown.lt j hj).1; omega), by rw [← letters_cells, List.drop_drop, ← HC.out]; exact hown2⟩
      case measure => simp [intOf]; omega
    · have hkn : k = n := by omega
      subst hkn
      have hcv := row_string (P := Try.prog) (l := lettersF k (l.drop i)) (by rw [Bytes, lettersF_length]; exact Row.of_owns hown) Try.underlying22 Try.underlying5 Try.underlying9
      go_wp2
      go_ret
      exact ⟨_, rfl, Lib.hid rfl, hu⟩

end Go.Proofs.Ytlhpcgmbbeihiaa
namespace Go.Proofs.Ytlhpcgmbbeihiaa
open Go.RowKit

set_option maxRecDepth 100000 in
set_option maxHeartbeats 4000000 in
theorem rparts_any (w : World) (k : Nat) (hk : k < 18) :
    Calls Try.prog 50 #[.int .u8 k] w fun e w' => e = .returned (str (partsF k)) ∧ Ext w w' := by
  have hki : (k : Int) < 18 := by omega
  have ht := partsTable k hk
  have HT := Lib.hid ht
  clear ht
  go_enter Try.func50, Try.ntmps50
  go_wp2
  go_ret
  refine ⟨?_, (Upd.refl _ _).alloc _⟩
  have hget := List.getElem?_eq_some_iff.1 HT.out
  obtain ⟨_, hv⟩ := hget
  rw [← hv]
  rfl

theorem Try.reditsT : SliceT Try.prog 57 100 3 32 := sliceT_of Try.underlying57 (by kernel_rfl) (by decide)

theorem redit_step_text {L1 L s : List UInt8} {k c2 c3 : Nat} (HL : L = L1.drop (editsN k L1)) (HC2 : c2 = hd L) (HC3 : c3 = hd (L.drop 1)) (HS : s = lettersF (1 + c3 % 4) (L.drop 2)) (HK : c2 % 3 = 1) :
    editsN (k + 1) L1 = editsN k L1 + (2 + (1 + c3 % 4)) ∧ editCells (editsF (k + 1) L1) = editCells (editsF k L1) ++ [.int .u8 (1 + (c2 : Int) % 3), .int .i64 0, str s] := by
  subst HC2; subst HC3; subst HS
  have he := editF_text HK
  exact ⟨by rw [editsN_snoc, ← HL, he], by rw [editsF_snoc, editCells_snoc, ← HL, he]; simp [Edit.cells]⟩
theorem redit_step_n {L1 L : List UInt8} {k c2 c3 : Nat} (HL : L = L1.drop (editsN k L1)) (HC2 : c2 = hd L) (HC3 : c3 = hd (L.drop 1)) (HK : ¬ c2 % 3 = 1) :
    editsN (k + 1) L1 = editsN k L1 + 2 ∧ editCells (editsF (k + 1) L1) = editCells (editsF k L1) ++ [.int .u8 (1 + (c2 : Int) % 3), .int .i64 (1 + (c3 : Int) % 16), str []] := by
  subst HC2; subst HC3
  have he := editF_n HK
  exact ⟨by rw [editsN_snoc, ← HL, he], by rw [editsF_snoc, editCells_snoc, ← HL, he]; simp [Edit.cells]⟩
theorem editF_le (l : List UInt8) : (editF l).2 ≤ 6 := by
  unfold editF; split <;> simp; omega
theorem editsN_le (k : Nat) (l : List UInt8) : editsN k l ≤ 6 * k := by
  induction k generalizing l with
  | zero => simp [editsN]
  | succ k ih => have := ih (l.drop (editF l).2); have := editF_le l; rw [editsN]; omega

set_option maxRecDepth 100000 in
set_option maxHeartbeats 2000000 in
theorem redits_any {S : Nat → Prop} (w : World) (v : Value) (l : List UInt8) (h : Bytes S w v l) (m : Int) (i : Nat) (hm : m = i) (hi : i ≤ 900000) :
    Calls Try.prog 53 #[v, .int .i64 m] w fun e w' => ∃ v', e = .returned (.tuple #[v', .int .i64 ((i + 1 + editsN (hd (l.drop i) % 4) (l.drop (i + 1)) : Nat) : Int)]) ∧ Ext w w' ∧
      w'.ownsRow w.heap.size 100 3 v' (hd (l.drop i) % 4) (editCells (editsF (hd (l.drop i) % 4) (l.drop (i + 1)))) := by
  subst hm
  have H := Lib.hid h
  clear h
  go_enter Try.func53, Try.ntmps53
  go_wp2_with (go_at_call 24; refine (rat_any w v l H.out _ i rfl).mono ?_; rintro e w1 ⟨c, rfl, hc, HC, rfl⟩)
  obtain ⟨L1, hL1⟩ : ∃ L1, L1 = l.drop (i + 1) := ⟨_, rfl⟩
  have HL1 := Lib.hid hL1
  clear hL1
  go_loopw [1, 6, 8] (fun j v' q wr => ∃ k : Nat, k ≤ c % 4 ∧ q = .int .i64 k ∧ j = .int .i64 ((i + 1 + editsN k L1 : Nat) : Int) ∧ Ext w wr ∧ wr.ownsRow w.heap.size 100 3 v' k (editCells (editsF k L1)))
    (fun _ _ q _ => c % 4 - (intOf q).toNat)
  case atStart => exact ⟨0, Nat.zero_le _, rfl, by simp [editsN], Upd.refl _ _, World.ownsRow_nil _ _ _ _⟩
  case round =>
    obtain ⟨k, hk, rfl, rfl, hu, hown⟩ := hrel
    have hen := editsN_le k L1
    obtain ⟨j, hj⟩ : ∃ j, j = i + 1 + editsN k L1 := ⟨_, rfl⟩
    obtain ⟨L, hL⟩ : ∃ L, L = L1.drop (editsN k L1) := ⟨_, rfl⟩
    have hjb : j ≤ 901000 := by omega
    have hLj : l.drop j = L := by rw [hL, hj, ← List.drop_drop, ← HL1.out]
    rw [← hj]
    have HJ := Lib.hid hj
    have HL := Lib.hid hL
    have HLJ := Lib.hid hLj
    clear hj hL hen hLj
    have hlo : ∀ j, u6.ownBlock = some j → w.heap.size ≤ j ∧ j < wr.heap.size := fun j hj => hown.lt j hj
    by_cases hlt : k < c % 4
    · go_wp2_with (go_at_call 24; fail)
      refine (rat_any _ _ _ (H.out.ext hu) _ j rfl).mono ?_
      rintro e w2 ⟨c2, rfl, hc2, HC2, rfl⟩
      have HB2 := Lib.hid (H.out.ext (hu.alloc (.cells #[.int .u8 (1 + (c2 : Int) % 3), .int .i64 0, .string ⟨#[]⟩] 100)))
      by_cases hk2 : c2 % 3 = 1
      · have hb2 : ((1 : Int) + (c2 : Int) % 3 == 2) = true := by rw [beq_iff_eq]; omega
        have HK := Lib.hid hk2
        clear hk2
        go_wp2_with (go_at_call 24; fail)
        refine (rat_any _ _ _ HB2.out _ (j + 1) (by omega)).mono ?_
        rintro e w3 ⟨c3, rfl, hc3, HC3, rfl⟩
        go_wp2_with (go_at_call 52; fail)
        refine (rletters_any _ _ _ HB2.out _ _ (j + 2) (1 + c3 % 4) (by omega) (by omega) (by omega) (by omega)).mono ?_
        rintro e w4 ⟨s, rfl, HS, hu4⟩
        have hb4 := hu4.at_ (newAt _ _) (fun e => e)
        obtain ⟨d0, d1, d2⟩ := three hb4
        have df := freeAt hb4
        have hu5 : Ext wr w4 := ((Upd.refl _ _).alloc _).trans hu4
        have hown4 := hu5.ownsRow hown (fun k hk e => e)
        have hown5 := (Upd.own w4 wr.heap.size 2 (str s)).ownsRow hown4 (fun k hk e => by have := hlo k hk; unfold At at e; omega)
        go_wp2_with (at_builtin; go_must (refine wpList_append_row rfl _ _ _ rfl Try.reditsT rfl (hown5.alloc _) rfl (row_new _ _ _ 1 _ (by decide) (by simp)) rfl (edit_one ⟨1 + (c2 : Int) % 3, 0, s⟩) ?c3 ?c4 ?c5 ?_))
        case c3 => unfold maxLen; omega
        case c4 => omega
        case c5 => have := hu.size; have := hu5.size; simp; omega
        intro v' w5 hown6 hg _
        obtain ⟨q1, q2⟩ := redit_step_text (c2 := c2) (c3 := c3) (s := s) HL.out (by rw [HC2.out, HLJ.out]) (by rw [HC3.out, ← HLJ.out, List.drop_drop]) (by rw [HS.out, ← HLJ.out, List.drop_drop]) HK.out
        have Q1 := Lib.hid q1
        have Q2 := Lib.hid q2
        clear hown hown4 hown5 d0 d1 d2 df hb4 q1 q2
        go_wp2
        go_roundw
        case rel =>
          refine ⟨k + 1, by omega, by go_num, ?_, ?_, by rw [Q2.out]; exact hown6⟩
          · rw [Q1.out, show i + 1 + (editsN k L1 + (2 + (1 + c3 % 4))) = j + (2 + (1 + c3 % 4)) from by rw [HJ.out]; omega]; go_num
          · exact ((((hu.trans hu5).setCell (p := ⟨wr.heap.size, 2, none⟩) (fun h => by have := hu.size; simp only at h; omega) _).alloc _).grown hg (fun j hj h => by have := hlo j hj; omega))
        case measure => simp [intOf]; omega
      · have hb2 : ((1 : Int) + (c2 : Int) % 3 == 2) = false := by rw [beq_eq_false_iff_ne]; omega
        have HK := Lib.hid hk2
        clear hk2
        go_wp2_with (go_at_call 24; fail)
        refine (rat_any _ _ _ HB2.out _ (j + 1) (by omega)).mono ?_
        rintro e w3 ⟨c3, rfl, hc3, HC3, rfl⟩
        go_wp2_with (at_builtin; go_must (refine wpList_append_row rfl _ _ _ rfl Try.reditsT rfl ((hown.alloc _).alloc _) rfl (row_new _ _ _ 1 _ (by decide) (by simp)) rfl (edit_one ⟨1 + (c2 : Int) % 3, 1 + (c3 : Int) % 16, []⟩) ?d3 ?d4 ?d5 ?_))
        case d3 => unfold maxLen; omega
        case d4 => omega
        case d5 => have := hu.size; simp; omega
        intro v' w5 hown6 hg _
        obtain ⟨q1, q2⟩ := redit_step_n (c2 := c2) (c3 := c3) HL.out (by rw [HC2.out, HLJ.out]) (by rw [HC3.out, ← HLJ.out, List.drop_drop]) HK.out
        have Q1 := Lib.hid q1
        have Q2 := Lib.hid q2
        clear hown q1 q2
        go_wp2
        go_roundw
        case rel =>
          refine ⟨k + 1, by omega, by go_num, ?_, ?_, by rw [Q2.out]; exact hown6⟩
          · rw [Q1.out, show i + 1 + (editsN k L1 + 2) = j + 2 from by rw [HJ.out]; omega]; go_num
          · exact (((hu.alloc _).alloc _).grown hg (fun j hj h => by have := hlo j hj; omega))
        case measure => simp [intOf]; omega
    · have hkc : k = c % 4 := by omega
      have HKC := Lib.hid hkc
      clear hkc
      go_wp2
      go_ret2
      refine ⟨u6, ?_, hu, ?_⟩
      · rw [← HC.out, ← HL1.out, ← HKC.out, ← HJ.out]; rfl
      · rw [← HC.out, ← HL1.out, ← HKC.out]; exact hown

end Go.Proofs.Ytlhpcgmbbeihiaa
