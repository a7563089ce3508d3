/-
  CONTRACTS of script's reader: next, name. The reader lies in a block of its own; its bytes lie elsewhere.
  CONTRACTS of script's reader: name, letters.
  CONTRACTS of script's reader: edits.
-/
import Derived.Test.YtlhpcgmbbeihiaaGBase
import Derived.Test.YtlhpcgmbbeihiaaBuilder
namespace Go.Proofs.Ytlhpcgmbbeihiaa
open Go.RowKit

/-- The reader in block r has the bytes l left, which lie below block B. -/
def Reader (B : Nat) (w : World) (r : Nat) (l : List UInt8) : Prop := B ≤ r ∧ ∃ v, w.heap[r]? = some (.cells #[v] 70 (0, 0)) ∧ Bytes (Till B) w v l
theorem Reader.upd {B : Nat} {T : Nat → Prop} {w w1 : World} {r : Nat} {l : List UInt8} (h : Reader B w r l) (hu : Upd T w w1) (hT : ∀ k, T k → r < k) : Reader B w1 r l := by
  obtain ⟨h0, v, h1, h2⟩ := h
  exact ⟨h0, v, hu.at_ h1 (fun hk => Nat.lt_irrefl _ (hT _ hk)), h2.upd hu fun k hk ht => by have := hT k ht; unfold Till at hk; omega⟩
theorem Reader.lt {B : Nat} {w : World} {r : Nat} {l : List UInt8} (h : Reader B w r l) : r < w.heap.size := by obtain ⟨_, v, h1, _⟩ := h; exact lt_of_heap h1

theorem bytes_tail {S : Nat → Prop} {w : World} {b o c : Nat} {x : UInt8} {l : List UInt8} (hS : S b) (h1 : l.length + 1 ≤ c) (h2 : c ≤ maxLen) (h : ∀ j u, ((x :: l).map u8)[j]? = some u → w.cell? ⟨b, o + j, none⟩ = some u) (v : Value)
    (hv : v = .slice (some ⟨b, o + 1, none⟩) l.length (c - 1) ∨ (c = 1 ∧ v = .slice (some ⟨b, o, none⟩) l.length (c - 1))) : Bytes S w v l := by
  rcases hv with rfl | ⟨rfl, rfl⟩
  · refine ⟨_, _, rfl, by omega, by omega, fun e => (by cases e), fun a e _ => by cases e; exact ⟨rfl, hS⟩, fun b' o' e j u hj => ?_⟩
    cases e
    have := h (j + 1) u (by simpa using hj)
    rwa [show o + 1 + j = o + (j + 1) from by omega]
  · refine ⟨_, _, rfl, by omega, by omega, fun e => (by cases e), fun a e _ => by cases e; exact ⟨rfl, hS⟩, fun b' o' e j u hj => ?_⟩
    have hl : l = [] := List.eq_nil_of_length_eq_zero (by omega)
    subst hl; simp at hj

set_option maxHeartbeats 400000 in
theorem next_any {B : Nat} (w : World) (r : Nat) (l : List UInt8) (h : Reader B w r l) :
    Calls Try.prog 26 #[.pointer (some ⟨r, 0, none⟩)] w fun e w' => e = .returned (.int .i64 (hd l)) ∧ Upd (At r) w w' ∧ Reader B w' r (l.drop 1) := by
  obtain ⟨hB, v, hr, hb⟩ := h
  have hS : ¬ Till B r := by unfold Till; omega
  have hc := cell_of_one hr
  have hf := free_of_one hr
  have hlt := lt_of_heap hr
  have HR := Lib.hid hr
  clear hr
  cases l with
  | nil =>
    obtain ⟨a, c, rfl, h1, h2, h3⟩ := hb
    have HB := Lib.hid h3
    clear h3
    go_enter Try.func26, Try.ntmps26
    go_wp2
    go_ret
    exact ⟨rfl, Upd.refl _ _, hB, _, HR.out, a, c, rfl, h1, h2, HB.out⟩
  | cons x l =>
    obtain ⟨b, o, c, rfl, hSb, h1, h2, h3⟩ := hb.addr (by simp)
    have hx := bytes_cell h3 0 (by simp)
    have HB := Lib.hid h3
    clear h3 hb
    unfold maxLen at h2
    simp only [List.length_cons] at h1 hc
    simp only [Nat.add_zero, List.getElem_cons_zero] at hx
    have hlen : ((l.length : Int) + 1 == 0) = false := by rw [beq_eq_false_iff_ne]; omega
    have hxb : x.toNat < 256 := UInt8.toNat_lt _
    by_cases hcc : c = 1
    · have hl : l.length = 0 := by omega
      go_enter Try.func26, Try.ntmps26
      go_wp2
      go_ret
      exact ⟨by rw [hd_cons]; rfl, Upd.own _ _ _ _, hB, _, one_setCell HR.out, (bytes_tail hSb h1 (by unfold maxLen; omega) HB.out _ (.inr ⟨hcc, by rw [hl, hcc]⟩)).upd (Upd.own _ _ _ _) (fun k hk e => hS (by cases e; exact hk))⟩
    · go_enter Try.func26, Try.ntmps26
      go_wp2
      go_ret
      exact ⟨by rw [hd_cons]; rfl, Upd.own _ _ _ _, hB, _, one_setCell HR.out, (bytes_tail hSb h1 (by unfold maxLen; omega) HB.out _ (.inl rfl)).upd (Upd.own _ _ _ _) (fun k hk e => hS (by cases e; exact hk))⟩

/-- The same, what comes back behind names. -/
theorem next_c {B : Nat} (w : World) (r : Nat) (l : List UInt8) (h : Reader B w r l) :
    Calls Try.prog 26 #[.pointer (some ⟨r, 0, none⟩)] w fun e w' => ∃ (c : Nat) (l' : List UInt8), e = .returned (.int .i64 c) ∧ c < 256 ∧ Hid (c = hd l) ∧ Hid (l' = l.drop 1) ∧ Upd (At r) w w' ∧ Reader B w' r l' ∧ r < w'.heap.size :=
  (next_any w r l h).mono fun _ _ ⟨he, hu, hr⟩ => ⟨hd l, l.drop 1, he, hd_lt l, Lib.hid rfl, Lib.hid rfl, hu, hr, hr.lt⟩
theorem Reader.alloc {B : Nat} {w : World} {r : Nat} {l : List UInt8} (h : Reader B w r l) (o : Obj) : Reader B (w.alloc o) r l := h.upd ((Upd.refl Nothing w).alloc o) (fun _ e => e.elim)
theorem Reader.set {B : Nat} {w : World} {r : Nat} {l : List UInt8} (h : Reader B w r l) {b : Nat} (hb : r < b) (i : Nat) (u : Value) : Reader B (w.setCell ⟨b, i, none⟩ u) r l := h.upd (Upd.own w b i u) (fun _ e => by cases e; exact hb)

theorem Reader.grown {B : Nat} {w w' : World} {r : Nat} {l : List UInt8} {row : Option Nat} (h : Reader B w r l) (hg : w.grownBy w' row) (hr : ∀ k, row = some k → r < k) : Reader B w' r l :=
  h.upd (T := fun k => row = some k) ⟨hg.os, hg.tape, hg.output, hg.size, fun k hk e => hg.block k hk (fun e' => e e'.symm)⟩ hr

end Go.Proofs.Ytlhpcgmbbeihiaa
namespace Go.Proofs.Ytlhpcgmbbeihiaa
open Go.RowKit

theorem encode_ascii (n : Nat) (h : n < 128) : Utf8.encode (n : Int) = ⟨#[UInt8.ofNat n]⟩ := by
  have hv : Utf8.valid (n : Int) = true := by unfold Utf8.valid; simp; omega
  unfold Utf8.encode
  simp only [hv, if_true, Int.toNat_natCast]
  rw [if_pos h]

set_option maxHeartbeats 400000 in
theorem name_any {B : Nat} (w : World) (r : Nat) (l : List UInt8) (h : Reader B w r l) :
    Calls Try.prog 55 #[.pointer (some ⟨r, 0, none⟩)] w fun e w' => e = .returned (str (nameF (hd l))) ∧ Upd (At r) w w' ∧ Reader B w' r (l.drop 1) := by
  have hb := hd_lt l
  by_cases hc : hd l = 255
  · have h1 : ((hd l : Int) == 255) = true := by rw [beq_iff_eq]; omega
    have HC := Lib.hid hc
    clear hc
    go_enter Try.func55, Try.ntmps55
    go_wp2_with (go_at_call 26; refine (next_any w r l h).mono ?_; rintro e w1 ⟨rfl, hu, hr⟩)
    go_ret
    exact ⟨by rw [nameF, if_pos HC.out]; rfl, hu, hr⟩
  · have h1 : ((hd l : Int) == 255) = false := by rw [beq_eq_false_iff_ne]; omega
    have HC := Lib.hid hc
    clear hc
    go_enter Try.func55, Try.ntmps55
    go_wp2_with (go_at_call 26; refine (next_any w r l h).mono ?_; rintro e w1 ⟨rfl, hu, hr⟩)
    go_ret
    refine ⟨?_, hu, hr⟩
    rw [nameF, if_neg HC.out, str, ← encode_ascii _ (by omega)]
    rfl

theorem u8_letter (h : Nat) : Value.int .u8 (97 + (h : Int) % 26) = u8 (UInt8.ofNat (97 + h % 26)) := by
  unfold u8
  rw [UInt8.toNat_ofNat_of_lt' (by show 97 + h % 26 < 256; omega)]
  rfl
theorem letters_cells (k : Nat) (l : List UInt8) : (lettersF k l).map u8 ++ [Value.int .u8 (97 + (hd (l.drop k) : Int) % 26)] = (lettersF (k + 1) l).map u8 := by
  rw [lettersF_snoc, List.map_append, u8_letter]; rfl

set_option maxHeartbeats 1000000 in
theorem letters_any {B : Nat} (w : World) (r : Nat) (l : List UInt8) (n : Nat) (hn : n ≤ 100000) (h : Reader B w r l) :
    Calls Try.prog 56 #[.pointer (some ⟨r, 0, none⟩), .int .i64 n] w fun e w' => e = .returned (str (lettersF n l)) ∧ Upd (At r) w w' ∧ Reader B w' r (l.drop n) := by
  have hrl := h.lt
  go_enter Try.func56, Try.ntmps56
  go_wp2
  go_loopw [7] (fun i wr => ∃ k : Nat, k ≤ n ∧ i = .int .i64 k ∧ Upd (At r) w wr ∧ Reader B wr r (l.drop k) ∧ Lib.IsBuilder 121 5 w.heap.size w.heap.size ((lettersF k l).map u8) wr)
    (fun i _ => n - (intOf i).toNat)
  case atStart => exact ⟨0, Nat.zero_le _, rfl, (Upd.refl _ _).alloc _, h.upd ((Upd.refl Nothing _).alloc _) (fun _ e => e.elim), Lib.fresh_isBuilder _ _ _⟩
  case round =>
    obtain ⟨k, hk, rfl, hu, hr, hb⟩ := hrel
    have hlen := lettersF_length k l
    have HLen := Lib.hid hlen
    clear hlen
    by_cases hlt : k < n
    · have hdb := hd_lt (l.drop k)
      go_wp2_with (first | (go_at_call 26; refine (next_any _ r _ hr).mono ?_; rintro e w1 ⟨rfl, hu1, hr1⟩) | (go_at_call 70; refine (bld_byte _ _ _ _ _ (bld_upd hb hu1 (fun i e => by unfold At at e; omega)) (by have := HLen.out; rw [List.length_map]; omega) (by have := hu.size; have := hu1.size; omega)).mono ?_; rintro e w2 ⟨rfl, hb2, hbl⟩))
      go_roundw
      case rel => exact ⟨k + 1, by omega, by go_num, (hu.trans hu1).till hbl (Nat.le_refl _), by have := (hr1.upd (Upd.of_below hbl) (fun i e => by unfold From at e; omega)); rwa [List.drop_drop] at this, by rw [letters_cells] at hb2; exact hb2⟩
      case measure => simp [intOf]; omega
    · have hkn : k = n := by omega
      subst hkn
      go_wp2_with (go_at_call 71; refine (bld_string _ _ _ _ hb hu.size).mono ?_; rintro e w2 ⟨rfl, hbl⟩)
      go_ret
      exact ⟨rfl, hu.till hbl (Nat.le_refl _), hr.upd (Upd.of_below hbl) (fun i e => by unfold From at e; omega)⟩

theorem letters_c {B : Nat} (w : World) (r : Nat) (l : List UInt8) (m : Int) (n : Nat) (hm : m = n) (hn : n ≤ 100000) (h : Reader B w r l) :
    Calls Try.prog 56 #[.pointer (some ⟨r, 0, none⟩), .int .i64 m] w fun e w' => ∃ (s l' : List UInt8), e = .returned (str s) ∧ Hid (s = lettersF n l) ∧ Hid (l' = l.drop n) ∧ Upd (At r) w w' ∧ Reader B w' r l' ∧ r < w'.heap.size := by
  subst hm
  exact (letters_any w r l n hn h).mono fun _ _ ⟨he, hu, hr⟩ => ⟨_, _, he, Lib.hid rfl, Lib.hid rfl, hu, hr, hr.lt⟩
theorem name_c {B : Nat} (w : World) (r : Nat) (l : List UInt8) (h : Reader B w r l) :
    Calls Try.prog 55 #[.pointer (some ⟨r, 0, none⟩)] w fun e w' => ∃ (s l' : List UInt8), e = .returned (str s) ∧ Hid (s = nameF (hd l)) ∧ Hid (l' = l.drop 1) ∧ Upd (At r) w w' ∧ Reader B w' r l' ∧ r < w'.heap.size :=
  (name_any w r l h).mono fun _ _ ⟨he, hu, hr⟩ => ⟨_, _, he, Lib.hid rfl, Lib.hid rfl, hu, hr, hr.lt⟩

end Go.Proofs.Ytlhpcgmbbeihiaa
namespace Go.Proofs.Ytlhpcgmbbeihiaa
open Go.RowKit

def Edit.cells (e : Edit) : List Value := [.int .u8 e.kind, .int .i64 e.n, str e.text]
abbrev editCells (l : List Edit) : List Value := (l.map Edit.cells).flatten
theorem editCells_length (l : List Edit) : (editCells l).length = l.length * 3 := by
  induction l with
  | nil => rfl
  | cons e l ih => simp [editCells, Edit.cells] at ih ⊢; omega
theorem editCells_snoc (l : List Edit) (e : Edit) : editCells (l ++ [e]) = editCells l ++ e.cells := by simp [editCells]
theorem edit_one (e : Edit) : OneCells e.cells := by intro u hu; simp [Edit.cells] at hu; rcases hu with rfl | rfl | rfl <;> rfl
theorem Try.editsT : SliceT Try.prog 39 46 3 32 := sliceT_of Try.underlying39 (by kernel_rfl) (by decide)

theorem editF_text {l : List UInt8} (h : hd l % 3 = 1) : editF l = (⟨1 + (hd l : Int) % 3, 0, lettersF (1 + hd (l.drop 1) % 4) (l.drop 2)⟩, 2 + (1 + hd (l.drop 1) % 4)) := by rw [editF, if_pos h]
theorem editF_n {l : List UInt8} (h : ¬ hd l % 3 = 1) : editF l = (⟨1 + (hd l : Int) % 3, 1 + (hd (l.drop 1) : Int) % 16, []⟩, 2) := by rw [editF, if_neg h]

theorem edit_step_text {l1 L l2 l3 l4 s : List UInt8} {k c2 c3 : Nat} (HL : L = l1.drop (editsN k l1)) (HC2 : c2 = hd L) (HL2 : l2 = L.drop 1) (HC3 : c3 = hd l2) (HL3 : l3 = l2.drop 1) (HS : s = lettersF (1 + c3 % 4) l3) (HL4 : l4 = l3.drop (1 + c3 % 4)) (HK : c2 % 3 = 1) :
    l4 = l1.drop (editsN (k + 1) l1) ∧ editCells (editsF (k + 1) l1) = editCells (editsF k l1) ++ [.int .u8 (1 + (c2 : Int) % 3), .int .i64 0, str s] := by
  subst HL2; subst HL3; subst HC2; subst HC3; subst HS; subst HL4
  have he := editF_text HK
  refine ⟨?_, ?_⟩
  · rw [editsN_snoc, ← HL, he, show ∀ x, l1.drop (editsN k l1 + x) = L.drop x from fun x => by rw [HL, List.drop_drop], List.drop_drop, List.drop_drop]; congr 1; dsimp only; omega
  · rw [editsF_snoc, editCells_snoc, ← HL, he]; simp [Edit.cells]
theorem edit_step_n {l1 L l2 l3 : List UInt8} {k c2 c3 : Nat} (HL : L = l1.drop (editsN k l1)) (HC2 : c2 = hd L) (HL2 : l2 = L.drop 1) (HC3 : c3 = hd l2) (HL3 : l3 = l2.drop 1) (HK : ¬ c2 % 3 = 1) :
    l3 = l1.drop (editsN (k + 1) l1) ∧ editCells (editsF (k + 1) l1) = editCells (editsF k l1) ++ [.int .u8 (1 + (c2 : Int) % 3), .int .i64 (1 + (c3 : Int) % 16), str []] := by
  subst HL2; subst HL3; subst HC2; subst HC3
  have he := editF_n HK
  refine ⟨?_, ?_⟩
  · rw [editsN_snoc, ← HL, he, show ∀ x, l1.drop (editsN k l1 + x) = L.drop x from fun x => by rw [HL, List.drop_drop], List.drop_drop]
  · rw [editsF_snoc, editCells_snoc, ← HL, he]; simp [Edit.cells]

set_option maxRecDepth 100000 in
set_option maxHeartbeats 2000000 in
theorem edits_any {B : Nat} (w : World) (r : Nat) (l : List UInt8) (h : Reader B w r l) :
    Calls Try.prog 57 #[.pointer (some ⟨r, 0, none⟩)] w fun e w' => ∃ v, e = .returned v ∧ Upd (At r) w w' ∧ Reader B w' r (l.drop (1 + editsN (hd l % 4) (l.drop 1))) ∧
      w'.ownsRow w.heap.size 46 3 v (hd l % 4) (editCells (editsF (hd l % 4) (l.drop 1))) := by
  have hrl := h.lt
  go_enter Try.func57, Try.ntmps57
  go_wp2_with (go_at_call 26; refine (next_c w r l h).mono ?_; rintro e w1 ⟨c, l1, rfl, hc, HC, HL1, hu0, hr0, _⟩)
  go_loopw [2, 7] (fun v i wr => ∃ k : Nat, k ≤ c % 4 ∧ i = .int .i64 k ∧ Upd (At r) w wr ∧ Reader B wr r (l1.drop (editsN k l1)) ∧
      wr.ownsRow w.heap.size 46 3 v k (editCells (editsF k l1)))
    (fun _ i _ => c % 4 - (intOf i).toNat)
  case atStart => exact ⟨0, Nat.zero_le _, rfl, hu0, hr0, World.ownsRow_nil _ _ _ _⟩
  case round =>
    obtain ⟨k, hk, rfl, hu, hr, hown⟩ := hrel
    obtain ⟨L, hL⟩ : ∃ L, L = l1.drop (editsN k l1) := ⟨_, rfl⟩
    rw [← hL] at hr
    have HL := Lib.hid hL
    clear hL
    by_cases hlt : k < c % 4
    · go_wp2_with (go_at_call 26; fail)
      refine (next_c _ r _ hr).mono ?_
      rintro e w2 ⟨c2, l2, rfl, hc2, HC2, HL2, hu2, hr2, hlt2⟩
      have hr2a := hr2.alloc (.cells #[.int .u8 (1 + (c2 : Int) % 3), .int .i64 0, .string ⟨#[]⟩] 46)
      by_cases hk2 : c2 % 3 = 1
      · have hb2 : ((1 : Int) + (c2 : Int) % 3 == 2) = true := by rw [beq_iff_eq]; omega
        have HK := Lib.hid hk2
        clear hk2
        go_wp2_with (go_at_call 26; fail)
        refine (next_c _ r _ hr2a).mono ?_
        rintro e w3 ⟨c3, l3, rfl, hc3, HC3, HL3, hu3, hr3, hlt3⟩
        have hb3 := hu3.at_ (newAt _ _) (fun e => by unfold At at e; omega)
        go_wp2_with (go_at_call 56; fail)
        refine (letters_c _ r _ _ (1 + c3 % 4) (by omega) (by omega) hr3).mono ?_
        rintro e w4 ⟨s, l4, rfl, HS, HL4, hu4, hr4, hlt4⟩
        have hb4 := hu4.at_ hb3 (fun e => by unfold At at e; omega)
        obtain ⟨d0, d1, d2⟩ := three hb4
        have df := freeAt hb4
        have hu5 : Upd (At r) wr w4 := ((hu2.alloc _).trans hu3).trans hu4
        have hown4 := hu5.ownsRow hown (fun k hk e => by have := (hown.lt k hk).1; unfold At at e; omega)
        have hown5 := (Upd.own w4 w2.heap.size 2 (str s)).ownsRow hown4 (fun k hk e => by have := (hown.lt k hk).2; have := hu2.size; unfold At at e; omega)
        have hlo : ∀ j, u2.ownBlock = some j → w.heap.size ≤ j := fun j hj => (hown.lt j hj).1
        go_wp2_with (at_builtin; go_must (refine wpList_append_row rfl _ _ _ rfl Try.editsT rfl (hown5.alloc _) rfl (row_new _ _ _ 1 _ (by decide) (by simp)) rfl (edit_one ⟨1 + (c2 : Int) % 3, 0, s⟩) ?c3 ?c4 ?c5 ?_))
        case c3 => unfold maxLen; omega
        case c4 => omega
        case c5 => have := hu.size; have := hu5.size; simp; omega
        intro v' w5 hown6 hg _
        clear hown hown4 hown5 d0 d1 d2 df hb4 hb3
        obtain ⟨q1, q2⟩ := edit_step_text HL.out HC2.out HL2.out HC3.out HL3.out HS.out HL4.out HK.out
        have Q1 := Lib.hid q1
        have Q2 := Lib.hid q2
        clear q1 q2
        go_wp2
        go_roundw
        case rel =>
          refine ⟨k + 1, by omega, by go_num, ?_, ?_, ?_⟩
          · exact ((((hu.trans hu5).setCell (p := ⟨w2.heap.size, 2, none⟩) (fun h => by have := hu.size; have := hu2.size; simp only at h; omega) _).alloc _).grown hg (fun j hj h => by have := hlo j hj; omega))
          · rw [← Q1.out]
            exact ((hr4.set (by omega) _ _).alloc _).grown hg (fun j hj => by have := hlo j hj; omega)
          · rw [Q2.out]; exact hown6
        case measure => simp [intOf]; omega
      · have hb2 : ((1 : Int) + (c2 : Int) % 3 == 2) = false := by rw [beq_eq_false_iff_ne]; omega
        have HK := Lib.hid hk2
        clear hk2
        go_wp2_with (go_at_call 26; fail)
        refine (next_c _ r _ hr2a).mono ?_
        rintro e w3 ⟨c3, l3, rfl, hc3, HC3, HL3, hu3, hr3, hlt3⟩
        have hb3 := hu3.at_ (newAt _ _) (fun e => by unfold At at e; omega)
        obtain ⟨d0, d1, d2⟩ := three hb3
        have df := freeAt hb3
        have hu5 : Upd (At r) wr w3 := (hu2.alloc _).trans hu3
        have hown4 := hu5.ownsRow hown (fun k hk e => by have := (hown.lt k hk).1; unfold At at e; omega)
        have hown5 := (Upd.own w3 w2.heap.size 1 (.int .i64 (1 + (c3 : Int) % 16))).ownsRow hown4 (fun k hk e => by have := (hown.lt k hk).2; have := hu2.size; unfold At at e; omega)
        have hlo : ∀ j, u2.ownBlock = some j → w.heap.size ≤ j := fun j hj => (hown.lt j hj).1
        go_wp2_with (at_builtin; go_must (refine wpList_append_row rfl _ _ _ rfl Try.editsT rfl (hown5.alloc _) rfl (row_new _ _ _ 1 _ (by decide) (by simp)) rfl (edit_one ⟨1 + (c2 : Int) % 3, 1 + (c3 : Int) % 16, []⟩) ?d3 ?d4 ?d5 ?_))
        case d3 => unfold maxLen; omega
        case d4 => omega
        case d5 => have := hu.size; have := hu5.size; simp; omega
        intro v' w5 hown6 hg _
        clear hown hown4 hown5 d0 d1 d2 df hb3
        obtain ⟨q1, q2⟩ := edit_step_n HL.out HC2.out HL2.out HC3.out HL3.out HK.out
        have Q1 := Lib.hid q1
        have Q2 := Lib.hid q2
        clear q1 q2
        go_wp2
        go_roundw
        case rel =>
          refine ⟨k + 1, by omega, by go_num, ?_, ?_, ?_⟩
          · exact ((((hu.trans hu5).setCell (p := ⟨w2.heap.size, 1, none⟩) (fun h => by have := hu.size; have := hu2.size; simp only at h; omega) _).alloc _).grown hg (fun j hj h => by have := hlo j hj; omega))
          · rw [← Q1.out]
            exact ((hr3.set (by omega) _ _).alloc _).grown hg (fun j hj => by have := hlo j hj; omega)
          · rw [Q2.out]; exact hown6
        case measure => simp [intOf]; omega
    · have hkc : k = c % 4 := by omega
      have HKC := Lib.hid hkc
      clear hkc
      go_wp2
      go_ret
      refine ⟨_, rfl, hu, ?_, ?_⟩
      · rw [← HC.out, ← HL1.out, ← List.drop_drop, ← HL1.out, ← HKC.out, ← HL.out]; exact hr
      · rw [← HC.out, ← HL1.out, ← HKC.out]; exact hown

end Go.Proofs.Ytlhpcgmbbeihiaa
