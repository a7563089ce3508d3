/-
  CONTRACT of the writer's method edits.
-/
import Derived.Test.YtlhpcgmbbeihiaaRight2
namespace Go.Proofs.Ytlhpcgmbbeihiaa
open Go.RowKit

def esum (l : List Edit) : Nat := (l.map fun x => 2 + x.text.length).sum
theorem foldEdit_len (l : List Edit) : ∀ s : WSt, (l.foldl editW s).1.length ≤ s.1.length + esum l := by
  induction l with
  | nil => intro s; simp [esum]
  | cons x l ih =>
    intro s
    have h := ih (editW s x)
    have h2 : (editW s x).1.length ≤ s.1.length + (2 + x.text.length) := by
      unfold editW
      split
      · rw [lettersW_len]; simp [putF]; omega
      · simp [putF]
    simp only [List.foldl_cons, esum, List.map_cons, List.sum_cons] at h ⊢
    omega
theorem esum_take {l : List Edit} {k : Nat} (hk : k < l.length) : esum (l.take k) + (2 + l[k].text.length) ≤ esum l := by
  induction l generalizing k with
  | nil => simp at hk
  | cons x l ih =>
    cases k with
    | zero => simp [esum]
    | succ k =>
      have := ih (k := k) (by simpa using hk)
      simp only [esum, List.take_succ_cons, List.map_cons, List.sum_cons, List.getElem_cons_succ] at this ⊢
      omega

/-- An edit as a machine holds it. -/
def WfEdit (x : Edit) : Prop := 0 ≤ x.kind ∧ x.kind ≤ 255 ∧ -9223372036854775808 ≤ x.n ∧ x.n ≤ 9223372036854775807
theorem put_wrap {n b : Int} {s : WSt} (h0 : -9223372036854775808 ≤ n) (h1 : n ≤ 9223372036854775807) (hb0 : 0 < b) (hb1 : b ≤ 1000) : putF (wrap64 (n - 1)) b s = putF (n - 1) b s := by
  have hw : wrap64 (n - 1) = if n = -9223372036854775808 then 9223372036854775807 else n - 1 := by unfold wrap64; split <;> omega
  have ht : toByte (wrap64 (n - 1)) = toByte (n - 1) := by
    unfold toByte; rw [hw]; split
    · rename_i h; subst h; rfl
    · rfl
  unfold putF
  rw [ht, hw]
  split
  · rename_i h; subst h
    have d2 : decide (b ≤ (9223372036854775807 : Int)) = true := by simp; omega
    simp [d2]
  · rfl

set_option maxRecDepth 100000 in
set_option maxHeartbeats 4000000 in
theorem edits_any' {B : Nat} (w : World) (r : Nat) (v : Value) (l : List Edit) (s : WSt) (h : Writer B w r s) (hr : Row (Till B) w v l.length (editCells l)) (hwf : ∀ x ∈ l, WfEdit x) (hl : s.1.length + esum l < 70368744177600) :
    Calls Try.prog 65 #[.pointer (some ⟨r, 0, none⟩), v] w fun e w' => e = .returned (.tuple #[]) ∧ Writer B w' r (editsW l s) ∧ Upd (WS B r w) w w' := by
  obtain ⟨bs, bad0⟩ := s
  have H := Lib.hid h
  have HRR := Lib.hid hr
  have HB0 := Lib.hid h.1
  have HWF := Lib.hid hwf
  obtain ⟨-, -, vv, h2, h3⟩ := h
  have y1 := cellAt h2 1 (.bool bad0) rfl
  have f1 := freeAt h2 1
  have H2 := Lib.hid h2
  dsimp only at hl
  obtain ⟨a, c, rfl, hn, hm, -⟩ := hr
  unfold maxLen at hm
  clear h2 h3 hwf
  go_enter Try.func65, Try.ntmps65
  cases bad0 with
  | true =>
    obtain ⟨hw2, hu2⟩ := H.out.bad true
    have HW2 := Lib.hid hw2
    have HU2 := Lib.hid hu2
    clear hw2 hu2
    go_wp2_with (go_at_call 34; fail)
    refine (put_any _ r (l.length : Int) 4 _ HW2.out (by dsimp only; omega)).mono ?_
    rintro e w3 ⟨rfl, hw3, hu3⟩
    have HW3 := Lib.hid hw3
    have HU3 := Lib.hid (WS.trans HU2.out hu3)
    clear hw3 hu3
    obtain ⟨s3, hs3⟩ : ∃ s3, s3 = putF (l.length : Int) 4 (bs, true) := ⟨_, rfl⟩
    rw [← hs3] at HW3
    have hs3l : s3.1.length = bs.length + 1 := by rw [hs3]; simp [putF]
    have HS3 := Lib.hid (show editsW l (bs, true) = l.foldl editW s3 from by rw [hs3, editsW]; simp [])
    clear hs3
    go_wp2
    go_loopw [24] (fun i wr => ∃ k : Nat, k ≤ l.length ∧ i = .int .i64 k ∧ Writer B wr r ((l.take k).foldl editW s3) ∧ Upd (WS B r w) w wr) (fun i _ => l.length - (intOf i).toNat)
    case atStart => exact ⟨0, Nat.zero_le _, rfl, HW3.out, HU3.out⟩
    case round =>
      obtain ⟨k, hk, rfl, hw, hu⟩ := hrel
      have HW := Lib.hid hw
      have HU := Lib.hid hu
      clear hw hu
      by_cases hlt : k < l.length
      · have hrr := WS.row HU.out HB0.out HRR.out
        obtain ⟨b1, o1, c1, e1, -, -, -, hc1⟩ := hrr.addr (by omega)
        cases e1
        obtain ⟨p1, p2, p3⟩ := edit_cells hc1 k hlt
        obtain ⟨x, hxx⟩ : ∃ x, x = l[k] := ⟨_, rfl⟩
        rw [← hxx] at p1 p2 p3
        obtain ⟨hk0, hk1, hn0, hn1⟩ := HWF.out l[k] (List.getElem_mem hlt)
        rw [← hxx] at hk0 hk1 hn0 hn1
        have hlen := foldEdit_len (l.take k) s3
        have hsum := esum_take (l := l) hlt
        rw [← hxx] at hsum
        have htl : x.text.length < 70368744177664 := by omega
        have HLEN := Lib.hid hlen
        have HSUM := Lib.hid hsum
        have HXX := Lib.hid hxx
        have hbx := newAt wr (.cells #[.int .u8 x.kind, .int .i64 x.n, str x.text] 46)
        have hal : Ext wr (wr.alloc (.cells #[.int .u8 x.kind, .int .i64 x.n, str x.text] 46)) := (Upd.refl _ _).alloc _
        have hrlt := HW.out.lt
        have HBX := Lib.hid hbx
        have HAL := Lib.hid hal
        have HWA := Lib.hid (HW.out.ext hal)
        clear hrr hc1 hlen hsum hxx hbx hal
        go_wp2_with (go_at_call 34; fail)
        refine (put_any _ r (x.kind - 1) 3 _ HWA.out (by have := HLEN.out; have := HSUM.out; omega)).mono ?_
        rintro e w4 ⟨rfl, hw4, hu4⟩
        have hb4 := WS.at_ hu4 HBX.out (by decide) (by omega)
        have HW4 := Lib.hid hw4
        have HU4 := Lib.hid (WS.trans HU.out (WS.ext HAL.out hu4))
        have HB4 := Lib.hid hb4
        have q0 := cellAt hb4 0 (.int .u8 x.kind) rfl
        have q1 := cellAt hb4 1 (.int .i64 x.n) rfl
        have q2 := cellAt hb4 2 (str x.text) rfl
        clear p1 p2 p3 hw4 hu4 hb4
        by_cases hk2 : x.kind = 2
        · have hq : (x.kind == 2) = true := by simp [hk2]
          have HK2 := Lib.hid hk2
          clear hk2
          go_wp2_with (go_at_call 34; fail)
          refine (put_any _ r ((x.text.length : Int) - 1) 4 _ HW4.out (by have := HLEN.out; have := HSUM.out; simp [putF]; omega)).mono ?_
          rintro e w5 ⟨rfl, hw5, hu5⟩
          have hb5 := WS.at_ hu5 HB4.out (by decide) (by omega)
          have HW5 := Lib.hid hw5
          have HU5 := Lib.hid (WS.trans HU4.out hu5)
          have q2 := cellAt hb5 2 (str x.text) rfl
          clear hw5 hu5 hb5 q0 q1 HB4
          go_wp2_with (go_at_call 64; fail)
          refine (letters_any' _ r x.text 26 _ HW5.out (by have := HLEN.out; have := HSUM.out; simp [putF]; omega)).mono ?_
          rintro e w6 ⟨rfl, hw6, hu6⟩
          have HW6 := Lib.hid hw6
          have HU6 := Lib.hid (WS.trans HU5.out hu6)
          clear hw6 hu6 q2
          go_wp2
          go_roundw
          case rel =>
            refine ⟨k + 1, by omega, by go_num, ?_, HU6.out⟩
            rw [List.take_succ_eq_append_getElem hlt, List.foldl_append, ← HXX.out]
            simp only [List.foldl_cons, List.foldl_nil]
            rw [editW, if_pos HK2.out]
            exact HW6.out
          case measure => simp [intOf]; omega
        · have hq : (x.kind == 2) = false := by simp [hk2]
          have HK2 := Lib.hid hk2
          clear hk2
          go_wp2_with (go_at_call 34; fail)
          refine (put_any _ r (wrap64 (x.n - 1)) 16 _ HW4.out (by have := HLEN.out; have := HSUM.out; simp [putF]; omega)).mono ?_
          rintro e w5 ⟨rfl, hw5, hu5⟩
          have HW5 := Lib.hid hw5
          have HU5 := Lib.hid (WS.trans HU4.out hu5)
          clear hw5 hu5 q0 q1 q2 HB4
          go_wp2
          go_roundw
          case rel =>
            refine ⟨k + 1, by omega, by go_num, ?_, HU5.out⟩
            rw [List.take_succ_eq_append_getElem hlt, List.foldl_append, ← HXX.out]
            simp only [List.foldl_cons, List.foldl_nil]
            rw [editW, if_neg HK2.out, ← put_wrap hn0 hn1 (by decide) (by decide)]
            exact HW5.out
          case measure => simp [intOf]; omega
      · go_wp2
        go_end0
        have hkl : k = l.length := by omega
        rw [hkl, List.take_length] at HW
        exact ⟨rfl, by rw [HS3.out]; exact HW.out, HU.out⟩
  | false =>
    go_wp2_with (go_at_call 30; fail)
    refine (deltaRight_any _ _ l HRR.out).mono ?_
    rintro e w1 ⟨rfl, hu1⟩
    have h21 := hu1.at_ H2.out id
    have y1 := cellAt h21 1 (.bool false) rfl
    have f1 := freeAt h21 1
    have H1 := Lib.hid (H.out.ext hu1)
    have HU1 := Lib.hid hu1
    clear hu1 h21
    by_cases hd : deltaRight l = true
    · rw [hd]
      have HD := Lib.hid hd
      clear hd
      obtain ⟨hw2, hu2⟩ := H1.out.bad false
      have HW2 := Lib.hid hw2
      have HU2 := Lib.hid (WS.ext HU1.out hu2)
      clear hw2 hu2
      go_wp2_with (go_at_call 34; fail)
      refine (put_any _ r (l.length : Int) 4 _ HW2.out (by dsimp only; omega)).mono ?_
      rintro e w3 ⟨rfl, hw3, hu3⟩
      have HW3 := Lib.hid hw3
      have HU3 := Lib.hid (WS.trans HU2.out hu3)
      clear hw3 hu3
      obtain ⟨s3, hs3⟩ : ∃ s3, s3 = putF (l.length : Int) 4 (bs, false) := ⟨_, rfl⟩
      rw [← hs3] at HW3
      have hs3l : s3.1.length = bs.length + 1 := by rw [hs3]; simp [putF]
      have HS3 := Lib.hid (show editsW l (bs, false) = l.foldl editW s3 from by rw [hs3, editsW]; simp [HD.out])
      clear hs3
      go_wp2
      go_loopw [24] (fun i wr => ∃ k : Nat, k ≤ l.length ∧ i = .int .i64 k ∧ Writer B wr r ((l.take k).foldl editW s3) ∧ Upd (WS B r w) w wr) (fun i _ => l.length - (intOf i).toNat)
      case atStart => exact ⟨0, Nat.zero_le _, rfl, HW3.out, HU3.out⟩
      case round =>
        obtain ⟨k, hk, rfl, hw, hu⟩ := hrel
        have HW := Lib.hid hw
        have HU := Lib.hid hu
        clear hw hu
        by_cases hlt : k < l.length
        · have hrr := WS.row HU.out HB0.out HRR.out
          obtain ⟨b1, o1, c1, e1, -, -, -, hc1⟩ := hrr.addr (by omega)
          cases e1
          obtain ⟨p1, p2, p3⟩ := edit_cells hc1 k hlt
          obtain ⟨x, hxx⟩ : ∃ x, x = l[k] := ⟨_, rfl⟩
          rw [← hxx] at p1 p2 p3
          obtain ⟨hk0, hk1, hn0, hn1⟩ := HWF.out l[k] (List.getElem_mem hlt)
          rw [← hxx] at hk0 hk1 hn0 hn1
          have hlen := foldEdit_len (l.take k) s3
          have hsum := esum_take (l := l) hlt
          rw [← hxx] at hsum
          have htl : x.text.length < 70368744177664 := by omega
          have HLEN := Lib.hid hlen
          have HSUM := Lib.hid hsum
          have HXX := Lib.hid hxx
          have hbx := newAt wr (.cells #[.int .u8 x.kind, .int .i64 x.n, str x.text] 46)
          have hal : Ext wr (wr.alloc (.cells #[.int .u8 x.kind, .int .i64 x.n, str x.text] 46)) := (Upd.refl _ _).alloc _
          have hrlt := HW.out.lt
          have HBX := Lib.hid hbx
          have HAL := Lib.hid hal
          have HWA := Lib.hid (HW.out.ext hal)
          clear hrr hc1 hlen hsum hxx hbx hal
          go_wp2_with (go_at_call 34; fail)
          refine (put_any _ r (x.kind - 1) 3 _ HWA.out (by have := HLEN.out; have := HSUM.out; omega)).mono ?_
          rintro e w4 ⟨rfl, hw4, hu4⟩
          have hb4 := WS.at_ hu4 HBX.out (by decide) (by omega)
          have HW4 := Lib.hid hw4
          have HU4 := Lib.hid (WS.trans HU.out (WS.ext HAL.out hu4))
          have HB4 := Lib.hid hb4
          have q0 := cellAt hb4 0 (.int .u8 x.kind) rfl
          have q1 := cellAt hb4 1 (.int .i64 x.n) rfl
          have q2 := cellAt hb4 2 (str x.text) rfl
          clear p1 p2 p3 hw4 hu4 hb4
          by_cases hk2 : x.kind = 2
          · have hq : (x.kind == 2) = true := by simp [hk2]
            have HK2 := Lib.hid hk2
            clear hk2
            go_wp2_with (go_at_call 34; fail)
            refine (put_any _ r ((x.text.length : Int) - 1) 4 _ HW4.out (by have := HLEN.out; have := HSUM.out; simp [putF]; omega)).mono ?_
            rintro e w5 ⟨rfl, hw5, hu5⟩
            have hb5 := WS.at_ hu5 HB4.out (by decide) (by omega)
            have HW5 := Lib.hid hw5
            have HU5 := Lib.hid (WS.trans HU4.out hu5)
            have q2 := cellAt hb5 2 (str x.text) rfl
            clear hw5 hu5 hb5 q0 q1 HB4
            go_wp2_with (go_at_call 64; fail)
            refine (letters_any' _ r x.text 26 _ HW5.out (by have := HLEN.out; have := HSUM.out; simp [putF]; omega)).mono ?_
            rintro e w6 ⟨rfl, hw6, hu6⟩
            have HW6 := Lib.hid hw6
            have HU6 := Lib.hid (WS.trans HU5.out hu6)
            clear hw6 hu6 q2
            go_wp2
            go_roundw
            case rel =>
              refine ⟨k + 1, by omega, by go_num, ?_, HU6.out⟩
              rw [List.take_succ_eq_append_getElem hlt, List.foldl_append, ← HXX.out]
              simp only [List.foldl_cons, List.foldl_nil]
              rw [editW, if_pos HK2.out]
              exact HW6.out
            case measure => simp [intOf]; omega
          · have hq : (x.kind == 2) = false := by simp [hk2]
            have HK2 := Lib.hid hk2
            clear hk2
            go_wp2_with (go_at_call 34; fail)
            refine (put_any _ r (wrap64 (x.n - 1)) 16 _ HW4.out (by have := HLEN.out; have := HSUM.out; simp [putF]; omega)).mono ?_
            rintro e w5 ⟨rfl, hw5, hu5⟩
            have HW5 := Lib.hid hw5
            have HU5 := Lib.hid (WS.trans HU4.out hu5)
            clear hw5 hu5 q0 q1 q2 HB4
            go_wp2
            go_roundw
            case rel =>
              refine ⟨k + 1, by omega, by go_num, ?_, HU5.out⟩
              rw [List.take_succ_eq_append_getElem hlt, List.foldl_append, ← HXX.out]
              simp only [List.foldl_cons, List.foldl_nil]
              rw [editW, if_neg HK2.out, ← put_wrap hn0 hn1 (by decide) (by decide)]
              exact HW5.out
            case measure => simp [intOf]; omega
        · go_wp2
          go_end0
          have hkl : k = l.length := by omega
          rw [hkl, List.take_length] at HW
          exact ⟨rfl, by rw [HS3.out]; exact HW.out, HU.out⟩
    · have hdf : deltaRight l = false := by simpa using hd
      rw [hdf]
      have HD := Lib.hid hdf
      clear hd hdf
      obtain ⟨hw2, hu2⟩ := H1.out.bad true
      have HW2 := Lib.hid hw2
      have HU2 := Lib.hid (WS.ext HU1.out hu2)
      clear hw2 hu2
      go_wp2_with (go_at_call 34; fail)
      refine (put_any _ r (l.length : Int) 4 _ HW2.out (by dsimp only; omega)).mono ?_
      rintro e w3 ⟨rfl, hw3, hu3⟩
      have HW3 := Lib.hid hw3
      have HU3 := Lib.hid (WS.trans HU2.out hu3)
      clear hw3 hu3
      obtain ⟨s3, hs3⟩ : ∃ s3, s3 = putF (l.length : Int) 4 (bs, true) := ⟨_, rfl⟩
      rw [← hs3] at HW3
      have hs3l : s3.1.length = bs.length + 1 := by rw [hs3]; simp [putF]
      have HS3 := Lib.hid (show editsW l (bs, false) = l.foldl editW s3 from by rw [hs3, editsW]; simp [HD.out])
      clear hs3
      go_wp2
      go_loopw [24] (fun i wr => ∃ k : Nat, k ≤ l.length ∧ i = .int .i64 k ∧ Writer B wr r ((l.take k).foldl editW s3) ∧ Upd (WS B r w) w wr) (fun i _ => l.length - (intOf i).toNat)
      case atStart => exact ⟨0, Nat.zero_le _, rfl, HW3.out, HU3.out⟩
      case round =>
        obtain ⟨k, hk, rfl, hw, hu⟩ := hrel
        have HW := Lib.hid hw
        have HU := Lib.hid hu
        clear hw hu
        by_cases hlt : k < l.length
        · have hrr := WS.row HU.out HB0.out HRR.out
          obtain ⟨b1, o1, c1, e1, -, -, -, hc1⟩ := hrr.addr (by omega)
          cases e1
          obtain ⟨p1, p2, p3⟩ := edit_cells hc1 k hlt
          obtain ⟨x, hxx⟩ : ∃ x, x = l[k] := ⟨_, rfl⟩
          rw [← hxx] at p1 p2 p3
          obtain ⟨hk0, hk1, hn0, hn1⟩ := HWF.out l[k] (List.getElem_mem hlt)
          rw [← hxx] at hk0 hk1 hn0 hn1
          have hlen := foldEdit_len (l.take k) s3
          have hsum := esum_take (l := l) hlt
          rw [← hxx] at hsum
          have htl : x.text.length < 70368744177664 := by omega
          have HLEN := Lib.hid hlen
          have HSUM := Lib.hid hsum
          have HXX := Lib.hid hxx
          have hbx := newAt wr (.cells #[.int .u8 x.kind, .int .i64 x.n, str x.text] 46)
          have hal : Ext wr (wr.alloc (.cells #[.int .u8 x.kind, .int .i64 x.n, str x.text] 46)) := (Upd.refl _ _).alloc _
          have hrlt := HW.out.lt
          have HBX := Lib.hid hbx
          have HAL := Lib.hid hal
          have HWA := Lib.hid (HW.out.ext hal)
          clear hrr hc1 hlen hsum hxx hbx hal
          go_wp2_with (go_at_call 34; fail)
          refine (put_any _ r (x.kind - 1) 3 _ HWA.out (by have := HLEN.out; have := HSUM.out; omega)).mono ?_
          rintro e w4 ⟨rfl, hw4, hu4⟩
          have hb4 := WS.at_ hu4 HBX.out (by decide) (by omega)
          have HW4 := Lib.hid hw4
          have HU4 := Lib.hid (WS.trans HU.out (WS.ext HAL.out hu4))
          have HB4 := Lib.hid hb4
          have q0 := cellAt hb4 0 (.int .u8 x.kind) rfl
          have q1 := cellAt hb4 1 (.int .i64 x.n) rfl
          have q2 := cellAt hb4 2 (str x.text) rfl
          clear p1 p2 p3 hw4 hu4 hb4
          by_cases hk2 : x.kind = 2
          · have hq : (x.kind == 2) = true := by simp [hk2]
            have HK2 := Lib.hid hk2
            clear hk2
            go_wp2_with (go_at_call 34; fail)
            refine (put_any _ r ((x.text.length : Int) - 1) 4 _ HW4.out (by have := HLEN.out; have := HSUM.out; simp [putF]; omega)).mono ?_
            rintro e w5 ⟨rfl, hw5, hu5⟩
            have hb5 := WS.at_ hu5 HB4.out (by decide) (by omega)
            have HW5 := Lib.hid hw5
            have HU5 := Lib.hid (WS.trans HU4.out hu5)
            have q2 := cellAt hb5 2 (str x.text) rfl
            clear hw5 hu5 hb5 q0 q1 HB4
            go_wp2_with (go_at_call 64; fail)
            refine (letters_any' _ r x.text 26 _ HW5.out (by have := HLEN.out; have := HSUM.out; simp [putF]; omega)).mono ?_
            rintro e w6 ⟨rfl, hw6, hu6⟩
            have HW6 := Lib.hid hw6
            have HU6 := Lib.hid (WS.trans HU5.out hu6)
            clear hw6 hu6 q2
            go_wp2
            go_roundw
            case rel =>
              refine ⟨k + 1, by omega, by go_num, ?_, HU6.out⟩
              rw [List.take_succ_eq_append_getElem hlt, List.foldl_append, ← HXX.out]
              simp only [List.foldl_cons, List.foldl_nil]
              rw [editW, if_pos HK2.out]
              exact HW6.out
            case measure => simp [intOf]; omega
          · have hq : (x.kind == 2) = false := by simp [hk2]
            have HK2 := Lib.hid hk2
            clear hk2
            go_wp2_with (go_at_call 34; fail)
            refine (put_any _ r (wrap64 (x.n - 1)) 16 _ HW4.out (by have := HLEN.out; have := HSUM.out; simp [putF]; omega)).mono ?_
            rintro e w5 ⟨rfl, hw5, hu5⟩
            have HW5 := Lib.hid hw5
            have HU5 := Lib.hid (WS.trans HU4.out hu5)
            clear hw5 hu5 q0 q1 q2 HB4
            go_wp2
            go_roundw
            case rel =>
              refine ⟨k + 1, by omega, by go_num, ?_, HU5.out⟩
              rw [List.take_succ_eq_append_getElem hlt, List.foldl_append, ← HXX.out]
              simp only [List.foldl_cons, List.foldl_nil]
              rw [editW, if_neg HK2.out, ← put_wrap hn0 hn1 (by decide) (by decide)]
              exact HW5.out
            case measure => simp [intOf]; omega
        · go_wp2
          go_end0
          have hkl : k = l.length := by omega
          rw [hkl, List.take_length] at HW
          exact ⟨rfl, by rw [HS3.out]; exact HW.out, HU.out⟩
end Go.Proofs.Ytlhpcgmbbeihiaa
