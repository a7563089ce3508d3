/-
  CONTRACTS of chartroomref29: at, name, letters, parts. By the same plain functions as script's, at an index.
-/
import Derived.Test.YtlhpcgmbbeihiaaScriptRd7
namespace Go.Proofs.Ytlhpcgmbbeihiaa
open Go.RowKit

theorem rat_any {S : Nat → Prop} (w : World) (v : Value) (l : List UInt8) (h : Bytes S w v l) (m : Int) (i : Nat) (hm : m = i) :
    Calls Try.prog 24 #[v, .int .i64 m] w fun e w' => ∃ c : Nat, e = .returned (.int .i64 c) ∧ c < 256 ∧ Hid (c = hd (l.drop i)) ∧ w = w' := by
  subst hm
  obtain ⟨a, c, rfl, h1, h2, h3, h4, h5⟩ := h
  unfold maxLen at h2
  by_cases hi : i < l.length
  · cases a with
    | none => have := h3 rfl; omega
    | some x =>
      obtain ⟨b, o, s⟩ := x
      have hsp := (h4 _ rfl).1
      simp only at hsp; subst hsp
      have hc := bytes_cell (h5 b o rfl) i hi
      have hx : l[i].toNat < 256 := UInt8.toNat_lt _
      clear h3 h4 h5
      go_enter Try.func24, Try.ntmps24
      go_wp2
      go_ret
      exact ⟨l[i].toNat, rfl, hx, Lib.hid (by rw [List.drop_eq_getElem_cons hi]; rfl), rfl⟩
  · clear h3 h4 h5
    go_enter Try.func24, Try.ntmps24
    go_wp2
    go_ret
    exact ⟨0, rfl, by omega, Lib.hid (by rw [List.drop_eq_nil_of_le (by omega)]; rfl), rfl⟩

theorem rname_any (w : World) (c : Nat) (hc : c < 256) :
    Calls Try.prog 51 #[.int .i64 c] w fun e w' => ∃ s, e = .returned (str s) ∧ Hid (s = nameF c) ∧ Ext w w' := by
  by_cases h : c = 255
  · have h1 : ((c : Int) == 255) = true := by rw [beq_iff_eq]; omega
    have HC := Lib.hid h
    clear h
    go_enter Try.func51, Try.ntmps51
    go_wp2
    go_ret
    exact ⟨[], rfl, Lib.hid (by rw [nameF, if_pos HC.out]), Upd.refl _ _⟩
  · have h1 : ((c : Int) == 255) = false := by rw [beq_eq_false_iff_ne]; omega
    have HC := Lib.hid h
    clear h
    have hb : Bytes (At w.heap.size) (w.alloc (.cells #[.int .u8 (97 + (c : Int) % 6)] 5)) (.slice (some ⟨w.heap.size, 0, none⟩) 1 1) [UInt8.ofNat (97 + c % 6)] := by
      have := row_new w #[.int .u8 (97 + (c : Int) % 6)] 5 1 _ (by decide) rfl
      have e : [UInt8.ofNat (97 + c % 6)].map u8 = [Value.int .u8 (97 + (c : Int) % 6)] := by
        simp only [List.map_cons, List.map_nil, u8]; rw [UInt8.toNat_ofNat_of_lt' (by show 97 + c % 6 < 256; omega)]; rfl
      unfold Bytes; rw [e]; exact this
    obtain ⟨s, hs⟩ : ∃ s, s = [UInt8.ofNat (97 + c % 6)] := ⟨_, rfl⟩
    rw [← hs] at hb
    have HS := Lib.hid hs
    clear hs
    have hcv := row_string (P := Try.prog) hb Try.underlying22 Try.underlying5 Try.underlying9
    go_enter Try.func51, Try.ntmps51
    go_wp2
    go_ret
    exact ⟨_, rfl, Lib.hid (by rw [nameF, if_neg HC.out, HS.out]), (Upd.refl _ _).alloc _⟩

set_option maxHeartbeats 1000000 in
theorem rletters_any {S : Nat → Prop} (w : World) (v : Value) (l : List UInt8) (h : Bytes S w v l) (m mn : Int) (i n : Nat) (hm : m = i) (hmn : mn = n) (hn : n ≤ 100000) (hi : i ≤ 1000000) :
    Calls Try.prog 52 #[v, .int .i64 m, .int .i64 mn] w fun e w' => ∃ s, e = .returned (str s) ∧ Hid (s = lettersF n (l.drop i)) ∧ Ext w w' := by
  subst hm; subst hmn
  have H := Lib.hid h
  clear h
  go_enter Try.func52, Try.ntmps52
  go_wp2
  go_loopw [7, 8] (fun v j wr => ∃ k : Nat, k ≤ n ∧ j = .int .i64 k ∧ Ext w wr ∧ wr.ownsRow w.heap.size 5 1 v k ((lettersF k (l.drop i)).map u8))
    (fun _ j _ => n - (intOf j).toNat)
  case atStart => exact ⟨0, Nat.zero_le _, rfl, Upd.refl _ _, World.ownsRow_nil _ _ _ _⟩
  case round =>
    obtain ⟨k, hk, rfl, hu, hown⟩ := hrel
    by_cases hlt : k < n
    · go_wp2_with (go_at_call 24; fail)
      refine (rat_any _ _ _ (H.out.ext hu) _ (i + k) (by omega)).mono ?_
      rintro e w1 ⟨c, rfl, hc, HC, rfl⟩
      go_wp2_with (at_builtin; go_must (refine wpList_append_row rfl _ _ _ rfl Try.bytesT rfl (hown.alloc _) rfl (row_new _ _ _ 1 _ (by decide) (by simp)) rfl (by intro u hu; simp at hu; subst hu; rfl) ?c3 ?c4 ?c5 ?_))
      case c3 => unfold maxLen; omega
      case c4 => omega
      case c5 => have := hu.size; simp; omega
      intro v' w2 hown2 hg _
      go_wp2
      go_roundw
      case rel => exact ⟨k + 1, by omega, by go_num, (hu.alloc _).grown hg (fun j hj h => by have := (hown.lt j hj).1; omega), by rw [← letters_cells, List.drop_drop, ← HC.out]; exact hown2⟩
      case measure => simp [intOf]; omega
    · have hkn : k = n := by omega
      subst hkn
      have hcv := row_string (P := Try.prog) (l := lettersF k (l.drop i)) (by rw [Bytes, lettersF_length]; exact Row.of_owns hown) Try.underlying22 Try.underlying5 Try.underlying9
      go_wp2
      go_ret
      exact ⟨_, rfl, Lib.hid rfl, hu⟩

end Go.Proofs.Ytlhpcgmbbeihiaa
