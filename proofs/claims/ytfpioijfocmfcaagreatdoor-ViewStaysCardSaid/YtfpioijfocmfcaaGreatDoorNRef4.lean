/-
  CONTRACT of the reference's Put. Condition: the numbers are numbers of 64 bits.
-/
import Derived.Test.YtfpioijfocmfcaaGreatDoorNRef3
namespace Go.Proofs.YtfpioijfocmfcaaGreatDoor
open Go.RowKit

/-- A name with its first k numbers. -/
def accF (x : Nm) (k : Nat) : List UInt8 := headF x.kind :: (((numsF x).take k).map (fun u => 45 :: Lib.decDigits u)).flatten
theorem accF_snoc {x : Nm} {k : Nat} (hk : k < (numsF x).length) : accF x (k + 1) = accF x k ++ 45 :: Lib.decDigits ((numsF x)[k]) := by
  unfold accF
  rw [List.take_succ_eq_append_getElem hk, List.map_append, List.flatten_append]
  simp
theorem join_flat (h : List UInt8) : ∀ l : List (List UInt8), Lib.join (h :: l) [45] = h ++ (l.map (fun u => 45 :: u)).flatten
  | [] => by rw [join_one]; simp
  | v :: r => by
    rw [join_cons, join_flat v r]; simp
theorem accF_all {x : Nm} (hm : mayF x = true) : accF x (numsF x).length = putF x := by
  unfold putF
  rw [if_pos hm]
  unfold wordsF accF
  rw [join_flat, List.take_length, List.map_map]; rfl
theorem accF_len {x : Nm} (hw : WfNm x) {k : Nat} (hk : k ≤ 4) : (accF x k).length ≤ 1 + 21 * k := by
  unfold accF
  have h : ∀ l : List Nat, (∀ u ∈ l, u < 18446744073709551616) → ((l.map (fun u => 45 :: Lib.decDigits u)).flatten).length ≤ 21 * l.length := by
    intro l
    induction l with
    | nil => intro _; simp
    | cons u r ih =>
      intro h
      have h1 := ih (fun v hv => h v (by simp [hv]))
      have h2 := dec_len (h u (by simp))
      simp only [List.map_cons, List.flatten_cons, List.length_append, List.length_cons] at h1 ⊢
      omega
  have h1 := h ((numsF x).take k) (fun u hu => numsF_lt hw u (List.mem_of_mem_take hu))
  have h2 : ((numsF x).take k).length ≤ k := List.length_take_le _ _
  simp only [List.length_cons]
  omega
theorem five_heads (w : World) (n : Nat) (hn : n = w.heap.size) {k : Nat} (h1 : 1 ≤ k) (h2 : k ≤ 4) : (w.alloc (.cells #[.string ⟨#[]⟩, .string ⟨#[115]⟩, .string ⟨#[98]⟩, .string ⟨#[116]⟩, .string ⟨#[106]⟩] 9)).cell? ⟨n, k, none⟩ = some (str [headF k]) := by
  subst hn
  exact cellAt (newAt w _) k _ (headsV_at h1 h2)
set_option maxRecDepth 100000 in
set_option maxHeartbeats 2000000 in
theorem rput_any (w : World) (x : Nm) (hw : WfNm x) :
    Calls Tryz.prog 53 #[.agg (nmCells x)] w fun e w' => e = .returned (str (putF x)) ∧ Ext w w' := by
  have HB := Lib.hid (newAt w (.cells (nmCells x) 70))
  have HX := Lib.hid (show Ext w (w.alloc (.cells (nmCells x) 70)) from (Upd.refl _ _).alloc _)
  have HW := Lib.hid hw
  clear hw
  go_enter Tryz.func53, Tryz.ntmps53
  go_wp2_with (first | (refine wpList_load_blk rfl _ _ rfl rfl HB.out (Tryz.rnmT x) ?_) | (go_at_call 77; fail))
  refine (rnums_any _ x).mono ?_
  rintro e w1 ⟨v, rfl, hrow, hx1⟩
  have HX1 := Lib.hid (HX.out.trans hx1)
  have hb1 := hx1.at_ HB.out id
  have HB1 := Lib.hid hb1
  clear hx1
  cases hm : mayF x with
  | false =>
    have HM := Lib.hid hm
    clear hm hrow hb1
    go_wp2
    go_ret
    exact ⟨by unfold putF; rw [if_neg (by rw [HM.out]; decide)]; rfl, HX1.out⟩
  | true =>
    have hrow := hrow hm
    obtain ⟨k1, k2, -⟩ := mayF_iff.1 hm
    obtain ⟨a, c, rfl, -, hcm, -⟩ := id hrow
    have HM := Lib.hid hm
    have HROW := Lib.hid hrow
    have hnl := numsF_length (x := x)
    have hcl := countF_le x.kind
    have hc0 := fun w2 (h : Ext w1 w2) => cellAt (h.at_ hb1 id) 0 (.int .u8 x.kind) rfl
    have hc1 := hc0 _ ((Upd.refl Nothing w1).alloc (.cells #[.string ⟨#[]⟩, .string ⟨#[115]⟩, .string ⟨#[98]⟩, .string ⟨#[116]⟩, .string ⟨#[106]⟩] 9))
    have hh := five_heads w1 w1.heap.size rfl k1 k2
    obtain ⟨C, hC⟩ : ∃ C, C = (numsF x).length := ⟨_, rfl⟩
    rw [← hC] at hrow hnl ⊢
    have hC4 : C ≤ 4 := by omega
    have HC := Lib.hid hC
    have hk5 : (x.kind : Int) < 5 := by omega
    clear hm hrow hb1 hc0 hC hnl hcl
    unfold maxLen at hcm
    go_wp2
    obtain ⟨w2, hw2⟩ : ∃ u, u = w1.alloc (.cells #[.string ⟨#[]⟩, .string ⟨#[115]⟩, .string ⟨#[98]⟩, .string ⟨#[116]⟩, .string ⟨#[106]⟩] 9) := ⟨_, rfl⟩
    have hx2 : Ext w1 w2 := by rw [hw2]; exact (Upd.refl _ _).alloc _
    rw [← hw2]
    have HX2 := Lib.hid (HX1.out.trans hx2)
    have HROW2 := Lib.hid (HROW.out.ext hx2)
    clear hc1 hh hw2 hx2
    go_loopw [5, 6] (fun v i wr => ∃ k : Nat, k ≤ C ∧ i = .int .i64 k ∧ v = str (accF x k) ∧ Ext w2 wr) (fun _ i _ => C - (intOf i).toNat)
    case atStart => exact ⟨0, Nat.zero_le _, rfl, rfl, Upd.refl _ _⟩
    case round =>
      obtain ⟨k, hk, rfl, rfl, hx⟩ := hrel
      have HX3 := Lib.hid hx
      clear hx
      by_cases hlt : k < C
      · have hkn : k < (numsF x).length := by have := HC.out; omega
        have hsn := accF_snoc hkn
        have hu := numsF_lt HW.out _ (List.getElem_mem hkn)
        obtain ⟨b1, o1, c1, e1, -, -, -, hq1⟩ := (HROW2.out.ext HX3.out).addr (by omega)
        have hcell := hq1 k (u64 ((numsF x)[k])) (by simp [hkn])
        have HC' := HC.out
        rw [← HC'] at e1
        cases e1
        obtain ⟨u, hue⟩ : ∃ u, u = (numsF x)[k] := ⟨_, rfl⟩
        rw [← hue] at hcell hu hsn
        have hal := accF_len HW.out (k := k) (by omega)
        obtain ⟨A, hA⟩ : ∃ A, A = accF x k := ⟨_, rfl⟩
        rw [← hA] at hsn hal ⊢
        have HSN := Lib.hid hsn
        have hal' : A.length ≤ 85 := by omega
        clear hsn hq1 hue hkn hA hal HC'
        go_wp2_with (go_at_call 76; fail)
        refine (digits_any _ u hu).mono ?_
        rintro e w5 ⟨rfl, hx5⟩
        have HX5 := Lib.hid (HX3.out.trans hx5)
        have hdl := dec_len hu
        obtain ⟨D, hD⟩ : ∃ D, D = Lib.decDigits u := ⟨_, rfl⟩
        rw [← hD] at hdl ⊢
        have HD := Lib.hid hD
        clear hx5 hD hcell
        go_wp2
        go_roundw
        case rel =>
          refine ⟨k + 1, by omega, by go_num, ?_, HX5.out⟩
          rw [HSN.out, ← HD.out]
          show Value.string _ = _
          congr 1
          first | done | (apply ByteArray.ext; simp)
        case measure => simp [intOf]; omega
      · have hkC : k = C := by omega
        go_wp2
        go_ret
        exact ⟨by rw [hkC, HC.out, accF_all HM.out]; rfl, HX2.out.trans HX3.out⟩
end Go.Proofs.YtfpioijfocmfcaaGreatDoor
