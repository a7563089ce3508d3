/-
  CONTRACTS of package chartroomkit: Own, SameBytes. No condition but that the slices read as bytes.
-/
import Derived.Test.YtlhpcgmbbeihiaaBase
namespace Go.Proofs.Ytlhpcgmbbeihiaa
open Go.RowKit

theorem beq_len_ne {l1 l2 : List UInt8} (h : l1.length ≠ l2.length) : (l1 == l2) = false := by
  rw [beq_eq_false_iff_ne]; intro e; exact h (by rw [e])
theorem take_ext {l1 l2 : List UInt8} {k : Nat} (h1 : k < l1.length) (h2 : k < l2.length) (h : l1.take k = l2.take k) (e : (l1[k].toNat : Int) = l2[k].toNat) : l1.take (k+1) = l2.take (k+1) := by
  rw [List.take_succ_eq_append_getElem h1, List.take_succ_eq_append_getElem h2, h]
  congr 2
  exact UInt8.toNat_inj.1 (by omega)
theorem beq_of_take {l1 l2 : List UInt8} (hl : l1.length = l2.length) (h : l1.take l1.length = l2.take l1.length) : (l1 == l2) = true := by
  rw [beq_iff_eq]; rw [List.take_length] at h; rw [h, hl, List.take_length]
theorem beq_ne_at {l1 l2 : List UInt8} {k : Nat} (h1 : k < l1.length) (h2 : k < l2.length) (e : ¬ (l1[k].toNat : Int) = l2[k].toNat) : (l1 == l2) = false := by
  rw [beq_eq_false_iff_ne]; intro e'; subst e'; exact e rfl

set_option maxHeartbeats 400000 in
theorem sameBytes_any {S1 S2 : Nat → Prop} (w : World) (v1 v2 : Value) (l1 l2 : List UInt8) (h1 : Bytes S1 w v1 l1) (h2 : Bytes S2 w v2 l2) :
    Calls Try.prog 14 #[v1, v2] w fun e w' => e = .returned (.bool (l1 == l2)) ∧ Ext w w' := by
  have g1 := h1.addr
  have g2 := h2.addr
  obtain ⟨a1, c1, rfl, hn1, hm1, -⟩ := h1
  obtain ⟨a2, c2, rfl, hn2, hm2, -⟩ := h2
  unfold maxLen at hm1 hm2
  by_cases hl : l1.length = l2.length
  · have hb : ((l1.length : Int) != (l2.length : Int)) = false := by simp [hl]
    have HL := Lib.hid hl
    have G1 := Lib.hid g1
    have G2 := Lib.hid g2
    clear hl g1 g2
    go_enter Try.func14, Try.ntmps14
    go_wp2
    go_loopw [5] (fun i wr => ∃ k : Nat, k ≤ l1.length ∧ i = .int .i64 k ∧ l1.take k = l2.take k ∧ Ext w wr)
      (fun i _ => l1.length - (intOf i).toNat)
    case atStart => exact ⟨0, Nat.zero_le _, rfl, rfl, Upd.refl _ _⟩
    case round =>
      obtain ⟨k, hk, rfl, ht, hx⟩ := hrel
      have HT := Lib.hid ht
      clear ht
      by_cases hlt : k < l1.length
      · have hlt2 : k < l2.length := by rw [← HL.out]; exact hlt
        obtain ⟨b1, o1, c1', e1, -, -, -, hc1⟩ := G1.out (by omega)
        obtain ⟨b2, o2, c2', e2, -, -, -, hc2⟩ := G2.out (by omega)
        cases e1; cases e2
        have q1 := hx.cell (bytes_cell hc1 k hlt) id
        have q2 := hx.cell (bytes_cell hc2 k hlt2) id
        clear hc1 hc2
        by_cases he : (l1[k].toNat : Int) = l2[k].toNat
        · have HE := Lib.hid he
          have hb2 : ((l1[k].toNat : Int) != (l2[k].toNat : Int)) = false := by simp [he]
          clear he
          go_wp2
          go_quiet (fail)
          go_wp2
          go_roundw
          case rel => exact ⟨k + 1, by omega, by go_num, take_ext hlt hlt2 HT.out HE.out, hx.drewN _⟩
          case measure => simp [intOf]; omega
        · have hb2 : ((l1[k].toNat : Int) != (l2[k].toNat : Int)) = true := by simpa using he
          have HE := Lib.hid he
          clear he
          go_wp2
          go_quiet (fail)
          go_wp2
          go_ret
          exact ⟨by rw [beq_ne_at hlt hlt2 HE.out]; rfl, hx.drewN _⟩
      · go_wp2
        go_ret
        have hkl : k = l1.length := by omega
        subst hkl
        exact ⟨by rw [beq_of_take HL.out HT.out]; rfl, hx⟩
  · have hb : ((l1.length : Int) != (l2.length : Int)) = true := by simp; omega
    have HL := Lib.hid hl
    clear hl g1 g2
    go_enter Try.func14, Try.ntmps14
    go_wp2
    go_ret
    exact ⟨by rw [beq_len_ne HL.out]; rfl, Upd.refl _ _⟩

theorem Try.bytesT : SliceT Try.prog 22 5 1 1 := sliceT_of Try.underlying22 (by kernel_rfl) (by decide)

set_option maxHeartbeats 400000 in
theorem own_any {S : Nat → Prop} (w : World) (v : Value) (l : List UInt8) (h : Bytes S w v l) (hb : l.length ≤ 140737488355328) :
    Calls Try.prog 8 #[v] w fun e w' => ∃ v', e = .returned v' ∧ Bytes (From w.heap.size) w' v' l ∧ Ext w w' := by
  have hm : l.length ≤ maxLen := by unfold maxLen; omega
  go_enter Try.func8, Try.ntmps8
  go_wp2_with (at_builtin; refine wpList_append_row rfl _ _ _ rfl Try.bytesT rfl (World.ownsRow_nil _ w.heap.size _ _) rfl h (by simp) (u8_one l) (by omega) (by omega) (Nat.le_refl _) ?_)
  intro v' w1 hown hg _
  go_wp2
  go_ret

  exact ⟨_, rfl, Row.of_owns (by simpa using hown), (Upd.refl _ _).grown hg fun k e => by simp [Value.ownBlock] at e⟩

end Go.Proofs.Ytlhpcgmbbeihiaa
