/-
  CONTRACT of the reference's ref05.Put.
-/
import Derived.Test.YtlhpcgmbbeihiaaDoorDPut
import Derived.Test.YtlhpcgmbbeihiaaDoorDRef19a
namespace Go.Proofs.YtlhpcgmbbeihiaaDoor
open Go.RowKit

set_option maxRecDepth 100000 in
set_option maxHeartbeats 1000000 in
theorem rdPut_any {S : Nat → Prop} (w : World) (v : Value) (l : List Edit) (h : Row S w v l.length (editCells l)) (hwf : ∀ x ∈ l, 0 ≤ x.kind) (hl : (editsPut l).length ≤ 70368744177664) :
    Calls Tryd.prog 36 #[v] w (PutPost l w) := by
  have g := h.addr
  have H := Lib.hid h
  obtain ⟨a, c, rfl, hn, hm, -⟩ := h
  unfold maxLen at hm
  have G := Lib.hid g
  clear g
  go_enter Tryd.func36, Tryd.ntmps36
  go_wp2_with (go_at_call 52; fail)
  refine (rdeltaRight_any w _ l H.out hwf).mono ?_
  rintro e w0 ⟨rfl, hx0⟩
  have HX0 := Lib.hid hx0
  clear hx0
  by_cases hd : deltaRight l = true
  · rw [hd]
    have HD := Lib.hid hd
    clear hd
    go_wp2
    go_loopw [4, 5] (fun v i wr => ∃ k : Nat, k ≤ l.length ∧ i = .int .i64 k ∧ Ext w wr ∧ wr.ownsRow w.heap.size 5 1 v (editsPut (l.take k)).length ((editsPut (l.take k)).map u8)) (fun _ i _ => l.length - (intOf i).toNat)
    case atStart => exact ⟨0, Nat.zero_le _, rfl, HX0.out, World.ownsRow_nil _ _ _ _⟩
    case round =>
      obtain ⟨k, hk, rfl, hx, hown⟩ := hrel
      have HX := Lib.hid hx
      have hus := hx.size
      clear hx
      by_cases hlt : k < l.length
      · obtain ⟨b1, o1, c1', e1, -, -, -, hc1⟩ := G.out (by omega)
        cases e1
        obtain ⟨p1, p2, p3⟩ := edit_cells hc1 k hlt
        have hsn := editsPut_snoc hlt
        have hpt := editsPut_part hlt
        have hri := deltaRight_at HD.out hlt
        obtain ⟨x, hxx⟩ : ∃ x, x = l[k] := ⟨_, rfl⟩
        rw [← hxx] at p1 p2 p3 hsn hpt hri
        have hep : editPut x = UInt8.ofNat x.kind.toNat :: (if x.kind = 2 then vtext x.text else vput x.n.toNat) := rfl
        have hlen1 : 1 ≤ (editPut x).length := editPut_pos x
        have hk13 : 0 ≤ x.kind ∧ x.kind ≤ 255 ∧ 0 ≤ x.n ∧ x.n ≤ 2147483647 ∧ (x.kind ≠ 2 → x.text = []) := by
          rcases editRight_cases hri with ⟨a1, a2, a3, a4⟩ | ⟨a1, a2, a3⟩
          · exact ⟨by omega, by omega, by omega, by omega, fun _ => a4⟩
          · exact ⟨by omega, by omega, by omega, by omega, fun h => absurd a1 h⟩
        obtain ⟨r1, r2, r3, r4, r5⟩ := hk13
        have hkb := byte_of r1 r2
        have P1 := Lib.hid p1
        have P2 := Lib.hid p2
        have P3 := Lib.hid p3
        have p1 := HX.out.cell p1 id
        have p2 := HX.out.cell p2 id
        have p3 := HX.out.cell p3 id
        have HSN := Lib.hid hsn
        have HKB := Lib.hid hkb
        have HRI := Lib.hid hri
        have HEP := Lib.hid hep
        clear hc1 hxx hsn hkb hri hep
        go_wp2_with (at_builtin; go_must (refine wpList_append_row rfl _ _ _ rfl Tryd.bytesT rfl (hown.alloc _) rfl (row_new _ _ _ 1 _ (by decide) (by simp)) rfl (by intro u hu; simp at hu; subst hu; rfl) ?c3 ?c4 ?c5 ?_))
        case c3 => unfold maxLen; omega
        case c4 => omega
        case c5 => first | omega | (simp; omega)
        intro v1 w2 hown2 hg _
        have hx2 := (HX.out.alloc _).grown hg (fun j hj h => by have := (hown.lt j hj).1; omega)
        have hsz2 : wr.heap.size < w2.heap.size := by have := hg.size; simp at this; omega
        have y0 := hx2.cell P1.out id
        have y1 := hx2.cell P2.out id
        have y2 := hx2.cell P3.out id
        have HX2 := Lib.hid hx2
        rw [HKB.out] at hown2
        clear hg hx2 p1 p2 p3
        by_cases h2 : x.kind = 2
        · have hk2 : (x.kind == 2) = true := by simp [h2]
          have hq : editPut x = UInt8.ofNat x.kind.toNat :: vtext x.text := by rw [HEP.out, if_pos h2]
          have hql := congrArg List.length hq
          rw [List.length_cons] at hql
          have hvt : x.text.length ≤ (vtext x.text).length := by rw [vtext, List.length_append]; omega
          have HQ := Lib.hid hq
          clear hq h2
          go_wp2_with (go_at_call 38; fail)
          refine (rText_any _ x.text (by omega)).mono ?_
          rintro e w3 ⟨v3, rfl, hown3, hx3⟩
          have hown1 := hx3.ownsRow hown2 (fun _ _ e => e)
          have hsz3 := hx3.size
          have HX3 := Lib.hid (HX2.out.trans hx3)
          clear hown2 hx3 y0 y1 y2
          obtain ⟨a1, n1, c1, rfl⟩ := ownsForm hown1
          obtain ⟨a2, n2, c2, rfl⟩ := ownsForm hown3
          go_wp2_with (at_builtin; go_must (refine wpList_append_row rfl _ _ _ rfl Tryd.bytesT rfl hown1 rfl (Row.of_owns hown3) (by simp) (u8_one _) ?c3 ?c4 ?c5 ?_))
          case c3 => unfold maxLen; omega
          case c4 => omega
          case c5 => omega
          intro v' w4 hown4 hg _
          have hx4 := HX3.out.grown hg (fun j hj h => by have := (hown1.lt j hj).1; omega)
          have HX4 := Lib.hid hx4
          clear hx4 hg
          go_wp2
          go_roundw
          case rel => exact ⟨k + 1, by omega, by go_num, HX4.out, put_step HSN.out HQ.out hown4⟩
          case measure => simp [intOf]; omega
        · have hk2 : (x.kind == 2) = false := by simp [h2]
          have hq : editPut x = UInt8.ofNat x.kind.toNat :: vput x.n.toNat := by rw [HEP.out, if_neg h2]
          obtain ⟨nn, hnn⟩ : ∃ nn : Nat, nn = x.n.toNat := ⟨_, rfl⟩
          have hnn2 : x.n = nn := by omega
          rw [← hnn] at hq
          have hql := congrArg List.length hq
          rw [List.length_cons] at hql
          have HQ := Lib.hid hq
          have hn64 : nn < 18446744073709551616 := by omega
          rw [hnn2] at y1
          clear hq h2 hnn hnn2
          go_wp2_with (go_at_call 37; fail)
          refine (rPut_any _ nn (by omega)).mono ?_
          rintro e w3 ⟨v3, rfl, hown3, hx3⟩
          have hown1 := hx3.ownsRow hown2 (fun _ _ e => e)
          have hsz3 := hx3.size
          have HX3 := Lib.hid (HX2.out.trans hx3)
          clear hown2 hx3 y0 y1 y2
          obtain ⟨a1, n1, c1, rfl⟩ := ownsForm hown1
          obtain ⟨a2, n2, c2, rfl⟩ := ownsForm hown3
          go_wp2_with (at_builtin; go_must (refine wpList_append_row rfl _ _ _ rfl Tryd.bytesT rfl hown1 rfl (Row.of_owns hown3) (by simp) (u8_one _) ?c3 ?c4 ?c5 ?_))
          case c3 => unfold maxLen; omega
          case c4 => omega
          case c5 => omega
          intro v' w4 hown4 hg _
          have hx4 := HX3.out.grown hg (fun j hj h => by have := (hown1.lt j hj).1; omega)
          have HX4 := Lib.hid hx4
          clear hx4 hg
          go_wp2
          go_roundw
          case rel => exact ⟨k + 1, by omega, by go_num, HX4.out, put_step HSN.out HQ.out hown4⟩
          case measure => simp [intOf]; omega
      · have hkl : k = l.length := by omega
        rw [hkl, List.take_length] at hown
        go_wp2
        go_ret2
        exact putPost_ok HD.out hown HX.out
  · have hdf : deltaRight l = false := by simpa using hd
    rw [hdf]
    have HD := Lib.hid hdf
    clear hd hdf
    go_wp2
    go_ret2
    exact ⟨nilS, by rw [HD.out]; rfl, fun h => (by rw [HD.out] at h; cases h), fun _ => rfl, HX0.out⟩
end Go.Proofs.YtlhpcgmbbeihiaaDoor
