/-
  CONTRACTS of varint.All and the reference's All: of any numbers, few of them.
-/
import Derived.Test.YtlhpcgmbbeihiaaDoorMF
namespace Go.Proofs.YtlhpcgmbbeihiaaDoor
open Go.RowKit

abbrev u64v (n : Nat) : Value := .int .u64 (n : Int)
abbrev Nums (S : Nat → Prop) (w : World) (v : Value) (l : List Nat) : Prop := Row S w v l.length (l.map u64v)
def vputs (l : List Nat) : List UInt8 := (l.map vput).flatten
theorem vputs_snoc {l : List Nat} {k : Nat} (hk : k < l.length) : vputs (l.take (k + 1)) = vputs (l.take k) ++ vput l[k] := by
  unfold vputs; rw [List.take_succ_eq_append_getElem hk, List.map_append, List.flatten_append]; simp
theorem vputs_len {l : List Nat} (h : ∀ n ∈ l, n < 18446744073709551616) : (vputs l).length ≤ 10 * l.length := by
  induction l with
  | nil => simp [vputs]
  | cons n l ih =>
    have h1 := vput_len_le (h n (by simp))
    have h2 := ih fun m hm => h m (by simp [hm])
    simp only [vputs, List.map_cons, List.flatten_cons, List.length_append, List.length_cons] at h2 ⊢; omega
theorem nums_cell {l : List Nat} {w : World} {b o : Nat} (h : ∀ j u, (l.map u64v)[j]? = some u → w.cell? ⟨b, o + j, none⟩ = some u) (k : Nat) (hk : k < l.length) :
    w.cell? ⟨b, o + k, none⟩ = some (.int .u64 ((l[k] : Nat) : Int)) := h k _ (by simp [hk])

set_option maxRecDepth 100000 in
set_option maxHeartbeats 1000000 in
theorem vAll_any {S : Nat → Prop} (w : World) (v : Value) (l : List Nat) (h : Nums S w v l) (hl : l.length ≤ 100) (hn : ∀ n ∈ l, n < 18446744073709551616) :
    Calls Tryd.prog 35 #[v] w fun e w' => ∃ v, e = .returned v ∧ w'.ownsRow w.heap.size 5 1 v (vputs l).length ((vputs l).map u8) ∧ Ext w w' := by
  have g := h.addr
  obtain ⟨a, c, rfl, hnc, hm, -⟩ := h
  unfold maxLen at hm
  have G := Lib.hid g
  have HNN := Lib.hid hn
  clear g hn
  go_enter Tryd.func35, Tryd.ntmps35
  go_wp2
  go_loopw [2, 7] (fun v i wr => ∃ k : Nat, k ≤ l.length ∧ i = .int .i64 k ∧ Ext w wr ∧ wr.ownsRow w.heap.size 5 1 v (vputs (l.take k)).length ((vputs (l.take k)).map u8))
    (fun _ i _ => l.length - (intOf i).toNat)
  case atStart => exact ⟨0, Nat.zero_le _, rfl, Upd.refl _ _, World.ownsRow_nil _ _ _ _⟩
  case round =>
    obtain ⟨k, hk, rfl, hx, hown⟩ := hrel
    have HX := Lib.hid hx
    have hus := hx.size
    clear hx
    by_cases hlt : k < l.length
    · obtain ⟨b1, o1, c1', e1, -, -, -, hc1⟩ := G.out (by omega)
      cases e1
      have hcell := HX.out.cell (nums_cell hc1 k hlt) id
      have hN := HNN.out l[k] (List.getElem_mem hlt)
      have hsn := vputs_snoc hlt
      have hbig : (vputs (l.take k)).length ≤ 1000 := by
        have := vputs_len (l := l.take k) (fun n hn => HNN.out n (List.mem_of_mem_take hn))
        rw [List.length_take] at this; omega
      obtain ⟨N, hNN⟩ : ∃ N, N = l[k] := ⟨_, rfl⟩
      rw [← hNN] at hcell hN hsn
      have hv10 := vput_len_le hN
      have HSN := Lib.hid hsn
      clear hc1 hNN hsn
      go_wp2_with (go_at_call 33; fail)
      refine (vPut_any _ N hN).mono ?_
      rintro e w2 ⟨v2, rfl, hown2, hx2⟩
      have hown1 := hx2.ownsRow hown (fun _ _ e => e)
      have hsz2 := hx2.size
      have HX2 := Lib.hid (HX.out.trans hx2)
      clear hown hx2
      obtain ⟨a1, n1, c1, rfl⟩ := ownsForm hown1
      obtain ⟨a2, n2, c2, rfl⟩ := ownsForm hown2
      go_wp2_with (at_builtin; go_must (refine wpList_append_row rfl _ _ _ rfl Tryd.bytesT rfl hown1 rfl (Row.of_owns hown2) (by simp) (u8_one _) ?c3 ?c4 ?c5 ?_))
      case c3 => unfold maxLen; omega
      case c4 => omega
      case c5 => omega
      intro v' w3 hown3 hg _
      have hx3 := HX2.out.grown hg (fun j hj h => by have := (hown1.lt j hj).1; omega)
      have HX3 := Lib.hid hx3
      clear hx3 hg
      go_wp2
      go_roundw
      case rel => exact ⟨k + 1, by omega, by go_num, HX3.out, by rw [HSN.out, List.length_append, List.map_append]; exact hown3⟩
      case measure => simp [intOf]; omega
    · have hkl : k = l.length := by omega
      rw [hkl, List.take_length] at hown
      go_wp2
      go_ret
      exact ⟨_, rfl, hown, HX.out⟩

set_option maxRecDepth 100000 in
set_option maxHeartbeats 1000000 in
theorem rAll_any {S : Nat → Prop} (w : World) (v : Value) (l : List Nat) (h : Nums S w v l) (hl : l.length ≤ 100) (hn : ∀ n ∈ l, n < 18446744073709551616) :
    Calls Tryd.prog 39 #[v] w fun e w' => ∃ v, e = .returned v ∧ w'.ownsRow w.heap.size 5 1 v (vputs l).length ((vputs l).map u8) ∧ Ext w w' := by
  have g := h.addr
  obtain ⟨a, c, rfl, hnc, hm, -⟩ := h
  unfold maxLen at hm
  have G := Lib.hid g
  have HNN := Lib.hid hn
  clear g hn
  go_enter Tryd.func39, Tryd.ntmps39
  go_wp2
  go_loopw [3, 4] (fun v i wr => ∃ k : Nat, k ≤ l.length ∧ i = .int .i64 k ∧ Ext w wr ∧ wr.ownsRow w.heap.size 5 1 v (vputs (l.take k)).length ((vputs (l.take k)).map u8))
    (fun _ i _ => l.length - (intOf i).toNat)
  case atStart => exact ⟨0, Nat.zero_le _, rfl, Upd.refl _ _, World.ownsRow_nil _ _ _ _⟩
  case round =>
    obtain ⟨k, hk, rfl, hx, hown⟩ := hrel
    have HX := Lib.hid hx
    have hus := hx.size
    clear hx
    by_cases hlt : k < l.length
    · obtain ⟨b1, o1, c1', e1, -, -, -, hc1⟩ := G.out (by omega)
      cases e1
      have hcell := HX.out.cell (nums_cell hc1 k hlt) id
      have hN := HNN.out l[k] (List.getElem_mem hlt)
      have hsn := vputs_snoc hlt
      have hbig : (vputs (l.take k)).length ≤ 1000 := by
        have := vputs_len (l := l.take k) (fun n hn => HNN.out n (List.mem_of_mem_take hn))
        rw [List.length_take] at this; omega
      obtain ⟨N, hNN⟩ : ∃ N, N = l[k] := ⟨_, rfl⟩
      rw [← hNN] at hcell hN hsn
      have hv10 := vput_len_le hN
      have HSN := Lib.hid hsn
      clear hc1 hNN hsn
      go_wp2_with (go_at_call 37; fail)
      refine (rPut_any _ N hN).mono ?_
      rintro e w2 ⟨v2, rfl, hown2, hx2⟩
      have hown1 := hx2.ownsRow hown (fun _ _ e => e)
      have hsz2 := hx2.size
      have HX2 := Lib.hid (HX.out.trans hx2)
      clear hown hx2
      obtain ⟨a1, n1, c1, rfl⟩ := ownsForm hown1
      obtain ⟨a2, n2, c2, rfl⟩ := ownsForm hown2
      go_wp2_with (at_builtin; go_must (refine wpList_append_row rfl _ _ _ rfl Tryd.bytesT rfl hown1 rfl (Row.of_owns hown2) (by simp) (u8_one _) ?c3 ?c4 ?c5 ?_))
      case c3 => unfold maxLen; omega
      case c4 => omega
      case c5 => omega
      intro v' w3 hown3 hg _
      have hx3 := HX2.out.grown hg (fun j hj h => by have := (hown1.lt j hj).1; omega)
      have HX3 := Lib.hid hx3
      clear hx3 hg
      go_wp2
      go_roundw
      case rel => exact ⟨k + 1, by omega, by go_num, HX3.out, by rw [HSN.out, List.length_append, List.map_append]; exact hown3⟩
      case measure => simp [intOf]; omega
    · have hkl : k = l.length := by omega
      rw [hkl, List.take_length] at hown
      go_wp2
      go_ret
      exact ⟨_, rfl, hown, HX.out⟩
end Go.Proofs.YtlhpcgmbbeihiaaDoor
