/-
  CONTRACT of the reference's ref05.Parse.
-/
import Derived.Test.YtlhpcgmbbeihiaaDoorDParse
import Derived.Test.YtlhpcgmbbeihiaaDoorDRef19a
import Derived.Test.YtlhpcgmbbeihiaaDoorMD
namespace Go.Proofs.YtlhpcgmbbeihiaaDoor
open Go.RowKit

theorem editRight_text (s : List UInt8) : editRight ⟨2, 0, s⟩ = !s.isEmpty := by
  unfold editRight; dsimp only; rw [if_neg (by decide), if_pos rfl]; simp
theorem editRight_num {m : Int} (h : m = 1 ∨ m = 3) (n : Int) : editRight ⟨m, n, []⟩ = (decide (0 < n) && decide (n ≤ 2147483647)) := by
  unfold editRight; dsimp only; rw [if_pos h]; simp
def ParsePost (l : List UInt8) (w : World) (e : Ending) (w' : World) : Prop := ∃ v', e = .returned (.tuple #[v', .int .i64 (editsP l.length l).1]) ∧ ((editsP l.length l).1 = 0 → w'.ownsRow w.heap.size 72 3 v' (editsP l.length l).2.length (editCells (editsP l.length l).2)) ∧ ((editsP l.length l).1 ≠ 0 → v' = nilS) ∧ Ext w w'
theorem parse_bad {l : List UInt8} {w w' : World} {E : Int} {x : List Edit} (hR : editsP l.length l = (E, x)) (h : E ≠ 0) (hx : Ext w w') : ParsePost l w (.returned (.tuple #[nilS, .int .i64 E])) w' :=
  ⟨nilS, by rw [hR], fun e => (by rw [hR] at e; exact absurd e h), fun _ => rfl, hx⟩
theorem lit3_cells (k n : Int) (s : List UInt8) {w : World} {b : Nat} {T : TypeId} (h : w.heap[b]? = some (.cells #[.int .u8 k, .int .i64 n, str s] T (0, 0))) : w.cell? ⟨b, 0, none⟩ = some (.int .u8 k) ∧ w.cell? ⟨b, 1, none⟩ = some (.int .i64 n) ∧ w.cell? ⟨b, 2, none⟩ = some (str s) ∧ (∀ j, w.frozen? ⟨b, j, none⟩ = false) ∧ b < w.heap.size :=
  ⟨cellAt h 0 _ rfl, cellAt h 1 _ rfl, cellAt h 2 _ rfl, fun j => freeAt h j, lt_of_heap h⟩

set_option maxRecDepth 100000 in
set_option maxHeartbeats 8000000 in
theorem rdParse_any {S : Nat → Prop} (w : World) (v : Value) (l : List UInt8) (h : Bytes S w v l) (hl : l.length ≤ 1099511627776) :
    Calls Tryd.prog 47 #[v] w (ParsePost l w) := by
  have H := Lib.hid h
  have g := h.addr
  obtain ⟨a, c, rfl, hn, hm, -⟩ := h
  unfold maxLen at hm
  have G := Lib.hid g
  clear g
  obtain ⟨R, hR⟩ : ∃ R, R = editsP l.length l := ⟨_, rfl⟩
  have HR := Lib.hid hR
  clear hR
  go_enter Tryd.func47, Tryd.ntmps47
  go_wp2
  go_loopw [4, 5] (fun v q wr => ∃ (b f : Nat) (dn : List Edit), b ≤ l.length ∧ l.length - b ≤ f ∧ dn.length ≤ b ∧ q = .int .i64 (b : Int) ∧ R = editsJoin dn (editsP f (l.drop b)) ∧ Ext w wr ∧ wr.ownsRow w.heap.size 72 3 v dn.length (editCells dn)) (fun _ q _ => l.length - (intOf q).toNat)
  case atStart => exact ⟨0, l.length, [], Nat.zero_le _, by omega, Nat.le_refl _, rfl, by rw [HR.out]; exact editsJoin_nil _ _, Upd.refl _ _, World.ownsRow_nil _ _ _ _⟩
  case round =>
    obtain ⟨b, f, dn, hb, hf, hdn, rfl, hr, hx, hown⟩ := hrel
    have HX := Lib.hid hx
    have hus := hx.size
    have HRJ := Lib.hid hr
    clear hx hr
    by_cases hlt : b < l.length
    · obtain ⟨f, rfl⟩ : ∃ g, f = g + 1 := ⟨f - 1, by omega⟩
      have hne : l.drop b ≠ [] := by intro e; have := congrArg List.length e; simp at this; omega
      have hst := fun h => editsJoin_step (dn := dn) (f := f) hne h
      have hbd := fun h => editsJoin_bad (dn := dn) (f := f) hne h
      have hpo := fun h => editP_ok hne h
      obtain ⟨b1, o1, c1', e1, -, -, -, hc1⟩ := G.out (by omega)
      cases e1
      obtain ⟨m, hm'⟩ : ∃ m : Nat, m = l[b].toNat := ⟨_, rfl⟩
      have hm1 : m < 256 := by have := UInt8.toNat_lt l[b]; omega
      have hhd : hd (l.drop b) = m := by rw [List.drop_eq_getElem_cons hlt, hd_cons, hm']
      have hd1 : (l.drop b).drop 1 = l.drop (b + 1) := by rw [List.drop_drop]
      have hcell := HX.out.cell (bytes_cell hc1 b hlt) id
      rw [← hm'] at hcell
      obtain ⟨wa, hwa⟩ : ∃ wa, wa = wr.alloc (.cells #[.int .u8 m, .int .i64 0, .string ⟨#[]⟩] 72) := ⟨_, rfl⟩
      have hba : wa.heap[wr.heap.size]? = some (.cells #[.int .u8 m, .int .i64 0, str []] 72 (0, 0)) := by rw [hwa]; exact newAt _ _
      have hxa : Ext w wa := by rw [hwa]; exact HX.out.alloc _
      have howna : wa.ownsRow w.heap.size 72 3 u4 dn.length (editCells dn) := by rw [hwa]; exact hown.alloc _
      have HST := Lib.hid hst
      have HBD := Lib.hid hbd
      have HPO := Lib.hid hpo
      have HNE := Lib.hid hne
      have HHD := Lib.hid hhd
      have HD1 := Lib.hid hd1
      have HBA := Lib.hid hba
      have HXA := Lib.hid hxa
      have HWA := Lib.hid hwa
      have HOA := Lib.hid howna
      have HLT := Lib.hid (fun k (hk : u4.ownBlock = some k) => (hown.lt k hk).2)
      clear hst hbd hpo hne hhd hd1 hba hxa hwa howna hc1 hm'
      by_cases hk : m < 1 ∨ 3 < m
      · have HQ := Lib.hid (show R = (60, []) from by
          have hq : editP (l.drop b) = (60, Edit.zero, 0) := by rw [editP, HHD.out, if_neg (by omega), if_neg (by omega)]
          have := HBD.out (by rw [hq]; decide)
          rw [← HRJ.out, hq] at this; exact this)
        have HXA2 := Lib.hid (HWA.out ▸ HXA.out)
        clear hown
        by_cases hk1 : m < 1
        · go_wp2
          go_ret2
          exact parse_bad (by rw [← HR.out]; exact HQ.out) (by decide) HXA2.out
        · have hk3 : 3 < m := by omega
          go_wp2
          go_ret2
          exact parse_bad (by rw [← HR.out]; exact HQ.out) (by decide) HXA2.out
      · have hk1 : 1 ≤ m := by omega
        have hk3 : m ≤ 3 := by omega
        clear hk hown
        go_wp2_with (go_at_call 44; fail)
        rw [← HWA.out, show (b : Int) + 1 = ((b + 1 : Nat) : Int) from by omega]
        refine (rTake_any wa _ l (H.out.ext HXA.out) (b + 1) (by omega) (by omega)).mono ?_
        rintro e w1 ⟨rfl, hx1⟩
        have HB1 := Lib.hid (hx1.at_ HBA.out id)
        have HX1 := Lib.hid (HXA.out.trans hx1)
        have HO1 := Lib.hid (hx1.ownsRow HOA.out (fun _ _ e => e))
        have hsz1 : wr.heap.size < w1.heap.size := lt_of_heap HB1.out
        have HOLT := Lib.hid (fun k (hk : u4.ownBlock = some k) => show k < wr.heap.size from HLT.out k hk)
        clear hx1
        obtain ⟨E1, hE1⟩ : ∃ E, E = (numF (l.drop (b + 1))).1 := ⟨_, rfl⟩
        obtain ⟨N1, hN1⟩ : ∃ N, N = (numF (l.drop (b + 1))).2.1 := ⟨_, rfl⟩
        obtain ⟨K1, hK1⟩ : ∃ K, K = (numF (l.drop (b + 1))).2.2 := ⟨_, rfl⟩
        rw [← hE1, ← hN1, ← hK1]
        have HENK := Lib.hid (And.intro hE1 (And.intro hN1 hK1))
        clear hE1 hN1 hK1
        obtain ⟨z0, z1, z2, z3, -⟩ := lit3_cells _ _ _ HB1.out
        by_cases h2 : m = 2
        · have hk2 : ((m : Int) == 2) = true := by simp; omega
          have H2 := Lib.hid h2
          clear h2
          go_wp2_with (go_at_call 45; fail)
          rw [show (b : Int) + 1 = ((b + 1 : Nat) : Int) from by omega]
          refine (rTakeText_any w1 _ l (H.out.ext HX1.out) (b + 1) (by omega) (by omega)).mono ?_
          rintro e w2 ⟨rfl, hx2⟩
          have HB2 := Lib.hid (hx2.at_ HB1.out id)
          have HX2 := Lib.hid (HX1.out.trans hx2)
          have HO2 := Lib.hid (hx2.ownsRow HO1.out (fun _ _ e => e))
          clear hx2 z0 z1 z2 z3
          obtain ⟨E, hE⟩ : ∃ E, E = (textF (l.drop (b + 1))).1 := ⟨_, rfl⟩
          obtain ⟨s, hs⟩ : ∃ s, s = (textF (l.drop (b + 1))).2.1 := ⟨_, rfl⟩
          obtain ⟨K, hK⟩ : ∃ K, K = (textF (l.drop (b + 1))).2.2 := ⟨_, rfl⟩
          have hQ : editP (l.drop b) = if E = 0 then (if s = [] then (2, Edit.zero, 0) else (0, ⟨2, 0, s⟩, 1 + K)) else (E, Edit.zero, 0) := by
            rw [editP, HHD.out, HD1.out, if_pos H2.out, hE, hs, hK]
          rw [← hE, ← hs, ← hK]
          have HQ := Lib.hid hQ
          have hb3 : (w2.setCell ⟨wr.heap.size, 2, none⟩ (str s)).heap[wr.heap.size]? = some (.cells #[.int .u8 m, .int .i64 0, str s] 72 (0, 0)) := setAt HB2.out
          have hx3 : Ext w (w2.setCell ⟨wr.heap.size, 2, none⟩ (str s)) := HX2.out.setCell (p := ⟨wr.heap.size, 2, none⟩) (fun h => by dsimp only at h; omega) _
          have ho3 : (w2.setCell ⟨wr.heap.size, 2, none⟩ (str s)).ownsRow w.heap.size 72 3 u4 dn.length (editCells dn) := (Upd.own w2 wr.heap.size 2 (str s)).ownsRow HO2.out (fun k hk e => by unfold At at e; have := HOLT.out k hk; omega)
          have HB3 := Lib.hid hb3
          have HX3' := Lib.hid hx3
          have HO3' := Lib.hid ho3
          obtain ⟨z0, z1, z2, z3, z4⟩ := lit3_cells _ _ _ HB2.out
          have z3 := z3 2
          obtain ⟨y0, y1, y2, -, y4⟩ := lit3_cells _ _ _ HB3.out
          clear hQ hE hs hK hb3 hx3 ho3
          by_cases h0 : E = 0
          · subst h0
            go_wp2_with (go_at_call 67; fail)
            refine (reditRight_any _ ⟨m, 0, s⟩ (by dsimp only; omega)).mono ?_
            rintro e w3 ⟨rfl, hx3⟩
            have HB4 := Lib.hid (hx3.at_ HB3.out id)
            have HX3 := Lib.hid (HX3'.out.trans hx3)
            have HO3 := Lib.hid (hx3.ownsRow HO3'.out (fun _ _ e => e))
            have hsz3 := lt_of_heap HB4.out
            clear hx3 y0 y1 y2 y4 z0 z1 z2 z3 z4
            rw [show editRight ⟨(m : Int), 0, s⟩ = !s.isEmpty from by rw [H2.out]; exact editRight_text s]
            by_cases hs : s = []
            · have HR2 := Lib.hid (show R = (2, []) from by
                have hq : editP (l.drop b) = (2, Edit.zero, 0) := by rw [HQ.out]; simp [hs]
                have := HBD.out (by rw [hq]; decide)
                rw [← HRJ.out, hq] at this; exact this)
              rw [show (!s.isEmpty) = false from by rw [hs]; rfl]
              clear hs
              go_wp2
              go_ret2
              exact parse_bad (by rw [← HR.out]; exact HR2.out) (by decide) HX3.out
            · have hq : editP (l.drop b) = (0, ⟨2, 0, s⟩, 1 + K) := by rw [HQ.out]; simp [hs]
              have hst := HST.out (by rw [hq])
              have hpo := HPO.out (by rw [hq])
              rw [← HRJ.out, hq, List.drop_drop] at hst
              rw [hq] at hpo
              have hkl := hpo.2.2.2.2.1
              rw [List.length_drop] at hkl
              dsimp only at hst hkl
              have HSTEP := Lib.hid (show R = editsJoin (dn ++ [⟨m, 0, s⟩]) (editsP f (l.drop (b + (1 + K)))) from by rw [hst, H2.out]; rfl)
              rw [show (!s.isEmpty) = true from by cases s with | nil => exact absurd rfl hs | cons c t => rfl]
              obtain ⟨q0, q1, q2, -, q4⟩ := lit3_cells _ _ _ HB4.out
              clear hs hq hst hpo
              go_wp2_with (at_builtin; go_must (refine wpList_append_row rfl _ _ _ rfl Tryd.reditsT rfl (HO3.out.alloc _) rfl (row_new _ _ _ 1 _ (by decide) (by simp)) rfl (edit_one ⟨m, 0, s⟩) ?c3 ?c4 ?c5 ?_))
              case c3 => unfold maxLen; omega
              case c4 => omega
              case c5 => first | omega | (simp; omega)
              intro v' w4 hown4 hg _
              have hx4 := (HX3.out.alloc _).grown hg (fun j hj h => by have := (HO3.out.lt j hj).1; omega)
              have HX4 := Lib.hid hx4
              clear hx4 hg
              go_wp2
              go_roundw
              case rel => exact ⟨b + (1 + K), f, dn ++ [⟨m, 0, s⟩], by omega, by omega, by simp; omega, by congr 1; omega, HSTEP.out, HX4.out, by rw [List.length_append, editCells_snoc]; exact hown4⟩
              case measure => simp [intOf]; omega
          · have hb0 : (E != 0) = true := by simpa using h0
            have HR2 := Lib.hid (show R = (E, []) from by
              have hq : editP (l.drop b) = (E, Edit.zero, 0) := by rw [HQ.out]; simp [h0]
              have := HBD.out (by rw [hq]; exact h0)
              rw [← HRJ.out, hq] at this; exact this)
            have H0 := Lib.hid h0
            clear h0 y0 y1 y2 y4
            go_wp2
            go_ret2
            exact parse_bad (by rw [← HR.out]; exact HR2.out) H0.out HX3'.out
        · have hk2 : ((m : Int) == 2) = false := by simp; omega
          have h13 : m = 1 ∨ m = 3 := by omega
          have hQ : editP (l.drop b) = if E1 = 0 then (if N1 = 0 ∨ 2147483647 < N1 then (2, Edit.zero, 0) else (0, ⟨m, N1, []⟩, 1 + K1)) else (E1, Edit.zero, 0) := by
            rw [editP, HHD.out, HD1.out, if_neg h2, if_pos h13, HENK.out.1, HENK.out.2.1, HENK.out.2.2]
          have hok : E1 = 0 → N1 < 18446744073709551616 := fun h => by rw [HENK.out.2.1]; exact (numF_ok (by rw [← HENK.out.1]; exact h)).1
          have hbad : E1 ≠ 0 → N1 = 0 := fun h => by rw [HENK.out.2.1, numF_bad (by rw [← HENK.out.1]; exact h)]
          have hN64 : N1 < 18446744073709551616 := by
            by_cases h : E1 = 0
            · exact hok h
            · rw [hbad h]; decide
          have HQ := Lib.hid hQ
          have HM13 := Lib.hid h13
          clear hQ hok hbad h2 h13
          by_cases h0 : E1 = 0
          · subst h0
            by_cases hbig : N1 ≤ 2147483648
            · have hb3 : (w1.setCell ⟨wr.heap.size, 1, none⟩ (.int .i64 (N1 : Int))).heap[wr.heap.size]? = some (.cells #[.int .u8 m, .int .i64 (N1 : Int), str []] 72 (0, 0)) := setAt HB1.out
              have hx3 : Ext w (w1.setCell ⟨wr.heap.size, 1, none⟩ (.int .i64 (N1 : Int))) := HX1.out.setCell (p := ⟨wr.heap.size, 1, none⟩) (fun h => by dsimp only at h; omega) _
              have ho3 : (w1.setCell ⟨wr.heap.size, 1, none⟩ (.int .i64 (N1 : Int))).ownsRow w.heap.size 72 3 u4 dn.length (editCells dn) := (Upd.own w1 wr.heap.size 1 (.int .i64 (N1 : Int))).ownsRow HO1.out (fun k hk e => by unfold At at e; have := HOLT.out k hk; omega)
              have HB3 := Lib.hid hb3
              have HX3' := Lib.hid hx3
              have HO3' := Lib.hid ho3
              have z3 := z3 1
              obtain ⟨y0, y1, y2, -, y4⟩ := lit3_cells _ _ _ HB3.out
              clear hb3 hx3 ho3
              go_wp2_with (go_at_call 67; fail)
              refine (reditRight_any _ ⟨m, (N1 : Int), []⟩ (by dsimp only; omega)).mono ?_
              rintro e w3 ⟨rfl, hx3⟩
              have HB4 := Lib.hid (hx3.at_ HB3.out id)
              have HX3 := Lib.hid (HX3'.out.trans hx3)
              have HO3 := Lib.hid (hx3.ownsRow HO3'.out (fun _ _ e => e))
              have hsz3 := lt_of_heap HB4.out
              clear hx3 y0 y1 y2 y4 z0 z1 z2 z3
              rw [show editRight ⟨(m : Int), (N1 : Int), []⟩ = (decide (0 < ((N1 : Int) : Int)) && decide (((N1 : Int) : Int) ≤ 2147483647)) from editRight_num (by have := HM13.out; omega) _]
              by_cases hN : N1 = 0 ∨ 2147483647 < N1
              · have HR2 := Lib.hid (show R = (2, []) from by
                  have hq : editP (l.drop b) = (2, Edit.zero, 0) := by rw [HQ.out]; simp; omega
                  have := HBD.out (by rw [hq]; decide)
                  rw [← HRJ.out, hq] at this; exact this)
                rw [show (decide (0 < (N1 : Int)) && decide ((N1 : Int) ≤ 2147483647)) = false from by simp; omega]
                clear hN hbig
                go_wp2
                go_ret2
                exact parse_bad (by rw [← HR.out]; exact HR2.out) (by decide) HX3.out
              · have hq : editP (l.drop b) = (0, ⟨m, N1, []⟩, 1 + K1) := by rw [HQ.out]; simp; omega
                have hst := HST.out (by rw [hq])
                have hpo := HPO.out (by rw [hq])
                rw [← HRJ.out, hq, List.drop_drop] at hst
                rw [hq] at hpo
                have hkl := hpo.2.2.2.2.1
                rw [List.length_drop] at hkl
                dsimp only at hst hkl
                have HSTEP := Lib.hid hst
                rw [show (decide (0 < (N1 : Int)) && decide ((N1 : Int) ≤ 2147483647)) = true from by simp; omega]
                obtain ⟨q0, q1, q2, -, q4⟩ := lit3_cells _ _ _ HB4.out
                clear hN hbig hq hst hpo
                go_wp2_with (at_builtin; go_must (refine wpList_append_row rfl _ _ _ rfl Tryd.reditsT rfl (HO3.out.alloc _) rfl (row_new _ _ _ 1 _ (by decide) (by simp)) rfl (edit_one ⟨m, N1, []⟩) ?c3 ?c4 ?c5 ?_))
                case c3 => unfold maxLen; omega
                case c4 => omega
                case c5 => first | omega | (simp; omega)
                intro v' w4 hown4 hg _
                have hx4 := (HX3.out.alloc _).grown hg (fun j hj h => by have := (HO3.out.lt j hj).1; omega)
                have HX4 := Lib.hid hx4
                clear hx4 hg
                go_wp2
                go_roundw
                case rel => exact ⟨b + (1 + K1), f, dn ++ [⟨m, N1, []⟩], by omega, by omega, by simp; omega, by congr 1; omega, HSTEP.out, HX4.out, by rw [List.length_append, editCells_snoc]; exact hown4⟩
                case measure => simp [intOf]; omega
            · have hb3 : (w1.setCell ⟨wr.heap.size, 1, none⟩ (.int .i64 2147483648)).heap[wr.heap.size]? = some (.cells #[.int .u8 m, .int .i64 2147483648, str []] 72 (0, 0)) := setAt HB1.out
              have hx3 : Ext w (w1.setCell ⟨wr.heap.size, 1, none⟩ (.int .i64 2147483648)) := HX1.out.setCell (p := ⟨wr.heap.size, 1, none⟩) (fun h => by dsimp only at h; omega) _
              have ho3 : (w1.setCell ⟨wr.heap.size, 1, none⟩ (.int .i64 2147483648)).ownsRow w.heap.size 72 3 u4 dn.length (editCells dn) := (Upd.own w1 wr.heap.size 1 (.int .i64 2147483648)).ownsRow HO1.out (fun k hk e => by unfold At at e; have := HOLT.out k hk; omega)
              have HB3 := Lib.hid hb3
              have HX3' := Lib.hid hx3
              have HO3' := Lib.hid ho3
              have z3 := z3 1
              obtain ⟨y0, y1, y2, -, y4⟩ := lit3_cells _ _ _ HB3.out
              clear hb3 hx3 ho3
              go_wp2_with (go_at_call 67; fail)
              refine (reditRight_any _ ⟨m, 2147483648, []⟩ (by dsimp only; omega)).mono ?_
              rintro e w3 ⟨rfl, hx3⟩
              have HB4 := Lib.hid (hx3.at_ HB3.out id)
              have HX3 := Lib.hid (HX3'.out.trans hx3)
              have HO3 := Lib.hid (hx3.ownsRow HO3'.out (fun _ _ e => e))
              have hsz3 := lt_of_heap HB4.out
              clear hx3 y0 y1 y2 y4 z0 z1 z2 z3
              rw [show editRight ⟨(m : Int), 2147483648, []⟩ = (decide (0 < (2147483648 : Int)) && decide ((2147483648 : Int) ≤ 2147483647)) from editRight_num (by have := HM13.out; omega) _]
              have HR2 := Lib.hid (show R = (2, []) from by
                have hq : editP (l.drop b) = (2, Edit.zero, 0) := by rw [HQ.out]; simp; omega
                have := HBD.out (by rw [hq]; decide)
                rw [← HRJ.out, hq] at this; exact this)
              rw [show (decide ((0 : Int) < 2147483648) && decide ((2147483648 : Int) ≤ 2147483647)) = false from by decide]
              go_wp2
              go_ret2
              exact parse_bad (by rw [← HR.out]; exact HR2.out) (by decide) HX3.out
          · have hb0 : (E1 != 0) = true := by simpa using h0
            have HR2 := Lib.hid (show R = (E1, []) from by
              have hq : editP (l.drop b) = (E1, Edit.zero, 0) := by rw [HQ.out]; simp [h0]
              have := HBD.out (by rw [hq]; exact h0)
              rw [← HRJ.out, hq] at this; exact this)
            have hN0 : N1 = 0 := by rw [HENK.out.2.1, numF_bad (by rw [← HENK.out.1]; exact h0)]
            have HX3' := Lib.hid (show Ext w (w1.setCell ⟨wr.heap.size, 1, none⟩ (.int .i64 (N1 : Int))) from HX1.out.setCell (p := ⟨wr.heap.size, 1, none⟩) (fun h => by dsimp only at h; omega) _)
            have hsm : (N1 : Int) ≤ 2147483648 := by omega
            have H0 := Lib.hid h0
            have z3 := z3 1
            clear h0 hN0
            go_wp2
            go_ret2
            exact parse_bad (by rw [← HR.out]; exact HR2.out) H0.out HX3'.out
    · have hbl : b = l.length := by omega
      go_wp2
      go_ret2
      have := HRJ.out
      rw [List.drop_eq_nil_of_le (by omega), editsJoin_end, HR.out] at this
      unfold ParsePost
      rw [this]
      exact ⟨_, rfl, fun _ => hown, fun h => absurd rfl h, HX.out⟩
end Go.Proofs.YtlhpcgmbbeihiaaDoor
