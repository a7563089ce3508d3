/-
  CONTRACT of op.Same: any row of answers.
-/
import Derived.Test.YtlhpcgmbbeihiaaDoorASame
namespace Go.Proofs.YtlhpcgmbbeihiaaDoor
open Go.RowKit

/-- A row of answers, each with its names' slice. -/
abbrev ansRow (l : List (Ans × Value)) : List Value := (l.map fun p => (ansCells p.1 p.2).toList).flatten
theorem ans_cells {l : List (Ans × Value)} {w : World} {b o : Nat} (h : ∀ j u, (ansRow l)[j]? = some u → w.cell? ⟨b, o + j, none⟩ = some u) (k : Nat) (hk : k < l.length) :
    w.cell? ⟨b, o + k * 4, none⟩ = some (.int .i64 l[k].1.err) ∧ w.cell? ⟨b, o + k * 4 + 1, none⟩ = some (.int .u64 l[k].1.n) ∧ w.cell? ⟨b, o + k * 4 + 2, none⟩ = some (str l[k].1.text) ∧ w.cell? ⟨b, o + k * 4 + 3, none⟩ = some l[k].2 := by
  have hg : ∀ j, j < 4 → (ansRow l)[k * 4 + j]? = (ansCells l[k].1 l[k].2).toList[j]? := by
    clear h
    induction l generalizing k with
    | nil => simp at hk
    | cons e l ih =>
      intro j hj
      cases k with
      | zero => simp only [ansRow, List.map_cons, List.flatten_cons, Nat.zero_mul, Nat.zero_add, List.getElem_cons_zero]; exact List.getElem?_append_left (by simpa [ansCells] using hj)
      | succ k =>
        have := ih k (by simpa using hk) j hj
        simp only [ansRow, List.map_cons, List.flatten_cons, List.getElem_cons_succ]
        rw [List.getElem?_append_right (by simp [ansCells]; omega)]
        rw [show (k + 1) * 4 + j - (ansCells e.1 e.2).toList.length = k * 4 + j from by simp [ansCells]; omega]
        exact this
  refine ⟨h _ _ ?_, ?_, ?_, ?_⟩
  · have := hg 0 (by decide); simpa [ansCells] using this
  · rw [Nat.add_assoc]; exact h _ _ (by have := hg 1 (by decide); simpa [ansCells] using this)
  · rw [Nat.add_assoc]; exact h _ _ (by have := hg 2 (by decide); simpa [ansCells] using this)
  · rw [Nat.add_assoc]; exact h _ _ (by have := hg 3 (by decide); simpa [ansCells] using this)
/-- All as the first: the first k. -/
def sameTo (l : List Ans) (k : Nat) : Bool := (List.range k).all fun i => eqB l[i]? l[0]?
theorem sameTo_succ {l : List Ans} {k : Nat} (h : k < l.length) : sameTo l (k + 1) = (sameTo l k && eqB l[k] l[0]) := by
  unfold sameTo
  rw [List.range_succ, List.all_append]
  congr 1
  simp only [List.all_cons, List.all_nil, Bool.and_true]
  rw [List.getElem?_eq_getElem h, List.getElem?_eq_getElem (by omega)]
  simp [eqB]
theorem sameTo_ne {l : List Ans} {k : Nat} (h : k < l.length) (hn : ¬ l[k] = l[0]) : sameTo l l.length = false := by
  unfold sameTo
  rw [List.all_eq_false]
  refine ⟨k, List.mem_range.2 h, ?_⟩
  rw [List.getElem?_eq_getElem h, List.getElem?_eq_getElem (by omega)]
  simp [eqB, hn]
theorem not_true' : (!true) = false := rfl

set_option maxRecDepth 100000 in
set_option maxHeartbeats 2000000 in
theorem opSame_any {S1 S2 : Nat → Prop} (w : World) (l : List (Ans × Value)) (v : Value) (h : Row S1 w v l.length (ansRow l)) (hn : ∀ p ∈ l, Texts S2 w p.2 p.1.names) :
    Calls Tryd.prog 28 #[v] w fun e w' => e = .returned (.bool (sameTo (l.map (·.1)) l.length)) ∧ Ext w w' := by
  have g := h.addr
  obtain ⟨a, c, rfl, hn1, hm1, -⟩ := h
  unfold maxLen at hm1
  have G := Lib.hid g
  have HN := Lib.hid hn
  clear g hn
  go_enter Tryd.func28, Tryd.ntmps28
  go_wp2
  go_loopw [8] (fun i wr => ∃ k : Nat, k ≤ l.length ∧ i = .int .i64 k ∧ sameTo (l.map (·.1)) k = true ∧ Ext w wr)
    (fun i _ => l.length - (intOf i).toNat)
  case atStart => exact ⟨0, Nat.zero_le _, rfl, rfl, Upd.refl _ _⟩
  case round =>
    obtain ⟨k, hk, rfl, ht, hx⟩ := hrel
    have HT := Lib.hid ht
    clear ht
    by_cases hlt : k < l.length
    · have h0 : 0 < l.length := by omega
      obtain ⟨b1, o1, c1', e1, -, -, -, hc1⟩ := G.out h0
      cases e1
      have hs1 : sameTo (l.map (·.1)) (k + 1) = (sameTo (l.map (·.1)) k && eqB l[k].1 l[0].1) := by
        have := sameTo_succ (l := l.map (·.1)) (k := k) (by rw [List.length_map]; exact hlt)
        simpa using this
      have hs2 : ¬ l[k].1 = l[0].1 → sameTo (l.map (·.1)) l.length = false := fun hne => by
        have := sameTo_ne (l := l.map (·.1)) (k := k) (by rw [List.length_map]; exact hlt) (by simpa using hne)
        simpa using this
      have t1 := (HN.out l[k] (List.getElem_mem hlt)).ext hx
      have t2 := (HN.out l[0] (List.getElem_mem h0)).ext hx
      obtain ⟨p1, p2, p3, p4⟩ := ans_cells hc1 k hlt
      obtain ⟨q1, q2, q3, q4⟩ := ans_cells hc1 0 h0
      obtain ⟨⟨⟨k1, d1, t1', e1⟩, v1⟩, hx1⟩ : ∃ x, x = l[k] := ⟨_, rfl⟩
      obtain ⟨⟨⟨k2, d2, t2', e2⟩, v2⟩, hx2⟩ : ∃ x, x = l[0] := ⟨_, rfl⟩
      rw [← hx1] at p1 p2 p3 p4 t1 hs1 hs2
      rw [← hx2] at q1 q2 q3 q4 t2 hs1 hs2
      rw [Nat.zero_mul, Nat.add_zero] at q1 q2 q3 q4
      have t1c := t1
      have t2c := t2
      obtain ⟨a1, z1, ev1, -, -, -⟩ := t1c
      obtain ⟨a2, z2, ev2, -, -, -⟩ := t2c
      dsimp only at ev1 ev2
      subst ev1
      subst ev2
      have hx3 := (hx.alloc (.cells #[.int .i64 k1, .int .u64 d1, str t1', .slice a1 e1.length z1] 53)).alloc (.cells #[.int .i64 k2, .int .u64 d2, str t2', .slice a2 e2.length z2] 53)
      obtain ⟨hb1, hb2, hxx⟩ := twoBoxes wr (.cells #[.int .i64 k1, .int .u64 d1, str t1', .slice a1 e1.length z1] 53) (.cells #[.int .i64 k2, .int .u64 d2, str t2', .slice a2 e2.length z2] 53)
      have HX1 := Lib.hid hx1
      have HX2 := Lib.hid hx2
      have HS1 := Lib.hid hs1
      have HS2 := Lib.hid hs2
      have hbw : b1 < wr.heap.size := World.block_lt_of_cell? wr ⟨b1, o1 + k * 4, none⟩ (hx.cell p1 id)
      have P1 := Lib.hid (hx.cell p1 id)
      have P2 := Lib.hid (hx.cell p2 id)
      have P3 := Lib.hid (hx.cell p3 id)
      have P4 := Lib.hid (hx.cell p4 id)
      have Q1 := Lib.hid (hx.cell q1 id)
      have Q2 := Lib.hid (hx.cell q2 id)
      have Q3 := Lib.hid (hx.cell q3 id)
      have Q4 := Lib.hid (hx.cell q4 id)
      have T1 := Lib.hid (t1.ext hxx)
      have T2 := Lib.hid (t2.ext hxx)
      have HX3 := Lib.hid hx3
      clear hc1 hx1 hx2 hs1 hs2 t1 t2 hb1 hb2 hxx p1 p2 p3 p4 q1 q2 q3 q4 hx3
      have p1 := P1.out
      have p2 := P2.out
      have p3 := P3.out
      have p4 := P4.out
      have q1 := Q1.out
      have q2 := Q2.out
      have q3 := Q3.out
      have q4 := Q4.out
      by_cases hk1 : k1 = k2
      · subst hk1
        by_cases hd1 : d1 = d2
        · subst hd1
          by_cases htt : t1' = t2'
          · subst htt
            go_wp2_with (go_at_call 58; fail)
            refine (eqTexts_any _ _ _ _ _ T1.out T2.out).mono ?_
            rintro e w1 ⟨rfl, hx5⟩
            have HX5 := Lib.hid (HX3.out.trans hx5)
            clear hx5 p1 p2 p3 p4 q1 q2 q3 q4
            dsimp only
            by_cases hee : e1 = e2
            · subst hee
              rw [eqB_self]
              go_wp2
              go_roundw
              case rel => exact ⟨k + 1, by omega, by go_num, by rw [HS1.out, HT.out, eqB_self]; rfl, HX5.out⟩
              case measure => simp [intOf]; omega
            · rw [eqB_ne hee]
              have HE := Lib.hid hee
              clear hee
              go_wp2
              go_ret
              exact ⟨by rw [HS2.out (fun e => HE.out (congrArg Ans.names e))]; rfl, HX5.out⟩
          · have HE := Lib.hid htt
            have hq := str_ne htt
            have hq2 := beq_ne' htt
            clear htt
            go_wp2
            go_ret
            exact ⟨by rw [HS2.out (fun e => HE.out (congrArg Ans.text e))]; rfl, HX3.out⟩
        · have HE := Lib.hid hd1
          have hq2 := beq_ne' hd1
          clear hd1
          go_wp2
          go_ret
          exact ⟨by rw [HS2.out (fun e => HE.out (congrArg Ans.n e))]; rfl, HX3.out⟩
      · have HE := Lib.hid hk1
        have hq2 := beq_ne' hk1
        clear hk1
        go_wp2
        go_ret
        exact ⟨by rw [HS2.out (fun e => HE.out (congrArg Ans.err e))]; rfl, HX3.out⟩
    · have hkl : k = l.length := by omega
      have HKL := Lib.hid hkl
      clear hkl
      go_wp2
      go_ret
      refine ⟨?_, hx⟩
      rw [← HKL.out, HT.out]; rfl
end Go.Proofs.YtlhpcgmbbeihiaaDoor
