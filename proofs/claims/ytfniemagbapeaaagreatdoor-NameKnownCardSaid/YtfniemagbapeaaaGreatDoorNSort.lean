/-
  CONTRACT of name.Sort: the Names of texts, in order, in a row of its own. Conditions: texts of at most a million bytes, at most a million of them; the library's variables lie as they are laid.
-/
import Derived.Test.YtfniemagbapeaaaGreatDoorNRow
namespace Go.Proofs.YtfniemagbapeaaaGreatDoor
open Go.RowKit Go.Sort

def namesF (l : List (List UInt8)) : List Nm := l.filterMap fun s => if (parseF s).2 then some (parseF s).1 else none
theorem namesF_snoc (l : List (List UInt8)) (s : List UInt8) : namesF (l ++ [s]) = namesF l ++ (if (parseF s).2 then [(parseF s).1] else []) := by
  unfold namesF
  rw [List.filterMap_append]
  congr 1
  by_cases h : (parseF s).2 = true <;> simp [h]
theorem namesF_length (l : List (List UInt8)) : (namesF l).length ≤ l.length := List.length_filterMap_le _ _
def sortN (l : List Nm) : List Nm := l.mergeSort fun x y => !(ltN y x)
theorem sortN_length (l : List Nm) : (sortN l).length = l.length := List.length_mergeSort l
theorem ltN_iff (x y : Nm) : ltN x y = true ↔ orF (cmps x y) < 0 := by unfold ltN ltOf; simp
theorem orF_lt : ∀ {a b c : List Int}, a.length = b.length → b.length = c.length → (∀ i, (a.getD i 0 = 0 ∧ b.getD i 0 = 0 → c.getD i 0 = 0) ∧ (a.getD i 0 = 0 ∧ b.getD i 0 < 0 → c.getD i 0 < 0) ∧ (a.getD i 0 < 0 ∧ b.getD i 0 = 0 → c.getD i 0 < 0) ∧ (a.getD i 0 < 0 ∧ b.getD i 0 < 0 → c.getD i 0 < 0)) → orF a ≤ 0 → orF b ≤ 0 → (orF a < 0 ∨ orF b < 0) → orF c < 0
  | [], [], _, _, _, _, _, _, h => by simp [orF] at h
  | x :: a, y :: b, z :: c, h1, h2, h, ha, hb, hc => by
    have h0 := h 0
    simp only [List.getD_cons_zero] at h0
    have hr : ∀ i, _ := fun i => h (i + 1)
    simp only [List.getD_cons_succ] at hr
    unfold orF at ha hb hc ⊢
    by_cases hx : x = 0
    · by_cases hy : y = 0
      · rw [if_pos hx] at ha hc; rw [if_pos hy] at hb hc
        rw [if_pos (h0.1 ⟨hx, hy⟩)]
        exact orF_lt (by simpa using h1) (by simpa using h2) hr ha hb hc
      · rw [if_neg hy] at hb
        have := h0.2.1 ⟨hx, by omega⟩
        rw [if_neg (by omega)]; exact this
    · rw [if_neg hx] at ha
      by_cases hy : y = 0
      · have := h0.2.2.1 ⟨by omega, hy⟩
        rw [if_neg (by omega)]; exact this
      · rw [if_neg hy] at hb
        have := h0.2.2.2 ⟨by omega, by omega⟩
        rw [if_neg (by omega)]; exact this
theorem cmpN_lt {a b : Nat} : cmpN a b < 0 ↔ a < b := by
  unfold cmpN
  split
  · simp; omega
  · split
    · simp; omega
    · simp; omega
theorem cmps_trans (x y z : Nm) : ∀ i, ((cmps x y).getD i 0 = 0 ∧ (cmps y z).getD i 0 = 0 → (cmps x z).getD i 0 = 0) ∧ ((cmps x y).getD i 0 = 0 ∧ (cmps y z).getD i 0 < 0 → (cmps x z).getD i 0 < 0) ∧ ((cmps x y).getD i 0 < 0 ∧ (cmps y z).getD i 0 = 0 → (cmps x z).getD i 0 < 0) ∧ ((cmps x y).getD i 0 < 0 ∧ (cmps y z).getD i 0 < 0 → (cmps x z).getD i 0 < 0) := by
  intro i
  unfold cmps
  match i with
  | 0 | 1 | 2 | 3 | 4 | 5 => simp only [List.getD_cons_zero, List.getD_cons_succ, cmpN_zero, cmpN_lt]; omega
  | k + 6 => simp
theorem le_trans_N {x y z : Nm} (h1 : orF (cmps x y) ≤ 0) (h2 : orF (cmps y z) ≤ 0) : orF (cmps x z) ≤ 0 ∧ (orF (cmps x y) < 0 ∨ orF (cmps y z) < 0 → orF (cmps x z) < 0) := by
  have key := fun h => orF_lt (a := cmps x y) (b := cmps y z) (c := cmps x z) rfl rfl (cmps_trans x y z) h1 h2 h
  refine ⟨?_, key⟩
  by_cases h : orF (cmps x y) < 0 ∨ orF (cmps y z) < 0
  · exact Int.le_of_lt (key h)
  · have e1 : orF (cmps x y) = 0 := by omega
    have e2 : orF (cmps y z) = 0 := by omega
    rw [cmps_zero_iff] at e1 e2
    subst e1; subst e2
    rw [(cmps_zero_iff x x).2 rfl]; exact Int.le_refl _
theorem swoN : SWO (ltOf fun x y => orF (cmps x y)) where
  irrefl x := by
    show decide (orF (cmps x x) < 0) = false
    rw [(cmps_zero_iff x x).2 rfl]; rfl
  trans x y z h1 h2 := by
    unfold ltOf at *
    simp only [decide_eq_true_eq] at *
    exact (le_trans_N (Int.le_of_lt h1) (Int.le_of_lt h2)).2 (.inl h1)
  ntrans x y z h1 h2 := by
    unfold ltOf at *
    simp only [decide_eq_false_iff_not] at *
    have e1 := cmps_neg x y; have e2 := cmps_neg y z; have e3 := cmps_neg x z
    have := (le_trans_N (x := z) (y := y) (z := x) (by omega) (by omega)).1
    omega
theorem totN (x y : Nm) (h1 : (ltOf fun x y => orF (cmps x y)) x y = false) (h2 : (ltOf fun x y => orF (cmps x y)) y x = false) : x = y := by
  unfold ltOf at *
  simp only [decide_eq_false_iff_not] at *
  have e1 := cmps_neg x y
  exact (cmps_zero_iff x y).1 (by omega)
theorem owns_cases {w : World} {B n : Nat} {T : TypeId} {v : Value} {xs : List Value} (h : w.ownsRow B T 6 v n xs) : (n = 0 ∧ ∃ p cap, v = .slice p 0 cap) ∨ (0 < n ∧ ∃ g cap, v = .slice (some ⟨g, 0, none⟩) n cap) := by
  obtain ⟨-, ⟨h1, h2⟩ | ⟨g, cap, cur, e, -⟩⟩ := h
  · exact .inl ⟨h2, _, _, h1⟩
  · rcases Nat.eq_zero_or_pos n with h0 | h0
    · subst h0; exact .inl ⟨rfl, _, _, e⟩
    · exact .inr ⟨h0, g, cap, e⟩
theorem Tryz.vnamesT : SliceT Tryz.prog 58 63 6 48 := sliceT_of Tryz.underlying58 (by kernel_rfl) (by decide)
set_option maxRecDepth 100000 in
set_option maxHeartbeats 4000000 in
theorem nsort_any {S : Nat → Prop} (w : World) (v : Value) (l : List (List UInt8)) (hl : l.length ≤ 1000000) (hb : ∀ s ∈ l, s.length ≤ 1000000) (hr : Texts S w v l) (hE : Env w) :
    Calls Tryz.prog 27 #[v] w fun e w' => ∃ v', e = .returned v' ∧ w'.ownsRow w.heap.size 63 6 v' (namesF l).length (flatN (sortN (namesF l))) ∧ Ext w w' := by
  have G := Lib.hid hr
  obtain ⟨a, c, rfl, -, hm, -⟩ := hr
  have HE := Lib.hid hE
  have HLB := Lib.hid hb
  obtain ⟨B, hB⟩ : ∃ B, B = w.heap.size := ⟨_, rfl⟩
  have HB := Lib.hid hB
  have eg : ∀ args w, (callFunc 49 args).run Tryz.prog w = .ok (.enter 49 args) w := enters_of Tryz.func49 (by kernel_rfl) rfl
  have EG := Lib.hid eg
  rw [← hB]
  clear hE hb hB eg
  unfold maxLen at hm
  go_enter Tryz.func27, Tryz.ntmps27
  go_wp2
  go_loopw [3, 10] (fun v t wr => ∃ k : Nat, k ≤ l.length ∧ t = .int .i64 k ∧ wr.ownsRow B 63 6 v (namesF (l.take k)).length (flatN (namesF (l.take k))) ∧ Ext w wr) (fun _ t _ => l.length - (intOf t).toNat)
  case atStart => exact ⟨0, Nat.zero_le _, rfl, World.ownsRow_nil _ _ _ _, Upd.refl _ _⟩
  case round =>
    obtain ⟨k, hk, rfl, hown, hx⟩ := hrel
    have HX := Lib.hid hx
    have HOWN := Lib.hid hown
    by_cases hlt : k < l.length
    · obtain ⟨b1, o1, c1, e1, -, -, -, hq1⟩ := (G.out.ext hx).addr (by omega)
      cases e1
      have hc := texts_cell hq1 k hlt
      have hsl := HLB.out (l[k]) (List.getElem_mem hlt)
      have hsn : l.take (k + 1) = l.take k ++ [l[k]] := List.take_succ_eq_append_getElem hlt
      have hnf := namesF_snoc (l.take k) (l[k])
      rw [← hsn] at hnf
      have hcnt : (namesF (l.take k)).length ≤ 1000000 := Nat.le_trans (namesF_length _) (by simp; omega)
      obtain ⟨s, hs⟩ : ∃ s, s = l[k] := ⟨_, rfl⟩
      rw [← hs] at hc hsl hnf
      obtain ⟨x, hxx⟩ : ∃ x, x = (parseF s).1 := ⟨_, rfl⟩
      obtain ⟨ok, hok⟩ : ∃ o, o = (parseF s).2 := ⟨_, rfl⟩
      have hpp : parseF s = (x, ok) := by rw [hxx, hok]
      rw [← hxx, ← hok] at hnf
      obtain ⟨ns, hns⟩ : ∃ ns, ns = namesF (l.take k) := ⟨_, rfl⟩
      rw [← hns] at hnf hown hcnt
      have HOWN := Lib.hid hown
      have HNF := Lib.hid hnf
      have HPP := Lib.hid hpp
      have HSL := Lib.hid hsl
      obtain ⟨p0, p1, p2, p3, p4, p5, hp⟩ : ∃ a b c d e f, nmCells x = #[.int .u8 a, .int .u64 b, .int .u64 c, .int .u64 d, .int .u64 e, .int .u64 f] := ⟨_, _, _, _, _, _, rfl⟩
      have HP := Lib.hid hp
      obtain ⟨a3, n3, c3, rfl⟩ := ownsForm hown
      clear hx hq1 hsn hsl hs hxx hok hpp hnf hns hown hp
      go_wp2_with (go_at_call 35; fail)
      refine (parse_lit _ s x ok HSL.out (HE.out.ext HX.out) HPP.out).mono ?_
      rintro e w5 ⟨rfl, hx5⟩
      have HX5 := Lib.hid (HX.out.trans hx5)
      have hown5 := (hx5.ownsRow HOWN.out (fun _ _ e => e)).alloc (.cells (nmCells x) 63)
      rw [HP.out] at hown5 ⊢
      clear hx5 hc
      cases ok with
      | false =>
        have HO5 := Lib.hid hown5
        clear hown5
        go_wp2
        go_roundw
        case rel =>
          refine ⟨k + 1, by omega, by go_num, ?_, HX5.out.alloc _⟩
          rw [HNF.out]
          simpa using HO5.out
        case measure => simp [intOf]; omega
      | true =>
        go_wp2_with (at_builtin; go_must (refine wpList_append_row rfl _ _ _ rfl Tryz.vnamesT rfl (hown5.alloc _) rfl (row_new _ _ _ 1 _ (by decide) (by simp)) rfl (by intro u hu; simp at hu; rcases hu with rfl | rfl | rfl | rfl | rfl | rfl <;> rfl) ?c3 ?c4 ?c5 ?_))
        case c3 => unfold maxLen; omega
        case c4 => omega
        case c5 => have := HX5.out.size; have := HB.out; first | omega | (simp; omega)
        intro v' w6 hown6 hg _
        have hx6 := ((HX5.out.alloc _).alloc _).grown hg (fun j hj h => by have := (hown5.lt j hj).1; have := HB.out; omega)
        have HX6 := Lib.hid hx6
        have HO6 := Lib.hid hown6
        clear hx6 hg hown6 hown5
        go_wp2
        go_roundw
        case rel =>
          refine ⟨k + 1, by omega, by go_num, ?_, HX6.out⟩
          rw [HNF.out]
          simp only [if_true, List.length_append, flatN_append, flatN_one, List.length_singleton]
          unfold encN
          rw [HP.out]
          exact HO6.out
        case measure => simp [intOf]; omega
    · have hkl : k = l.length := by omega
      rw [hkl, List.take_length] at hown
      obtain ⟨ns, hns⟩ : ∃ ns, ns = namesF l := ⟨_, rfl⟩
      have hcnt : ns.length ≤ 1000000 := by rw [hns]; exact Nat.le_trans (namesF_length _) hl
      rw [← hns] at hown
      have HNS := Lib.hid hns
      have hcon0 := fun p cap fv W => AnyF.slices_SortFunc_none (P := Tryz.prog) (ρ := Tryz.sortNm_ren) Tryz.sortNm p cap fv W
      change ∀ p cap fv W, Calls Tryz.prog 48 _ _ _ at hcon0
      have HC0 := Lib.hid hcon0
      rcases owns_cases hown with ⟨h0, p3, c3, rfl⟩ | ⟨hn, g, cap, rfl⟩
      · have HOWN := Lib.hid hown
        have H0 := Lib.hid (List.eq_nil_of_length_eq_zero h0)
        have HKL := Lib.hid hkl
        clear hx hkl hown hns hcon0 h0
        go_wp2_with (go_at_call 48; fail)
        refine (HC0.out _ _ _ _).mono ?_
        rintro e w5 ⟨rfl, rfl⟩
        go_wp2
        go_ret
        refine ⟨_, rfl, ?_, HX.out⟩
        rw [← HNS.out]
        have h := HOWN.out
        rw [H0.out] at h ⊢
        rw [show sortN [] = [] from by simp [sortN]]
        exact h
      · obtain ⟨hh, hlt2⟩ := own_holds hown rfl
        have hcon : Calls Tryz.prog 48 #[.slice (some ⟨g, 0, none⟩) ns.length cap, .func (.func 49) #[] #[]] wr fun e w' => e = .returned (.tuple #[]) ∧ ∃ n os, w' = sortWorldK encN 6 wr g 0 n (sortN ns).toArray os :=
          AnyQ.slices_SortFunc_total (P := Tryz.prog) (ρ := Tryz.sortNm_ren) Tryz.sortNm 6 Tryz.isAgg63 Tryz.sizeOf63 encN encN_length encN_one (fun x y => orF (cmps x y)) swoN 49 #[] g 0 cap ns.toArray wr EG.out (cmpLaysN g 0 _ wr) hh hlt2 (by simp; omega) totN
        have HCON := Lib.hid hcon
        have HOWN := Lib.hid hown
        have HKL := Lib.hid hkl
        obtain ⟨n3, hn3⟩ : ∃ n, n = ns.length := ⟨_, rfl⟩
        rw [← hn3] at HCON HOWN hn ⊢
        have HN3 := Lib.hid hn3
        clear hx hkl hown hns hcon0 hh hlt2 hcon hcnt hn3
        go_wp2_with (go_at_call 48; fail)
        refine HCON.out.mono ?_
        rintro e w5 ⟨rfl, m, os, hw5⟩
        have ho := own_sorted (m := m) (os := os) (ys := sortN ns) HOWN.out (by rw [sortN_length]; exact HN3.out.symm)
        rw [← hw5] at ho
        have hx5 : Ext w w5 := HX.out.step ho.2 (fun i hi e => by
          obtain ⟨-, ⟨-, h2⟩ | ⟨g', cap', cur, e1, hB', -⟩⟩ := HOWN.out
          · omega
          · cases e1; unfold At at e; have := HB.out; omega)
        have HO5 := Lib.hid ho.1
        have HX5 := Lib.hid hx5
        clear ho hw5 hx5
        go_wp2
        go_ret
        refine ⟨_, rfl, ?_, HX5.out⟩
        rw [← HNS.out, ← HN3.out]
        exact HO5.out
end Go.Proofs.YtfniemagbapeaaaGreatDoor
