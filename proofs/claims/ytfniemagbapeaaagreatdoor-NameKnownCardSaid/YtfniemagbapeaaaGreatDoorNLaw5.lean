/-
  CONTRACT of the law NameSorts. Condition: the library's variables lie as they are laid.
-/
import Derived.Test.YtfniemagbapeaaaGreatDoorNRSort
import Derived.Test.YtfniemagbapeaaaGreatDoorNLaw2
namespace Go.Proofs.YtfniemagbapeaaaGreatDoor
open Go.RowKit Go.Sort

theorem wp_neq_rnm {op : Oper} {a : Act} {w : World} {K : Act → World → Prop} {Q : Exit → Act → World → Prop} (p q : Operand) (ho : op.op = .binOp .neq 61 p q 61) {u v : Nm} (hp : a.eval p = .agg (nmCells u)) (hq : a.eval q = .agg (nmCells v))
    (h : K (a.put op.dst (.bool (!(eqB u v)))) w) : op.wp Tryz.prog a w K Q := by
  have hg := run_eqGuard_agg (P := Tryz.prog) w .neq 61 p q (nmCells u) (nmCells v) (by kernel_rfl)
  unfold Oper.wp execOp
  simp only [ho, hp, hq]
  simp only [Sem.run_bind, Sem.run_pure, Result.andThen_ok, hg, run_neq_struct, rnm_equal]
  exact h
theorem own_form {w : World} {B n : Nat} {T : TypeId} {v : Value} {xs : List Value} (h : w.ownsRow B T 6 v n xs) : ∃ a c, v = .slice a n c := by
  rcases owns_cases h with ⟨rfl, p, c, e⟩ | ⟨-, g, c, e⟩
  · exact ⟨p, c, e⟩
  · exact ⟨_, c, e⟩
theorem own_zero {w w' : World} {B g n cap k : Nat} {T : TypeId} {cur : Array Value} {zs : List Nm} (h : w.ownsRow B T 6 (.slice (some ⟨g, 0, none⟩) n cap) n (flatN (List.replicate k Nm.zero ++ zs.drop k))) (hk : k < zs.length) (hg : w.heap[g]? = some (.cells cur T (0, 0)))
    (h' : w'.heap[g]? = some (.cells (setL cur (k * 6) (encN Nm.zero)) T (0, 0))) : w'.ownsRow B T 6 (.slice (some ⟨g, 0, none⟩) n cap) n (flatN (List.replicate (k + 1) Nm.zero ++ zs.drop (k + 1))) := by
  have hl : (List.replicate k Nm.zero ++ zs.drop k).length = zs.length := by simp; omega
  have h1 := h.1
  rw [flatN_length, hl] at h1
  obtain ⟨cur', hg', hn, hc, hs, ht, hx, hB⟩ := own_cells h (by omega)
  rw [hg] at hg'
  cases hg'
  refine ⟨by rw [flatN_length]; simp; omega, .inr ⟨g, cap, _, rfl, hB, h', hn, hc, by rw [setL_size]; exact hs, ?_⟩⟩
  have hA : (flatN (List.replicate k Nm.zero)).length = k * 6 := by rw [flatN_length, List.length_replicate]
  have hD : (flatN (zs.drop (k + 1))).length = (zs.length - (k + 1)) * 6 := by rw [flatN_length, List.length_drop]
  have e0 : cur.toList = flatN (List.replicate k Nm.zero) ++ encN zs[k] ++ (flatN (zs.drop (k + 1)) ++ cur.toList.drop (n * 6)) := by
    conv => lhs; rw [← List.take_append_drop (n * 6) cur.toList, ht, List.drop_eq_getElem_cons hk, flatN_append]
    show flatN (List.replicate k Nm.zero) ++ (encN zs[k] ++ flatN (zs.drop (k + 1))) ++ _ = _
    simp
  have e1 := setL_mid (encN zs[k]) (encN Nm.zero) cur _ _ e0 rfl
  rw [hA] at e1
  have hlen : (flatN (List.replicate k Nm.zero) ++ encN Nm.zero ++ flatN (zs.drop (k + 1))).length = n * 6 := by
    simp only [List.length_append, hA, hD, encN_length]; omega
  rw [e1, ← List.append_assoc, List.take_append_of_le_length (by rw [hlen]; exact Nat.le_refl _), List.take_of_length_le (by rw [hlen]; exact Nat.le_refl _)]
  rw [List.replicate_succ', flatN_append, flatN_append, flatN_one]
def nssVal (z : Nm) (g4 g6 n c4 c6 k : Nat) : Nat → Value
  | 0 => .slice (some ⟨g6, 0, none⟩) n c6
  | 1 => .int .i64 (k : Int)
  | 2 => .pointer (some ⟨g6, k * 6, none⟩)
  | 3 => .agg (nmCells z)
  | 4 => .agg (nmCells z)
  | 5 => .slice (some ⟨g4, 0, none⟩) n c4
  | 6 => .int .i64 (k : Int)
  | 7 => .pointer (some ⟨g4, k * 6, none⟩)
  | 8 => .agg (nmCells z)
  | 9 => .bool false
  | _ => undef
def nssDst (i : Nat) : Tmp := 44 + i
theorem nssDst_ne {j t : Nat} (ht : t = 4 ∨ t = 6 ∨ t = 7) (e : nssDst j = t) : False := by
  unfold nssDst at e
  have e : (44 + j : Nat) = t := e
  rcases ht with rfl | rfl | rfl <;> (repeat' (split at e)) <;> omega
def nssPhi (z : Nm) (g4 g6 n c4 c6 k : Nat) (i : Nat) (v : Value) (_ : World) : Prop := v = nssVal z g4 g6 n c4 c6 k i
theorem nssPhi.ext {z : Nm} {g4 g6 n c4 c6 k : Nat} {i : Nat} {v : Value} {w w' : World} (h : nssPhi z g4 g6 n c4 c6 k i v w) (_ : Ext w w') : nssPhi z g4 g6 n c4 c6 k i v w' := by
  unfold nssPhi at h ⊢
  exact h
set_option maxRecDepth 100000 in
set_option maxHeartbeats 8000000 in
theorem nameSorts_any {S : Nat → Prop} (w : World) (v : Value) (l : List (List UInt8)) (hr : Texts S w v l) (hE : Env w) :
    Calls Tryz.prog 5 #[v] w fun e w' => e = .returned (.bool true) ∧ Ext w w' := by
  have G := Lib.hid hr
  obtain ⟨a, c, rfl, -, hm, -⟩ := hr
  have HE := Lib.hid hE
  clear hE
  unfold maxLen at hm
  by_cases hl : l.length ≤ 30
  case neg =>
    have hl' : (30 : Int) < (l.length : Int) := by omega
    go_enter Tryz.func5, Tryz.ntmps5
    go_wp2_with (go_at_call 25; fail)
    refine (works_any _ HE.out).mono ?_
    rintro e w1 ⟨rfl, hx1⟩
    go_wp2
    go_ret
    exact ⟨rfl, hx1⟩
  have hl' : ¬ (30 : Int) < (l.length : Int) := by omega
  go_enter Tryz.func5, Tryz.ntmps5
  go_wp2
  go_loopw [3] (fun t wr => ∃ k : Nat, k ≤ l.length ∧ t = .int .i64 k ∧ (∀ s ∈ l.take k, s.length ≤ 90) ∧ Ext w wr) (fun t _ => l.length - (intOf t).toNat)
  case atStart => exact ⟨0, Nat.zero_le _, rfl, (fun s hs => by simp at hs), Upd.refl _ _⟩
  case round =>
    obtain ⟨k, hk, rfl, hs90, hx⟩ := hrel
    have HX := Lib.hid hx
    have HS90 := Lib.hid hs90
    by_cases hlt : k < l.length
    · obtain ⟨b1, o1, c1, e1, -, -, -, hq1⟩ := (G.out.ext hx).addr (by omega)
      cases e1
      have hc := texts_cell hq1 k hlt
      have hsn : l.take (k + 1) = l.take k ++ [l[k]] := List.take_succ_eq_append_getElem hlt
      obtain ⟨s, hs⟩ : ∃ s, s = l[k] := ⟨_, rfl⟩
      rw [← hs] at hc hsn
      have HSN := Lib.hid hsn
      have hsz : (⟨s.toArray⟩ : ByteArray).size = s.length := rfl
      clear hx hs90 hq1 hsn hs
      by_cases hlong : s.length ≤ 90
      · have hl9 : ¬ (90 : Int) < (s.length : Int) := by omega
        go_wp2
        go_roundw
        case rel =>
          refine ⟨k + 1, by omega, by go_num, fun q hq => ?_, HX.out⟩
          rw [HSN.out, List.mem_append, List.mem_singleton] at hq
          rcases hq with hq | rfl
          · exact HS90.out q hq
          · exact hlong
        case measure => simp [intOf]; omega
      · have hl9 : (90 : Int) < (s.length : Int) := by omega
        go_wp2_with (go_at_call 25; fail)
        refine (works_any _ (HE.out.ext HX.out)).mono ?_
        rintro e w1 ⟨rfl, hx1⟩
        have HX1 := Lib.hid (HX.out.trans hx1)
        clear hx1
        go_wp2
        go_ret
        exact ⟨rfl, HX1.out⟩
    · have hkl : k = l.length := by omega
      rw [hkl, List.take_length] at hs90
      have HB := Lib.hid (show ∀ s ∈ l, s.length ≤ 1000000 from fun s hs => by have := hs90 s hs; omega)
      clear hx hs90 hkl
      go_wp2_with (go_at_call 26; fail)
      refine (rsort_any _ _ l (by omega) HB.out (G.out.ext HX.out)).mono ?_
      rintro e w4 ⟨v4, rfl, hown4, hx4⟩
      obtain ⟨n, hn⟩ : ∃ n, n = (namesF l).length := ⟨_, rfl⟩
      have hnn : n ≤ 30 := by rw [hn]; exact Nat.le_trans (namesF_length _) hl
      rw [← hn] at hown4
      obtain ⟨zs, hzs⟩ : ∃ zs, zs = sortN (namesF l) := ⟨_, rfl⟩
      have hzl : zs.length = n := by rw [hzs, sortN_length, hn]
      rw [← hzs] at hown4
      obtain ⟨a4, c4, rfl⟩ := own_form hown4
      have HN := Lib.hid hn
      have HZS := Lib.hid hzs
      have HZL := Lib.hid hzl
      have HO4 := Lib.hid hown4
      have HX4 := Lib.hid (HX.out.trans hx4)
      clear hown4 hx4 hn hzs hzl
      go_wp2
      go_loopw [5] (fun t wr => ∃ k : Nat, k ≤ 2 ∧ t = .int .i64 k ∧ Ext w4 wr) (fun t _ => 2 - (intOf t).toNat)
      case atStart => exact ⟨0, by omega, rfl, Upd.refl _ _⟩
      case round =>
        obtain ⟨t, ht, rfl, hx⟩ := hrel
        obtain ⟨wo, hwo⟩ : ∃ x, x = wr := ⟨_, rfl⟩
        subst hwo
        have HXT := Lib.hid hx
        have HXW := Lib.hid (HX4.out.trans hx)
        clear hx
        by_cases ht2 : t < 2
        · go_wp2_with (go_at_call 27; fail)
          refine (nsort_any _ _ l (by omega) HB.out (G.out.ext HXW.out) (HE.out.ext HXW.out)).mono ?_
          rintro e w6 ⟨v6, rfl, hown6, hx6⟩
          rw [← HN.out, ← HZS.out] at hown6
          obtain ⟨a6, c6, rfl⟩ := own_form hown6
          have HO6 := Lib.hid hown6
          have HX6 := Lib.hid (HXT.out.trans hx6)
          have HXO := Lib.hid hx6
          clear hown6 hx6
          go_wp2
          go_loopw [7] (fun q wr => ∃ k : Nat, k ≤ n ∧ q = .int .i64 k ∧ wr.ownsRow wo.heap.size 63 6 (.slice a6 n c6) n (flatN (List.replicate k Nm.zero ++ zs.drop k)) ∧ Ext wo wr) (fun q _ => n - (intOf q).toNat)
          case atStart => exact ⟨0, Nat.zero_le _, rfl, by simpa using HO6.out, HXO.out⟩
          case round =>
            obtain ⟨k, hk, rfl, hown, hx⟩ := hrel
            by_cases hkn : k < n
            · have hlt4 : 0 < n := by omega
              obtain ⟨g4, c4', e4⟩ : ∃ g c, Value.slice a4 n c4 = .slice (some ⟨g, 0, none⟩) n c := by
                rcases owns_cases HO4.out with ⟨h0, -⟩ | ⟨-, g, c, e⟩
                · omega
                · exact ⟨g, c, e⟩
              cases e4
              obtain ⟨g6, c6', e6⟩ : ∃ g c, Value.slice a6 n c6 = .slice (some ⟨g, 0, none⟩) n c := by
                rcases owns_cases hown with ⟨h0, -⟩ | ⟨-, g, c, e⟩
                · omega
                · exact ⟨g, c, e⟩
              cases e6
              obtain ⟨cur4, hcur4, hnc4, hcm4, hcs4, htk4, hlen4, hBg4⟩ := own_cells HO4.out hlt4
              obtain ⟨cur6, hcur6, hnc6, hcm6, hcs6, htk6, hlen6, hBg6⟩ := own_cells hown hlt4
              have hk4 := own_get htk4 hlen4 hkn
              have hk6 := own_get htk6 hlen6 hkn
              have hkz : k < zs.length := by have := HZL.out; omega
              have ez : (List.replicate k Nm.zero ++ zs.drop k)[k]'(by simp; omega) = zs[k] := by
                rw [List.getElem_append_right (by simp)]; simp
              rw [ez] at hk6
              obtain ⟨z, hz⟩ : ∃ z, z = zs[k] := ⟨_, rfl⟩
              rw [← hz] at hk4 hk6
              have hcur4' := (HXT.out.trans hx).at_ hcur4 id
              have HR4 := Lib.hid (show wr.rangeAt g4 (k * 6) (nmCells z).toList from fun j u hj => cellAt hcur4' _ u (hk4 j u hj))
              have HR6 := Lib.hid (show wr.rangeAt g6 (k * 6) (nmCells z).toList from fun j u hj => cellAt hcur6 _ u (hk6 j u hj))
              have HOWN := Lib.hid hown
              have HXK := Lib.hid hx
              have HC6 := Lib.hid hcur6
              have HS6 := Lib.hid (show k * 6 + 6 ≤ cur6.size by rw [hcs6]; have : (k + 1) * 6 ≤ c6 * 6 := Nat.mul_le_mul_right 6 (by omega); omega)
              have HBG := Lib.hid hBg6
              have HKZ := Lib.hid hkz
              have hkni : (k : Int) < (n : Int) := by omega
              unfold maxLen at hcm4 hcm6
              clear hown hx hcur4 hcs4 htk4 hlen4 hBg4 hcur6 hcs6 htk6 hlen6 hBg6 hk4 hk6 hkz ez hz hcur4'
              go_upto_region 18 with (fail)
              refine wp_region_invH Nothing (fun _ => Ext) 1000 nssDst (nssPhi z g4 g6 n c4 c6 k) 59 (by kernel_rfl) (by decide) (by decide) rfl (fun i hi => .inl ((by decide : ∀ i, i < 10 → nssDst i < 59) i hi)) (fun i w w' h => ⟨h, fun _ => h⟩) (fun i j v w w' _ _ _ _ h hu => h.ext hu) ?_ ?_
              · intro i o b' w1' ho hx1' hd hk hE hSZ
                have hi : i < 10 := (Array.getElem?_eq_some_iff.1 ho).1
                have his : i = 0 ∨ i = 1 ∨ i = 2 ∨ i = 3 ∨ i = 4 ∨ i = 5 ∨ i = 6 ∨ i = 7 ∨ i = 8 ∨ i = 9 := by omega
                clear hE hSZ
                have HW1 := Lib.hid hx1'
                clear hx1'
                rcases his with rfl | rfl | rfl | rfl | rfl | rfl | rfl | rfl | rfl | rfl
                all_goals (simp at ho; subst ho)
                case inl =>
                  refine .inl ⟨by simp [Region.wanted], ?_⟩
                  have o6 : b'.tmps[6]?.getD undef = .slice (some ⟨g6, 0, none⟩) n c6 := by
                    have := hk 6 (fun j oj _ e => (nssDst_ne (by decide) e).elim)
                    simpa using this
                  clear hd hk
                  go_step
                  exact ⟨_, rfl, rfl, Upd.refl _ _⟩
                case inr.inl =>
                  refine .inl ⟨by simp [Region.wanted], ?_⟩
                  have o7 : b'.tmps[7]?.getD undef = .int .i64 (k : Int) := by
                    have := hk 7 (fun j oj _ e => (nssDst_ne (by decide) e).elim)
                    simpa using this
                  clear hd hk
                  go_step
                  exact ⟨_, rfl, rfl, Upd.refl _ _⟩
                case inr.inr.inl =>
                  refine .inl ⟨by simp [Region.wanted], ?_⟩
                  have e0 : b'.tmps[44]?.getD undef = .slice (some ⟨g6, 0, none⟩) n c6 := by have := (show b'.tmps.getD 44 undef = .slice (some ⟨g6, 0, none⟩) n c6 from hd ⟨0, .data⟩ (by simp) rfl); simpa using this
                  have e1 : b'.tmps[45]?.getD undef = .int .i64 (k : Int) := by have := (show b'.tmps.getD 45 undef = .int .i64 (k : Int) from hd ⟨1, .data⟩ (by simp) rfl); simpa using this
                  clear hd hk
                  go_step
                  exact ⟨_, rfl, rfl, Upd.refl _ _⟩
                case inr.inr.inr.inl =>
                  refine .inl ⟨by simp [Region.wanted], ?_⟩
                  have o46 : b'.eval (.tmp 46) = .pointer (some ⟨g6, k * 6, none⟩) := by
                    have := (show b'.tmps.getD 46 undef = .pointer (some ⟨g6, k * 6, none⟩) from hd ⟨2, .data⟩ (by simp) rfl)
                    simpa [Act.eval] using this
                  exact wp_load_mid (w := w1') 63 (.tmp 46) rfl g6 (k * 6) o46 (nmCells z).toList _ (fun j u hj => HW1.out.cell (HR6.out j u hj) id) Tryz.underlying63 rfl (by kernel_rfl) ⟨_, rfl, rfl, Upd.refl _ _⟩
                case inr.inr.inr.inr.inl =>
                  refine .inl ⟨by simp [Region.wanted], ?_⟩
                  have e3 : b'.tmps[47]?.getD undef = .agg (nmCells z) := by have := (show b'.tmps.getD 47 undef = .agg (nmCells z) from hd ⟨3, .data⟩ (by simp) rfl); simpa using this
                  clear hd hk
                  go_step
                  refine (lawRef_any w1' z).mono ?_
                  rintro e w2 ⟨rfl, hu⟩
                  exact ⟨_, rfl, rfl, hu⟩
                case inr.inr.inr.inr.inr.inl =>
                  refine .inl ⟨by simp [Region.wanted], ?_⟩
                  have o4 : b'.tmps[4]?.getD undef = .slice (some ⟨g4, 0, none⟩) n c4 := by
                    have := hk 4 (fun j oj _ e => (nssDst_ne (by decide) e).elim)
                    simpa using this
                  clear hd hk
                  go_step
                  exact ⟨_, rfl, rfl, Upd.refl _ _⟩
                case inr.inr.inr.inr.inr.inr.inl =>
                  refine .inl ⟨by simp [Region.wanted], ?_⟩
                  have o7 : b'.tmps[7]?.getD undef = .int .i64 (k : Int) := by
                    have := hk 7 (fun j oj _ e => (nssDst_ne (by decide) e).elim)
                    simpa using this
                  clear hd hk
                  go_step
                  exact ⟨_, rfl, rfl, Upd.refl _ _⟩
                case inr.inr.inr.inr.inr.inr.inr.inl =>
                  refine .inl ⟨by simp [Region.wanted], ?_⟩
                  have e5 : b'.tmps[49]?.getD undef = .slice (some ⟨g4, 0, none⟩) n c4 := by have := (show b'.tmps.getD 49 undef = .slice (some ⟨g4, 0, none⟩) n c4 from hd ⟨5, .data⟩ (by simp) rfl); simpa using this
                  have e6 : b'.tmps[50]?.getD undef = .int .i64 (k : Int) := by have := (show b'.tmps.getD 50 undef = .int .i64 (k : Int) from hd ⟨6, .data⟩ (by simp) rfl); simpa using this
                  clear hd hk
                  go_step
                  exact ⟨_, rfl, rfl, Upd.refl _ _⟩
                case inr.inr.inr.inr.inr.inr.inr.inr.inl =>
                  refine .inl ⟨by simp [Region.wanted], ?_⟩
                  have o51 : b'.eval (.tmp 51) = .pointer (some ⟨g4, k * 6, none⟩) := by
                    have := (show b'.tmps.getD 51 undef = .pointer (some ⟨g4, k * 6, none⟩) from hd ⟨7, .data⟩ (by simp) rfl)
                    simpa [Act.eval] using this
                  exact wp_load_mid (w := w1') 61 (.tmp 51) rfl g4 (k * 6) o51 (nmCells z).toList _ (fun j u hj => HW1.out.cell (HR4.out j u hj) id) Tryz.underlying61 rfl (by kernel_rfl) ⟨_, rfl, rfl, Upd.refl _ _⟩
                case inr.inr.inr.inr.inr.inr.inr.inr.inr =>
                  refine .inl ⟨by simp [Region.wanted], ?_⟩
                  have o48 : b'.eval (.tmp 48) = .agg (nmCells z) := by
                    have := (show b'.tmps.getD 48 undef = .agg (nmCells z) from hd ⟨4, .data⟩ (by simp) rfl)
                    simpa [Act.eval] using this
                  have o52 : b'.eval (.tmp 52) = .agg (nmCells z) := by
                    have := (show b'.tmps.getD 52 undef = .agg (nmCells z) from hd ⟨8, .data⟩ (by simp) rfl)
                    simpa [Act.eval] using this
                  exact wp_neq_rnm (.tmp 48) (.tmp 52) rfl o48 o52 ⟨_, rfl, by rw [eqB_self]; rfl, Upd.refl _ _⟩
              · intro v w1' hx1' hp
                have h9 : v 9 = .bool false := hp 9 (by decide)
                have HX8 := Lib.hid (HXK.out.trans hx1')
                have HO8 := Lib.hid (hx1'.ownsRow HOWN.out (fun _ _ e => e))
                have HC8 := Lib.hid (hx1'.at_ HC6.out id)
                clear hp hx1'
                simp only [List.size_toArray, List.length_cons, List.length_nil, Nat.reduceAdd, fillAll, nssDst]
                go_simp
                go_wp2_with (refine wpList_store_in rfl _ _ _ rfl rfl (cells := nmCells Nm.zero) rfl HC8.out (Tryz.nmT _) HS6.out (nmCells_one _) ?_)
                intro w9 hx9 hc9
                have HO9 := Lib.hid (own_zero (w' := w9) HO8.out HKZ.out HC8.out hc9)
                have HX9 := Lib.hid (HX8.out.step hx9 (fun q hq e => by have := HBG.out; unfold At at e; omega))
                clear hx9 hc9
                go_wp2
                go_roundw
                case rel => exact ⟨k + 1, by omega, by go_num, HO9.out, HX9.out⟩
                case measure => simp [intOf]; omega
            · have HXK := Lib.hid (HXT.out.trans hx)
              clear hx hown
              go_wp2
              go_roundw
              case rel => exact ⟨t + 1, by omega, by go_num, HXK.out⟩
              case measure => simp [intOf]; omega
        · go_wp2_with (go_at_call 25; fail)
          refine (works_any _ (HE.out.ext HXW.out)).mono ?_
          rintro e w7 ⟨rfl, hx7⟩
          have HX7 := Lib.hid (HXW.out.trans hx7)
          clear hx7
          go_wp2
          go_ret
          exact ⟨rfl, HX7.out⟩
end Go.Proofs.YtfniemagbapeaaaGreatDoor
