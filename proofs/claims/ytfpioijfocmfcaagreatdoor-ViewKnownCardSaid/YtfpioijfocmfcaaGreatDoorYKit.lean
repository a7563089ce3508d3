/-
  CONTRACTS of SameTexts, and of the law's ref, few. No condition.
-/
import Derived.Test.YtfpioijfocmfcaaGreatDoorYRef3
namespace Go.Proofs.YtfpioijfocmfcaaGreatDoor
open Go.RowKit

set_option maxRecDepth 100000 in
set_option maxHeartbeats 2000000 in
theorem sameT_any {S T : Nat → Prop} (w : World) (x y : Value) (l r : List (List UInt8)) (hx : Texts S w x l) (hy : Texts T w y r) :
    Calls Tryz.prog 9 #[x, y] w fun e w' => e = .returned (.bool (decide (l = r))) ∧ Ext w w' := by
  have HL := Lib.hid hx
  have HR := Lib.hid hy
  obtain ⟨a1, cp, rfl, hlc, hm, -⟩ := hx
  obtain ⟨a2, cq, rfl, -⟩ := hy
  unfold maxLen at hm
  by_cases hlen : l.length = r.length
  case neg =>
    have f0 : ((l.length : Int) != (r.length : Int)) = true := by simp; omega
    have HF := Lib.hid (show decide (l = r) = false from decide_eq_false fun e => hlen (by rw [e]))
    clear hlen
    go_enter Tryz.func9, Tryz.ntmps9
    go_wp2
    go_ret
    exact ⟨by rw [HF.out]; rfl, Upd.refl _ _⟩
  have f0 : ((l.length : Int) != (r.length : Int)) = false := by simp; omega
  have HLEN := Lib.hid hlen
  clear hlen
  go_enter Tryz.func9, Tryz.ntmps9
  go_wp2
  go_loopw [5] (fun t wr => ∃ n : Nat, n ≤ l.length ∧ t = .int .i64 n ∧ l.take n = r.take n ∧ Ext w wr) (fun t _ => l.length - (intOf t).toNat)
  case atStart => exact ⟨0, Nat.zero_le _, rfl, rfl, Upd.refl _ _⟩
  case round =>
    obtain ⟨n, hn, rfl, heq, hx⟩ := hrel
    have HX := Lib.hid hx
    have HEQ := Lib.hid heq
    clear heq
    by_cases hlt : n < l.length
    · have hlr : n < r.length := by have := HLEN.out; omega
      obtain ⟨b1, o1, c1, e1, -, -, -, hq1⟩ := (HL.out.ext hx).addr (by omega)
      cases e1
      obtain ⟨b2, o2, c2, e2, -, -, -, hq2⟩ := (HR.out.ext hx).addr (by omega)
      cases e2
      have d1 := texts_cell hq1 n hlt
      have d2 := texts_cell hq2 n hlr
      have s1 : l.take (n + 1) = l.take n ++ [l[n]] := List.take_succ_eq_append_getElem hlt
      have s2 : r.take (n + 1) = r.take n ++ [r[n]] := List.take_succ_eq_append_getElem hlr
      have hne : l[n] ≠ r[n] → l ≠ r := fun h e => h (by subst e; rfl)
      have hri : (n : Int) < (r.length : Int) := by omega
      generalize l[n] = p at d1 s1 hne
      generalize r[n] = q at d2 s2 hne
      have S1 := Lib.hid s1
      have S2 := Lib.hid s2
      have HNE := Lib.hid hne
      clear hq1 hq2 s1 s2 hne hx hlr
      by_cases hpq : p = q
      · have HPQ := Lib.hid hpq
        have q1 : ((⟨p.toArray⟩ : ByteArray).toList != (⟨q.toArray⟩ : ByteArray).toList) = false := by rw [bytes_toList, bytes_toList]; simp [hpq]
        have q2 : (p == q) = true := by simp [hpq]
        have q3 : (p != q) = false := by simp [hpq]
        clear hpq
        go_wp2
        go_quiet (fail)
        go_wp2
        go_roundw
        case rel => exact ⟨n + 1, by omega, by go_num, by rw [S1.out, S2.out, HEQ.out, HPQ.out], HX.out.drewN _⟩
        case measure => simp [intOf]; omega
      · have HF := Lib.hid (show decide (l = r) = false from decide_eq_false (HNE.out hpq))
        have q1 : ((⟨p.toArray⟩ : ByteArray).toList != (⟨q.toArray⟩ : ByteArray).toList) = true := by rw [bytes_toList, bytes_toList]; simp [hpq]
        have q2 : (p == q) = false := by simp [hpq]
        have q3 : (p != q) = true := by simp [hpq]
        clear hpq
        go_wp2
        go_quiet (fail)
        go_wp2
        go_ret
        exact ⟨by rw [HF.out]; rfl, HX.out.drewN _⟩
    · have hnl : n = l.length := by omega
      have HT := Lib.hid (show decide (l = r) = true by
        have h := HEQ.out
        rw [hnl, List.take_length, HLEN.out, List.take_length] at h
        simp [h])
      clear hx
      go_wp2
      go_ret
      exact ⟨by rw [HT.out]; rfl, HX.out⟩
theorem ref_any (w : World) (v : Vw) : Calls Tryz.prog 12 #[.agg (vwCells v)] w fun e w' => e = .returned (.agg (vwCells v)) ∧ Ext w w' := by
  show Calls Tryz.prog 12 #[.agg #[.int .u64 v.chain, .int .u64 v.floor, .int .u64 v.tail]] w _
  go_enter Tryz.func12, Tryz.ntmps12
  go_wp2
  refine bodyPost_ret (v := .agg (vwCells v)) (by simp [results, Tryz.results12, go_sem, vwCells]) rfl ⟨rfl, ?_⟩
  exact ((Upd.refl _ _).alloc _).alloc _
set_option maxRecDepth 100000 in
set_option maxHeartbeats 2000000 in
theorem few_any {S T : Nat → Prop} (w : World) (nv a b c : Value) (k : Kp) (l : List (List UInt8)) (hn : Texts S w nv l) (hk : KeepIs T w a b c k) :
    Calls Tryz.prog 7 #[nv, .agg #[a, b, c]] w fun e w' => ∃ o, e = .returned (.bool o) ∧ (o = true → l.length ≤ 60 ∧ (∀ s ∈ l, s.length ≤ 100) ∧ k.need.length ≤ 20 ∧ k.last.length ≤ 20) ∧ Ext w w' := by
  obtain ⟨w2, hw2⟩ : ∃ u, u = w.alloc (.cells #[a, b, c] 28) := ⟨_, rfl⟩
  have hx2 : Ext w w2 := by rw [hw2]; exact (Upd.refl _ _).alloc _
  have hK : w2.heap[w.heap.size]? = some (.cells #[a, b, c] 28 (0, 0)) := by rw [hw2]; exact newAt _ _
  have G := Lib.hid (hn.ext hx2)
  have HX2 := Lib.hid hx2
  have HK := Lib.hid hK
  have HW2 := Lib.hid hw2
  obtain ⟨a1, cp, rfl, hlc, hm, -⟩ := hn
  obtain ⟨a2, cq, ha, -⟩ := hk.need
  obtain ⟨a3, cr, hb, -⟩ := hk.last
  subst ha hb
  unfold maxLen at hm
  clear hx2 hK hw2 hk
  go_enter Tryz.func7, Tryz.ntmps7
  go_wp2
  go_loopw [5] (fun t wr => ∃ n : Nat, n ≤ l.length ∧ n ≤ 61 ∧ t = .int .i64 n ∧ (∀ s ∈ l.take n, s.length ≤ 100) ∧ Ext w2 wr) (fun t _ => l.length - (intOf t).toNat)
  case atStart => exact ⟨0, Nat.zero_le _, by omega, rfl, (fun s hs => by simp at hs), by rw [HW2.out]; exact Upd.refl _ _⟩
  case round =>
    obtain ⟨n, hn, hn61, rfl, hall, hx⟩ := hrel
    have HX := Lib.hid hx
    have HALL := Lib.hid hall
    have k0 := cellAt (hx.at_ HK.out id) 0 _ rfl
    have k1 := cellAt (hx.at_ HK.out id) 1 _ rfl
    clear hall
    by_cases hlt : n < l.length ∧ n < 61
    · obtain ⟨hlt, h61⟩ := hlt
      obtain ⟨b1, o1, c1, e1, -, -, -, hq1⟩ := (G.out.ext hx).addr (by omega)
      cases e1
      have d1 := texts_cell hq1 n hlt
      have s1 : l.take (n + 1) = l.take n ++ [l[n]] := List.take_succ_eq_append_getElem hlt
      generalize l[n] = p at d1 s1
      have S1 := Lib.hid s1
      have f1 : decide ((n : Int) < (l.length : Int)) = true := by simp; omega
      have f2 : decide ((n : Int) < 61) = true := by simp; omega
      have hsz : (⟨p.toArray⟩ : ByteArray).size = p.length := rfl
      clear hq1 s1 hx
      by_cases hp : p.length ≤ 100
      · have hpi : ¬ (100 : Int) < (p.length : Int) := by omega
        go_wp2
        go_roundw
        case rel =>
          refine ⟨n + 1, by omega, by omega, by go_num, fun s hs => ?_, HX.out⟩
          rw [S1.out, List.mem_append, List.mem_singleton] at hs
          rcases hs with h | rfl
          · exact HALL.out s h
          · exact hp
        case measure => simp [intOf]; omega
      · have hpi : (100 : Int) < (p.length : Int) := by omega
        go_wp2
        go_ret
        exact ⟨false, rfl, (fun h => by cases h), HX2.out.trans HX.out⟩
    · have HE := Lib.hid hlt
      clear hlt
      clear hx
      have HFIN := Lib.hid (show l.length ≤ 60 → ∀ s ∈ l, s.length ≤ 100 from fun h => by
        have hnl : n = l.length := by
          have := HE.out
          omega
        have := HALL.out
        rw [hnl, List.take_length] at this; exact this)
      by_cases hnl : n < l.length
      · have h61 : ¬ n < 61 := fun h => HE.out ⟨hnl, h⟩
        have f1 : decide ((n : Int) < (l.length : Int)) = true := by simp; omega
        have f2 : decide ((n : Int) < 61) = false := by simp; omega
        have f3 : decide ((l.length : Int) ≤ 60) = false := by simp; omega
        go_wp2
        go_ret
        exact ⟨false, rfl, (fun h => by cases h), HX2.out.trans HX.out⟩
      · have f1 : decide ((n : Int) < (l.length : Int)) = false := by simp; omega
        by_cases h60 : l.length ≤ 60
        · have f3 : decide ((l.length : Int) ≤ 60) = true := by simp; omega
          by_cases hd : k.need.length ≤ 20
          · have f4 : decide ((k.need.length : Int) ≤ 20) = true := by simp; omega
            by_cases hl : k.last.length ≤ 20
            · have f5 : decide ((k.last.length : Int) ≤ 20) = true := by simp; omega
              have H60 := Lib.hid (And.intro h60 (And.intro hd hl))
              go_wp2
              go_ret
              exact ⟨true, rfl, fun _ => ⟨H60.out.1, HFIN.out H60.out.1, H60.out.2.1, H60.out.2.2⟩, HX2.out.trans HX.out⟩
            · have f5 : decide ((k.last.length : Int) ≤ 20) = false := by simp; omega
              go_wp2
              go_ret
              exact ⟨false, rfl, (fun h => by cases h), HX2.out.trans HX.out⟩
          · have f4 : decide ((k.need.length : Int) ≤ 20) = false := by simp; omega
            go_wp2
            go_ret
            exact ⟨false, rfl, (fun h => by cases h), HX2.out.trans HX.out⟩
        · have f3 : decide ((l.length : Int) ≤ 60) = false := by simp; omega
          go_wp2
          go_ret
          exact ⟨false, rfl, (fun h => by cases h), HX2.out.trans HX.out⟩
end Go.Proofs.YtfpioijfocmfcaaGreatDoor
