/-
  CONTRACT of view's Chains. Condition: the library's variables lie as they are laid.
  CONTRACTS of the reference's put, Chains. No condition but sizes.
  CONTRACT of the reference's Chains. No condition but sizes.
-/
import Derived.Test.YtfpioijfocmfcaaGreatDoorVLive
import Derived.Test.YtfpioijfocmfcaaGreatDoorGYP
import Derived.Test.YtfpioijfocmfcaaGreatDoorGNR
namespace Go.Proofs.YtfpioijfocmfcaaGreatDoor
open Go.RowKit

theorem rise_perm (l : List Nat) : (riseN l).Perm l := List.mergeSort_perm _ _
theorem rise_up (l : List Nat) : (riseN l).Pairwise (· ≤ ·) := by
  have h : (riseN l).Pairwise fun x y => decide (x ≤ y) = true := List.pairwise_mergeSort (fun a b c h1 h2 => by simp at h1 h2 ⊢; omega) (fun a b => by simp; omega) l
  exact h.imp fun h => by simpa using h
theorem chains_rise (l : List (List UInt8)) : Lib.compact (riseN (docsF l)) = chainsF l := chains_sorted (rise_perm _) (rise_up _)

set_option maxRecDepth 100000 in
set_option maxHeartbeats 4000000 in
theorem chains_any {S' : Nat → Prop} (w : World) (nw : Value) (l : List (List UInt8)) (hr : Texts S' w nw l) (hl : l.length ≤ 100000) (hb : ∀ s ∈ l, s.length ≤ 1000000) (hE : Env w) :
    Calls Tryz.prog 21 #[nw] w fun e w' => ∃ v', e = .returned v' ∧ w'.ownsRow w.heap.size 22 1 v' (chainsF l).length ((chainsF l).map nv) ∧ Ext w w' := by
  have G := Lib.hid hr
  have HE := Lib.hid hE
  have HLB := Lib.hid hb
  obtain ⟨na, nc, rfl, -, hm, -⟩ := hr
  unfold maxLen at hm
  obtain ⟨B, hB⟩ : ∃ B, B = w.heap.size := ⟨_, rfl⟩
  have HB := Lib.hid hB
  rw [← hB]
  clear hE hb hB
  go_enter Tryz.func21, Tryz.ntmps21
  go_wp2
  go_loopw [2, 9] (fun u t wr => ∃ n : Nat, n ≤ l.length ∧ t = .int .i64 n ∧ wr.ownsRow B 22 1 u (docsF (l.take n)).length ((docsF (l.take n)).map nv) ∧ Ext w wr) (fun _ t _ => l.length - (intOf t).toNat)
  case atStart => exact ⟨0, Nat.zero_le _, rfl, World.ownsRow_nil _ _ _ _, Upd.refl _ _⟩
  case round =>
    obtain ⟨n, hn, rfl, hown, hx⟩ := hrel
    have HX := Lib.hid hx
    by_cases hlt : n < l.length
    · obtain ⟨b1, o1, c1, e1, -, -, -, hq1⟩ := (G.out.ext hx).addr (by omega)
      cases e1
      have hc := texts_cell hq1 n hlt
      have hsl := HLB.out (l[n]) (List.getElem_mem hlt)
      have hsn : l.take (n + 1) = l.take n ++ [l[n]] := List.take_succ_eq_append_getElem hlt
      have hnf := docs_snoc (l.take n) (l[n])
      rw [← hsn] at hnf
      have hcnt : (docsF (l.take n)).length ≤ 100000 := Nat.le_trans (docs_length _) (by simp; omega)
      obtain ⟨s, hs⟩ : ∃ s, s = l[n] := ⟨_, rfl⟩
      rw [← hs] at hc hsl hnf
      obtain ⟨x, hxx⟩ : ∃ x, x = (parseF s).1 := ⟨_, rfl⟩
      obtain ⟨ok, hok⟩ : ∃ o, o = (parseF s).2 := ⟨_, rfl⟩
      have hpp : parseF s = (x, ok) := by rw [hxx, hok]
      have hdf : docF s = if ok = true ∧ x.kind ≠ 3 then some x.doc else none := by unfold docF; rw [← hxx, ← hok]
      rw [hdf] at hnf
      obtain ⟨fs, hfs⟩ : ∃ fs, fs = docsF (l.take n) := ⟨_, rfl⟩
      rw [← hfs] at hnf hown hcnt
      have HOWN := Lib.hid hown
      have HNF := Lib.hid hnf
      have HPP := Lib.hid hpp
      have HSL := Lib.hid hsl
      obtain ⟨xk, xd, xn, xp, xi, xs⟩ := x
      obtain ⟨a3, c3, rfl⟩ := ownsFormV hown
      clear hx hq1 hsn hsl hs hxx hok hpp hnf hfs hown hdf
      go_wp2_with (go_at_call 25; fail)
      refine (parse_lit _ s _ ok HSL.out (HE.out.ext HX.out) HPP.out).mono ?_
      rintro e w5 ⟨rfl, hx5⟩
      obtain ⟨w6, hw6⟩ : ∃ u, u = w5.alloc (.cells (nmCells ⟨xk, xd, xn, xp, xi, xs⟩) 58) := ⟨_, rfl⟩
      have hx6 : Ext w5 w6 := by rw [hw6]; exact (Upd.refl _ _).alloc _
      have HX5 := Lib.hid (HX.out.trans hx5)
      have HX6 := Lib.hid (HX5.out.trans hx6)
      have HO5 := Lib.hid (hx5.ownsRow HOWN.out (fun _ _ e => e))
      have HO6 := Lib.hid (hx6.ownsRow HO5.out (fun _ _ e => e))
      have HW6 := Lib.hid hw6
      rw [show nmCells ⟨xk, xd, xn, xp, xi, xs⟩ = #[.int .u8 xk, .int .u64 xd, .int .u64 xn, .int .u64 xp, .int .u64 xi, .int .u64 xs] from rfl] at *
      clear hx5 hc hx6 hw6
      cases ok with
      | false =>
        go_wp2
        rw [← HW6.out]
        go_roundw
        case rel =>
          refine ⟨n + 1, by omega, by go_num, ?_, HX6.out⟩
          rw [HNF.out]
          simpa using HO6.out
        case measure => simp [intOf]; omega
      | true =>
        by_cases h3 : xk = 3
        · have g3 : ((xk : Int) != 3) = false := by simp [h3]
          have HK := Lib.hid h3
          clear h3
          go_wp2
          rw [← HW6.out]
          go_roundw
          case rel =>
            refine ⟨n + 1, by omega, by go_num, ?_, HX6.out⟩
            rw [HNF.out]
            simpa [HK.out] using HO6.out
          case measure => simp [intOf]; omega
        · have g3 : ((xk : Int) != 3) = true := by simp; omega
          have HK := Lib.hid h3
          have hown6 := HO6.out
          rw [HW6.out] at hown6
          clear h3
          go_wp2_with (at_builtin; go_must (refine wpList_append_row rfl _ _ _ rfl Tryz.numsT rfl (hown6.alloc _) rfl (row_new _ _ _ 1 _ (by decide) (by simp)) rfl (nv_ones [xd]) ?c3 ?c4 ?c5 ?_))
          case c3 => unfold maxLen; omega
          case c4 => omega
          case c5 => have h1 := HX6.out.size; have h2 := HB.out; rw [HW6.out] at h1; first | omega | (simp at h1 ⊢; omega)
          intro v' w8 hown8 hg _
          have hx60 := HX6.out
          rw [HW6.out] at hx60
          have hx8 := (hx60.alloc _).grown hg (fun j hj h => by have := (hown6.lt j hj).1; have := HB.out; omega)
          have HX8 := Lib.hid hx8
          have HO8 := Lib.hid hown8
          clear hx8 hg hown8 hown6 hx60
          go_wp2
          go_roundw
          case rel =>
            refine ⟨n + 1, by omega, by go_num, ?_, HX8.out⟩
            rw [HNF.out, if_pos ⟨trivial, HK.out⟩]
            simpa [nv] using HO8.out
          case measure => simp [intOf]; omega
    · have hkl : n = l.length := by omega
      rw [hkl, List.take_length] at hown
      obtain ⟨fs, hfs⟩ : ∃ fs, fs = docsF l := ⟨_, rfl⟩
      have hcnt : fs.length < 1000000 := by rw [hfs]; exact Nat.lt_of_le_of_lt (docs_length _) (by omega)
      rw [← hfs] at hown
      have HF := Lib.hid (show chainsF l = Lib.compact (riseN fs) by rw [hfs, chains_rise])
      have HOWN := Lib.hid hown
      have HCNT := Lib.hid hcnt
      obtain ⟨a3, c3, rfl⟩ := ownsFormV hown
      clear hx hkl hown hfs hcnt
      go_wp2_with (go_at_call 33; fail)
      refine (sortN_any _ _ fs HOWN.out HCNT.out).mono ?_
      rintro e w5 ⟨rfl, hown5, hg5⟩
      obtain ⟨zs, hzs⟩ : ∃ zs, zs = riseN fs := ⟨_, rfl⟩
      have hzl : zs.length = fs.length := by rw [hzs]; simp [riseN]
      rw [← hzs] at hown5
      rw [← hzl] at hown5 ⊢
      have HX5 := Lib.hid (HX.out.grown hg5 (fun j hj h => by have := (HOWN.out.lt j hj).1; have := HB.out; omega))
      have HO5 := Lib.hid hown5
      have HZ := Lib.hid (show chainsF l = Lib.compact zs by rw [HF.out, hzs])
      have HZL := Lib.hid (show zs.length < 1000000 by rw [hzl]; exact HCNT.out)
      clear hown5 hg5 hzs hzl
      go_wp2_with (go_at_call 34; fail)
      refine (compN_any _ _ zs HO5.out HZL.out).mono ?_
      rintro e w6 ⟨v6, rfl, hown6, hg6⟩
      have HX6 := Lib.hid (HX5.out.grown hg6 (fun j hj h => by have := (HO5.out.lt j hj).1; have := HB.out; omega))
      have HO6 := Lib.hid hown6
      clear hown6 hg6
      go_wp2
      go_ret
      refine ⟨_, rfl, ?_, HX6.out⟩
      rw [HZ.out]
      exact HO6.out
end Go.Proofs.YtfpioijfocmfcaaGreatDoor
namespace Go.Proofs.YtfpioijfocmfcaaGreatDoor
open Go.RowKit

def lowN (n : Nat) (l : List Nat) : List Nat := l.filter fun x => decide (x < n)
def highN (n : Nat) (l : List Nat) : List Nat := l.filter fun x => decide (n < x)
/-- What put has amid its loop. -/
structure PutSt (n : Nat) (p : List Nat) (d : Bool) (o : List Nat) : Prop where
  off : d = false → o = p ∧ ∀ x ∈ p, x < n
  on : d = true → o = lowN n p ++ n :: highN n p ∧ ∃ x ∈ p, n < x
  none : n ∉ p
theorem PutSt.low {n x : Nat} {p : List Nat} {o : List Nat} (h : PutSt n p false o) (hx : x < n) : PutSt n (p ++ [x]) false (o ++ [x]) := by
  obtain ⟨h1, h2⟩ := h.off rfl
  refine ⟨fun _ => ⟨by rw [h1], fun y hy => ?_⟩, fun h => (by cases h), fun hm => ?_⟩
  · rcases List.mem_append.1 hy with h | h
    · exact h2 y h
    · simp at h; omega
  · rcases List.mem_append.1 hm with h3 | h3
    · exact h.none h3
    · simp at h3; omega
theorem low_all {n : Nat} {p : List Nat} (h : ∀ x ∈ p, x < n) : lowN n p = p ∧ highN n p = [] := by
  unfold lowN highN
  refine ⟨List.filter_eq_self.2 fun x hx => by simpa using h x hx, List.filter_eq_nil_iff.2 fun x hx => ?_⟩
  have := h x hx
  simp; omega
theorem snoc_high {n x : Nat} (p : List Nat) (hx : n < x) : lowN n (p ++ [x]) = lowN n p ∧ highN n (p ++ [x]) = highN n p ++ [x] := by
  unfold lowN highN
  rw [List.filter_append, List.filter_append]
  constructor
  · simp; omega
  · simp [hx]
theorem PutSt.turn {n x : Nat} {p : List Nat} {o : List Nat} (h : PutSt n p false o) (hx : n < x) : PutSt n (p ++ [x]) true (o ++ [n] ++ [x]) := by
  obtain ⟨h1, h2⟩ := h.off rfl
  obtain ⟨g1, g2⟩ := low_all h2
  obtain ⟨k1, k2⟩ := snoc_high p hx
  refine ⟨fun h => (by cases h), fun _ => ⟨?_, x, by simp, hx⟩, fun hm => ?_⟩
  · rw [k1, k2, g1, g2, h1]; simp
  · rcases List.mem_append.1 hm with h3 | h3
    · exact h.none h3
    · simp at h3; omega
theorem PutSt.high {n x : Nat} {p : List Nat} {o : List Nat} (h : PutSt n p true o) (hx : n < x) : PutSt n (p ++ [x]) true (o ++ [x]) := by
  obtain ⟨h1, y, h2, h3⟩ := h.on rfl
  obtain ⟨k1, k2⟩ := snoc_high p hx
  refine ⟨fun h => (by cases h), fun _ => ⟨?_, y, by simp [h2], h3⟩, fun hm => ?_⟩
  · rw [k1, k2, h1]; simp
  · rcases List.mem_append.1 hm with h3 | h3
    · exact h.none h3
    · simp at h3; omega
theorem PutSt.end_off {n : Nat} {p : List Nat} {o : List Nat} (h : PutSt n p false o) : layN p n = o ++ [n] := by
  obtain ⟨h1, h2⟩ := h.off rfl
  obtain ⟨g1, g2⟩ := low_all h2
  unfold layN
  rw [if_neg h.none]
  show lowN n p ++ n :: highN n p = _
  rw [g1, g2, h1]
theorem PutSt.end_on {n : Nat} {p : List Nat} {o : List Nat} (h : PutSt n p true o) : layN p n = o := by
  obtain ⟨h1, -⟩ := h.on rfl
  unfold layN
  rw [if_neg h.none, h1]
  rfl
theorem PutSt.len {n : Nat} {p : List Nat} {d : Bool} {o : List Nat} (h : PutSt n p d o) : o.length ≤ p.length + 1 := by
  cases d with
  | false => rw [(h.off rfl).1]; omega
  | true =>
    rw [(h.on rfl).1]
    have e : ∀ q : List Nat, (lowN n q).length + (highN n q).length ≤ q.length := fun q => by
      induction q with
      | nil => simp [lowN, highN]
      | cons x q ih =>
        unfold lowN highN at ih ⊢
        simp only [List.filter_cons]
        by_cases h1 : x < n <;> by_cases h2 : n < x <;> simp [h1, h2] <;> omega
    have := e p
    simp; omega

abbrev Any1 : Nat → Prop := fun _ => True
set_option maxRecDepth 100000 in
set_option maxHeartbeats 8000000 in
theorem rputN_any (w : World) (v : Value) (l : List Nat) (n : Nat) (hv : Nums Any1 w v l) (hl : l.length ≤ 100000) (hup : UpN l) :
    Calls Tryz.prog 35 #[v, .int .u64 n] w fun e w' => ∃ v', e = .returned v' ∧ Nums Any1 w' v' (layN l n) ∧ Ext w w' := by
  have G := Lib.hid hv
  have HUP := Lib.hid hup
  obtain ⟨na, nc, rfl, -, hm, -⟩ := hv
  unfold maxLen at hm
  obtain ⟨B, hB⟩ : ∃ B, B = w.heap.size := ⟨_, rfl⟩
  have HB := Lib.hid hB
  clear hB hup
  go_enter Tryz.func35, Tryz.ntmps35
  go_wp2
  go_loopw [5, 6, 7] (fun u d t wr => ∃ (i : Nat) (db : Bool) (o : List Nat), i ≤ l.length ∧ t = .int .i64 i ∧ d = .bool db ∧ Hid (PutSt n (l.take i) db o) ∧ wr.ownsRow B 22 1 u o.length (o.map nv) ∧ Ext w wr) (fun _ _ t _ => l.length - (intOf t).toNat)
  case atStart => exact ⟨0, false, [], Nat.zero_le _, rfl, rfl, Lib.hid ⟨fun _ => ⟨by simp, fun x hx => by simp at hx⟩, fun h => (by cases h), by simp⟩, World.ownsRow_nil _ _ _ _, Upd.refl _ _⟩
  case round =>
    obtain ⟨i, db, o, hi, rfl, rfl, HST, hown, hx⟩ := hrel
    have HX := Lib.hid hx
    obtain ⟨a3, c3, rfl⟩ := ownsFormV hown
    have hol : o.length ≤ 100001 := by have := HST.out.len; simp at this; omega
    by_cases hlt : i < l.length
    · obtain ⟨b1, o1, c1, e1, -, -, -, hq1⟩ := (G.out.ext hx).addr (by omega)
      cases e1
      have hc := nums_cell hq1 i hlt
      have hsn : l.take (i + 1) = l.take i ++ [l[i]] := List.take_succ_eq_append_getElem hlt
      have hmem : l[i] ∈ l := List.getElem_mem hlt
      have hgt : ∀ y ∈ l.take i, y < l[i] := fun y hy => by
        obtain ⟨j, hj, rfl⟩ := List.mem_iff_getElem.1 hy
        have hj' : j < i := by simp at hj; omega
        rw [List.getElem_take]
        exact List.pairwise_iff_getElem.1 HUP.out j i (by omega) hlt hj'
      obtain ⟨x, hxx⟩ : ∃ x, x = l[i] := ⟨_, rfl⟩
      rw [← hxx] at hc hsn hmem hgt
      have HSN := Lib.hid hsn
      have HGT := Lib.hid hgt
      have HMEM := Lib.hid hmem
      have HOWN := Lib.hid hown
      have cellNum : Hid (∀ wq, Ext w wq → wq.cell? ⟨b1, o1 + i, none⟩ = some (.int .u64 x)) := Lib.hid fun wq hq => by
        obtain ⟨b2, o2, c2, e2, -, -, -, hq2⟩ := (G.out.ext hq).addr (by omega)
        cases e2
        rw [hxx]
        exact nums_cell hq2 i hlt
      clear hq1 hsn hgt hmem hxx hown hx
      by_cases he : x = n
      · have ge : ((x : Int) == (n : Int)) = true := by simp [he]
        have HL := Lib.hid (show layN l n = l by unfold layN; rw [if_pos (by rw [← he]; exact HMEM.out)])
        clear he
        go_wp2
        go_ret
        refine ⟨_, rfl, ?_, HX.out⟩
        rw [HL.out]
        exact G.out.ext HX.out
      · have ge : ((x : Int) == (n : Int)) = false := by simp; omega
        have HNE := Lib.hid he
        clear he
        cases db with
        | false =>
          by_cases hxn : n < x
          · have hz : (n : Int) < (x : Int) := by omega
            have HLTN := Lib.hid hxn
            go_wp2_with (at_builtin; go_must (refine wpList_append_row rfl _ _ _ rfl Tryz.numsT rfl (HOWN.out.alloc _) rfl (row_new _ _ _ 1 _ (by decide) (by simp)) rfl (nv_ones [n]) ?c3 ?c4 ?c5 ?_))
            case c3 => unfold maxLen; omega
            case c4 => omega
            case c5 => have h1 := HX.out.size; have h2 := HB.out; first | omega | (simp; omega)
            intro qv qw qown qg _
            have qx := (HX.out.alloc _).grown qg (fun j hj h => by have := (HOWN.out.lt j hj).1; have := HB.out; omega)
            have qX := Lib.hid qx
            have qOWN := Lib.hid (show qw.ownsRow B 22 1 qv (o.length + 1) ((o ++ [n]).map nv) by first | (rw [List.map_append]; exact qown) | simpa [nv] using qown)
            clear qx qown qg
            obtain ⟨qa, qc, rfl⟩ := ownsFormV qOWN.out
            have hcq := cellNum.out _ qX.out
            go_wp2_with (at_builtin; go_must (refine wpList_append_row rfl _ _ _ rfl Tryz.numsT rfl (qOWN.out.alloc _) rfl (row_new _ _ _ 1 _ (by decide) (by simp)) rfl (nv_ones [x]) ?c3 ?c4 ?c5 ?_))
            case c3 => unfold maxLen; omega
            case c4 => omega
            case c5 => have h1 := qX.out.size; have h2 := HB.out; first | omega | (simp; omega)
            intro pv pw pown pg _
            have px := (qX.out.alloc _).grown pg (fun j hj h => by have := (qOWN.out.lt j hj).1; have := HB.out; omega)
            have pX := Lib.hid px
            have pOWN := Lib.hid (show pw.ownsRow B 22 1 pv (o.length + 1 + 1) (((o ++ [n]) ++ [x]).map nv) by first | (rw [List.map_append]; exact pown) | simpa [nv] using pown)
            clear px pown pg
            go_wp2
            go_roundw
            case rel => exact ⟨i + 1, true, _, by omega, by go_num, rfl, Lib.hid (by rw [HSN.out]; exact HST.out.turn HLTN.out), by simpa using pOWN.out, pX.out⟩
            case measure => simp [intOf]; omega
          · have hz : ¬ (n : Int) < (x : Int) := by omega
            have HLOW := Lib.hid (show x < n by have := HNE.out; omega)
            go_wp2_with (at_builtin; go_must (refine wpList_append_row rfl _ _ _ rfl Tryz.numsT rfl (HOWN.out.alloc _) rfl (row_new _ _ _ 1 _ (by decide) (by simp)) rfl (nv_ones [x]) ?c3 ?c4 ?c5 ?_))
            case c3 => unfold maxLen; omega
            case c4 => omega
            case c5 => have h1 := HX.out.size; have h2 := HB.out; first | omega | (simp; omega)
            intro pv pw pown pg _
            have px := (HX.out.alloc _).grown pg (fun j hj h => by have := (HOWN.out.lt j hj).1; have := HB.out; omega)
            have pX := Lib.hid px
            have pOWN := Lib.hid (show pw.ownsRow B 22 1 pv (o.length + 1) ((o ++ [x]).map nv) by first | (rw [List.map_append]; exact pown) | simpa [nv] using pown)
            clear px pown pg
            go_wp2
            go_roundw
            case rel => exact ⟨i + 1, false, _, by omega, by go_num, rfl, Lib.hid (by rw [HSN.out]; exact HST.out.low HLOW.out), by simpa using pOWN.out, pX.out⟩
            case measure => simp [intOf]; omega
        | true =>
          have HHI := Lib.hid (show n < x by
            obtain ⟨-, y, hy, hny⟩ := HST.out.on rfl
            exact Nat.lt_trans hny (HGT.out y hy))
          go_wp2_with (at_builtin; go_must (refine wpList_append_row rfl _ _ _ rfl Tryz.numsT rfl (HOWN.out.alloc _) rfl (row_new _ _ _ 1 _ (by decide) (by simp)) rfl (nv_ones [x]) ?c3 ?c4 ?c5 ?_))
          case c3 => unfold maxLen; omega
          case c4 => omega
          case c5 => have h1 := HX.out.size; have h2 := HB.out; first | omega | (simp; omega)
          intro pv pw pown pg _
          have px := (HX.out.alloc _).grown pg (fun j hj h => by have := (HOWN.out.lt j hj).1; have := HB.out; omega)
          have pX := Lib.hid px
          have pOWN := Lib.hid (show pw.ownsRow B 22 1 pv (o.length + 1) ((o ++ [x]).map nv) by first | (rw [List.map_append]; exact pown) | simpa [nv] using pown)
          clear px pown pg
          go_wp2
          go_roundw
          case rel => exact ⟨i + 1, true, _, by omega, by go_num, rfl, Lib.hid (by rw [HSN.out]; exact HST.out.high HHI.out), by simpa using pOWN.out, pX.out⟩
          case measure => simp [intOf]; omega
    · have hil : i = l.length := by omega
      rw [hil, List.take_length] at HST
      have HOWN := Lib.hid hown
      clear hx hown hil
      cases db with
      | false =>
        have HE := Lib.hid (HST.out.end_off)
        go_wp2_with (at_builtin; go_must (refine wpList_append_row rfl _ _ _ rfl Tryz.numsT rfl (HOWN.out.alloc _) rfl (row_new _ _ _ 1 _ (by decide) (by simp)) rfl (nv_ones [n]) ?c3 ?c4 ?c5 ?_))
        case c3 => unfold maxLen; omega
        case c4 => omega
        case c5 => have h1 := HX.out.size; have h2 := HB.out; first | omega | (simp; omega)
        intro pv pw pown pg _
        have px := (HX.out.alloc _).grown pg (fun j hj h => by have := (HOWN.out.lt j hj).1; have := HB.out; omega)
        have pX := Lib.hid px
        have pOWN := Lib.hid (show pw.ownsRow B 22 1 pv (o.length + 1) ((o ++ [n]).map nv) by first | (rw [List.map_append]; exact pown) | simpa [nv] using pown)
        clear px pown pg
        go_wp2
        go_ret
        refine ⟨_, rfl, ?_, pX.out⟩
        rw [HE.out]
        have h := Row.of_owns pOWN.out
        unfold Nums
        simpa using h.mono (fun _ _ => trivial)
      | true =>
        have HE := Lib.hid (HST.out.end_on)
        go_wp2
        go_ret
        refine ⟨_, rfl, ?_, HX.out⟩
        rw [HE.out]
        exact (Row.of_owns HOWN.out).mono (fun _ _ => trivial)
end Go.Proofs.YtfpioijfocmfcaaGreatDoor
namespace Go.Proofs.YtfpioijfocmfcaaGreatDoor
open Go.RowKit

theorem chains_length : ∀ (l a : List Nat), (l.foldl layN a).length ≤ a.length + l.length
  | [], a => by simp
  | n :: l, a => by
    have h := chains_length l (layN a n)
    have h2 : (layN a n).length ≤ a.length + 1 := by
      unfold layN
      split
      · omega
      · have e : ∀ q : List Nat, (q.filter fun x => decide (x < n)).length + (q.filter fun x => decide (n < x)).length ≤ q.length := fun q => by
          induction q with
          | nil => simp
          | cons x q ih =>
            simp only [List.filter_cons]
            by_cases h1 : x < n <;> by_cases h2 : n < x <;> simp [h1, h2] <;> omega
        have := e a
        simp; omega
    simp only [List.foldl_cons, List.length_cons]
    omega
theorem chains_len (l : List (List UInt8)) : (chainsF l).length ≤ l.length := by
  have h := chains_length (docsF l) []
  have := docs_length l
  unfold chainsF
  simp at h
  omega

set_option maxRecDepth 100000 in
set_option maxHeartbeats 8000000 in
theorem rchains_any {S : Nat → Prop} (w : World) (nw : Value) (l : List (List UInt8)) (hr : Texts S w nw l) (hl : l.length ≤ 100000) (hs : ∀ s ∈ l, s.length ≤ 1000000) :
    Calls Tryz.prog 22 #[nw] w fun e w' => ∃ v', e = .returned v' ∧ Nums Any1 w' v' (chainsF l) ∧ Ext w w' := by
  have G := Lib.hid hr
  have HLB := Lib.hid hs
  obtain ⟨na, cp, rfl, hlc, hm, -⟩ := hr
  unfold maxLen at hm
  clear hs
  go_enter Tryz.func22, Tryz.ntmps22
  go_wp2
  go_loopw [3, 4] (fun u t wr => ∃ n : Nat, n ≤ l.length ∧ t = .int .i64 n ∧ Nums Any1 wr u (chainsF (l.take n)) ∧ Ext w wr) (fun _ t _ => l.length - (intOf t).toNat)
  case atStart => exact ⟨0, Nat.zero_le _, rfl, by rw [List.take_zero]; exact (Row.of_owns (World.ownsRow_nil w 0 22 1)).mono (fun _ _ => trivial), Upd.refl _ _⟩
  case round =>
    obtain ⟨n, hn, rfl, hnum, hx⟩ := hrel
    have HX := Lib.hid hx
    have HN := Lib.hid hnum
    by_cases hlt : n < l.length
    · obtain ⟨b1, o1, c1, e1, -, -, -, hq1⟩ := (G.out.ext hx).addr (by omega)
      cases e1
      have hc := texts_cell hq1 n hlt
      have hsl := HLB.out (l[n]) (List.getElem_mem hlt)
      have hsn : l.take (n + 1) = l.take n ++ [l[n]] := List.take_succ_eq_append_getElem hlt
      have hnf := chains_snoc (l.take n) (l[n])
      rw [← hsn] at hnf
      have hcl : (chainsF (l.take n)).length ≤ 100000 := Nat.le_trans (chains_len _) (by simp; omega)
      have hup := chains_up (l.take n)
      obtain ⟨s, hs⟩ : ∃ s, s = l[n] := ⟨_, rfl⟩
      rw [← hs] at hc hsl hnf
      obtain ⟨x, hxx⟩ : ∃ x, x = (parseF s).1 := ⟨_, rfl⟩
      obtain ⟨ok, hok⟩ : ∃ o, o = (parseF s).2 := ⟨_, rfl⟩
      have hpp : parseF s = (x, ok) := by rw [hxx, hok]
      have hdf : docF s = if ok = true ∧ x.kind ≠ 3 then some x.doc else none := by unfold docF; rw [← hxx, ← hok]
      have hk4 : ok = true → 1 ≤ x.kind ∧ x.kind ≤ 4 := fun h => by
        have := mayF_iff.1 (put_parse (s := s) (by rw [← hok]; exact h)).1
        rw [hxx]; exact ⟨this.1, this.2.1⟩
      rw [hdf] at hnf
      obtain ⟨cs, hcs⟩ : ∃ cs, cs = chainsF (l.take n) := ⟨_, rfl⟩
      rw [← hcs] at hnf hnum hcl hup
      have hcon := fun wq => rparse_any wq s hsl
      unfold ParsePost at hcon
      simp only [hpp] at hcon
      obtain ⟨xk, xd, xn, xp, xi, xs⟩ := x
      have HCON := Lib.hid (show ∀ wq, Calls Tryz.prog 31 #[str s] wq (fun e w' => e = .returned (.tuple #[.agg #[.int .u8 xk, .int .u64 xd, .int .u64 xn, .int .u64 xp, .int .u64 xi, .int .u64 xs], .bool ok]) ∧ Ext wq w') from hcon)
      have HNF := Lib.hid hnf
      have HNUM := Lib.hid hnum
      have HK4 := Lib.hid hk4
      have HUP := Lib.hid hup
      have HCL := Lib.hid hcl
      clear hq1 hsl hsn hs hxx hok hpp hcon hnf hx hnum hk4 hup hcl hdf hcs HN
      go_wp2_with (go_at_call 31; fail)
      refine (HCON.out _).mono ?_
      rintro e w5 ⟨rfl, hx5⟩
      obtain ⟨w6, hw6⟩ : ∃ u, u = w5.alloc (.cells #[.int .u8 xk, .int .u64 xd, .int .u64 xn, .int .u64 xp, .int .u64 xi, .int .u64 xs] 70) := ⟨_, rfl⟩
      have hx6 : Ext wr w6 := hx5.trans (by rw [hw6]; exact (Upd.refl _ _).alloc _)
      have HX6 := Lib.hid (HX.out.trans hx6)
      have HN6 := Lib.hid (HNUM.out.ext hx6)
      have HW6 := Lib.hid hw6
      clear hx5 hc hx6 hw6
      cases ok with
      | false =>
        go_wp2
        rw [← HW6.out]
        go_roundw
        case rel => exact ⟨n + 1, by omega, by go_num, by rw [HNF.out, if_neg (by simp)]; exact HN6.out, HX6.out⟩
        case measure => simp [intOf]; omega
      | true =>
        obtain ⟨k1, k2⟩ := HK4.out rfl
        have HPUT := Lib.hid (rputN_any w6 _ cs xd HN6.out HCL.out HUP.out)
        by_cases h3 : xk = 3
        · have g1 : ((xk : Int) == 1) = false := by simp; omega
          have g2 : ((xk : Int) == 2) = false := by simp; omega
          have g4 : ((xk : Int) == 4) = false := by simp; omega
          have H3 := Lib.hid h3
          clear h3 k1 k2
          go_wp2
          rw [← HW6.out]
          go_roundw
          case rel => exact ⟨n + 1, by omega, by go_num, by rw [HNF.out, if_neg (fun h => h.2 H3.out)]; exact HN6.out, HX6.out⟩
          case measure => simp [intOf]; omega
        · have H3 := Lib.hid h3
          have hk : xk = 1 ∨ xk = 2 ∨ xk = 4 := by omega
          clear h3 k1 k2
          have END : Hid (∀ v' w7, Nums Any1 w7 v' (layN cs xd) → Ext w6 w7 → ∃ n', n' ≤ l.length ∧ Value.int .i64 ((n : Int) + 1) = .int .i64 (n' : Nat) ∧ Nums Any1 w7 v' (chainsF (l.take n')) ∧ Ext w w7) := Lib.hid fun v' w7 h1 h2 =>
            ⟨n + 1, by omega, by go_num, by rw [HNF.out, if_pos ⟨rfl, H3.out⟩]; exact h1, HX6.out.trans h2⟩
          rcases hk with hk | hk | hk
          · have g1 : ((xk : Int) == 1) = true := by simp [hk]
            clear hk
            go_wp2_with (go_at_call 35; fail)
            rw [← HW6.out]
            refine HPUT.out.mono ?_
            rintro e w7 ⟨v', rfl, hn7, hx7⟩
            have HE := Lib.hid (END.out v' w7 hn7 hx7)
            clear hn7 hx7
            go_wp2
            go_roundw
            case rel => exact HE.out
            case measure => simp [intOf]; omega
          · have g1 : ((xk : Int) == 1) = false := by simp; omega
            have g2 : ((xk : Int) == 2) = true := by simp [hk]
            clear hk
            go_wp2_with (go_at_call 35; fail)
            rw [← HW6.out]
            refine HPUT.out.mono ?_
            rintro e w7 ⟨v', rfl, hn7, hx7⟩
            have HE := Lib.hid (END.out v' w7 hn7 hx7)
            clear hn7 hx7
            go_wp2
            go_roundw
            case rel => exact HE.out
            case measure => simp [intOf]; omega
          · have g1 : ((xk : Int) == 1) = false := by simp; omega
            have g2 : ((xk : Int) == 2) = false := by simp; omega
            have g4 : ((xk : Int) == 4) = true := by simp [hk]
            clear hk
            go_wp2_with (go_at_call 35; fail)
            rw [← HW6.out]
            refine HPUT.out.mono ?_
            rintro e w7 ⟨v', rfl, hn7, hx7⟩
            have HE := Lib.hid (END.out v' w7 hn7 hx7)
            clear hn7 hx7
            go_wp2
            go_roundw
            case rel => exact HE.out
            case measure => simp [intOf]; omega
    · have hnl : n = l.length := by omega
      rw [hnl, List.take_length] at HN
      clear hnum
      go_wp2
      go_ret
      exact ⟨_, rfl, HN.out, hx⟩
end Go.Proofs.YtfpioijfocmfcaaGreatDoor
