/-
  CONTRACTS of view's Keep.earlier, Keep.done, Keep.over, and of View.Void, View.Next. No condition.
  CONTRACT of view's Keep.over. No condition.
-/
import Derived.Test.YtfpioijfocmfcaaGreatDoorYOf
import Derived.Test.YtfpioijfocmfcaaGreatDoorYLay
import Derived.Laws.StructEq
namespace Go.Proofs.YtfpioijfocmfcaaGreatDoor
open Go.RowKit Go.Shelf Go.Lib

set_option maxRecDepth 100000 in
set_option maxHeartbeats 1000000 in
theorem earlier_any {S : Nat → Prop} (w : World) (a b c : Value) (q : Option Mk) (m : Mk) (h : OwnIs S w c q) :
    Calls Tryz.prog 44 #[.agg #[a, b, c], .agg (mkCells m)] w fun e w' => e = .returned (.bool (earlierF q m)) ∧ Ext w w' := by
  show Calls Tryz.prog 44 #[.agg #[a, b, c], .agg #[.int .u64 m.proc, .int .u64 m.inc, .int .u64 m.k]] w _
  have HX := Lib.hid (show Ext w ((w.alloc (.cells #[a, b, c] 28)).alloc (.cells #[.int .u64 m.proc, .int .u64 m.inc, .int .u64 m.k] 61)) from ((Upd.refl _ _).alloc _).alloc _)
  cases q with
  | none =>
    have h : c = .pointer none := h
    subst h
    go_enter Tryz.func44, Tryz.ntmps44
    go_wp2
    go_quiet (fail)
    go_wp2
    go_ret
    exact ⟨rfl, HX.out.drewN _⟩
  | some q =>
    obtain ⟨g, o, rfl, -, hr⟩ := h
    have c0 := hr 0 (u64 q.proc) rfl
    have c1 := hr 1 (u64 q.inc) rfl
    rw [Nat.add_zero] at c0
    have hg := World.block_lt_of_cell? w ⟨g, o, none⟩ c0
    clear hr
    by_cases hp : m.proc = q.proc
    · have f0 : ((m.proc : Int) == (q.proc : Int)) = true := by simp [hp]
      have HR := Lib.hid (show earlierF (some q) m = decide (m.inc < q.inc) by simp [earlierF, hp])
      clear hp
      go_enter Tryz.func44, Tryz.ntmps44
      go_wp2
      go_quiet (fail)
      go_wp2
      go_ret
      exact ⟨by rw [HR.out]; rfl, HX.out.drewN _⟩
    · have f0 : ((m.proc : Int) == (q.proc : Int)) = false := by simp; omega
      have HR := Lib.hid (show earlierF (some q) m = false by simp [earlierF, hp])
      clear hp
      go_enter Tryz.func44, Tryz.ntmps44
      go_wp2
      go_quiet (fail)
      go_wp2
      go_ret
      exact ⟨by rw [HR.out]; rfl, HX.out.drewN _⟩
/-- The closure of Keep.done: is it the same life's? -/
theorem same_pred (m : Mk) (B : Nat) (w : World) {T : TypeId} (hb : w.heap[B]? = some (.cells #[.int .u64 m.proc, .int .u64 m.inc, .int .u64 m.k] T (0, 0))) :
    PredBelow Tryz.prog 64 #[.pointer (some ⟨B, 0, none⟩)] (fun x => .agg (encM x).toArray) (sameL m) w := fun W x hbw => by
  have hB := lt_of_heap hb
  have hbW : W.heap[B]? = some (.cells #[.int .u64 m.proc, .int .u64 m.inc, .int .u64 m.k] T (0, 0)) := (hbw.block B hB).trans hb
  have hBW := lt_of_heap hbW
  have c0 := cellAt hbW 0 _ rfl
  have c1 := cellAt hbW 1 _ rfl
  clear hbW hb
  have HB := Lib.hid hbw
  clear hbw
  show Calls Tryz.prog 64 #[.agg #[.int .u64 x.proc, .int .u64 x.inc, .int .u64 x.k], .pointer (some ⟨B, 0, none⟩)] W _
  by_cases hp : x.proc = m.proc
  · have f0 : ((x.proc : Int) == (m.proc : Int)) = true := by simp [hp]
    have HR := Lib.hid (show sameL m x = ((x.inc : Int) == (m.inc : Int)) by rw [Bool.eq_iff_iff]; simp [sameL, hp]; omega)
    clear hp
    go_enter Tryz.func64, Tryz.ntmps64
    go_wp2
    go_ret
    exact ⟨by rw [HR.out]; rfl, HB.out.alloc HB.out.size _⟩
  · have f0 : ((x.proc : Int) == (m.proc : Int)) = false := by simp; omega
    have HR := Lib.hid (show sameL m x = false by simp [sameL, hp])
    clear hp
    go_enter Tryz.func64, Tryz.ntmps64
    go_wp2
    go_ret
    exact ⟨by rw [HR.out]; rfl, HB.out.alloc HB.out.size _⟩
/-- Of no element. -/
theorem idx_none (p : Option Addr) (cap : Nat) (f : Value) (w : World) : Calls Tryz.prog 63 #[.slice p 0 cap, f] w fun e w' => e = .returned (.int .i64 (-1)) ∧ Ext w w' := by
  go_enter Tryz.func63, Tryz.ntmps63
  go_wp2
  refine wp_loop_rounds 1 ?_
  rw [rounds_succ]
  go_wp2
  go_ret
  exact ⟨rfl, Upd.refl _ _⟩
set_option maxRecDepth 100000 in
set_option maxHeartbeats 1000000 in
theorem done_any {S : Nat → Prop} (w : World) (a b c : Value) (l : List Mk) (m : Mk) (h : MkRow S w b l) :
    Calls Tryz.prog 46 #[.agg #[a, b, c], .agg (mkCells m)] w fun e w' => e = .returned (.bool (doneF l m)) ∧ Ext w w' := by
  show Calls Tryz.prog 46 #[.agg #[a, b, c], .agg #[.int .u64 m.proc, .int .u64 m.inc, .int .u64 m.k]] w _
  obtain ⟨w2, hw2⟩ : ∃ u, u = (w.alloc (.cells #[a, b, c] 28)).alloc (.cells #[.int .u64 m.proc, .int .u64 m.inc, .int .u64 m.k] 61) := ⟨_, rfl⟩
  have hx2 : Ext w w2 := by rw [hw2]; exact ((Upd.refl _ _).alloc _).alloc _
  have hK : w2.heap[w.heap.size]? = some (.cells #[a, b, c] 28 (0, 0)) := by
    rw [hw2]; exact (Below.heap_alloc _ _ _ (by simp)).trans (newAt _ _)
  have hM : w2.heap[w.heap.size + 1]? = some (.cells #[.int .u64 m.proc, .int .u64 m.inc, .int .u64 m.k] 61 (0, 0)) := by
    rw [hw2]; have := newAt (w.alloc (.cells #[a, b, c] 28)) (.cells #[.int .u64 m.proc, .int .u64 m.inc, .int .u64 m.k] 61); simpa using this
  have hr := h.ext hx2
  have HW2 := Lib.hid hw2
  have HX2 := Lib.hid hx2
  have HK := Lib.hid hK
  have HM := Lib.hid hM
  have HR := Lib.hid hr
  obtain ⟨ad, cp, rfl, -, -, -⟩ := hr
  clear hw2 hx2 hK hM h
  go_enter Tryz.func46, Tryz.ntmps46
  go_wp2_with (go_at_call 63; fail)
  rw [show (w.alloc (.cells #[a, .slice ad l.length cp, c] 28)).alloc (.cells #[.int .u64 m.proc, .int .u64 m.inc, .int .u64 m.k] 61) = w2 from HW2.out.symm]
  by_cases hl : l = []
  · subst hl
    refine (idx_none ad cp _ w2).mono ?_
    rintro e w3 ⟨rfl, hx3⟩
    have HX3 := Lib.hid (HX2.out.trans hx3)
    clear hx3
    go_wp2
    go_quiet (fail)
    go_wp2
    go_ret
    exact ⟨rfl, HX3.out.drewN _⟩
  have hpos : 0 < l.length := List.length_pos_iff.2 hl
  obtain ⟨b1, o1, c1, e1, -, hn1, hm1, hq⟩ := HR.out.addr hpos
  cases e1
  have hb1 : b1 < w2.heap.size := World.block_lt_of_cell? w2 ⟨b1, o1 + 0 * 3 + 0, none⟩ (mk_cells hq hpos 0 _ rfl)
  unfold maxLen at hm1
  have hcon := AnyQ.slices_IndexFunc (P := Tryz.prog) Tryz.idxM 3 Tryz.isAgg61 Tryz.sizeOf61 encM (fun _ => rfl) (sameL m) 64 #[.pointer (some ⟨w.heap.size + 1, 0, none⟩)] (enters_of Tryz.func64 (by kernel_rfl) rfl)
    b1 o1 l.length cp l w2 (same_pred m _ w2 HM.out) (Nat.le_refl _) (by omega) hb1 (mk_holds hq)
  change Calls Tryz.prog 63 _ _ _ at hcon
  rw [List.take_length] at hcon
  refine hcon.mono ?_
  rintro e w3 ⟨rfl, hb3⟩
  have hx3 := ext_below hb3
  have HX3 := Lib.hid (HX2.out.trans hx3)
  have HK3 := Lib.hid (hx3.at_ HK.out id)
  have HM3 := Lib.hid (hx3.at_ HM.out id)
  have hf := idx_find (sameL m) l 0
  change (Lib.idxBy (fun _ y => sameL m y) l default = -1 ∧ _) ∨ (∃ k, ∃ h : k < l.length, Lib.idxBy (fun _ y => sameL m y) l default = _ ∧ _) at hf
  clear hcon hb3
  rcases hf with ⟨hf1, hf2⟩ | ⟨k, hk, hf1, hf2⟩
  · rw [hf1]
    have HD := Lib.hid (show doneF l m = false by unfold doneF; rw [hf2])
    clear hf1 hf2 hx3 hq
    go_wp2
    go_quiet (fail)
    go_wp2
    go_ret
    exact ⟨by rw [HD.out]; rfl, HX3.out.drewN _⟩
  · rw [hf1]
    have HD := Lib.hid (show doneF l m = decide (m.k ≤ (l[k]).k) by unfold doneF; rw [hf2])
    have d0 := hx3.cell (mk_cells hq hk 2 (u64 (l[k]).k) rfl) id
    have d1 := cellAt HK3.out 1 _ rfl
    have d2 := cellAt HM3.out 2 _ rfl
    have hki : ((0 + k : Nat) : Int) = (k : Int) := by omega
    rw [hki]
    have hk' : (k : Int) < (l.length : Int) := by omega
    generalize (l[k]).k = z at HD d0
    clear hf1 hf2 hx3 hq hki
    go_wp2
    go_quiet (fail)
    go_wp2
    go_ret
    exact ⟨by rw [HD.out]; rfl, HX3.out.drewN _⟩
end Go.Proofs.YtfpioijfocmfcaaGreatDoor
namespace Go.Proofs.YtfpioijfocmfcaaGreatDoor
open Go.RowKit Go.Shelf Go.Lib

theorem mk_eql : EqlAt Tryz.prog 61 (fun x => .agg (encM x).toArray) (fun x y : Mk => decide (x = y)) := by
  refine ⟨fun x y w => ?_, GuardAt.agg _ (by kernel_rfl)⟩
  have u3 := Tryz.underlying22
  have hS : Tryz.prog.underlying 61 = some (.struct (Tryz.prog.fieldsOf 61)) := by kernel_rfl
  have hp : Tryz.prog.stoodInHeld 61 = false := by kernel_rfl
  obtain ⟨a, b, c⟩ := x
  obtain ⟨a', b', c'⟩ := y
  simp only [encM]
  rw [run_eql_struct, show (10000 : Nat) = 9999 + 1 from rfl, run_equalIn_agg w 9999 61 _ _ hS hp]
  simp only [Program.fieldsOf, Tryz.underlying61]
  go_simp
  by_cases h1 : a = a' <;> by_cases h2 : b = b' <;> by_cases h3 : c = c' <;> simp [h1, h2, h3] <;> omega
theorem index_none (p : Option Addr) (cap : Nat) (m : Mk) (w : World) : Calls Tryz.prog 62 #[.slice p 0 cap, .agg #[.int .u64 m.proc, .int .u64 m.inc, .int .u64 m.k]] w fun e w' => e = .returned (.int .i64 (-1)) ∧ Ext w w' := by
  go_enter Tryz.func62, Tryz.ntmps62
  go_wp2
  refine wp_loop_rounds 1 ?_
  rw [rounds_succ]
  go_wp2
  go_ret
  exact ⟨rfl, (Upd.refl _ _).alloc _⟩
theorem cont_any {S : Nat → Prop} (w : World) (v : Value) (l : List Mk) (m : Mk) (h : MkRow S w v l) :
    Calls Tryz.prog 45 #[v, .agg #[.int .u64 m.proc, .int .u64 m.inc, .int .u64 m.k]] w fun e w' => e = .returned (.bool (l.contains m)) ∧ Ext w w' := by
  have HR := Lib.hid h
  obtain ⟨ad, cp, rfl, -, -, -⟩ := h
  by_cases hl : l = []
  · subst hl
    clear HR
    go_enter Tryz.func45, Tryz.ntmps45
    go_wp2_with (go_at_call 62; fail)
    refine (index_none ad cp m _).mono ?_
    rintro e w3 ⟨rfl, hx3⟩
    go_wp2
    go_ret
    exact ⟨rfl, ((Upd.refl _ _).alloc _).trans hx3⟩
  have hpos : 0 < l.length := List.length_pos_iff.2 hl
  obtain ⟨b1, o1, c1, e1, -, hn1, hm1, hq⟩ := HR.out.addr hpos
  cases e1
  unfold maxLen at hm1
  have hcon := AnyQ.slices_Contains (P := Tryz.prog) Tryz.contM 3 Tryz.isAgg61 Tryz.sizeOf61 encM (fun _ => rfl) _ mk_eql b1 o1 l.length cp l m w (Nat.le_refl _) (by omega) (mk_holds hq)
  change Calls Tryz.prog 45 _ _ _ at hcon
  rw [List.take_length] at hcon
  refine hcon.mono ?_
  rintro e w3 ⟨rfl, hb3⟩
  refine ⟨?_, ext_below hb3⟩
  congr 2
  rw [Bool.eq_iff_iff]
  simp
theorem void_any (w : World) (v : Vw) (n : Nat) : Calls Tryz.prog 20 #[.agg (vwCells v), u64 n] w fun e w' => e = .returned (.bool (decide (n ≤ v.floor))) ∧ Ext w w' := by
  show Calls Tryz.prog 20 #[.agg #[.int .u64 v.chain, .int .u64 v.floor, .int .u64 v.tail], .int .u64 n] w _
  go_enter Tryz.func20, Tryz.ntmps20
  go_wp2
  go_ret
  exact ⟨rfl, (Upd.refl _ _).alloc _⟩
theorem next_any (w : World) (v : Vw) (hv : v.tail < 18446744073709551616) : Calls Tryz.prog 16 #[.agg (vwCells v)] w fun e w' => e = .returned (.tuple #[u64 (if v.tail = 18446744073709551615 then 0 else v.tail + 1), .bool (decide (v.tail ≠ 18446744073709551615))]) ∧ Ext w w' := by
  show Calls Tryz.prog 16 #[.agg #[.int .u64 v.chain, .int .u64 v.floor, .int .u64 v.tail]] w _
  by_cases h : v.tail = 18446744073709551615
  · have f0 : ((v.tail : Int) == 18446744073709551615) = true := by simp [h]
    rw [if_pos h, show decide (v.tail ≠ 18446744073709551615) = false by simp [h]]
    clear h
    go_enter Tryz.func16, Tryz.ntmps16
    go_wp2
    go_ret2
    exact ⟨rfl, (Upd.refl _ _).alloc _⟩
  · have f0 : ((v.tail : Int) == 18446744073709551615) = false := by simp; omega
    rw [if_neg h, show decide (v.tail ≠ 18446744073709551615) = true by simp [h]]
    have hlt : (v.tail : Int) + 1 ≤ 18446744073709551615 := by omega
    clear h
    go_enter Tryz.func16, Tryz.ntmps16
    go_wp2
    go_ret2
    exact ⟨rfl, (Upd.refl _ _).alloc _⟩
set_option maxRecDepth 100000 in
set_option maxHeartbeats 4000000 in
theorem over_any {S : Nat → Prop} (w : World) (a b c : Value) (k : Kp) (v : Vw) (x : Nm) (h : KeepIs S w a b c k) :
    Calls Tryz.prog 26 #[.agg #[a, b, c], .agg (vwCells v), .agg (nmCells x)] w fun e w' => e = .returned (.bool (overF v k x)) ∧ Ext w w' := by
  obtain ⟨xk, xd, xn, xp, xi, xs⟩ := x
  show Calls Tryz.prog 26 #[.agg #[a, b, c], .agg #[.int .u64 v.chain, .int .u64 v.floor, .int .u64 v.tail], .agg #[.int .u8 xk, .int .u64 xd, .int .u64 xn, .int .u64 xp, .int .u64 xi, .int .u64 xs]] w _
  have HK := Lib.hid h
  clear h
  obtain ⟨w4, hw4⟩ : ∃ u, u = (((w.alloc (.cells #[a, b, c] 28)).alloc (.cells #[.int .u64 v.chain, .int .u64 v.floor, .int .u64 v.tail] 24)).alloc (.cells #[.int .u8 xk, .int .u64 xd, .int .u64 xn, .int .u64 xp, .int .u64 xi, .int .u64 xs] 58)).alloc (.cells #[.int .u64 xp, .int .u64 xi, .int .u64 xs] 61) := ⟨_, rfl⟩
  have hx4 : Ext w w4 := by rw [hw4]; exact ((((Upd.refl _ _).alloc _).alloc _).alloc _).alloc _
  have hK : w4.heap[w.heap.size]? = some (.cells #[a, b, c] 28 (0, 0)) := by
    rw [hw4]; exact (Below.heap_alloc _ _ _ (by simp; omega)).trans ((Below.heap_alloc _ _ _ (by simp; omega)).trans ((Below.heap_alloc _ _ _ (by simp)).trans (newAt _ _)))
  have hM : w4.heap[w.heap.size + 3]? = some (.cells #[.int .u64 xp, .int .u64 xi, .int .u64 xs] 61 (0, 0)) := by
    rw [hw4, show w.heap.size + 3 = (((w.alloc (.cells #[a, b, c] 28)).alloc (.cells #[.int .u64 v.chain, .int .u64 v.floor, .int .u64 v.tail] 24)).alloc (.cells #[.int .u8 xk, .int .u64 xd, .int .u64 xn, .int .u64 xp, .int .u64 xi, .int .u64 xs] 58)).heap.size by simp]
    exact newAt _ _
  have HK4 := Lib.hid (HK.out.ext hx4)
  have HX4 := Lib.hid hx4
  have HKB := Lib.hid hK
  have HMB := Lib.hid hM
  have HW4 := Lib.hid hw4
  clear hx4 hK hM hw4
  by_cases h3 : xk = 3
  · have g3 : ((xk : Int) == 3) = true := by simp; omega
    have HR := Lib.hid (show overF v k ⟨xk, xd, xn, xp, xi, xs⟩ = earlierF k.own ⟨xp, xi, xs⟩ by simp [overF, h3, markOf])
    clear h3
    go_enter Tryz.func26, Tryz.ntmps26
    go_wp2_with (go_at_call 44; fail)
    rw [← HW4.out]
    refine (earlier_any w4 a b c k.own ⟨xp, xi, xs⟩ HK4.out.own).mono ?_
    rintro e w5 ⟨rfl, hx5⟩
    go_wp2
    go_ret
    exact ⟨by rw [HR.out]; rfl, HX4.out.trans hx5⟩
  have g3 : ((xk : Int) == 3) = false := by simp; omega
  by_cases hd : xd = v.chain
  case neg =>
    have gd : ((xd : Int) != (v.chain : Int)) = true := by simp; omega
    have HR := Lib.hid (show overF v k ⟨xk, xd, xn, xp, xi, xs⟩ = false by simp [overF, h3, hd])
    clear hd h3
    go_enter Tryz.func26, Tryz.ntmps26
    go_wp2
    go_ret
    rw [← HW4.out]
    exact ⟨by rw [HR.out]; rfl, HX4.out⟩
  have gd : ((xd : Int) != (v.chain : Int)) = false := by simp; omega
  by_cases h1 : xk = 1
  · have g1 : ((xk : Int) == 1) = true := by simp; omega
    by_cases hn : xn = 0
    · have gn : ((xn : Int) != 0) = false := by simp; omega
      have HR := Lib.hid (show overF v k ⟨xk, xd, xn, xp, xi, xs⟩ = false by simp [overF, h1, hd, hn])
      clear hd h3 hn h1
      go_enter Tryz.func26, Tryz.ntmps26
      go_wp2
      go_ret
      rw [← HW4.out]
      exact ⟨by rw [HR.out]; rfl, HX4.out⟩
    · have gn : ((xn : Int) != 0) = true := by simp; omega
      have HR := Lib.hid (show overF v k ⟨xk, xd, xn, xp, xi, xs⟩ = decide (xn ≤ v.floor) by simp [overF, h1, hd, hn])
      clear hd h3 hn h1
      go_enter Tryz.func26, Tryz.ntmps26
      go_wp2_with (go_at_call 20; fail)
      rw [← HW4.out]
      refine (void_any w4 v xn).mono ?_
      rintro e w5 ⟨rfl, hx5⟩
      go_wp2
      go_ret
      exact ⟨by rw [HR.out]; rfl, HX4.out.trans hx5⟩
  have g1 : ((xk : Int) == 1) = false := by simp; omega
  by_cases h2 : xk = 2
  · have g2 : ((xk : Int) == 2) = true := by simp; omega
    have HR := Lib.hid (show overF v k ⟨xk, xd, xn, xp, xi, xs⟩ = decide (xn < v.floor) by simp [overF, h2, hd])
    clear hd h3 h1 h2
    go_enter Tryz.func26, Tryz.ntmps26
    go_wp2
    go_ret
    rw [← HW4.out]
    exact ⟨by rw [HR.out]; rfl, HX4.out⟩
  have g2 : ((xk : Int) == 2) = false := by simp; omega
  have HR := Lib.hid (show overF v k ⟨xk, xd, xn, xp, xi, xs⟩ = (!(k.need.contains ⟨xp, xi, xs⟩) && (doneF k.last ⟨xp, xi, xs⟩ || earlierF k.own ⟨xp, xi, xs⟩)) by simp [overF, h3, hd, h1, h2, markOf])
  clear hd h3 h1 h2
  go_enter Tryz.func26, Tryz.ntmps26
  go_wp2_with (go_at_call 45; fail)
  rw [← HW4.out]
  refine (cont_any w4 a k.need ⟨xp, xi, xs⟩ HK4.out.need).mono ?_
  rintro e w5 ⟨rfl, hx5⟩
  have HX5 := Lib.hid (HX4.out.trans hx5)
  have HK5 := Lib.hid (HK4.out.ext hx5)
  have k0 := cellAt (hx5.at_ HKB.out id) 0 _ rfl
  have k1 := cellAt (hx5.at_ HKB.out id) 1 _ rfl
  have k2 := cellAt (hx5.at_ HKB.out id) 2 _ rfl
  have m0 := cellAt (hx5.at_ HMB.out id) 0 _ rfl
  have m1 := cellAt (hx5.at_ HMB.out id) 1 _ rfl
  have m2 := cellAt (hx5.at_ HMB.out id) 2 _ rfl
  have HKB5 := Lib.hid (hx5.at_ HKB.out id)
  have HMB5 := Lib.hid (hx5.at_ HMB.out id)
  clear hx5
  obtain ⟨bc, hbc⟩ : ∃ u, u = k.need.contains ⟨xp, xi, xs⟩ := ⟨_, rfl⟩
  obtain ⟨bd, hbd⟩ : ∃ u, u = doneF k.last ⟨xp, xi, xs⟩ := ⟨_, rfl⟩
  obtain ⟨be, hbe⟩ : ∃ u, u = earlierF k.own ⟨xp, xi, xs⟩ := ⟨_, rfl⟩
  rw [← hbc]
  have HR2 := Lib.hid (show overF v k ⟨xk, xd, xn, xp, xi, xs⟩ = (!bc && (bd || be)) by rw [HR.out, hbc, hbd, hbe])
  have HBD := Lib.hid hbd
  have HBE := Lib.hid hbe
  clear hbc hbd hbe
  cases bc with
  | true =>
    go_wp2
    go_ret
    exact ⟨by rw [HR2.out]; rfl, HX5.out⟩
  | false =>
    go_wp2_with (go_at_call 46; fail)
    refine (done_any w5 a b c k.last ⟨xp, xi, xs⟩ HK5.out.last).mono ?_
    rintro e w6 ⟨rfl, hx6⟩
    rw [← HBD.out]
    have HX6 := Lib.hid (HX5.out.trans hx6)
    have HK6 := Lib.hid (HK5.out.ext hx6)
    have n0 := cellAt (hx6.at_ HKB5.out id) 0 _ rfl
    have n1 := cellAt (hx6.at_ HKB5.out id) 1 _ rfl
    have n2 := cellAt (hx6.at_ HKB5.out id) 2 _ rfl
    have p0 := cellAt (hx6.at_ HMB5.out id) 0 _ rfl
    have p1 := cellAt (hx6.at_ HMB5.out id) 1 _ rfl
    have p2 := cellAt (hx6.at_ HMB5.out id) 2 _ rfl
    clear hx6 k0 k1 k2 m0 m1 m2
    cases bd with
    | true =>
      go_wp2
      go_ret
      exact ⟨by rw [HR2.out]; rfl, HX6.out⟩
    | false =>
      go_wp2_with (go_at_call 44; fail)
      refine (earlier_any w6 a b c k.own ⟨xp, xi, xs⟩ HK6.out.own).mono ?_
      rintro e w7 ⟨rfl, hx7⟩
      rw [← HBE.out]
      go_wp2
      go_ret
      exact ⟨by rw [HR2.out]; rfl, HX6.out.trans hx7⟩
end Go.Proofs.YtfpioijfocmfcaaGreatDoor
