/-
  CONTRACT of op.Put.
-/
import Derived.Test.YtlhpcgmbbeihiaaDoorDPut
import Derived.Test.YtlhpcgmbbeihiaaDoorVAll
import Derived.Test.YtlhpcgmbbeihiaaDoorME
import Derived.Deep.AppendLies
import Derived.Deep.RegionLaw
import Derived.Deep.CutRange
namespace Go.Proofs.YtlhpcgmbbeihiaaDoor
open Go.RowKit

theorem own_lit (w : World) (cs : Array Value) (e : TypeId) (m base n : Nat) (hm : m ≤ maxLen) (hc : cs.size = m) (hb : base ≤ w.heap.size) (hn : n = w.heap.size) : (w.alloc (.cells cs e)).ownsRow base e 1 (.slice (some ⟨n, 0, none⟩) m m) m cs.toList := by
  subst hn
  refine ⟨by simp [hc], .inr ⟨_, m, cs, rfl, hb, newAt _ _, Nat.le_refl _, hm, by omega, ?_⟩⟩
  rw [Nat.mul_one, List.take_of_length_le (by simp [hc])]
theorem lit_old {n m c B : Nat} (hB : B ≤ n) : ∀ k, (Value.slice (some ⟨n, 0, none⟩) m c).ownBlock = some k → k < B → Nothing k := fun k hk h => by
  simp only [Value.ownBlock, Option.some.injEq] at hk; omega
theorem le_alloc (w : World) (o : Obj) : w.heap.size ≤ (w.alloc o).heap.size := by simp
theorem le_drew_alloc (w : World) (o : Obj) : w.heap.size ≤ (w.alloc o).drew.heap.size := by show w.heap.size ≤ (w.alloc o).heap.size; simp
section
variable {P : Program} {w : World}
/-- 'append(s, src...)' in a region that draws its order: s the call's own, src whatever reads as a row that is not empty. -/
theorem step_append_row {ops : Array Oper} {o : Oper} {a : Act} {K : Act → World → Prop} {Q : Exit → Act → World → Prop} {E : Prop} (hgd : o.guard = none) (s x : Operand) (t : TypeId)
    (ho : o.op = .call { callee := .builtin .append, args := #[s, x], argTypes := #[t, t] })
    {base e size bytes : Nat} (T : SliceT P t e size bytes) {v : Value} {n : Nat} {xs : List Value} (hown : w.ownsRow base e size v n xs)
    {S : Nat → Prop} {src : Value} {m : Nat} {news : List Value} (hsrc : Row S w src m news) (hs : a.eval s = v) (hx : a.eval x = src) (hl : news.length = m * size) (h1 : OneCells news) (hm : 0 < m)
    (h63 : n + m ≤ maxLen) (hbytes : (n + m) * bytes ≤ 140737488355328) (hbase : base ≤ w.heap.size)
    (h : ∀ v' w', w'.ownsRow base e size v' (n + m) (xs ++ news) → w.grownBy w' v.ownBlock → K (a.put o.dst v') w') :
    if Region.wanted o (yielded ops a.tmps) = true then Oper.wp P o a w K Q else E := by
  obtain ⟨hu, ⟨i, z, hi, hz, h2, h3, h4⟩, hp⟩ := T
  obtain ⟨b, of, c, rfl, -, g1, g2, g5⟩ := hsrc.addr hm
  exact step_append_lies w hgd s x t ho base e i z size bytes hu hi hz h2 h3 h4 hp v n xs hs hown ⟨b, of, none⟩ m c news hx hl
    (fun j u hj => by
      have := g5 j u hj
      rw [show (⟨b, of, none⟩ : Addr).add j = ⟨b, of + j, none⟩ from by unfold Addr.add; split <;> simp_all]; exact this) h1 hm h63 hbytes hbase _ rfl (fun g cap w' h1 h2 _ _ => h _ w' h1 h2)
end
def OPutPost (o : Oper') (w : World) (e : Ending) (w' : World) : Prop := ∃ v', e = .returned (.tuple #[v', .int .i64 (if opRight o then 0 else 2)]) ∧ (opRight o = true → w'.ownsRow w.heap.size 5 1 v' (opPut o).length ((opPut o).map u8)) ∧ (opRight o = false → v' = nilS) ∧ Ext w w'
theorem opPut_parts (o : Oper') : (opPut o).length = 1 + (vput o.doc.toNat).length + (vtext o.name).length + (vtext o.to).length + (vtext o.text).length + (vtext (editsPut o.edits)).length + ((vput o.epoch.toNat).length + (vput o.version.toNat).length + (vput o.dur.toNat).length) := by
  simp [opPut, opBody, opTail]; omega
theorem vtext_len (s : List UInt8) : s.length ≤ (vtext s).length := by rw [vtext, List.length_append]; omega
theorem opLit_cells (o : Oper') (ve : Value) {w : World} {b : Nat} {T : TypeId} (h : w.heap[b]? = some (.cells (opCells o ve) T (0, 0))) : w.cell? ⟨b, 0, none⟩ = some (.int .u8 o.kind) ∧ w.cell? ⟨b, 1, none⟩ = some (.int .u64 o.doc) ∧ w.cell? ⟨b, 2, none⟩ = some (str o.name) ∧ w.cell? ⟨b, 3, none⟩ = some (str o.to) ∧ w.cell? ⟨b, 4, none⟩ = some (str o.text) ∧ w.cell? ⟨b, 5, none⟩ = some ve ∧ w.cell? ⟨b, 6, none⟩ = some (.int .u64 o.epoch) ∧ w.cell? ⟨b, 7, none⟩ = some (.int .u64 o.version) ∧ w.cell? ⟨b, 8, none⟩ = some (.int .u64 o.dur) :=
  ⟨cellAt h 0 _ rfl, cellAt h 1 _ rfl, cellAt h 2 _ rfl, cellAt h 3 _ rfl, cellAt h 4 _ rfl, cellAt h 5 _ rfl, cellAt h 6 _ rfl, cellAt h 7 _ rfl, cellAt h 8 _ rfl⟩

theorem oput_ok {o : Oper'} {w w' : World} {v : Value} (hr : opRight o = true) (ho : w'.ownsRow w.heap.size 5 1 v (opPut o).length ((opPut o).map Go.Proofs.YtlhpcgmbbeihiaaDoor.u8)) (hx : Ext w w') : OPutPost o w (.returned (.tuple #[v, .int .i64 0])) w' :=
  ⟨v, by rw [hr]; rfl, fun _ => ho, fun h => (by rw [hr] at h; cases h), hx⟩
/-- What has been written behind k texts. -/
def opAcc (o : Oper') (D k : Nat) : List UInt8 := UInt8.ofNat o.kind.toNat :: (vput D ++ ((([o.name, o.to, o.text, editsPut o.edits] : List (List UInt8)).take k).map vtext).flatten)
theorem four_at (p q r s : List UInt8) {k : Nat} (hk : k < 4) : (#[str p, str q, str r, str s] : Array Value)[k]? = some (str (([p, q, r, s] : List (List UInt8))[k]'hk)) := by
  have h : k = 0 ∨ k = 1 ∨ k = 2 ∨ k = 3 := by omega
  rcases h with rfl | rfl | rfl | rfl <;> rfl
theorem opAcc_step (o : Oper') (D : Nat) {k : Nat} (hk : k < 4) : ∃ t, (([o.name, o.to, o.text, editsPut o.edits] : List (List UInt8))[k]'hk) = t ∧ opAcc o D (k + 1) = opAcc o D k ++ vtext t ∧ True := by
  refine ⟨_, rfl, ?_, trivial⟩
  unfold opAcc
  rw [List.take_succ_eq_append_getElem (show k < ([o.name, o.to, o.text, editsPut o.edits] : List (List UInt8)).length from hk)]
  simp only [List.map_append, List.flatten_append, List.map_cons, List.map_nil, List.flatten_cons, List.flatten_nil, List.append_nil, List.append_assoc, List.cons_append]
theorem opAcc_end {o : Oper'} {D p q r : Nat} (hD : o.doc = D) (hp : o.epoch = p) (hq : o.version = q) (hr : o.dur = r) : opPut o = opAcc o D 4 ++ vputs [p, q, r] := by
  unfold opPut opBody opTail opAcc vputs
  rw [hD, hp, hq, hr]; simp
theorem opAcc_len {o : Oper'} {D : Nat} (hD : o.doc = D) (hw : WfOp o) {k : Nat} (hk : k ≤ 4) : (opAcc o D k).length ≤ (opPut o).length := by
  have h4 : (opAcc o D k).length ≤ (opAcc o D 4).length := by
    have e : k = 0 ∨ k = 1 ∨ k = 2 ∨ k = 3 ∨ k = 4 := by omega
    rcases e with rfl | rfl | rfl | rfl | rfl <;> simp [opAcc] <;> omega
  have he := opAcc_end (o := o) hD (p := o.epoch.toNat) (q := o.version.toNat) (r := o.dur.toNat) (by have := hw.epoch.1; omega) (by have := hw.version.1; omega) (by have := hw.dur.1; omega)
  rw [he, List.length_append]; omega
theorem tag_ne {w : World} {b k : Nat} {cs cur : Array Value} {T e : TypeId} {fr : Nat × Nat} (hb : w.heap[b]? = some (.cells cs T fr)) (hT : T ≠ e) (hk : w.heap[k]? = some (.cells cur e (0, 0))) : k ≠ b := fun h => by
  subst h; rw [hb] at hk; cases hk; exact hT rfl

set_option maxRecDepth 100000 in
set_option maxHeartbeats 2000000 in
theorem oPut_any {S : Nat → Prop} (w : World) (o : Oper') (v : Value) (h : Row S w v o.edits.length (editCells o.edits)) (hw : WfOp o) (hl : (opPut o).length ≤ 70368744177664) :
    Calls Tryd.prog 11 #[.agg (opCells o v)] w (OPutPost o w) := by
  have hbx := newAt w (.cells (opCells o v) 25)
  have hux : Ext w (w.alloc (.cells (opCells o v) 25)) := (Upd.refl _ _).alloc _
  have HR := Lib.hid (h.ext hux)
  have HBX := Lib.hid hbx
  have HUX := Lib.hid hux
  have hparts := opPut_parts o
  have e5 := vtext_len (editsPut o.edits)
  have e2 := vtext_len o.name
  have e3 := vtext_len o.to
  have e4 := vtext_len o.text
  obtain ⟨a, c, rfl, -, -, -⟩ := h
  clear hbx hux
  simp only [opCells]
  go_enter Tryd.func11, Tryd.ntmps11
  go_wp2_with (go_at_call 18; fail)
  refine (right_any _ o _ HR.out).mono ?_
  rintro e w1 ⟨rfl, hx1⟩
  have HB1 := Lib.hid (hx1.at_ HBX.out id)
  have HX1 := Lib.hid (HUX.out.trans hx1)
  have HR1 := Lib.hid (HR.out.ext hx1)
  have hs1 : w.heap.size < w1.heap.size := lt_of_heap HB1.out
  clear hx1
  by_cases hr : opRight o = true
  · have hd := (opRight_kind hr).2.2
    obtain ⟨hk1, hk17, -⟩ := opRight_kind hr
    rw [hr]
    have HRI := Lib.hid hr
    clear hr
    obtain ⟨y0, y1, y2, y3, y4, y5, y6, y7, y8⟩ := opLit_cells o _ HB1.out
    go_wp2_with (go_at_call 32; fail)
    refine (dPut_any _ _ o.edits HR1.out (by omega)).mono ?_
    rintro e w2 ⟨v2, rfl, hok, -, hx2⟩
    have hown2 := hok hd
    rw [if_pos hd]
    have HB2 := Lib.hid (hx2.at_ HB1.out id)
    have HX2 := Lib.hid (HX1.out.trans hx2)
    have hs2 : w.heap.size < w2.heap.size := lt_of_heap HB2.out
    have hown2' := hown2.mono_base (show w.heap.size ≤ w1.heap.size by omega)
    clear hx2 hok hd y0 y1 y2 y3 y4 y5 y6 y7 y8
    obtain ⟨y0, y1, y2, y3, y4, y5, y6, y7, y8⟩ := opLit_cells o _ HB2.out
    obtain ⟨D, hD⟩ : ∃ D : Nat, o.doc = D := Int.eq_ofNat_of_zero_le hw.doc.1
    rw [hD] at y1
    have hkb := byte_of hw.k0 hw.k1
    have HKB := Lib.hid hkb
    have hD64 : D < 18446744073709551616 := by have := hw.doc.2; omega
    have hvd : (vput D).length ≤ 10 := vput_len_le hD64
    have hvd1 := vput_len1 D
    have HD := Lib.hid hD
    clear hkb hD
    go_wp2_with fail
    go_cut [6] from 18 to 24 (fun v6 wx => wx.ownsRow w2.heap.size 5 1 v6 (1 + (vput D).length) ([.int .u8 o.kind] ++ (vput D).map u8) ∧ Ext w2 wx)
    case first =>
      have q1 : 1 ≤ maxLen := by unfold maxLen; omega
      have q2 : ((vput D).map Go.Proofs.YtlhpcgmbbeihiaaDoor.u8).length = (vput D).length * 1 := by simp
      have q3 : 0 < (vput D).length := by omega
      have q4 : 1 + (vput D).length ≤ maxLen := by unfold maxLen; omega
      have q5 : (1 + (vput D).length) * 1 ≤ 140737488355328 := by omega
      go_region_law (first
        | (go_simp; go_at_call 33; refine (vPut_any _ D hD64).mono ?_; rintro e w5 ⟨v5, rfl, hown5, hx5⟩; have hsz5 : w2.heap.size ≤ w5.heap.size := (by first | exact Nat.le_trans (le_drew_alloc _ _) hx5.size | exact Nat.le_trans (Nat.le_refl _) hx5.size); first
            | (have hlit := hx5.ownsRow ((own_lit w2 #[.int .u8 o.kind] 5 1 w2.heap.size w2.heap.size q1 rfl (Nat.le_refl _) rfl).drew) (fun _ _ e => e); have hsrc := Row.of_owns hown5; have hbase := hsz5; have hxw := ((Upd.refl Nothing w2).alloc (.cells #[.int .u8 o.kind] 5)).drew.trans hx5; have hlo := Nat.le_refl w2.heap.size)
            | (have s0 := ((Upd.refl Nothing w2).drew.trans hx5).cell y0 (fun e => e); have hlit := own_lit w5 #[.int .u8 o.kind] 5 1 w2.heap.size w5.heap.size q1 rfl hsz5 rfl; have hsrc := (Row.of_owns hown5).ext ((Upd.refl Nothing w5).alloc (.cells #[.int .u8 o.kind] 5)); have hbase := Nat.le_trans hsz5 (le_alloc w5 (.cells #[.int .u8 o.kind] 5)); have hxw := ((Upd.refl Nothing w2).drew.trans hx5).alloc (.cells #[.int .u8 o.kind] 5); have hlo := hsz5))
        | (refine step_append_row (by rfl) (.tmp 20) (.tmp 23) 26 (by rfl) Tryd.bytesT hlit hsrc (by rfl) (by rfl) q2 (u8_one _) q3 q4 q5 hbase ?_; intro v6 w6 hown6 hg6; have hx6 := hxw.grown hg6 (lit_old hlo)))
      all_goals
        go_wp2_with fail
        go_meet
        case rel => exact ⟨hown6, hx6⟩
    case rest =>
      obtain ⟨hown, hx3⟩ := hcut
      have hown := hown.mono_base (show w.heap.size ≤ w2.heap.size by omega)
      have HB3 := Lib.hid (hx3.at_ HB2.out id)
      have HE3 := Lib.hid (hx3.ownsRow hown2' (fun _ _ e => e))
      have HX3 := Lib.hid (HX2.out.trans hx3)
      have hs3 : w.heap.size < wc.heap.size := lt_of_heap HB3.out
      clear hx3 y0 y1 y2 y3 y4 y5 y6 y7 y8 hown2'
      obtain ⟨y0, y1, y2, y3, y4, y5, y6, y7, y8⟩ := opLit_cells o _ HB3.out
      have hcv := row_string (P := Tryd.prog) (Row.of_owns HE3.out) Tryd.underlying26 Tryd.underlying5 Tryd.underlying9
      have hacc0 : wc.ownsRow w.heap.size 5 1 u6 (opAcc o D 0).length ((opAcc o D 0).map Go.Proofs.YtlhpcgmbbeihiaaDoor.u8) := by
        rw [HKB.out] at hown
        rw [show (opAcc o D 0).length = 1 + (vput D).length from by simp [opAcc]; omega, show (opAcc o D 0).map Go.Proofs.YtlhpcgmbbeihiaaDoor.u8 = [Go.Proofs.YtlhpcgmbbeihiaaDoor.u8 (UInt8.ofNat o.kind.toNat)] ++ (vput D).map Go.Proofs.YtlhpcgmbbeihiaaDoor.u8 from by simp [opAcc]]
        exact hown
      have hacc0 := hacc0.alloc (.cells #[str o.name, str o.to, str o.text, str (editsPut o.edits)] 9)
      have hrow0 := newAt wc (.cells #[str o.name, str o.to, str o.text, str (editsPut o.edits)] 9)
      have hb40 := ((Upd.refl Nothing wc).alloc (.cells #[str o.name, str o.to, str o.text, str (editsPut o.edits)] 9)).at_ HB3.out id
      have HACC := Lib.hid hacc0
      have HROW := Lib.hid hrow0
      have HB40 := Lib.hid hb40
      have HX30 := Lib.hid (HX3.out.alloc (.cells #[str o.name, str o.to, str o.text, str (editsPut o.edits)] 9))
      clear hacc0 hrow0 hb40 hown
      go_wp2
      go_loopw [6, 35] (fun v i wr => ∃ k : Nat, k ≤ 4 ∧ i = .int .i64 k ∧ Ext w wr ∧ wr.heap[wc.heap.size]? = some (.cells #[str o.name, str o.to, str o.text, str (editsPut o.edits)] 9 (0, 0)) ∧ wr.heap[w.heap.size]? = some (.cells (opCells o (.slice a o.edits.length c)) 25 (0, 0)) ∧ wr.ownsRow w.heap.size 5 1 v (opAcc o D k).length ((opAcc o D k).map Go.Proofs.YtlhpcgmbbeihiaaDoor.u8)) (fun _ i _ => 4 - (intOf i).toNat)
      case atStart => exact ⟨0, by omega, rfl, HX30.out, HROW.out, HB40.out, HACC.out⟩
      case round =>
        clear hcv HACC HROW HB40 HX30 y0 y1 y2 y3 y4 y5 y6 y7 y8
        obtain ⟨k, hk, rfl, hx, hrow, hbo, hown⟩ := hrel
        have HX := Lib.hid hx
        have HRW := Lib.hid hrow
        have HBO := Lib.hid hbo
        clear hx hrow hbo
        by_cases hlt : k < 4
        · have hcell := cellAt HRW.out k _ (four_at o.name o.to o.text (editsPut o.edits) hlt)
          obtain ⟨t, ht, hacc, htl⟩ := opAcc_step o D hlt
          rw [ht] at hcell
          have hsum := opAcc_len (o := o) (D := D) HD.out hw (k := k) hk
          have hsum1 := opAcc_len (o := o) (D := D) HD.out hw (k := k + 1) hlt
          have hla := congrArg List.length hacc
          rw [List.length_append] at hla
          have htt := vtext_len t
          have HAC := Lib.hid hacc
          clear ht hacc
          go_wp2_with (go_at_call 34; fail)
          refine (vText_any _ t (by omega)).mono ?_
          rintro e w5 ⟨v5, rfl, hown5, hx5⟩
          have hown1 := hx5.ownsRow hown (fun _ _ e => e)
          have hsz5 := hx5.size
          have HX5 := Lib.hid (HX.out.trans hx5)
          have HRW5 := Lib.hid (hx5.at_ HRW.out id)
          have HBO5 := Lib.hid (hx5.at_ HBO.out id)
          have hszw := HX.out.size
          clear hown hx5 hcell
          obtain ⟨a1, n1, c1, rfl⟩ := ownsForm hown1
          obtain ⟨a2, n2, c2, rfl⟩ := ownsForm hown5
          go_wp2_with (at_builtin; go_must (refine wpList_append_row rfl _ _ _ rfl Tryd.bytesT rfl hown1 rfl (Row.of_owns hown5) (by simp) (u8_one _) ?c3 ?c4 ?c5 ?_))
          case c3 => unfold maxLen; omega
          case c4 => omega
          case c5 => omega
          intro v' w6 hown6 hg _
          have htag : ∀ j, (Value.slice a1 n1 c1).ownBlock = some j → j ≠ wc.heap.size ∧ j ≠ w.heap.size := fun j hj => by
            obtain ⟨cur, hc⟩ := owns_tag hown1 hj
            exact ⟨tag_ne HRW5.out (by decide) hc, tag_ne HBO5.out (by decide) hc⟩
          have hrow6 := grownAt2 HRW5.out hg (fun j hj => (htag j hj).1)
          have hbo6 := grownAt2 HBO5.out hg (fun j hj => (htag j hj).2)
          have hx6 := HX5.out.grown hg (fun j hj h => by have := (hown1.lt j hj).1; omega)
          have HX6 := Lib.hid hx6
          have HRW6 := Lib.hid hrow6
          have HBO6 := Lib.hid hbo6
          clear hx6 hg hrow6 hbo6 htag
          go_wp2
          go_roundw
          case rel => exact ⟨k + 1, by omega, by go_num, HX6.out, HRW6.out, HBO6.out, by rw [HAC.out, List.length_append, List.map_append]; exact hown6⟩
          case measure => simp [intOf]; omega
        · have hk4 : k = 4 := by omega
          subst hk4
          obtain ⟨y0, y1, y2, y3, y4, y5, y6, y7, y8⟩ := opLit_cells o _ HBO.out
          obtain ⟨p1, p2, hp1⟩ : ∃ x : Nat, o.epoch = x ∧ x < 18446744073709551616 := ⟨o.epoch.toNat, by have := hw.epoch.1; omega, by have := hw.epoch.1; have := hw.epoch.2; omega⟩
          obtain ⟨q1, q2, hq1⟩ : ∃ x : Nat, o.version = x ∧ x < 18446744073709551616 := ⟨o.version.toNat, by have := hw.version.1; omega, by have := hw.version.1; have := hw.version.2; omega⟩
          obtain ⟨r1, r2, hr1⟩ : ∃ x : Nat, o.dur = x ∧ x < 18446744073709551616 := ⟨o.dur.toNat, by have := hw.dur.1; omega, by have := hw.dur.1; have := hw.dur.2; omega⟩
          rw [p2] at y6
          rw [q2] at y7
          rw [r2] at y8
          have hfin := opAcc_end (o := o) (D := D) HD.out p2 q2 r2
          have hfl := congrArg List.length hfin
          rw [List.length_append] at hfl
          have HFIN := Lib.hid hfin
          clear p2 q2 r2 hfin y0 y1 y2 y3 y4 y5
          go_wp2_with (go_at_call 35; fail)
          have hrn := row_new wr #[.int .u64 (p1 : Int), .int .u64 (q1 : Int), .int .u64 (r1 : Int)] 22 3 wr.heap.size (by decide) rfl
          refine (vAll_any _ _ [p1, q1, r1] hrn (by simp) (by intro n hn; simp at hn; omega)).mono ?_
          rintro e w5 ⟨v5, rfl, hown5, hx5⟩
          have hown1 := hx5.ownsRow (hown.alloc (.cells #[.int .u64 (p1 : Int), .int .u64 (q1 : Int), .int .u64 (r1 : Int)] 22)) (fun _ _ e => e)
          have hsz5 : w.heap.size ≤ w5.heap.size := by have := hx5.size; have := HX.out.size; simp at *; omega
          have HX5 := Lib.hid ((HX.out.alloc _).trans hx5)
          clear hown hx5 hrn
          obtain ⟨a1, n1, c1, rfl⟩ := ownsForm hown1
          obtain ⟨a2, n2, c2, rfl⟩ := ownsForm hown5
          go_wp2_with (at_builtin; go_must (refine wpList_append_row rfl _ _ _ rfl Tryd.bytesT rfl hown1 rfl (Row.of_owns hown5) (by simp) (u8_one _) ?c3 ?c4 ?c5 ?_))
          case c3 => unfold maxLen; omega
          case c4 => omega
          case c5 => omega
          intro v' w6 hown6 hg _
          have HX6 := Lib.hid (HX5.out.grown hg (fun j hj h => by have := (hown1.lt j hj).1; omega))
          clear hg
          go_wp2
          go_ret2
          exact oput_ok HRI.out (by rw [HFIN.out, List.length_append, List.map_append]; exact hown6) HX6.out
  · have hrf : opRight o = false := by simpa using hr
    rw [hrf]
    have HRI := Lib.hid hrf
    clear hr hrf
    go_wp2
    go_ret2
    exact ⟨nilS, by rw [HRI.out]; rfl, fun h => (by rw [HRI.out] at h; cases h), fun _ => rfl, HX1.out⟩
end Go.Proofs.YtlhpcgmbbeihiaaDoor
