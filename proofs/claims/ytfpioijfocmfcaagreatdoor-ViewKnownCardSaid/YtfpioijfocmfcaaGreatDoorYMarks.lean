/-
  CONTRACT of the law's marks. No condition.
-/
import Derived.Test.YtfpioijfocmfcaaGreatDoorYKit
namespace Go.Proofs.YtfpioijfocmfcaaGreatDoor
open Go.RowKit

theorem le_drew_alloc (w : World) (o : Obj) : w.heap.size ≤ (w.alloc o).drew.heap.size := by show w.heap.size ≤ (w.alloc o).heap.size; simp
section
variable {P : Program} {w : World}
/-- 'append(s, src...)' in a region that draws its order: s the call's own, src whatever reads as a row that is not empty. -/
theorem step_append_row {ops : Array Oper} {o : Oper} {a : Act} {K : Act → World → Prop} {Q : Exit → Act → World → Prop} {E : Prop} (hgd : o.guard = none) (s x : Operand) (t : TypeId)
    (ho : o.op = .call { callee := .builtin .append, args := #[s, x], argTypes := #[t, t] })
    {base e size bytes : Nat} (T : SliceT P t e size bytes) {v : Value} {n : Nat} {xs : List Value} (hown : w.ownsRow base e size v n xs)
    {S : Nat → Prop} {src : Value} {m : Nat} {news : List Value} (hsrc : Row S w src m news) (hs : a.eval s = v) (hx : a.eval x = src) (hl : news.length = m * size) (h1 : OneCells news) (hm : 0 < m)
    (h63 : n + m ≤ maxLen) (hbytes : (n + m) * bytes ≤ 140737488355328) (hbase : base ≤ w.heap.size)
    (h : ∀ v' w', w'.ownsRow base e size v' (n + m) (xs ++ news) → w.grownBy w' v.ownBlock → K (a.put o.dst v') w') :
    if Region.wanted o (yielded ops a.tmps) = true then Oper.wp P o a w K Q else E := by
  obtain ⟨hu, ⟨i, z, hi, hz, h2, h3, h4⟩, hp⟩ := T
  obtain ⟨b, of, c, rfl, -, g1, g2, g5⟩ := hsrc.addr hm
  exact step_append_lies w hgd s x t ho base e i z size bytes hu hi hz h2 h3 h4 hp v n xs hs hown ⟨b, of, none⟩ m c news hx hl
    (fun j u hj => by
      have := g5 j u hj
      rw [show (⟨b, of, none⟩ : Addr).add j = ⟨b, of + j, none⟩ from by unfold Addr.add; split <;> simp_all]; exact this) h1 hm h63 hbytes hbase _ rfl (fun g cap w' h1 h2 _ _ => h _ w' h1 h2)
end

theorem Tryz.rmarksT : SliceT Tryz.prog 37 39 3 24 := sliceT_of Tryz.underlying37 (by kernel_rfl) (by decide)
set_option maxRecDepth 100000 in
set_option maxHeartbeats 4000000 in
theorem marks_any {S : Nat → Prop} (w : World) (v : Value) (l : List Mk) (h : MkRow S w v l) (hl : l.length ≤ 1000000) :
    Calls Tryz.prog 30 #[v] w fun e w' => ∃ v', e = .returned v' ∧ w'.ownsRow w.heap.size 39 3 v' l.length (flatM l) ∧ Ext w w' := by
  have HR := Lib.hid h
  obtain ⟨ad, cp, rfl, hlc, hm, -⟩ := h
  unfold maxLen at hm
  obtain ⟨B, hB⟩ : ∃ B, B = w.heap.size := ⟨_, rfl⟩
  have HB := Lib.hid hB
  rw [← hB]
  clear hB
  go_enter Tryz.func30, Tryz.ntmps30
  go_wp2
  go_loopw [3, 4] (fun u t wr => ∃ n : Nat, n ≤ l.length ∧ t = .int .i64 n ∧ wr.ownsRow B 39 3 u n (flatM (l.take n)) ∧ Ext w wr) (fun _ t _ => l.length - (intOf t).toNat)
  case atStart => exact ⟨0, Nat.zero_le _, rfl, by rw [List.take_zero]; exact World.ownsRow_nil _ _ _ _, Upd.refl _ _⟩
  case round =>
    obtain ⟨n, hn, rfl, hown, hx⟩ := hrel
    obtain ⟨a3, c3, rfl⟩ := ownsFormN hown
    by_cases hlt : n < l.length
    · obtain ⟨b1, o1, c1, e1, -, -, -, hq⟩ := (HR.out.ext hx).addr (by omega)
      cases e1
      have hsn : l.take (n + 1) = l.take n ++ [l[n]] := List.take_succ_eq_append_getElem hlt
      have d0 := mk_cells hq hlt 0 _ rfl
      have d1 := mk_cells hq hlt 1 _ rfl
      have d2 := mk_cells hq hlt 2 _ rfl
      generalize l[n] = z at hsn d0 d1 d2
      have HSN := Lib.hid hsn
      have HX := Lib.hid hx
      have HOWN := Lib.hid hown
      simp only [Nat.add_zero] at d0
      have hlit := (hown.alloc (.cells #[.int .u64 z.proc, .int .u64 z.inc, .int .u64 z.k] 39)).drew
      have hsrc := (row_new wr #[.int .u64 z.proc, .int .u64 z.inc, .int .u64 z.k] 39 1 wr.heap.size (by decide) rfl).upd (Upd.refl Nothing _).drew (fun _ _ e => e)
      have hbase : B ≤ (wr.alloc (.cells #[.int .u64 z.proc, .int .u64 z.inc, .int .u64 z.k] 39)).drew.heap.size := Nat.le_trans (by have := HB.out; have := hx.size; omega) (le_drew_alloc _ _)
      have hone : OneCells (#[.int .u64 z.proc, .int .u64 z.inc, .int .u64 z.k] : Array Value).toList := encM_one z
      have q4 : n + 1 ≤ maxLen := by unfold maxLen; omega
      have q5 : (n + 1) * 24 ≤ 140737488355328 := by omega
      clear hq hsn hx hown
      go_wp2_with fail
      go_region_law (refine step_append_row (by rfl) (.tmp 11) (.tmp 28) 37 (by rfl) Tryz.rmarksT hlit hsrc (by rfl) (by rfl) (by rfl) hone (by decide) q4 q5 hbase ?_; intro v6 w6 hown6 hg6)
      all_goals
        have hx6 := ((HX.out.alloc (.cells #[.int .u64 z.proc, .int .u64 z.inc, .int .u64 z.k] 39)).drew).grown hg6 (fun j hj h => by have := (HOWN.out.lt j hj).1; have := HB.out; omega)
        have HX6 := Lib.hid hx6
        have HO6 := Lib.hid hown6
        clear hx6 hown6 hg6
        go_wp2
        go_roundw
        case rel =>
          refine ⟨n + 1, by omega, by go_num, ?_, HX6.out⟩
          rw [HSN.out, flatM_append, flatM_one]
          exact HO6.out
        case measure => simp [intOf]; omega
    · have hnl : n = l.length := by omega
      rw [hnl, List.take_length] at hown
      have HOWN := Lib.hid hown
      have HX := Lib.hid hx
      clear hown hx
      go_wp2
      go_ret
      exact ⟨_, rfl, by simpa [hnl] using HOWN.out, HX.out⟩
end Go.Proofs.YtfpioijfocmfcaaGreatDoor
