/-
  CALLS OF CHAPTER 24, reckoned: works; what a publication that is not there answers; a new folder; a publication in a folder that is not there. No condition.
-/
import Derived.Test.YtglkcndgmocnbaaGreatDoorEvSeat
import Derived.Test.YtglkcndgmocnbaaGreatDoorEvHeap
import Derived.Test.YtglkcndgmocnbaaGreatDoorNBase
namespace Go.Proofs.YtglkcndgmocnbaaGreatDoor.Ev
open Go
set_option maxRecDepth 1000000
theorem works_top : topF tb 60 11 [] = some (.bool true) := by kernel_rfl
theorem feed_top (x0 x1 x2 : Value) : topF tb 60 4 [.nilp, .agg [.cst x0, .cst x1, .cst x2]] = some (.tup []) := by kernel_rfl
theorem next_top : topF tb 60 5 [.nilp] = some (.tup [.agg [.int .u8 0, .str [], .str [], .nils], .bool false]) := by kernel_rfl
theorem done_top : topF tb 60 6 [.nilp] = some (.bool true) := by kernel_rfl
theorem err_top : topF tb 60 7 [.nilp] = some (.int .i64 1) := by kernel_rfl
theorem linked_top : topF tb 60 8 [.nilp] = some (.bool false) := by kernel_rfl
theorem new_top : (topF tb 60 10 [.int .i64 9, .int .i64 9]).isSome = true := by kernel_rfl
theorem solo_top (x : Value) : topF tb 60 9 [.nilp, .cst x] = some (.int .i64 0) := by kernel_rfl
/-- A publication's cells, behind New. -/
noncomputable def pubV (x0 x1 x2 x3 x4 x6 x7 : Value) (s : List Nat) (d : Bool) (e : Int) : List AV := [.cst x0, .cst x1, .cst x2, .cst x3, .cst x4, .str s, .cst x6, .cst x7, .int .u8 1, .str s, .str [], .nils, .fn (.func 25) [.ptr 1000 0] [], .bool d, .int .i64 e, .bool false]
theorem gone1_top (x0 x1 x2 x3 x4 x6 x7 : Value) (s : List Nat) : three tb 9 6 7 [.ptr 1000 0, .nilp] [.ptr 1000 0] [.ptr 1000 0] (hp1 48 (pubV x0 x1 x2 x3 x4 x6 x7 s false 0)) = some (.int .i64 1, .bool true, .int .i64 1) := by kernel_rfl
theorem gone0_top (x0 x1 x2 x3 x4 x6 x7 : Value) (s : List Nat) : three tb 9 6 7 [.ptr 1000 0, .nilp] [.ptr 1000 0] [.ptr 1000 0] (hp1 48 (pubV x0 x1 x2 x3 x4 x6 x7 s true 2)) = some (.int .i64 0, .bool true, .int .i64 2) := by kernel_rfl
end Go.Proofs.YtglkcndgmocnbaaGreatDoor.Ev
namespace Go.Proofs.YtglkcndgmocnbaaGreatDoor
open Go
theorem ext_same {w w' : World} (h : Ev.Same w w') : Ext w w' := ⟨h.os, h.tape, h.output, h.size, fun k hk _ => h.block k hk⟩
theorem works_any (w : World) : Calls Tryz.prog 11 #[] w fun e w' => e = .returned (.bool true) ∧ Ext w w' :=
  (Ev.topF_true Ev.tb_ok Ev.hook_ok Ev.works_top Tryz.call11 .nil w).mono fun _ _ h => ⟨h.1, ext_same h.2⟩
theorem feed_any (w : World) (x0 x1 x2 : Value) : Calls Tryz.prog 4 #[.pointer none, .agg #[x0, x1, x2]] w fun e w' => e = .returned (.tuple #[]) ∧ Ext w w' :=
  (Ev.topF_ok Ev.tb_ok Ev.hook_ok (Ev.feed_top x0 x1 x2) Tryz.call4 (.cons .nilp (.cons (.agg (.cons (.cst _) (.cons (.cst _) (.cons (.cst _) .nil)))) .nil)) w).mono fun _ _ ⟨_, _, h, hv, hs⟩ => by
    cases hv with | tup h' => cases h' with | nil => exact ⟨h, ext_same hs⟩
theorem next_any (w : World) : Calls Tryz.prog 5 #[.pointer none] w fun e w' => e = .returned (.tuple #[.agg #[.int .u8 0, str [], str [], .slice none 0 0], .bool false]) ∧ Ext w w' :=
  (Ev.topF_ok Ev.tb_ok Ev.hook_ok Ev.next_top Tryz.call5 (.cons .nilp .nil) w).mono fun _ _ ⟨_, _, h, hv, hs⟩ => by
    cases hv with
    | tup h' => cases h' with
      | cons a b => cases a with
        | agg c => cases c with
          | cons c0 c => cases c with
            | cons c1 c => cases c with
              | cons c2 c => cases c with
                | cons c3 c => cases c; cases c0; cases c1; cases c2; cases c3; cases b with | cons d b => cases b; cases d; exact ⟨h, ext_same hs⟩
theorem done_any (w : World) : Calls Tryz.prog 6 #[.pointer none] w fun e w' => e = .returned (.bool true) ∧ Ext w w' :=
  (Ev.topF_true Ev.tb_ok Ev.hook_ok Ev.done_top Tryz.call6 (.cons .nilp .nil) w).mono fun _ _ h => ⟨h.1, ext_same h.2⟩
theorem err_any (w : World) : Calls Tryz.prog 7 #[.pointer none] w fun e w' => e = .returned (.int .i64 1) ∧ Ext w w' :=
  (Ev.topF_ok Ev.tb_ok Ev.hook_ok Ev.err_top Tryz.call7 (.cons .nilp .nil) w).mono fun _ _ ⟨_, _, h, hv, hs⟩ => by cases hv; exact ⟨h, ext_same hs⟩
theorem linked_any (w : World) : Calls Tryz.prog 8 #[.pointer none] w fun e w' => e = .returned (.bool false) ∧ Ext w w' :=
  (Ev.topF_ok Ev.tb_ok Ev.hook_ok Ev.linked_top Tryz.call8 (.cons .nilp .nil) w).mono fun _ _ ⟨_, _, h, hv, hs⟩ => by cases hv; exact ⟨h, ext_same hs⟩
theorem new_any (w : World) : Calls Tryz.prog 10 #[.int .i64 9, .int .i64 9] w fun e w' => ∃ x, e = .returned x ∧ Ext w w' := by
  obtain ⟨v, hv⟩ := Option.isSome_iff_exists.1 Ev.new_top
  exact (Ev.topF_ok Ev.tb_ok Ev.hook_ok hv Tryz.call10 (.cons (.int _ _) (.cons (.int _ _) .nil)) w).mono fun _ _ ⟨x, _, h, _, hs⟩ => ⟨x, h, ext_same hs⟩
theorem solo_any (w : World) (x : Value) : Calls Tryz.prog 9 #[.pointer none, x] w fun e w' => e = .returned (.int .i64 0) ∧ Ext w w' :=
  (Ev.topF_ok Ev.tb_ok Ev.hook_ok (Ev.solo_top x) Tryz.call9 (.cons .nilp (.cons (.cst _) .nil)) w).mono fun _ _ ⟨_, _, h, hv, hs⟩ => by cases hv; exact ⟨h, ext_same hs⟩
/-- A publication's cells, behind New. -/
def pubC (B : Nat) (x0 x1 x2 x3 x4 x6 x7 : Value) (s : List UInt8) (d : Bool) (e : Int) : List Value := [x0, x1, x2, x3, x4, str s, x6, x7, .int .u8 1, str s, str [], .slice none 0 0, .func (.func 25) #[.pointer (some ⟨B, 0, none⟩)] #[], .bool d, .int .i64 e, .bool false]
theorem str_bs (s : List UInt8) : str s = .string (Ev.bs (s.map UInt8.toNat)) := by
  unfold str Ev.bs
  rw [List.map_map]
  congr 2
  have : ∀ l : List UInt8, l.map (UInt8.ofNat ∘ UInt8.toNat) = l := fun l => by induction l with | nil => rfl | cons a r ih => rw [List.map_cons, ih]; simp
  rw [this]
theorem str_vr (l : Ev.Env) (s : List UInt8) : Ev.VR l (.str (s.map UInt8.toNat)) (str s) := by
  rw [str_bs]
  exact .str _ fun x hx => by
    obtain ⟨u, -, rfl⟩ := List.mem_map.1 hx
    exact u.toNat_lt
theorem pub_vr (B : Nat) (x0 x1 x2 x3 x4 x6 x7 : Value) (s : List UInt8) (d : Bool) (e : Int) : Ev.VRs (Ev.env1 B) (Ev.pubV x0 x1 x2 x3 x4 x6 x7 (s.map UInt8.toNat) d e) (pubC B x0 x1 x2 x3 x4 x6 x7 s d e) :=
  .cons (.cst _) (.cons (.cst _) (.cons (.cst _) (.cons (.cst _) (.cons (.cst _) (.cons (str_vr _ s) (.cons (.cst _) (.cons (.cst _) (.cons (.int _ _) (.cons (str_vr _ s) (.cons (str_vr _ []) (.cons .nils (.cons (.fn (a' := [.pointer (some ⟨B, 0, none⟩)]) (c' := []) _ (.cons (.ptr 0 (Ev.env1_at B)) .nil) .nil) (.cons (.bool _) (.cons (.int _ _) (.cons (.bool _) .nil)))))))))))))))
/-- A publication in a folder that is not there, whatever is ahead of it: three calls, one behind the other. -/
structure Gone (s B : Nat) (x0 x1 x2 x3 x4 x6 x7 : Value) (tx : List UInt8) (d : Bool) (e n m : Int) (w : World) : Prop where
  hB : s ≤ B
  hs : s ≤ w.heap.size
  at_ : w.heap[B]? = some (.cells (pubC B x0 x1 x2 x3 x4 x6 x7 tx d e).toArray 48 (0, 0))
  top : Ev.three Ev.tb 9 6 7 [.ptr 1000 0, .nilp] [.ptr 1000 0] [.ptr 1000 0] (Ev.hp1 48 (Ev.pubV x0 x1 x2 x3 x4 x6 x7 (tx.map UInt8.toNat) d e)) = some (.int .i64 n, .bool true, .int .i64 m)
def AfterErr (s : Nat) (B : Nat) (m : Int) (w : World) : Prop := s ≤ w.heap.size ∧ Calls Tryz.prog 7 #[.pointer (some ⟨B, 0, none⟩)] w fun e w' => e = .returned (.int .i64 m) ∧ Ev.Kept s w w'
def AfterDone (s : Nat) (B : Nat) (m : Int) (w : World) : Prop := s ≤ w.heap.size ∧ Calls Tryz.prog 6 #[.pointer (some ⟨B, 0, none⟩)] w fun e w' => e = .returned (.bool true) ∧ Ev.Kept s w w' ∧ AfterErr s B m w'
theorem Gone.solo {s B : Nat} {x0 x1 x2 x3 x4 x6 x7 : Value} {tx : List UInt8} {d : Bool} {e n m : Int} {w : World} (h : Gone s B x0 x1 x2 x3 x4 x6 x7 tx d e n m w) :
    Calls Tryz.prog 9 #[.pointer (some ⟨B, 0, none⟩), .pointer none] w fun r w' => r = .returned (.int .i64 n) ∧ Ev.Kept s w w' ∧ AfterDone s B m w' := by
  obtain ⟨H1, H2, H3, e1, e2, e3⟩ := Ev.three_ok h.top
  have hr0 := Ev.hp1_hr (sz := Ev.tb.sz) h.at_ (pub_vr B x0 x1 x2 x3 x4 x6 x7 tx d e)
  have f0 : Ev.Fr1 (Ev.env1 B) _ s := Ev.hp1_fr (t := 48) (cs := Ev.pubV x0 x1 x2 x3 x4 x6 x7 (tx.map UInt8.toNat) d e) h.hB
  have p0 : Ev.VR (Ev.env1 B) (.ptr 1000 0) (.pointer (some ⟨B, 0, none⟩)) := .ptr 0 (Ev.env1_at B)
  refine (Ev.step_ok Ev.tb_ok Ev.hook_ok e1 Tryz.call9 hr0 (.cons p0 (.cons .nilp .nil))).mono fun r w1 ⟨v1, l1, h1, hv1, k1⟩ => ?_
  cases hv1
  have f1 := f0.next hr0 k1 h.hs
  have c1 := Ev.Kp.kept f0 k1 h.hs
  have s1 : s ≤ w1.heap.size := Nat.le_trans h.hs k1.size
  refine ⟨h1, c1, s1, ?_⟩
  refine (Ev.step_ok Ev.tb_ok Ev.hook_ok e2 Tryz.call6 k1.hr (.cons (p0.mono k1.le) .nil)).mono fun r w2 ⟨v2, l2, h2, hv2, k2⟩ => ?_
  cases hv2
  have f2 := f1.next k1.hr k2 s1
  have c2 := Ev.Kp.kept f1 k2 s1
  have s2 : s ≤ w2.heap.size := Nat.le_trans s1 k2.size
  refine ⟨h2, c2, s2, ?_⟩
  refine (Ev.step_ok Ev.tb_ok Ev.hook_ok e3 Tryz.call7 k2.hr (.cons ((p0.mono k1.le).mono k2.le) .nil)).mono fun r w3 ⟨v3, l3, h3, hv3, k3⟩ => ?_
  cases hv3
  exact ⟨h3, Ev.Kp.kept f2 k3 s2⟩
end Go.Proofs.YtglkcndgmocnbaaGreatDoor
