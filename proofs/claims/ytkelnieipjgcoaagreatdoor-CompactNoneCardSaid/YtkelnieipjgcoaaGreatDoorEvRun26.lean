/-
  CALLS OF CHAPTER 26, reckoned: works; what a compaction that is not there answers; a new folder. No condition.
-/
import Derived.Test.YtkelnieipjgcoaaGreatDoorEvSeat
import Derived.Test.YtkelnieipjgcoaaGreatDoorEvFTop
import Derived.Test.YtkelnieipjgcoaaGreatDoorNBase
namespace Go.Proofs.YtkelnieipjgcoaaGreatDoor.Ev
open Go
set_option maxRecDepth 1000000
theorem works_top : topF tb 60 4 [] = some (.bool true) := by kernel_rfl
theorem feed_top (x0 x1 x2 : Value) : topF tb 60 5 [.nilp, .agg [.cst x0, .cst x1, .cst x2]] = some (.tup []) := by kernel_rfl
theorem next_top : topF tb 60 6 [.nilp] = some (.tup [.agg [.int .u8 0, .str [], .str [], .nils], .bool false]) := by kernel_rfl
theorem done_top : topF tb 60 7 [.nilp] = some (.bool true) := by kernel_rfl
theorem err_top : topF tb 60 8 [.nilp] = some (.int .i64 1) := by kernel_rfl
theorem linked_top : topF tb 60 9 [.nilp] = some (.bool false) := by kernel_rfl
theorem new_top : (topF tb 60 11 [.int .i64 9, .int .i64 9]).isSome = true := by kernel_rfl
theorem solo_top (x : Value) : topF tb 60 10 [.nilp, .cst x] = some (.int .i64 0) := by kernel_rfl
end Go.Proofs.YtkelnieipjgcoaaGreatDoor.Ev
namespace Go.Proofs.YtkelnieipjgcoaaGreatDoor
open Go
theorem ext_same {w w' : World} (h : Ev.Same w w') : Ext w w' := ⟨h.os, h.tape, h.output, h.size, fun k hk _ => h.block k hk⟩
theorem works_any (w : World) : Calls Tryz.prog 4 #[] w fun e w' => e = .returned (.bool true) ∧ Ext w w' :=
  (Ev.topF_true Ev.tb_ok Ev.hook_ok Ev.works_top Tryz.call4 .nil w).mono fun _ _ h => ⟨h.1, ext_same h.2⟩
theorem feed_any (w : World) (x0 x1 x2 : Value) : Calls Tryz.prog 5 #[.pointer none, .agg #[x0, x1, x2]] w fun e w' => e = .returned (.tuple #[]) ∧ Ext w w' :=
  (Ev.topF_ok Ev.tb_ok Ev.hook_ok (Ev.feed_top x0 x1 x2) Tryz.call5 (.cons .nilp (.cons (.agg (.cons (.cst _) (.cons (.cst _) (.cons (.cst _) .nil)))) .nil)) w).mono fun _ _ ⟨_, _, h, hv, hs⟩ => by
    cases hv with | tup h' => cases h' with | nil => exact ⟨h, ext_same hs⟩
theorem next_any (w : World) : Calls Tryz.prog 6 #[.pointer none] w fun e w' => e = .returned (.tuple #[.agg #[.int .u8 0, str [], str [], .slice none 0 0], .bool false]) ∧ Ext w w' :=
  (Ev.topF_ok Ev.tb_ok Ev.hook_ok Ev.next_top Tryz.call6 (.cons .nilp .nil) w).mono fun _ _ ⟨_, _, h, hv, hs⟩ => by
    cases hv with
    | tup h' => cases h' with
      | cons a b => cases a with
        | agg c => cases c with
          | cons c0 c => cases c with
            | cons c1 c => cases c with
              | cons c2 c => cases c with
                | cons c3 c => cases c; cases c0; cases c1; cases c2; cases c3; cases b with | cons d b => cases b; cases d; exact ⟨h, ext_same hs⟩
theorem done_any (w : World) : Calls Tryz.prog 7 #[.pointer none] w fun e w' => e = .returned (.bool true) ∧ Ext w w' :=
  (Ev.topF_true Ev.tb_ok Ev.hook_ok Ev.done_top Tryz.call7 (.cons .nilp .nil) w).mono fun _ _ h => ⟨h.1, ext_same h.2⟩
theorem err_any (w : World) : Calls Tryz.prog 8 #[.pointer none] w fun e w' => e = .returned (.int .i64 1) ∧ Ext w w' :=
  (Ev.topF_ok Ev.tb_ok Ev.hook_ok Ev.err_top Tryz.call8 (.cons .nilp .nil) w).mono fun _ _ ⟨_, _, h, hv, hs⟩ => by cases hv; exact ⟨h, ext_same hs⟩
theorem linked_any (w : World) : Calls Tryz.prog 9 #[.pointer none] w fun e w' => e = .returned (.bool false) ∧ Ext w w' :=
  (Ev.topF_ok Ev.tb_ok Ev.hook_ok Ev.linked_top Tryz.call9 (.cons .nilp .nil) w).mono fun _ _ ⟨_, _, h, hv, hs⟩ => by cases hv; exact ⟨h, ext_same hs⟩
theorem new_any (w : World) : Calls Tryz.prog 11 #[.int .i64 9, .int .i64 9] w fun e w' => ∃ x, e = .returned x ∧ Ext w w' := by
  obtain ⟨v, hv⟩ := Option.isSome_iff_exists.1 Ev.new_top
  exact (Ev.topF_ok Ev.tb_ok Ev.hook_ok hv Tryz.call11 (.cons (.int _ _) (.cons (.int _ _) .nil)) w).mono fun _ _ ⟨x, _, h, _, hs⟩ => ⟨x, h, ext_same hs⟩
theorem solo_any (w : World) (x : Value) : Calls Tryz.prog 10 #[.pointer none, x] w fun e w' => e = .returned (.int .i64 0) ∧ Ext w w' :=
  (Ev.topF_ok Ev.tb_ok Ev.hook_ok (Ev.solo_top x) Tryz.call10 (.cons .nilp (.cons (.cst _) .nil)) w).mono fun _ _ ⟨_, _, h, hv, hs⟩ => by cases hv; exact ⟨h, ext_same hs⟩
end Go.Proofs.YtkelnieipjgcoaaGreatDoor
