/-
  CONTRACTS of the small functions of package name: of, numbers, heads, counts. No condition.
-/
import Derived.Test.YtfpioijfocmfcaaGreatDoorNInv
import Derived.Test.YtfpioijfocmfcaaGreatDoorNPlain
import Derived.Deep.CutRange
namespace Go.Proofs.YtfpioijfocmfcaaGreatDoor
open Go.RowKit

abbrev u64 (n : Nat) : Value := .int .u64 (n : Int)
def nmCells (x : Nm) : Array Value := #[.int .u8 x.kind, u64 x.doc, u64 x.n, u64 x.proc, u64 x.inc, u64 x.k]
def four (l : List Nat) : Array Value := #[u64 (l.getD 0 0), u64 (l.getD 1 0), u64 (l.getD 2 0), u64 (l.getD 3 0)]
theorem nmCells_one (x : Nm) : (nmCells x).all (·.oneCell') = true := by simp [nmCells, Value.oneCell']
theorem Tryz.nmT (x : Nm) : StructT Tryz.prog 58 (nmCells x).size := ⟨_, Tryz.underlying58, rfl, by kernel_rfl⟩
theorem four_one (l : List Nat) : (four l).all (·.oneCell') = true := by simp [four, Value.oneCell']

set_option maxHeartbeats 400000 in
theorem of_any (w : World) (k a b c d : Nat) :
    Calls Tryz.prog 43 #[.int .u8 k, .agg #[u64 a, u64 b, u64 c, u64 d]] w fun e w' => e = .returned (.agg (nmCells (ofF k [a, b, c, d]))) ∧ Ext w w' := by
  by_cases h1 : k = 1
  · subst h1
    go_enter Tryz.func43, Tryz.ntmps43
    go_wp2
    refine bodyPost_ret (v := .agg (nmCells (ofF 1 [a, b, c, d]))) (by simp [results, Tryz.results43, go_sem, nmCells, ofF]) rfl ⟨rfl, ?_⟩
    exact ((Upd.refl _ _).alloc _).alloc _
  by_cases h2 : k = 2
  · subst h2
    go_enter Tryz.func43, Tryz.ntmps43
    go_wp2
    refine bodyPost_ret (v := .agg (nmCells (ofF 2 [a, b, c, d]))) (by simp [results, Tryz.results43, go_sem, nmCells, ofF]) rfl ⟨rfl, ?_⟩
    exact ((Upd.refl _ _).alloc _).alloc _
  by_cases h3 : k = 3
  · subst h3
    go_enter Tryz.func43, Tryz.ntmps43
    go_wp2
    refine bodyPost_ret (v := .agg (nmCells (ofF 3 [a, b, c, d]))) (by simp [results, Tryz.results43, go_sem, nmCells, ofF]) rfl ⟨rfl, ?_⟩
    exact ((Upd.refl _ _).alloc _).alloc _
  have f1 : ((k : Int) == 1) = false := by simp; omega
  have f2 : ((k : Int) == 2) = false := by simp; omega
  have f3 : ((k : Int) == 3) = false := by simp; omega
  go_enter Tryz.func43, Tryz.ntmps43
  go_wp2
  refine bodyPost_ret (v := .agg (nmCells (ofF k [a, b, c, d]))) (by simp [results, Tryz.results43, go_sem, nmCells, ofF, h1, h2, h3]) rfl ⟨rfl, ?_⟩
  exact ((Upd.refl _ _).alloc _).alloc _
set_option maxHeartbeats 400000 in
theorem numbers_any (w : World) (x : Nm) :
    Calls Tryz.prog 56 #[.agg (nmCells x)] w fun e w' => e = .returned (.agg (four (numsF x))) ∧ Ext w w' := by
  obtain ⟨k, a, b, c, d, g⟩ := x
  show Calls Tryz.prog 56 #[.agg #[.int .u8 k, u64 a, u64 b, u64 c, u64 d, u64 g]] w fun e w' => e = .returned (.agg (four (numsF ⟨k, a, b, c, d, g⟩))) ∧ Ext w w'
  by_cases h1 : k = 1
  · subst h1
    go_enter Tryz.func56, Tryz.ntmps56
    go_wp2
    refine bodyPost_ret (v := .agg (four (numsF ⟨1, a, b, c, d, g⟩))) (by simp [results, Tryz.results56, go_sem, four, numsF]) rfl ⟨rfl, ?_⟩
    exact ((Upd.refl _ _).alloc _).alloc _
  by_cases h2 : k = 2
  · subst h2
    go_enter Tryz.func56, Tryz.ntmps56
    go_wp2
    refine bodyPost_ret (v := .agg (four (numsF ⟨2, a, b, c, d, g⟩))) (by simp [results, Tryz.results56, go_sem, four, numsF]) rfl ⟨rfl, ?_⟩
    exact ((Upd.refl _ _).alloc _).alloc _
  by_cases h3 : k = 3
  · subst h3
    go_enter Tryz.func56, Tryz.ntmps56
    go_wp2
    refine bodyPost_ret (v := .agg (four (numsF ⟨3, a, b, c, d, g⟩))) (by simp [results, Tryz.results56, go_sem, four, numsF]) rfl ⟨rfl, ?_⟩
    exact ((Upd.refl _ _).alloc _).alloc _
  have f1 : ((k : Int) == 1) = false := by simp; omega
  have f2 : ((k : Int) == 2) = false := by simp; omega
  have f3 : ((k : Int) == 3) = false := by simp; omega
  go_enter Tryz.func56, Tryz.ntmps56
  go_wp2
  refine bodyPost_ret (v := .agg (four (numsF ⟨k, a, b, c, d, g⟩))) (by simp [results, Tryz.results56, go_sem, four, numsF, h1, h2, h3]) rfl ⟨rfl, ?_⟩
  exact ((Upd.refl _ _).alloc _).alloc _

def headsV : Array Value := #[str [], str [115], str [98], str [116], str [106]]
def countsV : Array Value := #[.int .i64 0, .int .i64 2, .int .i64 2, .int .i64 3, .int .i64 4]
theorem heads_any (w : World) : Calls Tryz.prog 38 #[] w fun e w' => e = .returned (.agg headsV) ∧ Ext w w' := by
  go_enter Tryz.func38, Tryz.ntmps38
  go_wp2
  refine bodyPost_ret (v := .agg headsV) (by simp [results, Tryz.results38, go_sem, headsV]) rfl ⟨rfl, ?_⟩
  exact (Upd.refl _ _).alloc _
theorem counts_any (w : World) : Calls Tryz.prog 40 #[] w fun e w' => e = .returned (.agg countsV) ∧ Ext w w' := by
  go_enter Tryz.func40, Tryz.ntmps40
  go_wp2
  refine bodyPost_ret (v := .agg countsV) (by simp [results, Tryz.results40, go_sem, countsV]) rfl ⟨rfl, ?_⟩
  exact (Upd.refl _ _).alloc _
theorem headsV_at {k : Nat} (h1 : 1 ≤ k) (h2 : k ≤ 4) : headsV[k]? = some (str [headF k]) := by
  have : k = 1 ∨ k = 2 ∨ k = 3 ∨ k = 4 := by omega
  rcases this with rfl | rfl | rfl | rfl <;> rfl
theorem countsV_at {k : Nat} (h1 : 1 ≤ k) (h2 : k ≤ 4) : countsV[k]? = some (.int .i64 (countF k : Int)) := by
  have : k = 1 ∨ k = 2 ∨ k = 3 ∨ k = 4 := by omega
  rcases this with rfl | rfl | rfl | rfl <;> rfl
end Go.Proofs.YtfpioijfocmfcaaGreatDoor
