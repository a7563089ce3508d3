/-
  CONTRACTS of script: parts (its table), at each kind from 0 to 17.
-/
import Derived.Test.YtlhpcgmbbeihiaaGRd1
namespace Go.Proofs.Ytlhpcgmbbeihiaa
open Go.RowKit

theorem partsTable (k : Nat) (hk : k < 18) : ([.string ⟨#[]⟩, .string ⟨#[110]⟩, .string ⟨#[110]⟩, .string ⟨#[]⟩, .string ⟨#[110, 111]⟩, .string ⟨#[110]⟩, .string ⟨#[100, 117]⟩, .string ⟨#[100, 112, 117]⟩, .string ⟨#[100, 112]⟩, .string ⟨#[100, 112, 116]⟩, .string ⟨#[100, 112, 118, 101]⟩, .string ⟨#[100]⟩, .string ⟨#[100, 118]⟩, .string ⟨#[100, 118, 117]⟩, .string ⟨#[100, 118]⟩, .string ⟨#[100, 112]⟩, .string ⟨#[100]⟩, .string ⟨#[100]⟩] : List Value)[k]? = some (str (partsF k)) := by
  have h : k = 0 ∨ k = 1 ∨ k = 2 ∨ k = 3 ∨ k = 4 ∨ k = 5 ∨ k = 6 ∨ k = 7 ∨ k = 8 ∨ k = 9 ∨ k = 10 ∨ k = 11 ∨ k = 12 ∨ k = 13 ∨ k = 14 ∨ k = 15 ∨ k = 16 ∨ k = 17 := by omega
  rcases h with rfl | rfl | rfl | rfl | rfl | rfl | rfl | rfl | rfl | rfl | rfl | rfl | rfl | rfl | rfl | rfl | rfl | rfl <;> rfl

set_option maxRecDepth 100000 in
set_option maxHeartbeats 4000000 in
theorem scriptParts_any (w : World) (k : Nat) (hk : k < 18) :
    Calls Try.prog 54 #[.int .u8 k] w fun e w' => e = .returned (str (partsF k)) ∧ Ext w w' := by
    have hki : (k : Int) < 18 := by omega
    have hb : ∀ w, (Instr.build 96 #[(1, .string ⟨#[110]⟩), (2, .string ⟨#[110]⟩), (3, .string ⟨#[]⟩), (4, .string ⟨#[110, 111]⟩), (5, .string ⟨#[110]⟩), (6, .string ⟨#[100, 117]⟩), (7, .string ⟨#[100, 112, 117]⟩), (8, .string ⟨#[100, 112]⟩), (9, .string ⟨#[100, 112, 116]⟩), (10, .string ⟨#[100, 112, 118, 101]⟩), (11, .string ⟨#[100]⟩), (12, .string ⟨#[100, 118]⟩), (13, .string ⟨#[100, 118, 117]⟩), (14, .string ⟨#[100, 118]⟩), (15, .string ⟨#[100, 112]⟩), (16, .string ⟨#[100]⟩), (17, .string ⟨#[100]⟩)]).run Try.prog w = .ok (.agg #[.string ⟨#[]⟩, .string ⟨#[110]⟩, .string ⟨#[110]⟩, .string ⟨#[]⟩, .string ⟨#[110, 111]⟩, .string ⟨#[110]⟩, .string ⟨#[100, 117]⟩, .string ⟨#[100, 112, 117]⟩, .string ⟨#[100, 112]⟩, .string ⟨#[100, 112, 116]⟩, .string ⟨#[100, 112, 118, 101]⟩, .string ⟨#[100]⟩, .string ⟨#[100, 118]⟩, .string ⟨#[100, 118, 117]⟩, .string ⟨#[100, 118]⟩, .string ⟨#[100, 112]⟩, .string ⟨#[100]⟩, .string ⟨#[100]⟩]) w := fun w => run_build w _ _ _ (by kernel_rfl)
    have ht := partsTable k hk
    have HT := Lib.hid ht
    clear ht
    go_enter Try.func54, Try.ntmps54
    go_wp2
    go_ret
    refine ⟨?_, (Upd.refl _ _).alloc _⟩
    have hget := List.getElem?_eq_some_iff.1 HT.out
    obtain ⟨_, hv⟩ := hget
    rw [← hv]
    rfl

end Go.Proofs.Ytlhpcgmbbeihiaa
