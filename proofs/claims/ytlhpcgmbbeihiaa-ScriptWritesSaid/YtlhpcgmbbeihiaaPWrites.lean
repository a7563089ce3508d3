/-
  PROVED: the law ScriptWrites holds of any configuration, events and kind: the call hands back true, and what came in reads as before. No condition.
-/
import Derived.Test.YtlhpcgmbbeihiaaWrites
import Derived.Test.YtlhpcgmbbeihiaaGIn
namespace Go.Proofs.Ytlhpcgmbbeihiaa
open Go.ChangeShapes Go.WideShapes Go.ChangeAt Go.RowKit

theorem cfg_in {H : Type} {enc : TypeId × Value → H} {W : World} {cs : List Value} (h : Reads1 enc Try.prog W 31 cs) : ∃ c : Cfg, cs = (cfgCells c).toList ∧ CfgWf c ∧ 0 ≤ c.slack := by
  obtain ⟨hl, hf⟩ := field_open Try.underlying31 h
  rw [show Try.prog.cellsOf 31 = 4 from by kernel_rfl] at hl
  match cs, hl with
  | [c0, c1, c2, c3], _ =>
    obtain ⟨n, e0, n0, n1⟩ := int_open Try.underlying3 (hf 0 _ rfl 3 0 1 [c0] rfl rfl Try.kint rfl)
    obtain ⟨s, e1, s0, s1⟩ := int_open Try.underlying25 (hf 1 _ rfl 25 1 1 [c1] rfl rfl Try.k64 rfl)
    obtain ⟨b, e2, b0, b1⟩ := int_open Try.underlying3 (hf 2 _ rfl 3 2 1 [c2] rfl rfl Try.kint rfl)
    obtain ⟨e, e3, e0', e1'⟩ := int_open Try.underlying3 (hf 3 _ rfl 3 3 1 [c3] rfl rfl Try.kint rfl)
    cases e0; cases e1; cases e2; cases e3
    rw [i64min] at n0 b0 e0'; rw [i64max] at n1 b1 e1'; rw [u64min] at s0
    exact ⟨⟨n, s, b, e⟩, rfl, ⟨n0, n1, b0, b1, e0', e1'⟩, s0⟩

set_option maxRecDepth 100000 in
theorem scriptWrites_lifted (os : Os) (started : os.Started) (H : Type) (enc : TypeId × Value → H) :
    ReturnsInHanded {} Try.checked os 5 .any (Rows.scriptWritesSpec.pre6 enc Try.prog Try.f5 Rows.scriptWritesRow.domain false) (Rows.scriptWritesSpec.post enc Try.prog Try.f5 false true false false) := by
  refine returnsInHanded_of_change (C := Try.checked) Try.own started (by kernel_rfl) Try.func5
    (ChangeSpec.witness6 (enc := enc) (C := Try.checked) false ⟨#[], #[.agg #[.int .i64 0, .int .u64 0, .int .i64 0, .int .i64 0], .slice none 0 0, .int .u8 0], []⟩ 8 (by kernel_rfl) (by kernel_rfl) (by kernel_rfl) (by kernel_rfl)) ?_
  intro W base args ds gs before hval0 hW hcnd _
  have hval : ∀ (j : Nat) t v, Try.f5.params[j]? = some t → args[j]? = some v → Value.okWide Try.prog W .any base t v := hval0
  have hW' := hW
  obtain ⟨p, q, hA0, hV, rfl, hfz, hnd⟩ := hW
  have hA : DataW.TrodAll enc Try.prog W 0 (fun _ => true) true Try.f5.params.toList args.toList ds p := hA0
  rw [Try.params5] at hA hval
  obtain ⟨v0, vs0, d0, ds0, p0, q0, hargs, rfl, rfl, h0, r0⟩ := trodAll_cons hA
  obtain ⟨v1, vs1, d1, ds1, p1, q1, rfl, rfl, rfl, h1, r1⟩ := trodAll_cons r0
  obtain ⟨v2, vs2, d2, ds2, p2, q2, rfl, rfl, rfl, h2, r2⟩ := trodAll_cons r1
  obtain ⟨rfl, rfl, rfl⟩ := trodAll_nil r2
  obtain rfl : args = #[v0, v1, v2] := by cases args; simp_all
  obtain ⟨rfl, rfl⟩ := trodVars_none hV
  obtain ⟨xs, rfl, -⟩ := okWide_struct Try.underlying31 (hval 0 31 v0 rfl rfl)
  obtain ⟨a1, len1, cap1, rfl⟩ := okWide_slice Try.underlying32 (hval 1 32 v1 rfl rfl)
  have lt0 : ∀ x ∈ p0, x.block < W.heap.size := by obtain ⟨m, hm⟩ := h0; exact DataW.trod_lt m _ _ _ hm
  have lt1 : ∀ x ∈ p1, x.block < W.heap.size := by obtain ⟨m, hm⟩ := h1; exact DataW.trod_lt m _ _ _ hm
  have lt2 : ∀ x ∈ p2, x.block < W.heap.size := by obtain ⟨m, hm⟩ := h2; exact DataW.trod_lt m _ _ _ hm
  obtain ⟨c, hcc, hcw, hcs⟩ := cfg_in (enc := enc) (W := W) (cs := xs.toList) (by obtain ⟨m, hm⟩ := h0; exact ⟨m, _, hm⟩)
  obtain rfl : xs = cfgCells c := by cases xs; simpa using congrArg List.toArray hcc
  obtain ⟨v, l, hvl, hl, hin⟩ := evs_in (enc := enc) (W := W) (cs := [.slice a1 len1 cap1]) (by obtain ⟨m, hm⟩ := h1; exact ⟨m, _, hm⟩)
  obtain rfl : v = .slice a1 len1 cap1 := by simpa using hvl.symm
  obtain ⟨k, rfl, hk⟩ := open_int Try.underlying5 (hval 2 5 v2 rfl rfl) h2
  have hkb : 0 ≤ k ∧ k < 256 := by
    have hw := hk.2.2
    simp only [Lit.wf, Bool.and_eq_true, decide_eq_true_eq, u8min, u8max] at hw
    omega
  clear hA0 hval0
  refine (writes_any W c _ l k hl hin hcw hcs hkb.1 hkb.2).mono fun e W' ⟨he, hx⟩ => ?_
  subst he
  have bel := hx.below
  exact ⟨_, rfl, _, _, _, [], _, [], hW', trodAll_mk1 (shut_bool Try.underlying4 _), (trodAll_cons_mk (Below.trod Try.laidOut (by kernel_rfl) (of_decide_eq_true (by kernel_rfl)) h0 bel lt0) (trodAll_cons_mk (Below.trod Try.laidOut (by kernel_rfl) (of_decide_eq_true (by kernel_rfl)) h1 bel lt1) (trodAll_cons_mk (Below.trod Try.laidOut (by kernel_rfl) (of_decide_eq_true (by kernel_rfl)) h2 bel lt2) trodAll_mk0))), rfl, bel.frame _, fun h => by cases h⟩

theorem scriptWrites_holds : Rows.ScriptWritesSaid :=
  OpenClaim.holds_of_wide 5 Try.f5 rfl rfl rfl rfl rfl rfl rfl ⟨rfl, rfl, rfl, rfl, rfl⟩ rfl rfl rfl rfl rfl (by kernel_rfl) Try.func5 (by kernel_rfl)
    (of_decide_eq_true (by kernel_rfl)) (by unfold Func.isWrapper; first | (rw [if_pos (by decide +kernel)]; kernel_rfl) | (rw [if_neg (by decide +kernel)]; exact ⟨rfl, rfl⟩))
    (fun os started H enc _ => scriptWrites_lifted os started H enc)
#print axioms scriptWrites_holds
end Go.Proofs.Ytlhpcgmbbeihiaa
