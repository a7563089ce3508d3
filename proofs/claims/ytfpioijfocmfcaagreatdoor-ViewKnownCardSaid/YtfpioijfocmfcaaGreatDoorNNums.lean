/-
  CONTRACT of strconv.FormatUint: any number's digits. Condition: the library's table of powers of ten lies as it is laid.
-/
import Derived.Test.YtfpioijfocmfcaaGreatDoorNBase
import Derived.Test.YtfpioijfocmfcaaGreatDoorNPlain
import Derived.Test.YtfpioijfocmfcaaGreatDoorShelf
import Derived.Lib.Walk
import Derived.Lib.ItoaMem
namespace Go.Proofs.YtfpioijfocmfcaaGreatDoor
open Go.RowKit Go.Sort

abbrev Tab (w : World) : Prop := Lib.TabIs Tryz.prog w "internal/strconv.uint64pow10" .u64 Lib.pow10Tab
theorem tab_upd {S : Nat → Prop} {w w' : World} (h : Tab w) (hu : Upd S w w') (hS : ∀ g, Tryz.prog.globalNamed "internal/strconv.uint64pow10" = some g → ¬ S g) : Tab w' := by
  unfold Tab Lib.TabIs World.var? at *
  cases hg : Tryz.prog.globalNamed "internal/strconv.uint64pow10" with
  | none => simp [hg] at h
  | some g =>
    simp only [hg, Option.bind_some] at h ⊢
    have hlt : g < w.heap.size := by
      rcases Nat.lt_or_ge g w.heap.size with h' | h'
      · exact h'
      · rw [Array.getElem?_eq_none h'] at h; simp at h
    rw [hu.block g hlt (hS g hg)]
    exact h
theorem tab_ext {w w' : World} (h : Tab w) (hu : Ext w w') : Tab w' := tab_upd h hu (fun _ _ e => e)
theorem ext_grow (w : World) (k : Nat) (os : Array Obj) : Ext w (grow (w.drewN k) os) := by
  refine ⟨rfl, rfl, rfl, ?_, fun j hj _ => ?_⟩
  · show w.heap.size ≤ (w.heap ++ os).size
    simp
  · show (w.heap ++ os)[j]? = w.heap[j]?
    rw [Array.getElem?_append_left hj]

theorem holds0 (w : World) (T : TypeId) (nd : Nat) (hs : nd ≤ 24) : Holds (fun (b : UInt8) => Value.int .u8 (b.toNat : Int)) (w.alloc (.cells Lib.zeros24 T)) w.heap.size 0 (Array.replicate nd (0 : UInt8)) := fun j hj => by
  have hj' : j < nd := by simpa using hj
  refine ⟨?_, World.frozen?_alloc_new _ _ _ _⟩
  rw [World.cell?_alloc_new, Lib.zeros24_at _ (by omega), getElem!_pos _ j hj]
  simp
theorem Tryz.arrT : Tryz.prog.arrayLen 147 = 24 := by kernel_rfl
theorem Tryz.arrE : Tryz.prog.elem 147 = Tryz.prog.elem 147 := rfl

set_option maxRecDepth 100000 in
set_option maxHeartbeats 2000000 in
theorem fmtUintIn_any (w : World) (u : Nat) (hu : u < 18446744073709551616) (ht : Tab w) :
    Calls Tryz.prog 61 #[.int .u64 u, .int .i64 10] w fun e w' => e = .returned (str (Lib.decDigits u)) ∧ Ext w w' := by
  by_cases hs : u < 100
  · go_enter Tryz.func61, Tryz.ntmps61
    go_wp2_with (go_at_call 99; fail)
    refine (Tryz.internal_strconv_small u hs _).mono ?_
    rintro e w' ⟨rfl, rfl⟩
    go_wp2
    go_ret
    exact ⟨rfl, Upd.refl _ _⟩
  · have hu1 : 1 ≤ u := by omega
    have hnd20 : Lib.nDigits u ≤ 20 := by have := Lib.numDigits_eq u hu1 hu; split at this <;> omega
    have hsl : ∀ W, (Instr.sliceAt 147 (.pointer (some ⟨w.heap.size, 0, none⟩)) none (some (.int .i64 (Lib.nDigits u : Int))) none).run Tryz.prog W = .ok (.slice (some ⟨w.heap.size, 0, none⟩) (Lib.nDigits u) 24) W := fun W => by
      rw [run_sliceAt_array_h W 147 ⟨w.heap.size, 0, none⟩ (by kernel_rfl) .i64 (Lib.nDigits u : Int) (by omega) (by rw [Tryz.arrT]; omega), Tryz.arrT]
      go_simp
    have hH0 := holds0 w 147 (Lib.nDigits u) (by omega)
    have hfmt := Tryz.internal_strconv_formatBase10 w.heap.size 0 24 u (Array.replicate (Lib.nDigits u) 0) (w.alloc (.cells Lib.zeros24 147)) hH0 (by rw [Array.size_replicate]; exact Lib.lt_pow_nDigits u) hu (by rw [Array.size_replicate]; omega)
    rw [Array.size_replicate] at hfmt
    have HH0 := Lib.hid hH0
    clear hH0
    go_enter Tryz.func61, Tryz.ntmps61
    go_wp2_with (go_at_call 100; fail)
    refine (Tryz.internal_strconv_numDigits u hu1 hu _ (Lib.tabIs_alloc ht _)).mono ?_
    rintro e w' ⟨rfl, rfl⟩
    go_wp2_with (go_at_call 101; fail)
    refine hfmt.mono ?_
    rintro e w' ⟨rfl, k, v', dk, rfl, hF⟩
    obtain ⟨W', hW'⟩ : ∃ W', W' = (putRow (fun (b : UInt8) => Value.int .u8 (b.toNat : Int)) (w.alloc (.cells Lib.zeros24 147)) w.heap.size 0 dk).drewN k := ⟨_, rfl⟩
    have hx : Ext w W' := by
      rw [hW', alloc_eq_grow]
      obtain ⟨os', _, e⟩ := putRow_grow_new (fun (b : UInt8) => Value.int .u8 (b.toNat : Int)) w #[.cells Lib.zeros24 147] w.heap.size 0 dk (Nat.le_refl _)
      rw [e]
      exact ext_grow w k os'
    have hlen := Lib.decDigits_length u
    have hrow : Bytes (fun _ => True) W' (.slice (some ⟨w.heap.size, 0, none⟩) (Lib.nDigits u) 24) (Lib.decDigits u) := by
      refine ⟨_, _, by rw [hlen], by omega, by unfold maxLen; omega, fun e => (by cases e), fun x e _ => (by cases e; exact ⟨rfl, trivial⟩), fun b o hbo j u' hj => ?_⟩
      cases hbo
      have hj' : j < (Lib.decDigits u).length := by have := (List.getElem?_eq_some_iff.1 hj).1; simpa using this
      rw [List.getElem?_map, List.getElem?_eq_getElem hj'] at hj
      simp only [Option.map_some, Option.some.injEq] at hj
      rw [← hj, Lib.row_is_numeral hF j hj', hW', World.cell?_drewN]
      exact cell?_putRow (fun (b : UInt8) => Value.int .u8 (b.toNat : Int)) _ w.heap.size 0 _ dk HH0.out (by rw [hF.size, Array.size_replicate]) j (by rw [hF.size]; omega)
    have hcv := row_string (P := Tryz.prog) hrow Tryz.underlying131 Tryz.underlying5 Tryz.underlying9
    have HX := Lib.hid hx
    rw [← hW']
    clear hrow hx hW' hF hlen hfmt HH0
    go_wp2
    go_ret
    exact ⟨rfl, HX.out⟩

set_option maxRecDepth 100000 in
theorem fmtUint_any (w : World) (u : Nat) (hu : u < 18446744073709551616) (ht : Tab w) :
    Calls Tryz.prog 42 #[.int .u64 u, .int .i64 10] w fun e w' => e = .returned (str (Lib.decDigits u)) ∧ Ext w w' := by
  go_enter Tryz.func42, Tryz.ntmps42
  go_wp2_with (go_at_call 61; fail)
  refine (fmtUintIn_any w u hu ht).mono ?_
  rintro e w' ⟨rfl, hx⟩
  go_wp2
  go_ret
  exact ⟨rfl, hx⟩

theorem dec_len {u : Nat} (hu : u < 18446744073709551616) : (Lib.decDigits u).length ≤ 20 := by
  have key : ∀ (k u : Nat), u < 10 ^ (k + 1) → (Lib.decDigits u).length ≤ k + 1 := by
    intro k
    induction k with
    | zero => intro u h; rw [Lib.decDigits, dif_pos (by simpa using h)]; simp
    | succ k ih =>
      intro u h
      by_cases h1 : u < 10
      · rw [Lib.decDigits, dif_pos h1]; simp
      · have h2 : u / 10 < 10 ^ (k + 1) := by rw [Nat.div_lt_iff_lt_mul (by decide)]; rw [Nat.pow_succ] at h; exact h
        rw [Lib.decDigits, dif_neg h1, List.length_append]
        have := ih _ h2
        simp; omega
  exact key 19 u (by have : (18446744073709551616 : Nat) < 10 ^ 20 := by decide
                     omega)

end Go.Proofs.YtfpioijfocmfcaaGreatDoor
