/-
  CONTRACTS of strconv.Itoa, strconv.FormatUint and the reference's digits: any number's digits. Condition of the first two: the library's table of powers of ten lies as it is laid.
-/
import Derived.Test.YtlhpcgmbbeihiaaDoorDBase
import Derived.Test.YtlhpcgmbbeihiaaDoorShelf
import Derived.Lib.Walk
import Derived.Lib.ItoaMem
namespace Go.Proofs.YtlhpcgmbbeihiaaDoor
open Go.RowKit Go.Sort

abbrev Tab (w : World) : Prop := Lib.TabIs Tryd.prog w "internal/strconv.uint64pow10" .u64 Lib.pow10Tab
theorem tab_upd {S : Nat → Prop} {w w' : World} (h : Tab w) (hu : Upd S w w') (hS : ∀ g, Tryd.prog.globalNamed "internal/strconv.uint64pow10" = some g → ¬ S g) : Tab w' := by
  unfold Tab Lib.TabIs World.var? at *
  cases hg : Tryd.prog.globalNamed "internal/strconv.uint64pow10" with
  | none => simp [hg] at h
  | some g =>
    simp only [hg, Option.bind_some] at h ⊢
    have hlt : g < w.heap.size := by
      rcases Nat.lt_or_ge g w.heap.size with h' | h'
      · exact h'
      · rw [Array.getElem?_eq_none h'] at h; simp at h
    rw [hu.block g hlt (hS g hg)]
    exact h
theorem tab_ext {w w' : World} (h : Tab w) (hu : Ext w w') : Tab w' := tab_upd h hu (fun _ _ e => e)
theorem ext_grow (w : World) (k : Nat) (os : Array Obj) : Ext w (grow (w.drewN k) os) := by
  refine ⟨rfl, rfl, rfl, ?_, fun j hj _ => ?_⟩
  · show w.heap.size ≤ (w.heap ++ os).size
    simp
  · show (w.heap ++ os)[j]? = w.heap[j]?
    rw [Array.getElem?_append_left hj]

theorem itoa_any (w : World) (n : Int) (h0 : -9223372036854775808 ≤ n) (h1 : n ≤ 9223372036854775807) (ht : Tab w) :
    Calls Tryd.prog 54 #[.int .i64 n] w fun e w' => e = .returned (str (Lib.itoa n)) ∧ Ext w w' :=
  (Tryd.strconv_Itoa n h0 h1 w ht).mono fun e w' ⟨he, k, os, hw⟩ => ⟨he, by rw [hw]; exact ext_grow _ _ _⟩

theorem holds0 (w : World) (T : TypeId) (nd : Nat) (hs : nd ≤ 24) : Holds (fun (b : UInt8) => Value.int .u8 (b.toNat : Int)) (w.alloc (.cells Lib.zeros24 T)) w.heap.size 0 (Array.replicate nd (0 : UInt8)) := fun j hj => by
  have hj' : j < nd := by simpa using hj
  refine ⟨?_, World.frozen?_alloc_new _ _ _ _⟩
  rw [World.cell?_alloc_new, Lib.zeros24_at _ (by omega), getElem!_pos _ j hj]
  simp
theorem Tryd.arrT : Tryd.prog.arrayLen 133 = 24 := by kernel_rfl
theorem Tryd.arrE : Tryd.prog.elem 133 = Tryd.prog.elem 133 := rfl

set_option maxRecDepth 100000 in
set_option maxHeartbeats 2000000 in
theorem fmtUintIn_any (w : World) (u : Nat) (hu : u < 18446744073709551616) (ht : Tab w) :
    Calls Tryd.prog 73 #[.int .u64 u, .int .i64 10] w fun e w' => e = .returned (str (Lib.decDigits u)) ∧ Ext w w' := by
  by_cases hs : u < 100
  · go_enter Tryd.func73, Tryd.ntmps73
    go_wp2_with (go_at_call 83; fail)
    refine (Tryd.internal_strconv_small u hs _).mono ?_
    rintro e w' ⟨rfl, rfl⟩
    go_wp2
    go_ret
    exact ⟨rfl, Upd.refl _ _⟩
  · have hu1 : 1 ≤ u := by omega
    have hnd20 : Lib.nDigits u ≤ 20 := by have := Lib.numDigits_eq u hu1 hu; split at this <;> omega
    have hsl : ∀ W, (Instr.sliceAt 133 (.pointer (some ⟨w.heap.size, 0, none⟩)) none (some (.int .i64 (Lib.nDigits u : Int))) none).run Tryd.prog W = .ok (.slice (some ⟨w.heap.size, 0, none⟩) (Lib.nDigits u) 24) W := fun W => by
      rw [run_sliceAt_array_h W 133 ⟨w.heap.size, 0, none⟩ (by kernel_rfl) .i64 (Lib.nDigits u : Int) (by omega) (by rw [Tryd.arrT]; omega), Tryd.arrT]
      go_simp
    have hH0 := holds0 w 133 (Lib.nDigits u) (by omega)
    have hfmt := Tryd.internal_strconv_formatBase10 w.heap.size 0 24 u (Array.replicate (Lib.nDigits u) 0) (w.alloc (.cells Lib.zeros24 133)) hH0 (by rw [Array.size_replicate]; exact Lib.lt_pow_nDigits u) hu (by rw [Array.size_replicate]; omega)
    rw [Array.size_replicate] at hfmt
    have HH0 := Lib.hid hH0
    clear hH0
    go_enter Tryd.func73, Tryd.ntmps73
    go_wp2_with (go_at_call 84; fail)
    refine (Tryd.internal_strconv_numDigits u hu1 hu _ (Lib.tabIs_alloc ht _)).mono ?_
    rintro e w' ⟨rfl, rfl⟩
    go_wp2_with (go_at_call 85; fail)
    refine hfmt.mono ?_
    rintro e w' ⟨rfl, k, v', dk, rfl, hF⟩
    obtain ⟨W', hW'⟩ : ∃ W', W' = (putRow (fun (b : UInt8) => Value.int .u8 (b.toNat : Int)) (w.alloc (.cells Lib.zeros24 133)) w.heap.size 0 dk).drewN k := ⟨_, rfl⟩
    have hx : Ext w W' := by
      rw [hW', alloc_eq_grow]
      obtain ⟨os', _, e⟩ := putRow_grow_new (fun (b : UInt8) => Value.int .u8 (b.toNat : Int)) w #[.cells Lib.zeros24 133] w.heap.size 0 dk (Nat.le_refl _)
      rw [e]
      exact ext_grow w k os'
    have hlen := Lib.decDigits_length u
    have hrow : Bytes (fun _ => True) W' (.slice (some ⟨w.heap.size, 0, none⟩) (Lib.nDigits u) 24) (Lib.decDigits u) := by
      refine ⟨_, _, by rw [hlen], by omega, by unfold maxLen; omega, fun e => (by cases e), fun x e _ => (by cases e; exact ⟨rfl, trivial⟩), fun b o hbo j u' hj => ?_⟩
      cases hbo
      have hj' : j < (Lib.decDigits u).length := by have := (List.getElem?_eq_some_iff.1 hj).1; simpa using this
      rw [List.getElem?_map, List.getElem?_eq_getElem hj'] at hj
      simp only [Option.map_some, Option.some.injEq] at hj
      rw [← hj, Lib.row_is_numeral hF j hj', hW', World.cell?_drewN]
      exact cell?_putRow (fun (b : UInt8) => Value.int .u8 (b.toNat : Int)) _ w.heap.size 0 _ dk HH0.out (by rw [hF.size, Array.size_replicate]) j (by rw [hF.size]; omega)
    have hcv := row_string (P := Tryd.prog) hrow Tryd.underlying26 Tryd.underlying5 Tryd.underlying9
    have HX := Lib.hid hx
    rw [← hW']
    clear hrow hx hW' hF hlen hfmt HH0
    go_wp2
    go_ret
    exact ⟨rfl, HX.out⟩

set_option maxRecDepth 100000 in
theorem fmtUint_any (w : World) (u : Nat) (hu : u < 18446744073709551616) (ht : Tab w) :
    Calls Tryd.prog 55 #[.int .u64 u, .int .i64 10] w fun e w' => e = .returned (str (Lib.decDigits u)) ∧ Ext w w' := by
  go_enter Tryd.func55, Tryd.ntmps55
  go_wp2_with (go_at_call 73; fail)
  refine (fmtUintIn_any w u hu ht).mono ?_
  rintro e w' ⟨rfl, hx⟩
  go_wp2
  go_ret
  exact ⟨rfl, hx⟩

theorem dec_len {u : Nat} (hu : u < 18446744073709551616) : (Lib.decDigits u).length ≤ 20 := by
  have key : ∀ (k u : Nat), u < 10 ^ (k + 1) → (Lib.decDigits u).length ≤ k + 1 := by
    intro k
    induction k with
    | zero => intro u h; rw [Lib.decDigits, dif_pos (by simpa using h)]; simp
    | succ k ih =>
      intro u h
      by_cases h1 : u < 10
      · rw [Lib.decDigits, dif_pos h1]; simp
      · have h2 : u / 10 < 10 ^ (k + 1) := by rw [Nat.div_lt_iff_lt_mul (by decide)]; rw [Nat.pow_succ] at h; exact h
        rw [Lib.decDigits, dif_neg h1, List.length_append]
        have := ih _ h2
        simp; omega
  exact key 19 u (by have : (18446744073709551616 : Nat) < 10 ^ 20 := by decide
                     omega)

set_option maxRecDepth 100000 in
set_option maxHeartbeats 1000000 in
theorem digits_any : ∀ (u : Nat) (w : World), u < 18446744073709551616 →
    Calls Tryd.prog 57 #[.int .u64 u] w fun e w' => e = .returned (str (Lib.decDigits u)) ∧ Ext w w' := by
  intro u
  induction u using Nat.strongRecOn with
  | _ u ih =>
    intro w hu
    by_cases hs : u < 10
    · have hd : Lib.decDigits u = [UInt8.ofNat (48 + u)] := by rw [Lib.decDigits, dif_pos hs]
      obtain ⟨c, hc⟩ : ∃ c, c = UInt8.ofNat (48 + u) := ⟨_, rfl⟩
      rw [← hc] at hd
      have hrow : Bytes (At w.heap.size) (w.alloc (.cells #[.int .u8 (48 + (u : Int))] 5)) (.slice (some ⟨w.heap.size, 0, none⟩) 1 1) [c] := by
        have := row_new w #[.int .u8 (48 + (u : Int))] 5 1 w.heap.size (by decide) rfl
        rw [show (#[.int .u8 (48 + (u : Int))] : Array Value).toList = [c].map Go.Proofs.YtlhpcgmbbeihiaaDoor.u8 from by
          rw [hc]
          simp only [List.map_cons, List.map_nil, Go.Proofs.YtlhpcgmbbeihiaaDoor.u8]
          rw [ofNat_toNat (by omega)]; rfl] at this
        exact this
      have hcv := row_string (P := Tryd.prog) hrow Tryd.underlying26 Tryd.underlying5 Tryd.underlying9
      have HD := Lib.hid hd
      clear hrow hd hc
      go_enter Tryd.func57, Tryd.ntmps57
      go_wp2
      go_ret
      exact ⟨by rw [HD.out]; rfl, (Upd.refl _ _).alloc _⟩
    · have hd : Lib.decDigits u = Lib.decDigits (u / 10) ++ Lib.decDigits (u % 10) := by
        rw [Lib.decDigits, dif_neg hs]
        congr 1
        rw [Lib.decDigits, dif_pos (by omega)]
      have h1 := ih (u / 10) (by omega)
      have h2 := ih (u % 10) (by omega)
      have HD := Lib.hid hd
      have H1 := Lib.hid h1
      have H2 := Lib.hid h2
      clear h1 h2 hd ih
      go_enter Tryd.func57, Tryd.ntmps57
      go_wp2_with (go_at_call 57; fail)
      rw [show (u : Int) / 10 = ((u / 10 : Nat) : Int) from by omega]
      refine (H1.out w (by omega)).mono ?_
      rintro e w1 ⟨rfl, hx1⟩
      go_wp2_with (go_at_call 57; fail)
      rw [show (u : Int) % 10 = ((u % 10 : Nat) : Int) from by omega]
      refine (H2.out w1 (by omega)).mono ?_
      rintro e w2 ⟨rfl, hx2⟩
      have g1 := dec_len (u := u / 10) (by omega)
      have g2 := dec_len (u := u % 10) (by omega)
      go_wp2
      go_ret
      refine ⟨?_, hx1.trans hx2⟩
      rw [HD.out]
      show Ending.returned (Value.string _) = _
      congr 2
      first | done | (apply ByteArray.ext; simp)
end Go.Proofs.YtlhpcgmbbeihiaaDoor
