/-
  CONTRACTS of the library's slices.Sort and slices.Compact at []uint64: a row of one's own is sorted, packed. No condition but the row's length.
-/
import Derived.Test.YtfpioijfocmfcaaGreatDoorU10
import Derived.Test.YtfpioijfocmfcaaGreatDoorNBase
import Derived.Sort.OwnSorted
namespace Go.Proofs.YtfpioijfocmfcaaGreatDoor
open Go.RowKit

set_option maxRecDepth 100000 in
theorem ins_none_u (p : Option Addr) (cap : Nat) (w : World) : Calls Tryz.prog 78 #[.slice p 0 cap, .int .i64 0, .int .i64 0] w fun e w' => e = .returned (.tuple #[]) ∧ w' = w := by
  go_enter Tryz.func78, Tryz.ntmps78
  go_wp2
  go_loopg [6] 1 (fun _ s6 wr => s6 = .int .i64 1 ∧ wr = w)
  case atStart => exact ⟨rfl, rfl⟩
  case round =>
    obtain ⟨rfl, rfl⟩ := hrel
    go_wp2
    go_end0
    exact ⟨rfl, rfl⟩
set_option maxRecDepth 100000 in
theorem pdq_none_u (p : Option Addr) (cap : Nat) (w : World) : Calls Tryz.prog 54 #[.slice p 0 cap, .int .i64 0, .int .i64 0, .int .i64 0] w fun e w' => e = .returned (.tuple #[]) ∧ w' = w := by
  go_enter Tryz.func54, Tryz.ntmps54
  go_wp2
  go_loopg [1, 2, 3] 1 (fun _ s1 s2 s3 wr => s1 = .int .i64 0 ∧ s2 = .int .i64 0 ∧ s3 = .int .i64 0 ∧ wr = w)
  case atStart => exact ⟨rfl, rfl, rfl, rfl⟩
  case round =>
    obtain ⟨rfl, rfl, rfl, rfl⟩ := hrel
    go_wp2_with (go_at_call 78; refine (ins_none_u _ _ _).mono ?_; rintro e w' ⟨rfl, rfl⟩)
    (try simp only [Exit.inBlock, Exit.then]); refine bodyPost_ret (results_none rfl _ _ _) rfl ?_
    exact ⟨rfl, rfl⟩
set_option maxRecDepth 100000 in
theorem sort_none_u (p : Option Addr) (cap : Nat) (w : World) : Calls Tryz.prog 33 #[.slice p 0 cap] w fun e w' => e = .returned (.tuple #[]) ∧ w' = w := by
  have hLen : ∀ w, Calls Tryz.prog 48 #[.int .u64 0] w fun e w' => e = .returned (.int .i64 0) ∧ w' = w := fun w => Tryz.bits_Len 0 w (by omega) (by omega)
  go_enter Tryz.func33, Tryz.ntmps33
  go_wp2_with (first
    | (go_at_call 48; refine (hLen _).mono ?_; rintro e w' ⟨rfl, rfl⟩)
    | (go_at_call 54; refine (pdq_none_u _ _ _).mono ?_; rintro e w' ⟨rfl, rfl⟩))
  go_end0
  exact ⟨rfl, rfl⟩

/-- What the rising row is. -/
def rise (l : List Int) : List Int := l.mergeSort fun x y => decide (x ≤ y)
theorem rise_of {l : List Int} {R : Array Int} (hp : Sort.PermIn 0 l.length l.toArray R) (hs : Sort.SortedIn Sort.ltInt 0 l.length R) : R = (rise l).toArray := by
  have h := Sort.sorted_unique_holds Sort.swo_ltInt (fun x y h1 h2 => by simp only [Sort.ltInt, decide_eq_false_iff_not] at h1 h2; omega) l.toArray R (by simpa using hp) (by simpa using hs)
  apply Array.toList_inj.1
  rw [h]
  show l.mergeSort _ = l.mergeSort _
  congr 1
  funext x y
  show (!decide (y < x)) = decide (x ≤ y)
  rw [Bool.eq_iff_iff]
  simp

set_option maxRecDepth 100000 in
theorem sort_some_u (blk off cap : Nat) (l : List Int) (w : World) (hH : Sort.Holds (Value.int .u64) w blk off l.toArray) (hblk : blk < w.heap.size) (hsz : l.length < 1000000) :
    Calls Tryz.prog 33 #[.slice (some ⟨blk, off, none⟩) l.length cap] w fun e w' => e = .returned (.tuple #[]) ∧ ∃ n os, w' = Sort.grow (Sort.putRow (Value.int .u64) (Sort.ahead w n) blk off (rise l).toArray) os := by
  obtain ⟨len, hlen⟩ : ∃ n, n = l.length := ⟨_, rfl⟩
  have hb : Sort.bitsLen len ≤ 62 := (Sort.bitsLen_le_iff len 62).2 (by omega)
  have hLen : ∀ w, Calls Tryz.prog 48 #[.int .u64 (len : Int)] w fun e w' => e = .returned (.int .i64 (Sort.bitsLen len : Nat)) ∧ w' = w := fun w => by
    have h := Tryz.bits_Len (len : Int) w (by omega) (by omega)
    rwa [Int.toNat_natCast, bitLen_eq _ (by omega)] at h
  have hP := pdq_u w blk off cap len l.toArray hH hblk (by simpa using hlen) (by omega) (len + 1) 0 len (Sort.bitsLen len) l.toArray w (by omega) (by simpa using hlen.symm) (Sort.At.refl hH) (by omega) (Nat.le_refl _) (by omega) (Or.inl rfl)
  have HP := Lib.hid hP
  have HLL := Lib.hid hlen
  have hl1 : len < 1000000 := by omega
  rw [← hlen]
  clear hP hlen hH hblk hsz
  have wr : IntKind.u64.wrap (len : Int) = len := by rw [IntKind.wrap_u64]; omega
  go_enter Tryz.func33, Tryz.ntmps33
  go_wp2_with (first
    | (go_at_call 48; refine (hLen _).mono ?_; rintro e w' ⟨rfl, rfl⟩)
    | (go_at_call 54; refine (HP.out).mono ?_; rintro e w' ⟨rfl, R, hp, hs, hA⟩))
  go_end0
  refine ⟨rfl, ?_⟩
  rw [HLL.out] at hp hs
  rw [← rise_of hp hs]
  exact hA

/-! Rows of one's own -/
def nv (n : Nat) : Value := .int .u64 (n : Int)
theorem nv_map (l : List Nat) : (l.map fun n : Nat => (n : Int)).map (Value.int .u64) = l.map nv := by rw [List.map_map]; rfl
theorem nums_holds {w : World} {g : Nat} {cur : Array Value} {e : TypeId} {ss : List Int} (hb : w.heap[g]? = some (.cells cur e (0, 0))) (ht : cur.toList.take ss.length = ss.map (Value.int .u64)) : Sort.Holds (Value.int .u64) w g 0 ss.toArray := by
  intro j hj
  have hj' : j < ss.length := by simpa using hj
  refine ⟨?_, by simp [World.frozen?, hb]⟩
  have h1 : (cur.toList.take ss.length)[j]? = (ss.map (Value.int .u64))[j]? := by rw [ht]
  rw [List.getElem?_take_of_lt hj'] at h1
  simp only [World.cell?, hb, Nat.zero_add]
  simp only [Option.isSome_none, Bool.false_eq_true, if_false]
  rw [← Array.getElem?_toList, h1]
  simp [hj']
theorem nums_block {α : Type} [Inhabited α] {enc : α → Value} {w : World} {g n : Nat} {os : Array Obj} {cur : Array Value} {e : TypeId} {fr : Nat × Nat} (d : Array α) (hb : w.heap[g]? = some (.cells cur e fr)) :
    (Sort.grow (Sort.putRow enc (Sort.ahead w n) g 0 d) os).heap[g]? = some (.cells (Sort.putCells enc 0 d cur) e fr) := by
  have hg : g < w.heap.size := (Array.getElem?_eq_some_iff.1 hb).1
  rw [Sort.heap_grow_old _ _ (by simpa [Sort.putRow, Sort.mapBlock, Sort.ahead] using hg)]
  simp [Sort.putRow, Sort.mapBlock, Sort.ahead, Array.getElem?_modify, hb, Sort.onCells]
theorem nums_grown {α : Type} [Inhabited α] {enc : α → Value} {w : World} {g n : Nat} {os : Array Obj} (d : Array α) : w.grownBy (Sort.grow (Sort.putRow enc (Sort.ahead w n) g 0 d) os) (some g) := by
  refine ⟨rfl, rfl, rfl, by simp [Sort.grow, Sort.putRow, Sort.mapBlock, Sort.ahead], fun k hk hne => ?_⟩
  rw [Sort.heap_grow_old _ _ (by simpa [Sort.putRow, Sort.mapBlock, Sort.ahead] using hk)]
  have : g ≠ k := fun e => hne (by rw [e])
  simp [Sort.putRow, Sort.mapBlock, Sort.ahead, Array.getElem?_modify, this]
theorem nums_take {α : Type} [Inhabited α] {enc : α → Value} (cur : Array Value) (ts : List α) (h : ts.length ≤ cur.size) : (Sort.putCells enc 0 ts.toArray cur).toList.take ts.length = ts.map enc := by
  apply List.ext_getElem?
  intro j
  by_cases hj : j < ts.length
  · rw [List.getElem?_take_of_lt hj, Array.getElem?_toList]
    simp [Sort.putCells, hj, show j < cur.size by omega]
  · rw [List.getElem?_take_eq_none (by omega), List.getElem?_eq_none (by simp; omega)]
/-- The sorted numbers. -/
def riseN (l : List Nat) : List Nat := l.mergeSort fun x y => decide (x ≤ y)
theorem rise_cast (l : List Nat) : rise (l.map fun n : Nat => (n : Int)) = (riseN l).map fun n : Nat => (n : Int) := by
  unfold rise riseN
  refine List.Perm.eq_of_pairwise (le := fun x y : Int => decide (x ≤ y) = true) ?_ ?_ ?_ ((List.mergeSort_perm _ _).trans ((List.mergeSort_perm l _).map _).symm)
  · intro a b _ _ h1 h2
    simp at h1 h2
    omega
  · refine List.pairwise_mergeSort ?_ ?_ _
    · intro a b c h1 h2
      simp at h1 h2 ⊢
      omega
    · intro a b
      simp
      omega
  · have h : (l.mergeSort fun x y => decide (x ≤ y)).Pairwise fun x y => decide (x ≤ y) = true := List.pairwise_mergeSort (fun a b c h1 h2 => by simp at h1 h2 ⊢; omega) (fun a b => by simp; omega) l
    rw [List.pairwise_map]
    exact h.imp fun h => by simpa using h

theorem sortN_any {B : Nat} (w : World) (v : Value) (l : List Nat) (h : w.ownsRow B 22 1 v l.length (l.map nv)) (hl : l.length < 1000000) :
    Calls Tryz.prog 33 #[v] w fun e w' => e = .returned (.tuple #[]) ∧ w'.ownsRow B 22 1 v (riseN l).length ((riseN l).map nv) ∧ w.grownBy w' v.ownBlock := by
  have hlr : (riseN l).length = l.length := List.length_mergeSort _
  rcases h.2 with ⟨rfl, h0⟩ | ⟨g, cap, cur, rfl, hbase, hb, h1, h2, h3, h4⟩
  · have hl0 : l = [] := List.eq_nil_of_length_eq_zero h0
    subst hl0
    refine (sort_none_u none 0 w).mono ?_
    rintro e w' ⟨rfl, rfl⟩
    exact ⟨rfl, by simpa [riseN] using h, ⟨rfl, rfl, rfl, Nat.le_refl _, fun _ _ _ => rfl⟩⟩
  · have hc := sort_some_u g 0 cap (l.map fun n : Nat => (n : Int)) w (nums_holds hb (by rw [nv_map]; simpa using h4)) (Array.getElem?_eq_some_iff.1 hb).1 (by simpa using hl)
    rw [List.length_map] at hc
    refine hc.mono ?_
    rintro e w' ⟨rfl, n, os, rfl⟩
    refine ⟨rfl, ?_, nums_grown _⟩
    rw [rise_cast]
    refine ⟨by simp, .inr ⟨g, cap, _, by rw [hlr], hbase, nums_block _ hb, by omega, h2, by simp [Sort.putCells, h3], ?_⟩⟩
    have ht := nums_take (enc := Value.int .u64) cur ((riseN l).map fun n : Nat => (n : Int)) (by simp [hlr]; omega)
    rw [List.length_map, nv_map] at ht
    rw [Nat.mul_one]
    exact ht

theorem nv_beq (x y : Nat) : ((x : Int) == (y : Int)) = decide (x = y) := by rw [Bool.eq_iff_iff]; simp; omega
theorem nv_one : OneCell nv := fun _ => rfl
theorem nv_eql : EqlAt Tryz.prog 22 nv (fun x y => decide (x = y)) := ⟨fun x y w => by simp [binOp, Op.intCmp, nv, nv_beq], fun op a b x y w => by unfold nv; rw [eqGuard_at_int]; rfl⟩
theorem nv_neq : NeqAt Tryz.prog 22 nv (fun x y => decide (x = y)) := ⟨fun x y w => by simp [binOp, Op.intCmp, nv, bne, nv_beq], fun op a b x y w => by unfold nv; rw [eqGuard_at_int]; rfl⟩
set_option maxRecDepth 100000 in
theorem comp_none_u (w : World) : Calls Tryz.prog 34 #[.slice none 0 0] w fun e w' => e = .returned (.slice none 0 0) ∧ w' = w := by
  go_enter Tryz.func34, Tryz.ntmps34
  go_wp2
  go_ret
  exact ⟨rfl, rfl⟩
theorem compN_length (d : Array Nat) : ∀ m, (Lib.compactUpTo d m).length ≤ m
  | 0 => by simp [Lib.compactUpTo]
  | m + 1 => by
    rw [Lib.compactUpTo_succ, List.length_append]
    have := compN_length d m
    split <;> simp <;> omega
theorem compN_any {B : Nat} (w : World) (v : Value) (l : List Nat) (h : w.ownsRow B 22 1 v l.length (l.map nv)) (hl : l.length < 1000000) :
    Calls Tryz.prog 34 #[v] w fun e w' => ∃ v', e = .returned v' ∧ w'.ownsRow B 22 1 v' (Lib.compact l).length ((Lib.compact l).map nv) ∧ w.grownBy w' v.ownBlock := by
  rcases h.2 with ⟨rfl, h0⟩ | ⟨g, cap, cur, rfl, hbase, hb, h1, h2, h3, h4⟩
  · have hl0 : l = [] := List.eq_nil_of_length_eq_zero h0
    subst hl0
    refine (comp_none_u w).mono ?_
    rintro e w' ⟨rfl, rfl⟩
    exact ⟨_, rfl, by simpa [Lib.compact, Lib.compactUpTo] using h, ⟨rfl, rfl, rfl, Nat.le_refl _, fun _ _ _ => rfl⟩⟩
  · have hH : Sort.Holds nv w g 0 l.toArray := by
      intro j hj
      have h5 := nums_holds (ss := l.map fun n : Nat => (n : Int)) hb (by rw [nv_map]; simpa using h4) j (by simpa using hj)
      have hj' : j < l.length := by simpa using hj
      simpa [nv, hj'] using h5
    have hc := Tryz.slices_Compact_f34 nv nv_one nv_eql nv_neq 0 (fun w => Tryz.zeroValue22 w) g 0 cap l.toArray w hH (by simp; omega) (by simpa using h1)
    simp only [List.size_toArray] at hc
    refine hc.mono ?_
    rintro e w' ⟨rfl, q, rfl⟩
    obtain ⟨z, hz⟩ : ∃ z, z = Lib.compactUpTo l.toArray l.length := ⟨_, rfl⟩
    have hzl : z.length ≤ l.length := by rw [hz]; exact compN_length _ _
    have hze : Lib.compact l = z := by rw [hz]; rfl
    rw [hze, ← hz]
    refine ⟨_, rfl, ⟨by simp, .inr ⟨g, cap, _, rfl, hbase, nums_block (os := #[]) (n := q) _ hb, by omega, h2, by simp [Sort.putCells, h3], ?_⟩⟩, nums_grown (os := #[]) _⟩
    have ht := nums_take (enc := nv) cur (z ++ List.replicate (l.length - z.length) 0) (by simp; omega)
    have e : (Sort.putCells nv 0 (z ++ List.replicate (l.length - z.length) 0).toArray cur).toList.take z.length = ((Sort.putCells nv 0 (z ++ List.replicate (l.length - z.length) 0).toArray cur).toList.take (z ++ List.replicate (l.length - z.length) 0).length).take z.length := by
      rw [List.take_take]; congr 1; simp
    rw [Nat.mul_one, e, ht, List.map_append, List.take_left' (by simp)]
end Go.Proofs.YtfpioijfocmfcaaGreatDoor
