/-
  CONTRACT of the reference's Sort: the Names of texts, in order, in a row of its own. Conditions: texts of at most a million bytes, at most a million of them; the library's variables lie as they are laid.
-/
import Derived.Test.YtfniemagbapeaaaGreatDoorNSort
namespace Go.Proofs.YtfniemagbapeaaaGreatDoor
open Go.RowKit Go.Sort

/-! one more, laid where it belongs -/
def insAt (ys : List Nm) (x : Nm) (j : Nat) : List Nm := ys.take j ++ x :: ys.drop j
theorem insAt_length (ys : List Nm) (x : Nm) {j : Nat} (h : j ≤ ys.length) : (insAt ys x j).length = ys.length + 1 := by simp [insAt]; omega
theorem insAt_last (ys : List Nm) (x : Nm) : insAt ys x ys.length = ys ++ [x] := by simp [insAt]
theorem insAt_succ (ys : List Nm) (x : Nm) {i : Nat} (h : i < ys.length) : insAt ys x (i + 1) = ys.take i ++ ys[i] :: x :: ys.drop (i + 1) := by
  unfold insAt
  rw [List.take_succ_eq_append_getElem h, List.append_assoc]; rfl
theorem insAt_prev (ys : List Nm) (x : Nm) {i : Nat} (h : i < ys.length) : insAt ys x i = ys.take i ++ x :: ys[i] :: ys.drop (i + 1) := by
  unfold insAt
  rw [List.drop_eq_getElem_cons h]
theorem sortN_perm (l : List Nm) : (sortN l).Perm l := List.mergeSort_perm l _
theorem sortN_pair (l : List Nm) : (sortN l).Pairwise fun a b => orF (cmps a b) ≤ 0 := by
  have h := List.pairwise_mergeSort (le := fun x y => !(ltN y x)) (fun a b c h1 h2 => by
    unfold ltN ltOf at *
    simp only [Bool.not_eq_true', decide_eq_false_iff_not] at *
    have e1 := cmps_neg a b; have e2 := cmps_neg b c; have e3 := cmps_neg a c
    have := (le_trans_N (x := a) (y := b) (z := c) (by omega) (by omega)).1
    omega) (fun a b => by
    unfold ltN ltOf
    have e1 := cmps_neg a b
    simp only [Bool.or_eq_true, Bool.not_eq_true', decide_eq_false_iff_not]
    omega) l
  refine h.imp fun {a b} hab => ?_
  unfold ltN ltOf at hab
  simp only [Bool.not_eq_true', decide_eq_false_iff_not] at hab
  have e1 := cmps_neg a b
  omega
theorem sorted_one {l zs : List Nm} (hp : zs.Perm l) (hs : zs.Pairwise fun a b => orF (cmps a b) ≤ 0) : zs = sortN l := by
  have h := sorted_unique_holds swoN totN l.toArray zs.toArray ⟨by simpa using hp.length_eq, fun i hi => by
      have hz : zs.toArray.size = l.toArray.size := by simpa using hp.length_eq
      rcases hi with hi | hi
      · omega
      · rw [getElem!_neg _ _ (by omega), getElem!_neg _ _ (by omega)], by simpa [hp.length_eq] using (show (zs.take l.length).Perm (l.take l.length) by rw [List.take_length, List.take_of_length_le (by rw [hp.length_eq]; exact Nat.le_refl _)]; exact hp)⟩ (fun i j _ hij hj => by
      have hj' : j < zs.length := by have := hp.length_eq; simp at hj; omega
      have hz := (List.pairwise_iff_getElem.1 hs) i j (by omega) hj' hij
      have e1 : zs.toArray[j]! = zs[j] := by simp [hj']
      have e2 : zs.toArray[i]! = zs[i]'(by omega) := by simp [show i < zs.length by omega]
      rw [e1, e2]
      show decide (orF (cmps zs[j] (zs[i]'(by omega))) < 0) = false
      have e3 := cmps_neg (zs[i]'(by omega)) zs[j]
      simp only [decide_eq_false_iff_not]; omega)
  simpa [sortN, ltN] using h
theorem ins_pair {ys : List Nm} {x : Nm} {j : Nat} (hs : ys.Pairwise fun a b => orF (cmps a b) ≤ 0) (hj : j ≤ ys.length) (h1 : ∀ y ∈ ys.drop j, 0 < orF (cmps y x)) (h2 : ∀ h : 0 < j, orF (cmps (ys[j - 1]'(by omega)) x) ≤ 0) : (insAt ys x j).Pairwise fun a b => orF (cmps a b) ≤ 0 := by
  have hcut : (ys.take j ++ ys.drop j).Pairwise fun a b => orF (cmps a b) ≤ 0 := by rw [List.take_append_drop]; exact hs
  rw [List.pairwise_append] at hcut
  obtain ⟨c1, c2, c3⟩ := hcut
  unfold insAt
  rw [List.pairwise_append, List.pairwise_cons]
  refine ⟨c1, ⟨fun y hy' => ?_, c2⟩, fun a ha b hb => ?_⟩
  · have := h1 y hy'; have e := cmps_neg y x; omega
  · rw [List.mem_cons] at hb
    rcases hb with rfl | hb
    · obtain ⟨k, hk, rfl⟩ := List.mem_iff_getElem.1 ha
      have hkj : k < j := by rw [List.length_take] at hk; omega
      have h3 := h2 (by omega)
      rw [List.getElem_take]
      by_cases hkl : k = j - 1
      · subst hkl; exact h3
      · exact (le_trans_N ((List.pairwise_iff_getElem.1 hs) k (j - 1) (by omega) (by omega) (by omega)) h3).1
    · exact c3 a ha b hb
theorem insAt_sorted {ns : List Nm} {x : Nm} {j : Nat} (hj : j ≤ (sortN ns).length) (h1 : ∀ y ∈ (sortN ns).drop j, 0 < orF (cmps y x)) (h2 : ∀ h : 0 < j, orF (cmps ((sortN ns)[j - 1]'(by omega)) x) ≤ 0) : insAt (sortN ns) x j = sortN (ns ++ [x]) := by
  refine sorted_one ?_ (ins_pair (sortN_pair ns) hj h1 h2)
  unfold insAt
  refine (List.perm_middle).trans ?_
  rw [List.take_append_drop]
  exact ((sortN_perm ns).cons x).trans (List.perm_append_comm (l₁ := [x]) (l₂ := ns))
theorem setL_size : ∀ (vs : List Value) (cs : Array Value) (o : Nat), (setL cs o vs).size = cs.size
  | [], _, _ => rfl
  | v :: r, cs, o => by rw [setL, setL_size r]; simp
theorem setL_mid : ∀ (M vs : List Value) (cs : Array Value) (A R : List Value), cs.toList = A ++ M ++ R → M.length = vs.length → (setL cs A.length vs).toList = A ++ vs ++ R
  | [], [], cs, A, R, h, _ => h
  | m :: M, v :: vs, cs, A, R, h, hl => by
    rw [setL]
    have h1 : (cs.setIfInBounds A.length v).toList = (A ++ [v]) ++ M ++ R := by
      rw [Array.toList_setIfInBounds, h]; simp
    have := setL_mid M vs _ (A ++ [v]) R h1 (by simpa using hl)
    rw [List.length_append] at this
    rw [show A.length + 1 = A.length + [v].length from rfl, this]; simp
  | [], _ :: _, _, _, _, _, hl => by simp at hl
  | _ :: _, [], _, _, _, _, hl => by simp at hl
theorem Tryz.rnamesT1 : SliceT Tryz.prog 56 61 6 48 := sliceT_of Tryz.underlying56 (by kernel_rfl) (by decide)
def nsxVal (x y : Nm) (g n cap r : Nat) : Nat → Value
  | 0 => .slice (some ⟨g, 0, none⟩) n cap
  | 1 => .int .i64 ((r : Int) + 1)
  | 2 => .int .i64 (r : Int)
  | 3 => .slice (some ⟨g, 0, none⟩) n cap
  | 4 => .int .i64 ((r : Int) + 1)
  | 5 => .slice (some ⟨g, 0, none⟩) n cap
  | 6 => .int .i64 ((r : Int) + 1)
  | 7 => .pointer (some ⟨g, (r + 1) * 6, none⟩)
  | 8 => .agg (nmCells x)
  | 9 => .slice (some ⟨g, 0, none⟩) n cap
  | 10 => .int .i64 ((r : Int) + 1)
  | 11 => .int .i64 (r : Int)
  | 12 => .pointer (some ⟨g, r * 6, none⟩)
  | 13 => .agg (nmCells y)
  | 14 => .pointer (some ⟨g, r * 6, none⟩)
  | 16 => .pointer (some ⟨g, (r + 1) * 6, none⟩)
  | _ => undef
def nsxDst (i : Nat) : Tmp := if i < 15 then 48 + i else if i = 16 then 63 else 1000 + i
structure SwJ (T : TypeId) (x y : Nm) (g n cap i : Nat) (cur : Array Value) (w0 : World) (L : Nat → Bool) (v : Nat → Value) (w : World) : Prop where
  upd : Upd (At g) w0 w
  vals : ∀ k, k ≠ 15 → k ≠ 17 → L k = true → v k = nsxVal x y g n cap i k
  h0 : L 15 = false → w.heap[g]? = some (.cells cur T (0, 0))
  h1 : L 15 = true → L 17 = false → w.heap[g]? = some (.cells (setL cur (i * 6) (encN x)) T (0, 0))
  h2 : L 17 = true → w.heap[g]? = some (.cells (setL (setL cur (i * 6) (encN x)) ((i + 1) * 6) (encN y)) T (0, 0))
  o15 : L 15 = true → L 8 = true ∧ L 13 = true
  o17 : L 17 = true → L 15 = true
theorem SwJ.put {T : TypeId} {x y : Nm} {g n cap i : Nat} {cur : Array Value} {w0 : World} {L : Nat → Bool} {v : Nat → Value} {w : World} (h : SwJ T x y g n cap i cur w0 L v w) {k : Nat} (_ : L k = false) (h1 : k ≠ 15) (h2 : k ≠ 17) (_ : k < 18) : SwJ T x y g n cap i cur w0 (mrkL L k) (mrkV v k (nsxVal x y g n cap i k)) w := by
  have e : ∀ m, mrkL L k m = true → m = k ∨ L m = true := fun m hm => by
    unfold mrkL at hm; split at hm
    · exact .inl ‹_›
    · exact .inr hm
  have e15 : mrkL L k 15 = L 15 := by unfold mrkL; rw [if_neg (fun q => h1 q.symm)]
  have e17 : mrkL L k 17 = L 17 := by unfold mrkL; rw [if_neg (fun q => h2 q.symm)]
  have up : ∀ m, L m = true → mrkL L k m = true := fun m hm => by unfold mrkL; split; rfl; exact hm
  refine ⟨h.upd, fun m a b hm => ?_, fun q => h.h0 (by rw [← e15]; exact q), fun q r => h.h1 (by rw [← e15]; exact q) (by rw [← e17]; exact r), fun q => h.h2 (by rw [← e17]; exact q), fun q => ?_, fun q => ?_⟩
  · by_cases hk : m = k
    · subst hk; simp [mrkV]
    · rcases e m hm with hm | hm
      · exact absurd hm hk
      · simp only [mrkV, if_neg hk]; exact h.vals m a b hm
  · have := h.o15 (by rw [← e15]; exact q); exact ⟨up _ this.1, up _ this.2⟩
  · rw [e15]; exact h.o17 (by rw [← e17]; exact q)
theorem SwJ.first {T : TypeId} {x y : Nm} {g n cap i : Nat} {cur : Array Value} {w0 : World} {L : Nat → Bool} {v : Nat → Value} {w : World} (h : SwJ T x y g n cap i cur w0 L v w) (hL : L 15 = false) (h8 : L 8 = true) (h13 : L 13 = true) (hg : w.heap[g]? = some (.cells cur T (0, 0))) {u : Value} : SwJ T x y g n cap i cur w0 (mrkL L 15) (mrkV v 15 u) (w.setCells g (i * 6) (nmCells x).toList) := by
  have h17 : L 17 = false := by
    cases hq : L 17 with
    | false => rfl
    | true => have := h.o17 hq; rw [hL] at this; cases this
  refine ⟨h.upd.trans (Upd.cells g _ _ _), fun m a b hm => ?_, fun q => by simp [mrkL] at q, fun _ _ => setCellsAt _ _ _ _ hg, fun q => by simp [mrkL, h17] at q, fun _ => by simp [mrkL, h8, h13], fun q => by simp [mrkL, h17] at q⟩
  simp only [mrkL, mrkV, if_neg a] at hm ⊢
  exact h.vals m a b hm
theorem SwJ.second {T : TypeId} {x y : Nm} {g n cap i : Nat} {cur : Array Value} {w0 : World} {L : Nat → Bool} {v : Nat → Value} {w : World} (h : SwJ T x y g n cap i cur w0 L v w) (_ : L 17 = false) (h15 : L 15 = true) (hg : w.heap[g]? = some (.cells (setL cur (i * 6) (encN x)) T (0, 0))) {u : Value} : SwJ T x y g n cap i cur w0 (mrkL L 17) (mrkV v 17 u) (w.setCells g ((i + 1) * 6) (nmCells y).toList) := by
  have ho := h.o15 h15
  refine ⟨h.upd.trans (Upd.cells g _ _ _), fun m a b hm => ?_, fun q => by simp [mrkL, h15] at q, fun _ q => by simp [mrkL] at q, fun _ => setCellsAt _ _ _ _ hg, fun _ => by simp [mrkL, ho.1, ho.2], fun _ => by simp [mrkL, h15]⟩
  simp only [mrkL, mrkV, if_neg b] at hm ⊢
  exact h.vals m a b hm
def nrsVal (x y : Nm) (b : Bool) (g n cap r : Nat) : Nat → Value
  | 0 => .int .i64 ((r : Int) + 1)
  | 1 => .bool true
  | 2 => .bool true
  | 3 => .slice (some ⟨g, 0, none⟩) n cap
  | 4 => .int .i64 ((r : Int) + 1)
  | 5 => .int .i64 (r : Int)
  | 6 => .pointer (some ⟨g, r * 6, none⟩)
  | 7 => .agg (nmCells y)
  | 8 => .slice (some ⟨g, 0, none⟩) n cap
  | 9 => .int .i64 ((r : Int) + 1)
  | 10 => .pointer (some ⟨g, (r + 1) * 6, none⟩)
  | 11 => .agg (nmCells x)
  | 12 => .int .i64 (orF (cmps y x))
  | 13 => .bool b
  | 14 => .bool b
  | _ => undef
def nrsDst (i : Nat) : Tmp := 31 + i
theorem nrsDst_ne {j t : Nat} (ht : t = 3 ∨ t = 7) (e : nrsDst j = t) : False := by
  unfold nrsDst at e
  have e : (31 + j : Nat) = t := e
  rcases ht with rfl | rfl <;> (repeat' (split at e)) <;> omega
def nrsPhi (x y : Nm) (b : Bool) (g n cap r : Nat) (i : Nat) (v : Value) (_ : World) : Prop := v = nrsVal x y b g n cap r i
theorem nrsPhi.ext {x y : Nm} {b : Bool} {g n cap r : Nat} {i : Nat} {v : Value} {w w' : World} (h : nrsPhi x y b g n cap r i v w) (_ : Ext w w') : nrsPhi x y b g n cap r i v w' := by
  unfold nrsPhi at h ⊢
  exact h
def nrzVal : Nat → Value
  | 0 => .int .i64 0
  | 1 => .bool false
  | 2 => .bool false
  | 14 => .bool false
  | _ => undef
def nrzDst (i : Nat) : Tmp := 31 + i
theorem nrzDst_ne {j t : Nat} (ht : t = 3 ∨ t = 7) (e : nrzDst j = t) : False := by
  unfold nrzDst at e
  have e : (31 + j : Nat) = t := e
  rcases ht with rfl | rfl <;> (repeat' (split at e)) <;> omega
def nrzPhi (i : Nat) (v : Value) (_ : World) : Prop := v = nrzVal i
theorem nrzPhi.ext {i : Nat} {v : Value} {w w' : World} (h : nrzPhi i v w) (_ : Ext w w') : nrzPhi i v w' := by
  unfold nrzPhi at h ⊢
  exact h
theorem own_cells {w : World} {B g n cap : Nat} {T : TypeId} {xs : List Nm} (h : w.ownsRow B T 6 (.slice (some ⟨g, 0, none⟩) n cap) n (flatN xs)) (hn : 0 < n) : ∃ cur, w.heap[g]? = some (.cells cur T (0, 0)) ∧ n ≤ cap ∧ cap ≤ maxLen ∧ cur.size = cap * 6 ∧ cur.toList.take (n * 6) = flatN xs ∧ xs.length = n ∧ B ≤ g := by
  obtain ⟨h1, ⟨-, h2⟩ | ⟨g', cap', cur, e, hB, hg, hn', hc, hs, ht⟩⟩ := h
  · omega
  · cases e
    exact ⟨cur, hg, hn', hc, hs, ht, by rw [flatN_length] at h1; omega, hB⟩
theorem own_get {cur : Array Value} {n : Nat} {xs : List Nm} (ht : cur.toList.take (n * 6) = flatN xs) (hx : xs.length = n) {k : Nat} (hk : k < n) (j : Nat) (u : Value) (hj : (nmCells (xs[k]'(by omega))).toList[j]? = some u) : cur[k * 6 + j]? = some u := by
  have hj6 : j < 6 := by have := (List.getElem?_eq_some_iff.1 hj).1; simpa [nmCells] using this
  have e := flatN_get xs k j (by omega) hj6
  rw [← ht, List.getElem?_take_of_lt (by omega), Array.getElem?_toList] at e
  rw [e]; exact hj
theorem own_swap {w w' : World} {B g n cap i : Nat} {T : TypeId} {cur : Array Value} {ys : List Nm} {x : Nm} (h : w.ownsRow B T 6 (.slice (some ⟨g, 0, none⟩) n cap) n (flatN (insAt ys x (i + 1)))) (hi : i < ys.length) (hg : w.heap[g]? = some (.cells cur T (0, 0)))
    (h' : w'.heap[g]? = some (.cells (setL (setL cur (i * 6) (encN x)) ((i + 1) * 6) (encN ys[i])) T (0, 0))) : w'.ownsRow B T 6 (.slice (some ⟨g, 0, none⟩) n cap) n (flatN (insAt ys x i)) := by
  have hl : (insAt ys x (i + 1)).length = ys.length + 1 := insAt_length ys x (by omega)
  have h1 := h.1
  rw [flatN_length, hl] at h1
  obtain ⟨cur', hg', hn, hc, hs, ht, hx, hB⟩ := own_cells h (by omega)
  rw [hg] at hg'
  cases hg'
  refine ⟨by rw [flatN_length, insAt_length ys x (by omega)]; omega, .inr ⟨g, cap, _, rfl, hB, h', hn, hc, by rw [setL_size, setL_size]; exact hs, ?_⟩⟩
  have hA : (flatN (ys.take i)).length = i * 6 := by rw [flatN_length, List.length_take]; omega
  have e0 : cur.toList = flatN (ys.take i) ++ encN ys[i] ++ (encN x ++ flatN (ys.drop (i + 1)) ++ cur.toList.drop (n * 6)) := by
    conv => lhs; rw [← List.take_append_drop (n * 6) cur.toList, ht, insAt_succ ys x hi, flatN_append]
    show flatN (ys.take i) ++ (encN ys[i] ++ (encN x ++ flatN (ys.drop (i + 1)))) ++ _ = _
    simp
  have e1 := setL_mid (encN ys[i]) (encN x) cur _ _ e0 rfl
  rw [hA] at e1
  have e2 := setL_mid (encN x) (encN ys[i]) _ (flatN (ys.take i) ++ encN x) (flatN (ys.drop (i + 1)) ++ cur.toList.drop (n * 6)) (by rw [e1]; simp) rfl
  rw [List.length_append, hA, encN_length, show i * 6 + 6 = (i + 1) * 6 by omega] at e2
  rw [e2, insAt_prev ys x hi, flatN_append]
  show _ = flatN (ys.take i) ++ (encN x ++ (encN ys[i] ++ flatN (ys.drop (i + 1))))
  have hD : (flatN (ys.drop (i + 1))).length = (ys.length - (i + 1)) * 6 := by rw [flatN_length, List.length_drop]
  have hlen : (flatN (ys.take i) ++ encN x ++ encN ys[i] ++ flatN (ys.drop (i + 1))).length = n * 6 := by
    simp only [List.length_append, hA, hD, encN_length]; omega
  rw [← List.append_assoc, List.take_append_of_le_length (by rw [hlen]; exact Nat.le_refl _), List.take_of_length_le (by rw [hlen]; exact Nat.le_refl _)]
  simp
theorem insAt_at (ys : List Nm) (x : Nm) {i : Nat} (h : i < ys.length) : (insAt ys x (i + 1))[i]'(by rw [insAt_length ys x (by omega)]; omega) = ys[i] := by
  simp only [insAt_succ ys x h]
  rw [List.getElem_append_right (by rw [List.length_take]; exact Nat.min_le_left _ _)]
  simp [Nat.min_eq_left (Nat.le_of_lt h)]
theorem insAt_here (ys : List Nm) (x : Nm) {j : Nat} (h : j ≤ ys.length) : (insAt ys x j)[j]'(by rw [insAt_length ys x h]; omega) = x := by
  unfold insAt
  rw [List.getElem_append_right (by simp; omega)]
  simp [Nat.min_eq_left h]
set_option maxRecDepth 100000 in
set_option maxHeartbeats 8000000 in
theorem rsort_any {S : Nat → Prop} (w : World) (v : Value) (l : List (List UInt8)) (hl : l.length ≤ 1000000) (hb : ∀ s ∈ l, s.length ≤ 1000000) (hr : Texts S w v l) :
    Calls Tryz.prog 26 #[v] w fun e w' => ∃ v', e = .returned v' ∧ w'.ownsRow w.heap.size 61 6 v' (namesF l).length (flatN (sortN (namesF l))) ∧ Ext w w' := by
  have G := Lib.hid hr
  obtain ⟨a, c, rfl, -, hm, -⟩ := hr
  have HLB := Lib.hid hb
  obtain ⟨B, hB⟩ : ∃ B, B = w.heap.size := ⟨_, rfl⟩
  have HB := Lib.hid hB
  rw [← hB]
  clear hb hB
  unfold maxLen at hm
  go_enter Tryz.func26, Tryz.ntmps26
  go_wp2
  go_loopw [3, 4] (fun v t wr => ∃ k : Nat, k ≤ l.length ∧ t = .int .i64 k ∧ wr.ownsRow B 61 6 v (namesF (l.take k)).length (flatN (sortN (namesF (l.take k)))) ∧ Ext w wr) (fun _ t _ => l.length - (intOf t).toNat)
  case atStart => exact ⟨0, Nat.zero_le _, rfl, by rw [show sortN (namesF (l.take 0)) = [] from by simp [sortN, namesF]]; exact World.ownsRow_nil _ _ _ _, Upd.refl _ _⟩
  case round =>
    obtain ⟨k, hk, rfl, hown, hx⟩ := hrel
    obtain ⟨wo, hwo⟩ : ∃ x, x = wr := ⟨_, rfl⟩
    subst hwo
    have HX := Lib.hid hx
    by_cases hlt : k < l.length
    · obtain ⟨b1, o1, c1, e1, -, -, -, hq1⟩ := (G.out.ext hx).addr (by omega)
      cases e1
      have hc := texts_cell hq1 k hlt
      have hsl := HLB.out (l[k]) (List.getElem_mem hlt)
      have hsn : l.take (k + 1) = l.take k ++ [l[k]] := List.take_succ_eq_append_getElem hlt
      have hnf := namesF_snoc (l.take k) (l[k])
      rw [← hsn] at hnf
      have hcnt : (namesF (l.take k)).length ≤ 1000000 := Nat.le_trans (namesF_length _) (by simp; omega)
      obtain ⟨s, hs⟩ : ∃ s, s = l[k] := ⟨_, rfl⟩
      rw [← hs] at hc hsl hnf
      obtain ⟨x, hxx⟩ : ∃ x, x = (parseF s).1 := ⟨_, rfl⟩
      obtain ⟨ok, hok⟩ : ∃ o, o = (parseF s).2 := ⟨_, rfl⟩
      have hpp : parseF s = (x, ok) := by rw [hxx, hok]
      have hkx : x.kind < 256 := by rw [hxx]; exact (parse_wf s).kind
      rw [← hxx, ← hok] at hnf
      have hkn : ∀ y ∈ sortN (namesF (l.take k)), y.kind < 256 := fun y hy => by
        have hy' := (sortN_perm _).mem_iff.1 hy
        simp only [namesF, List.mem_filterMap] at hy'
        obtain ⟨s', -, hs'⟩ := hy'
        split at hs'
        · cases hs'; exact (parse_wf s').kind
        · cases hs'
      obtain ⟨ns, hns⟩ : ∃ ns, ns = namesF (l.take k) := ⟨_, rfl⟩
      rw [← hns] at hnf hown hcnt hkn
      have HOWN := Lib.hid hown
      have HNF := Lib.hid hnf
      have HPP := Lib.hid hpp
      have HSL := Lib.hid hsl
      have HKN := Lib.hid hkn
      have HKX := Lib.hid hkx
      obtain ⟨p0, p1, p2, p3, p4, p5, hp⟩ : ∃ a b c d e f, nmCells x = #[.int .u8 a, .int .u64 b, .int .u64 c, .int .u64 d, .int .u64 e, .int .u64 f] := ⟨_, _, _, _, _, _, rfl⟩
      have HP := Lib.hid hp
      obtain ⟨a3, n3, c3, rfl⟩ := ownsForm hown
      clear hx hq1 hsn hsl hs hxx hok hpp hnf hns hown hp hkn hkx
      go_wp2_with (go_at_call 41; fail)
      refine (rparse_any _ s HSL.out).mono ?_
      rintro e w5 ⟨rfl, hx5⟩
      rw [HPP.out]
      dsimp only
      have HX5 := Lib.hid (HX.out.trans hx5)
      have hown5 := (hx5.ownsRow HOWN.out (fun _ _ e => e)).alloc (.cells (nmCells x) 61)
      rw [HP.out] at hown5 ⊢
      clear hx5 hc
      cases ok with
      | false =>
        have HO5 := Lib.hid hown5
        clear hown5
        go_wp2
        go_roundw
        case rel =>
          refine ⟨k + 1, by omega, by go_num, ?_, HX5.out.alloc _⟩
          rw [HNF.out]
          simpa using HO5.out
        case measure => simp [intOf]; omega
      | true =>
        go_wp2_with (at_builtin; go_must (refine wpList_append_row rfl _ _ _ rfl Tryz.rnamesT1 rfl (hown5.alloc _) rfl (row_new _ _ _ 1 _ (by decide) (by simp)) rfl (by intro u hu; simp at hu; rcases hu with rfl | rfl | rfl | rfl | rfl | rfl <;> rfl) ?c3 ?c4 ?c5 ?_))
        case c3 => unfold maxLen; omega
        case c4 => omega
        case c5 => have := HX5.out.size; have := HB.out; first | omega | (simp; omega)
        intro v' w6 hown6 hg _
        have hx6 := ((HX5.out.alloc _).alloc _).grown hg (fun j hj h => by have := (hown5.lt j hj).1; have := HB.out; omega)
        have hown7 : w6.ownsRow B 61 6 v' (ns.length + 1) (flatN (insAt (sortN ns) x (sortN ns).length)) := by
          rw [insAt_last, flatN_append, flatN_one]
          unfold encN
          rw [HP.out]; exact hown6
        obtain ⟨g, cap, rfl⟩ : ∃ g cap, v' = .slice (some ⟨g, 0, none⟩) (ns.length + 1) cap := by
          rcases owns_cases hown7 with ⟨h0, -⟩ | ⟨-, g, cap, e⟩
          · omega
          · exact ⟨g, cap, e⟩
        have HX6 := Lib.hid hx6
        have HO6 := Lib.hid hown7
        obtain ⟨ys, hys⟩ : ∃ ys, ys = sortN ns := ⟨_, rfl⟩
        rw [← hys] at HO6 HKN
        have hyl : ys.length = ns.length := by rw [hys]; exact sortN_length ns
        have ho6 := HO6.out
        rw [hyl] at ho6
        have HO6 := Lib.hid ho6
        have HYS := Lib.hid hys
        have HYL := Lib.hid hyl
        clear hx6 hg hown6 hown5 hown7 hys hyl HOWN ho6
        go_wp2
        go_loopw [7] (fun t wr => ∃ j : Nat, j ≤ ns.length ∧ t = .int .i64 j ∧ wr.ownsRow B 61 6 (.slice (some ⟨g, 0, none⟩) (ns.length + 1) cap) (ns.length + 1) (flatN (insAt ys x j)) ∧ (∀ y ∈ ys.drop j, 0 < orF (cmps y x)) ∧ Ext w wr) (fun t _ => (intOf t).toNat)
        case atStart => exact ⟨ns.length, Nat.le_refl _, by go_num, HO6.out, (fun y hy => by rw [← HYL.out, List.drop_length] at hy; cases hy), HX6.out⟩
        case round =>
          obtain ⟨j, hj, rfl, hown, hgt, hx⟩ := hrel
          have HGT := Lib.hid hgt
          have HXJ := Lib.hid hx
          have HOWN := Lib.hid hown
          obtain ⟨n, hn⟩ : ∃ n, n = ns.length + 1 := ⟨_, rfl⟩
          have HN := Lib.hid hn
          have hna : n ≤ ns.length + 1 := by omega
          have hnb : ns.length + 1 ≤ n := by omega
          rcases Nat.eq_zero_or_pos j with h0 | h0
          · subst h0
            have HE := Lib.hid (insAt_sorted (ns := ns) (x := x) (j := 0) (Nat.zero_le _) (by rw [← HYS.out]; exact hgt) (fun h => by omega))
            obtain ⟨v3, hv3⟩ : ∃ v3 : Value, v3 = .slice (some ⟨g, 0, none⟩) (ns.length + 1) cap := ⟨_, rfl⟩
            have HV3 := Lib.hid hv3
            clear hgt hx hown hn
            go_upto_region 9 with (fail)
            rw [show ((0 : Nat) : Int) = 0 from rfl, ← hv3]
            clear hv3
            refine wp_region_invH Nothing (fun _ => Ext) 1000 nrzDst (nrzPhi) 65 (by kernel_rfl) (by decide) (by decide) rfl (fun i hi => .inl ((by decide : ∀ i, i < 15 → nrzDst i < 65) i hi)) (fun i w w' h => ⟨h, fun _ => h⟩) (fun i j v w w' _ _ _ _ h hu => h.ext hu) ?_ ?_
            · intro i o b' w1' ho hx1' hd hk hE hSZ
              have hi : i < 15 := (Array.getElem?_eq_some_iff.1 ho).1
              have his : i = 0 ∨ i = 1 ∨ i = 2 ∨ i = 3 ∨ i = 4 ∨ i = 5 ∨ i = 6 ∨ i = 7 ∨ i = 8 ∨ i = 9 ∨ i = 10 ∨ i = 11 ∨ i = 12 ∨ i = 13 ∨ i = 14 := by omega
              clear hE hSZ
              have HW1 := Lib.hid hx1'
              clear hx1'
              rcases his with rfl | rfl | rfl | rfl | rfl | rfl | rfl | rfl | rfl | rfl | rfl | rfl | rfl | rfl | rfl
              all_goals (simp at ho; subst ho)
              case inl =>
                refine .inl ⟨by simp [Region.wanted], ?_⟩
                have o7 : b'.tmps[7]?.getD undef = .int .i64 0 := by
                  have := hk 7 (fun j oj _ e => (nrzDst_ne (by decide) e).elim)
                  simpa using this
                clear hd hk
                go_step
                exact ⟨_, rfl, rfl, Upd.refl _ _⟩
              case inr.inl =>
                refine .inl ⟨by simp [Region.wanted], ?_⟩
                have e0 : b'.tmps[31]?.getD undef = .int .i64 0 := by have := (show b'.tmps.getD 31 undef = .int .i64 0 from hd ⟨0, .data⟩ (by simp) rfl); simpa using this
                clear hd hk
                go_step
                exact ⟨_, rfl, rfl, Upd.refl _ _⟩
              case inr.inr.inl =>
                refine .inl ⟨by simp [Region.wanted], ?_⟩
                have e1 : b'.tmps[32]?.getD undef = .bool false := by have := (show b'.tmps.getD 32 undef = .bool false from hd ⟨1, .data⟩ (by simp) rfl); simpa using this
                clear hd hk
                go_step
                exact ⟨_, rfl, rfl, Upd.refl _ _⟩
              case inr.inr.inr.inl =>
                refine .inr ⟨by
                  have := tmp_some (show b'.tmps.getD 33 undef = .bool false from hd ⟨2, .guard⟩ (by simp) rfl)
                  simp [Region.wanted, yielded, this], rfl, rfl, Upd.refl _ _⟩
              case inr.inr.inr.inr.inl =>
                refine .inr ⟨by
                  have := tmp_some (show b'.tmps.getD 33 undef = .bool false from hd ⟨2, .guard⟩ (by simp) rfl)
                  simp [Region.wanted, yielded, this], rfl, rfl, Upd.refl _ _⟩
              case inr.inr.inr.inr.inr.inl =>
                refine .inr ⟨by
                  have := tmp_some (show b'.tmps.getD 33 undef = .bool false from hd ⟨2, .guard⟩ (by simp) rfl)
                  simp [Region.wanted, yielded, this], rfl, rfl, Upd.refl _ _⟩
              case inr.inr.inr.inr.inr.inr.inl =>
                refine .inr ⟨by
                  have := tmp_some (show b'.tmps.getD 33 undef = .bool false from hd ⟨2, .guard⟩ (by simp) rfl)
                  simp [Region.wanted, yielded, this], rfl, rfl, Upd.refl _ _⟩
              case inr.inr.inr.inr.inr.inr.inr.inl =>
                refine .inr ⟨by
                  have := tmp_some (show b'.tmps.getD 33 undef = .bool false from hd ⟨2, .guard⟩ (by simp) rfl)
                  simp [Region.wanted, yielded, this], rfl, rfl, Upd.refl _ _⟩
              case inr.inr.inr.inr.inr.inr.inr.inr.inl =>
                refine .inr ⟨by
                  have := tmp_some (show b'.tmps.getD 33 undef = .bool false from hd ⟨2, .guard⟩ (by simp) rfl)
                  simp [Region.wanted, yielded, this], rfl, rfl, Upd.refl _ _⟩
              case inr.inr.inr.inr.inr.inr.inr.inr.inr.inl =>
                refine .inr ⟨by
                  have := tmp_some (show b'.tmps.getD 33 undef = .bool false from hd ⟨2, .guard⟩ (by simp) rfl)
                  simp [Region.wanted, yielded, this], rfl, rfl, Upd.refl _ _⟩
              case inr.inr.inr.inr.inr.inr.inr.inr.inr.inr.inl =>
                refine .inr ⟨by
                  have := tmp_some (show b'.tmps.getD 33 undef = .bool false from hd ⟨2, .guard⟩ (by simp) rfl)
                  simp [Region.wanted, yielded, this], rfl, rfl, Upd.refl _ _⟩
              case inr.inr.inr.inr.inr.inr.inr.inr.inr.inr.inr.inl =>
                refine .inr ⟨by
                  have := tmp_some (show b'.tmps.getD 33 undef = .bool false from hd ⟨2, .guard⟩ (by simp) rfl)
                  simp [Region.wanted, yielded, this], rfl, rfl, Upd.refl _ _⟩
              case inr.inr.inr.inr.inr.inr.inr.inr.inr.inr.inr.inr.inl =>
                refine .inr ⟨by
                  have := tmp_some (show b'.tmps.getD 33 undef = .bool false from hd ⟨2, .guard⟩ (by simp) rfl)
                  simp [Region.wanted, yielded, this], rfl, rfl, Upd.refl _ _⟩
              case inr.inr.inr.inr.inr.inr.inr.inr.inr.inr.inr.inr.inr.inl =>
                refine .inr ⟨by
                  have := tmp_some (show b'.tmps.getD 33 undef = .bool false from hd ⟨2, .guard⟩ (by simp) rfl)
                  simp [Region.wanted, yielded, this], rfl, rfl, Upd.refl _ _⟩
              case inr.inr.inr.inr.inr.inr.inr.inr.inr.inr.inr.inr.inr.inr =>
                refine .inl ⟨by simp [Region.wanted], ?_⟩
                have e2 : b'.tmps[33]?.getD undef = .bool false := by have := (show b'.tmps.getD 33 undef = .bool false from hd ⟨2, .data⟩ (by simp) rfl); simpa using this
                have e13 : b'.tmps[44]?.getD undef = undef := by have := (show b'.tmps.getD 44 undef = undef from hd ⟨13, .data⟩ (by simp) rfl); simpa using this
                clear hd hk
                go_step
                exact ⟨_, rfl, rfl, Upd.refl _ _⟩
            · intro v w1' hx1' hp
              have h14 : v 14 = .bool false := hp 14 (by decide)
              have h0 : v 0 = .int .i64 0 := hp 0 (by decide)
              have HX8 := Lib.hid (HXJ.out.trans hx1')
              have HO8 := Lib.hid (hx1'.ownsRow HOWN.out (fun _ _ e => e))
              clear hp hx1'
              rw [HV3.out]
              simp only [List.size_toArray, List.length_cons, List.length_nil, Nat.reduceAdd, fillAll, nrzDst]
              go_simp
              go_wp2
              go_roundw
              case rel =>
                refine ⟨k + 1, by omega, by go_num, ?_, HX8.out⟩
                rw [HNF.out]
                simp only [if_true, List.length_append, List.length_singleton]
                rw [← HE.out, ← HYS.out]
                exact HO8.out
              case measure => simp [intOf]; omega
          · obtain ⟨r, rfl⟩ : ∃ r, j = r + 1 := ⟨j - 1, by omega⟩
            have hi : r < ys.length := by have := HYL.out; omega
            have hio : r < ns.length := by omega
            obtain ⟨cur, hcur, hnc, hcm, hcs, htk, hlen, hBg⟩ := own_cells hown (by omega)
            have hcx := own_get htk hlen (k := r + 1) (by omega)
            have hcy := own_get htk hlen (k := r) (by omega)
            rw [insAt_here ys x (by omega)] at hcx
            rw [insAt_at ys x hi] at hcy
            obtain ⟨y, hy⟩ : ∃ y, y = ys[r] := ⟨_, rfl⟩
            rw [← hy] at hcy
            have hky : y.kind < 256 := by rw [hy]; exact HKN.out _ (List.getElem_mem hi)
            obtain ⟨b, hb⟩ : ∃ b, b = decide (0 < orF (cmps y x)) := ⟨_, rfl⟩
            have HBB := Lib.hid hb
            have HKY := Lib.hid hky
            have HY := Lib.hid hy
            have HCX := Lib.hid hcx
            have HCY := Lib.hid hcy
            have HRX := Lib.hid (show wr.rangeAt g ((r + 1) * 6) (nmCells x).toList from fun j u hj => cellAt hcur _ u (hcx j u hj))
            have HRY := Lib.hid (show wr.rangeAt g (r * 6) (nmCells y).toList from fun j u hj => cellAt hcur _ u (hcy j u hj))
            have HCU := Lib.hid hcur
            have hszc : (r + 1) * 6 + 6 ≤ cur.size := by rw [hcs]; have : (r + 2) * 6 ≤ cap * 6 := Nat.mul_le_mul_right 6 (by omega); omega
            have HSZC := Lib.hid hszc
            have HBG := Lib.hid hBg
            have HI := Lib.hid hi
            unfold maxLen at hcm
            rw [← hn] at hnc
            have hin : (r : Int) + 1 < (n : Int) := by omega
            have hin0 : (r : Int) < (n : Int) := by omega
            have hncap : n ≤ cap := hnc
            have hcapm : cap ≤ 9223372036854775807 := by omega
            clear hgt hx hown hcur hcs htk hlen hBg hcx hcy hy hky hb hszc hnc hcm
            go_upto_region 9 with (fail)
            rw [show ((r + 1 : Nat) : Int) = (r : Int) + 1 from by push_cast; rfl, ← hn]
            clear hn
            refine wp_region_invH Nothing (fun _ => Ext) 1000 nrsDst (nrsPhi x y b g n cap r) 65 (by kernel_rfl) (by decide) (by decide) rfl (fun i hi => .inl ((by decide : ∀ i, i < 15 → nrsDst i < 65) i hi)) (fun i w w' h => ⟨h, fun _ => h⟩) (fun i j v w w' _ _ _ _ h hu => h.ext hu) ?_ ?_
            · intro i o b' w1' ho hx1' hd hk hE hSZ
              have hi : i < 15 := (Array.getElem?_eq_some_iff.1 ho).1
              have his : i = 0 ∨ i = 1 ∨ i = 2 ∨ i = 3 ∨ i = 4 ∨ i = 5 ∨ i = 6 ∨ i = 7 ∨ i = 8 ∨ i = 9 ∨ i = 10 ∨ i = 11 ∨ i = 12 ∨ i = 13 ∨ i = 14 := by omega
              clear hE hSZ
              have HW1 := Lib.hid hx1'
              clear hx1'
              rcases his with rfl | rfl | rfl | rfl | rfl | rfl | rfl | rfl | rfl | rfl | rfl | rfl | rfl | rfl | rfl
              all_goals (simp at ho; subst ho)
              case inl =>
                refine .inl ⟨by simp [Region.wanted], ?_⟩
                have o7 : b'.tmps[7]?.getD undef = .int .i64 ((r : Int) + 1) := by
                  have := hk 7 (fun j oj _ e => (nrsDst_ne (by decide) e).elim)
                  simpa using this
                clear hd hk
                go_step
                exact ⟨_, rfl, rfl, Upd.refl _ _⟩
              case inr.inl =>
                refine .inl ⟨by simp [Region.wanted], ?_⟩
                have e0 : b'.tmps[31]?.getD undef = .int .i64 ((r : Int) + 1) := by have := (show b'.tmps.getD 31 undef = .int .i64 ((r : Int) + 1) from hd ⟨0, .data⟩ (by simp) rfl); simpa using this
                clear hd hk
                go_step
                exact ⟨_, rfl, rfl, Upd.refl _ _⟩
              case inr.inr.inl =>
                refine .inl ⟨by simp [Region.wanted], ?_⟩
                have e1 : b'.tmps[32]?.getD undef = .bool true := by have := (show b'.tmps.getD 32 undef = .bool true from hd ⟨1, .data⟩ (by simp) rfl); simpa using this
                clear hd hk
                go_step
                exact ⟨_, rfl, rfl, Upd.refl _ _⟩
              case inr.inr.inr.inl =>
                refine .inl ⟨by
                  have := tmp_some (show b'.tmps.getD 33 undef = .bool true from hd ⟨2, .guard⟩ (by simp) rfl)
                  simp [Region.wanted, yielded, this], ?_⟩
                have o3 : b'.tmps[3]?.getD undef = .slice (some ⟨g, 0, none⟩) n cap := by
                  have := hk 3 (fun j oj _ e => (nrsDst_ne (by decide) e).elim)
                  simpa using this
                clear hd hk
                go_step
                exact ⟨_, rfl, rfl, Upd.refl _ _⟩
              case inr.inr.inr.inr.inl =>
                refine .inl ⟨by
                  have := tmp_some (show b'.tmps.getD 33 undef = .bool true from hd ⟨2, .guard⟩ (by simp) rfl)
                  simp [Region.wanted, yielded, this], ?_⟩
                have o7 : b'.tmps[7]?.getD undef = .int .i64 ((r : Int) + 1) := by
                  have := hk 7 (fun j oj _ e => (nrsDst_ne (by decide) e).elim)
                  simpa using this
                clear hd hk
                go_step
                exact ⟨_, rfl, rfl, Upd.refl _ _⟩
              case inr.inr.inr.inr.inr.inl =>
                refine .inl ⟨by
                  have := tmp_some (show b'.tmps.getD 33 undef = .bool true from hd ⟨2, .guard⟩ (by simp) rfl)
                  simp [Region.wanted, yielded, this], ?_⟩
                have e4 : b'.tmps[35]?.getD undef = .int .i64 ((r : Int) + 1) := by have := (show b'.tmps.getD 35 undef = .int .i64 ((r : Int) + 1) from hd ⟨4, .data⟩ (by simp) rfl); simpa using this
                clear hd hk
                go_step
                exact ⟨_, rfl, rfl, Upd.refl _ _⟩
              case inr.inr.inr.inr.inr.inr.inl =>
                refine .inl ⟨by
                  have := tmp_some (show b'.tmps.getD 33 undef = .bool true from hd ⟨2, .guard⟩ (by simp) rfl)
                  simp [Region.wanted, yielded, this], ?_⟩
                have e3 : b'.tmps[34]?.getD undef = .slice (some ⟨g, 0, none⟩) n cap := by have := (show b'.tmps.getD 34 undef = .slice (some ⟨g, 0, none⟩) n cap from hd ⟨3, .data⟩ (by simp) rfl); simpa using this
                have e5 : b'.tmps[36]?.getD undef = .int .i64 (r : Int) := by have := (show b'.tmps.getD 36 undef = .int .i64 (r : Int) from hd ⟨5, .data⟩ (by simp) rfl); simpa using this
                clear hd hk
                go_step
                exact ⟨_, rfl, rfl, Upd.refl _ _⟩
              case inr.inr.inr.inr.inr.inr.inr.inl =>
                refine .inl ⟨by
                  have := tmp_some (show b'.tmps.getD 33 undef = .bool true from hd ⟨2, .guard⟩ (by simp) rfl)
                  simp [Region.wanted, yielded, this], ?_⟩
                have o37 : b'.eval (.tmp 37) = .pointer (some ⟨g, r * 6, none⟩) := by
                  have := (show b'.tmps.getD 37 undef = .pointer (some ⟨g, r * 6, none⟩) from hd ⟨6, .data⟩ (by simp) rfl)
                  simpa [Act.eval] using this
                exact wp_load_mid (w := w1') 61 (.tmp 37) rfl g (r * 6) o37 (nmCells y).toList _ (fun j u hj => HW1.out.cell (HRY.out j u hj) id) Tryz.underlying61 rfl (by kernel_rfl) ⟨_, rfl, rfl, Upd.refl _ _⟩
              case inr.inr.inr.inr.inr.inr.inr.inr.inl =>
                refine .inl ⟨by
                  have := tmp_some (show b'.tmps.getD 33 undef = .bool true from hd ⟨2, .guard⟩ (by simp) rfl)
                  simp [Region.wanted, yielded, this], ?_⟩
                have o3 : b'.tmps[3]?.getD undef = .slice (some ⟨g, 0, none⟩) n cap := by
                  have := hk 3 (fun j oj _ e => (nrsDst_ne (by decide) e).elim)
                  simpa using this
                clear hd hk
                go_step
                exact ⟨_, rfl, rfl, Upd.refl _ _⟩
              case inr.inr.inr.inr.inr.inr.inr.inr.inr.inl =>
                refine .inl ⟨by
                  have := tmp_some (show b'.tmps.getD 33 undef = .bool true from hd ⟨2, .guard⟩ (by simp) rfl)
                  simp [Region.wanted, yielded, this], ?_⟩
                have o7 : b'.tmps[7]?.getD undef = .int .i64 ((r : Int) + 1) := by
                  have := hk 7 (fun j oj _ e => (nrsDst_ne (by decide) e).elim)
                  simpa using this
                clear hd hk
                go_step
                exact ⟨_, rfl, rfl, Upd.refl _ _⟩
              case inr.inr.inr.inr.inr.inr.inr.inr.inr.inr.inl =>
                refine .inl ⟨by
                  have := tmp_some (show b'.tmps.getD 33 undef = .bool true from hd ⟨2, .guard⟩ (by simp) rfl)
                  simp [Region.wanted, yielded, this], ?_⟩
                have e8 : b'.tmps[39]?.getD undef = .slice (some ⟨g, 0, none⟩) n cap := by have := (show b'.tmps.getD 39 undef = .slice (some ⟨g, 0, none⟩) n cap from hd ⟨8, .data⟩ (by simp) rfl); simpa using this
                have e9 : b'.tmps[40]?.getD undef = .int .i64 ((r : Int) + 1) := by have := (show b'.tmps.getD 40 undef = .int .i64 ((r : Int) + 1) from hd ⟨9, .data⟩ (by simp) rfl); simpa using this
                clear hd hk
                go_step
                exact ⟨_, rfl, rfl, Upd.refl _ _⟩
              case inr.inr.inr.inr.inr.inr.inr.inr.inr.inr.inr.inl =>
                refine .inl ⟨by
                  have := tmp_some (show b'.tmps.getD 33 undef = .bool true from hd ⟨2, .guard⟩ (by simp) rfl)
                  simp [Region.wanted, yielded, this], ?_⟩
                have o41 : b'.eval (.tmp 41) = .pointer (some ⟨g, (r + 1) * 6, none⟩) := by
                  have := (show b'.tmps.getD 41 undef = .pointer (some ⟨g, (r + 1) * 6, none⟩) from hd ⟨10, .data⟩ (by simp) rfl)
                  simpa [Act.eval] using this
                exact wp_load_mid (w := w1') 61 (.tmp 41) rfl g ((r + 1) * 6) o41 (nmCells x).toList _ (fun j u hj => HW1.out.cell (HRX.out j u hj) id) Tryz.underlying61 rfl (by kernel_rfl) ⟨_, rfl, rfl, Upd.refl _ _⟩
              case inr.inr.inr.inr.inr.inr.inr.inr.inr.inr.inr.inr.inl =>
                refine .inl ⟨by
                  have := tmp_some (show b'.tmps.getD 33 undef = .bool true from hd ⟨2, .guard⟩ (by simp) rfl)
                  simp [Region.wanted, yielded, this], ?_⟩
                have e7 : b'.tmps[38]?.getD undef = .agg (nmCells y) := by have := (show b'.tmps.getD 38 undef = .agg (nmCells y) from hd ⟨7, .data⟩ (by simp) rfl); simpa using this
                have e11 : b'.tmps[42]?.getD undef = .agg (nmCells x) := by have := (show b'.tmps.getD 42 undef = .agg (nmCells x) from hd ⟨11, .data⟩ (by simp) rfl); simpa using this
                clear hd hk
                go_step
                refine (rcompare_any w1' y x HKY.out HKX.out).mono ?_
                rintro e w2 ⟨rfl, hu⟩
                exact ⟨_, rfl, rfl, hu⟩
              case inr.inr.inr.inr.inr.inr.inr.inr.inr.inr.inr.inr.inr.inl =>
                refine .inl ⟨by
                  have := tmp_some (show b'.tmps.getD 33 undef = .bool true from hd ⟨2, .guard⟩ (by simp) rfl)
                  simp [Region.wanted, yielded, this], ?_⟩
                have e12 : b'.tmps[43]?.getD undef = .int .i64 (orF (cmps y x)) := by have := (show b'.tmps.getD 43 undef = .int .i64 (orF (cmps y x)) from hd ⟨12, .data⟩ (by simp) rfl); simpa using this
                clear hd hk
                go_step
                exact ⟨_, rfl, (show Value.bool _ = .bool b from by rw [← HBB.out]), Upd.refl _ _⟩
              case inr.inr.inr.inr.inr.inr.inr.inr.inr.inr.inr.inr.inr.inr =>
                refine .inl ⟨by simp [Region.wanted], ?_⟩
                have e2 : b'.tmps[33]?.getD undef = .bool true := by have := (show b'.tmps.getD 33 undef = .bool true from hd ⟨2, .data⟩ (by simp) rfl); simpa using this
                have e13 : b'.tmps[44]?.getD undef = .bool b := by have := (show b'.tmps.getD 44 undef = .bool b from hd ⟨13, .data⟩ (by simp) rfl); simpa using this
                clear hd hk
                go_step
                exact ⟨_, rfl, rfl, Upd.refl _ _⟩
            · intro v w1' hx1' hp
              have h14 : v 14 = .bool b := hp 14 (by decide)
              have HX8 := Lib.hid (HXJ.out.trans hx1')
              have HO8 := Lib.hid (hx1'.ownsRow HOWN.out (fun _ _ e => e))
              have HCUR := Lib.hid (hx1'.at_ HCU.out id)
              clear hp hx1'
              cases b
              case false =>
                have hle : ¬ 0 < orF (cmps y x) := by have := HBB.out; simpa using this
                have HE := Lib.hid (insAt_sorted (ns := ns) (x := x) (j := r + 1) (by rw [← HYS.out]; have := HI.out; omega) (by rw [← HYS.out]; exact HGT.out) (fun h => by
                  have e : (sortN ns)[r + 1 - 1]'(by rw [← HYS.out]; have := HI.out; omega) = y := by rw [HY.out]; simp only [HYS.out]; rfl
                  rw [e]; omega))
                clear hle
                rw [HN.out] at *
                simp only [List.size_toArray, List.length_cons, List.length_nil, Nat.reduceAdd, fillAll, nrsDst]
                go_simp
                go_wp2
                go_roundw
                case rel =>
                  refine ⟨k + 1, by omega, by go_num, ?_, HX8.out⟩
                  rw [HNF.out]
                  simp only [if_true, List.length_append, List.length_singleton]
                  rw [← HE.out, ← HYS.out]
                  exact HO8.out
                case measure => simp [intOf]; omega
              case true =>
                have hgt : 0 < orF (cmps y x) := by have := HBB.out; simpa using this
                have HGT1 := Lib.hid hgt
                clear hgt
                simp only [List.size_toArray, List.length_cons, List.length_nil, Nat.reduceAdd, fillAll, nrsDst]
                go_simp
                go_upto_region 11 with (fail)
                refine wp_region_J nsxDst 65 (SwJ 61 x y g n cap r cur w1') (by kernel_rfl) (by decide) (by decide) rfl (fun w0 h0 hh => ⟨h0.mono (fun _ _ e => e.elim), fun _ _ _ e => (by cases e), fun _ => by rw [hh]; exact HCUR.out, fun e => (by cases e), fun e => (by cases e), fun e => (by cases e), fun e => (by cases e)⟩) ?_ ?_
                · intro k o b' L v w2' ho hLi hA hV hO hSZ hJ
                  have HSZ := Lib.hid hSZ
                  clear hSZ
                  have hi : k < 18 := (Array.getElem?_eq_some_iff.1 ho).1
                  have his : k = 0 ∨ k = 1 ∨ k = 2 ∨ k = 3 ∨ k = 4 ∨ k = 5 ∨ k = 6 ∨ k = 7 ∨ k = 8 ∨ k = 9 ∨ k = 10 ∨ k = 11 ∨ k = 12 ∨ k = 13 ∨ k = 14 ∨ k = 15 ∨ k = 16 ∨ k = 17 := by omega
                  rcases his with rfl | rfl | rfl | rfl | rfl | rfl | rfl | rfl | rfl | rfl | rfl | rfl | rfl | rfl | rfl | rfl | rfl | rfl
                  all_goals (simp at ho; subst ho)
                  case inl =>
                    refine .inl ⟨by simp [Region.wanted], ?_⟩
                    have f3 : b'.eval (.tmp 3) = .slice (some ⟨g, 0, none⟩) n cap := by
                      have := hO 3 (by decide)
                      simpa [Act.eval] using this
                    have HJP := Lib.hid (hJ.put hLi (by decide) (by decide) (by decide))
                    clear hA hV hO hJ
                    have g3 : b'.tmps[3]?.getD undef = .slice (some ⟨g, 0, none⟩) n cap := by simpa [Act.eval] using f3
                    clear f3
                    go_step
                    exact ⟨_, rfl, HJP.out⟩
                  case inr.inl =>
                    refine .inl ⟨by simp [Region.wanted], ?_⟩
                    have f7 : b'.eval (.tmp 7) = .int .i64 ((r : Int) + 1) := by
                      have := hO 7 (by decide)
                      simpa [Act.eval] using this
                    have HJP := Lib.hid (hJ.put hLi (by decide) (by decide) (by decide))
                    clear hA hV hO hJ
                    have g7 : b'.tmps[7]?.getD undef = .int .i64 ((r : Int) + 1) := by simpa [Act.eval] using f7
                    clear f7
                    go_step
                    exact ⟨_, rfl, HJP.out⟩
                  case inr.inr.inl =>
                    refine .inl ⟨by simp [Region.wanted], ?_⟩
                    have e1 : b'.eval (.tmp 49) = .int .i64 ((r : Int) + 1) := by
                      have h0 := hA ⟨1, .data⟩ (by simp) rfl
                      have h1 : b'.tmps.getD 49 undef = v 1 := hV 1 (by decide) h0 (by decide)
                      rw [hJ.vals 1 (by decide) (by decide) h0] at h1
                      simpa [Act.eval, nsxVal] using h1
                    have HJP := Lib.hid (hJ.put hLi (by decide) (by decide) (by decide))
                    clear hA hV hO hJ
                    have g49 : b'.tmps[49]?.getD undef = .int .i64 ((r : Int) + 1) := by simpa [Act.eval] using e1
                    clear e1
                    go_step
                    exact ⟨_, rfl, HJP.out⟩
                  case inr.inr.inr.inl =>
                    refine .inl ⟨by simp [Region.wanted], ?_⟩
                    have f3 : b'.eval (.tmp 3) = .slice (some ⟨g, 0, none⟩) n cap := by
                      have := hO 3 (by decide)
                      simpa [Act.eval] using this
                    have HJP := Lib.hid (hJ.put hLi (by decide) (by decide) (by decide))
                    clear hA hV hO hJ
                    have g3 : b'.tmps[3]?.getD undef = .slice (some ⟨g, 0, none⟩) n cap := by simpa [Act.eval] using f3
                    clear f3
                    go_step
                    exact ⟨_, rfl, HJP.out⟩
                  case inr.inr.inr.inr.inl =>
                    refine .inl ⟨by simp [Region.wanted], ?_⟩
                    have f7 : b'.eval (.tmp 7) = .int .i64 ((r : Int) + 1) := by
                      have := hO 7 (by decide)
                      simpa [Act.eval] using this
                    have HJP := Lib.hid (hJ.put hLi (by decide) (by decide) (by decide))
                    clear hA hV hO hJ
                    have g7 : b'.tmps[7]?.getD undef = .int .i64 ((r : Int) + 1) := by simpa [Act.eval] using f7
                    clear f7
                    go_step
                    exact ⟨_, rfl, HJP.out⟩
                  case inr.inr.inr.inr.inr.inl =>
                    refine .inl ⟨by simp [Region.wanted], ?_⟩
                    have f3 : b'.eval (.tmp 3) = .slice (some ⟨g, 0, none⟩) n cap := by
                      have := hO 3 (by decide)
                      simpa [Act.eval] using this
                    have HJP := Lib.hid (hJ.put hLi (by decide) (by decide) (by decide))
                    clear hA hV hO hJ
                    have g3 : b'.tmps[3]?.getD undef = .slice (some ⟨g, 0, none⟩) n cap := by simpa [Act.eval] using f3
                    clear f3
                    go_step
                    exact ⟨_, rfl, HJP.out⟩
                  case inr.inr.inr.inr.inr.inr.inl =>
                    refine .inl ⟨by simp [Region.wanted], ?_⟩
                    have f7 : b'.eval (.tmp 7) = .int .i64 ((r : Int) + 1) := by
                      have := hO 7 (by decide)
                      simpa [Act.eval] using this
                    have HJP := Lib.hid (hJ.put hLi (by decide) (by decide) (by decide))
                    clear hA hV hO hJ
                    have g7 : b'.tmps[7]?.getD undef = .int .i64 ((r : Int) + 1) := by simpa [Act.eval] using f7
                    clear f7
                    go_step
                    exact ⟨_, rfl, HJP.out⟩
                  case inr.inr.inr.inr.inr.inr.inr.inl =>
                    refine .inl ⟨by simp [Region.wanted], ?_⟩
                    have e5 : b'.eval (.tmp 53) = .slice (some ⟨g, 0, none⟩) n cap := by
                      have h0 := hA ⟨5, .data⟩ (by simp) rfl
                      have h1 : b'.tmps.getD 53 undef = v 5 := hV 5 (by decide) h0 (by decide)
                      rw [hJ.vals 5 (by decide) (by decide) h0] at h1
                      simpa [Act.eval, nsxVal] using h1
                    have e6 : b'.eval (.tmp 54) = .int .i64 ((r : Int) + 1) := by
                      have h0 := hA ⟨6, .data⟩ (by simp) rfl
                      have h1 : b'.tmps.getD 54 undef = v 6 := hV 6 (by decide) h0 (by decide)
                      rw [hJ.vals 6 (by decide) (by decide) h0] at h1
                      simpa [Act.eval, nsxVal] using h1
                    have HJP := Lib.hid (hJ.put hLi (by decide) (by decide) (by decide))
                    clear hA hV hO hJ
                    have g53 : b'.tmps[53]?.getD undef = .slice (some ⟨g, 0, none⟩) n cap := by simpa [Act.eval] using e5
                    clear e5
                    have g54 : b'.tmps[54]?.getD undef = .int .i64 ((r : Int) + 1) := by simpa [Act.eval] using e6
                    clear e6
                    go_step
                    exact ⟨_, rfl, HJP.out⟩
                  case inr.inr.inr.inr.inr.inr.inr.inr.inl =>
                    refine .inl ⟨by simp [Region.wanted], ?_⟩
                    have e7 : b'.eval (.tmp 55) = .pointer (some ⟨g, (r + 1) * 6, none⟩) := by
                      have h0 := hA ⟨7, .data⟩ (by simp) rfl
                      have h1 : b'.tmps.getD 55 undef = v 7 := hV 7 (by decide) h0 (by decide)
                      rw [hJ.vals 7 (by decide) (by decide) h0] at h1
                      simpa [Act.eval, nsxVal] using h1
                    have h15 : L 15 = false := by
                      cases hq : L 15 with
                      | false => rfl
                      | true => have := hJ.o15 hq; rw [hLi] at this; simp at this
                    have hg1 := hJ.h0 h15
                    exact wp_load_mid (w := w2') 61 (.tmp 55) rfl g ((r + 1) * 6) e7 (nmCells x).toList _ (fun j u hj => (cellAt hg1 _ u (HCX.out j u hj))) Tryz.underlying61 rfl (by kernel_rfl) ⟨_, rfl, hJ.put hLi (by decide) (by decide) (by decide)⟩
                  case inr.inr.inr.inr.inr.inr.inr.inr.inr.inl =>
                    refine .inl ⟨by simp [Region.wanted], ?_⟩
                    have f3 : b'.eval (.tmp 3) = .slice (some ⟨g, 0, none⟩) n cap := by
                      have := hO 3 (by decide)
                      simpa [Act.eval] using this
                    have HJP := Lib.hid (hJ.put hLi (by decide) (by decide) (by decide))
                    clear hA hV hO hJ
                    have g3 : b'.tmps[3]?.getD undef = .slice (some ⟨g, 0, none⟩) n cap := by simpa [Act.eval] using f3
                    clear f3
                    go_step
                    exact ⟨_, rfl, HJP.out⟩
                  case inr.inr.inr.inr.inr.inr.inr.inr.inr.inr.inl =>
                    refine .inl ⟨by simp [Region.wanted], ?_⟩
                    have f7 : b'.eval (.tmp 7) = .int .i64 ((r : Int) + 1) := by
                      have := hO 7 (by decide)
                      simpa [Act.eval] using this
                    have HJP := Lib.hid (hJ.put hLi (by decide) (by decide) (by decide))
                    clear hA hV hO hJ
                    have g7 : b'.tmps[7]?.getD undef = .int .i64 ((r : Int) + 1) := by simpa [Act.eval] using f7
                    clear f7
                    go_step
                    exact ⟨_, rfl, HJP.out⟩
                  case inr.inr.inr.inr.inr.inr.inr.inr.inr.inr.inr.inl =>
                    refine .inl ⟨by simp [Region.wanted], ?_⟩
                    have e10 : b'.eval (.tmp 58) = .int .i64 ((r : Int) + 1) := by
                      have h0 := hA ⟨10, .data⟩ (by simp) rfl
                      have h1 : b'.tmps.getD 58 undef = v 10 := hV 10 (by decide) h0 (by decide)
                      rw [hJ.vals 10 (by decide) (by decide) h0] at h1
                      simpa [Act.eval, nsxVal] using h1
                    have HJP := Lib.hid (hJ.put hLi (by decide) (by decide) (by decide))
                    clear hA hV hO hJ
                    have g58 : b'.tmps[58]?.getD undef = .int .i64 ((r : Int) + 1) := by simpa [Act.eval] using e10
                    clear e10
                    go_step
                    exact ⟨_, rfl, HJP.out⟩
                  case inr.inr.inr.inr.inr.inr.inr.inr.inr.inr.inr.inr.inl =>
                    refine .inl ⟨by simp [Region.wanted], ?_⟩
                    have e9 : b'.eval (.tmp 57) = .slice (some ⟨g, 0, none⟩) n cap := by
                      have h0 := hA ⟨9, .data⟩ (by simp) rfl
                      have h1 : b'.tmps.getD 57 undef = v 9 := hV 9 (by decide) h0 (by decide)
                      rw [hJ.vals 9 (by decide) (by decide) h0] at h1
                      simpa [Act.eval, nsxVal] using h1
                    have e11 : b'.eval (.tmp 59) = .int .i64 (r : Int) := by
                      have h0 := hA ⟨11, .data⟩ (by simp) rfl
                      have h1 : b'.tmps.getD 59 undef = v 11 := hV 11 (by decide) h0 (by decide)
                      rw [hJ.vals 11 (by decide) (by decide) h0] at h1
                      simpa [Act.eval, nsxVal] using h1
                    have HJP := Lib.hid (hJ.put hLi (by decide) (by decide) (by decide))
                    clear hA hV hO hJ
                    have g57 : b'.tmps[57]?.getD undef = .slice (some ⟨g, 0, none⟩) n cap := by simpa [Act.eval] using e9
                    clear e9
                    have g59 : b'.tmps[59]?.getD undef = .int .i64 (r : Int) := by simpa [Act.eval] using e11
                    clear e11
                    go_step
                    exact ⟨_, rfl, HJP.out⟩
                  case inr.inr.inr.inr.inr.inr.inr.inr.inr.inr.inr.inr.inr.inl =>
                    refine .inl ⟨by simp [Region.wanted], ?_⟩
                    have e12 : b'.eval (.tmp 60) = .pointer (some ⟨g, r * 6, none⟩) := by
                      have h0 := hA ⟨12, .data⟩ (by simp) rfl
                      have h1 : b'.tmps.getD 60 undef = v 12 := hV 12 (by decide) h0 (by decide)
                      rw [hJ.vals 12 (by decide) (by decide) h0] at h1
                      simpa [Act.eval, nsxVal] using h1
                    have h15 : L 15 = false := by
                      cases hq : L 15 with
                      | false => rfl
                      | true => have := hJ.o15 hq; rw [hLi] at this; simp at this
                    have hg1 := hJ.h0 h15
                    exact wp_load_mid (w := w2') 61 (.tmp 60) rfl g (r * 6) e12 (nmCells y).toList _ (fun j u hj => (cellAt hg1 _ u (HCY.out j u hj))) Tryz.underlying61 rfl (by kernel_rfl) ⟨_, rfl, hJ.put hLi (by decide) (by decide) (by decide)⟩
                  case inr.inr.inr.inr.inr.inr.inr.inr.inr.inr.inr.inr.inr.inr.inl =>
                    refine .inl ⟨by simp [Region.wanted], ?_⟩
                    have e0 : b'.eval (.tmp 48) = .slice (some ⟨g, 0, none⟩) n cap := by
                      have h0 := hA ⟨0, .data⟩ (by simp) rfl
                      have h1 : b'.tmps.getD 48 undef = v 0 := hV 0 (by decide) h0 (by decide)
                      rw [hJ.vals 0 (by decide) (by decide) h0] at h1
                      simpa [Act.eval, nsxVal] using h1
                    have e2 : b'.eval (.tmp 50) = .int .i64 (r : Int) := by
                      have h0 := hA ⟨2, .data⟩ (by simp) rfl
                      have h1 : b'.tmps.getD 50 undef = v 2 := hV 2 (by decide) h0 (by decide)
                      rw [hJ.vals 2 (by decide) (by decide) h0] at h1
                      simpa [Act.eval, nsxVal] using h1
                    have HJP := Lib.hid (hJ.put hLi (by decide) (by decide) (by decide))
                    clear hA hV hO hJ
                    have g48 : b'.tmps[48]?.getD undef = .slice (some ⟨g, 0, none⟩) n cap := by simpa [Act.eval] using e0
                    clear e0
                    have g50 : b'.tmps[50]?.getD undef = .int .i64 (r : Int) := by simpa [Act.eval] using e2
                    clear e2
                    go_step
                    exact ⟨_, rfl, HJP.out⟩
                  case inr.inr.inr.inr.inr.inr.inr.inr.inr.inr.inr.inr.inr.inr.inr.inl =>
                    refine .inl ⟨by simp [Region.wanted], ?_⟩
                    have e8 : b'.eval (.tmp 56) = .agg (nmCells x) := by
                      have h0 := hA ⟨8, .data⟩ (by simp) rfl
                      have h1 : b'.tmps.getD 56 undef = v 8 := hV 8 (by decide) h0 (by decide)
                      rw [hJ.vals 8 (by decide) (by decide) h0] at h1
                      simpa [Act.eval, nsxVal] using h1
                    have e14 : b'.eval (.tmp 62) = .pointer (some ⟨g, r * 6, none⟩) := by
                      have h0 := hA ⟨14, .data⟩ (by simp) rfl
                      have h1 : b'.tmps.getD 62 undef = v 14 := hV 14 (by decide) h0 (by decide)
                      rw [hJ.vals 14 (by decide) (by decide) h0] at h1
                      simpa [Act.eval, nsxVal] using h1
                    have h8 : L 8 = true := hA ⟨8, .phase⟩ (by simp) rfl
                    have h13 : L 13 = true := hA ⟨13, .phase⟩ (by simp) rfl
                    have hg1 := hJ.h0 hLi
                    exact wp_store_mid (w := w2') 61 (.tmp 62) (.tmp 56) rfl g (r * 6) (nmCells x) e14 e8 (fun j hj => ⟨by rw [cell_of_row w2' g _ cur 61 (0, 0) hg1, Array.getElem?_eq_getElem (by have := HSZC.out; have : (nmCells x).size = 6 := rfl; omega)]; rfl, freeAt hg1 _⟩) (by kernel_rfl) (nmCells_one _) ⟨undef, put_past (by show b'.tmps.size ≤ 1015; rw [HSZ.out]; decide), hJ.first hLi h8 h13 hg1⟩
                  case inr.inr.inr.inr.inr.inr.inr.inr.inr.inr.inr.inr.inr.inr.inr.inr.inl =>
                    refine .inl ⟨by simp [Region.wanted], ?_⟩
                    have e3 : b'.eval (.tmp 51) = .slice (some ⟨g, 0, none⟩) n cap := by
                      have h0 := hA ⟨3, .data⟩ (by simp) rfl
                      have h1 : b'.tmps.getD 51 undef = v 3 := hV 3 (by decide) h0 (by decide)
                      rw [hJ.vals 3 (by decide) (by decide) h0] at h1
                      simpa [Act.eval, nsxVal] using h1
                    have e4 : b'.eval (.tmp 52) = .int .i64 ((r : Int) + 1) := by
                      have h0 := hA ⟨4, .data⟩ (by simp) rfl
                      have h1 : b'.tmps.getD 52 undef = v 4 := hV 4 (by decide) h0 (by decide)
                      rw [hJ.vals 4 (by decide) (by decide) h0] at h1
                      simpa [Act.eval, nsxVal] using h1
                    have HJP := Lib.hid (hJ.put hLi (by decide) (by decide) (by decide))
                    clear hA hV hO hJ
                    have g51 : b'.tmps[51]?.getD undef = .slice (some ⟨g, 0, none⟩) n cap := by simpa [Act.eval] using e3
                    clear e3
                    have g52 : b'.tmps[52]?.getD undef = .int .i64 ((r : Int) + 1) := by simpa [Act.eval] using e4
                    clear e4
                    go_step
                    exact ⟨_, rfl, HJP.out⟩
                  case inr.inr.inr.inr.inr.inr.inr.inr.inr.inr.inr.inr.inr.inr.inr.inr.inr =>
                    refine .inl ⟨by simp [Region.wanted], ?_⟩
                    have e13 : b'.eval (.tmp 61) = .agg (nmCells y) := by
                      have h0 := hA ⟨13, .data⟩ (by simp) rfl
                      have h1 : b'.tmps.getD 61 undef = v 13 := hV 13 (by decide) h0 (by decide)
                      rw [hJ.vals 13 (by decide) (by decide) h0] at h1
                      simpa [Act.eval, nsxVal] using h1
                    have e16 : b'.eval (.tmp 63) = .pointer (some ⟨g, (r + 1) * 6, none⟩) := by
                      have h0 := hA ⟨16, .data⟩ (by simp) rfl
                      have h1 : b'.tmps.getD 63 undef = v 16 := hV 16 (by decide) h0 (by decide)
                      rw [hJ.vals 16 (by decide) (by decide) h0] at h1
                      simpa [Act.eval, nsxVal] using h1
                    have h15 : L 15 = true := hA ⟨15, .chain⟩ (by simp) rfl
                    have h8 : L 8 = true := hA ⟨8, .phase⟩ (by simp) rfl
                    have h13 : L 13 = true := hA ⟨13, .phase⟩ (by simp) rfl
                    have hg1 := hJ.h1 h15 hLi
                    exact wp_store_mid (w := w2') 61 (.tmp 63) (.tmp 61) rfl g ((r + 1) * 6) (nmCells y) e16 e13 (fun j hj => ⟨by rw [cell_of_row w2' g _ _ 61 (0, 0) hg1, Array.getElem?_eq_getElem (by rw [setL_size]; have := HSZC.out; have : (nmCells y).size = 6 := rfl; omega)]; rfl, freeAt hg1 _⟩) (by kernel_rfl) (nmCells_one _) ⟨undef, put_past (by show b'.tmps.size ≤ 1017; rw [HSZ.out]; decide), hJ.second hLi h15 hg1⟩
                · intro L v w2' hL hJ
                  have hv := fun k (h : k < 18) (a : k ≠ 15) (b : k ≠ 17) => hJ.vals k a b (hL k h)
                  have hnew := hJ.h2 (hL 17 (by decide))
                  have HO9 := Lib.hid (own_swap (w' := w2') HO8.out HI.out HCUR.out (by rw [← HY.out]; exact hnew))
                  have hx9 : Ext w w2' := HX8.out.step hJ.upd (fun q hq e => by have := HB.out; have := HBG.out; unfold At at e; omega)
                  have HX9 := Lib.hid hx9
                  clear hJ hnew hx9 hL
                  rw [HN.out]
                  simp only [List.size_toArray, List.length_cons, List.length_nil, Nat.reduceAdd, fillAll, nsxDst]
                  go_simp
                  go_wp2
                  go_roundw
                  case rel =>
                    refine ⟨r, by omega, by go_num, HO9.out, fun q hq => ?_, HX9.out⟩
                    rw [List.drop_eq_getElem_cons HI.out, List.mem_cons] at hq
                    rcases hq with rfl | hq
                    · rw [← HY.out]; exact HGT1.out
                    · exact HGT.out q hq
                  case measure => simp [intOf]
    · have hkl : k = l.length := by omega
      rw [hkl, List.take_length] at hown
      have HOWN := Lib.hid hown
      obtain ⟨a3, n3, c3, rfl⟩ := ownsForm hown
      clear hx hkl hown
      go_wp2
      go_ret
      exact ⟨_, rfl, HOWN.out, HX.out⟩
end Go.Proofs.YtfniemagbapeaaaGreatDoor
