/-
  ROWS THAT ARE WRITTEN OVER: a row of events that is the call's own, with some contents. What is stored into it leaves it such a row.
-/
import Derived.Test.YtlhpcgmbbeihiaaGEvs
namespace Go.Proofs.Ytlhpcgmbbeihiaa
open Go.RowKit

/-- A store into a block of rows keeps each row owned, with some contents. -/
theorem own_touch {w w' : World} {B e size n g : Nat} {v : Value} {xs : List Value} {cur cur' : Array Value} (h : w.ownsRow B e size v n xs) (hu : Upd (At g) w w') (hg : w.heap[g]? = some (.cells cur e (0, 0))) (hg' : w'.heap[g]? = some (.cells cur' e (0, 0))) (hs : cur'.size = cur.size) :
    ∃ xs', w'.ownsRow B e size v n xs' ∧ (∀ good : Value → Prop, (∀ x ∈ xs, good x) → (∀ (j : Nat) (u : Value), cur'[j]? = some u → cur[j]? = some u ∨ good u) → ∀ x ∈ xs', good x) := by
  by_cases hv : v.ownBlock = some g
  · obtain ⟨hl, h2⟩ := h
    rcases h2 with ⟨rfl, rfl⟩ | ⟨g', cap, cur0, rfl, hb, hgg, h3, h4, h5, h6⟩
    · simp [Value.ownBlock] at hv
    · simp only [Value.ownBlock, Option.some.injEq] at hv
      subst hv
      rw [hgg] at hg
      simp only [Option.some.injEq, Obj.cells.injEq] at hg
      obtain ⟨rfl, -, -⟩ := hg
      refine ⟨cur'.toList.take (n * size), ⟨?_, .inr ⟨g', cap, cur', rfl, hb, hg', h3, h4, by omega, rfl⟩⟩, fun good hx hj x hmem => ?_⟩
      · rw [List.length_take, Array.length_toList, hs, h5]
        have : n * size ≤ cap * size := Nat.mul_le_mul_right _ h3
        omega
      · obtain ⟨j, hjl, rfl⟩ := List.getElem_of_mem hmem
        have hjn : j < n * size := by rw [List.length_take] at hjl; omega
        have hjc : cur'[j]? = some (cur'.toList.take (n * size))[j] := by
          rw [← List.getElem?_eq_getElem hjl, List.getElem?_take, if_pos hjn, Array.getElem?_toList]
        rcases hj j _ hjc with hc | hc
        · refine hx _ ?_
          rw [← h6]
          refine List.mem_of_getElem? (i := j) ?_
          rw [List.getElem?_take, if_pos hjn]
          simpa using hc
        · exact hc
  · exact ⟨xs, hu.ownsRow h (fun k hk e => hv (by unfold At at e; rw [hk, e])), fun good hx _ => hx⟩

/-- One element of an own row, written over. -/
theorem own_set {w w' : World} {B e m n g c i : Nat} {css : List (List Value)} {zs : List Value} {cur : Array Value} (h : w.ownsRow B e m (.slice (some ⟨g, 0, none⟩) n c) n css.flatten) (hl : css.length = n) (hm : ∀ cs ∈ css, cs.length = m) (hz : zs.length = m) (hi : i < n)
    (hg : w.heap[g]? = some (.cells cur e (0, 0))) (hg' : w'.heap[g]? = some (.cells (setL cur (i * m) zs) e (0, 0))) :
    w'.ownsRow B e m (.slice (some ⟨g, 0, none⟩) n c) n (css.set i zs).flatten := by
  obtain ⟨hfl, h2⟩ := h
  rcases h2 with ⟨hc, -⟩ | ⟨g', cap, cur0, hv, hb, hgg, h3, h4, h5, h6⟩
  · cases hc
  · cases hv
    rw [hgg] at hg
    simp only [Option.some.injEq, Obj.cells.injEq] at hg
    obtain ⟨rfl, -, -⟩ := hg
    have hm' : ∀ cs ∈ css.set i zs, cs.length = m := fun cs hc => by
      rcases List.mem_or_eq_of_mem_set hc with h | h
      · exact hm _ h
      · rw [h]; exact hz
    have hflen : ∀ (l : List (List Value)), (∀ cs ∈ l, cs.length = m) → l.flatten.length = l.length * m := by
      intro l hl'; induction l with
      | nil => simp
      | cons x l ih => simp only [List.flatten_cons, List.length_append, List.length_cons, Nat.succ_mul]; rw [ih fun cs h => hl' cs (by simp [h]), hl' x (by simp)]; omega
    have hle : i * m + zs.length ≤ cur0.size := by
      have : (i + 1) * m ≤ c * m := Nat.mul_le_mul_right _ (by omega)
      rw [Nat.succ_mul] at this; omega
    have hnc : n * m ≤ cur0.size := by rw [h5]; exact Nat.mul_le_mul_right _ h3
    refine ⟨by rw [hflen _ hm']; simp [hl], .inr ⟨g, c, _, rfl, hb, hg', h3, h4, by rw [setL_size, h5], ?_⟩⟩
    refine List.ext_getElem? fun j => ?_
    by_cases hj : j < n * m
    · have hm0 : 0 < m := by rcases Nat.eq_zero_or_pos m with h | h; (subst h; simp at hj); exact h
      have hq : j / m < n := Nat.div_lt_of_lt_mul (by rw [Nat.mul_comm]; exact hj)
      have hr : j % m < m := Nat.mod_lt _ hm0
      have hjq : j / m * m + j % m = j := by rw [Nat.mul_comm]; exact Nat.div_add_mod j m
      have e1 := flat_at hm (i := j / m) (j := j % m) (by omega) hr
      have e2 := flat_at hm' (i := j / m) (j := j % m) (by simp; omega) hr
      rw [hjq] at e1 e2
      rw [e2, List.getElem?_take, if_pos hj, Array.getElem?_toList, setL_at zs cur0 (i * m) j hle]
      have e3 : cur0[j]? = css.flatten[j]? := by rw [← h6, List.getElem?_take, if_pos hj, Array.getElem?_toList]
      by_cases he : i = j / m
      · rw [List.getElem_set, if_pos he, if_pos (by subst he; omega)]
        congr 1; subst he; omega
      · rw [List.getElem_set, if_neg he, if_neg, e3, e1]
        intro hb
        apply he
        have h1 : i * m ≤ j := hb.1
        have h2 : j < (i + 1) * m := by rw [Nat.succ_mul]; omega
        exact (Nat.div_eq_of_lt_le h1 h2).symm
    · rw [List.getElem?_take, if_neg hj, List.getElem?_eq_none (by rw [hflen _ hm']; simp [hl]; omega)]

/-- An event of a row, its rows owned with some contents. -/
def SoftEv (B : Nat) (w : World) (cs : List Value) : Prop :=
  ∃ e ve vk xs bs, cs = (evCells e ve vk).toList ∧ w.ownsRow B 46 3 ve e.op.edits.length xs ∧ w.ownsRow B 4 1 vk e.keep.length (bools bs)
def SoftEvs (B : Nat) (w : World) (v : Value) (n : Nat) : Prop :=
  ∃ css : List (List Value), css.length = n ∧ w.ownsRow B 44 14 v n css.flatten ∧ ∀ cs ∈ css, SoftEv B w cs
theorem SoftEvs.of_owns {B : Nat} {w : World} {v : Value} {l : List Ev} (h : EvsOwn B w v l) : SoftEvs B w v l.length := by
  obtain ⟨css, hl, hr, he⟩ := h
  refine ⟨css, hl, hr, fun cs hc => ?_⟩
  obtain ⟨i, hi, rfl⟩ := List.getElem_of_mem hc
  obtain ⟨ve, vk, hc2, h1, h2⟩ := he i css[i] (l[i]'(by omega)) (by simp [hi]) (by simp)
  exact ⟨_, ve, vk, _, _, hc2, h1, h2⟩
theorem SoftEv.ext {B : Nat} {w w' : World} {cs : List Value} (h : SoftEv B w cs) (hu : Ext w w') : SoftEv B w' cs := by
  obtain ⟨e, ve, vk, xs, bs, hc, h1, h2⟩ := h
  exact ⟨e, ve, vk, xs, bs, hc, hu.ownsRow h1 (fun _ _ e => e), hu.ownsRow h2 (fun _ _ e => e)⟩
theorem SoftEvs.ext {B : Nat} {w w' : World} {v : Value} {n : Nat} (h : SoftEvs B w v n) (hu : Ext w w') : SoftEvs B w' v n := by
  obtain ⟨css, hl, hr, he⟩ := h
  exact ⟨css, hl, hu.ownsRow hr (fun _ _ e => e), fun cs hc => (he cs hc).ext hu⟩
theorem bools_good {xs : List Value} (h : ∀ x ∈ xs, ∃ b, x = .bool b) : ∃ bs, xs = bools bs := by
  induction xs with
  | nil => exact ⟨[], rfl⟩
  | cons x xs ih =>
    obtain ⟨b, rfl⟩ := h x (by simp)
    obtain ⟨bs, rfl⟩ := ih fun y hy => h y (by simp [hy])
    exact ⟨b :: bs, rfl⟩
/-- A bool stored into a block of bools. -/
theorem SoftEvs.putBool {B : Nat} {w : World} {v : Value} {n g j : Nat} {cur : Array Value} {b : Bool} (h : SoftEvs B w v n) (hg : w.heap[g]? = some (.cells cur 4 (0, 0))) : SoftEvs B (w.setCell ⟨g, j, none⟩ (.bool b)) v n := by
  have hu := Upd.own w g j (.bool b)
  have hg' := setAt (j := j) (u := .bool b) hg
  obtain ⟨css, hl, hr, he⟩ := h
  refine ⟨css, hl, hu.ownsT hr (fun k cur hk => by cases hk; exact tag_ne hg (by decide)), fun cs hc => ?_⟩
  obtain ⟨e, ve, vk, xs, bs, hc, h1, h2⟩ := he cs hc
  obtain ⟨xs', h3, h4⟩ := own_touch h2 hu hg hg' (by simp)
  obtain ⟨bs', rfl⟩ := bools_good (xs := xs') (h4 (fun x => ∃ b, x = .bool b) (fun x hx => by obtain ⟨y, _, rfl⟩ := List.mem_map.1 hx; exact ⟨y, rfl⟩) (fun i u hi => by
    rw [Array.getElem?_setIfInBounds] at hi
    split at hi
    · split at hi
      · right; cases hi; exact ⟨b, rfl⟩
      · cases hi
    · exact .inl hi))
  exact ⟨e, ve, vk, xs, bs', hc, hu.ownsT h1 (fun k cur hk => by cases hk; exact tag_ne hg (by decide)), h3⟩
/-- Cells stored into a block of edits. -/
theorem SoftEvs.putEdit {B : Nat} {w w' : World} {v : Value} {n g : Nat} {cur cur' : Array Value} (h : SoftEvs B w v n) (hg : w.heap[g]? = some (.cells cur 46 (0, 0))) (hu : Upd (At g) w w') (hg' : w'.heap[g]? = some (.cells cur' 46 (0, 0))) (hs : cur'.size = cur.size) : SoftEvs B w' v n := by
  obtain ⟨css, hl, hr, he⟩ := h
  refine ⟨css, hl, hu.ownsT hr (fun k cur hk => by cases hk; exact tag_ne hg (by decide)), fun cs hc => ?_⟩
  obtain ⟨e, ve, vk, xs, bs, hc, h1, h2⟩ := he cs hc
  obtain ⟨xs', h3, -⟩ := own_touch h1 hu hg hg' hs
  exact ⟨e, ve, vk, xs', bs, hc, h3, hu.ownsT h2 (fun k cur hk => by cases hk; exact tag_ne hg (by decide))⟩
theorem softs_14 {B : Nat} {w : World} {css : List (List Value)} (he : ∀ cs ∈ css, SoftEv B w cs) : ∀ cs ∈ css, cs.length = 14 := fun cs hc => by
  obtain ⟨e, ve, vk, xs, bs, rfl, -⟩ := he cs hc; rfl
/-- The zero event stored into the row. -/
theorem SoftEvs.putEvent {B : Nat} {w w' : World} {n g i c : Nat} {cur : Array Value} (h : SoftEvs B w (.slice (some ⟨g, 0, none⟩) n c) n) (hi : i < n) (hg : w.heap[g]? = some (.cells cur 44 (0, 0))) (hu : Upd (At g) w w') (hg' : w'.heap[g]? = some (.cells (setL cur (i * 14) (evCells (Ev.zero 0 0) nilS nilS).toList) 44 (0, 0))) : SoftEvs B w' (.slice (some ⟨g, 0, none⟩) n c) n := by
  obtain ⟨css, hl, hr, he⟩ := h
  refine ⟨css.set i (evCells (Ev.zero 0 0) nilS nilS).toList, by simp [hl], own_set hr hl (softs_14 he) rfl hi hg hg', fun cs hc => ?_⟩
  rcases List.mem_or_eq_of_mem_set hc with h | rfl
  · obtain ⟨e, ve, vk, xs, bs, hc, h1, h2⟩ := he cs h
    exact ⟨e, ve, vk, xs, bs, hc, hu.ownsT h1 (fun k cur hk => by cases hk; exact tag_ne hg (by decide)), hu.ownsT h2 (fun k cur hk => by cases hk; exact tag_ne hg (by decide))⟩
  · exact ⟨Ev.zero 0 0, nilS, nilS, [], [], rfl, World.ownsRow_nil _ _ _ _, World.ownsRow_nil _ _ _ _⟩
/-- What one event of the row gives a walk. -/
theorem SoftEvs.at_ {B : Nat} {w : World} {v : Value} {n : Nat} (h : SoftEvs B w v n) : n ≤ maxLen ∧ (∃ a c, v = .slice a n c ∧ n ≤ c ∧ c ≤ maxLen) ∧ ∀ i, i < n → ∃ g c cur e ve vk xs bs, v = .slice (some ⟨g, 0, none⟩) n c ∧ B ≤ g ∧ w.heap[g]? = some (.cells cur 44 (0, 0)) ∧ cur.size = c * 14 ∧ n ≤ c ∧ w.rangeAt g (i * 14) (evCells e ve vk).toList ∧ w.ownsRow B 46 3 ve e.op.edits.length xs ∧ w.ownsRow B 4 1 vk e.keep.length (bools bs) := by
  obtain ⟨css, hl, hr, he⟩ := h
  have hr' := Row.of_owns hr
  have hr2 := hr
  obtain ⟨a, c, hv, h1, h2, -⟩ := hr'
  refine ⟨by omega, ⟨a, c, hv, h1, h2⟩, fun i hi => ?_⟩
  obtain ⟨hfl, h2⟩ := hr
  rcases h2 with ⟨rfl, hc⟩ | ⟨g, cap, cur, rfl, hb, hgg, h3, h4, h5, h6⟩
  · exfalso; cases hv; omega
  · obtain ⟨e, ve, vk, xs, bs, hc, g1, g2⟩ := he (css[i]'(by omega)) (by simp)
    refine ⟨g, cap, cur, e, ve, vk, xs, bs, rfl, hb, hgg, h5, h3, fun j u hj => ?_, g1, g2⟩
    have hj14 : j < 14 := by have := (List.getElem?_eq_some_iff.1 hj).1; simpa [evCells] using this
    have := flat_at (softs_14 he) (i := i) (j := j) (by omega) hj14
    rw [hc, hj, ← h6, List.getElem?_take] at this
    split at this
    · exact cellAt hgg _ _ (by simpa using this)
    · cases this
theorem own_at {w : World} {B e size n p : Nat} {a : Option Addr} {m c : Nat} {xs : List Value} (h : w.ownsRow B e size (.slice a m c) n xs) (hp : p < n) : m = n ∧ ∃ g cur, a = some ⟨g, 0, none⟩ ∧ B ≤ g ∧ w.heap[g]? = some (.cells cur e (0, 0)) ∧ p * size + size ≤ cur.size ∧ n ≤ c ∧ c ≤ maxLen ∧ ∀ j, j < n * size → cur[j]? = xs[j]? := by
  obtain ⟨hl, h2⟩ := h
  rcases h2 with ⟨hv, hx⟩ | ⟨g, cap, cur, hv, hb, hg, h3, h4, h5, h6⟩
  · exfalso
    omega
  · simp only [Value.slice.injEq] at hv
    obtain ⟨ha, hm, hc⟩ := hv
    refine ⟨hm, g, cur, ha, hb, hg, ?_, by omega, by omega, fun j hj => ?_⟩
    · have : (p + 1) * size ≤ cap * size := Nat.mul_le_mul_right _ (by omega)
      rw [Nat.succ_mul] at this; omega
    · rw [← h6, List.getElem?_take, if_pos hj, Array.getElem?_toList]
/-- One of the told of one event. -/
theorem SoftEvs.keep_at {B : Nat} {w : World} {n g c i m ck p : Nat} {ak : Option Addr} (h : SoftEvs B w (.slice (some ⟨g, 0, none⟩) n c) n) (hi : i < n) (hc : w.cell? ⟨g, i * 14 + 13, none⟩ = some (.slice ak m ck)) (hp : p < m) :
    ∃ gk cur b, ak = some ⟨gk, 0, none⟩ ∧ B ≤ gk ∧ w.heap[gk]? = some (.cells cur 4 (0, 0)) ∧ w.cell? ⟨gk, p, none⟩ = some (.bool b) ∧ gk ≠ g ∧ m ≤ ck ∧ ck ≤ maxLen := by
  obtain ⟨-, -, h⟩ := h.at_
  obtain ⟨g', c', cur, e, ve, vk, xs, bs, hv, hb, hg, hs, -, hra, -, ho⟩ := h i hi
  cases hv
  have h13 := hra 13 vk rfl
  rw [hc] at h13
  simp only [Option.some.injEq] at h13
  subst h13
  have hm : m = e.keep.length := by
    obtain ⟨a, c2, hv, -⟩ := Row.of_owns ho
    cases hv; rfl
  obtain ⟨-, gk, ck', ha, hbk, hgk, -, h1, h2, h3⟩ := own_at ho (p := p) (by omega)
  subst ha
  have hbl : bs.length = e.keep.length := by have := ho.1; simpa [bools] using this
  refine ⟨gk, ck', bs[p]'(by omega), rfl, hbk, hgk, cellAt hgk p _ ?_, fun e => ?_, by omega, h2⟩
  · rw [h3 p (by omega)]; simp [bools, hm ▸ hp, hbl]
  · subst e; rw [hg] at hgk; exact tag_ne hg (by decide) (hg.trans hgk)
/-- One of the edits of one event. -/
theorem SoftEvs.edit_at {B : Nat} {w : World} {n g c i m ck p : Nat} {ak : Option Addr} (h : SoftEvs B w (.slice (some ⟨g, 0, none⟩) n c) n) (hi : i < n) (hc : w.cell? ⟨g, i * 14 + 7, none⟩ = some (.slice ak m ck)) (hp : p < m) :
    ∃ gk cur, ak = some ⟨gk, 0, none⟩ ∧ B ≤ gk ∧ w.heap[gk]? = some (.cells cur 46 (0, 0)) ∧ p * 3 + 3 ≤ cur.size ∧ gk ≠ g ∧ m ≤ ck ∧ ck ≤ maxLen := by
  obtain ⟨-, -, h⟩ := h.at_
  obtain ⟨g', c', cur, e, ve, vk, xs, bs, hv, hb, hg, hs, -, hra, ho, -⟩ := h i hi
  cases hv
  have h13 := hra 7 ve rfl
  rw [hc] at h13
  simp only [Option.some.injEq] at h13
  subst h13
  have hm : m = e.op.edits.length := by
    obtain ⟨a, c2, hv, -⟩ := Row.of_owns ho
    cases hv; rfl
  obtain ⟨-, gk, ck', ha, hbk, hgk, h0, h1, h2, h3⟩ := own_at ho (p := p) (by omega)
  subst ha
  refine ⟨gk, ck', rfl, hbk, hgk, h0, fun e => ?_, by omega, h2⟩
  subst e; rw [hg] at hgk; exact tag_ne hg (by decide) (hg.trans hgk)
end Go.Proofs.Ytlhpcgmbbeihiaa
