/-
  A REGION THAT DRAWS ITS ORDER, BY AN INVARIANT: each operation is shown once, in whatever order it comes up: what it yields meets its own clause, which stays when nothing old turns. No program in sight. (Chapter 29's GFar has the same.)
-/
import Derived.Test.YtfpioijfocmfcaaGreatDoorNBase
import Derived.Deep.RegionHeld3
import Derived.BigQuiet
import Derived.Laws.OwnMore
namespace Go.Proofs.YtfpioijfocmfcaaGreatDoor
open Go.RowKit

/-- The act a, with the slots dst i of those that are listed filled. -/
def fillN (a : Act) (dst : Nat → Tmp) (listed : Array Bool) (v : Nat → Value) : Nat → Act
  | 0 => a
  | n + 1 => if listed.getD n false then (fillN a dst listed v n).put (some (dst n)) (v n) else fillN a dst listed v n
def fillAll (a : Act) (dst : Nat → Tmp) (v : Nat → Value) : Nat → Act
  | 0 => a
  | n + 1 => (fillAll a dst v n).put (some (dst n)) (v n)
theorem fillN_congr {a : Act} {dst : Nat → Tmp} {l l' : Array Bool} {v v' : Nat → Value} : ∀ n, (∀ i, i < n → l.getD i false = l'.getD i false) → (∀ i, i < n → l.getD i false = true → v i = v' i) → fillN a dst l v n = fillN a dst l' v' n
  | 0, _, _ => rfl
  | n + 1, h1, h2 => by
    have ih := fillN_congr (a := a) (dst := dst) n (fun i hi => h1 i (by omega)) (fun i hi => h2 i (by omega))
    unfold fillN
    rw [← h1 n (by omega), ih]
    split
    · rename_i hl; rw [h2 n (by omega) hl]
    · rfl
theorem fillN_all {a : Act} {dst : Nat → Tmp} {l : Array Bool} {v : Nat → Value} : ∀ n, (∀ i, i < n → l.getD i false = true) → fillN a dst l v n = fillAll a dst v n
  | 0, _ => rfl
  | n + 1, h => by unfold fillN fillAll; rw [if_pos (h n (by omega)), fillN_all n (fun i hi => h i (by omega))]
theorem fillN_none {a : Act} {dst : Nat → Tmp} {l : Array Bool} {v : Nat → Value} : ∀ n, (∀ i, i < n → l.getD i false = false) → fillN a dst l v n = a
  | 0, _ => rfl
  | n + 1, h => by unfold fillN; rw [if_neg (by rw [h n (by omega)]; decide), fillN_none n (fun i hi => h i (by omega))]
theorem getD_set_eq' {l : Array Bool} {i : Nat} (h : i < l.size) : (l.setIfInBounds i true).getD i false = true := by
  simp [Array.getD, h]
theorem fillN_put {a : Act} {dst : Nat → Tmp} {l : Array Bool} {v : Nat → Value} {i : Nat} (x : Value) (hl : l.getD i false = false) : ∀ n, (∀ j, j < n → j ≠ i → dst j ≠ dst i) → i < l.size →
    (i < n → (fillN a dst l v n).put (some (dst i)) x = fillN a dst (l.setIfInBounds i true) (fun j => if j = i then x else v j) n) ∧ (n ≤ i → fillN a dst l v n = fillN a dst (l.setIfInBounds i true) (fun j => if j = i then x else v j) n)
  | 0, _, _ => ⟨fun h => absurd h (Nat.not_lt_zero _), fun _ => rfl⟩
  | n + 1, hd, hs => by
    obtain ⟨ih1, ih2⟩ := fillN_put (a := a) (v := v) x hl n (fun j hj => hd j (by omega)) hs
    refine ⟨fun hi => ?_, fun hi => ?_⟩
    · by_cases hn : n = i
      · subst hn
        have h2 := ih2 (Nat.le_refl _)
        simp only [fillN]
        rw [hl, if_neg (by decide), h2, getD_set_eq' hs, if_pos rfl]
        simp
      · have h1 := ih1 (by omega)
        simp only [fillN]
        rw [getD_set_ne false (fun e => hn e.symm), if_neg hn]
        split
        · rw [Act.put_comm _ _ _ (fun d hq e => hd n (by omega) hn (Option.some.inj (hq.trans e.symm))), h1]
        · exact h1
    · simp only [fillN]
      rw [getD_set_ne false (show i ≠ n by omega), if_neg (show ¬ n = i by omega), ih2 (by omega)]
theorem fillN_defers {a : Act} {dst : Nat → Tmp} {l : Array Bool} {v : Nat → Value} : ∀ n, (fillN a dst l v n).defers = a.defers
  | 0 => rfl
  | n + 1 => by
    unfold fillN
    split
    · have : ∀ (b : Act) x y, (b.put x y).defers = b.defers := fun b x y => by unfold Act.put; split <;> rfl
      rw [this, fillN_defers n]
    · exact fillN_defers n

/-- The clauses of what is listed. -/
def InvN (S : Nat → Prop) (big : Nat) (md : Region.Mode) (ops : Array Oper) (a : Act) (w0 : World) (dst : Nat → Tmp) (Φ : Nat → Value → World → Prop) (listed : Array Bool) (b : Act) (w : World) : Prop :=
  ∃ v : Nat → Value, listed.size = ops.size ∧ b = fillN a dst listed v ops.size ∧ Upd S w0 w ∧ (listed.getD big false = false → Ext w0 w) ∧ (∀ i, i < ops.size → listed.getD i false = true → Φ i (v i) w) ∧ ∀ (i : Nat) (o : Oper), ops[i]? = some o → listed.getD i false = true → ∀ e ∈ o.after, Region.binds md e = true → listed.getD e.on false = true
/-- A slot of an act that is filled. -/
theorem fillN_at {a : Act} {dst : Nat → Tmp} {l : Array Bool} {v : Nat → Value} {i : Nat} (hl : l.getD i false = true) (hs : dst i < a.tmps.size) : ∀ n, (∀ j k, j < n → k < n → dst j = dst k → j = k) → i < n → (fillN a dst l v n).tmps.getD (dst i) undef = v i ∧ (fillN a dst l v n).tmps.size = a.tmps.size := by
  have size : ∀ n, (fillN a dst l v n).tmps.size = a.tmps.size := by
    intro n
    induction n with
    | zero => rfl
    | succ n ih => unfold fillN; split <;> simp [Act.put, ih]
  intro n
  induction n with
  | zero => intro _ h; exact absurd h (Nat.not_lt_zero _)
  | succ n ih =>
    intro hd hi
    refine ⟨?_, size _⟩
    by_cases hn : n = i
    · subst hn
      unfold fillN
      rw [if_pos hl]
      have h1 : dst n < (fillN a dst l v n).tmps.size := by rw [size]; exact hs
      simp [Act.put, h1]
    · have h2 := (ih (fun j k hj hk => hd j k (by omega) (by omega)) (by omega)).1
      unfold fillN
      split
      · have hne : dst n ≠ dst i := fun e => hn (hd n i (by omega) (by omega) e)
        simpa [Act.put, Array.getElem?_setIfInBounds_ne hne] using h2
      · exact h2
/-- How many are still to come. -/
def leftN (l : Array Bool) : Nat → Nat
  | 0 => 0
  | n + 1 => leftN l n + if l.getD n false then 0 else 1
theorem leftN_set {l : Array Bool} {i : Nat} (hl : l.getD i false = false) (hs : i < l.size) : ∀ n, (i < n → leftN (l.setIfInBounds i true) n + 1 = leftN l n) ∧ (n ≤ i → leftN (l.setIfInBounds i true) n = leftN l n)
  | 0 => ⟨fun h => absurd h (Nat.not_lt_zero _), fun _ => rfl⟩
  | n + 1 => by
    obtain ⟨h1, h2⟩ := leftN_set hl hs n
    refine ⟨fun hi => ?_, fun hi => ?_⟩
    · by_cases hn : n = i
      · subst hn
        have := h2 (Nat.le_refl _)
        simp only [leftN]
        rw [getD_set_eq' hs, hl, this]; simp
      · have := h1 (by omega)
        simp only [leftN]
        rw [getD_set_ne false (fun e => hn e.symm)]; omega
    · simp only [leftN]
      rw [getD_set_ne false (show i ≠ n by omega), h2 (by omega)]
theorem leftN_zero {l : Array Bool} : ∀ n, leftN l n = 0 → ∀ i, i < n → l.getD i false = true
  | 0, _, i, hi => absurd hi (Nat.not_lt_zero _)
  | n + 1, h, i, hi => by
    simp only [leftN] at h
    by_cases hn : i = n
    · subst hn
      cases hq : l.getD i false with
      | true => rfl
      | false => rw [hq] at h; simp at h
    · exact leftN_zero n (by omega) i (by omega)
theorem leftN_le {l : Array Bool} : ∀ n, leftN l n ≤ n
  | 0 => Nat.le_refl _
  | n + 1 => by have := leftN_le (l := l) n; simp only [leftN]; split <;> omega
theorem getD_flip {l : Array Bool} {i : Nat} (h : i < l.size) : l.getD i true = l.getD i false := by simp [Array.getD, h]
/-- Where nothing may come up all has come up: each waits for earlier ones alone. -/
theorem all_listed {md : Region.Mode} {ops : Array Oper} {l : Array Bool} (hs : l.size = ops.size) (hac : ∀ (i : Nat) (o : Oper), ops[i]? = some o → ∀ e ∈ o.after, e.on < i) (hr : Region.ready md ops l = []) : ∀ n i, i < n → i < ops.size → l.getD i false = true
  | 0, i, h, _ => absurd h (Nat.not_lt_zero _)
  | n + 1, i, h, hi => by
    by_cases hn : i < n
    · exact all_listed hs hac hr n i hn hi
    · cases hq : l.getD i false with
      | true => rfl
      | false =>
        exfalso
        have hm : i ∈ Region.ready md ops l := mem_ready.2 ⟨by rw [getD_flip (by omega), hq], ops[i], by simp [hi], fun e he _ => all_listed hs hac hr n e.on (by have := hac i ops[i] (by simp [hi]) e he; omega) (by have := hac i ops[i] (by simp [hi]) e he; omega)⟩
        rw [hr] at hm; cases hm

/-- A slot that nothing listed fills. -/
theorem fillN_other {a : Act} {dst : Nat → Tmp} {l : Array Bool} {v : Nat → Value} {t : Nat} : ∀ n, (∀ j, j < n → l.getD j false = true → dst j ≠ t) → (fillN a dst l v n).tmps.getD t undef = a.tmps.getD t undef
  | 0, _ => rfl
  | n + 1, h => by
    have ih := fillN_other (a := a) (v := v) n (fun j hj => h j (by omega))
    unfold fillN
    split
    · rename_i hl
      have hne : dst n ≠ t := h n (by omega) hl
      simpa [Act.put, Array.getElem?_setIfInBounds_ne hne] using ih
    · exact ih
/-- Does j wait for i, through others too? -/
def anc (md : Region.Mode) (ops : Array Oper) (i : Nat) : Nat → Nat → Bool
  | 0, _ => false
  | n + 1, j => match ops[j]? with | some o => o.after.toList.any fun e => Region.binds md e && (e.on == i || anc md ops i n e.on) | none => false
theorem anc_listed {md : Region.Mode} {ops : Array Oper} {l : Array Bool} {i : Nat} (hcl : ∀ (j : Nat) (o : Oper), ops[j]? = some o → l.getD j false = true → ∀ e ∈ o.after, Region.binds md e = true → l.getD e.on false = true) :
    ∀ n j, l.getD j false = true → anc md ops i n j = true → l.getD i false = true
  | 0, _, _, h => by cases h
  | n + 1, j, hj, h => by
    unfold anc at h
    split at h
    · rename_i o ho
      rw [List.any_eq_true] at h
      obtain ⟨e, he, hb⟩ := h
      simp only [Bool.and_eq_true, Bool.or_eq_true, beq_iff_eq] at hb
      have h1 := hcl j o ho hj e (by simpa using he) hb.1
      rcases hb.2 with h2 | h2
      · rw [← h2]; exact h1
      · exact anc_listed hcl n e.on h1 h2
    · cases h
theorem wpAny_inv {S : Nat → Prop} {R : Nat → World → World → Prop} {big : Nat} {P : Program} {md : Region.Mode} {ops : Array Oper} {Q : Exit → Act → World → Prop} {a : Act} {w0 : World} {dst : Nat → Tmp} {Φ : Nat → Value → World → Prop}
    (hac : ∀ (i : Nat) (o : Oper), ops[i]? = some o → ∀ e ∈ o.after, e.on < i)
    (hinj : ∀ j k, j < ops.size → k < ops.size → dst j = dst k → j = k) (hsz : ∀ i, i < ops.size → dst i < a.tmps.size)
    (hR : ∀ i w w', R i w w' → Upd S w w' ∧ (i ≠ big → Ext w w')) (hΦ : ∀ i j v w w', i < ops.size → j < ops.size → i ≠ j → anc md ops i ops.size j = false → Φ j v w → R i w w' → Φ j v w')
    (step : ∀ (i : Nat) (o : Oper) (b : Act) (w : World), ops[i]? = some o → Upd S w0 w → (∀ e ∈ o.after, Region.binds md e = true → Φ e.on (b.tmps.getD (dst e.on) undef) w) → (∀ t, (∀ (j : Nat) (oj : Oper), ops[j]? = some oj → dst j = t → j = i ∨ ∃ e ∈ oj.after, Region.binds md e = true ∧ e.on = i) → b.tmps.getD t undef = a.tmps.getD t undef) → (i = big → Ext w0 w) →
      Region.wanted o (yielded ops b.tmps) = true ∧ o.wp P b w (fun b' w' => ∃ v, b' = b.put (some (dst i)) v ∧ Φ i v w' ∧ R i w w') Q)
    (fin : ∀ v w, Upd S w0 w → (∀ i, i < ops.size → Φ i (v i) w) → Q .normal (fillAll a dst v ops.size) w) :
    ∀ (fuel : Nat) (listed : Array Bool) (b : Act) (w : World), leftN listed ops.size ≤ fuel → InvN S big md ops a w0 dst Φ listed b w → wpAny P md ops Q fuel listed b w := by
  have done : ∀ (listed : Array Bool) (b : Act) (w : World), InvN S big md ops a w0 dst Φ listed b w → Region.ready md ops listed = [] → Q .normal b w := by
    intro listed b w hI hr
    obtain ⟨v, hs, rfl, hx, hbg, hp, hcl⟩ := hI
    have hall := fun i hi => all_listed hs hac hr ops.size i hi hi
    rw [fillN_all _ hall]
    exact fin v w hx (fun i hi => hp i hi (hall i hi))
  intro fuel
  induction fuel with
  | zero =>
    intro listed b w hl hI
    have hall := leftN_zero (l := listed) ops.size (by omega)
    have hr : Region.ready md ops listed = [] := by
      rw [List.eq_nil_iff_forall_not_mem]
      intro i hi
      obtain ⟨h0, o, ho, -⟩ := mem_ready.1 hi
      obtain ⟨v, hs, -⟩ := hI
      have hlt : i < ops.size := (Array.getElem?_eq_some_iff.1 ho).1
      rw [getD_flip (by omega), hall i hlt] at h0; cases h0
    exact ⟨hr, done _ _ _ hI hr⟩
  | succ fuel ih =>
    intro listed b w hl hI
    refine ⟨done _ _ _ hI, fun i hi => ?_⟩
    obtain ⟨h0, o, ho, hall⟩ := mem_ready.1 hi
    obtain ⟨v, hs, rfl, hx, hbg, hp, hcl⟩ := hI
    have hlt : i < ops.size := (Array.getElem?_eq_some_iff.1 ho).1
    rw [getD_flip (by omega)] at h0
    have hw := step i o (fillN a dst listed v ops.size) w ho hx (fun e he hb => by
      have h1 := hac i o ho e he
      have h2 := hall e he hb
      rw [(fillN_at h2 (hsz _ (by omega)) ops.size hinj (by omega)).1]
      exact hp _ (by omega) h2) (fun t ht => fillN_other ops.size fun j hj hlj he => by
        obtain ⟨oj, hoj⟩ : ∃ oj, ops[j]? = some oj := ⟨ops[j], by simp [hj]⟩
        rcases ht j oj hoj he with rfl | ⟨e, he1, he2, he3⟩
        · rw [h0] at hlj; cases hlj
        · have := hcl j oj hoj hlj e he1 he2
          rw [he3, h0] at this; cases this) (fun e => hbg (by rw [← e]; exact h0))
    unfold wpOp
    rw [ho]
    simp only [hw.1, if_true]
    refine .inl (Oper.wp_mono ?_ hw.2)
    rintro b' w' ⟨x, rfl, hx1, hx2⟩
    have hp2 := (fillN_put (a := a) (v := v) x h0 ops.size (fun j hj hne he => hne (hinj j i hj hlt he)) (by omega)).1 hlt
    refine ih _ _ _ (by have := (leftN_set h0 (show i < listed.size by omega) ops.size).1 hlt; omega) ⟨fun j => if j = i then x else v j, by simp [hs], hp2, hx.trans (hR _ _ _ hx2).1, fun hb0 => ?_, fun j hj hlj => ?_, fun j oj hoj hlj e he hb => ?_⟩
    · by_cases hbi : big = i
      · rw [hbi, getD_set_eq' (by omega)] at hb0; cases hb0
      · rw [getD_set_ne false (fun e => hbi e.symm)] at hb0
        exact (hbg hb0).trans ((hR _ _ _ hx2).2 (fun e => hbi e.symm))
    rotate_left
    · by_cases hji : j = i
      · subst hji
        rw [ho] at hoj; cases hoj
        exact getD_set_true (hall e he hb)
      · rw [getD_set_ne false (fun e => hji e.symm)] at hlj
        exact getD_set_true (hcl j oj hoj hlj e he hb)
    by_cases hji : j = i
    · subst hji; simpa using hx1
    · show Φ j (if j = i then x else v j) w'
      rw [if_neg hji]
      rw [getD_set_ne false (fun e => hji e.symm)] at hlj
      refine hΦ i j _ _ _ hlt hj (fun e => hji e.symm) ?_ (hp j hj hlj) hx2
      cases hq : anc md ops i ops.size j with
      | false => rfl
      | true => have := anc_listed hcl _ _ hlj hq; rw [h0] at this; cases this
/-- **A REGION THAT DRAWS ITS ORDER.** -/
theorem wp_region_inv (S : Nat → Prop) (R : Nat → World → World → Prop) (big : Nat) {P : Program} {id : Nat} {ops : Array Oper} {Q : Exit → Act → World → Prop} {a : Act} {w : World} (dst : Nat → Tmp) (Φ : Nat → Value → World → Prop) (hm : P.follows .mixedOrders = true)
    (hac : ∀ (i : Nat) (o : Oper), ops[i]? = some o → ∀ e ∈ o.after, e.on < i)
    (hinj : ∀ j k, j < ops.size → k < ops.size → dst j = dst k → j = k) (hsz : ∀ i, i < ops.size → dst i < a.tmps.size)
    (hR : ∀ i w w', R i w w' → Upd S w w' ∧ (i ≠ big → Ext w w')) (hΦ : ∀ i j v w w', i < ops.size → j < ops.size → i ≠ j → anc .any ops i ops.size j = false → Φ j v w → R i w w' → Φ j v w')
    (step : ∀ (i : Nat) (o : Oper) (b : Act) (w1 : World), ops[i]? = some o → Upd S w w1 → (∀ e ∈ o.after, Region.binds .any e = true → Φ e.on (b.tmps.getD (dst e.on) undef) w1) → (∀ t, (∀ (j : Nat) (oj : Oper), ops[j]? = some oj → dst j = t → j = i ∨ ∃ e ∈ oj.after, Region.binds .any e = true ∧ e.on = i) → b.tmps.getD t undef = a.tmps.getD t undef) → (i = big → Ext w w1) →
      Region.wanted o (yielded ops b.tmps) = true ∧ o.wp P b w1 (fun b' w' => ∃ v, b' = b.put (some (dst i)) v ∧ Φ i v w' ∧ R i w1 w') Q)
    (fin : ∀ v w1, Upd S w w1 → (∀ i, i < ops.size → Φ i (v i) w1) → Q .normal (fillAll a dst v ops.size) w1) : (Code.region id ops true).wp P Q a w := by
  have hx : Upd S w { w with drawn := w.drawn + 1 } := ⟨rfl, rfl, rfl, Nat.le_refl _, fun _ _ _ => rfl⟩
  refine wp_region_any hm (wpAny_inv (w0 := { w with drawn := w.drawn + 1 }) hac hinj hsz hR hΦ (fun i o b w1 ho h1 hd hk hE0 => have hE : i = big → Ext w w1 := fun e => (show Ext w { w with drawn := w.drawn + 1 } from ⟨rfl, rfl, rfl, Nat.le_refl _, fun _ _ _ => rfl⟩).trans (hE0 e); step i o b w1 ho (hx.trans h1) hd hk hE) (fun v w1 h1 hp => fin v w1 (hx.trans h1) hp) _ _ _ _ (leftN_le _) ⟨fun _ => undef, by simp, ?_, Upd.refl _ _, fun _ => Upd.refl _ _, fun i hi hl => ?_, fun i o ho hl => ?_⟩)
  · rw [fillN_none _ (fun i hi => by simp [hi])]
  · simp [hi] at hl
  · have hi : i < ops.size := (Array.getElem?_eq_some_iff.1 ho).1
    simp [hi] at hl
/-- .. the side conditions as Bools. -/
theorem wp_region_inv' (S : Nat → Prop) (R : Nat → World → World → Prop) (big : Nat) {P : Program} {id : Nat} {ops : Array Oper} {Q : Exit → Act → World → Prop} {a : Act} {w : World} (dst : Nat → Tmp) (Φ : Nat → Value → World → Prop) (N : Nat) (hm : P.follows .mixedOrders = true)
    (hgd : (ops.toList.all fun o => o.guard.isNone) = true) (hac : ((List.range ops.size).all fun i => match ops[i]? with | some o => o.after.toList.all fun e => decide (e.on < i) | none => true) = true)
    (hinj : ((List.range ops.size).all fun j => (List.range ops.size).all fun k => decide (dst j = dst k → j = k)) = true) (hN : a.tmps.size = N) (hsz : ((List.range ops.size).all fun i => decide (dst i < N)) = true)
    (hR : ∀ i w w', R i w w' → Upd S w w' ∧ (i ≠ big → Ext w w')) (hΦ : ∀ i j v w w', i < ops.size → j < ops.size → i ≠ j → anc .any ops i ops.size j = false → Φ j v w → R i w w' → Φ j v w')
    (step : ∀ (i : Nat) (o : Oper) (b : Act) (w1 : World), ops[i]? = some o → Upd S w w1 → (∀ e ∈ o.after, Region.binds .any e = true → Φ e.on (b.tmps.getD (dst e.on) undef) w1) → (∀ t, (∀ (j : Nat) (oj : Oper), ops[j]? = some oj → dst j = t → j = i ∨ ∃ e ∈ oj.after, Region.binds .any e = true ∧ e.on = i) → b.tmps.getD t undef = a.tmps.getD t undef) → (i = big → Ext w w1) →
      o.wp P b w1 (fun b' w' => ∃ v, b' = b.put (some (dst i)) v ∧ Φ i v w' ∧ R i w1 w') Q)
    (fin : ∀ v w1, Upd S w w1 → (∀ i, i < ops.size → Φ i (v i) w1) → Q .normal (fillAll a dst v ops.size) w1) : (Code.region id ops true).wp P Q a w := by
  subst hN
  simp only [List.all_eq_true, List.mem_range, decide_eq_true_eq] at hinj hsz
  refine wp_region_inv S R big dst Φ hm (fun i o ho e he => ?_) (fun j k hj hk => hinj j hj k hk) (fun i hi => hsz i hi) hR hΦ (fun i o b w1 ho h1 h2 h3 h4 => ⟨?_, step i o b w1 ho h1 h2 h3 h4⟩) fin
  rotate_left
  · obtain ⟨h1, h2⟩ := Array.getElem?_eq_some_iff.1 ho
    rw [List.all_eq_true] at hgd
    have hn : o.guard = none := by simpa using hgd o (by rw [← h2]; simp)
    simp [Region.wanted, hn]
  · have hlt : i < ops.size := (Array.getElem?_eq_some_iff.1 ho).1
    rw [List.all_eq_true] at hac
    have := hac i (List.mem_range.2 hlt)
    rw [ho] at this
    simp only [List.all_eq_true, decide_eq_true_eq] at this
    exact this e (by simpa using he)
/-- .. with guards: each step shows besides that its operation is wanted. -/
theorem wp_region_invG (S : Nat → Prop) (R : Nat → World → World → Prop) (big : Nat) {P : Program} {id : Nat} {ops : Array Oper} {Q : Exit → Act → World → Prop} {a : Act} {w : World} (dst : Nat → Tmp) (Φ : Nat → Value → World → Prop) (N : Nat) (hm : P.follows .mixedOrders = true)
    (hac : ((List.range ops.size).all fun i => match ops[i]? with | some o => o.after.toList.all fun e => decide (e.on < i) | none => true) = true)
    (hinj : ((List.range ops.size).all fun j => (List.range ops.size).all fun k => decide (dst j = dst k → j = k)) = true) (hN : a.tmps.size = N) (hsz : ((List.range ops.size).all fun i => decide (dst i < N)) = true)
    (hR : ∀ i w w', R i w w' → Upd S w w' ∧ (i ≠ big → Ext w w')) (hΦ : ∀ i j v w w', i < ops.size → j < ops.size → i ≠ j → anc .any ops i ops.size j = false → Φ j v w → R i w w' → Φ j v w')
    (step : ∀ (i : Nat) (o : Oper) (b : Act) (w1 : World), ops[i]? = some o → Upd S w w1 → (∀ e ∈ o.after, Region.binds .any e = true → Φ e.on (b.tmps.getD (dst e.on) undef) w1) → (∀ t, (∀ (j : Nat) (oj : Oper), ops[j]? = some oj → dst j = t → j = i ∨ ∃ e ∈ oj.after, Region.binds .any e = true ∧ e.on = i) → b.tmps.getD t undef = a.tmps.getD t undef) → (i = big → Ext w w1) →
      Region.wanted o (yielded ops b.tmps) = true ∧ o.wp P b w1 (fun b' w' => ∃ v, b' = b.put (some (dst i)) v ∧ Φ i v w' ∧ R i w1 w') Q)
    (fin : ∀ v w1, Upd S w w1 → (∀ i, i < ops.size → Φ i (v i) w1) → Q .normal (fillAll a dst v ops.size) w1) : (Code.region id ops true).wp P Q a w := by
  subst hN
  simp only [List.all_eq_true, List.mem_range, decide_eq_true_eq] at hinj hsz
  refine wp_region_inv S R big dst Φ hm (fun i o ho e he => ?_) (fun j k hj hk => hinj j hj k hk) (fun i hi => hsz i hi) hR hΦ step fin
  have hlt : i < ops.size := (Array.getElem?_eq_some_iff.1 ho).1
  rw [List.all_eq_true] at hac
  have := hac i (List.mem_range.2 hlt)
  rw [ho] at this
  simp only [List.all_eq_true, decide_eq_true_eq] at this
  exact this e (by simpa using he)
theorem tmp_some {b : Act} {t : Tmp} {v : Bool} (h : b.tmps.getD t undef = .bool v) : b.tmps[t]? = some (.bool v) := by
  cases hq : b.tmps[t]? with
  | none => simp [hq] at h; cases h
  | some x => simp [hq] at h; rw [h]

theorem wpList_load_blk_g {P : Program} {w : World} {ops : Array Oper} {rest : List Oper} {o : Oper} {a : Act} {Q : Exit → Act → World → Prop} (hw : Region.wanted o (yielded ops a.tmps) = true) (ty : TypeId) (x : Operand) (ho : o.op = .load ty x) {g : Nat} (hx : a.eval x = .pointer (some ⟨g, 0, none⟩)) {t : TypeId} {cs : Array Value} {fr : Nat × Nat}
    (hg : w.heap[g]? = some (.cells cs t fr)) (T : StructT P ty cs.size) (h : wpList P ops Q rest (a.put o.dst (.agg cs)) w) : wpList P ops Q (o :: rest) a w := by
  obtain ⟨d, h1, h2, h3⟩ := T
  show (if _ then _ else _)
  rw [if_pos hw]
  exact .inl (wp_load_row ty x ho g hx t cs fr d hg h1 (by cases d <;> simp_all) h3 h)

/-- Where nothing may come up all has come up: each waits for earlier ones alone. -/
theorem all_listedB {md : Region.Mode} {ops : Array Oper} {l : Array Bool} (hs : l.size = ops.size) (hac : ∀ (i : Nat) (o : Oper), ops[i]? = some o → ∀ e ∈ o.after, Region.binds md e = true → e.on < i) (hr : Region.ready md ops l = []) : ∀ n i, i < n → i < ops.size → l.getD i false = true
  | 0, i, h, _ => absurd h (Nat.not_lt_zero _)
  | n + 1, i, h, hi => by
    by_cases hn : i < n
    · exact all_listedB hs hac hr n i hn hi
    · cases hq : l.getD i false with
      | true => rfl
      | false =>
        exfalso
        have hm : i ∈ Region.ready md ops l := mem_ready.2 ⟨by rw [getD_flip (by omega), hq], ops[i], by simp [hi], fun e he hb => all_listedB hs hac hr n e.on (by have := hac i ops[i] (by simp [hi]) e he hb; omega) (by have := hac i ops[i] (by simp [hi]) e he hb; omega)⟩
        rw [hr] at hm; cases hm

theorem fillN_size {a : Act} {dst : Nat → Tmp} {l : Array Bool} {v : Nat → Value} : ∀ n, (fillN a dst l v n).tmps.size = a.tmps.size
  | 0 => rfl
  | n + 1 => by
    have ih := fillN_size (a := a) (dst := dst) (l := l) (v := v) n
    unfold fillN
    split
    · simp [Act.put, ih]
    · exact ih
theorem wpAny_invH {S : Nat → Prop} {R : Nat → World → World → Prop} {big : Nat} {P : Program} {md : Region.Mode} {ops : Array Oper} {Q : Exit → Act → World → Prop} {a : Act} {w0 : World} {dst : Nat → Tmp} {Φ : Nat → Value → World → Prop}
    (hac : ∀ (i : Nat) (o : Oper), ops[i]? = some o → ∀ e ∈ o.after, Region.binds md e = true → e.on < i)
    (hinj : ∀ j k, j < ops.size → k < ops.size → dst j = dst k → j = k) (hsz : ∀ i, i < ops.size → dst i < a.tmps.size ∨ ∀ v v' w, Φ i v w → Φ i v' w)
    (hR : ∀ i w w', R i w w' → Upd S w w' ∧ (i ≠ big → Ext w w')) (hΦ : ∀ i j v w w', i < ops.size → j < ops.size → i ≠ j → anc md ops i ops.size j = false → Φ j v w → R i w w' → Φ j v w')
    (step : ∀ (i : Nat) (o : Oper) (b : Act) (w : World), ops[i]? = some o → Upd S w0 w → (∀ e ∈ o.after, Region.binds md e = true → Φ e.on (b.tmps.getD (dst e.on) undef) w) → (∀ t, (∀ (j : Nat) (oj : Oper), ops[j]? = some oj → dst j = t → j = i ∨ ∃ e ∈ oj.after, Region.binds md e = true ∧ e.on = i) → b.tmps.getD t undef = a.tmps.getD t undef) → ((i = big ∨ anc md ops i ops.size big = true) → Ext w0 w) → b.tmps.size = a.tmps.size →
      (Region.wanted o (yielded ops b.tmps) = true ∧ o.wp P b w (fun b' w' => ∃ v, b' = b.put (some (dst i)) v ∧ Φ i v w' ∧ R i w w') Q) ∨ (Region.wanted o (yielded ops b.tmps) = false ∧ o.dst = some (dst i) ∧ Φ i undef w ∧ R i w w))
    (fin : ∀ v w, Upd S w0 w → (∀ i, i < ops.size → Φ i (v i) w) → Q .normal (fillAll a dst v ops.size) w) :
    ∀ (fuel : Nat) (listed : Array Bool) (b : Act) (w : World), leftN listed ops.size ≤ fuel → InvN S big md ops a w0 dst Φ listed b w → wpAny P md ops Q fuel listed b w := by
  have done : ∀ (listed : Array Bool) (b : Act) (w : World), InvN S big md ops a w0 dst Φ listed b w → Region.ready md ops listed = [] → Q .normal b w := by
    intro listed b w hI hr
    obtain ⟨v, hs, rfl, hx, hbg, hp, hcl⟩ := hI
    have hall := fun i hi => all_listedB hs hac hr ops.size i hi hi
    rw [fillN_all _ hall]
    exact fin v w hx (fun i hi => hp i hi (hall i hi))
  intro fuel
  induction fuel with
  | zero =>
    intro listed b w hl hI
    have hall := leftN_zero (l := listed) ops.size (by omega)
    have hr : Region.ready md ops listed = [] := by
      rw [List.eq_nil_iff_forall_not_mem]
      intro i hi
      obtain ⟨h0, o, ho, -⟩ := mem_ready.1 hi
      obtain ⟨v, hs, -⟩ := hI
      have hlt : i < ops.size := (Array.getElem?_eq_some_iff.1 ho).1
      rw [getD_flip (by omega), hall i hlt] at h0; cases h0
    exact ⟨hr, done _ _ _ hI hr⟩
  | succ fuel ih =>
    intro listed b w hl hI
    refine ⟨done _ _ _ hI, fun i hi => ?_⟩
    obtain ⟨h0, o, ho, hall⟩ := mem_ready.1 hi
    obtain ⟨v, hs, rfl, hx, hbg, hp, hcl⟩ := hI
    have hlt : i < ops.size := (Array.getElem?_eq_some_iff.1 ho).1
    rw [getD_flip (by omega)] at h0
    have hw := step i o (fillN a dst listed v ops.size) w ho hx (fun e he hb => by
      have h1 := hac i o ho e he hb
      have h2 := hall e he hb
      rcases hsz e.on (by omega) with h3 | h3
      · rw [(fillN_at h2 h3 ops.size hinj (by omega)).1]
        exact hp _ (by omega) h2
      · exact h3 _ _ _ (hp _ (by omega) h2)) (fun t ht => fillN_other ops.size fun j hj hlj he => by
        obtain ⟨oj, hoj⟩ : ∃ oj, ops[j]? = some oj := ⟨ops[j], by simp [hj]⟩
        rcases ht j oj hoj he with rfl | ⟨e, he1, he2, he3⟩
        · rw [h0] at hlj; cases hlj
        · have := hcl j oj hoj hlj e he1 he2
          rw [he3, h0] at this; cases this) (fun e => hbg (by
        rcases e with e | e
        · rw [← e]; exact h0
        · cases hq : listed.getD big false with
          | false => rfl
          | true => have := anc_listed hcl _ _ hq e; rw [h0] at this; cases this)) (fillN_size _)
    have fin2 : ∀ x w', Φ i x w' → R i w w' → wpAny P md ops Q fuel (listed.setIfInBounds i true) ((fillN a dst listed v ops.size).put (some (dst i)) x) w' := by
      intro x w' hx1 hx2
      have hp2 := (fillN_put (a := a) (v := v) x h0 ops.size (fun j hj hne he => hne (hinj j i hj hlt he)) (by omega)).1 hlt
      refine ih _ _ _ (by have := (leftN_set h0 (show i < listed.size by omega) ops.size).1 hlt; omega) ⟨fun j => if j = i then x else v j, by simp [hs], hp2, hx.trans (hR _ _ _ hx2).1, fun hb0 => ?_, fun j hj hlj => ?_, fun j oj hoj hlj e he hb => ?_⟩
      · by_cases hbi : big = i
        · rw [hbi, getD_set_eq' (by omega)] at hb0; cases hb0
        · rw [getD_set_ne false (fun e => hbi e.symm)] at hb0
          exact (hbg hb0).trans ((hR _ _ _ hx2).2 (fun e => hbi e.symm))
      rotate_left
      · by_cases hji : j = i
        · subst hji
          rw [ho] at hoj; cases hoj
          exact getD_set_true (hall e he hb)
        · rw [getD_set_ne false (fun e => hji e.symm)] at hlj
          exact getD_set_true (hcl j oj hoj hlj e he hb)
      by_cases hji : j = i
      · subst hji; simpa using hx1
      · show Φ j (if j = i then x else v j) w'
        rw [if_neg hji]
        rw [getD_set_ne false (fun e => hji e.symm)] at hlj
        refine hΦ i j _ _ _ hlt hj (fun e => hji e.symm) ?_ (hp j hj hlj) hx2
        cases hq : anc md ops i ops.size j with
        | false => rfl
        | true => have := anc_listed hcl _ _ hlj hq; rw [h0] at this; cases this
    unfold wpOp
    rw [ho]
    rcases hw with hw | hw
    · simp only [hw.1, if_true]
      refine .inl (Oper.wp_mono ?_ hw.2)
      rintro b' w' ⟨x, rfl, hx1, hx2⟩
      exact fin2 x w' hx1 hx2
    · simp only [hw.1]
      rw [if_neg (by decide), hw.2.1]
      exact fin2 undef w hw.2.2.1 hw.2.2.2
/-- **A REGION THAT DRAWS ITS ORDER.** -/
theorem wp_region_invH0 (S : Nat → Prop) (R : Nat → World → World → Prop) (big : Nat) {P : Program} {id : Nat} {ops : Array Oper} {Q : Exit → Act → World → Prop} {a : Act} {w : World} (dst : Nat → Tmp) (Φ : Nat → Value → World → Prop) (hm : P.follows .mixedOrders = true)
    (hac : ∀ (i : Nat) (o : Oper), ops[i]? = some o → ∀ e ∈ o.after, Region.binds .any e = true → e.on < i)
    (hinj : ∀ j k, j < ops.size → k < ops.size → dst j = dst k → j = k) (hsz : ∀ i, i < ops.size → dst i < a.tmps.size ∨ ∀ v v' w, Φ i v w → Φ i v' w)
    (hR : ∀ i w w', R i w w' → Upd S w w' ∧ (i ≠ big → Ext w w')) (hΦ : ∀ i j v w w', i < ops.size → j < ops.size → i ≠ j → anc .any ops i ops.size j = false → Φ j v w → R i w w' → Φ j v w')
    (step : ∀ (i : Nat) (o : Oper) (b : Act) (w1 : World), ops[i]? = some o → Upd S w w1 → (∀ e ∈ o.after, Region.binds .any e = true → Φ e.on (b.tmps.getD (dst e.on) undef) w1) → (∀ t, (∀ (j : Nat) (oj : Oper), ops[j]? = some oj → dst j = t → j = i ∨ ∃ e ∈ oj.after, Region.binds .any e = true ∧ e.on = i) → b.tmps.getD t undef = a.tmps.getD t undef) → ((i = big ∨ anc .any ops i ops.size big = true) → Ext w w1) → b.tmps.size = a.tmps.size →
      (Region.wanted o (yielded ops b.tmps) = true ∧ o.wp P b w1 (fun b' w' => ∃ v, b' = b.put (some (dst i)) v ∧ Φ i v w' ∧ R i w1 w') Q) ∨ (Region.wanted o (yielded ops b.tmps) = false ∧ o.dst = some (dst i) ∧ Φ i undef w1 ∧ R i w1 w1))
    (fin : ∀ v w1, Upd S w w1 → (∀ i, i < ops.size → Φ i (v i) w1) → Q .normal (fillAll a dst v ops.size) w1) : (Code.region id ops true).wp P Q a w := by
  have hx : Upd S w { w with drawn := w.drawn + 1 } := ⟨rfl, rfl, rfl, Nat.le_refl _, fun _ _ _ => rfl⟩
  refine wp_region_any hm (wpAny_invH (w0 := { w with drawn := w.drawn + 1 }) hac hinj hsz hR hΦ (fun i o b w1 ho h1 hd hk hE0 hS => have hE : (i = big ∨ anc .any ops i ops.size big = true) → Ext w w1 := fun e => (show Ext w { w with drawn := w.drawn + 1 } from ⟨rfl, rfl, rfl, Nat.le_refl _, fun _ _ _ => rfl⟩).trans (hE0 e); step i o b w1 ho (hx.trans h1) hd hk hE hS) (fun v w1 h1 hp => fin v w1 (hx.trans h1) hp) _ _ _ _ (leftN_le _) ⟨fun _ => undef, by simp, ?_, Upd.refl _ _, fun _ => Upd.refl _ _, fun i hi hl => ?_, fun i o ho hl => ?_⟩)
  · rw [fillN_none _ (fun i hi => by simp [hi])]
  · simp [hi] at hl
  · have hi : i < ops.size := (Array.getElem?_eq_some_iff.1 ho).1
    simp [hi] at hl
/-- .. with guards and stores: each step shows besides whether its operation is wanted; a slot that is none may be named by a number past the frame. -/
theorem wp_region_invH (S : Nat → Prop) (R : Nat → World → World → Prop) (big : Nat) {P : Program} {id : Nat} {ops : Array Oper} {Q : Exit → Act → World → Prop} {a : Act} {w : World} (dst : Nat → Tmp) (Φ : Nat → Value → World → Prop) (N : Nat) (hm : P.follows .mixedOrders = true)
    (hac : ((List.range ops.size).all fun i => match ops[i]? with | some o => o.after.toList.all fun e => !(Region.binds .any e) || decide (e.on < i) | none => true) = true)
    (hinj : ((List.range ops.size).all fun j => (List.range ops.size).all fun k => decide (dst j = dst k → j = k)) = true) (hN : a.tmps.size = N) (hsz : ∀ i, i < ops.size → dst i < N ∨ ∀ v v' w, Φ i v w → Φ i v' w)
    (hR : ∀ i w w', R i w w' → Upd S w w' ∧ (i ≠ big → Ext w w')) (hΦ : ∀ i j v w w', i < ops.size → j < ops.size → i ≠ j → anc .any ops i ops.size j = false → Φ j v w → R i w w' → Φ j v w')
    (step : ∀ (i : Nat) (o : Oper) (b : Act) (w1 : World), ops[i]? = some o → Upd S w w1 → (∀ e ∈ o.after, Region.binds .any e = true → Φ e.on (b.tmps.getD (dst e.on) undef) w1) → (∀ t, (∀ (j : Nat) (oj : Oper), ops[j]? = some oj → dst j = t → j = i ∨ ∃ e ∈ oj.after, Region.binds .any e = true ∧ e.on = i) → b.tmps.getD t undef = a.tmps.getD t undef) → ((i = big ∨ anc .any ops i ops.size big = true) → Ext w w1) → b.tmps.size = a.tmps.size →
      (Region.wanted o (yielded ops b.tmps) = true ∧ o.wp P b w1 (fun b' w' => ∃ v, b' = b.put (some (dst i)) v ∧ Φ i v w' ∧ R i w1 w') Q) ∨ (Region.wanted o (yielded ops b.tmps) = false ∧ o.dst = some (dst i) ∧ Φ i undef w1 ∧ R i w1 w1))
    (fin : ∀ v w1, Upd S w w1 → (∀ i, i < ops.size → Φ i (v i) w1) → Q .normal (fillAll a dst v ops.size) w1) : (Code.region id ops true).wp P Q a w := by
  subst hN
  simp only [List.all_eq_true, List.mem_range, decide_eq_true_eq] at hinj
  refine wp_region_invH0 S R big dst Φ hm (fun i o ho e he hb => ?_) (fun j k hj hk => hinj j hj k hk) (fun i hi => hsz i hi) hR hΦ step fin
  have hlt : i < ops.size := (Array.getElem?_eq_some_iff.1 ho).1
  rw [List.all_eq_true] at hac
  have := hac i (List.mem_range.2 hlt)
  rw [ho] at this
  simp only [List.all_eq_true] at this
  have := this e (by simpa using he)
  rw [hb] at this
  simpa using this
theorem put_past {b : Act} {d : Tmp} {v : Value} (h : b.tmps.size ≤ d) : b = b.put (some d) v := by
  unfold Act.put
  cases b
  simp only [Act.mk.injEq, and_true]
  exact (Array.setIfInBounds_eq_of_size_le h).symm
end Go.Proofs.YtfpioijfocmfcaaGreatDoor
