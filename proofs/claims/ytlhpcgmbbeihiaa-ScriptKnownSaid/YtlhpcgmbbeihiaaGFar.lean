/-
  A REGION THAT DRAWS ITS ORDER, BY AN INVARIANT: each operation is shown once, in whatever order it comes up: what it yields meets its own clause, which stays when nothing old turns. No program in sight.
  CONTRACT of script.Read for more than 65536 bytes, and what is read of a long row of zeros.
-/
import Derived.Test.YtlhpcgmbbeihiaaBack
import Derived.Test.YtlhpcgmbbeihiaaWrites
import Derived.Laws.OwnMore
namespace Go.Proofs.Ytlhpcgmbbeihiaa
open Go.RowKit

/-- The act a, with the slots dst i of those that are listed filled. -/
def fillN (a : Act) (dst : Nat → Tmp) (listed : Array Bool) (v : Nat → Value) : Nat → Act
  | 0 => a
  | n + 1 => if listed.getD n false then (fillN a dst listed v n).put (some (dst n)) (v n) else fillN a dst listed v n
def fillAll (a : Act) (dst : Nat → Tmp) (v : Nat → Value) : Nat → Act
  | 0 => a
  | n + 1 => (fillAll a dst v n).put (some (dst n)) (v n)
theorem fillN_congr {a : Act} {dst : Nat → Tmp} {l l' : Array Bool} {v v' : Nat → Value} : ∀ n, (∀ i, i < n → l.getD i false = l'.getD i false) → (∀ i, i < n → l.getD i false = true → v i = v' i) → fillN a dst l v n = fillN a dst l' v' n
  | 0, _, _ => rfl
  | n + 1, h1, h2 => by
    have ih := fillN_congr (a := a) (dst := dst) n (fun i hi => h1 i (by omega)) (fun i hi => h2 i (by omega))
    unfold fillN
    rw [← h1 n (by omega), ih]
    split
    · rename_i hl; rw [h2 n (by omega) hl]
    · rfl
theorem fillN_all {a : Act} {dst : Nat → Tmp} {l : Array Bool} {v : Nat → Value} : ∀ n, (∀ i, i < n → l.getD i false = true) → fillN a dst l v n = fillAll a dst v n
  | 0, _ => rfl
  | n + 1, h => by unfold fillN fillAll; rw [if_pos (h n (by omega)), fillN_all n (fun i hi => h i (by omega))]
theorem fillN_none {a : Act} {dst : Nat → Tmp} {l : Array Bool} {v : Nat → Value} : ∀ n, (∀ i, i < n → l.getD i false = false) → fillN a dst l v n = a
  | 0, _ => rfl
  | n + 1, h => by unfold fillN; rw [if_neg (by rw [h n (by omega)]; decide), fillN_none n (fun i hi => h i (by omega))]
theorem getD_set_eq' {l : Array Bool} {i : Nat} (h : i < l.size) : (l.setIfInBounds i true).getD i false = true := by
  simp [Array.getD, h]
theorem fillN_put {a : Act} {dst : Nat → Tmp} {l : Array Bool} {v : Nat → Value} {i : Nat} (x : Value) (hl : l.getD i false = false) : ∀ n, (∀ j, j < n → j ≠ i → dst j ≠ dst i) → i < l.size →
    (i < n → (fillN a dst l v n).put (some (dst i)) x = fillN a dst (l.setIfInBounds i true) (fun j => if j = i then x else v j) n) ∧ (n ≤ i → fillN a dst l v n = fillN a dst (l.setIfInBounds i true) (fun j => if j = i then x else v j) n)
  | 0, _, _ => ⟨fun h => absurd h (Nat.not_lt_zero _), fun _ => rfl⟩
  | n + 1, hd, hs => by
    obtain ⟨ih1, ih2⟩ := fillN_put (a := a) (v := v) x hl n (fun j hj => hd j (by omega)) hs
    refine ⟨fun hi => ?_, fun hi => ?_⟩
    · by_cases hn : n = i
      · subst hn
        have h2 := ih2 (Nat.le_refl _)
        simp only [fillN]
        rw [hl, if_neg (by decide), h2, getD_set_eq' hs, if_pos rfl]
        simp
      · have h1 := ih1 (by omega)
        simp only [fillN]
        rw [getD_set_ne false (fun e => hn e.symm), if_neg hn]
        split
        · rw [Act.put_comm _ _ _ (fun d hq e => hd n (by omega) hn (Option.some.inj (hq.trans e.symm))), h1]
        · exact h1
    · simp only [fillN]
      rw [getD_set_ne false (show i ≠ n by omega), if_neg (show ¬ n = i by omega), ih2 (by omega)]
theorem fillN_defers {a : Act} {dst : Nat → Tmp} {l : Array Bool} {v : Nat → Value} : ∀ n, (fillN a dst l v n).defers = a.defers
  | 0 => rfl
  | n + 1 => by
    unfold fillN
    split
    · have : ∀ (b : Act) x y, (b.put x y).defers = b.defers := fun b x y => by unfold Act.put; split <;> rfl
      rw [this, fillN_defers n]
    · exact fillN_defers n

/-- The clauses of what is listed. -/
def InvN (S : Nat → Prop) (big : Nat) (md : Region.Mode) (ops : Array Oper) (a : Act) (w0 : World) (dst : Nat → Tmp) (Φ : Nat → Value → World → Prop) (listed : Array Bool) (b : Act) (w : World) : Prop :=
  ∃ v : Nat → Value, listed.size = ops.size ∧ b = fillN a dst listed v ops.size ∧ Upd S w0 w ∧ (listed.getD big false = false → Ext w0 w) ∧ (∀ i, i < ops.size → listed.getD i false = true → Φ i (v i) w) ∧ ∀ (i : Nat) (o : Oper), ops[i]? = some o → listed.getD i false = true → ∀ e ∈ o.after, Region.binds md e = true → listed.getD e.on false = true
/-- A slot of an act that is filled. -/
theorem fillN_at {a : Act} {dst : Nat → Tmp} {l : Array Bool} {v : Nat → Value} {i : Nat} (hl : l.getD i false = true) (hs : dst i < a.tmps.size) : ∀ n, (∀ j k, j < n → k < n → dst j = dst k → j = k) → i < n → (fillN a dst l v n).tmps.getD (dst i) undef = v i ∧ (fillN a dst l v n).tmps.size = a.tmps.size := by
  have size : ∀ n, (fillN a dst l v n).tmps.size = a.tmps.size := by
    intro n
    induction n with
    | zero => rfl
    | succ n ih => unfold fillN; split <;> simp [Act.put, ih]
  intro n
  induction n with
  | zero => intro _ h; exact absurd h (Nat.not_lt_zero _)
  | succ n ih =>
    intro hd hi
    refine ⟨?_, size _⟩
    by_cases hn : n = i
    · subst hn
      unfold fillN
      rw [if_pos hl]
      have h1 : dst n < (fillN a dst l v n).tmps.size := by rw [size]; exact hs
      simp [Act.put, h1]
    · have h2 := (ih (fun j k hj hk => hd j k (by omega) (by omega)) (by omega)).1
      unfold fillN
      split
      · have hne : dst n ≠ dst i := fun e => hn (hd n i (by omega) (by omega) e)
        simpa [Act.put, Array.getElem?_setIfInBounds_ne hne] using h2
      · exact h2
/-- How many are still to come. -/
def leftN (l : Array Bool) : Nat → Nat
  | 0 => 0
  | n + 1 => leftN l n + if l.getD n false then 0 else 1
theorem leftN_set {l : Array Bool} {i : Nat} (hl : l.getD i false = false) (hs : i < l.size) : ∀ n, (i < n → leftN (l.setIfInBounds i true) n + 1 = leftN l n) ∧ (n ≤ i → leftN (l.setIfInBounds i true) n = leftN l n)
  | 0 => ⟨fun h => absurd h (Nat.not_lt_zero _), fun _ => rfl⟩
  | n + 1 => by
    obtain ⟨h1, h2⟩ := leftN_set hl hs n
    refine ⟨fun hi => ?_, fun hi => ?_⟩
    · by_cases hn : n = i
      · subst hn
        have := h2 (Nat.le_refl _)
        simp only [leftN]
        rw [getD_set_eq' hs, hl, this]; simp
      · have := h1 (by omega)
        simp only [leftN]
        rw [getD_set_ne false (fun e => hn e.symm)]; omega
    · simp only [leftN]
      rw [getD_set_ne false (show i ≠ n by omega), h2 (by omega)]
theorem leftN_zero {l : Array Bool} : ∀ n, leftN l n = 0 → ∀ i, i < n → l.getD i false = true
  | 0, _, i, hi => absurd hi (Nat.not_lt_zero _)
  | n + 1, h, i, hi => by
    simp only [leftN] at h
    by_cases hn : i = n
    · subst hn
      cases hq : l.getD i false with
      | true => rfl
      | false => rw [hq] at h; simp at h
    · exact leftN_zero n (by omega) i (by omega)
theorem leftN_le {l : Array Bool} : ∀ n, leftN l n ≤ n
  | 0 => Nat.le_refl _
  | n + 1 => by have := leftN_le (l := l) n; simp only [leftN]; split <;> omega
theorem getD_flip {l : Array Bool} {i : Nat} (h : i < l.size) : l.getD i true = l.getD i false := by simp [Array.getD, h]
/-- Where nothing may come up all has come up: each waits for earlier ones alone. -/
theorem all_listed {md : Region.Mode} {ops : Array Oper} {l : Array Bool} (hs : l.size = ops.size) (hac : ∀ (i : Nat) (o : Oper), ops[i]? = some o → ∀ e ∈ o.after, e.on < i) (hr : Region.ready md ops l = []) : ∀ n i, i < n → i < ops.size → l.getD i false = true
  | 0, i, h, _ => absurd h (Nat.not_lt_zero _)
  | n + 1, i, h, hi => by
    by_cases hn : i < n
    · exact all_listed hs hac hr n i hn hi
    · cases hq : l.getD i false with
      | true => rfl
      | false =>
        exfalso
        have hm : i ∈ Region.ready md ops l := mem_ready.2 ⟨by rw [getD_flip (by omega), hq], ops[i], by simp [hi], fun e he _ => all_listed hs hac hr n e.on (by have := hac i ops[i] (by simp [hi]) e he; omega) (by have := hac i ops[i] (by simp [hi]) e he; omega)⟩
        rw [hr] at hm; cases hm

/-- A slot that nothing listed fills. -/
theorem fillN_other {a : Act} {dst : Nat → Tmp} {l : Array Bool} {v : Nat → Value} {t : Nat} : ∀ n, (∀ j, j < n → l.getD j false = true → dst j ≠ t) → (fillN a dst l v n).tmps.getD t undef = a.tmps.getD t undef
  | 0, _ => rfl
  | n + 1, h => by
    have ih := fillN_other (a := a) (v := v) n (fun j hj => h j (by omega))
    unfold fillN
    split
    · rename_i hl
      have hne : dst n ≠ t := h n (by omega) hl
      simpa [Act.put, Array.getElem?_setIfInBounds_ne hne] using ih
    · exact ih
/-- Does j wait for i, through others too? -/
def anc (md : Region.Mode) (ops : Array Oper) (i : Nat) : Nat → Nat → Bool
  | 0, _ => false
  | n + 1, j => match ops[j]? with | some o => o.after.toList.any fun e => Region.binds md e && (e.on == i || anc md ops i n e.on) | none => false
theorem anc_listed {md : Region.Mode} {ops : Array Oper} {l : Array Bool} {i : Nat} (hcl : ∀ (j : Nat) (o : Oper), ops[j]? = some o → l.getD j false = true → ∀ e ∈ o.after, Region.binds md e = true → l.getD e.on false = true) :
    ∀ n j, l.getD j false = true → anc md ops i n j = true → l.getD i false = true
  | 0, _, _, h => by cases h
  | n + 1, j, hj, h => by
    unfold anc at h
    split at h
    · rename_i o ho
      rw [List.any_eq_true] at h
      obtain ⟨e, he, hb⟩ := h
      simp only [Bool.and_eq_true, Bool.or_eq_true, beq_iff_eq] at hb
      have h1 := hcl j o ho hj e (by simpa using he) hb.1
      rcases hb.2 with h2 | h2
      · rw [← h2]; exact h1
      · exact anc_listed hcl n e.on h1 h2
    · cases h
theorem wpAny_inv {S : Nat → Prop} {R : Nat → World → World → Prop} {big : Nat} {P : Program} {md : Region.Mode} {ops : Array Oper} {Q : Exit → Act → World → Prop} {a : Act} {w0 : World} {dst : Nat → Tmp} {Φ : Nat → Value → World → Prop}
    (hac : ∀ (i : Nat) (o : Oper), ops[i]? = some o → ∀ e ∈ o.after, e.on < i)
    (hinj : ∀ j k, j < ops.size → k < ops.size → dst j = dst k → j = k) (hsz : ∀ i, i < ops.size → dst i < a.tmps.size)
    (hR : ∀ i w w', R i w w' → Upd S w w' ∧ (i ≠ big → Ext w w')) (hΦ : ∀ i j v w w', i < ops.size → j < ops.size → i ≠ j → anc md ops i ops.size j = false → Φ j v w → R i w w' → Φ j v w')
    (step : ∀ (i : Nat) (o : Oper) (b : Act) (w : World), ops[i]? = some o → Upd S w0 w → (∀ e ∈ o.after, Region.binds md e = true → Φ e.on (b.tmps.getD (dst e.on) undef) w) → (∀ t, (∀ (j : Nat) (oj : Oper), ops[j]? = some oj → dst j = t → j = i ∨ ∃ e ∈ oj.after, Region.binds md e = true ∧ e.on = i) → b.tmps.getD t undef = a.tmps.getD t undef) → (i = big → Ext w0 w) →
      Region.wanted o (yielded ops b.tmps) = true ∧ o.wp P b w (fun b' w' => ∃ v, b' = b.put (some (dst i)) v ∧ Φ i v w' ∧ R i w w') Q)
    (fin : ∀ v w, Upd S w0 w → (∀ i, i < ops.size → Φ i (v i) w) → Q .normal (fillAll a dst v ops.size) w) :
    ∀ (fuel : Nat) (listed : Array Bool) (b : Act) (w : World), leftN listed ops.size ≤ fuel → InvN S big md ops a w0 dst Φ listed b w → wpAny P md ops Q fuel listed b w := by
  have done : ∀ (listed : Array Bool) (b : Act) (w : World), InvN S big md ops a w0 dst Φ listed b w → Region.ready md ops listed = [] → Q .normal b w := by
    intro listed b w hI hr
    obtain ⟨v, hs, rfl, hx, hbg, hp, hcl⟩ := hI
    have hall := fun i hi => all_listed hs hac hr ops.size i hi hi
    rw [fillN_all _ hall]
    exact fin v w hx (fun i hi => hp i hi (hall i hi))
  intro fuel
  induction fuel with
  | zero =>
    intro listed b w hl hI
    have hall := leftN_zero (l := listed) ops.size (by omega)
    have hr : Region.ready md ops listed = [] := by
      rw [List.eq_nil_iff_forall_not_mem]
      intro i hi
      obtain ⟨h0, o, ho, -⟩ := mem_ready.1 hi
      obtain ⟨v, hs, -⟩ := hI
      have hlt : i < ops.size := (Array.getElem?_eq_some_iff.1 ho).1
      rw [getD_flip (by omega), hall i hlt] at h0; cases h0
    exact ⟨hr, done _ _ _ hI hr⟩
  | succ fuel ih =>
    intro listed b w hl hI
    refine ⟨done _ _ _ hI, fun i hi => ?_⟩
    obtain ⟨h0, o, ho, hall⟩ := mem_ready.1 hi
    obtain ⟨v, hs, rfl, hx, hbg, hp, hcl⟩ := hI
    have hlt : i < ops.size := (Array.getElem?_eq_some_iff.1 ho).1
    rw [getD_flip (by omega)] at h0
    have hw := step i o (fillN a dst listed v ops.size) w ho hx (fun e he hb => by
      have h1 := hac i o ho e he
      have h2 := hall e he hb
      rw [(fillN_at h2 (hsz _ (by omega)) ops.size hinj (by omega)).1]
      exact hp _ (by omega) h2) (fun t ht => fillN_other ops.size fun j hj hlj he => by
        obtain ⟨oj, hoj⟩ : ∃ oj, ops[j]? = some oj := ⟨ops[j], by simp [hj]⟩
        rcases ht j oj hoj he with rfl | ⟨e, he1, he2, he3⟩
        · rw [h0] at hlj; cases hlj
        · have := hcl j oj hoj hlj e he1 he2
          rw [he3, h0] at this; cases this) (fun e => hbg (by rw [← e]; exact h0))
    unfold wpOp
    rw [ho]
    simp only [hw.1, if_true]
    refine .inl (Oper.wp_mono ?_ hw.2)
    rintro b' w' ⟨x, rfl, hx1, hx2⟩
    have hp2 := (fillN_put (a := a) (v := v) x h0 ops.size (fun j hj hne he => hne (hinj j i hj hlt he)) (by omega)).1 hlt
    refine ih _ _ _ (by have := (leftN_set h0 (show i < listed.size by omega) ops.size).1 hlt; omega) ⟨fun j => if j = i then x else v j, by simp [hs], hp2, hx.trans (hR _ _ _ hx2).1, fun hb0 => ?_, fun j hj hlj => ?_, fun j oj hoj hlj e he hb => ?_⟩
    · by_cases hbi : big = i
      · rw [hbi, getD_set_eq' (by omega)] at hb0; cases hb0
      · rw [getD_set_ne false (fun e => hbi e.symm)] at hb0
        exact (hbg hb0).trans ((hR _ _ _ hx2).2 (fun e => hbi e.symm))
    rotate_left
    · by_cases hji : j = i
      · subst hji
        rw [ho] at hoj; cases hoj
        exact getD_set_true (hall e he hb)
      · rw [getD_set_ne false (fun e => hji e.symm)] at hlj
        exact getD_set_true (hcl j oj hoj hlj e he hb)
    by_cases hji : j = i
    · subst hji; simpa using hx1
    · show Φ j (if j = i then x else v j) w'
      rw [if_neg hji]
      rw [getD_set_ne false (fun e => hji e.symm)] at hlj
      refine hΦ i j _ _ _ hlt hj (fun e => hji e.symm) ?_ (hp j hj hlj) hx2
      cases hq : anc md ops i ops.size j with
      | false => rfl
      | true => have := anc_listed hcl _ _ hlj hq; rw [h0] at this; cases this
/-- **A REGION THAT DRAWS ITS ORDER.** -/
theorem wp_region_inv (S : Nat → Prop) (R : Nat → World → World → Prop) (big : Nat) {P : Program} {id : Nat} {ops : Array Oper} {Q : Exit → Act → World → Prop} {a : Act} {w : World} (dst : Nat → Tmp) (Φ : Nat → Value → World → Prop) (hm : P.follows .mixedOrders = true)
    (hac : ∀ (i : Nat) (o : Oper), ops[i]? = some o → ∀ e ∈ o.after, e.on < i)
    (hinj : ∀ j k, j < ops.size → k < ops.size → dst j = dst k → j = k) (hsz : ∀ i, i < ops.size → dst i < a.tmps.size)
    (hR : ∀ i w w', R i w w' → Upd S w w' ∧ (i ≠ big → Ext w w')) (hΦ : ∀ i j v w w', i < ops.size → j < ops.size → i ≠ j → anc .any ops i ops.size j = false → Φ j v w → R i w w' → Φ j v w')
    (step : ∀ (i : Nat) (o : Oper) (b : Act) (w1 : World), ops[i]? = some o → Upd S w w1 → (∀ e ∈ o.after, Region.binds .any e = true → Φ e.on (b.tmps.getD (dst e.on) undef) w1) → (∀ t, (∀ (j : Nat) (oj : Oper), ops[j]? = some oj → dst j = t → j = i ∨ ∃ e ∈ oj.after, Region.binds .any e = true ∧ e.on = i) → b.tmps.getD t undef = a.tmps.getD t undef) → (i = big → Ext w w1) →
      Region.wanted o (yielded ops b.tmps) = true ∧ o.wp P b w1 (fun b' w' => ∃ v, b' = b.put (some (dst i)) v ∧ Φ i v w' ∧ R i w1 w') Q)
    (fin : ∀ v w1, Upd S w w1 → (∀ i, i < ops.size → Φ i (v i) w1) → Q .normal (fillAll a dst v ops.size) w1) : (Code.region id ops true).wp P Q a w := by
  have hx : Upd S w { w with drawn := w.drawn + 1 } := ⟨rfl, rfl, rfl, Nat.le_refl _, fun _ _ _ => rfl⟩
  refine wp_region_any hm (wpAny_inv (w0 := { w with drawn := w.drawn + 1 }) hac hinj hsz hR hΦ (fun i o b w1 ho h1 hd hk hE0 => have hE : i = big → Ext w w1 := fun e => (show Ext w { w with drawn := w.drawn + 1 } from ⟨rfl, rfl, rfl, Nat.le_refl _, fun _ _ _ => rfl⟩).trans (hE0 e); step i o b w1 ho (hx.trans h1) hd hk hE) (fun v w1 h1 hp => fin v w1 (hx.trans h1) hp) _ _ _ _ (leftN_le _) ⟨fun _ => undef, by simp, ?_, Upd.refl _ _, fun _ => Upd.refl _ _, fun i hi hl => ?_, fun i o ho hl => ?_⟩)
  · rw [fillN_none _ (fun i hi => by simp [hi])]
  · simp [hi] at hl
  · have hi : i < ops.size := (Array.getElem?_eq_some_iff.1 ho).1
    simp [hi] at hl
/-- .. the side conditions as Bools. -/
theorem wp_region_inv' (S : Nat → Prop) (R : Nat → World → World → Prop) (big : Nat) {P : Program} {id : Nat} {ops : Array Oper} {Q : Exit → Act → World → Prop} {a : Act} {w : World} (dst : Nat → Tmp) (Φ : Nat → Value → World → Prop) (N : Nat) (hm : P.follows .mixedOrders = true)
    (hgd : (ops.toList.all fun o => o.guard.isNone) = true) (hac : ((List.range ops.size).all fun i => match ops[i]? with | some o => o.after.toList.all fun e => decide (e.on < i) | none => true) = true)
    (hinj : ((List.range ops.size).all fun j => (List.range ops.size).all fun k => decide (dst j = dst k → j = k)) = true) (hN : a.tmps.size = N) (hsz : ((List.range ops.size).all fun i => decide (dst i < N)) = true)
    (hR : ∀ i w w', R i w w' → Upd S w w' ∧ (i ≠ big → Ext w w')) (hΦ : ∀ i j v w w', i < ops.size → j < ops.size → i ≠ j → anc .any ops i ops.size j = false → Φ j v w → R i w w' → Φ j v w')
    (step : ∀ (i : Nat) (o : Oper) (b : Act) (w1 : World), ops[i]? = some o → Upd S w w1 → (∀ e ∈ o.after, Region.binds .any e = true → Φ e.on (b.tmps.getD (dst e.on) undef) w1) → (∀ t, (∀ (j : Nat) (oj : Oper), ops[j]? = some oj → dst j = t → j = i ∨ ∃ e ∈ oj.after, Region.binds .any e = true ∧ e.on = i) → b.tmps.getD t undef = a.tmps.getD t undef) → (i = big → Ext w w1) →
      o.wp P b w1 (fun b' w' => ∃ v, b' = b.put (some (dst i)) v ∧ Φ i v w' ∧ R i w1 w') Q)
    (fin : ∀ v w1, Upd S w w1 → (∀ i, i < ops.size → Φ i (v i) w1) → Q .normal (fillAll a dst v ops.size) w1) : (Code.region id ops true).wp P Q a w := by
  subst hN
  simp only [List.all_eq_true, List.mem_range, decide_eq_true_eq] at hinj hsz
  refine wp_region_inv S R big dst Φ hm (fun i o ho e he => ?_) (fun j k hj hk => hinj j hj k hk) (fun i hi => hsz i hi) hR hΦ (fun i o b w1 ho h1 h2 h3 h4 => ⟨?_, step i o b w1 ho h1 h2 h3 h4⟩) fin
  rotate_left
  · obtain ⟨h1, h2⟩ := Array.getElem?_eq_some_iff.1 ho
    rw [List.all_eq_true] at hgd
    have hn : o.guard = none := by simpa using hgd o (by rw [← h2]; simp)
    simp [Region.wanted, hn]
  · have hlt : i < ops.size := (Array.getElem?_eq_some_iff.1 ho).1
    rw [List.all_eq_true] at hac
    have := hac i (List.mem_range.2 hlt)
    rw [ho] at this
    simp only [List.all_eq_true, decide_eq_true_eq] at this
    exact this e (by simpa using he)
/-- .. with guards: each step shows besides that its operation is wanted. -/
theorem wp_region_invG (S : Nat → Prop) (R : Nat → World → World → Prop) (big : Nat) {P : Program} {id : Nat} {ops : Array Oper} {Q : Exit → Act → World → Prop} {a : Act} {w : World} (dst : Nat → Tmp) (Φ : Nat → Value → World → Prop) (N : Nat) (hm : P.follows .mixedOrders = true)
    (hac : ((List.range ops.size).all fun i => match ops[i]? with | some o => o.after.toList.all fun e => decide (e.on < i) | none => true) = true)
    (hinj : ((List.range ops.size).all fun j => (List.range ops.size).all fun k => decide (dst j = dst k → j = k)) = true) (hN : a.tmps.size = N) (hsz : ((List.range ops.size).all fun i => decide (dst i < N)) = true)
    (hR : ∀ i w w', R i w w' → Upd S w w' ∧ (i ≠ big → Ext w w')) (hΦ : ∀ i j v w w', i < ops.size → j < ops.size → i ≠ j → anc .any ops i ops.size j = false → Φ j v w → R i w w' → Φ j v w')
    (step : ∀ (i : Nat) (o : Oper) (b : Act) (w1 : World), ops[i]? = some o → Upd S w w1 → (∀ e ∈ o.after, Region.binds .any e = true → Φ e.on (b.tmps.getD (dst e.on) undef) w1) → (∀ t, (∀ (j : Nat) (oj : Oper), ops[j]? = some oj → dst j = t → j = i ∨ ∃ e ∈ oj.after, Region.binds .any e = true ∧ e.on = i) → b.tmps.getD t undef = a.tmps.getD t undef) → (i = big → Ext w w1) →
      Region.wanted o (yielded ops b.tmps) = true ∧ o.wp P b w1 (fun b' w' => ∃ v, b' = b.put (some (dst i)) v ∧ Φ i v w' ∧ R i w1 w') Q)
    (fin : ∀ v w1, Upd S w w1 → (∀ i, i < ops.size → Φ i (v i) w1) → Q .normal (fillAll a dst v ops.size) w1) : (Code.region id ops true).wp P Q a w := by
  subst hN
  simp only [List.all_eq_true, List.mem_range, decide_eq_true_eq] at hinj hsz
  refine wp_region_inv S R big dst Φ hm (fun i o ho e he => ?_) (fun j k hj hk => hinj j hj k hk) (fun i hi => hsz i hi) hR hΦ step fin
  have hlt : i < ops.size := (Array.getElem?_eq_some_iff.1 ho).1
  rw [List.all_eq_true] at hac
  have := hac i (List.mem_range.2 hlt)
  rw [ho] at this
  simp only [List.all_eq_true, decide_eq_true_eq] at this
  exact this e (by simpa using he)
end Go.Proofs.Ytlhpcgmbbeihiaa
namespace Go.Proofs.Ytlhpcgmbbeihiaa
open Go.RowKit

/-- What is read of zeros: ticks of process 0... one a byte. -/
theorem eventsF_zeros (k m : Nat) (r : List UInt8) : eventsF 1 (k + m) (List.replicate k 0 ++ r) = List.replicate k (Ev.zero 1 0) ++ eventsF 1 m r := by
  induction k with
  | zero => simp
  | succ k ih =>
    rw [show k + 1 + m = (k + m) + 1 from by omega, List.replicate_succ, List.cons_append, eventsF_cons _ _ _ (by simp)]
    have e : eventF 1 (0 :: (List.replicate k 0 ++ r)) = (Ev.zero 1 0, 1) := by
      unfold eventF; simp [hd]
    rw [e, List.replicate_succ, List.cons_append]
    simp only [List.drop_succ_cons, List.drop_zero, ih]
def lastEv : Ev := (eventF 1 [195]).1
theorem eventsF_last (m : Nat) : eventsF 1 (m + 1) [195] = [lastEv] := by
  rw [eventsF_cons _ _ _ (by simp)]
  have h : [(195 : UInt8)].drop (eventF 1 [195]).2 = [] := List.drop_eq_nil_of_le (by have := eventF_pos 1 [195]; simpa using this)
  rw [h, eventsF_nil]; rfl
theorem read_zeros : readF (List.replicate 65536 0) = (⟨1, 0, 16, 1⟩, List.replicate 65532 (Ev.zero 1 0)) := by
  have h1 : (List.replicate 65536 (0 : UInt8)).take 65536 = List.replicate 65536 0 := by rw [List.take_replicate]; rfl
  have h2 : (List.replicate 65536 (0 : UInt8)).drop 4 = List.replicate 65532 0 := by rw [List.drop_replicate]
  have h3 : ∀ k, hd (List.replicate k (0 : UInt8)) = 0 := fun k => by cases k <;> simp [hd, List.replicate_succ]
  have h4 := eventsF_zeros 65532 4 []
  rw [List.append_nil, eventsF_nil, List.append_nil] at h4
  rw [readF, h1, h2, List.length_replicate, h3]
  refine Prod.ext ?_ h4
  show cfgF _ = _
  rw [cfgF, h3, List.drop_replicate, h3, List.drop_replicate, h3, List.drop_replicate, h3]; rfl
def longL : List UInt8 := List.replicate 65535 0 ++ [195]
theorem longL_len : longL.length = 65536 := by rw [longL, List.length_append, List.length_replicate]; rfl
theorem drop_zeros (i k : Nat) (r : List UInt8) (h : i ≤ k) : (List.replicate k (0 : UInt8) ++ r).drop i = List.replicate (k - i) 0 ++ r := by
  rw [List.drop_append_of_le_length (by rw [List.length_replicate]; exact h), List.drop_replicate]
theorem hd_zeros (k : Nat) (r : List UInt8) (h : 0 < k) : hd (List.replicate k (0 : UInt8) ++ r) = 0 := by
  obtain ⟨j, rfl⟩ : ∃ j, k = j + 1 := ⟨k - 1, by omega⟩
  rw [List.replicate_succ]; simp [hd]
def longE : List Ev := List.replicate 65531 (Ev.zero 1 0) ++ [lastEv]
theorem longE_len : longE.length = 65532 := by rw [longE, List.length_append, List.length_replicate]; rfl
theorem read_long : readF longL = (⟨1, 0, 16, 1⟩, longE) := by
  have h1 : longL.take 65536 = longL := List.take_of_length_le (by rw [longL_len]; exact Nat.le_refl _)
  have h4 := eventsF_zeros 65531 5 [195]
  rw [eventsF_last] at h4
  rw [readF, h1, longL_len]
  unfold longL
  rw [hd_zeros _ _ (by decide), drop_zeros 4 _ _ (by decide)]
  refine Prod.ext ?_ h4
  show cfgF _ = _
  rw [cfgF, hd_zeros _ _ (by decide), drop_zeros 1 _ _ (by decide), hd_zeros _ _ (by decide), drop_zeros 2 _ _ (by decide), hd_zeros _ _ (by decide), drop_zeros 3 _ _ (by decide), hd_zeros _ _ (by decide)]; rfl
theorem longE_mem {x : Ev} (h : x ∈ longE) : x = Ev.zero 1 0 ∨ x = lastEv := by
  rw [longE, List.mem_append] at h
  rcases h with h | h
  · exact .inl (List.eq_of_mem_replicate h)
  · exact .inr (by simpa using h)
theorem fold_zeros (k : Nat) (b : List UInt8) : (List.replicate k (Ev.zero 1 0)).foldl (eventW 1) (b, false) = (b ++ List.replicate k 0, false) := by
  induction k generalizing b with
  | zero => simp
  | succ k ih =>
    have e : eventW 1 (b, false) (Ev.zero 1 0) = (b ++ [0], false) := by
      obtain ⟨e, r1, r2, r3⟩ := event_rt 1 (by decide) (by decide) [0] b
      have h0 : eventF 1 [0] = (Ev.zero 1 0, 1) := by unfold eventF; simp [hd]
      rw [h0] at r1 r2 r3
      simp [eventW, Ev.zero, putF, blankOf, toByte]
    rw [List.replicate_succ, List.foldl_cons, e, ih, List.append_assoc]
    rfl
theorem write_cfg (l : List Ev) : writeF ⟨1, 0, 16, 1⟩ l = l.foldl (eventW 1) ([0, 0, 0, 0], false) := by
  unfold writeF; congr 1
theorem write_long : (writeF ⟨1, 0, 16, 1⟩ longE).2 = false ∧ 65536 < (writeF ⟨1, 0, 16, 1⟩ longE).1.length := by
  have h := write_cfg longE
  obtain ⟨e, r1, r2, -⟩ := event_rt 1 (by decide) (by decide) [195] ([0, 0, 0, 0] ++ List.replicate 65531 0)
  rw [h, longE, List.foldl_append, fold_zeros, List.foldl_cons, List.foldl_nil]
  have r1' : eventW 1 ([0, 0, 0, 0] ++ List.replicate 65531 0, false) lastEv = _ := r1
  rw [r1']
  have h2 : 2 ≤ (eventF 1 [195]).2 := by unfold eventF; simp [hd]
  refine ⟨rfl, ?_⟩
  show 65536 < (_ ++ _ ++ e).length
  rw [List.length_append, List.length_append, List.length_replicate, r2]
  show 65536 < 4 + 65531 + _
  omega

def longZ : List UInt8 := List.replicate 65540 0
def zerosE : List Ev := List.replicate 65532 (Ev.zero 1 0)
theorem longZ_len : longZ.length = 65540 := List.length_replicate
theorem zerosE_len : zerosE.length = 65532 := List.length_replicate
theorem longZ_take : (longZ.take 65536).length = 65536 := by rw [List.length_take, longZ_len]; rfl
theorem read_longZ : readF (longZ.take 65536) = (⟨1, 0, 16, 1⟩, zerosE) := by
  rw [show longZ.take 65536 = List.replicate 65536 0 from by rw [longZ, List.take_replicate]; rfl, read_zeros]; rfl
theorem set_zeros (k m : Nat) (c : UInt8) : ((List.replicate (k + 1 + m) 0).set k c).take (k + 1) = List.replicate k 0 ++ [c] := by
  induction k with
  | zero => rw [show 0 + 1 + m = m + 1 from by omega, List.replicate_succ]; simp
  | succ k ih => rw [show k + 1 + 1 + m = (k + 1 + m) + 1 from by omega, List.replicate_succ, List.set_cons_succ, List.take_succ_cons, ih, List.replicate_succ]; rfl
def longS : List UInt8 := longZ.set 65535 195
theorem longS_len : longS.length = 65540 := by rw [longS, List.length_set, longZ_len]
theorem longS_take : longS.take 65536 = longL := by
  have h := set_zeros 65535 4 195
  rw [longS, longZ, longL]; exact h
theorem long_made (w : World) : ∃ w', Sem.run Try.prog (Instr.makeSlice 22 (.int .i64 65540) (.int .i64 65540)) w = .ok (.slice (some ⟨w.heap.size, 0, none⟩) 65540 65540) w' ∧
    w'.ownsRow w.heap.size 5 1 (.slice (some ⟨w.heap.size, 0, none⟩) 65540 65540) 65540 (longZ.map u8) ∧ Ext w w' := by
  have hz : (Try.prog.info? 5).map (fun i => (i.zero, i.size, i.bytes)) = some (some (.int .u8 0), 1, 1) := by kernel_rfl
  obtain ⟨i, hi, hq⟩ := Option.map_eq_some_iff.1 hz
  simp only [Prod.mk.injEq] at hq
  obtain ⟨w', h1, h2, h3⟩ := run_makeSlice_full (P := Try.prog) w w.heap.size 22 5 i (.int .u8 0) 1 Try.underlying22 hi hq.1 hq.2.1 .i64 .i64 65540 (by decide) (by rw [hq.2.2]; decide) (by unfold maxLen; decide) (Nat.le_refl _)
  refine ⟨w', h1, ?_, (Upd.refl _ _).grown h3 fun k e => by cases e⟩
  have e : (madeCells (Value.int .u8 0).cells (65540 * 1)).toList = longZ.map u8 := by
    rw [show (Value.int .u8 0).cells = #[Value.int .u8 0] from rfl, toList_madeCells_one, longZ, List.map_replicate, Nat.mul_one]; rfl
  rw [← e]; exact h2

set_option maxRecDepth 100000 in
set_option maxHeartbeats 1000000 in
theorem read_far {S : Nat → Prop} (w : World) (a : Option Addr) (n0 c : Nat) (l : List UInt8) (hb : Bytes S w (.slice a l.length c) l) (_hn0 : n0 ≤ c) (h1 : l.length ≤ c) (_h2 : c ≤ 9223372036854775807) (hmin0 : min (n0 : Int) 65536 = (l.length : Int)) (hl : l.length ≤ 65536) (hS : ∀ k, S k → k < w.heap.size) :
    Calls Try.prog 10 #[.slice a n0 c] w fun e w' => ∃ v', e = .returned (.tuple #[.agg (cfgCells (readF l).1), v']) ∧ EvsOwn w.heap.size w' v' (readF l).2 ∧ Ext w w' := by
  have HB := Lib.hid hb
  clear hb
  obtain ⟨wa, hwa⟩ : ∃ wa, wa = w.alloc (.cells (cfgCells ⟨0, 0, 0, 0⟩) 31) := ⟨_, rfl⟩
  have hsa : wa.heap.size = w.heap.size + 1 := by rw [hwa]; simp
  have hua : Ext w wa := by rw [hwa]; exact (Upd.refl _ _).alloc _
  have hrba : wa.heap[w.heap.size]? = some (.cells (cfgCells ⟨0, 0, 0, 0⟩) 31 (0, 0)) := by rw [hwa]; exact newAt _ _
  have hr0 : Reader w.heap.size (wa.alloc (.cells #[.slice a l.length c] 70)) (w.heap.size + 1) l :=
    ⟨by omega, _, by rw [← hsa]; exact newAt _ _, ((HB.out.ext hua).ext ((Upd.refl _ _).alloc _)).mono hS⟩
  have hrb0 := ((Upd.refl Nothing wa).alloc (.cells #[.slice a l.length c] 70)).at_ hrba (fun e => e)
  have hu00 : Ext w (wa.alloc (.cells #[.slice a l.length c] 70)) := hua.alloc _
  go_enter Try.func10, Try.ntmps10
  go_wp2_with fail
  go_step3
  go_wp2_with (go_at_call 26; fail)
  rw [show w.alloc (Obj.cells #[Value.int IntKind.i64 0, Value.int IntKind.u64 0, Value.int IntKind.i64 0, Value.int IntKind.i64 0] 31) = wa from hwa.symm]
  have HWA := Lib.hid hwa
  have HSA := Lib.hid hsa
  clear hwa hsa
  obtain ⟨r, hrr⟩ : ∃ r, r = w.heap.size + 1 := ⟨_, rfl⟩
  rw [← hrr] at hr0 ⊢
  have hwr : w.heap.size < r := by omega
  have HRR := Lib.hid hrr
  clear hrr
  refine (next_c _ r _ hr0).mono ?_
  rintro e w1 ⟨c1, l1, rfl, hc1, HC1, HL1, hu1, hr1, hlt1⟩
  have hrb1 := hu1.at_ hrb0 (fun e => by unfold At at e; omega)
  go_wp2_with (go_at_call 26; fail)
  refine (next_c _ r _ hr1).mono ?_
  rintro e w2 ⟨c2, l2, rfl, hc2, HC2, HL2, hu2, hr2, hlt2⟩
  have hrb2 := hu2.at_ hrb1 (fun e => by unfold At at e; omega)
  go_wp2_with (go_at_call 26; fail)
  refine (next_c _ r _ hr2).mono ?_
  rintro e w3 ⟨c3, l3, rfl, hc3, HC3, HL3, hu3, hr3, hlt3⟩
  have hrb3 := hu3.at_ hrb2 (fun e => by unfold At at e; omega)
  go_wp2_with (go_at_call 26; fail)
  refine (next_c _ r _ hr3).mono ?_
  rintro e w4 ⟨c4, l4, rfl, hc4, HC4, HL4, hu4, hr4, hlt4⟩
  have hrb4 := hu4.at_ hrb3 (fun e => by unfold At at e; omega)
  have hu04 : Ext w w4 := ((((hu00.step (T := At r) hu1 (fun i hi e => by unfold At at e; omega)).step hu2 (fun i hi e => by unfold At at e; omega)).step hu3 (fun i hi e => by unfold At at e; omega)).step hu4 (fun i hi e => by unfold At at e; omega))
  clear hrb0 hrb1 hrb2 hrb3 hrba hr0 hr1 hr2 hr3
  obtain ⟨n, hn⟩ : ∃ n, n = 1 + c1 % 64 := ⟨_, rfl⟩
  have HRD := Lib.hid (readF_eq hl HC1.out HL1.out HC2.out HL2.out HC3.out HL3.out HC4.out HL4.out hn)
  have hn1 : 1 ≤ n := by omega
  have hn2 : n ≤ 64 := by omega
  have hni : (1 : Int) + (c1 : Int) % 64 = (n : Int) := by omega
  have hbc := newAt w4 (.cells (cfgCells ⟨(n : Int), c2, 16 * (1 + (c3 : Int)), 1 + (c4 : Int)⟩) 31)
  have hrb5 := ((Upd.refl Nothing w4).alloc (.cells (cfgCells ⟨(n : Int), c2, 16 * (1 + (c3 : Int)), 1 + (c4 : Int)⟩) 31)).at_ hrb4 (fun e => e)
  have hr5 := hr4.alloc (.cells (cfgCells ⟨(n : Int), c2, 16 * (1 + (c3 : Int)), 1 + (c4 : Int)⟩) 31)
  have hu05 := hu04.alloc (.cells (cfgCells ⟨(n : Int), c2, 16 * (1 + (c3 : Int)), 1 + (c4 : Int)⟩) 31)
  have hN := Lib.hid hn
  clear hn
  rw [hni]
  clear hni HC1
  go_wp2_with fail
  go_step3
  go_wp2_with fail
  go_loopw [6] (fun v wr => ∃ (dn : List Ev) (rest : List UInt8) (m : Nat), eventsF n l.length l4 = dn ++ eventsF n m rest ∧ rest.length ≤ m ∧ dn.length + m = l.length ∧ Ext w wr ∧ Reader w.heap.size wr r rest ∧
      wr.heap[w4.heap.size]? = some (.cells (cfgCells ⟨(n : Int), c2, 16 * (1 + (c3 : Int)), 1 + (c4 : Int)⟩) 31 (0, 0)) ∧ wr.heap[w.heap.size]? = some (.cells (cfgCells ⟨0, 0, 0, 0⟩) 31 (0, 0)) ∧ EvsOwn w.heap.size wr v dn)
    (fun _ wr => leftOf wr r)
  case atStart => exact ⟨[], l4, l.length, rfl, by rw [HL4.out, HL3.out, HL2.out, HL1.out]; simp, by simp, hu05, hr5, hbc, hrb5, [], rfl, World.ownsRow_nil _ _ _ _, fun i cs e h => by simp at h⟩
  case round =>
    obtain ⟨dn, rest, m, he, hrm, hdm, hu, hr, hbcr, hrbr, css, hcl, hown, hev⟩ := hrel
    have HR := Lib.hid hr
    obtain ⟨hB0, vv, hrr, ar, cr, rfl, -⟩ := hr
    have hrc := cell_of_one hrr
    have hlr := lt_of_heap hrr
    have HE := Lib.hid he
    have HREL := Lib.hid hrr
    have HEV := Lib.hid hev
    have HCL := Lib.hid hcl
    clear he hrr hev hcl
    have hbl := lt_of_heap hbcr
    cases rest with
    | nil =>
      have hus := Upd.row wr w.heap.size (cfgCells ⟨(n : Int), c2, 16 * (1 + (c3 : Int)), 1 + (c4 : Int)⟩)
      obtain ⟨va, vn, vc, rfl⟩ := ownsForm hown
      go_wp2_with (first | (refine wpList_load_blk rfl _ _ rfl rfl hbcr (Try.cfgT _) ?_) | (refine wpList_store_blk rfl _ _ _ rfl rfl (cells := cfgCells ⟨(n : Int), c2, 16 * (1 + (c3 : Int)), 1 + (c4 : Int)⟩) rfl hrbr (Try.cfgT _) rfl (cfgCells_one _) ?_))
      rw [Exit.noGoto_ret]
      refine bodyPost_blk2 rfl rfl rfl (setRow_heap _ _ _ _ _ _ hrbr) (Try.cfgT _) ?_
      refine ⟨_, by rw [HRD.out], ⟨css, ?_, ?_, ?_⟩, hu.step hus (fun i hi e => by unfold At at e; omega)⟩
      · rw [HRD.out]; show css.length = (eventsF n l.length l4).length; rw [HE.out, eventsF_nil, List.append_nil, HCL.out]
      · rw [HRD.out]; show World.ownsRow _ _ _ _ _ (eventsF n l.length l4).length _; rw [HE.out, eventsF_nil, List.append_nil]
        exact hus.ownsT hown (fun k cur hk => by cases hk; exact tag_ne hrbr (by decide))
      · rw [HRD.out]; show ∀ (i : Nat) (cs : List Value) (e : Ev), css[i]? = some cs → (eventsF n l.length l4)[i]? = some e → _
        rw [HE.out, eventsF_nil, List.append_nil]
        exact fun i cs e h1 h2 => (HEV.out i cs e h1 h2).upd hus (fun k cur hk => by cases hk; exact ⟨tag_ne hrbr (by decide), tag_ne hrbr (by decide)⟩)
    | cons x xs =>
      have hne : ((xs.length : Int) + 1 == 0) = false := by rw [beq_eq_false_iff_ne]; omega
      have hbn := cellAt hbcr 0 (.int .i64 (n : Int)) rfl
      go_wp2_with (go_at_call 27; fail)
      refine (event_any _ r n _ hn1 hn2 HR.out).mono ?_
      rintro e w5 ⟨ve, vk, rfl, hu5, hr5', ho1, ho2, -⟩
      obtain ⟨ea, en, ec, rfl⟩ := ownsForm ho1
      obtain ⟨ka, kn, kc, rfl⟩ := ownsForm ho2
      obtain ⟨m', rfl⟩ : ∃ m', m = m' + 1 := ⟨m - 1, by simp only [List.length_cons] at hrm; omega⟩
      have hcons := HE.out
      rw [eventsF_cons _ _ _ (by simp)] at hcons
      have hpos := eventF_pos n (x :: xs)
      obtain ⟨ev, hevq⟩ : ∃ ev, ev = (eventF n (x :: xs)).1 := ⟨_, rfl⟩
      obtain ⟨kk, hkk⟩ : ∃ kk, kk = (eventF n (x :: xs)).2 := ⟨_, rfl⟩
      rw [← hevq] at ho1 ho2 hcons ⊢
      rw [← hkk] at hr5' hcons hpos
      have HC := Lib.hid hcons
      clear hcons hevq hkk hbn hrc
      have hT : ∀ e, 70 ≠ e → ∀ k cur, At r k → wr.heap[k]? ≠ some (.cells cur e (0, 0)) := fun e he k cur hk => by cases hk; exact tag_ne HREL.out he
      have hown5 := hu5.ownsT hown (hT _ (by decide))
      have hev5 : ∀ (i : Nat) (cs : List Value) (e : Ev), css[i]? = some cs → dn[i]? = some e → EvOwn w.heap.size w5 cs e := fun i cs e h1 h2 => (HEV.out i cs e h1 h2).upd hu5 (fun k cur hk => ⟨hT _ (by decide) k cur hk, hT _ (by decide) k cur hk⟩)
      have hbc5 := hu5.at_ hbcr (fun e => by unfold At at e; omega)
      have hrb5 := hu5.at_ hrbr (fun e => by unfold At at e; omega)
      have hus := hu.size
      have ho1' := ho1.mono_base hus
      have ho2' := ho2.mono_base hus
      have HT5 := Lib.hid hT
      have HEV5 := Lib.hid hev5
      have hlr5 := hr5'.lt
      have hx5 : Ext w w5 := hu.step hu5 (fun i hi e => by unfold At at e; omega)
      have hsz5 := hu5.size
      clear hT hev5 hbcr hrbr ho1 ho2 hown hu
      unfold evCells
      go_wp2_with (at_builtin; go_must (refine wpList_append_row rfl _ _ _ rfl Try.eventsT rfl (hown5.alloc _) rfl (row_new _ _ _ 1 _ (by decide) (by simp)) rfl (evCells_ones ev ea ka en ec kn kc) ?k3 ?k4 ?k5 ?_))
      case k3 => unfold maxLen; omega
      case k4 => omega
      case k5 => have := hx5.size; simp; omega
      intro v' w6 hown6 hg _
      have hub : ∀ k, u6.ownBlock = some k → k ≠ w4.heap.size ∧ r < k := fun k hk => by
        obtain ⟨c0, h0⟩ := owns_tag hown5 hk
        have hlo := (hown5.lt k hk).1
        obtain ⟨_, _, hr0, _⟩ := hr5'
        have n1 : k ≠ r := fun e => by subst e; exact tag_ne hr0 (by decide) h0
        have n2 : k ≠ w.heap.size := fun e => by subst e; exact tag_ne hrb5 (by decide) h0
        have n3 : k ≠ w4.heap.size := fun e => by subst e; exact tag_ne hbc5 (by decide) h0
        have := HRR.out
        exact ⟨n3, by omega⟩
      have hr6 : Reader w.heap.size w6 r ((x :: xs).drop kk) := (hr5'.alloc _).upd (grownUpd hg) (fun k hk => (hub k hk).2)
      have HUB := Lib.hid hub
      have HR6 := Lib.hid hr6
      clear hub hr6
      go_wp2
      go_roundw
      case rel =>
        refine ⟨dn ++ [ev], (x :: xs).drop kk, m', ?_, ?_, ?_, ?_, HR6.out, ?_, ?_, ?_⟩
        · rw [HC.out]; simp
        · rw [List.length_drop]; simp only [List.length_cons] at hrm ⊢; omega
        · simp; omega
        · exact (hx5.alloc _).grown hg (fun j hj h => by have := (hown5.lt j hj).1; omega)
        · exact (grownUpd hg).at_ (((Upd.refl Nothing w5).alloc _).at_ hbc5 (fun e => e)) (fun e => (HUB.out _ e).1 rfl)
        · exact (grownUpd hg).at_ (((Upd.refl Nothing w5).alloc _).at_ hrb5 (fun e => e)) (fun e => by have := (HUB.out _ e).2; omega)
        · exact EvsOwn.snoc HCL.out HEV5.out ho1' ho2' hown5 hown6 hg
      case measure =>
        rw [leftOf_reader HR6.out, leftOf_reader HR.out, List.length_drop]; simp only [List.length_cons]; omega

end Go.Proofs.Ytlhpcgmbbeihiaa
