/-
  A REGION THAT DRAWS ITS ORDER, BY ONE INVARIANT OF ALL: what is listed, what it yielded, and the world. No program in sight.
-/
import Derived.Test.YtfpioijfocmfcaaGreatDoorNInv
namespace Go.Proofs.YtfpioijfocmfcaaGreatDoor
open Go.RowKit

def mrkL (L : Nat → Bool) (i : Nat) : Nat → Bool := fun k => if k = i then true else L k
def mrkV (v : Nat → Value) (i : Nat) (x : Value) : Nat → Value := fun k => if k = i then x else v k
theorem getD_mrkL {l : Array Bool} {i : Nat} (h : i < l.size) : (fun k => (l.setIfInBounds i true).getD k false) = mrkL (fun k => l.getD k false) i := by
  funext k
  by_cases hk : k = i
  · subst hk; rw [getD_set_eq' h]; simp [mrkL]
  · rw [getD_set_ne false (fun e => hk e.symm)]; simp [mrkL, hk]
theorem wp_region_K {P : Program} {id : Nat} {ops : Array Oper} {Q : Exit → Act → World → Prop} {a : Act} {w : World} (dst : Nat → Tmp) (N : Nat) (J : (Nat → Bool) → (Nat → Value) → World → Prop) (hm : P.follows .mixedOrders = true)
    (hac : ((List.range ops.size).all fun i => match ops[i]? with | some o => o.after.toList.all fun e => !(Region.binds .any e) || decide (e.on < i) | none => true) = true)
    (hinj : ((List.range ops.size).all fun j => (List.range ops.size).all fun k => decide (dst j = dst k → j = k)) = true) (hN : a.tmps.size = N)
    (h0 : ∀ w0, Ext w w0 → w0.heap = w.heap → J (fun _ => false) (fun _ => undef) w0)
    (step : ∀ (i : Nat) (o : Oper) (b : Act) (L : Nat → Bool) (v : Nat → Value) (w1 : World), ops[i]? = some o → L i = false → (∀ e ∈ o.after, Region.binds .any e = true → L e.on = true) →
      (∀ j, j < ops.size → L j = true → dst j < N → b.tmps.getD (dst j) undef = v j) → (∀ t, (∀ j, j < ops.size → L j = true → dst j ≠ t) → b.tmps.getD t undef = a.tmps.getD t undef) → b.tmps.size = N → J L v w1 →
      (Region.wanted o (yielded ops b.tmps) = true ∧ o.wp P b w1 (fun b' w' => ∃ x, b' = b.put (some (dst i)) x ∧ J (mrkL L i) (mrkV v i x) w') Q) ∨ (Region.wanted o (yielded ops b.tmps) = false ∧ o.dst = some (dst i) ∧ J (mrkL L i) (mrkV v i undef) w1))
    (fin : ∀ L v w1, (∀ i, i < ops.size → L i = true) → J L v w1 → Q .normal (fillAll a dst v ops.size) w1) : (Code.region id ops true).wp P Q a w := by
  subst hN
  simp only [List.all_eq_true, List.mem_range, decide_eq_true_eq] at hinj
  have hacc : ∀ (i : Nat) (o : Oper), ops[i]? = some o → ∀ e ∈ o.after, Region.binds .any e = true → e.on < i := by
    intro i o ho e he hb
    have hlt : i < ops.size := (Array.getElem?_eq_some_iff.1 ho).1
    rw [List.all_eq_true] at hac
    have := hac i (List.mem_range.2 hlt)
    rw [ho] at this
    simp only [List.all_eq_true] at this
    have := this e (by simpa using he)
    rw [hb] at this
    simpa using this
  have done : ∀ (listed : Array Bool) (v : Nat → Value) (w1 : World), listed.size = ops.size → J (fun k => listed.getD k false) v w1 → Region.ready .any ops listed = [] → Q .normal (fillN a dst listed v ops.size) w1 := by
    intro listed v w1 hs hJ hr
    have hall := fun i hi => all_listedB hs hacc hr ops.size i hi hi
    rw [fillN_all _ hall]
    exact fin _ v w1 hall hJ
  have main : ∀ (fuel : Nat) (listed : Array Bool) (v : Nat → Value) (w1 : World), leftN listed ops.size ≤ fuel → listed.size = ops.size → J (fun k => listed.getD k false) v w1 → wpAny P .any ops Q fuel listed (fillN a dst listed v ops.size) w1 := by
    intro fuel
    induction fuel with
    | zero =>
      intro listed v w1 hl hs hJ
      have hall := leftN_zero (l := listed) ops.size (by omega)
      have hr : Region.ready .any ops listed = [] := by
        rw [List.eq_nil_iff_forall_not_mem]
        intro i hi
        obtain ⟨hh, o, ho, -⟩ := mem_ready.1 hi
        have hlt : i < ops.size := (Array.getElem?_eq_some_iff.1 ho).1
        rw [getD_flip (by omega), hall i hlt] at hh; cases hh
      exact ⟨hr, done _ _ _ hs hJ hr⟩
    | succ fuel ih =>
      intro listed v w1 hl hs hJ
      refine ⟨done _ _ _ hs hJ, fun i hi => ?_⟩
      obtain ⟨hh, o, ho, hall⟩ := mem_ready.1 hi
      have hlt : i < ops.size := (Array.getElem?_eq_some_iff.1 ho).1
      rw [getD_flip (by omega)] at hh
      have hw := step i o (fillN a dst listed v ops.size) (fun k => listed.getD k false) v w1 ho hh (fun e he hb => hall e he hb) (fun j hj hlj hd => (fillN_at hlj hd ops.size (fun j k hj hk => hinj j hj k hk) hj).1) (fun t ht => fillN_other ops.size fun j hj hl => ht j hj hl) (fillN_size _) hJ
      have fin2 : ∀ x w', J (mrkL (fun k => listed.getD k false) i) (mrkV v i x) w' → wpAny P .any ops Q fuel (listed.setIfInBounds i true) ((fillN a dst listed v ops.size).put (some (dst i)) x) w' := by
        intro x w' hJ'
        have hp2 := (fillN_put (a := a) (v := v) x hh ops.size (fun j hj hne he => hne (hinj j hj i hlt he)) (by omega)).1 hlt
        rw [hp2]
        refine ih _ _ _ (by have := (leftN_set hh (show i < listed.size by omega) ops.size).1 hlt; omega) (by simp [hs]) ?_
        rw [getD_mrkL (by omega)]
        exact hJ'
      unfold wpOp
      rw [ho]
      rcases hw with hw | hw
      · simp only [hw.1, if_true]
        refine .inl (Oper.wp_mono ?_ hw.2)
        rintro b' w' ⟨x, rfl, hJ'⟩
        exact fin2 x w' hJ'
      · simp only [hw.1]
        rw [if_neg (by decide), hw.2.1]
        exact fin2 undef w1 hw.2.2
  have hx : Ext w { w with drawn := w.drawn + 1 } := ⟨rfl, rfl, rfl, Nat.le_refl _, fun _ _ _ => rfl⟩
  have hn : fillN a dst (Array.replicate ops.size false) (fun _ => undef) ops.size = a := fillN_none _ (fun i hi => by simp [hi])
  refine wp_region_any hm ?_
  have := main ops.size (Array.replicate ops.size false) (fun _ => undef) { w with drawn := w.drawn + 1 } (leftN_le _) (by simp) (by
    rw [show (fun k => (Array.replicate ops.size false).getD k false) = fun _ => false from by funext k; simp [Array.getD]]
    exact h0 _ hx rfl)
  rw [hn] at this
  exact this
theorem wp_region_J {P : Program} {id : Nat} {ops : Array Oper} {Q : Exit → Act → World → Prop} {a : Act} {w : World} (dst : Nat → Tmp) (N : Nat) (J : (Nat → Bool) → (Nat → Value) → World → Prop) (hm : P.follows .mixedOrders = true)
    (hac : ((List.range ops.size).all fun i => match ops[i]? with | some o => o.after.toList.all fun e => !(Region.binds .any e) || decide (e.on < i) | none => true) = true)
    (hinj : ((List.range ops.size).all fun j => (List.range ops.size).all fun k => decide (dst j = dst k → j = k)) = true) (hN : a.tmps.size = N)
    (h0 : ∀ w0, Ext w w0 → w0.heap = w.heap → J (fun _ => false) (fun _ => undef) w0)
    (step : ∀ (i : Nat) (o : Oper) (b : Act) (L : Nat → Bool) (v : Nat → Value) (w1 : World), ops[i]? = some o → L i = false → (∀ e ∈ o.after, Region.binds .any e = true → L e.on = true) →
      (∀ j, j < ops.size → L j = true → dst j < N → b.tmps.getD (dst j) undef = v j) → (∀ t, (∀ j, j < ops.size → dst j ≠ t) → b.tmps.getD t undef = a.tmps.getD t undef) → b.tmps.size = N → J L v w1 →
      (Region.wanted o (yielded ops b.tmps) = true ∧ o.wp P b w1 (fun b' w' => ∃ x, b' = b.put (some (dst i)) x ∧ J (mrkL L i) (mrkV v i x) w') Q) ∨ (Region.wanted o (yielded ops b.tmps) = false ∧ o.dst = some (dst i) ∧ J (mrkL L i) (mrkV v i undef) w1))
    (fin : ∀ L v w1, (∀ i, i < ops.size → L i = true) → J L v w1 → Q .normal (fillAll a dst v ops.size) w1) : (Code.region id ops true).wp P Q a w :=
  wp_region_K dst N J hm hac hinj hN h0 (fun i o b L v w1 p1 p2 p3 p4 p5 p6 p7 => step i o b L v w1 p1 p2 p3 p4 (fun t ht => p5 t fun j hj _ => ht j hj) p6 p7) fin
end Go.Proofs.YtfpioijfocmfcaaGreatDoor
