/-
  A REGION THAT DRAWS ITS ORDER, BY AN INVARIANT: each operation is shown once, in whatever order it comes up: what it yields meets its own clause, which stays when nothing old turns. No program in sight. (Chapter 29's GFar has the same.)
  PLAIN NAMES: how a Name is written, how a text is read as one, and that each undoes the other. No program in sight; no condition.
-/
import Derived.Test.YtnkmpoplibnflaaGreatDoorGAA
import Derived.Deep.RegionHeld3
import Derived.BigQuiet
import Derived.Laws.OwnMore
import Derived.Lib.ItoaNum
import Derived.Lib.ParseIntBCases
import Derived.Lib.Split
import Derived.Lib.Join
set_option maxRecDepth 100000
set_option maxHeartbeats 16000000
namespace Go.Proofs.YtnkmpoplibnflaaGreatDoor
open Go.RowKit
def fillN (a : Act) (dst : Nat -> Tmp) (listed : Array Bool) (v : Nat -> Value) : Nat -> Act
 | 0 => a
 | n + 1 => if listed.getD n false then (fillN a dst listed v n).put (some (dst n)) (v n) else fillN a dst listed v n
def fillAll (a : Act) (dst : Nat -> Tmp) (v : Nat -> Value) : Nat -> Act
 | 0 => a
 | n + 1 => (fillAll a dst v n).put (some (dst n)) (v n)
theorem fillN_all {a : Act} {dst : Nat -> Tmp} {l : Array Bool} {v : Nat -> Value} : ∀ n, (∀ i, i < n -> l.getD i false = true) -> fillN a dst l v n = fillAll a dst v n
 | 0, _ => rfl
 | n + 1, h => by unfold fillN fillAll; rw [if_pos (h n (by omega)), fillN_all n (fun i hi => h i (by omega))]
theorem fillN_none {a : Act} {dst : Nat -> Tmp} {l : Array Bool} {v : Nat -> Value} : ∀ n, (∀ i, i < n -> l.getD i false = false) -> fillN a dst l v n = a
 | 0, _ => rfl
 | n + 1, h => by unfold fillN; rw [if_neg (by rw [h n (by omega)]; decide), fillN_none n (fun i hi => h i (by omega))]
theorem getD_set_eq' {l : Array Bool} {i : Nat} (h : i < l.size) : (l.setIfInBounds i true).getD i false = true := by
 simp [Array.getD, h]
theorem fillN_put {a : Act} {dst : Nat -> Tmp} {l : Array Bool} {v : Nat -> Value} {i : Nat} (x : Value) (hl : l.getD i false = false) : ∀ n, (∀ j, j < n -> j ≠ i -> dst j ≠ dst i) -> i < l.size →
  (i < n -> (fillN a dst l v n).put (some (dst i)) x = fillN a dst (l.setIfInBounds i true) (fun j => if j = i then x else v j) n) /\ (n <= i -> fillN a dst l v n = fillN a dst (l.setIfInBounds i true) (fun j => if j = i then x else v j) n)
 | 0, _, _ => ⟨fun h => absurd h (Nat.not_lt_zero _), fun _ => rfl⟩
 | n + 1, hd, hs => by
  obtain ⟨ih1, ih2⟩ := fillN_put (a := a) (v := v) x hl n (fun j hj => hd j (by omega)) hs
  refine ⟨fun hi => ?_, fun hi => ?_⟩
  ·by_cases hn : n = i
   ·subst hn
    have h2 := ih2 (Nat.le_refl _)
    simp only [fillN]
    rw [hl, if_neg (by decide), h2, getD_set_eq' hs, if_pos rfl]
    simp
   ·have h1 := ih1 (by omega)
    simp only [fillN]
    rw [getD_set_ne false (fun e => hn e.symm), if_neg hn]
    split
    ·rw [Act.put_comm _ _ _ (fun d hq e => hd n (by omega) hn (Option.some.inj (hq.trans e.symm))), h1]
    ·exact h1
  ·simp only [fillN]
   rw [getD_set_ne false (show i ≠ n by omega), if_neg (show ¬ n = i by omega), ih2 (by omega)]
def InvN (S : Nat -> Prop) (big : Nat) (md : Region.Mode) (ops : Array Oper) (a : Act) (w0 : World) (dst : Nat -> Tmp) (Φ : Nat -> Value -> World -> Prop) (listed : Array Bool) (b : Act) (w : World) : Prop :=
 ∃ v : Nat -> Value, listed.size = ops.size /\ b = fillN a dst listed v ops.size /\ Upd S w0 w /\ (listed.getD big false = false -> Ext w0 w) /\ (∀ i, i < ops.size -> listed.getD i false = true -> Φ i (v i) w) /\ ∀ (i : Nat) (o : Oper), ops[i]? = some o -> listed.getD i false = true -> ∀ e ∈ o.after, Region.binds md e = true -> listed.getD e.on false = true
theorem fillN_at {a : Act} {dst : Nat -> Tmp} {l : Array Bool} {v : Nat -> Value} {i : Nat} (hl : l.getD i false = true) (hs : dst i < a.tmps.size) : ∀ n, (∀ j k, j < n -> k < n -> dst j = dst k -> j = k) -> i < n -> (fillN a dst l v n).tmps.getD (dst i) undef = v i /\ (fillN a dst l v n).tmps.size = a.tmps.size := by
 have size : ∀ n, (fillN a dst l v n).tmps.size = a.tmps.size := by
  intro n
  induction n with
  | zero => rfl
  | succ n ih => unfold fillN; split <;> simp [Act.put, ih]
 intro n
 induction n with
 | zero => intro _ h; exact absurd h (Nat.not_lt_zero _)
 | succ n ih =>
  intro hd hi
  refine ⟨?_, size _⟩
  by_cases hn : n = i
  ·subst hn
   unfold fillN
   rw [if_pos hl]
   have h1 : dst n < (fillN a dst l v n).tmps.size := by rw [size]; exact hs
   simp [Act.put, h1]
  ·have h2 := (ih (fun j k hj hk => hd j k (by omega) (by omega)) (by omega)).1
   unfold fillN
   split
   ·have hne : dst n ≠ dst i := fun e => hn (hd n i (by omega) (by omega) e)
    simpa [Act.put, Array.getElem?_setIfInBounds_ne hne] using h2
   ·exact h2
def leftN (l : Array Bool) : Nat -> Nat
 | 0 => 0
 | n + 1 => leftN l n + if l.getD n false then 0 else 1
theorem leftN_set {l : Array Bool} {i : Nat} (hl : l.getD i false = false) (hs : i < l.size) : ∀ n, (i < n -> leftN (l.setIfInBounds i true) n + 1 = leftN l n) /\ (n <= i -> leftN (l.setIfInBounds i true) n = leftN l n)
 | 0 => ⟨fun h => absurd h (Nat.not_lt_zero _), fun _ => rfl⟩
 | n + 1 => by
  obtain ⟨h1, h2⟩ := leftN_set hl hs n
  refine ⟨fun hi => ?_, fun hi => ?_⟩
  ·by_cases hn : n = i
   ·subst hn
    have := h2 (Nat.le_refl _)
    simp only [leftN]
    rw [getD_set_eq' hs, hl, this]; simp
   ·have := h1 (by omega)
    simp only [leftN]
    rw [getD_set_ne false (fun e => hn e.symm)]; omega
  ·simp only [leftN]
   rw [getD_set_ne false (show i ≠ n by omega), h2 (by omega)]
theorem leftN_zero {l : Array Bool} : ∀ n, leftN l n = 0 -> ∀ i, i < n -> l.getD i false = true
 | 0, _, i, hi => absurd hi (Nat.not_lt_zero _)
 | n + 1, h, i, hi => by
  simp only [leftN] at h
  by_cases hn : i = n
  ·subst hn
   cases hq : l.getD i false with
   | true => rfl
   | false => rw [hq] at h; simp at h
  ·exact leftN_zero n (by omega) i (by omega)
theorem leftN_le {l : Array Bool} : ∀ n, leftN l n <= n
 | 0 => Nat.le_refl _
 | n + 1 => by have := leftN_le (l := l) n; simp only [leftN]; split <;> omega
theorem getD_flip {l : Array Bool} {i : Nat} (h : i < l.size) : l.getD i true = l.getD i false := by simp [Array.getD, h]
theorem fillN_other {a : Act} {dst : Nat -> Tmp} {l : Array Bool} {v : Nat -> Value} {t : Nat} : ∀ n, (∀ j, j < n -> l.getD j false = true -> dst j ≠ t) -> (fillN a dst l v n).tmps.getD t undef = a.tmps.getD t undef
 | 0, _ => rfl
 | n + 1, h => by
  have ih := fillN_other (a := a) (v := v) n (fun j hj => h j (by omega))
  unfold fillN
  split
  ·rename_i hl
   have hne : dst n ≠ t := h n (by omega) hl
   simpa [Act.put, Array.getElem?_setIfInBounds_ne hne] using ih
  ·exact ih
def anc (md : Region.Mode) (ops : Array Oper) (i : Nat) : Nat -> Nat -> Bool
 | 0, _ => false
 | n + 1, j => match ops[j]? with | some o => o.after.toList.any fun e => Region.binds md e && (e.on == i || anc md ops i n e.on) | none => false
theorem anc_listed {md : Region.Mode} {ops : Array Oper} {l : Array Bool} {i : Nat} (hcl : ∀ (j : Nat) (o : Oper), ops[j]? = some o -> l.getD j false = true -> ∀ e ∈ o.after, Region.binds md e = true -> l.getD e.on false = true) :
  ∀ n j, l.getD j false = true -> anc md ops i n j = true -> l.getD i false = true
 | 0, _, _, h => by cases h
 | n + 1, j, hj, h => by
  unfold anc at h
  split at h
  ·rename_i o ho
   rw [List.any_eq_true] at h
   obtain ⟨e, he, hb⟩ := h
   simp only [Bool.and_eq_true, Bool.or_eq_true, beq_iff_eq] at hb
   have h1 := hcl j o ho hj e (by simpa using he) hb.1
   rcases hb.2 with h2 | h2
   ·rw [<- h2]; exact h1
   ·exact anc_listed hcl n e.on h1 h2
  ·cases h
theorem tmp_some {b : Act} {t : Tmp} {v : Bool} (h : b.tmps.getD t undef = .bool v) : b.tmps[t]? = some (.bool v) := by
 cases hq : b.tmps[t]? with
 | none => simp [hq] at h; cases h
 | some x => simp [hq] at h; rw [h]
theorem all_listedB {md : Region.Mode} {ops : Array Oper} {l : Array Bool} (hs : l.size = ops.size) (hac : ∀ (i : Nat) (o : Oper), ops[i]? = some o -> ∀ e ∈ o.after, Region.binds md e = true -> e.on < i) (hr : Region.ready md ops l = []) : ∀ n i, i < n -> i < ops.size -> l.getD i false = true
 | 0, i, h, _ => absurd h (Nat.not_lt_zero _)
 | n + 1, i, h, hi => by
  by_cases hn : i < n
  ·exact all_listedB hs hac hr n i hn hi
  ·cases hq : l.getD i false with
   | true => rfl
   | false =>
    exfalso
    have hm : i ∈ Region.ready md ops l := mem_ready.2 ⟨by rw [getD_flip (by omega), hq], ops[i], by simp [hi], fun e he hb => all_listedB hs hac hr n e.on (by have := hac i ops[i] (by simp [hi]) e he hb; omega) (by have := hac i ops[i] (by simp [hi]) e he hb; omega)⟩
    rw [hr] at hm; cases hm
theorem fillN_size {a : Act} {dst : Nat -> Tmp} {l : Array Bool} {v : Nat -> Value} : ∀ n, (fillN a dst l v n).tmps.size = a.tmps.size
 | 0 => rfl
 | n + 1 => by
  have ih := fillN_size (a := a) (dst := dst) (l := l) (v := v) n
  unfold fillN
  split
  ·simp [Act.put, ih]
  ·exact ih
theorem wpAny_invH {S : Nat -> Prop} {R : Nat -> World -> World -> Prop} {big : Nat} {P : Program} {md : Region.Mode} {ops : Array Oper} {Q : Exit -> Act -> World -> Prop} {a : Act} {w0 : World} {dst : Nat -> Tmp} {Φ : Nat -> Value -> World -> Prop}
  (hac : ∀ (i : Nat) (o : Oper), ops[i]? = some o -> ∀ e ∈ o.after, Region.binds md e = true -> e.on < i)
  (hinj : ∀ j k, j < ops.size -> k < ops.size -> dst j = dst k -> j = k) (hsz : ∀ i, i < ops.size -> dst i < a.tmps.size \/ ∀ v v' w, Φ i v w -> Φ i v' w)
  (hR : ∀ i w w', R i w w' -> Upd S w w' /\ (i ≠ big -> Ext w w')) (hΦ : ∀ i j v w w', i < ops.size -> j < ops.size -> i ≠ j -> anc md ops i ops.size j = false -> Φ j v w -> R i w w' -> Φ j v w')
  (step : ∀ (i : Nat) (o : Oper) (b : Act) (w : World), ops[i]? = some o -> Upd S w0 w -> (∀ e ∈ o.after, Region.binds md e = true -> Φ e.on (b.tmps.getD (dst e.on) undef) w) -> (∀ t, (∀ (j : Nat) (oj : Oper), ops[j]? = some oj -> dst j = t -> j = i \/ ∃ e ∈ oj.after, Region.binds md e = true /\ e.on = i) -> b.tmps.getD t undef = a.tmps.getD t undef) -> ((i = big \/ anc md ops i ops.size big = true) -> Ext w0 w) -> b.tmps.size = a.tmps.size →
   (Region.wanted o (yielded ops b.tmps) = true /\ o.wp P b w (fun b' w' => ∃ v, b' = b.put (some (dst i)) v /\ Φ i v w' /\ R i w w') Q) \/ (Region.wanted o (yielded ops b.tmps) = false /\ o.dst = some (dst i) /\ Φ i undef w /\ R i w w))
  (fin : ∀ v w, Upd S w0 w -> (∀ i, i < ops.size -> Φ i (v i) w) -> Q .normal (fillAll a dst v ops.size) w) :
  ∀ (fuel : Nat) (listed : Array Bool) (b : Act) (w : World), leftN listed ops.size <= fuel -> InvN S big md ops a w0 dst Φ listed b w -> wpAny P md ops Q fuel listed b w := by
 have done : ∀ (listed : Array Bool) (b : Act) (w : World), InvN S big md ops a w0 dst Φ listed b w -> Region.ready md ops listed = [] -> Q .normal b w := by
  intro listed b w hI hr
  obtain ⟨v, hs, rfl, hx, hbg, hp, hcl⟩ := hI
  have hall := fun i hi => all_listedB hs hac hr ops.size i hi hi
  rw [fillN_all _ hall]
  exact fin v w hx (fun i hi => hp i hi (hall i hi))
 intro fuel
 induction fuel with
 | zero =>
  intro listed b w hl hI
  have hall := leftN_zero (l := listed) ops.size (by omega)
  have hr : Region.ready md ops listed = [] := by
   rw [List.eq_nil_iff_forall_not_mem]
   intro i hi
   obtain ⟨h0, o, ho, -⟩ := mem_ready.1 hi
   obtain ⟨v, hs, -⟩ := hI
   have hlt : i < ops.size := (Array.getElem?_eq_some_iff.1 ho).1
   rw [getD_flip (by omega), hall i hlt] at h0; cases h0
  exact ⟨hr, done _ _ _ hI hr⟩
 | succ fuel ih =>
  intro listed b w hl hI
  refine ⟨done _ _ _ hI, fun i hi => ?_⟩
  obtain ⟨h0, o, ho, hall⟩ := mem_ready.1 hi
  obtain ⟨v, hs, rfl, hx, hbg, hp, hcl⟩ := hI
  have hlt : i < ops.size := (Array.getElem?_eq_some_iff.1 ho).1
  rw [getD_flip (by omega)] at h0
  have hw := step i o (fillN a dst listed v ops.size) w ho hx (fun e he hb => by
   have h1 := hac i o ho e he hb
   have h2 := hall e he hb
   rcases hsz e.on (by omega) with h3 | h3
   ·rw [(fillN_at h2 h3 ops.size hinj (by omega)).1]
    exact hp _ (by omega) h2
   ·exact h3 _ _ _ (hp _ (by omega) h2)) (fun t ht => fillN_other ops.size fun j hj hlj he => by
    obtain ⟨oj, hoj⟩ : ∃ oj, ops[j]? = some oj := ⟨ops[j], by simp [hj]⟩
    rcases ht j oj hoj he with rfl | ⟨e, he1, he2, he3⟩
    ·rw [h0] at hlj; cases hlj
    ·have := hcl j oj hoj hlj e he1 he2
     rw [he3, h0] at this; cases this) (fun e => hbg (by
    rcases e with e | e
    ·rw [<- e]; exact h0
    ·cases hq : listed.getD big false with
     | false => rfl
     | true => have := anc_listed hcl _ _ hq e; rw [h0] at this; cases this)) (fillN_size _)
  have fin2 : ∀ x w', Φ i x w' -> R i w w' -> wpAny P md ops Q fuel (listed.setIfInBounds i true) ((fillN a dst listed v ops.size).put (some (dst i)) x) w' := by
   intro x w' hx1 hx2
   have hp2 := (fillN_put (a := a) (v := v) x h0 ops.size (fun j hj hne he => hne (hinj j i hj hlt he)) (by omega)).1 hlt
   refine ih _ _ _ (by have := (leftN_set h0 (show i < listed.size by omega) ops.size).1 hlt; omega) ⟨fun j => if j = i then x else v j, by simp [hs], hp2, hx.trans (hR _ _ _ hx2).1, fun hb0 => ?_, fun j hj hlj => ?_, fun j oj hoj hlj e he hb => ?_⟩
   ·by_cases hbi : big = i
    ·rw [hbi, getD_set_eq' (by omega)] at hb0; cases hb0
    ·rw [getD_set_ne false (fun e => hbi e.symm)] at hb0
     exact (hbg hb0).trans ((hR _ _ _ hx2).2 (fun e => hbi e.symm))
   rotate_left
   ·by_cases hji : j = i
    ·subst hji
     rw [ho] at hoj; cases hoj
     exact getD_set_true (hall e he hb)
    ·rw [getD_set_ne false (fun e => hji e.symm)] at hlj
     exact getD_set_true (hcl j oj hoj hlj e he hb)
   by_cases hji : j = i
   ·subst hji; simpa using hx1
   ·show Φ j (if j = i then x else v j) w'
    rw [if_neg hji]
    rw [getD_set_ne false (fun e => hji e.symm)] at hlj
    refine hΦ i j _ _ _ hlt hj (fun e => hji e.symm) ?_ (hp j hj hlj) hx2
    cases hq : anc md ops i ops.size j with
    | false => rfl
    | true => have := anc_listed hcl _ _ hlj hq; rw [h0] at this; cases this
  unfold wpOp
  rw [ho]
  rcases hw with hw | hw
  ·simp only [hw.1, if_true]
   refine .inl (Oper.wp_mono ?_ hw.2)
   rintro b' w' ⟨x, rfl, hx1, hx2⟩
   exact fin2 x w' hx1 hx2
  ·simp only [hw.1]
   rw [if_neg (by decide), hw.2.1]
   exact fin2 undef w hw.2.2.1 hw.2.2.2
theorem wp_region_invH0 (S : Nat -> Prop) (R : Nat -> World -> World -> Prop) (big : Nat) {P : Program} {id : Nat} {ops : Array Oper} {Q : Exit -> Act -> World -> Prop} {a : Act} {w : World} (dst : Nat -> Tmp) (Φ : Nat -> Value -> World -> Prop) (hm : P.follows .mixedOrders = true)
  (hac : ∀ (i : Nat) (o : Oper), ops[i]? = some o -> ∀ e ∈ o.after, Region.binds .any e = true -> e.on < i)
  (hinj : ∀ j k, j < ops.size -> k < ops.size -> dst j = dst k -> j = k) (hsz : ∀ i, i < ops.size -> dst i < a.tmps.size \/ ∀ v v' w, Φ i v w -> Φ i v' w)
  (hR : ∀ i w w', R i w w' -> Upd S w w' /\ (i ≠ big -> Ext w w')) (hΦ : ∀ i j v w w', i < ops.size -> j < ops.size -> i ≠ j -> anc .any ops i ops.size j = false -> Φ j v w -> R i w w' -> Φ j v w')
  (step : ∀ (i : Nat) (o : Oper) (b : Act) (w1 : World), ops[i]? = some o -> Upd S w w1 -> (∀ e ∈ o.after, Region.binds .any e = true -> Φ e.on (b.tmps.getD (dst e.on) undef) w1) -> (∀ t, (∀ (j : Nat) (oj : Oper), ops[j]? = some oj -> dst j = t -> j = i \/ ∃ e ∈ oj.after, Region.binds .any e = true /\ e.on = i) -> b.tmps.getD t undef = a.tmps.getD t undef) -> ((i = big \/ anc .any ops i ops.size big = true) -> Ext w w1) -> b.tmps.size = a.tmps.size →
   (Region.wanted o (yielded ops b.tmps) = true /\ o.wp P b w1 (fun b' w' => ∃ v, b' = b.put (some (dst i)) v /\ Φ i v w' /\ R i w1 w') Q) \/ (Region.wanted o (yielded ops b.tmps) = false /\ o.dst = some (dst i) /\ Φ i undef w1 /\ R i w1 w1))
  (fin : ∀ v w1, Upd S w w1 -> (∀ i, i < ops.size -> Φ i (v i) w1) -> Q .normal (fillAll a dst v ops.size) w1) : (Code.region id ops true).wp P Q a w := by
 have hx : Upd S w { w with drawn := w.drawn + 1 } := ⟨rfl, rfl, rfl, Nat.le_refl _, fun _ _ _ => rfl⟩
 refine wp_region_any hm (wpAny_invH (w0 := { w with drawn := w.drawn + 1 }) hac hinj hsz hR hΦ (fun i o b w1 ho h1 hd hk hE0 hS => have hE : (i = big \/ anc .any ops i ops.size big = true) -> Ext w w1 := fun e => (show Ext w { w with drawn := w.drawn + 1 } from ⟨rfl, rfl, rfl, Nat.le_refl _, fun _ _ _ => rfl⟩).trans (hE0 e); step i o b w1 ho (hx.trans h1) hd hk hE hS) (fun v w1 h1 hp => fin v w1 (hx.trans h1) hp) _ _ _ _ (leftN_le _) ⟨fun _ => undef, by simp, ?_, uZ, fun _ => uZ, fun i hi hl => ?_, fun i o ho hl => ?_⟩)
 ·rw [fillN_none _ (fun i hi => by simp [hi])]
 ·simp [hi] at hl
 ·have hi : i < ops.size := (Array.getElem?_eq_some_iff.1 ho).1
  simp [hi] at hl
theorem wp_region_invH (S : Nat -> Prop) (R : Nat -> World -> World -> Prop) (big : Nat) {P : Program} {id : Nat} {ops : Array Oper} {Q : Exit -> Act -> World -> Prop} {a : Act} {w : World} (dst : Nat -> Tmp) (Φ : Nat -> Value -> World -> Prop) (N : Nat) (hm : P.follows .mixedOrders = true)
  (hac : ((List.range ops.size).all fun i => match ops[i]? with | some o => o.after.toList.all fun e => !(Region.binds .any e) || decide (e.on < i) | none => true) = true)
  (hinj : ((List.range ops.size).all fun j => (List.range ops.size).all fun k => decide (dst j = dst k -> j = k)) = true) (hN : a.tmps.size = N) (hsz : ∀ i, i < ops.size -> dst i < N \/ ∀ v v' w, Φ i v w -> Φ i v' w)
  (hR : ∀ i w w', R i w w' -> Upd S w w' /\ (i ≠ big -> Ext w w')) (hΦ : ∀ i j v w w', i < ops.size -> j < ops.size -> i ≠ j -> anc .any ops i ops.size j = false -> Φ j v w -> R i w w' -> Φ j v w')
  (step : ∀ (i : Nat) (o : Oper) (b : Act) (w1 : World), ops[i]? = some o -> Upd S w w1 -> (∀ e ∈ o.after, Region.binds .any e = true -> Φ e.on (b.tmps.getD (dst e.on) undef) w1) -> (∀ t, (∀ (j : Nat) (oj : Oper), ops[j]? = some oj -> dst j = t -> j = i \/ ∃ e ∈ oj.after, Region.binds .any e = true /\ e.on = i) -> b.tmps.getD t undef = a.tmps.getD t undef) -> ((i = big \/ anc .any ops i ops.size big = true) -> Ext w w1) -> b.tmps.size = a.tmps.size →
   (Region.wanted o (yielded ops b.tmps) = true /\ o.wp P b w1 (fun b' w' => ∃ v, b' = b.put (some (dst i)) v /\ Φ i v w' /\ R i w1 w') Q) \/ (Region.wanted o (yielded ops b.tmps) = false /\ o.dst = some (dst i) /\ Φ i undef w1 /\ R i w1 w1))
  (fin : ∀ v w1, Upd S w w1 -> (∀ i, i < ops.size -> Φ i (v i) w1) -> Q .normal (fillAll a dst v ops.size) w1) : (Code.region id ops true).wp P Q a w := by
 subst hN
 simp only [List.all_eq_true, List.mem_range, decide_eq_true_eq] at hinj
 refine wp_region_invH0 S R big dst Φ hm (fun i o ho e he hb => ?_) (fun j k hj hk => hinj j hj k hk) (fun i hi => hsz i hi) hR hΦ step fin
 have hlt : i < ops.size := (Array.getElem?_eq_some_iff.1 ho).1
 rw [List.all_eq_true] at hac
 have := hac i (List.mem_range.2 hlt)
 rw [ho] at this
 simp only [List.all_eq_true] at this
 have := this e (by simpa using he)
 rw [hb] at this
 simpa using this
theorem put_past {b : Act} {d : Tmp} {v : Value} (h : b.tmps.size <= d) : b = b.put (some d) v := by
 unfold Act.put
 cases b
 simp only [Act.mk.injEq, and_true]
 exact (Array.setIfInBounds_eq_of_size_le h).symm
theorem tAt {b : Act} {t : Tmp} {v : Value} (h : b.tmps.getD t undef = v) : b.tmps[t]?.getD undef = v := by simpa using h
theorem gAt {o : Oper} {ops : Array Oper} {b : Act} {i : Nat} {v : Bool} {t : Tmp} (hg : o.guard = some (i, v)) (ht : (ops[i]?).bind (·.dst) = some t) (h : b.tmps.getD t undef = .bool v) : Region.wanted o (yielded ops b.tmps) = true := by
 have := tmp_some h
 simp [Region.wanted, yielded, hg, ht, this]
theorem gNot {o : Oper} {ops : Array Oper} {b : Act} {i : Nat} {v : Bool} {t : Tmp} (hg : o.guard = some (i, v)) (ht : (ops[i]?).bind (·.dst) = some t) (h : b.tmps.getD t undef = .bool (!v)) : Region.wanted o (yielded ops b.tmps) = false := by
 have := tmp_some h
 simp [Region.wanted, yielded, hg, ht, this]
theorem gUn {o : Oper} {ops : Array Oper} {b : Act} {i : Nat} {v : Bool} {t : Tmp} (hg : o.guard = some (i, v)) (ht : (ops[i]?).bind (·.dst) = some t) (h : b.tmps.getD t undef = undef) : Region.wanted o (yielded ops b.tmps) = false := by
 cases hq : b.tmps[t]? with
 | none => simp [Region.wanted, yielded, hg, ht, hq]
 | some u =>
  obtain rfl : u = undef := by simpa [hq] using h
  simp [Region.wanted, yielded, hg, ht, hq, undef]
end Go.Proofs.YtnkmpoplibnflaaGreatDoor
set_option maxRecDepth 100000
set_option maxHeartbeats 16000000
namespace Go.Proofs.YtnkmpoplibnflaaGreatDoor
open Go
structure Nm where
 kind : Nat
 doc : Nat
 n : Nat
 proc : Nat
 inc : Nat
 k : Nat
deriving DecidableEq
def Nm.zero : Nm := ⟨0, 0, 0, 0, 0, 0⟩
structure WfNm (x : Nm) : Prop where
 kind : x.kind < 256
 doc : x.doc < 18446744073709551616
 n : x.n < 18446744073709551616
 proc : x.proc < 18446744073709551616
 inc : x.inc < 18446744073709551616
 k : x.k < 18446744073709551616
def numsF (x : Nm) : List Nat := if x.kind = 1 \/ x.kind = 2 then [x.doc, x.n] else if x.kind = 3 then [x.proc, x.inc, x.k] else [x.doc, x.proc, x.inc, x.k]
def ofF (kind : Nat) (l : List Nat) : Nm :=
 if kind = 1 \/ kind = 2 then ⟨kind, l.getD 0 0, l.getD 1 0, 0, 0, 0⟩ else if kind = 3 then ⟨kind, 0, 0, l.getD 0 0, l.getD 1 0, l.getD 2 0⟩ else ⟨kind, l.getD 0 0, 0, l.getD 1 0, l.getD 2 0, l.getD 3 0⟩
def mayF (x : Nm) : Bool := decide (1 <= x.kind) && decide (x.kind <= 4) && decide (ofF x.kind (numsF x) = x)
def headF (k : Nat) : UInt8 := if k = 1 then 115 else if k = 2 then 98 else if k = 3 then 116 else 106
def countF (k : Nat) : Nat := if k = 1 \/ k = 2 then 2 else if k = 3 then 3 else 4
def wordsF (x : Nm) : List (List UInt8) := [headF x.kind] :: (numsF x).map Lib.decDigits
def putF (x : Nm) : List UInt8 := if mayF x then Lib.join (wordsF x) [45] else []
def splitF : List UInt8 -> List (List UInt8)
 | [] => [[]]
 | c :: r => if c = 45 then [] :: splitF r else (c :: (splitF r).headD []) :: (splitF r).tail
def numF (w : List UInt8) : Option Nat := match Lib.parseUintB 64 w with | .ok u => if Lib.decDigits u = w then some u else none | _ => none
def numsP : List (List UInt8) -> Option (List Nat)
 | [] => some []
 | w :: r => match numF w, numsP r with | some u, some l => some (u :: l) | _, _ => none
def kindF (w : List UInt8) : Nat := if w = [115] then 1 else if w = [98] then 2 else if w = [116] then 3 else if w = [106] then 4 else 0
def parseW : List (List UInt8) -> Nm × Bool
 | [] => (Nm.zero, false)
 | w :: ws => if kindF w = 0 \/ ws.length ≠ countF (kindF w) then (Nm.zero, false) else match numsP ws with | some l => (ofF (kindF w) l, true) | none => (Nm.zero, false)
def parseF (s : List UInt8) : Nm × Bool := parseW (splitF s)
/-! numbers -/
theorem parseUintM_append (M : Nat) : ∀ (l r : List UInt8) (acc a : Nat), Lib.parseUintM M acc l = .ok a -> Lib.parseUintM M acc (l ++ r) = Lib.parseUintM M a r
 | [], r, acc, a, h => by simp only [Lib.parseUintM, Lib.NumEnd.ok.injEq] at h; subst h; rfl
 | c :: l, r, acc, a, h => by
  simp only [List.cons_append, Lib.parseUintM] at h ⊢
  split at h
  ·rename_i h1
   rw [if_pos h1]
   split at h
   ·cases h
   ·rename_i h2
    rw [if_neg h2]
    split at h
    ·cases h
    ·rename_i h3
     rw [if_neg h3]
     exact parseUintM_append M l r _ a h
  ·cases h
theorem digit_toNat {d : Nat} (h : d < 10) : (UInt8.ofNat (48 + d)).toNat = 48 + d := by rw [UInt8.toNat_ofNat', Nat.mod_eq_of_lt (by omega)]
theorem parse_digits : ∀ u : Nat, u < 18446744073709551616 -> Lib.parseUintM 18446744073709551615 0 (Lib.decDigits u) = .ok u := by
 intro u
 induction u using Nat.strongRecOn with
 | ind u ih =>
  intro hu
  rw [Lib.decDigits]
  split
  ·rename_i h
   have hd := digit_toNat h
   simp only [Lib.parseUintM, hd]
   rw [if_pos (by omega), if_neg (by omega), if_neg (by omega)]
   congr 1; omega
  ·rename_i h
   have hd := digit_toNat (show u % 10 < 10 from Nat.mod_lt _ (by decide))
   rw [parseUintM_append _ _ _ _ _ (ih (u / 10) (by omega) (by omega))]
   simp only [Lib.parseUintM, hd]
   rw [if_pos (by omega), if_neg (by omega), if_neg (by omega)]
   congr 1; omega
theorem dec_ne (u : Nat) : Lib.decDigits u ≠ [] := by
 rw [Lib.decDigits]; split <;> simp
theorem numF_digits {u : Nat} (hu : u < 18446744073709551616) : numF (Lib.decDigits u) = some u := by
 unfold numF Lib.parseUintB
 rw [if_neg (dec_ne u), show (2 : Nat) ^ 64 - 1 = 18446744073709551615 from by decide, parse_digits u hu]
 simp
theorem numF_some {w : List UInt8} {u : Nat} (h : numF w = some u) : Lib.decDigits u = w /\ u < 18446744073709551616 /\ Lib.parseUintB 64 w = .ok u := by
 unfold numF at h
 split at h
 ·rename_i v hv
  split at h
  ·rename_i h1
   cases h
   refine ⟨h1, ?_, hv⟩
   unfold Lib.parseUintB at hv
   split at hv
   ·cases hv
   ·have := Lib.parseUintM_le _ _ _ _ (by omega) hv
    have h64 : (2 : Nat) ^ 64 - 1 = 18446744073709551615 := by decide
    omega
  ·cases h
 ·cases h
theorem dec_digit (u : Nat) : ∀ c ∈ Lib.decDigits u, 48 <= c.toNat /\ c.toNat <= 57 := by
 induction u using Nat.strongRecOn with
 | ind u ih =>
  rw [Lib.decDigits]
  split
  ·rename_i h
   intro c hc
   simp only [List.mem_singleton] at hc
   subst hc; rw [digit_toNat h]; omega
  ·rename_i h
   intro c hc
   rw [List.mem_append] at hc
   rcases hc with hc | hc
   ·exact ih (u / 10) (by omega) c hc
   ·simp only [List.mem_singleton] at hc
    subst hc; rw [digit_toNat (Nat.mod_lt _ (by decide))]; omega
theorem dec_no45 (u : Nat) : (45 : UInt8) ∉ Lib.decDigits u := by
 intro h
 have := dec_digit u _ h
 revert this; decide
/-! words -/
theorem splitF_ne (s : List UInt8) : splitF s ≠ [] := by
 cases s with
 | nil => simp [splitF]
 | cons c r => unfold splitF; split <;> simp
theorem splitF_word {w : List UInt8} (h : (45 : UInt8) ∉ w) : splitF w = [w] := by
 induction w with
 | nil => rfl
 | cons c r ih =>
  simp only [List.mem_cons, not_or] at h
  rw [splitF, if_neg (fun e => h.1 e.symm), ih h.2]
  rfl
theorem splitF_cut {w r : List UInt8} (h : (45 : UInt8) ∉ w) : splitF (w ++ 45 :: r) = w :: splitF r := by
 induction w with
 | nil => simp [splitF]
 | cons c t ih =>
  simp only [List.mem_cons, not_or] at h
  rw [List.cons_append, splitF, if_neg (fun e => h.1 e.symm), ih h.2]
  rfl
theorem join_one (w : List UInt8) : Lib.join [w] [45] = w := by simp [Lib.join]
theorem join_cons (w v : List UInt8) (r : List (List UInt8)) : Lib.join (w :: v :: r) [45] = w ++ 45 :: Lib.join (v :: r) [45] := by simp [Lib.join]
theorem split_join : ∀ ws : List (List UInt8), ws ≠ [] -> (∀ w ∈ ws, (45 : UInt8) ∉ w) -> splitF (Lib.join ws [45]) = ws
 | [], h, _ => absurd rfl h
 | [w], _, h => by rw [join_one, splitF_word (h w (by simp))]
 | w :: v :: r, _, h => by rw [join_cons, splitF_cut (h w (by simp)), split_join (v :: r) (by simp) (fun x hx => h x (by simp at hx ⊢; exact .inr hx))]
theorem join_split : ∀ s : List UInt8, Lib.join (splitF s) [45] = s
 | [] => by simp [splitF, Lib.join]
 | c :: r => by
  have ih := join_split r
  have hne := splitF_ne r
  unfold splitF
  obtain ⟨w, ws, e⟩ : ∃ w ws, splitF r = w :: ws := by
   cases h : splitF r with
   | nil => exact absurd h hne
   | cons w ws => exact ⟨w, ws, rfl⟩
  rw [e] at ih ⊢
  split
  ·rename_i hc
   subst hc
   rw [join_cons, ih]; rfl
  ·show Lib.join ((c :: w) :: ws) [45] = c :: r
   cases ws with
   | nil => rw [join_one] at ih ⊢; rw [ih]
   | cons v t => rw [join_cons] at ih ⊢; rw [List.cons_append, ih]
theorem kindF_head {k : Nat} (h1 : 1 <= k) (h2 : k <= 4) : kindF [headF k] = k := by
 have : k = 1 \/ k = 2 \/ k = 3 \/ k = 4 := by omega
 rcases this with rfl | rfl | rfl | rfl <;> decide
theorem headF_kind {w : List UInt8} (h : kindF w ≠ 0) : [headF (kindF w)] = w /\ 1 <= kindF w /\ kindF w <= 4 := by
 unfold kindF at h ⊢
 by_cases h1 : w = [115]
 ·subst h1; decide
 ·by_cases h2 : w = [98]
  ·subst h2; decide
  ·by_cases h3 : w = [116]
   ·subst h3; decide
   ·by_cases h4 : w = [106]
    ·subst h4; decide
    ·rw [if_neg h1, if_neg h2, if_neg h3, if_neg h4] at h; exact absurd rfl h
theorem mayF_iff {x : Nm} : mayF x = true ↔ 1 <= x.kind /\ x.kind <= 4 /\ ofF x.kind (numsF x) = x := by
 unfold mayF; simp [Bool.and_eq_true, and_assoc]
theorem numsF_length {x : Nm} : (numsF x).length = countF x.kind := by
 unfold numsF countF
 split
 ·rfl
 ·split <;> rfl
theorem numsF_lt {x : Nm} (hw : WfNm x) : ∀ u ∈ numsF x, u < 18446744073709551616 := by
 intro u hu
 unfold numsF at hu
 have h1 := hw.doc; have h2 := hw.n; have h3 := hw.proc; have h4 := hw.inc; have h5 := hw.k
 split at hu
 ·simp at hu; rcases hu with rfl | rfl <;> assumption
 ·split at hu <;> simp at hu <;> rcases hu with rfl | rfl | rfl | rfl <;> assumption
theorem numsP_digits : ∀ l : List Nat, (∀ u ∈ l, u < 18446744073709551616) -> numsP (l.map Lib.decDigits) = some l
 | [], _ => rfl
 | u :: l, h => by
  rw [List.map_cons, numsP, numF_digits (h u (by simp)), numsP_digits l (fun v hv => h v (by simp [hv]))]
theorem numsP_some : ∀ {ws : List (List UInt8)} {l : List Nat}, numsP ws = some l -> l.map Lib.decDigits = ws /\ ∀ u ∈ l, u < 18446744073709551616
 | [], l, h => by simp only [numsP, Option.some.injEq] at h; subst h; simp
 | w :: r, l, h => by
  unfold numsP at h
  split at h
  ·rename_i u l' hu hl'
   cases h
   obtain ⟨h1, h2, -⟩ := numF_some hu
   obtain ⟨h3, h4⟩ := numsP_some hl'
   refine ⟨by rw [List.map_cons, h1, h3], fun v hv => ?_⟩
   simp only [List.mem_cons] at hv
   rcases hv with rfl | hv
   ·exact h2
   ·exact h4 v hv
  ·cases h
theorem wordsF_no45 (x : Nm) : ∀ w ∈ wordsF x, (45 : UInt8) ∉ w := by
 intro w hw
 unfold wordsF at hw
 simp only [List.mem_cons, List.mem_map] at hw
 rcases hw with rfl | ⟨u, -, rfl⟩
 ·unfold headF; split
  ·decide
  ·split
   ·decide
   ·split <;> decide
 ·exact dec_no45 u
theorem split_put {x : Nm} (hm : mayF x = true) : splitF (putF x) = wordsF x := by
 unfold putF
 rw [if_pos hm, split_join _ (by simp [wordsF]) (wordsF_no45 x)]
theorem parse_put {x : Nm} (hm : mayF x = true) (hw : WfNm x) : parseF (putF x) = (x, true) := by
 obtain ⟨h1, h2, h3⟩ := mayF_iff.1 hm
 have hk := kindF_head h1 h2
 unfold parseF
 rw [split_put hm]
 unfold wordsF
 show (if kindF [headF x.kind] = 0 \/ ((numsF x).map Lib.decDigits).length ≠ countF (kindF [headF x.kind]) then (Nm.zero, false) else match numsP ((numsF x).map Lib.decDigits) with | some l => (ofF (kindF [headF x.kind]) l, true) | none => (Nm.zero, false)) = (x, true)
 rw [if_neg (by rw [hk, List.length_map, numsF_length]; simp; omega), numsP_digits _ (numsF_lt hw)]
 show (ofF (kindF [headF x.kind]) (numsF x), true) = (x, true)
 rw [hk, h3]
theorem ofF_may {kind : Nat} {l : List Nat} (h1 : 1 <= kind) (h2 : kind <= 4) (hl : l.length = countF kind) (hb : ∀ u ∈ l, u < 18446744073709551616) : mayF (ofF kind l) = true /\ WfNm (ofF kind l) /\ numsF (ofF kind l) = l /\ (ofF kind l).kind = kind := by
 have hk : kind = 1 \/ kind = 2 \/ kind = 3 \/ kind = 4 := by omega
 rcases hk with rfl | rfl | rfl | rfl
 ·obtain ⟨a, b, rfl⟩ : ∃ a b, l = [a, b] := by
   match l, hl with
   | [a, b], _ => exact ⟨a, b, rfl⟩
  have ha := hb a (by simp); have hb' := hb b (by simp)
  exact ⟨by simp [mayF, ofF, numsF], ⟨by simp [ofF], by simpa [ofF] using ha, by simpa [ofF] using hb', by simp [ofF], by simp [ofF], by simp [ofF]⟩, by simp [ofF, numsF], by simp [ofF]⟩
 ·obtain ⟨a, b, rfl⟩ : ∃ a b, l = [a, b] := by
   match l, hl with
   | [a, b], _ => exact ⟨a, b, rfl⟩
  have ha := hb a (by simp); have hb' := hb b (by simp)
  exact ⟨by simp [mayF, ofF, numsF], ⟨by simp [ofF], by simpa [ofF] using ha, by simpa [ofF] using hb', by simp [ofF], by simp [ofF], by simp [ofF]⟩, by simp [ofF, numsF], by simp [ofF]⟩
 ·obtain ⟨a, b, c, rfl⟩ : ∃ a b c, l = [a, b, c] := by
   match l, hl with
   | [a, b, c], _ => exact ⟨a, b, c, rfl⟩
  have ha := hb a (by simp); have hb' := hb b (by simp); have hc := hb c (by simp)
  exact ⟨by simp [mayF, ofF, numsF], ⟨by simp [ofF], by simp [ofF], by simp [ofF], by simpa [ofF] using ha, by simpa [ofF] using hb', by simpa [ofF] using hc⟩, by simp [ofF, numsF], by simp [ofF]⟩
 ·obtain ⟨a, b, c, d, rfl⟩ : ∃ a b c d, l = [a, b, c, d] := by
   match l, hl with
   | [a, b, c, d], _ => exact ⟨a, b, c, d, rfl⟩
  have ha := hb a (by simp); have hb' := hb b (by simp); have hc := hb c (by simp); have hd := hb d (by simp)
  exact ⟨by simp [mayF, ofF, numsF], ⟨by simp [ofF], by simpa [ofF] using ha, by simp [ofF], by simpa [ofF] using hb', by simpa [ofF] using hc, by simpa [ofF] using hd⟩, by simp [ofF, numsF], by simp [ofF]⟩
theorem parseW_cases (w : List UInt8) (ws : List (List UInt8)) : (∃ l, numsP ws = some l /\ kindF w ≠ 0 /\ ws.length = countF (kindF w) /\ parseW (w :: ws) = (ofF (kindF w) l, true)) \/ parseW (w :: ws) = (Nm.zero, false) := by
 have e : parseW (w :: ws) = (if kindF w = 0 \/ ws.length ≠ countF (kindF w) then (Nm.zero, false) else match numsP ws with | some l => (ofF (kindF w) l, true) | none => (Nm.zero, false)) := rfl
 rw [e]
 by_cases hc : kindF w = 0 \/ ws.length ≠ countF (kindF w)
 ·rw [if_pos hc]; exact .inr rfl
 ·rw [if_neg hc]
  simp only [not_or, ne_eq, Decidable.not_not] at hc
  cases hn : numsP ws with
  | none => exact .inr rfl
  | some l => exact .inl ⟨l, rfl, hc.1, hc.2, rfl⟩
theorem splitF_cons (s : List UInt8) : ∃ w ws, splitF s = w :: ws := by
 cases h : splitF s with
 | nil => exact absurd h (splitF_ne s)
 | cons w ws => exact ⟨w, ws, rfl⟩
theorem put_parse {s : List UInt8} (h : (parseF s).2 = true) : mayF (parseF s).1 = true /\ WfNm (parseF s).1 /\ putF (parseF s).1 = s := by
 have hs := join_split s
 obtain ⟨w, ws, e⟩ := splitF_cons s
 unfold parseF at h ⊢
 rw [e] at h hs ⊢
 rcases parseW_cases w ws with ⟨l, hn, hk, hl, hp⟩ | hp
 ·rw [hp]
  obtain ⟨h1, h2, h3⟩ := headF_kind hk
  obtain ⟨h4, h5⟩ := numsP_some hn
  have hll : l.length = countF (kindF w) := by rw [<- hl, <- h4]; simp
  obtain ⟨m1, m2, m3, m4⟩ := ofF_may h2 h3 hll h5
  refine ⟨m1, m2, ?_⟩
  show putF (ofF (kindF w) l) = s
  unfold putF
  rw [if_pos m1]
  unfold wordsF
  rw [m3, m4, h1, h4, hs]
 ·rw [hp] at h; cases h
theorem parse_bad {s : List UInt8} (h : (parseF s).2 = false) : (parseF s).1 = Nm.zero := by
 obtain ⟨w, ws, e⟩ := splitF_cons s
 unfold parseF at h ⊢
 rw [e] at h ⊢
 rcases parseW_cases w ws with ⟨l, hn, hk, hl, hp⟩ | hp
 ·rw [hp] at h; cases h
 ·rw [hp]
theorem parse_unique {s : List UInt8} {x : Nm} (hm : mayF x = true) (hw : WfNm x) (h : putF x = s) : parseF s = (x, true) := by rw [<- h]; exact parse_put hm hw
end Go.Proofs.YtnkmpoplibnflaaGreatDoor
