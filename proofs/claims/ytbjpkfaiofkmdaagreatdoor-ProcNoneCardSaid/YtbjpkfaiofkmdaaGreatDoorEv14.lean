/-
  A RECKONER OF CLOSED CALLS, FOURTEENTH PART: forerunners, slots, and the chain of the pass. No program in sight; no condition.
-/
import Derived.Test.YtbjpkfaiofkmdaaGreatDoorEv13
namespace Go.Proofs.YtbjpkfaiofkmdaaGreatDoor.Ev
open Go Go.RowKit

variable {P : Program} {T : Tb} {l : Env} {H : Hp} {w : World} {N : Nat} {call : CallF} {ops : Array Oper} {dm : Tr Nat} {S : Nat → PS}

theorem Tr.set_at {α : Type} : ∀ (d : Nat) (t : Tr α) (i : Nat) (x : Option α) (j : Nat), i + 1 < 2 ^ d → (t.set d i x).get j = if j = i then x else t.get j
  | 0, _, _, _, _, h => by simp at h
  | d + 1, t, i, x, j, h => by
    rw [Nat.pow_succ] at h
    rw [Tr.get_n (t.set (d + 1) i x) j, Tr.get_n t j]
    unfold Tr.set
    cases hi : Nat.beq i 0 with
    | true =>
      have hi0 : i = 0 := Nat.eq_of_beq_eq_true hi
      cases hj : Nat.beq j 0 with
      | true =>
        have hj0 : j = 0 := Nat.eq_of_beq_eq_true hj
        rw [if_pos (by omega)]; rfl
      | false =>
        have hj0 : j ≠ 0 := Nat.ne_of_beq_eq_false hj
        rw [if_neg (by omega)]; rfl
    | false =>
      have hi0 : i ≠ 0 := Nat.ne_of_beq_eq_false hi
      cases hp : Nat.beq (i % 2) 1 with
      | true =>
        have hp1 := Nat.eq_of_beq_eq_true hp
        cases hj : Nat.beq j 0 with
        | true =>
          have hj0 : j = 0 := Nat.eq_of_beq_eq_true hj
          rw [if_neg (by omega)]; rfl
        | false =>
          have hj0 : j ≠ 0 := Nat.ne_of_beq_eq_false hj
          cases hq : Nat.beq (j % 2) 1 with
          | true =>
            have hq1 := Nat.eq_of_beq_eq_true hq
            have := Tr.set_at d t.left (i / 2) x (j / 2) (by omega)
            show (t.left.set d (i / 2) x).get (j / 2) = _
            rw [this]
            by_cases e : j = i
            · rw [if_pos (by omega), if_pos e]
            · rw [if_neg (by omega), if_neg e]
          | false =>
            have hq1 := Nat.ne_of_beq_eq_false hq
            rw [if_neg (by rintro rfl; exact hq1 hp1)]; rfl
      | false =>
        have hp1 := Nat.ne_of_beq_eq_false hp
        cases hj : Nat.beq j 0 with
        | true =>
          have hj0 : j = 0 := Nat.eq_of_beq_eq_true hj
          rw [if_neg (by omega)]; rfl
        | false =>
          have hj0 : j ≠ 0 := Nat.ne_of_beq_eq_false hj
          cases hq : Nat.beq (j % 2) 1 with
          | true =>
            have hq1 := Nat.eq_of_beq_eq_true hq
            rw [if_neg (by rintro rfl; exact hp1 hq1)]; rfl
          | false =>
            have hq1 := Nat.ne_of_beq_eq_false hq
            have := Tr.set_at d t.right (i / 2 - 1) x (j / 2 - 1) (by omega)
            show (t.right.set d (i / 2 - 1) x).get (j / 2 - 1) = _
            rw [this]
            by_cases e : j = i
            · rw [if_pos (by omega), if_pos e]
            · rw [if_neg (by omega), if_neg e]
theorem dmOf_ok : ∀ {r : List Oper} {i : Nat} {t dm : Tr Nat}, dmOf r i t = some dm → (∀ k o d, r[k]? = some o → o.dst = some d → dm.get d = some (i + k)) ∧ (∀ d j, t.get d = some j → dm.get d = some j) ∧
    ∀ d j, dm.get d = some j → t.get d = some j ∨ ∃ k o, r[k]? = some o ∧ o.dst = some d ∧ j = i + k
  | [], i, t, dm, h => by cases h; exact ⟨(fun k o d e => by cases e), fun _ _ e => e, fun _ _ e => .inl e⟩
  | o :: r, i, t, dm, h => by
    unfold dmOf at h
    split at h
    · rename_i hd
      obtain ⟨h1, h2, h3⟩ := dmOf_ok h
      refine ⟨fun k o' d e e' => ?_, h2, fun d j e => ?_⟩
      · cases k with
        | zero => cases e; rw [hd] at e'; cases e'
        | succ k => rw [show i + (k + 1) = i + 1 + k from by omega]; exact h1 k o' d (by simpa using e) e'
      · rcases h3 d j e with g | ⟨k, o', g1, g2, g3⟩
        · exact .inl g
        · exact .inr ⟨k + 1, o', by simpa using g1, g2, by omega⟩
    · rename_i d0 hd
      split at h
      · rename_i hn hlt
        have hlt : d0 < 1000 := by simpa [Nat.blt_eq] using hlt
        obtain ⟨h1, h2, h3⟩ := dmOf_ok h
        have hset := fun x j => Tr.set_at 10 t d0 x j (show d0 + 1 < 2 ^ 10 from Nat.lt_of_lt_of_le (Nat.succ_lt_succ hlt) (by decide))
        refine ⟨fun k o' d e e' => ?_, fun d j e => h2 d j ?_, fun d j e => ?_⟩
        · cases k with
          | zero =>
            cases e
            rw [hd] at e'
            cases e'
            exact h2 _ _ (by rw [hset]; simp)
          | succ k => rw [show i + (k + 1) = i + 1 + k from by omega]; exact h1 k o' d (by simpa using e) e'
        · rw [hset, if_neg (by rintro rfl; rw [hn] at e; cases e)]; exact e
        · rcases h3 d j e with g | ⟨k, o', g1, g2, g3⟩
          · rw [hset] at g
            split at g
            · rename_i e0
              subst e0
              cases g
              exact .inr ⟨0, o, rfl, hd, rfl⟩
            · exact .inl g
          · exact .inr ⟨k + 1, o', by simpa using g1, g2, by omega⟩
      · cases h

/-! forerunners -/
theorem Run.ms (h : Run T call N ops dm S) (h0 : (S 0).ms = .e) : ∀ (i : Nat), i ≤ ops.size → ∀ j k, (S i).ms.get j = some k → j < i ∧ k = (S (j + 1)).info.mask
  | 0, _, j, k, e => by rw [h0] at e; cases e
  | i + 1, hi, j, k, e => by
    obtain ⟨s', -, h2, -, -, h5⟩ := h.step i _ (Array.getElem?_eq_getElem (show i < ops.size by omega))
    rw [h5] at e
    rcases Tr.set_get _ _ _ _ _ _ e with ⟨rfl, e'⟩ | ⟨-, e'⟩
    · exact ⟨by omega, by cases e'; rfl⟩
    · obtain ⟨g1, g2⟩ := Run.ms h h0 i (by omega) j k e'
      exact ⟨by omega, g2⟩
theorem Run.edge (h : Run T call N ops dm S) (h0 : (S 0).ms = .e) {i : Nat} {o : Oper} (ho : ops[i]? = some o) {e : Edge} (he : e ∈ o.after.toList) (hb : Region.binds .any e = true) : e.on < i := by
  obtain ⟨s', -, h2, -⟩ := h.step i o ho
  obtain ⟨k, hk⟩ := maskOf_edges h2 e he hb
  exact (h.ms h0 i (by have := (Array.getElem?_eq_some_iff.1 ho).1; omega) _ _ hk).1
theorem Run.anc (h : Run T call N ops dm S) (h0 : (S 0).ms = .e) {i : Nat} {o : Oper} (ho : ops[i]? = some o) {j : Nat} (hj : bit (S (i + 1)).info.mask j = true) :
    ∃ e ∈ o.after.toList, Region.binds .any e = true ∧ e.on < i ∧ (bit (S (e.on + 1)).info.mask j = true ∨ e.on = j) := by
  obtain ⟨s', -, h2, -⟩ := h.step i o ho
  rcases maskOf_ok h2 j hj with h3 | ⟨e, he, hb, k, hk, h3⟩
  · rw [bit_zero] at h3; cases h3
  · obtain ⟨g1, g2⟩ := h.ms h0 i (by have := (Array.getElem?_eq_some_iff.1 ho).1; omega) _ _ hk
    subst g2
    exact ⟨e, he, hb, g1, h3⟩
theorem Run.lt (h : Run T call N ops dm S) (h0 : (S 0).ms = .e) : ∀ (i j : Nat), i < ops.size → bit (S (i + 1)).info.mask j = true → j < i := by
  intro i
  induction i using Nat.strongRecOn with
  | _ i ih =>
    intro j hi hj
    obtain ⟨e, -, -, h1, h2⟩ := h.anc h0 (Array.getElem?_eq_getElem hi) hj
    rcases h2 with h2 | h2
    · have := ih e.on h1 j (by omega) h2; omega
    · omega
theorem Run.listed (h : Run T call N ops dm S) (h0 : (S 0).ms = .e) {L : Nat → Bool} (hL : ∀ i o, ops[i]? = some o → L i = true → ∀ e ∈ o.after.toList, Region.binds .any e = true → L e.on = true) :
    ∀ (i : Nat) (o : Oper), ops[i]? = some o → (∀ e ∈ o.after.toList, Region.binds .any e = true → L e.on = true) → ∀ j, bit (S (i + 1)).info.mask j = true → L j = true := by
  intro i
  induction i using Nat.strongRecOn with
  | _ i ih =>
    intro o ho hall j hj
    obtain ⟨e, he, hb, h1, h2⟩ := h.anc h0 ho hj
    have hle := hall e he hb
    have hi := (Array.getElem?_eq_some_iff.1 ho).1
    rcases h2 with h2 | h2
    · have hoe : ops[e.on]? = some ops[e.on] := Array.getElem?_eq_getElem (show e.on < ops.size by omega)
      exact ih e.on h1 _ hoe (hL _ _ hoe hle) j h2
    · rw [← h2]; exact hle

/-! the chain -/
theorem Run.did (h : Run T call N ops dm S) {i : Nat} (hi : i < ops.size) : ∃ s' v, DoR T call ops (S i) i (S (i + 1)).info.mask (S (i + 1)).info.fo ops[i] v s' ∧ (S (i + 1)).nx = s'.nx ∧ (S (i + 1)).Hc = s'.Hc ∧ (S (i + 1)).wm = s'.wm ∧ (S (i + 1)).info = s'.info ∧ (S (i + 1)).pend = s'.pend := by
  obtain ⟨s', -, -, h3, -, h5⟩ := h.step i _ (Array.getElem?_eq_getElem hi)
  exact ⟨s', _, h3, by rw [h5], by rw [h5], by rw [h5], by rw [h5], by rw [h5]⟩
theorem Run.nx (h : Run T call N ops dm S) {i : Nat} (hi : i < ops.size) : (S i).nx ≤ (S (i + 1)).nx := by
  obtain ⟨s', v', h3, h5, -⟩ := h.did hi
  rw [h5]
  cases h3 <;> first | exact Nat.le_refl _ | assumption | exact Nat.le_succ _
theorem Run.nx_le (h : Run T call N ops dm S) {i : Nat} : ∀ {j : Nat}, i ≤ j → j ≤ ops.size → (S i).nx ≤ (S j).nx := by
  intro j hij
  induction hij with
  | refl => intro _; exact Nat.le_refl _
  | step _ ih => intro hj; exact Nat.le_trans (ih (by omega)) (h.nx (by omega))
theorem Run.wm (h : Run T call N ops dm S) : ∀ (i : Nat), i ≤ ops.size → ∀ j, j < i → (S (j + 1)).info.cl = .W → bit (S i).wm j = true
  | 0, _, j, hj, _ => by omega
  | i + 1, hi, j, hj, hc => by
    obtain ⟨s', v', h3, -, -, h5, h6, -⟩ := h.did (show i < ops.size by omega)
    by_cases hji : j = i
    · subst hji
      rw [h6] at hc
      rw [h5]
      cases h3 <;> first | (cases hc; done) | skip
      simp only
      rw [bit_or, bit_one]; simp
    · have := Run.wm h i (by omega) j (by omega) hc
      rw [h5]
      cases h3 <;> simp only <;> first | exact this | (rw [bit_or, this]; rfl)
theorem bit_sub {m k j : Nat} (h : m &&& k = k) (hj : bit k j = true) : bit m j = true := by
  rw [bit_eq] at hj ⊢
  rw [← h, Nat.testBit_and] at hj
  simp only [Bool.and_eq_true] at hj
  exact hj.1
theorem Run.chain (h : Run T call N ops dm S) {i j : Nat} (hi : i < ops.size) (hj : j < i) (ci : (S (i + 1)).info.cl = .W) (cj : (S (j + 1)).info.cl = .W) : bit (S (i + 1)).info.mask j = true := by
  obtain ⟨s', v', h3, -, -, -, h5, -⟩ := h.did hi
  have hw := h.wm i (by omega) j hj cj
  rw [h5] at ci
  cases h3 <;> first | (cases ci; done) | skip
  exact bit_sub (by assumption) hw
theorem Run.same (h : Run T call N ops dm S) {i : Nat} (hi : i < ops.size) (hc : (S (i + 1)).info.cl ≠ .W) : (S (i + 1)).Hc = (S i).Hc := by
  obtain ⟨s', v', h3, -, h5, -, h6, -⟩ := h.did hi
  rw [h6] at hc
  rw [h5]
  cases h3 <;> first | rfl | exact absurd rfl hc
theorem Run.same_to (h : Run T call N ops dm S) {p : Nat} : ∀ {q : Nat}, p ≤ q → q ≤ ops.size → (∀ j, p ≤ j → j < q → (S (j + 1)).info.cl ≠ .W) → (S q).Hc = (S p).Hc := by
  intro q hpq
  induction hpq with
  | refl => intro _ _; rfl
  | @step m hm ih =>
    intro hq hno
    rw [h.same (i := m) (by omega) (hno m hm (by omega))]
    exact ih (by omega) fun j h1 h2 => hno j h1 (by omega)

/-! slots -/
theorem Run.slot (h : Run T call N ops dm S) : ∀ (i : Nat), i ≤ ops.size → ∀ t v, (S i).f.get t = some v →
    (∃ j : Nat, ∃ o : Oper, j < i ∧ ops[j]? = some o ∧ o.dst = some t ∧ v = (S (j + 1)).info.v) ∨ ((∀ (j : Nat) (o : Oper), j < i → ops[j]? = some o → o.dst ≠ some t) ∧ (S 0).f.get t = some v)
  | 0, _, t, v, e => .inr ⟨fun j o hj => by omega, e⟩
  | i + 1, hi, t, v, e => by
    have ho := Array.getElem?_eq_getElem (show i < ops.size by omega)
    obtain ⟨s', -, -, -, -, h5⟩ := h.step i _ ho
    have e' : (putD (S i).f (ops[i]).dst (S (i + 1)).info.v).get t = some v := by rw [h5] at e; exact e
    have old : (S i).f.get t = some v → (ops[i]).dst ≠ some t → (∃ j : Nat, ∃ o : Oper, j < i + 1 ∧ ops[j]? = some o ∧ o.dst = some t ∧ v = (S (j + 1)).info.v) ∨ ((∀ (j : Nat) (o : Oper), j < i + 1 → ops[j]? = some o → o.dst ≠ some t) ∧ (S 0).f.get t = some v) := by
      intro g hne
      rcases Run.slot h i (by omega) t v g with ⟨j, o, g1, g2, g3⟩ | ⟨g1, g2⟩
      · exact .inl ⟨j, o, by omega, g2, g3⟩
      · refine .inr ⟨fun j o hj hoj => ?_, g2⟩
        by_cases hji : j = i
        · subst hji
          rw [ho] at hoj
          cases hoj
          exact hne
        · exact g1 j o (by omega) hoj
    unfold putD at e'
    split at e'
    · rename_i hd
      exact old e' (by rw [hd]; simp)
    · rename_i d hd
      rcases Tr.set_get _ _ _ _ _ _ e' with ⟨rfl, g⟩ | ⟨hne, g⟩
      · cases g
        exact .inl ⟨i, _, by omega, ho, hd, rfl⟩
      · exact old g (by rw [hd]; intro e; cases e; exact hne rfl)
/-- What an operation sees: a slot of the frame at the start that nobody turns, or a forerunner's. -/
theorem Run.sees (h : Run T call N ops dm S) (h0 : (S 0).ms = .e) (hdm : dmOf ops.toList 0 .e = some dm) {i : Nat} {o : Oper} (ho : ops[i]? = some o) {t : Tmp} {v : AV} (e : (S (i + 1)).info.fo.get t = some v) :
    ((∀ (j : Nat) (o : Oper), ops[j]? = some o → o.dst ≠ some t) ∧ (S 0).f.get t = some v) ∨ ∃ j : Nat, ∃ oj : Oper, bit (S (i + 1)).info.mask j = true ∧ ops[j]? = some oj ∧ oj.dst = some t ∧ v = (S (j + 1)).info.v := by
  obtain ⟨d1, -, d3⟩ := dmOf_ok hdm
  have hi := (Array.getElem?_eq_some_iff.1 ho).1
  obtain ⟨s', -, -, -, h4, -⟩ := h.step i o ho
  rw [h4] at e
  rcases frameO_get e with ⟨e1, e2⟩ | e1
  · rcases h.slot i (by omega) t v e1 with ⟨j, oj, g1, g2, g3, g4⟩ | ⟨g1, g2⟩
    · have hg := d1 j oj t (by simpa using g2) g3
      rw [Nat.zero_add] at hg
      rcases e2 with e2 | ⟨j', e2, e3⟩
      · rw [hg] at e2; cases e2
      · rw [hg] at e2; cases e2
        exact .inr ⟨j, oj, e3, g2, g3, g4⟩
    · rcases e2 with e2 | ⟨j', e2, e3⟩
      · refine .inl ⟨fun j oj hoj hd => ?_, g2⟩
        rw [d1 j oj t (by simpa using hoj) hd] at e2; cases e2
      · exfalso
        rcases d3 t j' e2 with e4 | ⟨k, ok, k1, k2, k3⟩
        · cases e4
        · rw [Nat.zero_add] at k3
          subst k3
          exact g1 j' ok (h.lt h0 i j' hi e3) (by simpa using k1) k2
  · cases e1
end Go.Proofs.YtbjpkfaiofkmdaaGreatDoor.Ev
