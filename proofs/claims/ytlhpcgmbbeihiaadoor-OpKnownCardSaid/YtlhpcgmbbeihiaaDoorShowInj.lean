/-
  PLAIN: two answers that are shown alike are the same. No program in sight.
-/
import Derived.Test.YtlhpcgmbbeihiaaDoorShow
namespace Go.Proofs.YtlhpcgmbbeihiaaDoor
open Go.RowKit

theorem split32 : ∀ (A B X Y : List UInt8), (∀ c ∈ A, c ≠ 32) → (∀ c ∈ B, c ≠ 32) → A ++ 32 :: X = B ++ 32 :: Y → A = B ∧ X = Y
  | [], [], _, _, _, _, h => ⟨rfl, by simpa using h⟩
  | [], d :: B, _, _, _, hB, h => by
    simp only [List.nil_append, List.cons_append, List.cons.injEq] at h
    exact absurd h.1.symm (hB d (by simp))
  | c :: A, [], _, _, hA, _, h => by
    simp only [List.nil_append, List.cons_append, List.cons.injEq] at h
    exact absurd h.1 (hA c (by simp))
  | c :: A, d :: B, X, Y, hA, hB, h => by
    simp only [List.cons_append, List.cons.injEq] at h
    obtain ⟨h1, h2⟩ := split32 A B X Y (fun x hx => hA x (by simp [hx])) (fun x hx => hB x (by simp [hx])) h.2
    exact ⟨by rw [h.1, h1], h2⟩
theorem dec_mem : ∀ (u : Nat), ∀ c ∈ Lib.decDigits u, 48 ≤ c.toNat ∧ c.toNat ≤ 57 := by
  intro u
  induction u using Nat.strongRecOn with
  | _ u ih =>
    intro c hc
    rw [Lib.decDigits] at hc
    have key : ∀ k, k < 10 → (UInt8.ofNat (48 + k)).toNat = 48 + k := fun k hk => by rw [UInt8.toNat_ofNat']; omega
    split at hc
    · rename_i h
      rw [List.mem_singleton] at hc; subst hc
      have := key u h; omega
    · rename_i h
      rcases List.mem_append.1 hc with hc | hc
      · exact ih _ (by omega) c hc
      · rw [List.mem_singleton] at hc; subst hc
        have := key (u % 10) (by omega); omega
theorem dec_ne (u : Nat) : Lib.decDigits u ≠ [] := by
  rw [Lib.decDigits]; split <;> simp
def decVal (l : List UInt8) : Nat := l.foldl (fun n c => n * 10 + (c.toNat - 48)) 0
theorem decVal_dec : ∀ u, decVal (Lib.decDigits u) = u := by
  intro u
  induction u using Nat.strongRecOn with
  | _ u ih =>
    rw [Lib.decDigits]
    have key : ∀ k, k < 10 → (UInt8.ofNat (48 + k)).toNat = 48 + k := fun k hk => by rw [UInt8.toNat_ofNat']; omega
    split
    · rename_i h
      simp only [decVal, List.foldl_cons, List.foldl_nil]
      have := key u h; omega
    · rename_i h
      have h1 := ih (u / 10) (by omega)
      unfold decVal at h1 ⊢
      rw [List.foldl_append, h1, List.foldl_cons, List.foldl_nil]
      have := key (u % 10) (by omega); omega
theorem dec_inj {u v : Nat} (h : Lib.decDigits u = Lib.decDigits v) : u = v := by rw [← decVal_dec u, h, decVal_dec]
theorem itoa_inj' {a b : Int} (h : Lib.itoa a = Lib.itoa b) : a = b := by
  have no : ∀ u v : Nat, 45 :: Lib.decDigits u ≠ Lib.decDigits v := fun u v e => by
    have := dec_mem v 45 (by rw [← e]; simp)
    simp at this
  unfold Lib.itoa at h
  split at h <;> split at h
  · have := dec_inj (List.cons.inj h).2; omega
  · exact absurd h (no _ _)
  · exact absurd h.symm (no _ _)
  · have := dec_inj h; omega
theorem itoa_no32 (a : Int) : ∀ c ∈ Lib.itoa a, c ≠ 32 := by
  intro c hc e
  subst e
  unfold Lib.itoa at hc
  split at hc
  · rcases List.mem_cons.1 hc with h | h
    · simp at h
    · have := dec_mem _ _ h; simp at this
  · have := dec_mem _ _ hc; simp at this
theorem dec_no32 (a : Nat) : ∀ c ∈ Lib.decDigits a, c ≠ 32 := by
  intro c hc e
  subst e
  have := dec_mem _ _ hc; simp at this
def unhex (h : UInt8) : Nat := if h.toNat < 58 then h.toNat - 48 else h.toNat - 87
theorem unhex_at : ∀ k, k < 16 → unhex (hexL.getD k 0) = k ∧ hexL.getD k 0 ≠ 34 := by decide
theorem qb_cases (c : UInt8) : (quoteB c = [c] ∧ c ≠ 92 ∧ c ≠ 34) ∨ (∃ x y, quoteB c = [92, x, y] ∧ unhex x * 16 + unhex y = c.toNat) := by
  unfold quoteB
  split
  · rename_i h
    simp only [plainB, Bool.and_eq_true, decide_eq_true_eq] at h
    exact .inl ⟨rfl, fun e => h.2 (by rw [e]; rfl), fun e => h.1.2 (by rw [e]; rfl)⟩
  · have hc := c.toNat_lt
    refine .inr ⟨_, _, rfl, ?_⟩
    rw [(unhex_at (c.toNat / 16) (by omega)).1, (unhex_at (c.toNat % 16) (by omega)).1]; omega
theorem qb_inj {c d : UInt8} {X Y : List UInt8} (h : quoteB c ++ X = quoteB d ++ Y) : c = d ∧ X = Y := by
  rcases qb_cases c with ⟨h1, h2, h3⟩ | ⟨x, y, h1, h2⟩ <;> rcases qb_cases d with ⟨g1, g2, g3⟩ | ⟨x', y', g1, g2⟩ <;> rw [h1, g1] at h <;> simp only [List.cons_append, List.nil_append, List.cons.injEq] at h
  · exact ⟨h.1, h.2⟩
  · exact absurd h.1 h2
  · exact absurd h.1.symm g2
  · obtain ⟨-, rfl, rfl, rfl⟩ := h
    exact ⟨UInt8.toNat_inj.1 (by omega), rfl⟩
theorem qb_head (c : UInt8) (X Y : List UInt8) : quoteB c ++ X ≠ 34 :: Y := by
  intro e
  rcases qb_cases c with ⟨h1, h2, h3⟩ | ⟨x, y, h1, h2⟩ <;> rw [h1] at e <;> simp only [List.cons_append, List.nil_append, List.cons.injEq] at e
  · exact h3 e.1
  · exact absurd e.1 (by decide)
def qbody (s : List UInt8) : List UInt8 := (s.map quoteB).flatten
theorem qbody_inj : ∀ (s t X Y : List UInt8), qbody s ++ 34 :: X = qbody t ++ 34 :: Y → s = t ∧ X = Y
  | [], [], _, _, h => ⟨rfl, by simpa [qbody] using h⟩
  | [], d :: t, X, Y, h => by
    simp only [qbody, List.map_nil, List.flatten_nil, List.nil_append, List.map_cons, List.flatten_cons, List.append_assoc] at h
    exact absurd h.symm (qb_head _ _ _)
  | c :: s, [], X, Y, h => by
    simp only [qbody, List.map_nil, List.flatten_nil, List.nil_append, List.map_cons, List.flatten_cons, List.append_assoc] at h
    exact absurd h (qb_head _ _ _)
  | c :: s, d :: t, X, Y, h => by
    simp only [qbody, List.map_cons, List.flatten_cons, List.append_assoc] at h
    obtain ⟨h1, h2⟩ := qb_inj h
    obtain ⟨h3, h4⟩ := qbody_inj s t X Y h2
    exact ⟨by rw [h1, h3], h4⟩
theorem quoteF_eq (s : List UInt8) : quoteF s = 34 :: (qbody s ++ [34]) := by
  rw [quoteF, quoteAcc, List.take_length, qbody]; rfl
theorem quoteF_inj {s t X Y : List UInt8} (h : quoteF s ++ X = quoteF t ++ Y) : s = t ∧ X = Y := by
  rw [quoteF_eq, quoteF_eq] at h
  simp only [List.cons_append, List.append_assoc, List.nil_append, List.cons.injEq, true_and] at h
  exact qbody_inj s t X Y h
def namesL (l : List (List UInt8)) : List UInt8 := (l.map fun s => 32 :: quoteF s).flatten ++ [10]
theorem namesL_inj : ∀ (l m : List (List UInt8)), namesL l = namesL m → l = m
  | [], [], _ => rfl
  | [], t :: m, h => by simp [namesL] at h
  | s :: l, [], h => by simp [namesL] at h
  | s :: l, t :: m, h => by
    simp only [namesL, List.map_cons, List.flatten_cons, List.cons_append, List.append_assoc, List.cons.injEq, true_and] at h
    obtain ⟨h1, h2⟩ := quoteF_inj h
    rw [h1, namesL_inj l m h2]
theorem showF_parts (a : Ans) : showF a = Lib.itoa a.err ++ 32 :: (Lib.decDigits a.n.toNat ++ 32 :: (quoteF a.text ++ namesL a.names)) := by
  rw [showF, showWords, List.take_length, Lib.join_cons, Lib.joinTail, namesL]
  simp only [List.map_cons, List.flatten_cons, List.map_map, List.append_assoc, List.cons_append, List.nil_append]
  rfl
/-- **Those that are shown alike are the same.** -/
theorem showF_inj {a b : Ans} (ha : 0 ≤ a.n) (hb : 0 ≤ b.n) (h : showF a = showF b) : a = b := by
  rw [showF_parts, showF_parts] at h
  obtain ⟨h1, h2⟩ := split32 _ _ _ _ (itoa_no32 _) (itoa_no32 _) h
  obtain ⟨h3, h4⟩ := split32 _ _ _ _ (dec_no32 _) (dec_no32 _) h2
  obtain ⟨h5, h6⟩ := quoteF_inj h4
  have e1 := itoa_inj' h1
  have e2 := dec_inj h3
  have e3 := namesL_inj _ _ h6
  cases a; cases b
  simp only [Ans.mk.injEq] at *
  exact ⟨e1, by omega, h5, e3⟩
end Go.Proofs.YtlhpcgmbbeihiaaDoor
