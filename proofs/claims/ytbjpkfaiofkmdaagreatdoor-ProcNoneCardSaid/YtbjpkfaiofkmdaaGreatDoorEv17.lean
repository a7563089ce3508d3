/-
  A RECKONER OF CLOSED CALLS, SEVENTEENTH PART: regions that draw, reckoned once, are right. No program in sight; no condition.
-/
import Derived.Test.YtbjpkfaiofkmdaaGreatDoorEv16
namespace Go.Proofs.YtbjpkfaiofkmdaaGreatDoor.Ev
open Go Go.RowKit

variable {P : Program} {T : Tb} {l : Env} {H : Hp} {w : World} {N : Nat} {call : CallF} {ops : Array Oper} {dm : Tr Nat} {S : Nat → PS}

theorem besideAll_ok {i : Nat} {op : Op} {r : OI} : ∀ {L : List PS} {j : Nat}, besideAll T i op r j L = true → ∀ k a b, L[k]? = some a → L[k + 1]? = some b → isW b.info.cl = true → besideV T i op r (j + k) a b = true
  | [], _, _, _, _, _, e, _, _ => by cases e
  | [_], _, _, 0, _, _, _, e, _ => by cases e
  | [_], _, _, k + 1, _, _, e, _, _ => by simp at e
  | s :: s' :: rest, j, h, k, a, b, e1, e2, e3 => by
    unfold besideAll at h
    cases k with
    | zero =>
      cases e1
      have : s' = b := by simpa using e2
      subst this
      rw [e3] at h
      simp only at h
      split at h
      · assumption
      · cases h
    | succ k =>
      have key : besideAll T i op r (j + 1) (s' :: rest) = true := by
        split at h
        · split at h
          · exact h
          · cases h
        · exact h
      have := besideAll_ok key k a b (by simpa using e1) (by simpa using e2) e3
      rw [show j + (k + 1) = j + 1 + k from by omega]; exact this
theorem concD_ok {all : List PS} : ∀ {os : List Oper} {L : List PS} {i : Nat}, concD T all i os L = true → ∀ k o a b, os[k]? = some o → L[k]? = some a → L[k + 1]? = some b → isR b.info.cl = true → besideAll T (i + k) o.op b.info 0 all = true
  | [], _, _, _, k, _, _, _, e, _, _, _ => by cases e
  | _ :: _, [], _, _, _, _, _, _, _, e, _, _ => by cases e
  | _ :: _, [_], _, _, k, _, _, _, _, _, e, _ => by simp at e
  | o0 :: os, s :: s' :: rest, i, h, k, o, a, b, e0, e1, e2, e3 => by
    unfold concD at h
    cases k with
    | zero =>
      cases e0
      have : s' = b := by simpa using e2
      subst this
      rw [e3] at h
      simp only at h
      split at h
      · assumption
      · cases h
    | succ k =>
      have key : concD T all (i + 1) os (s' :: rest) = true := by
        split at h
        · split at h
          · exact h
          · cases h
        · exact h
      have := concD_ok key k o a b (by simpa using e0) (by simpa using e1) (by simpa using e2) e3
      rw [show i + (k + 1) = i + 1 + k from by omega]; exact this
theorem besideV_ok {i j : Nat} {op : Op} {r : OI} {a b : PS} (h : besideV T i op r j a b = true) (h1 : bit r.mask j = false) (h2 : bit b.info.mask i = false) : ropV T r.fo a.Hc op = some r.v ∧ ropV T r.fo b.Hc op = some r.v := by
  unfold besideV at h
  rw [h1, h2] at h
  simp only at h
  split at h
  · rename_i x y hx hy
    simp only [Bool.and_eq_true] at h
    rw [eqA_ok h.1] at hx
    rw [eqA_ok h.2] at hy
    exact ⟨hx, hy⟩
  · cases h
theorem ropV_ok (hT : TbOk P T) {fo : Tr AV} {t : Tr AObj} {n : Nat} (hr : HR T.sz l ⟨t, n⟩ w) {ρ : Operand → Value} (hρ : ∀ x, Ev l fo ρ x) {o : Oper} {v : AV} (e : ropV T fo t o.op = some v) : ∃ x, (execOp ρ o).run P w = .ok (.value x) w ∧ VR l v x := by
  unfold execOp
  generalize o.op = op at e
  unfold ropV at e
  split at e
  · rename_i ty a
    split at e
    · rename_i b off ha
      have ha := hρ _ _ ha
      obtain ⟨k, κ, x, h1, h2, h3⟩ := loadV_ok (P := P) hT hr (show loadV T ⟨t, n⟩ ty b off = some v from e)
      generalize hav : ρ a = av at ha
      cases ha with | ptr _ hl => ?_
      rw [hl] at h1
      cases h1
      simp only [hav]
      exact ⟨x, by simp [Instr.loadAt, Instr.sureAddr, h2], h3⟩
    · cases e
  · rename_i ty a k ok
    split at e
    · rename_i av kv ha hk
      obtain ⟨x, h1, h2⟩ := lookupV_ok (P := P) hT hr (show lookupV T ⟨t, n⟩ ty av kv ok = some v from e) (hρ _ _ ha) (hρ _ _ hk)
      exact ⟨x, by rw [Sem.run_bind, h1]; rfl, h2⟩
    · cases e
  · cases e
theorem putAll_get : ∀ {ps : List (Nat × Nat × AObj)} {t : Tr AObj} {b : Nat} {o : AObj}, (putAll ps t).get b = some o → (∃ j, (j, b, o) ∈ ps) ∨ t.get b = some o
  | [], _, _, _, h => .inr h
  | (j, b0, o0) :: r, t, b, o, h => by
    unfold putAll at h
    rcases putAll_get h with ⟨j', h1⟩ | h1
    · exact .inl ⟨j', by simp [h1]⟩
    · rcases Tr.set_get _ _ _ _ _ _ h1 with ⟨rfl, e⟩ | ⟨-, e⟩
      · cases e; exact .inl ⟨j, by simp⟩
      · exact .inr e

/-! the act behind the region -/
theorem fillAll_size {a : Act} {dst : Nat → Tmp} {v : Nat → Value} : ∀ n, (fillAll a dst v n).tmps.size = a.tmps.size ∧ (fillAll a dst v n).defers = a.defers
  | 0 => ⟨rfl, rfl⟩
  | n + 1 => by
    obtain ⟨h1, h2⟩ := fillAll_size (a := a) (dst := dst) (v := v) n
    exact ⟨by simp [fillAll, Act.put, h1], by simp [fillAll, Act.put, h2]⟩
theorem fillAll_other {a : Act} {dst : Nat → Tmp} {v : Nat → Value} {t : Nat} : ∀ n, (∀ j, j < n → dst j ≠ t) → (fillAll a dst v n).tmps[t]? = a.tmps[t]?
  | 0, _ => rfl
  | n + 1, h => by
    have ih := fillAll_other (a := a) (v := v) n fun j hj => h j (by omega)
    simp only [fillAll, Act.put]
    rw [Array.getElem?_setIfInBounds_ne (h n (by omega))]; exact ih
theorem fillAll_at {a : Act} {dst : Nat → Tmp} {v : Nat → Value} {i : Nat} (hs : dst i < a.tmps.size) : ∀ n, (∀ j k, j < n → k < n → dst j = dst k → j = k) → i < n → (fillAll a dst v n).tmps[dst i]? = some (v i)
  | 0, _, h => by omega
  | n + 1, hd, h => by
    simp only [fillAll, Act.put]
    by_cases e : i = n
    · subst e
      have := (fillAll_size (a := a) (dst := dst) (v := v) i).1
      simp [this, hs]
    · rw [Array.getElem?_setIfInBounds_ne (fun e2 => e (hd n i (by omega) h e2).symm)]
      exact fillAll_at hs n (fun j k hj hk => hd j k (by omega) (by omega)) (by omega)
end Go.Proofs.YtbjpkfaiofkmdaaGreatDoor.Ev
