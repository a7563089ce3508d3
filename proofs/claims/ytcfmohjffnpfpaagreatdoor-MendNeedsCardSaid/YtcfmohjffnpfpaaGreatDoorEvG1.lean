/-
  A FASTER RECKONER: an operation looks at its operands alone. No program in sight; no condition.
-/
import Derived.Test.YtcfmohjffnpfpaaGreatDoorEvF5
import Derived.Test.YtcfmohjffnpfpaaGreatDoorEv19
namespace Go.Proofs.YtcfmohjffnpfpaaGreatDoor.Ev
open Go Go.RowKit

variable {P : Program} {T : Tb} {lo : Nat} {H : Hp} {N : Nat}
def Mono (f f' : Tr AV) (xs : List Operand) : Prop := ∀ x ∈ xs, ∀ v, evalO f x = some v → evalO f' x = some v
theorem Mono.os {f f' : Tr AV} : ∀ {xs : List Operand} {vs : List AV}, Mono f f' xs → evalOs f xs = some vs → evalOs f' xs = some vs
  | [], _, _, h => h
  | x :: r, vs, hm, h => by
    rw [evalOs] at h
    split at h
    · cases h
    rename_i v hv
    split at h
    · cases h
    rename_i l hl
    rw [evalOs, hm x (by simp) v hv, Mono.os (fun y hy => hm y (by simp [hy])) hl]; exact h
theorem Mono.ps {f f' : Tr AV} : ∀ {ps : List (Nat × Operand)} {vs : List (Nat × AV)}, Mono f f' (ps.map (·.2)) → evalP f ps = some vs → evalP f' ps = some vs
  | [], _, _, h => h
  | (i, x) :: r, vs, hm, h => by
    rw [evalP] at h
    split at h
    · cases h
    rename_i v hv
    split at h
    · cases h
    rename_i l hl
    rw [evalP, hm x (by simp) v hv, Mono.ps (fun y hy => hm y (by simp at hy ⊢; exact .inr hy)) hl]; exact h
theorem Mono.nat {f f' : Tr AV} {x : Option Operand} {n : Option Nat} (hm : Mono f f' x.toList) (h : natO f x = some n) : natO f' x = some n := by
  cases x with
  | none => exact h
  | some x =>
    simp only [natO] at h ⊢
    split at h
    · cases h
    rename_i v hv
    rw [hm x (by simp) v hv]; exact h
theorem vop_mono {f f' : Tr AV} {op : Op} {r : AV × Hp} (hm : Mono f f' op.operands.toList) (h : vop T lo f H op = some r) : vop T lo f' H op = some r := by
  cases op <;> simp only [vop] at h ⊢
  case move x =>
    unfold pickO at h ⊢
    cases ex : evalO f x with
    | none => rw [ex] at h; cases h
    | some ux =>
    rw [ex] at h
    rw [hm x (by simp [Op.operands]) ux ex]
    exact h
  case assign x =>
    unfold pickO at h ⊢
    cases ex : evalO f x with
    | none => rw [ex] at h; cases h
    | some ux =>
    rw [ex] at h
    rw [hm x (by simp [Op.operands]) ux ex]
    exact h
  case pick c a b =>
    cases ec : evalO f c with
    | none => rw [ec] at h; cases h
    | some uc =>
    rw [ec] at h
    rw [hm c (by simp [Op.operands]) uc ec]
    split at h
    · unfold pickO at h ⊢
      cases ea : evalO f a with
      | none => rw [ea] at h; cases h
      | some v =>
      rw [ea] at h
      rw [hm a (by simp [Op.operands]) v ea]; exact h
    · unfold pickO at h ⊢
      cases ea : evalO f b with
      | none => rw [ea] at h; cases h
      | some v =>
      rw [ea] at h
      rw [hm b (by simp [Op.operands]) v ea]; exact h
    · cases h
  case alloc  =>
    exact h
  case box e x =>
    cases ex : evalO f x with
    | none => rw [ex] at h; cases h
    | some ux =>
    rw [ex] at h
    rw [hm x (by simp [Op.operands]) ux ex]
    exact h
  case build t parts =>
    cases e : evalP f parts.toList with
    | none => rw [e] at h; cases h
    | some ps =>
    rw [e] at h
    rw [Mono.ps (ps := parts.toList) (fun y hy => hm y (by simpa [Op.operands] using hy)) e]; exact h
  case buildSlice t n parts =>
    cases e : evalP f parts.toList with
    | none => rw [e] at h; cases h
    | some ps =>
    rw [e] at h
    rw [Mono.ps (ps := parts.toList) (fun y hy => hm y (by simpa [Op.operands] using hy)) e]; exact h
  case insert t m k x =>
    cases em : evalO f m with
    | none => rw [em] at h; cases h
    | some um =>
    rw [em] at h
    rw [hm m (by simp [Op.operands]) um em]
    cases ek : evalO f k with
    | none => rw [ek] at h; cases h
    | some uk =>
    rw [ek] at h
    rw [hm k (by simp [Op.operands]) uk ek]
    cases ex : evalO f x with
    | none => rw [ex] at h; cases h
    | some ux =>
    rw [ex] at h
    rw [hm x (by simp [Op.operands]) ux ex]
    exact h
  case load t x =>
    cases ex : evalO f x with
    | none => rw [ex] at h; cases h
    | some ux =>
    rw [ex] at h
    rw [hm x (by simp [Op.operands]) ux ex]
    exact h
  case store t x y =>
    cases ex : evalO f x with
    | none => rw [ex] at h; cases h
    | some ux =>
    rw [ex] at h
    rw [hm x (by simp [Op.operands]) ux ex]
    cases ey : evalO f y with
    | none => rw [ey] at h; revert h; cases ux <;> (intro h; cases h)
    | some uy =>
    rw [ey] at h
    rw [hm y (by simp [Op.operands]) uy ey]
    exact h
  case ready => cases h
  case waits => cases h
  case nilCheck x =>
    cases ex : evalO f x with
    | none => rw [ex] at h; cases h
    | some ux =>
    rw [ex] at h
    rw [hm x (by simp [Op.operands]) ux ex]
    exact h
  case binOp op t x y yt =>
    cases ex : evalO f x with
    | none => rw [ex] at h; cases h
    | some ux =>
    rw [ex] at h
    rw [hm x (by simp [Op.operands]) ux ex]
    cases ey : evalO f y with
    | none => rw [ey] at h; revert h; cases ux <;> (intro h; cases h)
    | some uy =>
    rw [ey] at h
    rw [hm y (by simp [Op.operands]) uy ey]
    exact h
  case unOp op t x =>
    cases ex : evalO f x with
    | none => rw [ex] at h; cases h
    | some ux =>
    rw [ex] at h
    rw [hm x (by simp [Op.operands]) ux ex]
    exact h
  case convert s d x =>
    cases ex : evalO f x with
    | none => rw [ex] at h; cases h
    | some ux =>
    rw [ex] at h
    rw [hm x (by simp [Op.operands]) ux ex]
    exact h
  case sliceToArrayPointer => cases h
  case makeInterface t x =>
    cases ex : evalO f x with
    | none => rw [ex] at h; cases h
    | some ux =>
    rw [ex] at h
    rw [hm x (by simp [Op.operands]) ux ex]
    exact h
  case makeFunc fn a c =>
    cases e : evalOs f a.toList with
    | none => rw [e] at h; cases h
    | some va =>
    rw [e] at h
    rw [Mono.os (xs := a.toList) (fun y hy => hm y (by simp [Op.operands]; exact .inl (by simpa using hy))) e]
    cases e2 : evalOs f c.toList with
    | none => rw [e2] at h; cases h
    | some vc =>
    rw [e2] at h
    rw [Mono.os (xs := c.toList) (fun y hy => hm y (by simp [Op.operands]; exact .inr (by simpa using hy))) e2]; exact h
  case makeMap t r =>
    cases r <;> exact h
  case makeChan t n =>
    cases e : natO f (some n) with
    | none => rw [e] at h; cases h
    | some m =>
    rw [e] at h
    rw [Mono.nat (x := some n) (fun y hy => hm y (by simpa [Op.operands] using hy)) e]; exact h
  case makeSlice t n c =>
    cases e : natO f (some n) with
    | none => rw [e] at h; cases h
    | some m =>
    rw [e] at h
    rw [Mono.nat (x := some n) (fun y hy => hm y (by simp [Op.operands] at hy ⊢; exact .inl hy)) e]
    cases e2 : natO f (some c) with
    | none => rw [e2] at h; cases m <;> cases h
    | some m2 =>
    rw [e2] at h
    rw [Mono.nat (x := some c) (fun y hy => hm y (by simp [Op.operands] at hy ⊢; exact .inr hy)) e2]; exact h
  case slice t x a b c =>
    cases ex : evalO f x with
    | none => rw [ex] at h; cases h
    | some ux =>
    rw [ex] at h
    rw [hm x (by simp [Op.operands]) ux ex]
    cases ea : natO f a with
    | none => rw [ea] at h; cases h
    | some ma =>
    rw [ea] at h
    rw [Mono.nat (x := a) (fun y hy => hm y (by simp [Op.operands] at hy ⊢; simp [hy])) ea]
    cases eb : natO f b with
    | none => rw [eb] at h; cases h
    | some mb =>
    rw [eb] at h
    rw [Mono.nat (x := b) (fun y hy => hm y (by simp [Op.operands] at hy ⊢; simp [hy])) eb]
    cases ec : natO f c with
    | none => rw [ec] at h; cases h
    | some mc =>
    rw [ec] at h
    rw [Mono.nat (x := c) (fun y hy => hm y (by simp [Op.operands] at hy ⊢; simp [hy])) ec]
    exact h
  case fieldAddr t x n =>
    cases ex : evalO f x with
    | none => rw [ex] at h; cases h
    | some ux =>
    rw [ex] at h
    rw [hm x (by simp [Op.operands]) ux ex]
    exact h
  case field t x n =>
    cases ex : evalO f x with
    | none => rw [ex] at h; cases h
    | some ux =>
    rw [ex] at h
    rw [hm x (by simp [Op.operands]) ux ex]
    exact h
  case indexAddr t x i =>
    cases ex : evalO f x with
    | none => rw [ex] at h; cases h
    | some ux =>
    rw [ex] at h
    rw [hm x (by simp [Op.operands]) ux ex]
    cases e : natO f (some i) with
    | none => rw [e] at h; cases h
    | some m =>
    rw [e] at h
    rw [Mono.nat (x := some i) (fun y hy => hm y (by simp [Op.operands] at hy ⊢; simp [hy])) e]; exact h
  case index t x i =>
    cases ex : evalO f x with
    | none => rw [ex] at h; cases h
    | some ux =>
    rw [ex] at h
    rw [hm x (by simp [Op.operands]) ux ex]
    cases e : natO f (some i) with
    | none => rw [e] at h; cases h
    | some m =>
    rw [e] at h
    rw [Mono.nat (x := some i) (fun y hy => hm y (by simp [Op.operands] at hy ⊢; simp [hy])) e]; exact h
  case lookup t x y ok =>
    cases ex : evalO f x with
    | none => rw [ex] at h; cases h
    | some ux =>
    rw [ex] at h
    rw [hm x (by simp [Op.operands]) ux ex]
    cases ey : evalO f y with
    | none => rw [ey] at h; revert h; cases ux <;> (intro h; cases h)
    | some uy =>
    rw [ey] at h
    rw [hm y (by simp [Op.operands]) uy ey]
    exact h
  case mapUpdate t m k x =>
    cases em : evalO f m with
    | none => rw [em] at h; cases h
    | some um =>
    rw [em] at h
    rw [hm m (by simp [Op.operands]) um em]
    cases ek : evalO f k with
    | none => rw [ek] at h; cases h
    | some uk =>
    rw [ek] at h
    rw [hm k (by simp [Op.operands]) uk ek]
    cases ex : evalO f x with
    | none => rw [ex] at h; cases h
    | some ux =>
    rw [ex] at h
    rw [hm x (by simp [Op.operands]) ux ex]
    exact h
  case mapEntry => cases h
  case entryStore => cases h
  case range t x =>
    cases ex : evalO f x with
    | none => rw [ex] at h; cases h
    | some ux =>
    rw [ex] at h
    rw [hm x (by simp [Op.operands]) ux ex]
    exact h
  case next x b =>
    cases ex : evalO f x with
    | none => rw [ex] at h; cases h
    | some ux =>
    rw [ex] at h
    rw [hm x (by simp [Op.operands]) ux ex]
    exact h
  case entry => cases h
  case typeAssert x xt a ok =>
    cases ex : evalO f x with
    | none => rw [ex] at h; cases h
    | some ux =>
    rw [ex] at h
    rw [hm x (by simp [Op.operands]) ux ex]
    exact h
  case extract x i =>
    cases ex : evalO f x with
    | none => rw [ex] at h; cases h
    | some ux =>
    rw [ex] at h
    rw [hm x (by simp [Op.operands]) ux ex]
    exact h
  case call c =>
    split at h
    · rename_i b hc
      cases e : evalOs f c.args.toList with
      | none => rw [e] at h; cases h
      | some vs =>
      rw [e] at h
      rw [Mono.os (xs := c.args.toList) (fun y hy => hm y (by simp [Op.operands, Call.operands, hc]; simpa using hy)) e]; exact h
    · cases h
  case go => cases h
  case defer => cases h
  case panic => cases h
  case send => cases h
  case recv => cases h
  case select => cases h
theorem opV_mono {f f' : Tr AV} {call : CallF} {op : Op} {r : AV × Hp} (hm : Mono f f' op.operands.toList) (h : opV T call f H op = some r) : opV T call f' H op = some r := by
  cases op with
  | call c =>
    simp only [opV] at h ⊢
    split at h
    · rename_i g hc
      have m1 : Mono f f' [g] := fun y hy => hm y (by simp at hy; subst hy; simp [Op.operands, Call.operands, hc])
      have m2 : Mono f f' c.args.toList := fun y hy => hm y (by simp [Op.operands, Call.operands, hc]; exact .inr (by simpa using hy))
      split at h
      · rename_i fid a cp hg
        rw [m1 g (by simp) _ hg]
        split at h
        · rename_i vs has; simp only [m2.os has]; exact h
        · cases h
      · rename_i n t v a cp hg
        rw [m1 g (by simp) _ hg]
        split at h
        · rename_i fid vs hf has; simp only [hf, m2.os has]; exact h
        · cases h
      · cases h
    · exact vop_mono (T := T) (lo := T.lo) (H := H) hm h
    · rename_i rc n hc
      have m1 : Mono f f' [rc] := fun y hy => hm y (by simp at hy; subst hy; simp [Op.operands, Call.operands, hc])
      have m2 : Mono f f' c.args.toList := fun y hy => hm y (by simp [Op.operands, Call.operands, hc]; exact .inr (by simpa using hy))
      split at h
      · rename_i t v hg
        rw [m1 rc (by simp) _ hg]
        split at h
        · rename_i fid vs hf has; simp only [hf, m2.os has]; exact h
        · cases h
      · cases h
  | _ => exact vop_mono (T := T) (lo := T.lo) (H := H) hm h
theorem frameO_has {dm : Tr Nat} {mask : Nat} {f : Tr AV} : ∀ {ts : List Tmp} {g : Tr AV} {t : Tmp} {v : AV}, (∀ x ∈ ts, x < 1000) → (t ∈ ts ∨ g.get t = some v) → f.get t = some v → (dm.get t = none ∨ ∃ j, dm.get t = some j ∧ bit mask j = true) → (frameO dm mask f ts g).get t = some v
  | [], g, t, v, _, h, _, _ => by
    rcases h with h | h
    · cases h
    · exact h
  | x :: r, g, t, v, hb, h, hf, ha => by
    have hb' : ∀ y ∈ r, y < 1000 := fun y hy => hb y (by simp [hy])
    have hx : x < 1000 := hb x (by simp)
    have setx : ∀ u, f.get x = some u → (t = x ∨ t ∈ r ∨ g.get t = some v) → (t ∈ r ∨ (g.set 10 x (some u)).get t = some v) := by
      intro u hu h
      rw [Tr.set_at 10 g x (some u) t (Nat.lt_of_lt_of_le (Nat.succ_lt_succ hx) (by decide))]
      by_cases e : t = x
      · subst e; rw [hf] at hu; cases hu; exact .inr (by simp)
      · rw [if_neg e]
        rcases h with h | h | h
        · exact absurd h e
        · exact .inl h
        · exact .inr h
    have h' : t = x ∨ t ∈ r ∨ g.get t = some v := by
      rcases h with h | h
      · rcases List.mem_cons.1 h with h | h
        · exact .inl h
        · exact .inr (.inl h)
      · exact .inr (.inr h)
    unfold frameO
    split
    · rename_i hn
      refine frameO_has hb' ?_ hf ha
      rcases h' with rfl | h | h
      · rw [hn] at hf; cases hf
      · exact .inl h
      · exact .inr h
    · rename_i u hu
      split
      · exact frameO_has hb' (setx u hu h') hf ha
      · rename_i j hj
        split
        · exact frameO_has hb' (setx u hu h') hf ha
        · rename_i hbit
          refine frameO_has hb' ?_ hf ha
          rcases h' with rfl | h | h
          · rcases ha with ha | ⟨k, ha, hk⟩
            · rw [hj] at ha; cases ha
            · rw [hj] at ha; cases ha; rw [hbit] at hk; cases hk
          · exact .inl h
          · exact .inr h
end Go.Proofs.YtcfmohjffnpfpaaGreatDoor.Ev
