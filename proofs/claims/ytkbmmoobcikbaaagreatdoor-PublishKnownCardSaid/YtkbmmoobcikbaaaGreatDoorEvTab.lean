/-
  A RECKONER OF CLOSED CALLS: its tables, out of rows. No program in sight; no condition.
-/
import Derived.Test.YtkbmmoobcikbaaaGreatDoorGEC
namespace Go.Proofs.YtkbmmoobcikbaaaGreatDoor.Ev
open Go

structure TRow where
  n : Nat
  und : TypeDesc
  info : TypeInfo
structure FRow where
  n : Nat
  fn : Func
noncomputable def zeroOf (i : TypeInfo) : Option AV := match i.zero with
  | some x => absV x
  | none => none
noncomputable def tiOf (r : TRow) : TI := ⟨r.und, r.info.size, r.info.bytes, zeroOf r.info, rowDesc r.und⟩
noncomputable def codeOf (fn : Func) : Code := match fn.body with
  | some c => c
  | none => .skip
noncomputable def fiOf (r : FRow) : FI := ⟨r.fn.ntmps, codeOf r.fn, r.fn.results.toList⟩
noncomputable def tyTr : List TRow → Tr TI → Tr TI
  | [], t => t
  | r :: rs, t => tyTr rs (t.set 14 r.n (some (tiOf r)))
noncomputable def fnTr : List FRow → Tr FI → Tr FI
  | [], t => t
  | r :: rs, t => fnTr rs (t.set 14 r.n (some (fiOf r)))
theorem tyTr_get : ∀ (rs : List TRow) (t : Tr TI) (j : Nat) (i : TI), (tyTr rs t).get j = some i → (∃ r ∈ rs, r.n = j ∧ i = tiOf r) ∨ t.get j = some i
  | [], _, _, _, h => .inr h
  | r :: rs, t, j, i, h => by
    rcases tyTr_get rs _ j i h with ⟨r', h1, h2⟩ | h2
    · exact .inl ⟨r', by simp [h1], h2⟩
    · rcases Tr.set_get _ _ _ _ _ _ h2 with ⟨rfl, e⟩ | ⟨-, e⟩
      · cases e; exact .inl ⟨r, by simp, rfl, rfl⟩
      · exact .inr e
theorem fnTr_get : ∀ (rs : List FRow) (t : Tr FI) (j : Nat) (i : FI), (fnTr rs t).get j = some i → (∃ r ∈ rs, r.n = j ∧ i = fiOf r) ∨ t.get j = some i
  | [], _, _, _, h => .inr h
  | r :: rs, t, j, i, h => by
    rcases fnTr_get rs _ j i h with ⟨r', h1, h2⟩ | h2
    · exact .inl ⟨r', by simp [h1], h2⟩
    · rcases Tr.set_get _ _ _ _ _ _ h2 with ⟨rfl, e⟩ | ⟨-, e⟩
      · cases e; exact .inl ⟨r, by simp, rfl, rfl⟩
      · exact .inr e
noncomputable def inL : List Nat → Nat → Bool
  | [], _ => false
  | x :: r, t => match Nat.beq x t with
    | true => true
    | false => inL r t
theorem inL_ok : ∀ {r : List Nat} {t : Nat}, inL r t = true → t ∈ r
  | x :: r, t, h => by
    unfold inL at h
    split at h
    · rename_i e; have := Nat.eq_of_beq_eq_true e; subst this; simp
    · simp [inL_ok h]
/-- A type's methods that are reached at once. -/
structure MRow where
  t : Nat
  name : String
  fn : Nat
noncomputable def mthL : List MRow → TypeId → String → Option FuncId
  | [], _, _ => none
  | r :: rs, t, n => match Nat.beq r.t t with
    | true => match decide (r.name = n) with
      | true => some r.fn
      | false => mthL rs t n
    | false => mthL rs t n
theorem mthL_ok : ∀ {rs : List MRow} {t : TypeId} {n : String} {f : FuncId}, mthL rs t n = some f → ∃ r ∈ rs, r.t = t ∧ r.name = n ∧ r.fn = f
  | r :: rs, t, n, f, h => by
    unfold mthL at h
    split at h
    · rename_i h1
      split at h
      · rename_i h2
        exact ⟨r, by simp, Nat.eq_of_beq_eq_true h1, of_decide_eq_true h2, Option.some.inj h⟩
      · obtain ⟨r', g1, g2⟩ := mthL_ok h
        exact ⟨r', by simp [g1], g2⟩
    · obtain ⟨r', g1, g2⟩ := mthL_ok h
      exact ⟨r', by simp [g1], g2⟩
noncomputable def MRowOk (P : Program) (r : MRow) : Prop := ∀ v w, (method (P.types.size + Made.depth) r.t v r.name).run P w = .ok (r.fn, v) w ∧ (nilAhead (P.types.size + Made.depth) r.t v r.name).run P w = .ok (some false) w
noncomputable def isPtrD : TypeDesc → Bool
  | .pointer _ => true
  | _ => false
theorem mrow_ok {P : Program} {r : MRow} {i : TypeInfo} {d : TypeDesc} {b : Bool} (hi : P.info? r.t = some i) (hu : P.underlying r.t = some d) (hm : (i.methods.find? (·.name == r.name)).map (fun m => (m.path.toList, m.func)) = some ([], some (r.fn, b))) (hb : b = isPtrD d) : MRowOk P r := by
  intro v w
  cases hf : i.methods.find? (·.name == r.name) with
  | none => rw [hf] at hm; cases hm
  | some m =>
    rw [hf] at hm
    simp only [Option.map_some, Option.some.injEq, Prod.mk.injEq] at hm
    obtain ⟨hp, hg⟩ := hm
    show (method ((P.types.size + 99) + 1) r.t v r.name).run P w = _ ∧ (nilAhead ((P.types.size + 99) + 1) r.t v r.name).run P w = _
    generalize P.types.size + 99 = n
    subst hb
    rw [method, nilAhead]
    cases d <;> simp [typeInfo, hi, hf, hp, hg, follow, followBlind, receiverAt, run_underlying hu, isPtrD, Place.get]
noncomputable def tbOf (ts : List TRow) (fs : List FRow) (eqs : List Nat) (hook : FuncId → List AV → Hp → Option (AV × Hp)) (ms : List MRow) : Tb :=
  let tt := tyTr ts .e
  let ft := fnTr fs .e
  ⟨tt.get, ft.get, fun t => match tt.get t with | some i => i.size | none => 0, inL eqs, hook, mthL ms, 0⟩
theorem leafV_ne {x : Value} {a : AV} (h : leafV x = some a) : ∀ u, a ≠ .cst u := by
  rintro u rfl
  unfold leafV at h
  split at h <;> cases h
theorem absV_ne {x : Value} {a : AV} (h : absV x = some a) : ∀ u, a ≠ .cst u := by
  unfold absV at h
  split at h
  · split at h <;> cases h
    intro u e; cases e
  · split at h <;> cases h
    intro u e; cases e
  · exact leafV_ne h
structure TRowOk (P : Program) (r : TRow) : Prop where
  und : P.underlying r.n = some r.und
  info : P.info? r.n = some r.info
structure FRowOk (P : Program) (r : FRow) : Prop where
  fn : P.funcs[r.n]? = some r.fn
  body : r.fn.body.isSome = true
  call : ∀ args w, (callFunc r.n args).run P w = .ok (.enter r.n args) w
theorem tbOf_ok {P : Program} {ts : List TRow} {fs : List FRow} {eqs : List Nat} {hook : FuncId → List AV → Hp → Option (AV × Hp)} {ms : List MRow} (h1 : ∀ r ∈ ts, TRowOk P r) (h2 : ∀ r ∈ fs, FRowOk P r)
    (h3 : ∀ t ∈ eqs, P.stoodInHeld t = false ∧ P.eqGuardType P.depth t = false ∧ ∀ f ∈ (P.fieldsOf t).toList, f.name ≠ "_") (hm : P.follows .mixedOrders = true) (h4 : ∀ r ∈ ms, MRowOk P r) : TbOk P (tbOf ts fs eqs hook ms) := by
  have ht : ∀ t i, (tbOf ts fs eqs hook ms).ty t = some i → ∃ r ∈ ts, r.n = t ∧ i = tiOf r := fun t i h => by
    rcases tyTr_get ts .e t i h with e | e
    · exact e
    · cases e
  refine ⟨fun t i h => ?_, fun t i h => ?_, fun t i h => ?_, fun t i h => ?_, fun f i h => ?_, fun t h => h3 t (inL_ok h), hm, fun t n f h v w => ?_⟩
  · obtain ⟨r, hr, rfl, rfl⟩ := ht t i h
    exact (h1 r hr).und
  · obtain ⟨r, hr, rfl, rfl⟩ := ht t i h
    refine ⟨r.info, (h1 r hr).info, rfl, rfl, fun z hz => ?_⟩
    have hz : zeroOf r.info = some z := hz
    unfold zeroOf at hz
    split at hz
    · rename_i x hx
      exact ⟨absV_ne hz, x, hx, fun l => absV_ok hz l⟩
    · cases hz
  · obtain ⟨r, hr, rfl, rfl⟩ := ht t i h
    rfl
  · show (match (tbOf ts fs eqs hook ms).ty t with | some i => i.size | none => 0) = i.size
    rw [h]
  · rcases fnTr_get fs .e f i h with ⟨r, hr, rfl, rfl⟩ | e
    · refine ⟨r.fn, (h2 r hr).fn, ?_, rfl, rfl, (h2 r hr).call⟩
      obtain ⟨c, hc⟩ := Option.isSome_iff_exists.1 (h2 r hr).body
      rw [hc]
      show some c = some (codeOf r.fn)
      unfold codeOf
      rw [hc]
    · cases e
  · obtain ⟨r, g1, g2, g3, g4⟩ := mthL_ok h
    subst g2 g3 g4
    exact h4 r g1 v w
end Go.Proofs.YtkbmmoobcikbaaaGreatDoor.Ev
