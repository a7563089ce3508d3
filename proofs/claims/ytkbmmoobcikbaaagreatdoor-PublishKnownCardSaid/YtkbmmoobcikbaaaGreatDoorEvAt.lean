/-
  A FASTER RECKONER: a call upon known values and a known heap, reckoned in pieces, as a function by hand. No program in sight; no condition.
-/
import Derived.Test.YtkbmmoobcikbaaaGreatDoorGEH
import Derived.Test.YtkbmmoobcikbaaaGreatDoorEvHook
namespace Go.Proofs.YtkbmmoobcikbaaaGreatDoor.Ev
open Go Go.RowKit Go.Conc

variable {P : Program} {T : Tb} {N : Nat} {l : Env} {H : Hp} {w : World} {a : Act}
mutual
noncomputable def eqAV : AV → AV → Bool
  | .bool a, .bool b => match a, b with
    | true, true => true
    | false, false => true
    | _, _ => false
  | .int k n, .int k' n' => decide (k = k') && decide (n = n')
  | .str s, .str t => decide (s = t)
  | .nilp, .nilp => true
  | .ptr b o, .ptr b' o' => Nat.beq b b' && Nat.beq o o'
  | .nils, .nils => true
  | .sl b o n c, .sl b' o' n' c' => Nat.beq b b' && (Nat.beq o o' && (Nat.beq n n' && Nat.beq c c'))
  | .slo b o n c, .slo b' o' n' c' => Nat.beq b b' && (Nat.beq o o' && (Nat.beq n n' && Nat.beq c c'))
  | .sle, .sle => true
  | .map (some b), .map (some b') => Nat.beq b b'
  | .map none, .map none => true
  | .fn (.func g) a c, .fn (.func g') a' c' => Nat.beq g g' && (eqAVs a a' && eqAVs c c')
  | .nilfn, .nilfn => true
  | .ifc t v, .ifc t' v' => Nat.beq t t' && eqAV v v'
  | .nilif, .nilif => true
  | .agg a, .agg b => eqAVs a b
  | .tup a, .tup b => eqAVs a b
  | _, _ => false
noncomputable def eqAVs : List AV → List AV → Bool
  | [], [] => true
  | x :: r, y :: s => eqAV x y && eqAVs r s
  | _, _ => false
end
mutual
theorem eqAV_ok : ∀ (x y : AV), eqAV x y = true → x = y := by
  intro x y h
  cases x <;> cases y <;> first
    | (unfold eqAV at h; cases h; done)
    | rfl
    | skip
  case bool.bool a b => cases a <;> cases b <;> first | rfl | (simp [eqAV] at h)
  case int.int k n k' n' => simp only [eqAV, Bool.and_eq_true, decide_eq_true_eq] at h; obtain ⟨rfl, rfl⟩ := h; rfl
  case str.str s t => simp only [eqAV, decide_eq_true_eq] at h; rw [h]
  case ptr.ptr b o b' o' => simp only [eqAV, Bool.and_eq_true] at h; obtain ⟨h1, h2⟩ := h; rw [Nat.eq_of_beq_eq_true h1, Nat.eq_of_beq_eq_true h2]
  case sl.sl b o n c b' o' n' c' => simp only [eqAV, Bool.and_eq_true] at h; obtain ⟨h1, h2, h3, h4⟩ := h; rw [Nat.eq_of_beq_eq_true h1, Nat.eq_of_beq_eq_true h2, Nat.eq_of_beq_eq_true h3, Nat.eq_of_beq_eq_true h4]
  case slo.slo b o n c b' o' n' c' => simp only [eqAV, Bool.and_eq_true] at h; obtain ⟨h1, h2, h3, h4⟩ := h; rw [Nat.eq_of_beq_eq_true h1, Nat.eq_of_beq_eq_true h2, Nat.eq_of_beq_eq_true h3, Nat.eq_of_beq_eq_true h4]
  case map.map m m' =>
    cases m <;> cases m' <;> first | rfl | (unfold eqAV at h; cases h; done) | skip
    simp only [eqAV] at h
    rw [Nat.eq_of_beq_eq_true h]
  case fn.fn f a c f' a' c' =>
    cases f <;> cases f' <;> first | (unfold eqAV at h; cases h; done) | skip
    simp only [eqAV, Bool.and_eq_true] at h
    obtain ⟨h1, h2, h3⟩ := h
    rw [Nat.eq_of_beq_eq_true h1, eqAVs_ok _ _ h2, eqAVs_ok _ _ h3]
  case ifc.ifc t v t' v' => simp only [eqAV, Bool.and_eq_true] at h; obtain ⟨h1, h2⟩ := h; rw [Nat.eq_of_beq_eq_true h1, eqAV_ok _ _ h2]
  case agg.agg a b => simp only [eqAV] at h; rw [eqAVs_ok _ _ h]
  case tup.tup a b => simp only [eqAV] at h; rw [eqAVs_ok _ _ h]
  all_goals (unfold eqAV at h; split at h <;> first | (cases h; done) | contradiction | (simp_all; done))
termination_by x => SizeOf.sizeOf x
theorem eqAVs_ok : ∀ (x y : List AV), eqAVs x y = true → x = y
  | [], [], _ => rfl
  | [], _ :: _, h => by simp [eqAVs] at h
  | _ :: _, [], h => by simp [eqAVs] at h
  | x :: r, y :: s, h => by
    simp only [eqAVs, Bool.and_eq_true] at h
    rw [eqAV_ok _ _ h.1, eqAVs_ok _ _ h.2]
termination_by x => SizeOf.sizeOf x
end
noncomputable def eqEs : List (AV × AV × Nat) → List (AV × AV × Nat) → Bool
  | [], [] => true
  | (k, v, n) :: r, (k', v', n') :: s => eqAV k k' && (eqAV v v' && (Nat.beq n n' && eqEs r s))
  | _, _ => false
theorem eqEs_ok : ∀ (x y : List (AV × AV × Nat)), eqEs x y = true → x = y
  | [], [], _ => rfl
  | [], _ :: _, h => by simp [eqEs] at h
  | _ :: _, [], h => by simp [eqEs] at h
  | (k, v, n) :: r, (k', v', n') :: s, h => by
    simp only [eqEs, Bool.and_eq_true] at h
    obtain ⟨h1, h2, h3, h4⟩ := h
    rw [eqAV_ok _ _ h1, eqAV_ok _ _ h2, Nat.eq_of_beq_eq_true h3, eqEs_ok _ _ h4]
noncomputable def eqAO : AObj → AObj → Bool
  | .cells t cs o, .cells t' cs' o' => Nat.beq t t' && (decide (o = o') && eqAVs cs cs')
  | .map es c, .map es' c' => Nat.beq c c' && eqEs es es'
  | .mapIter m, .mapIter m' => Nat.beq m m'
  | .bag t cs, .bag t' cs' => Nat.beq t t' && decide (cs = cs')
  | _, _ => false
theorem eqAO_ok {x y : AObj} (h : eqAO x y = true) : x = y := by
  unfold eqAO at h
  split at h
  · simp only [Bool.and_eq_true, decide_eq_true_eq] at h; obtain ⟨h1, rfl, h3⟩ := h; rw [Nat.eq_of_beq_eq_true h1, eqAVs_ok _ _ h3]
  · simp only [Bool.and_eq_true] at h; rw [Nat.eq_of_beq_eq_true h.1, eqEs_ok _ _ h.2]
  · rw [Nat.eq_of_beq_eq_true h]
  · simp only [Bool.and_eq_true, decide_eq_true_eq] at h; obtain ⟨h1, rfl⟩ := h; rw [Nat.eq_of_beq_eq_true h1]
  · cases h
noncomputable def subL : List (Nat × AObj) → Hp → Bool
  | [], _ => true
  | (b, o) :: r, H => match H.get b with
    | some o' => match eqAO o' o with
      | true => subL r H
      | false => false
    | none => false
theorem subL_ok : ∀ {L : List (Nat × AObj)} {H : Hp}, subL L H = true → ∀ p ∈ L, H.get p.1 = some p.2
  | [], _, _, _, hp => by cases hp
  | (b, o) :: r, H, h, p, hp => by
    unfold subL at h
    split at h
    · rename_i o' ho
      split at h
      · rename_i he
        rcases List.mem_cons.1 hp with rfl | hp
        · rw [← eqAO_ok he]; exact ho
        · exact subL_ok h p hp
      · cases h
    · cases h
theorem hpOf_get : ∀ {L : List (Nat × AObj)} {t : Tr AObj} {b : Nat} {o : AObj}, (hpOf L t).get b = some o → (b, o) ∈ L ∨ t.get b = some o
  | [], _, _, _, h => .inr h
  | (b0, o0) :: r, t, b, o, h => by
    unfold hpOf at h
    rcases hpOf_get h with h | h
    · exact .inl (by simp [h])
    · rcases Tr.set_get _ _ _ _ _ _ h with ⟨rfl, e⟩ | ⟨-, e⟩
      · cases e; exact .inl (by simp)
      · exact .inr e
theorem Kp.sup {sz : TypeId → Nat} {lo : Nat} {l' : Env} {H2 H' : Hp} {w' : World} (h : Kp sz lo l H2 w l' H' w') (hn : H2.nx = H.nx) (hs : ∀ b o, H2.get b = some o → H.get b = some o) : Kp sz lo l H w l' H' w' := by
  have hq : ∀ b, (H2.get b).isSome → (H.get b).isSome := fun b e => by
    obtain ⟨o, ho⟩ := Option.isSome_iff_exists.1 e
    exact Option.isSome_iff_exists.2 ⟨o, hs b o ho⟩
  refine ⟨h.le, h.hr, by rw [← hn]; exact h.nx, fun b hb e => hq b (h.old b (by rw [hn]; exact hb) e), h.os, h.tape, h.output, h.size, fun k hk hb => h.block k hk fun b x e1 e2 e3 => hb b x e1 e2 (hq b e3), fun b x e => ?_⟩
  rcases h.fresh b x e with e | ⟨e1, e2⟩
  · exact .inl e
  · rw [hn] at e1
    refine .inr ⟨e1, ?_⟩
    rcases e2 with e2 | ⟨b0, q1, q2, q3⟩
    · exact .inl e2
    · exact .inr ⟨b0, q1, hq b0 q2, q3⟩
/-- A call that was reckoned: upon what values, upon what heap; what it hands back, what it leaves. -/
structure At where
  us : List AV
  L : List (Nat × AObj)
  nx : Nat
  v : AV
  H1 : Hp
noncomputable def At.H0 (x : At) : Hp := ⟨hpOf x.L .e, x.nx⟩
def AtOk (P : Program) (sz : TypeId → Nat) (lo : Nat) (g : FuncId) (x : At) : Prop := ∀ (l : Env) (w : World) (xs : List Value), HR sz l x.H0 w → VRs l x.us xs → FnOk P g xs.toArray w fun y w' => ∃ l', VR l' x.v y ∧ Kp sz lo l x.H0 w l' x.H1 w'
noncomputable def atsH : List At → HookF
  | [], _, _ => none
  | x :: r, us, H => match eqAVs us x.us, Nat.beq x.nx H.nx with
    | true, true => match subL x.L H with
      | true => some (x.v, x.H1)
      | false => atsH r us H
    | _, _ => atsH r us H
theorem FnOk.mono {g : FuncId} {xs : Array Value} {R R' : Value → World → Prop} (h : FnOk P g xs w R) (hr : ∀ x w', R x w' → R' x w') : FnOk P g xs w R' := by
  rcases h with ⟨x, w', h1, h2⟩ | ⟨h1, h2⟩
  · exact .inl ⟨x, w', h1, hr _ _ h2⟩
  · exact .inr ⟨h1, Calls.mono h2 fun e w' => fun ⟨x, e1, e2⟩ => ⟨x, e1, hr _ _ e2⟩⟩
theorem atsH_ok {sz : TypeId → Nat} {lo : Nat} {g : FuncId} : ∀ {xs : List At}, (∀ x ∈ xs, AtOk P sz lo g x) → HookOk P sz lo g (atsH xs)
  | [], _, us, H, v, H', h => by cases h
  | x :: r, hx, us, H, v, H', h => by
    have ih := atsH_ok (xs := r) fun y hy => hx y (by simp [hy])
    unfold atsH at h
    split at h
    · rename_i h1 h2
      split at h
      · rename_i h3
        cases h
        intro l w ys hr hu
        have e1 := eqAVs_ok _ _ h1
        have e2 : x.H0.nx = H.nx := Nat.eq_of_beq_eq_true h2
        have hs : ∀ b o, x.H0.get b = some o → H.get b = some o := fun b o e => by
          rcases hpOf_get (Hp.get_of e) with e | e
          · exact subL_ok h3 _ e
          · rw [Tr.get_e] at e; cases e
        subst e1
        exact (hx x (by simp) l w ys (hr.sub e2 hs) hu).mono fun y w' => fun ⟨l', q1, q2⟩ => ⟨l', q1, q2.sup e2 hs⟩
      · exact ih us H v H' h
    · exact ih us H v H' h
/-- The post of a call that hands back v. -/
def EndV (P : Program) (T : Tb) (fn : Func) (l0 : Env) (H0 : Hp) (w0 : World) (v : AV) (H1 : Hp) : Exit → Act → World → Prop := fun e a w => (e = .normal ∨ e = .ret) ∧ ∃ rs : List Nat, a.defers = rs.map mkD ∧ rs.Nodup ∧ (∀ r ∈ rs, w.heap[r]? = some (.deferred (some []))) ∧ ∀ w2, Shut rs w w2 → ∃ x, (results fn a.tmps).run P w2 = .ok x w2 ∧ ∃ l', VR l' v x ∧ Kp T.sz T.lo l0 H0 w0 l' H1 w2
noncomputable def lastV (T : Tb) (N : Nat) (call : CallF) (n : Nat) (rs : List ResultVar) (bs : List Nat) (s : St) : Option (AV × Hp) := match stepsS T N call n s with
  | some s' => match s'.its, s'.e.leaves, ressF T rs s'.F s'.H with
    | [], true, some vs => some (oneR vs, ⟨keepH s'.H bs .e, s'.H.nx⟩)
    | _, _, _ => none
  | none => none
theorem Good.lastV (hT : TbOk P T) {call : CallF} (hcall : CallOk P T call) {l0 : Env} {H0 : Hp} {w0 : World} (h0 : HR T.sz l0 H0 w0) {fn : Func} {rs : List ResultVar} (hrs : fn.results.toList = rs) {n : Nat} {bs : List Nat} {s : St} {v : AV} {H1 : Hp} (e : lastV T N call n rs bs s = some (v, H1)) : Good P T N w0.heap.size l0 H0 w0 (EndV P T fn l0 H0 w0 v H1) s := by
  unfold Ev.lastV at e
  split at e
  case h_2 => cases e
  rename_i s1 h1
  refine Good.steps hT hcall h0 n h1 ?_
  split at e
  case h_2 => cases e
  rename_i vs h2 h3 h4
  cases e
  intro Ds l a w hf hk hm
  rw [h2]
  obtain ⟨rs1, m2, m3, m4⟩ := hm.rs
  refine ⟨?_, rs1, hf.defers.trans m2, m3, fun r hrm => (m4 r hrm).2.1, fun w2 hs => ?_⟩
  · cases hx : s1.e with
    | exit i => rw [hx] at h3; cases h3
    | normal => exact .inl rfl
    | ret => exact .inr rfl
  · have hk2 := hk.shut hs (fun r hrm => (m4 r hrm).1) (fun r hrm => (m4 r hrm).2.2)
    obtain ⟨x, k1, k2⟩ := results_ok (fn := fn) hT hf.fr hk2.hr (by rw [hrs]; exact ressF_ok h4)
    rw [oneR_eq]
    exact ⟨x, k1, l, k2, hk2.sub rfl fun b o e => keepH_get (fun b o e => by cases e) (Hp.get_of e)⟩
theorem at_ok {g : FuncId} {fn : Func} {c : Code} (hf : P.funcs[g]? = some fn) (hb : fn.body = some c) (hn : fn.ntmps = N) (hc : ∀ args w, (callFunc g args).run P w = .ok (.enter g args) w) {x : At} (hl : x.us.length ≤ N)
    (h : ∀ l w, HR T.sz l x.H0 w → Good P T N w.heap.size l x.H0 w (EndV P T fn l x.H0 w x.v x.H1) ⟨.normal, [.code c], argFr x.us, x.H0⟩) : AtOk P T.sz T.lo g x := fun l w xs hr hx => by
  refine .inr ⟨hc _ _, calls_of_sem hf hb ?_⟩
  rw [hn]
  refine CSem.mono (h l w hr [] l _ w (FRF.first hr hx hl) (.refl hr) ⟨Nat.le_refl _, [], rfl, List.nodup_nil, fun r hr => by cases hr⟩) fun e a w => ?_
  rintro ⟨h1, rs, h2, h3, h4, h5⟩
  exact ⟨h1, rs, h2, h3, h4, fun w2 hs => let ⟨v, k1, k2⟩ := h5 w2 hs; ⟨v, k1, v, rfl, k2⟩⟩
end Go.Proofs.YtkbmmoobcikbaaaGreatDoor.Ev
