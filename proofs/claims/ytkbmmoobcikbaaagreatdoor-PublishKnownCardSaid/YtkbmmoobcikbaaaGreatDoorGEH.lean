/-
  A FASTER RECKONER OF CLOSED CALLS: a closed call that is reckoned answers so. No program in sight; no condition.
  A FASTER RECKONER: one function, piece by piece: what is left to do, a frame and a heap; between the pieces what is no longer wanted is dropped. No program in sight; no condition.
  A FASTER RECKONER: a function of which some pieces are reckoned by hand. No program in sight; no condition.
-/
import Derived.Test.YtkbmmoobcikbaaaGreatDoorGEF
import Derived.Test.YtkbmmoobcikbaaaGreatDoorGEE
import Derived.Test.YtkbmmoobcikbaaaGreatDoorEvHook
namespace Go.Proofs.YtkbmmoobcikbaaaGreatDoor.Ev
open Go Go.RowKit

variable {P : Program} {T : Tb}
noncomputable def drD (T : Tb) : DF := fun call N => drawV T call N
/-- What a call is reckoned to. -/
noncomputable def topF (T : Tb) (d : Nat) (g : FuncId) (us : List AV) : Option AV := match ev2 T (drD T) d g us topH with
  | some (v, _) => some v
  | none => none
theorem topF_true (hT : TbOk P T) (hh : CallOk P T T.hook) {d : Nat} {g : FuncId} {us : List AV} (e : topF T d g us = some (.bool true)) (hg : ∀ args w, (callFunc g args).run P w = .ok (.enter g args) w) {xs : List Value} (hx : VRs envG us xs) (w : World) :
    Calls P g xs.toArray w fun r w' => r = .returned (.bool true) ∧ Same w w' := by
  unfold topF at e
  split at e
  · rename_i v0 H' he
    cases e
    have := ev2_ok hT hh (D := drD T) (fun call N hc => drawV_ok (N := N) hT hc) d g us topH _ H' he envG w xs (top_hr _ w) hx
    rcases this with ⟨x, w', h1, -⟩ | ⟨-, h2⟩
    · rw [hg] at h1; cases h1
    · refine Calls.mono h2 fun r w' => ?_
      rintro ⟨x, rfl, l', h3, h4⟩
      cases h3
      exact ⟨rfl, h4.os, h4.tape, h4.output, h4.size, fun k hk => h4.block k hk fun b y _ _ hs => absurd hs (by simp [topH, Hp.get, Tr.get_e])⟩
  · cases e
/-- .. whatever it is reckoned to. -/
theorem topF_ok (hT : TbOk P T) (hh : CallOk P T T.hook) {d : Nat} {g : FuncId} {us : List AV} {v : AV} (e : topF T d g us = some v) (hg : ∀ args w, (callFunc g args).run P w = .ok (.enter g args) w) {xs : List Value} (hx : VRs envG us xs) (w : World) :
    Calls P g xs.toArray w fun r w' => ∃ x l', r = .returned x ∧ VR l' v x ∧ Same w w' := by
  unfold topF at e
  split at e
  · rename_i v0 H' he
    cases e
    have := ev2_ok hT hh (D := drD T) (fun call N hc => drawV_ok (N := N) hT hc) d g us topH _ H' he envG w xs (top_hr _ w) hx
    rcases this with ⟨x, w', h1, -⟩ | ⟨-, h2⟩
    · rw [hg] at h1; cases h1
    · refine Calls.mono h2 fun r w' => ?_
      rintro ⟨x, rfl, l', h3, h4⟩
      exact ⟨x, l', rfl, h3, h4.os, h4.tape, h4.output, h4.size, fun k hk => h4.block k hk fun b y _ _ hs => absurd hs (by simp [topH, Hp.get, Tr.get_e])⟩
  · cases e
end Go.Proofs.YtkbmmoobcikbaaaGreatDoor.Ev
namespace Go.Proofs.YtkbmmoobcikbaaaGreatDoor.Ev
open Go Go.RowKit Go.Conc

variable {P : Program} {T : Tb} {N : Nat} {l : Env} {H : Hp} {w : World} {a : Act} {Q : Exit → Act → World → Prop}
/-- A loop, amid it. -/
def CLoop (P : Program) (c : Code) (Q : Exit → Act → World → Prop) (a : Act) (w : World) : Prop :=
  ∀ (b : Frame) (k : List Item) (cs : List Frame), b.kind ≠ .early → ∃ e a' w', Q e a' w' ∧ Arrives P (lone (b.at a (.code c :: .inLoop c :: k)) cs w) b k cs e a' w'
theorem CLoop.round {c : Code} (h : CSem P c (Exit.then (CLoop P c Q) Q) a w) : CLoop P c Q a w := fun b k cs hb => by
  obtain ⟨e, a1, w1, hq, hr⟩ := h b (.inLoop c :: k) cs hb
  by_cases he : e = .normal
  · subst he
    obtain ⟨e2, a2, w2, hq2, hr2⟩ := hq b k cs hb
    exact ⟨e2, a2, w2, hq2, .of_steps (Steps.trans hr (.one step_inLoop)) hr2⟩
  · refine ⟨e, a1, w1, ?_, .pass rfl (fun _ _ => .inl he) hr⟩
    cases e <;> first | exact absurd rfl he | exact hq
theorem CSem.of_loop {c : Code} (h : CLoop P c Q a w) : CSem P (.loop c) Q a w := fun b k cs hb =>
  let ⟨e, a', w', hq, hr⟩ := h b k cs hb; ⟨e, a', w', hq, .of_steps (.one step_loop) hr⟩
/-- What is left to do. -/
inductive It where
  | code (c : Code)
  | lp (c : Code)
  | blk (id : Nat)
  | scp
noncomputable def KK (P : Program) : List It → (Exit → Act → World → Prop) → Exit → Act → World → Prop
  | [], Q => Q
  | .code c :: r, Q => Exit.then (CSem P c (KK P r Q)) (KK P r Q)
  | .lp c :: r, Q => Exit.then (CLoop P c (KK P r Q)) (KK P r Q)
  | .blk id :: r, Q => Exit.inBlock id (KK P r Q)
  | .scp :: r, Q => Exit.noGoto (KK P r Q)
structure St where
  e : Ex
  its : List It
  F : Fr
  H : Hp
/-- Where a state's rest comes to. -/
def Good (P : Program) (T : Tb) (N B : Nat) (l0 : Env) (H0 : Hp) (w0 : World) (Q : Exit → Act → World → Prop) (s : St) : Prop :=
  ∀ (Ds : List Deferred) (l : Env) (a : Act) (w : World), FRF N Ds l s.F a → Kp T.sz T.lo l0 H0 w0 l s.H w → Mk B l s.H w Ds → KK P s.its Q s.e.to a w
/-- One step. -/
noncomputable def codeS (T : Tb) (N : Nat) (call : CallF) (c : Code) (r : List It) (F : Fr) (H : Hp) : Option St := match c with
  | .seq x y => some ⟨.normal, .code x :: .code y :: r, F, H⟩
  | .block id x => some ⟨.normal, .code x :: .blk id :: r, F, H⟩
  | .loop x => some ⟨.normal, .code x :: .lp x :: r, F, H⟩
  | .scope x => some ⟨.normal, .code x :: .scp :: r, F, H⟩
  | .cond o x y => match getO (odOf o) F with
    | some (.bool true) => some ⟨.normal, .code x :: r, F, H⟩
    | some (.bool false) => some ⟨.normal, .code y :: r, F, H⟩
    | _ => none
  | c => match evF T N (drD T) c call F H with
    | .ok e F' H' => some ⟨e, r, F', H'⟩
    | .bad => none
noncomputable def stepS (T : Tb) (N : Nat) (call : CallF) (s : St) : Option St := match s with
  | ⟨.normal, .code c :: r, F, H⟩ => codeS T N call c r F H
  | ⟨.normal, .lp c :: r, F, H⟩ => some ⟨.normal, .code c :: .lp c :: r, F, H⟩
  | ⟨.normal, .blk _ :: r, F, H⟩ => some ⟨.normal, r, F, H⟩
  | ⟨.normal, .scp :: r, F, H⟩ => some ⟨.normal, r, F, H⟩
  | ⟨.exit i, .blk id :: r, F, H⟩ => match Nat.beq i id with
    | true => some ⟨.normal, r, F, H⟩
    | false => some ⟨.exit i, r, F, H⟩
  | ⟨.exit i, _ :: r, F, H⟩ => some ⟨.exit i, r, F, H⟩
  | ⟨.ret, _ :: r, F, H⟩ => some ⟨.ret, r, F, H⟩
  | ⟨_, [], _, _⟩ => none
noncomputable def stepsS (T : Tb) (N : Nat) (call : CallF) : Nat → St → Option St
  | 0, s => some s
  | n + 1, s => match stepS T N call s with
    | some s' => stepsS T N call n s'
    | none => none
theorem Good.step (hT : TbOk P T) {call : CallF} (hcall : CallOk P T call) {B : Nat} {l0 : Env} {H0 : Hp} {w0 : World} (h0 : HR T.sz l0 H0 w0) {s s' : St} (e : stepS T N call s = some s') (h : Good P T N B l0 H0 w0 Q s') : Good P T N B l0 H0 w0 Q s := by
  intro Ds l a w hf hk hm
  unfold stepS at e
  split at e
  · rename_i c r F H
    show CSem P c (KK P r Q) a w
    unfold codeS at e
    split at e
    · cases e; exact CSem.seq (h Ds l a w hf hk hm)
    · cases e; exact CSem.block (h Ds l a w hf hk hm)
    · cases e; exact CSem.of_loop (CLoop.round (h Ds l a w hf hk hm))
    · cases e; exact CSem.scope (h Ds l a w hf hk hm)
    · rename_i o x y
      split at e
      · rename_i hc
        cases e
        have hc := hf.fr.ev _ _ (getO_ok hc)
        generalize hcv : a.eval o = cv at hc
        cases hc
        exact CSem.cond (t := true) hcv (h Ds l a w hf hk hm)
      · rename_i hc
        cases e
        have hc := hf.fr.ev _ _ (getO_ok hc)
        generalize hcv : a.eval o = cv at hc
        cases hc
        exact CSem.cond (t := false) hcv (h Ds l a w hf hk hm)
      · cases e
    · split at e
      · rename_i ex F' H' hev
        cases e
        exact evF_ok hT hcall (drawV_ok hT hcall) _ _ _ _ _ _ hev B Ds l a w _ hf hk.hr hm fun D1 l1 a1 w1 g1 g2 m1 => h D1 l1 a1 w1 g1 (hk.trans h0 g2) m1
      · cases e
  · cases e; exact CLoop.round (h Ds l a w hf hk hm)
  · cases e; exact h Ds l a w hf hk hm
  · cases e; exact h Ds l a w hf hk hm
  · rename_i i id r F H
    show Exit.inBlock id (KK P r Q) (.exit i) a w
    split at e
    · rename_i hb
      cases e
      simp only [Exit.inBlock, Nat.eq_of_beq_eq_true hb, if_true]
      exact h Ds l a w hf hk hm
    · rename_i hb
      cases e
      simp only [Exit.inBlock, Nat.ne_of_beq_eq_false hb, if_false]
      exact h Ds l a w hf hk hm
  · rename_i i it r F H hne
    cases e
    have := h Ds l a w hf hk hm
    cases it with
    | code c => exact this
    | lp c => exact this
    | blk id => exact (hne _ rfl).elim
    | scp => exact this
  · rename_i it r F H
    cases e
    have := h Ds l a w hf hk hm
    cases it <;> exact this
  · cases e
theorem Good.steps (hT : TbOk P T) {call : CallF} (hcall : CallOk P T call) {B : Nat} {l0 : Env} {H0 : Hp} {w0 : World} (h0 : HR T.sz l0 H0 w0) : ∀ (n : Nat) {s s' : St}, stepsS T N call n s = some s' → Good P T N B l0 H0 w0 Q s' → Good P T N B l0 H0 w0 Q s
  | 0, s, s', e, h => by cases e; exact h
  | n + 1, s, s', e, h => by
    unfold stepsS at e
    split at e
    · rename_i s1 h1; exact Good.step hT hcall h0 h1 (Good.steps hT hcall h0 n e h)
    · cases e
/-! what is no longer wanted is dropped -/
noncomputable def keepF (F : Fr) : List Nat → Fr → Fr
  | [], G => G
  | s :: r, G => match Nat.blt s 1000, getI F s with
    | true, some v => keepF F r (setI G s v)
    | _, _ => keepF F r G
theorem keepF_get {F : Fr} : ∀ {ss : List Nat} {G : Fr} {i : Nat} {v : AV}, (∀ i v, getI G i = some v → getI F i = some v) → getI (keepF F ss G) i = some v → getI F i = some v
  | [], G, i, v, hG, h => hG i v h
  | s :: r, G, i, v, hG, h => by
    unfold keepF at h
    split at h
    · rename_i u hs hu
      refine keepF_get (fun j x hj => ?_) h
      rcases getI_setI (by simpa [Nat.blt_eq] using hs) hj with ⟨rfl, rfl⟩ | ⟨-, e⟩
      · exact hu
      · exact hG j x e
    · exact keepF_get hG h
noncomputable def keepH (H : Hp) : List Nat → Tr AObj → Tr AObj
  | [], t => t
  | b :: r, t => match H.get b with
    | some o => keepH H r (t.set 24 b (some o))
    | none => keepH H r t
theorem keepH_get {H : Hp} : ∀ {bs : List Nat} {t : Tr AObj} {b : Nat} {o : AObj}, (∀ b o, t.get b = some o → H.get b = some o) → (keepH H bs t).get b = some o → H.get b = some o
  | [], t, b, o, ht, h => ht b o h
  | b0 :: r, t, b, o, ht, h => by
    unfold keepH at h
    split at h
    · rename_i o0 ho
      refine keepH_get (fun j x hj => ?_) h
      rcases Tr.set_get _ _ _ _ _ _ hj with ⟨rfl, e⟩ | ⟨-, e⟩
      · cases e; exact ho
      · exact ht j x e
    · exact keepH_get ht h
noncomputable def fr0 : Fr := argFr []
noncomputable def nrm (ss bs : List Nat) (s : St) : St := ⟨s.e, s.its, keepF s.F ss fr0, ⟨keepH s.H bs .e, s.H.nx⟩⟩
theorem fr0_get {i : Nat} {v : AV} (h : getI fr0 i = some v) {p : Prop} : p := by
  have := argFr_get h
  cases this
theorem HR.sub {sz : TypeId → Nat} {H2 : Hp} (h : HR sz l H w) (hn : H2.nx = H.nx) (hs : ∀ b o, H2.get b = some o → H.get b = some o) : HR sz l H2 w :=
  ⟨fun b o e => h.obj b o (hs b o e), fun b b' o o' x x' e e' => h.inj b b' o o' x x' (hs _ _ e) (hs _ _ e'), fun b x e => by rw [hn]; exact h.dom b x e, h.glob⟩
theorem Kp.sub {sz : TypeId → Nat} {lo : Nat} {l' : Env} {H0 H2 : Hp} {w' : World} (h : Kp sz lo l H0 w l' H w') (hn : H2.nx = H.nx) (hs : ∀ b o, H2.get b = some o → H.get b = some o) : Kp sz lo l H0 w l' H2 w' :=
  ⟨h.le, h.hr.sub hn hs, by rw [hn]; exact h.nx, fun b hb e => by
    obtain ⟨o, ho⟩ := Option.isSome_iff_exists.1 e
    exact h.old b hb (Option.isSome_iff_exists.2 ⟨o, hs b o ho⟩), h.os, h.tape, h.output, h.size, h.block, h.fresh⟩
theorem Mk.sub {B : Nat} {H2 : Hp} {Ds : List Deferred} (h : Mk B l H w Ds) (hs : ∀ b o, H2.get b = some o → H.get b = some o) : Mk B l H2 w Ds := by
  obtain ⟨h1, rs, h2, h3, h4⟩ := h
  exact ⟨h1, rs, h2, h3, fun r hr => ⟨(h4 r hr).1, (h4 r hr).2.1, fun b x e1 e2 => by
    obtain ⟨o, ho⟩ := Option.isSome_iff_exists.1 e2
    exact (h4 r hr).2.2 b x e1 (Option.isSome_iff_exists.2 ⟨o, hs b o ho⟩)⟩⟩
theorem Good.nrm {B : Nat} {l0 : Env} {H0 : Hp} {w0 : World} {s : St} (ss bs : List Nat) (h : Good P T N B l0 H0 w0 Q (nrm ss bs s)) : Good P T N B l0 H0 w0 Q s := fun Ds l a w hf hk hm => by
  have hs : ∀ b o, (Hp.get ⟨keepH s.H bs .e, s.H.nx⟩ b) = some o → s.H.get b = some o := fun b o e => keepH_get (fun b o e => by cases e) (Hp.get_of e)
  exact h Ds l a w ⟨hf.size, fun i v e => hf.get i v (keepF_get (fun i v e => fr0_get e) e), hf.defers, hf.glob⟩ (hk.sub rfl hs) (hm.sub hs)
/-- A piece: some steps, and what is dropped behind them. -/
noncomputable def pieceS (T : Tb) (N : Nat) (call : CallF) (n : Nat) (ss bs : List Nat) (s : St) : Option St := match stepsS T N call n s with
  | some s' => some (nrm ss bs s')
  | none => none
theorem Good.piece (hT : TbOk P T) {call : CallF} (hcall : CallOk P T call) {B : Nat} {l0 : Env} {H0 : Hp} {w0 : World} (h0 : HR T.sz l0 H0 w0) {n : Nat} {ss bs : List Nat} {s s' : St} (e : pieceS T N call n ss bs s = some s') (h : Good P T N B l0 H0 w0 Q s') : Good P T N B l0 H0 w0 Q s := by
  unfold pieceS at e
  split at e
  · rename_i s1 h1
    cases e
    exact Good.steps hT hcall h0 n h1 (Good.nrm ss bs h)
  · cases e
/-! a closed function -/
noncomputable def callT (T : Tb) (d : Nat) : CallF := ev2 T (drD T) d
noncomputable def start (c : Code) : St := ⟨.normal, [.code c], fr0, topH⟩
/-- The last piece: what is handed back is true. -/
noncomputable def trueS (T : Tb) (rs : List ResultVar) (s : St) : Bool := match s.its, s.e.leaves, ressF T rs s.F s.H with
  | [], true, some [.bool true] => true
  | _, _, _ => false
noncomputable def lastS (T : Tb) (N : Nat) (call : CallF) (n : Nat) (rs : List ResultVar) (s : St) : Bool := match stepsS T N call n s with
  | some s' => trueS T rs s'
  | none => false
/-- The post of a call that hands back true. -/
def EndQ (P : Program) (_ : Tb) (_ : Nat) (fn : Func) (w0 : World) : Exit → Act → World → Prop := fun e a w => (e = .normal ∨ e = .ret) ∧ ∃ rs : List Nat, a.defers = rs.map mkD ∧ rs.Nodup ∧ (∀ r ∈ rs, w.heap[r]? = some (.deferred (some []))) ∧ ∀ w2, Shut rs w w2 → ∃ v, (results fn a.tmps).run P w2 = .ok v w2 ∧ (v = .bool true ∧ Same w0 w2)
theorem Good.last (hT : TbOk P T) {call : CallF} (hcall : CallOk P T call) {w0 : World} {fn : Func} {rs : List ResultVar} (hrs : fn.results.toList = rs) {n : Nat} {s : St} (e : lastS T N call n rs s = true) : Good P T N w0.heap.size envG topH w0 (EndQ P T N fn w0) s := by
  unfold lastS at e
  split at e
  case h_2 => cases e
  rename_i s1 h1
  refine Good.steps hT hcall (top_hr _ w0) n h1 ?_
  unfold trueS at e
  split at e
  case h_2 => cases e
  rename_i h2 h3 h4
  intro Ds l a w hf hk hm
  rw [h2]
  obtain ⟨rs1, m2, m3, m4⟩ := hm.rs
  refine ⟨?_, rs1, hf.defers.trans m2, m3, fun r hrm => (m4 r hrm).2.1, fun w2 hs => ?_⟩
  · cases hx : s1.e with
    | exit i => rw [hx] at h3; cases h3
    | normal => exact .inl rfl
    | ret => exact .inr rfl
  · have hk2 := hk.shut hs (fun r hrm => (m4 r hrm).1) (fun r hrm => (m4 r hrm).2.2)
    obtain ⟨x, k1, k2⟩ := results_ok (fn := fn) hT hf.fr hk2.hr (by rw [hrs]; exact ressF_ok h4)
    cases k2
    exact ⟨_, k1, rfl, hk2.os, hk2.tape, hk2.output, hk2.size, fun k hk => hk2.block k hk fun b y _ _ hs => absurd hs (by simp [topH, Hp.get, Tr.get_e])⟩
theorem top_of_good {g : FuncId} {fn : Func} {c : Code} (hf : P.funcs[g]? = some fn) (hb : fn.body = some c) (hn : fn.ntmps = N) {w0 : World} (h : Good P T N w0.heap.size envG topH w0 (EndQ P T N fn w0) (start c)) :
    Calls P g #[] w0 fun r w' => r = .returned (.bool true) ∧ Same w0 w' := by
  have hc := calls_of_sem (g := g) (args := #[]) (w := w0) (R := fun r w' => r = .returned (.bool true) ∧ Same w0 w') hf hb (by
    have hr := top_hr T.sz w0
    have := h [] envG _ w0 (FRF.first (us := []) (xs := []) (N := N) hr .nil (Nat.zero_le _)) (.refl hr) ⟨Nat.le_refl _, [], rfl, List.nodup_nil, fun r hr => by cases hr⟩
    rw [hn]
    refine CSem.mono this fun e a w => ?_
    rintro ⟨h1, rs, h2, h3, h4, h5⟩
    exact ⟨h1, rs, h2, h3, h4, fun w2 hs => let ⟨v, k1, k2, k3⟩ := h5 w2 hs; ⟨v, k1, by rw [k2], k3⟩⟩)
  exact hc
/-! codes by their places -/
inductive Dir where
  | l
  | r
noncomputable def cAt : List Dir → Code → Code
  | [], c => c
  | d :: p, c => match c, d with
    | .seq x _, .l => cAt p x
    | .seq _ y, .r => cAt p y
    | .cond _ x _, .l => cAt p x
    | .cond _ _ y, .r => cAt p y
    | .block _ x, _ => cAt p x
    | .loop x, _ => cAt p x
    | .scope x, _ => cAt p x
    | c, _ => c
/-- A frame and a heap out of rows. -/
noncomputable def frOf : List (Nat × AV) → Fr → Fr
  | [], G => G
  | (s, v) :: r, G => frOf r (setI G s v)
noncomputable def hpOf : List (Nat × AObj) → Tr AObj → Tr AObj
  | [], t => t
  | (b, o) :: r, t => hpOf r (t.set 24 b (some o))
end Go.Proofs.YtkbmmoobcikbaaaGreatDoor.Ev
namespace Go.Proofs.YtkbmmoobcikbaaaGreatDoor.Ev
open Go Go.RowKit Go.Conc

variable {P : Program} {T : Tb} {N : Nat} {l : Env} {H : Hp} {w : World} {a : Act}
/-- Which pieces are reckoned by hand. -/
inductive Ov where
  | no
  | here (f : RF)
  | two (a b : Ov)
noncomputable def ccX (T : Tb) (N : Nat) (D : DF) : Ov → Code → CC
  | .no, c => ccOf T N D c
  | .here f, _ => ⟨f⟩
  | .two a b, c => match c with
    | .seq x y => ⟨cSeq (ccX T N D a x) (ccX T N D b y)⟩
    | .cond o x y => ⟨cCond (odOf o) (ccX T N D a x) (ccX T N D b y)⟩
    | .block id x => ⟨cBlock id (ccX T N D a x)⟩
    | .loop x => ⟨cLoop (ccX T N D a x)⟩
    | .scope x => ccX T N D a x
    | c => ccOf T N D c
def OvOk (P : Program) (T : Tb) (N : Nat) (call : CallF) : Ov → Code → Prop
  | .no, _ => True
  | .here f, c => EvOkF P T N c (f call)
  | .two a b, c => match c with
    | .seq x y => OvOk P T N call a x ∧ OvOk P T N call b y
    | .cond _ x y => OvOk P T N call a x ∧ OvOk P T N call b y
    | .block _ x => OvOk P T N call a x
    | .loop x => OvOk P T N call a x
    | .scope x => OvOk P T N call a x
    | _ => True
theorem EvOkF.seq {x y : Code} {f g : Fr → Hp → Rs} (hx : EvOkF P T N x f) (hy : EvOkF P T N y g) : EvOkF P T N (.seq x y) fun F H => thenR (f F H) g := fun F H ex F' H' h B Ds l a w Q hf hr hm hQ => by
  refine CSem.seq ?_
  rcases thenR_ok h with ⟨F1, H1, h1, h2⟩ | ⟨h1, hx1⟩
  · refine hx _ _ _ _ _ h1 B Ds l a w _ hf hr hm fun D1 l1 a1 w1 g1 g2 m1 => ?_
    exact hy _ _ _ _ _ h2 _ _ _ _ _ Q g1 g2.hr m1 fun D2 l2 a2 w2 k1 k2 m2 => hQ _ _ _ _ k1 (g2.trans hr k2) m2
  · refine hx _ _ _ _ _ h1 B Ds l a w _ hf hr hm fun D1 l1 a1 w1 g1 g2 m1 => ?_
    cases ex with
    | normal => exact absurd rfl hx1
    | exit i => exact hQ _ _ _ _ g1 g2 m1
    | ret => exact hQ _ _ _ _ g1 g2 m1
theorem EvOkF.cond {o : Operand} {x y : Code} {f g : Fr → Hp → Rs} (hx : EvOkF P T N x f) (hy : EvOkF P T N y g) : EvOkF P T N (.cond o x y) fun F H => rdO (odOf o) F (fun v => asIf v (f F H) (g F H)) := fun F H ex F' H' h B Ds l a w Q hf hr hm hQ => by
  have h : rdO (odOf o) F (fun v => asIf v (f F H) (g F H)) = .ok ex F' H' := h
  rw [rdO_eq] at h
  rcases wv_ok (getO (odOf o) F) (fun v => asIf v (f F H) (g F H)) with h1 | ⟨v, hv, h1⟩
  · rw [h1] at h; exact Rs.ok_bad h
  rw [h1] at h
  have hc := hf.fr.ev _ _ (getO_ok hv)
  unfold asIf at h
  rcases asBool_ok v (fun b => bR b (f F H) (g F H)) .bad with h2 | ⟨b, rfl, h2⟩
  · rw [h2] at h; exact Rs.ok_bad h
  rw [h2] at h
  generalize hcv : a.eval o = cv at hc
  cases hc
  cases b with
  | true => exact CSem.cond (t := true) hcv (hx _ _ _ _ _ h B Ds l a w Q hf hr hm hQ)
  | false => exact CSem.cond (t := false) hcv (hy _ _ _ _ _ h B Ds l a w Q hf hr hm hQ)
theorem EvOkF.block {id : Nat} {x : Code} {f : Fr → Hp → Rs} (hx : EvOkF P T N x f) : EvOkF P T N (.block id x) fun F H => blockR id (f F H) := fun F H ex F' H' h B Ds l a w Q hf hr hm hQ => by
  have h : blockR id (f F H) = .ok ex F' H' := h
  refine CSem.block ?_
  cases h1 : f F H with
  | bad => rw [h1] at h; cases h
  | ok e F1 H1 =>
    rw [h1] at h
    refine hx _ _ _ _ _ h1 B Ds l a w _ hf hr hm fun D1 l1 a1 w1 g1 g2 m1 => ?_
    cases e with
    | normal => cases h; exact hQ _ _ _ _ g1 g2 m1
    | ret => cases h; exact hQ _ _ _ _ g1 g2 m1
    | exit i =>
      have h : bR (Nat.beq i id) (.ok .normal F1 H1) (.ok (.exit i) F1 H1) = .ok ex F' H' := h
      cases hb : Nat.beq i id with
      | true =>
        have hi := Nat.eq_of_beq_eq_true hb
        rw [hb] at h
        cases h
        show Exit.inBlock id Q (.exit i) a1 w1
        simp only [Exit.inBlock, hi, if_true]
        exact hQ _ _ _ _ g1 g2 m1
      | false =>
        have hi := Nat.ne_of_beq_eq_false hb
        rw [hb] at h
        cases h
        show Exit.inBlock id Q (.exit i) a1 w1
        simp only [Exit.inBlock, hi, if_false]
        exact hQ _ _ _ _ g1 g2 m1
theorem EvOkF.loop {x : Code} {f : Fr → Hp → Rs} (hx : EvOkF P T N x f) : EvOkF P T N (.loop x) fun F H => iterF f rounds F H := fun F H ex F' H' h B Ds l a w Q hf hr hm hQ => by
  have h : iterF f rounds F H = .ok ex F' H' := h
  revert h
  generalize rounds = n
  intro h
  exact CSem.loop n (iterF_ok hx n _ _ _ _ _ h B Ds l a w hf hr hm fun D1 l1 a1 w1 g1 g2 m1 _ => hQ _ _ _ _ g1 g2 m1)
theorem EvOkF.scope {x : Code} {f : Fr → Hp → Rs} (hx : EvOkF P T N x f) : EvOkF P T N (.scope x) f := fun F H ex F' H' h B Ds l a w Q hf hr hm hQ => by
  refine CSem.scope (hx _ _ _ _ _ h B Ds l a w _ hf hr hm fun D1 l1 a1 w1 g1 g2 m1 => ?_)
  have := hQ _ _ _ _ g1 g2 m1
  cases ex <;> exact this
theorem ccX_ok (hT : TbOk P T) {call : CallF} (hcall : CallOk P T call) {D : DF} (hD : DrawOk P T N (D call N)) : ∀ (ov : Ov) (c : Code), OvOk P T N call ov c → EvOkF P T N c (CC.run (ccX T N D ov c) call)
  | .no, c, _ => evF_ok hT hcall hD c
  | .here _, _, h => h
  | .two a b, .seq x y, h => EvOkF.seq (ccX_ok hT hcall hD a x h.1) (ccX_ok hT hcall hD b y h.2)
  | .two a b, .cond _ x y, h => EvOkF.cond (ccX_ok hT hcall hD a x h.1) (ccX_ok hT hcall hD b y h.2)
  | .two a _, .block _ x, h => EvOkF.block (ccX_ok hT hcall hD a x h)
  | .two a _, .loop x, h => EvOkF.loop (ccX_ok hT hcall hD a x h)
  | .two a _, .scope x, h => EvOkF.scope (ccX_ok hT hcall hD a x h)
  | .two _ _, .skip, _ => evF_ok hT hcall hD _
  | .two _ _, .label _, _ => evF_ok hT hcall hD _
  | .two _ _, .region _ _ _, _ => evF_ok hT hcall hD _
  | .two _ _, .exit _, _ => evF_ok hT hcall hD _
  | .two _ _, .ret, _ => evF_ok hT hcall hD _
  | .two _ _, .goto _, _ => evF_ok hT hcall hD _
  | .two _ _, .refuse _, _ => evF_ok hT hcall hD _
  | .two _ _, .rangeFunc _ _ _ _, _ => evF_ok hT hcall hD _
/-- A call of such a function. -/
noncomputable def fnX (T : Tb) (D : DF) (call : CallF) (ov : Ov) (i : FI) : HookF := fun us H => bAH (Nat.ble (lenQ us) (FI.ntmps i)) (endF T (FI.results i) (CC.run (ccX T (FI.ntmps i) D ov (FI.body i)) call (argFr us) H))
noncomputable def hookX (T : Tb) (d : Nat) (g : FuncId) (ov : Ov) : HookF := fun us H => oAH (Tb.fn T g) (fun i => fnX T (drD T) (ev2 T (drD T) d) ov i us H) none
theorem hookX_ok (hT : TbOk P T) (hh : CallOk P T T.hook) (d : Nat) {g : FuncId} {ov : Ov} (hov : ∀ i, T.fn g = some i → OvOk P T i.ntmps (ev2 T (drD T) d) ov i.body) : HookOk P T.sz T.lo g (hookX T d g ov) := fun us H v H' h l w xs hr hx => by
  have hD : ∀ call N, CallOk P T call → DrawOk P T N (drD T call N) := fun call N hc => drawV_ok hT hc
  have hcall := ev2_ok hT hh hD d
  have h : oAH (T.fn g) (fun i => fnX T (drD T) (ev2 T (drD T) d) ov i us H) none = some (v, H') := h
  cases hi : T.fn g with
  | none => rw [hi] at h; cases h
  | some i =>
    rw [hi] at h
    have h : bAH (Nat.ble (lenQ us) i.ntmps) (endF T i.results (CC.run (ccX T i.ntmps (drD T) ov i.body) (ev2 T (drD T) d) (argFr us) H)) = some (v, H') := h
    cases hn : Nat.ble (lenQ us) i.ntmps with
    | false => rw [hn] at h; cases h
    | true =>
      rw [hn] at h
      have h : endF T i.results (CC.run (ccX T i.ntmps (drD T) ov i.body) (ev2 T (drD T) d) (argFr us) H) = some (v, H') := h
      have hn : us.length ≤ i.ntmps := by have := Nat.le_of_ble_eq_true hn; rwa [lenQ_eq] at this
      obtain ⟨fn, q1, q2, q3, q4, q5⟩ := hT.fn _ _ hi
      refine .inr ⟨q5 _ _, calls_of_sem q1 q2 ?_⟩
      rw [q3]
      obtain ⟨ex, F', vs, hev, hlv, hvs, rfl⟩ := endF_ok h
      refine ccX_ok hT hcall (hD _ _ hcall) ov _ (hov i hi) _ _ _ _ _ hev w.heap.size [] l _ w _ (FRF.first hr hx hn) hr ⟨Nat.le_refl _, [], rfl, List.nodup_nil, fun r hr => by cases hr⟩ fun D1 l1 a1 w1 g1 g2 m1 => ?_
      obtain ⟨rs, m2, m3, m4⟩ := m1.rs
      refine ⟨?_, rs, g1.defers.trans m2, m3, fun r hrm => (m4 r hrm).2.1, fun w2 hs => ?_⟩
      · cases ex with
        | exit i => cases hlv
        | normal => exact .inl rfl
        | ret => exact .inr rfl
      · have hk2 := g2.shut hs (fun r hrm => (m4 r hrm).1) (fun r hrm => (m4 r hrm).2.2)
        obtain ⟨x, k1, k2⟩ := results_ok (fn := fn) hT g1.fr hk2.hr (by rw [q4]; exact hvs)
        exact ⟨x, k1, x, rfl, l1, k2, hk2⟩
end Go.Proofs.YtkbmmoobcikbaaaGreatDoor.Ev
