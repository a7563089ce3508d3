/-
  A RECKONER OF CLOSED CALLS, ELEVENTH PART: bodies and calls; regions that draw are a parameter. No program in sight; no condition.
-/
import Derived.Test.YtiddcnmgjabbeaaGreatDoorEvSem
namespace Go.Proofs.YtiddcnmgjabbeaaGreatDoor.Ev
open Go Go.RowKit

variable {P : Program} {T : Tb} {lo : Nat} {l : Env} {H : Hp} {w : World} {f : Tr AV} {ρ : Operand → Value} {N : Nat} {Ds : List Deferred} {a : Act} {Q : Exit → Act → World → Prop}

theorem Kp.trans {sz : TypeId → Nat} {l1 l2 : Env} {H1 H2 : Hp} {w1 w2 : World} (hr : HR sz l H w) (h : Kp sz lo l H w l1 H1 w1) (h' : Kp sz lo l1 H1 w1 l2 H2 w2) : Kp sz lo l H w l2 H2 w2 := by
  have hs := h.size
  have hs' := h'.size
  have hn := h.nx
  have hn' := h'.nx
  refine ⟨h.le.trans h'.le, h'.hr, by omega, fun b hb hs => h.old b hb (h'.old b (by omega) hs), h'.os.trans h.os, h'.tape.trans h.tape, h'.output.trans h.output, by omega, fun k hk hne => ?_, fun b x hb => ?_⟩
  · refine (h'.block k (by omega) fun b x hlo hb hs => ?_).trans (h.block k hk hne)
    rcases h.fresh b x hb with e | ⟨e1, e2 | ⟨b0, f1, f2, f3⟩⟩
    · exact hne b x hlo e (h.old b (hr.dom b x e) hs)
    · omega
    · cases e : l b0 with
      | none => rw [e] at f3; cases f3
      | some y =>
        rw [e] at f3
        have : y.1 = x.1 := by simpa using f3
        rw [← this]
        exact hne b0 y f1 e f2
  · rcases h'.fresh b x hb with e | ⟨e1, e2 | ⟨b0, f1, f2, f3⟩⟩
    · exact h.fresh b x e
    · exact .inr ⟨by omega, .inl (by omega)⟩
    · cases e : l1 b0 with
      | none => rw [e] at f3; cases f3
      | some y =>
        rw [e] at f3
        have hy : y.1 = x.1 := by simpa using f3
        rcases h.fresh b0 y e with g | ⟨g1, g2 | ⟨b1, k1, k2, k3⟩⟩
        · exact .inr ⟨by omega, .inr ⟨b0, f1, h.old b0 (hr.dom b0 y g) f2, by rw [g]; simpa using hy⟩⟩
        · exact .inr ⟨by omega, .inl (by omega)⟩
        · exact .inr ⟨by omega, .inr ⟨b1, k1, k2, by rw [k3, hy]⟩⟩

abbrev CallF := FuncId → List AV → Hp → Option (AV × Hp)
def FnOk (P : Program) (g : FuncId) (xs : Array Value) (w : World) (R : Value → World → Prop) : Prop :=
  (∃ x w', (callFunc g xs).run P w = .ok (.value x) w' ∧ R x w') ∨ ((callFunc g xs).run P w = .ok (.enter g xs) w ∧ Calls P g xs w fun e w' => ∃ x, e = .returned x ∧ R x w')
def CallOk (P : Program) (T : Tb) (call : CallF) : Prop := ∀ g as H v H', call g as H = some (v, H') → ∀ (l : Env) (w : World) (xs : List Value), HR T.sz l H w → VRs l as xs →
  FnOk P g xs.toArray w fun x w' => ∃ l', VR l' v x ∧ Kp T.sz T.lo l H w l' H' w'

/-! one operation -/
def opV (T : Tb) (call : CallF) (f : Tr AV) (H : Hp) (op : Op) : Option (AV × Hp) :=
  match op with
  | .call c => match c.callee with
    | .value g => match evalO f g with
      | some (.fn (.func fid) a cp) => match evalOs f c.args.toList with
        | some as => call fid ((a ++ as) ++ cp) H
        | none => none
      | some (.fn (.method n) (.ifc t v :: a) _) => match T.mth t n, evalOs f c.args.toList with
        | some fid, some as => call fid (v :: (a ++ as)) H
        | _, _ => none
      | _ => none
    | .builtin _ => vop T T.lo f H (.call c)
    | .invoke r n => match evalO f r with
      | some (.ifc t v) => match T.mth t n, evalOs f c.args.toList with
        | some fid, some as => call fid (v :: as) H
        | _, _ => none
      | _ => none
  | op => vop T T.lo f H op
theorem OpOk.yields {o : Oper} {v : AV} {H' : Hp} {K : Value → World → Prop} (h : OpOk P T.sz T.lo l H w (execOp a.eval o) v H') (hK : ∀ l' x w', VR l' v x → Kp T.sz T.lo l H w l' H' w' → K x w') : Yields P o a w K := by
  obtain ⟨l', x, w', h1, h2, h3⟩ := h
  rcases h1 with h1 | ⟨h1, rfl⟩
  · exact .inl ⟨_, _, h1, hK _ _ _ h2 h3⟩
  · exact .inr (.inl ⟨_, h1, hK _ _ _ h2 h3⟩)
theorem Yields.wp {o : Oper} {K : Act → World → Prop} (h : Yields P o a w fun v w' => K (a.put o.dst v) w') : o.wp P a w K Q := by
  unfold Oper.wp
  rcases h with ⟨v, w1, hr, h⟩ | ⟨w1, hr, h⟩ | ⟨g, args, w1, hr, h⟩
  · rw [hr]; exact h
  · rw [hr]; exact h
  · rw [hr]
    refine Calls.mono h fun e w' => ?_
    rintro ⟨v, rfl, h⟩
    exact h
theorem OpOk.wp {o : Oper} {v : AV} {H' : Hp} {K : Act → World → Prop} (h : OpOk P T.sz T.lo l H w (execOp a.eval o) v H') (hK : ∀ l' x w', VR l' v x → Kp T.sz T.lo l H w l' H' w' → K (a.put o.dst x) w') : o.wp P a w K Q :=
  (h.yields hK).wp
theorem opV_y (hT : TbOk P T) {call : CallF} (hcall : CallOk P T call) (hr : HR T.sz l H w) (hf : ∀ x, Ev l f a.eval x) {o : Oper} {v : AV} {H' : Hp} (e : opV T call f H o.op = some (v, H')) {K : Value → World → Prop}
    (hK : ∀ l' x w', VR l' v x → Kp T.sz T.lo l H w l' H' w' → K x w') : Yields P o a w K := by
  unfold opV at e
  split at e
  · rename_i c hop
    split at e
    · rename_i g hc
      split at e
      · rename_i fid as0 cp hg
        split at e
        · rename_i as has
          have h1 := hf _ _ hg
          have h2 := evalOs_ok' (fun p _ => hf p) has
          generalize hgv : a.eval g = gv at h1
          cases h1 with | fn _ ha hcp => ?_
          rename_i av cv
          have h3 := hcall _ _ _ _ _ e l w _ hr ((ha.append h2).append hcp)
          have hx : (execOp a.eval o) = callFunc fid ((av ++ (c.args.toList.map a.eval)) ++ cv).toArray := by
            unfold execOp
            rw [hop]
            simp only [resolve, hc, hgv, Deferred.ofValue, pure_bind, invoke]
            congr 1
            apply Array.ext'
            simp
          rcases h3 with ⟨x, w', g1, l', g2, g3⟩ | ⟨g1, g2⟩
          · exact .inl ⟨_, _, by rw [hx]; exact g1, hK _ _ _ g2 g3⟩
          · refine .inr (.inr ⟨_, _, _, by rw [hx]; exact g1, Calls.mono g2 fun e w' => ?_⟩)
            rintro ⟨x, rfl, l', g3, g4⟩
            exact ⟨x, rfl, hK _ _ _ g3 g4⟩
        · cases e
      · rename_i n t u as0 cp hg
        split at e
        · rename_i fid as hm has
          have h1 := hf _ _ hg
          have h2 := evalOs_ok' (fun p _ => hf p) has
          generalize hgv : a.eval g = gv at h1
          cases h1 with | fn _ h1 hcp => ?_
          cases h1 with | cons h1 h5 => ?_
          cases h1 with | ifc _ hu => ?_
          rename_i cv av u'
          have h3 := hcall _ _ _ _ _ e l w _ hr (VRs.cons hu (h5.append h2))
          have hx : (execOp a.eval o).run P w = (callFunc fid (u' :: (av ++ c.args.toList.map a.eval)).toArray).run P w := by
            unfold execOp
            rw [hop]
            simp only [resolve, hc, hgv, Deferred.ofValue, pure_bind, invoke]
            have e0 : (Value.iface t u' :: av).toArray ++ c.args.map a.eval = (Value.iface t u' :: (av ++ c.args.toList.map a.eval)).toArray := by
              apply Array.ext'
              simp
            rw [e0]
            have e1 : (Value.iface t u' :: (av ++ c.args.toList.map a.eval)).toArray[0]? = some (.iface t u') := rfl
            have e2 : (Value.iface t u' :: (av ++ c.args.toList.map a.eval)).toArray.extract 1 (Value.iface t u' :: (av ++ c.args.toList.map a.eval)).toArray.size = (av ++ c.args.toList.map a.eval).toArray := by
              apply Array.ext'
              simp
              rw [List.take_of_length_le (by simp)]
            rw [e1]
            simp only [e2, callMethod]
            have hmm := (hT.mth _ _ _ hm u' w).1
            have e3 : (u' :: (av ++ c.args.toList.map a.eval)).toArray = #[u'] ++ (av ++ c.args.toList.map a.eval).toArray := by
              apply Array.ext'
              simp
            rw [e3]
            simp [hmm, -Array.append_assoc, -List.append_toArray]
          rcases h3 with ⟨x, w', g1, l', g2, g3⟩ | ⟨g1, g2⟩
          · exact .inl ⟨_, _, by rw [hx]; exact g1, hK _ _ _ g2 g3⟩
          · refine .inr (.inr ⟨_, _, _, by rw [hx]; exact g1, Calls.mono g2 fun e w' => ?_⟩)
            rintro ⟨x, rfl, l', g3, g4⟩
            exact ⟨x, rfl, hK _ _ _ g3 g4⟩
        · cases e
      · cases e
    · rw [← hop] at e
      exact (vop_ok hT hr hf e).yields hK
    · rename_i r n hc
      split at e
      · rename_i t u hg
        split at e
        · rename_i fid as hm has
          have h1 := hf _ _ hg
          have h2 := evalOs_ok' (fun p _ => hf p) has
          generalize hgv : a.eval r = gv at h1
          cases h1 with | ifc _ hu => ?_
          rename_i u'
          have h3 := hcall _ _ _ _ _ e l w _ hr (VRs.cons hu h2)
          have hx : (execOp a.eval o).run P w = (callFunc fid (u' :: c.args.toList.map a.eval).toArray).run P w := by
            unfold execOp
            rw [hop]
            simp only [resolve, hc, hgv, pure_bind, invoke]
            have e1 : (#[Value.iface t u'] ++ c.args.map a.eval)[0]? = some (.iface t u') := by rw [Array.getElem?_append_left (by simp)]; rfl
            have e2 : (#[Value.iface t u'] ++ c.args.map a.eval).extract 1 (#[Value.iface t u'] ++ c.args.map a.eval).size = c.args.map a.eval := by
              apply Array.ext'
              simp
              rw [List.take_of_length_le (by simp)]
            rw [e1]
            simp only [e2, callMethod]
            have hmm := (hT.mth _ _ _ hm u' w).1
            have e3 : (u' :: c.args.toList.map a.eval).toArray = #[u'] ++ c.args.map a.eval := by
              apply Array.ext'
              simp
            rw [e3]
            simp [hmm, -Array.append_assoc]
          rcases h3 with ⟨x, w', g1, l', g2, g3⟩ | ⟨g1, g2⟩
          · exact .inl ⟨_, _, by rw [hx]; exact g1, hK _ _ _ g2 g3⟩
          · refine .inr (.inr ⟨_, _, _, by rw [hx]; exact g1, Calls.mono g2 fun e w' => ?_⟩)
            rintro ⟨x, rfl, l', g3, g4⟩
            exact ⟨x, rfl, hK _ _ _ g3 g4⟩
        · cases e
      · cases e
  · exact (vop_ok hT hr hf e).yields hK
theorem opV_ok (hT : TbOk P T) {call : CallF} (hcall : CallOk P T call) (hr : HR T.sz l H w) (hf : ∀ x, Ev l f a.eval x) {o : Oper} {v : AV} {H' : Hp} (e : opV T call f H o.op = some (v, H')) {K : Act → World → Prop}
    (hK : ∀ l' x w', VR l' v x → Kp T.sz T.lo l H w l' H' w' → K (a.put o.dst x) w') : o.wp P a w K Q :=
  (opV_y hT hcall hr hf e (K := fun x w' => K (a.put o.dst x) w') hK).wp

/-! lists of operations -/
def wantV (ops : Array Oper) (f : Tr AV) (o : Oper) : Option Bool :=
  match o.guard with
  | none => some true
  | some (j, b) => match ops[j]? with
    | some oj => match oj.dst with
      | some d => match f.get d with
        | some (.bool x) => some (x == b)
        | _ => none
      | none => none
    | none => none
theorem FR.ev (h : FR N Ds l f a) : ∀ x, Ev l f a.eval x := fun _ _ e => evalO_ok h e
theorem wantV_ok (hf : FR N Ds l f a) {ops : Array Oper} {o : Oper} {b : Bool} (e : wantV ops f o = some b) : Region.wanted o (yielded ops a.tmps) = b := by
  unfold wantV at e
  unfold Region.wanted
  split at e
  · rename_i hg; cases e; rw [hg]
  · rename_i j want hg
    rw [hg]
    split at e
    · rename_i oj hj
      split at e
      · rename_i d hd
        split at e
        · rename_i x hx
          cases e
          obtain ⟨y, h1, h2⟩ := hf.get _ _ hx
          cases h2
          have : yielded ops a.tmps j = some x := by simp [yielded, hj, hd, h1]
          show (yielded ops a.tmps j == some want) = _
          rw [this]
          cases x <;> cases want <;> rfl
        · cases e
      · cases e
    · cases e
def opsV (T : Tb) (call : CallF) (N : Nat) (ops : Array Oper) : List Oper → Tr AV → Hp → Option (Tr AV × Hp)
  | [], f, H => some (f, H)
  | o :: r, f, H => match wantV ops f o with
    | none => none
    | some false => match putF N f o.dst (.tup []) with
      | some f' => opsV T call N ops r f' H
      | none => none
    | some true => match opV T call f H o.op with
      | none => match commV T f H o.op with
        | none => none
        | some (v, H') => match putF N f o.dst v with
          | some f' => opsV T call N ops r f' H'
          | none => none
      | some (v, H') => match putF N f o.dst v with
        | some f' => opsV T call N ops r f' H'
        | none => none
theorem opsV_ok (hT : TbOk P T) {call : CallF} (hcall : CallOk P T call) {ops : Array Oper} : ∀ {r : List Oper} {k : Nat} {f f' : Tr AV} {H H' : Hp} {l : Env} {a : Act} {w : World}, (∀ j, r[j]? = ops[k + j]?) → opsV T call N ops r f H = some (f', H') → FR N Ds l f a → HR T.sz l H w →
    (∀ l' a' w', FR N Ds l' f' a' → Kp T.sz T.lo l H w l' H' w' → Q .normal a' w') → CSemL P ops Q (List.range' k r.length) a w
  | [], k, f, f', H, H', l, a, w, _, e, hf, hr, hQ => by
    cases e
    exact CSemL.nil (hQ _ _ _ hf (.refl hr))
  | o :: r, k, f, f', H, H', l, a, w, hk, e, hf, hr, hQ => by
    have h0 : ops[k]? = some o := by simpa using (hk 0).symm
    have hk' : ∀ j, r[j]? = ops[(k + 1) + j]? := fun j => by have := hk (j + 1); simpa [Nat.add_assoc, Nat.add_comm 1 j] using this
    rw [List.length_cons, List.range'_succ]
    unfold opsV at e
    split at e
    · cases e
    · rename_i hw
      refine CSemL.skip h0 (wantV_ok hf hw) ?_
      split at e
      · rename_i f1 hp
        exact opsV_ok hT hcall hk' e (hf.put (x := undef) (.tup .nil) hp) hr hQ
      · cases e
    · rename_i hw
      split at e
      · split at e
        · cases e
        · rename_i v H1 ho
          split at e
          · rename_i f1 hp
            refine commV_ok hT hr hf.ev h0 (wantV_ok hf hw) ho fun x w1 h1 h2 => ?_
            exact opsV_ok hT hcall hk' e ((hf.mono h2.le).put h1 hp) h2.hr fun l2 a2 w2 g1 g2 => hQ _ _ _ g1 (h2.trans hr g2)
          · cases e
      · rename_i v H1 ho
        split at e
        · rename_i f1 hp
          refine CSemL.op h0 (wantV_ok hf hw) (opV_y hT hcall hr hf.ev ho fun l1 x w1 h1 h2 => ?_)
          exact opsV_ok hT hcall hk' e ((hf.mono h2.le).put h1 hp) h2.hr fun l2 a2 w2 g1 g2 => hQ _ _ _ g1 (h2.trans hr g2)
        · cases e

/-! bodies -/
inductive Ex where
  | normal
  | exit (i : Nat)
  | ret
abbrev DrawF := Array Oper → Tr AV → Hp → Option (Tr AV × Hp)
def DrawOk (P : Program) (T : Tb) (N : Nat) (D : DrawF) : Prop := ∀ ops f H f' H', D ops f H = some (f', H') → ∀ (Ds : List Deferred) (l : Env) (a : Act) (w : World) (Q : Exit → Act → World → Prop) (id : Nat), FR N Ds l f a → HR T.sz l H w →
  (∀ l' a' w', FR N Ds l' f' a' → Kp T.sz T.lo l H w l' H' w' → Q .normal a' w') → (Code.region id ops true).wp P Q a w
def iterV (g : Tr AV → Hp → Option (Ex × Tr AV × Hp)) : Nat → Tr AV → Hp → Option (Ex × Tr AV × Hp)
  | 0, _, _ => none
  | n + 1, f, H => match g f H with
    | some (.normal, f', H') => iterV g n f' H'
    | r => r
def evC (T : Tb) (call : CallF) (D : DrawF) (N : Nat) (fuel : Nat) : Code → Tr AV → Hp → Option (Ex × Tr AV × Hp)
  | .skip, f, H => some (.normal, f, H)
  | .label _, f, H => some (.normal, f, H)
  | .region _ ops false, f, H => match opsV T call N ops ops.toList f H with
    | some (f', H') => some (.normal, f', H')
    | none => none
  | .region _ ops true, f, H => match D ops f H with
    | some (f', H') => some (.normal, f', H')
    | none => none
  | .seq x y, f, H => match evC T call D N fuel x f H with
    | some (.normal, f', H') => evC T call D N fuel y f' H'
    | r => r
  | .cond c x y, f, H => match evalO f c with
    | some (.bool true) => evC T call D N fuel x f H
    | some (.bool false) => evC T call D N fuel y f H
    | _ => none
  | .block id x, f, H => match evC T call D N fuel x f H with
    | some (.exit i, f', H') => match Nat.beq i id with
      | true => some (.normal, f', H')
      | false => some (.exit i, f', H')
    | r => r
  | .loop x, f, H => iterV (evC T call D N fuel x) fuel f H
  | .exit i, f, H => some (.exit i, f, H)
  | .ret, f, H => some (.ret, f, H)
  | .scope x, f, H => evC T call D N fuel x f H
  | .rangeFunc g _ _ _, f, H => match evalO f g with
    | some (.fn (.func fid) a cp) => match T.fn fid with
      | none => none
      | some _ => match call fid ((a ++ [.yld]) ++ cp) H with
        | some (_, H') => some (.normal, f, H')
        | none => none
    | _ => none
  | _, _, _ => none
def Ex.to : Ex → Exit
  | .normal => .normal
  | .exit i => .exit i
  | .ret => .ret
/-- A reckoning of a piece of code is right. -/
def EvOk (P : Program) (T : Tb) (N : Nat) (c : Code) (g : Tr AV → Hp → Option (Ex × Tr AV × Hp)) : Prop := ∀ f H ex f' H', g f H = some (ex, f', H') → ∀ (B : Nat) (Ds : List Deferred) (l : Env) (a : Act) (w : World) (Q : Exit → Act → World → Prop), FR N Ds l f a → HR T.sz l H w → Mk B l H w Ds →
  (∀ Ds' l' a' w', FR N Ds' l' f' a' → Kp T.sz T.lo l H w l' H' w' → Mk B l' H' w' Ds' → Q ex.to a' w') → CSem P c Q a w
theorem iterV_ok {c : Code} {g : Tr AV → Hp → Option (Ex × Tr AV × Hp)} (hg : EvOk P T N c g) : ∀ (n : Nat) (f : Tr AV) (H : Hp) (ex : Ex) (f' : Tr AV) (H' : Hp), iterV g n f H = some (ex, f', H') → ∀ (B : Nat) (Ds : List Deferred) (l : Env) (a : Act) (w : World), FR N Ds l f a → HR T.sz l H w → Mk B l H w Ds →
    (∀ Ds' l' a' w', FR N Ds' l' f' a' → Kp T.sz T.lo l H w l' H' w' → Mk B l' H' w' Ds' → ex ≠ .normal → Q ex.to a' w') → CSemN P c Q n a w
  | 0, _, _, _, _, _, h, _, _, _, _, _, _, _, _, _ => by cases h
  | n + 1, f, H, ex, f', H', h, B, Ds, l, a, w, hf, hr, hm, hQ => by
    unfold iterV at h
    rw [CSemN.succ]
    split at h
    · rename_i f1 H1 h1
      refine hg _ _ _ _ _ h1 B Ds l a w _ hf hr hm fun D1 l1 a1 w1 g1 g2 m1 => ?_
      exact iterV_ok hg n _ _ _ _ _ h _ _ _ _ _ g1 g2.hr m1 fun D2 l2 a2 w2 k1 k2 m2 => hQ _ _ _ _ k1 (g2.trans hr k2) m2
    · rename_i hne
      refine hg _ _ _ _ _ h B Ds l a w _ hf hr hm fun D1 l1 a1 w1 g1 g2 m1 => ?_
      have hx : ex ≠ .normal := fun e => by subst e; exact hne _ _ h
      have := hQ _ _ _ _ g1 g2 m1 hx
      cases ex with
      | normal => exact absurd rfl hx
      | exit i => exact this
      | ret => exact this
theorem evC_ok (hT : TbOk P T) {call : CallF} (hcall : CallOk P T call) {D : DrawF} (hD : DrawOk P T N D) (fuel : Nat) : ∀ c : Code, EvOk P T N c (evC T call D N fuel c)
  | .skip => fun f H ex f' H' h B Ds l a w Q hf hr hm hQ => by cases h; exact .of_wp (wp_skip (hQ _ _ _ _ hf (.refl hr) hm))
  | .label _ => fun f H ex f' H' h B Ds l a w Q hf hr hm hQ => by cases h; exact .of_wp (wp_label (hQ _ _ _ _ hf (.refl hr) hm))
  | .region id ops false => fun f H ex f' H' h B Ds l a w Q hf hr hm hQ => by
    unfold evC at h
    split at h
    · rename_i ho
      cases h
      exact CSem.region (by rw [List.range_eq_range', ← Array.length_toList]; exact opsV_ok hT hcall (by simp) ho hf hr fun l' a' w' g1 g2 => hQ _ _ _ _ g1 g2 (hm.kp hr g2))
    · cases h
  | .region id ops true => fun f H ex f' H' h B Ds l a w Q hf hr hm hQ => by
    unfold evC at h
    split at h
    · rename_i ho
      cases h
      exact .of_wp (hD _ _ _ _ _ ho Ds l a w Q id hf hr fun l' a' w' g1 g2 => hQ _ _ _ _ g1 g2 (hm.kp hr g2))
    · cases h
  | .seq x y => fun f H ex f' H' h B Ds l a w Q hf hr hm hQ => by
    unfold evC at h
    refine CSem.seq ?_
    split at h
    · rename_i f1 H1 h1
      refine evC_ok hT hcall hD fuel x _ _ _ _ _ h1 B Ds l a w _ hf hr hm fun D1 l1 a1 w1 g1 g2 m1 => ?_
      exact evC_ok hT hcall hD fuel y _ _ _ _ _ h _ _ _ _ _ Q g1 g2.hr m1 fun D2 l2 a2 w2 k1 k2 m2 => hQ _ _ _ _ k1 (g2.trans hr k2) m2
    · rename_i hne
      refine evC_ok hT hcall hD fuel x _ _ _ _ _ h B Ds l a w _ hf hr hm fun D1 l1 a1 w1 g1 g2 m1 => ?_
      cases ex with
      | normal => exact absurd h (hne _ _)
      | exit i => exact hQ _ _ _ _ g1 g2 m1
      | ret => exact hQ _ _ _ _ g1 g2 m1
  | .cond c x y => fun f H ex f' H' h B Ds l a w Q hf hr hm hQ => by
    unfold evC at h
    split at h
    · rename_i hc
      have hc := hf.ev _ _ hc
      generalize hcv : a.eval c = cv at hc
      cases hc
      exact CSem.cond (t := true) hcv (evC_ok hT hcall hD fuel x _ _ _ _ _ h B Ds l a w Q hf hr hm hQ)
    · rename_i hc
      have hc := hf.ev _ _ hc
      generalize hcv : a.eval c = cv at hc
      cases hc
      exact CSem.cond (t := false) hcv (evC_ok hT hcall hD fuel y _ _ _ _ _ h B Ds l a w Q hf hr hm hQ)
    · cases h
  | .block id x => fun f H ex f' H' h B Ds l a w Q hf hr hm hQ => by
    unfold evC at h
    refine CSem.block ?_
    split at h
    · rename_i i f1 H1 h1
      refine evC_ok hT hcall hD fuel x _ _ _ _ _ h1 B Ds l a w _ hf hr hm fun D1 l1 a1 w1 g1 g2 m1 => ?_
      split at h
      · rename_i hi
        have hi := Nat.eq_of_beq_eq_true hi
        cases h
        show Exit.inBlock id Q (.exit i) a1 w1
        simp only [Exit.inBlock, hi, if_true]
        exact hQ _ _ _ _ g1 g2 m1
      · rename_i hi
        have hi := Nat.ne_of_beq_eq_false hi
        cases h
        show Exit.inBlock id Q (.exit i) a1 w1
        simp only [Exit.inBlock, hi, if_false]
        exact hQ _ _ _ _ g1 g2 m1
    · rename_i hne
      refine evC_ok hT hcall hD fuel x _ _ _ _ _ h B Ds l a w _ hf hr hm fun D1 l1 a1 w1 g1 g2 m1 => ?_
      cases ex with
      | exit i => exact absurd h (hne _ _ _)
      | normal => exact hQ _ _ _ _ g1 g2 m1
      | ret => exact hQ _ _ _ _ g1 g2 m1
  | .loop x => fun f H ex f' H' h B Ds l a w Q hf hr hm hQ => by
    unfold evC at h
    exact CSem.loop fuel (iterV_ok (evC_ok hT hcall hD fuel x) fuel _ _ _ _ _ h B Ds l a w hf hr hm fun D1 l1 a1 w1 g1 g2 m1 _ => hQ _ _ _ _ g1 g2 m1)
  | .exit i => fun f H ex f' H' h B Ds l a w Q hf hr hm hQ => by cases h; exact .of_wp (wp_exit (hQ _ _ _ _ hf (.refl hr) hm))
  | .ret => fun f H ex f' H' h B Ds l a w Q hf hr hm hQ => by cases h; exact .of_wp (wp_ret (hQ _ _ _ _ hf (.refl hr) hm))
  | .scope x => fun f H ex f' H' h B Ds l a w Q hf hr hm hQ => by
    unfold evC at h
    refine CSem.scope (evC_ok hT hcall hD fuel x _ _ _ _ _ h B Ds l a w _ hf hr hm fun D1 l1 a1 w1 g1 g2 m1 => ?_)
    have := hQ _ _ _ _ g1 g2 m1
    cases ex <;> exact this
  | .goto _ => fun f H ex f' H' h => by cases h
  | .refuse _ => fun f H ex f' H' h => by cases h
  | .rangeFunc g ps x y => fun f H ex f' H' h B Ds l a w Q hf hr hm hQ => by
    unfold evC at h
    split at h
    · rename_i fid as0 cp hg
      split at h
      · cases h
      rename_i i hi
      split at h
      · rename_i v H1 hc
        cases h
        have h1 := hf.ev _ _ hg
        generalize hgv : a.eval g = gv at h1
        cases h1 with | fn _ ha hcp => ?_
        rename_i av cv
        obtain ⟨fn, -, -, -, -, q5⟩ := hT.fn _ _ hi
        refine CSem.rangeFunc hgv q5 fun lp => ?_
        have hold : ∀ k, k < w.heap.size → ({ w with heap := (w.heap.push (.deferred (some []))).push lp } : World).heap[k]? = w.heap[k]? := fun k hk => by
          simp only
          rw [Array.getElem?_push_lt (by simp; omega), Array.getElem_push_lt hk, Array.getElem?_eq_getElem hk]
        have hr1 : HR T.sz l H { w with heap := (w.heap.push (.deferred (some []))).push lp } := hr.grown hold
        have hk1 : Kp T.sz T.lo l H w l H { w with heap := (w.heap.push (.deferred (some []))).push lp } := Kp.grown hr rfl rfl rfl (by simp; omega) hold
        have hb : ∀ b x, l b = some x → (H.get b).isSome → x.1 < w.heap.size := fun b x e1 e2 => by
          obtain ⟨o, ho⟩ := Option.isSome_iff_exists.1 e2
          obtain ⟨k, κ, y, g1, g2, -⟩ := hr.obj b o ho
          rw [e1] at g1
          cases g1
          exact (Array.getElem?_eq_some_iff.1 g2).1
        rcases hcall _ _ _ _ _ hc l _ _ hr1 ((ha.append (.cons (.yld (w.heap.size + 1)) .nil)).append hcp) with ⟨z, w', e1, -⟩ | ⟨-, e2⟩
        · rw [q5] at e1; cases e1
        · refine Calls.mono e2 fun e w2 => ?_
          rintro ⟨z, rfl, l', -, hk⟩
          have hsz : ((w.heap.push (.deferred (some []))).push lp).size = w.heap.size + 2 := by simp
          have hsize := hk.size
          simp only at hsize
          rw [hsz] at hsize
          have keep : ∀ k, w.heap.size ≤ k → k < w.heap.size + 2 → w2.heap[k]? = ((w.heap.push (.deferred (some []))).push lp)[k]? := fun k h1 h2 =>
            hk.block k (by simp only; rw [hsz]; omega) fun b x _ e1 e2 => by have := hb b x e1 e2; omega
          refine ⟨z, rfl, (keep _ (by omega) (by omega)).trans (by rw [show w.heap.size + 1 = (w.heap.push (Obj.deferred (some []))).size from by simp]; exact Array.getElem?_push_size), fun w3 t1 t2 t3 t4 t5 => ?_⟩
          have hnew : ∀ b x, l' b = some x → (H'.get b).isSome → x.1 ≠ w.heap.size ∧ x.1 ≠ w.heap.size + 1 := fun b x e1 e2 => by
            rcases hk.fresh b x e1 with e | ⟨f1, f2 | ⟨b0, -, f3, f4⟩⟩
            · have := hb b x e (hk.old b (hr.dom b x e) e2); omega
            · simp only at f2; rw [hsz] at f2; omega
            · cases e : l b0 with
              | none => rw [e] at f4; cases f4
              | some y =>
                rw [e] at f4
                have h9 : y.1 = x.1 := by simpa using f4
                have := hb b0 y e f3; omega
          have hs : Shut [w.heap.size + 1] w2 w3 := ⟨t1, t2, t3, t4, fun k hk => t5 k (by simpa using hk)⟩
          have hks : Kp T.sz T.lo l H w l' H' w3 := (hk1.trans hr hk).shut hs (by simp) (fun r hrm b x e1 e2 => by
            have : r = w.heap.size + 1 := by simpa using hrm
            subst this
            exact (hnew b x e1 e2).2)
          refine hQ (mkD w.heap.size :: Ds) l' _ w3 ⟨hf.size, (hf.mono hks.le).get, by rw [← hf.defers], fun g hg => hks.le _ _ (hf.glob g hg)⟩ hks ?_
          obtain ⟨rs, m1, m2, m3⟩ := (hm.kp hr hks).rs
          refine ⟨Nat.le_trans hm.le hks.size, w.heap.size :: rs, by rw [List.map_cons, ← m1], List.nodup_cons.2 ⟨fun hin => ?_, m2⟩, fun r hrm => ?_⟩
          · obtain ⟨rs0, n1, n2, n3⟩ := hm.rs
            have hrs : rs = rs0 := by
              have : rs.map mkD = rs0.map mkD := by rw [← m1, ← n1]
              exact (List.map_inj_right (fun a b hab => by simpa [mkD] using hab)).1 this
            subst hrs
            have := (Array.getElem?_eq_some_iff.1 (n3 _ hin).2.1).1
            omega
          · rcases List.mem_cons.1 hrm with rfl | hrm
            · refine ⟨hm.le, ?_, fun b x e1 e2 => (hnew b x e1 e2).1⟩
              rw [t5 _ (by omega), keep _ (Nat.le_refl _) (by omega)]
              rw [Array.getElem?_push_lt (by simp), Array.getElem_push_eq]
            · exact m3 r hrm
      · cases h
    · cases h

/-! calls -/
def argF : List AV → Nat → Tr AV → Tr AV
  | [], _, t => t
  | v :: r, i, t => argF r (i + 1) (t.set 10 i (some v))
theorem argF_get : ∀ (as : List AV) (i : Nat) (t : Tr AV) (j : Nat) (v : AV), (argF as i t).get j = some v → (i ≤ j ∧ as[j - i]? = some v) ∨ t.get j = some v
  | [], _, _, _, _, h => .inr h
  | u :: r, i, t, j, v, h => by
    rcases argF_get r (i + 1) _ j v h with ⟨h1, h2⟩ | h2
    · refine .inl ⟨by omega, ?_⟩
      rw [show j - i = (j - (i + 1)) + 1 from by omega, List.getElem?_cons_succ]; exact h2
    · rcases Tr.set_get _ _ _ _ _ _ h2 with ⟨rfl, e⟩ | ⟨-, e⟩
      · cases e; exact .inl ⟨Nat.le_refl _, by simp⟩
      · exact .inr e
theorem FR.first (hr : HR T.sz l H w) {as : List AV} {xs : List Value} (h : VRs l as xs) (hn : as.length ≤ N) : FR N [] l (argF as 0 .e) { tmps := xs.toArray ++ Array.replicate (N - xs.toArray.size) undef, defers := [] } := by
  have hl := h.length
  refine ⟨by simp; omega, fun i v e => ?_, rfl, hr.glob⟩
  rcases argF_get as 0 .e i v e with ⟨-, h2⟩ | h2
  · obtain ⟨u, g1, g2⟩ := h.get h2
    refine ⟨u, ?_, g2⟩
    rw [Nat.sub_zero] at g1
    have hlt := (List.getElem?_eq_some_iff.1 g1).1
    rw [Array.getElem?_append_left (by simpa using hlt)]
    simpa using g1
  · cases h2
def resV (T : Tb) (f : Tr AV) (H : Hp) : ResultVar → Option AV
  | .tmp t => f.get t
  | .cell a t => match f.get a with
    | some (.ptr b o) => loadV T H t b o
    | _ => none
def ressV (T : Tb) (f : Tr AV) (H : Hp) : List ResultVar → Option (List AV)
  | [] => some []
  | r :: rs => match resV T f H r with
    | none => none
    | some v => match ressV T f H rs with
      | none => none
      | some l => some (v :: l)
def resultV : List AV → AV
  | [v] => v
  | l => .tup l
def resRun (tmps : Array Value) : ResultVar → Sem Value
  | .tmp t => pure (tmps.getD t undef)
  | .cell a t => do loadVar t (← asAddr (tmps.getD a undef))
theorem resV_ok (hT : TbOk P T) (hf : FR N Ds l f a) (hr : HR T.sz l H w) {r : ResultVar} {v : AV} (e : resV T f H r = some v) : ∃ x, (resRun a.tmps r).run P w = .ok x w ∧ VR l v x := by
  cases r with
  | tmp t =>
    obtain ⟨x, h1, h2⟩ := hf.get t v e
    exact ⟨x, by simp [resRun, h1], h2⟩
  | cell t ty =>
    simp only [resV] at e
    split at e
    · rename_i b o hb
      obtain ⟨x, h1, h2⟩ := hf.get t _ hb
      obtain ⟨k, κ, y, g1, g2, g3⟩ := loadV_ok (P := P) hT hr e
      cases h2 with | ptr _ hl => ?_
      rw [hl] at g1
      cases g1
      exact ⟨y, by simp [resRun, h1, asAddr, g2], g3⟩
    · cases e
theorem ressV_ok (hT : TbOk P T) (hf : FR N Ds l f a) (hr : HR T.sz l H w) : ∀ {rs : List ResultVar} {vs : List AV}, ressV T f H rs = some vs → ∃ xs, (rs.mapM (resRun a.tmps)).run P w = .ok xs w ∧ VRs l vs xs
  | [], vs, e => by cases e; exact ⟨[], rfl, .nil⟩
  | r :: rs, vs, e => by
    unfold ressV at e
    split at e
    · cases e
    rename_i v hv
    split at e
    · cases e
    rename_i vs' hvs
    cases e
    obtain ⟨x, h1, h2⟩ := resV_ok hT hf hr hv
    obtain ⟨xs, h3, h4⟩ := ressV_ok hT hf hr hvs
    exact ⟨x :: xs, by simp [List.mapM_cons, h1, h3], .cons h2 h4⟩
theorem results_ok (hT : TbOk P T) (hf : FR N Ds l f a) (hr : HR T.sz l H w) {fn : Func} {vs : List AV} (e : ressV T f H fn.results.toList = some vs) : ∃ x, (results fn a.tmps).run P w = .ok x w ∧ VR l (resultV vs) x := by
  obtain ⟨xs, h1, h2⟩ := ressV_ok hT hf hr e
  have hm : (fn.results.mapM (resRun a.tmps)).run P w = .ok xs.toArray w := by
    rw [Array.mapM_eq_mapM_toList]
    simp [h1]
  have hres : results fn a.tmps = (do let vs ← fn.results.mapM (resRun a.tmps); pure (if h : vs.size = 1 then vs[0] else .tuple vs)) := by
    have e0 : (fun r => match r with | .tmp t => pure (a.tmps.getD t undef) | .cell c t => (do loadVar t (← asAddr (a.tmps.getD c undef)) : Sem Value)) = resRun a.tmps := by
      funext r
      cases r <;> rfl
    rw [← e0]; rfl
  refine ⟨if h : xs.toArray.size = 1 then xs.toArray[0] else .tuple xs.toArray, ?_, ?_⟩
  · rw [hres, Sem.run_bind, hm]; rfl
  · cases h2 with
    | nil => exact .tup .nil
    | cons h3 h4 =>
      cases h4 with
      | nil => exact h3
      | cons h5 h6 => exact .tup (.cons h3 (.cons h5 h6))
theorem calls_of_sem {g : FuncId} {fn : Func} {c : Code} {args : Array Value} {R : Ending → World → Prop} (hf : P.funcs[g]? = some fn) (hb : fn.body = some c)
    (h : CSem P c (fun e a w => (e = .normal ∨ e = .ret) ∧ ∃ rs : List Nat, a.defers = rs.map mkD ∧ rs.Nodup ∧ (∀ r ∈ rs, w.heap[r]? = some (.deferred (some []))) ∧ ∀ w2, Shut rs w w2 → ∃ v, (results fn a.tmps).run P w2 = .ok v w2 ∧ R (.returned v) w2) { tmps := args ++ Array.replicate (fn.ntmps - args.size) undef, defers := [] } w) : Calls P g args w R := by
  intro cs
  let b : Frame := { (default : Frame) with fn := g, kind := .normal }
  have hin : Frame.enter P g args .normal = b.at { tmps := args ++ Array.replicate (fn.ntmps - args.size) undef, defers := [] } [.code c] := by
    simp [Frame.enter, Frame.at, hf, hb, b]
  obtain ⟨e, a', w', ⟨he, rs, hd, hn, hrs, hR⟩, hA⟩ := h b [] cs (by simp [b])
  rw [← hin] at hA
  have fin : ∀ todo, Steps P (lone (Frame.enter P g args .normal) cs w) (lone { b.at a' todo with mode := .returning } cs w') → ∃ e w' fr, R e w' ∧ Comes P (lone (Frame.enter P g args .normal) cs w) (lone fr cs w') e ∧ fr.fn = g ∧ fr.leaving P w' e := fun todo hs => by
    obtain ⟨w2, g1, g2⟩ := shut_steps (P := P) { b.at a' todo with mode := .returning } cs rfl rs w' hd hn hrs
    obtain ⟨v, k1, k2⟩ := hR w2 g1
    exact ⟨.returned v, w2, _, k2, Steps.trans hs g2, rfl, rfl, rfl, rfl, fn, hf, k1⟩
  rcases he with rfl | rfl
  · exact fin [] (Steps.trans hA (.one step_end))
  · obtain ⟨todo, hs⟩ := hA
    exact fin todo hs
def Ex.leaves : Ex → Bool
  | .exit _ => false
  | _ => true
def ev (T : Tb) (D : CallF → Nat → DrawF) : Nat → CallF
  | 0, _, _, _ => none
  | d + 1, g, as, H => match T.hook g as H with
    | some r => some r
    | none => match T.fn g with
      | none => none
      | some i => match Nat.ble as.length i.ntmps with
        | false => none
        | true => match evC T (ev T D d) (D (ev T D d) i.ntmps) i.ntmps 1000000 i.body (argF as 0 .e) H with
          | none => none
          | some (ex, f, H') => match ex.leaves with
            | false => none
            | true => match ressV T f H' i.results with
              | some vs => some (resultV vs, H')
              | none => none
theorem ev_ok (hT : TbOk P T) (hh : CallOk P T T.hook) {D : CallF → Nat → DrawF} (hD : ∀ call N, CallOk P T call → DrawOk P T N (D call N)) : ∀ d, CallOk P T (ev T D d)
  | 0 => fun g as H v H' h => by cases h
  | d + 1 => fun g as H v H' h l w xs hr hx => by
    unfold ev at h
    split at h
    · rename_i r hk
      cases h
      exact hh _ _ _ _ _ hk l w xs hr hx
    · split at h
      · cases h
      rename_i i hi
      split at h
      · cases h
      rename_i hn
      have hn : as.length ≤ i.ntmps := by simpa [Nat.ble_eq] using hn
      obtain ⟨fn, q1, q2, q3, q4, q5⟩ := hT.fn _ _ hi
      have hcall := ev_ok hT hh hD d
      refine .inr ⟨?_, ?_⟩
      · exact q5 _ _
      · refine calls_of_sem q1 q2 ?_
        rw [q3]
        split at h
        · cases h
        · rename_i ex f' H1 hev
          split at h
          · cases h
          rename_i hlv
          split at h
          · rename_i vs hvs
            cases h
            refine evC_ok hT hcall (hD _ _ hcall) _ _ _ _ _ _ _ hev w.heap.size [] l _ w _ (FR.first hr hx hn) hr ⟨Nat.le_refl _, [], rfl, List.nodup_nil, fun r hr => by cases hr⟩ fun D1 l1 a1 w1 g1 g2 m1 => ?_
            obtain ⟨rs, m2, m3, m4⟩ := m1.rs
            refine ⟨?_, rs, g1.defers.trans m2, m3, fun r hrm => (m4 r hrm).2.1, fun w2 hs => ?_⟩
            · cases ex with
              | exit i => cases hlv
              | normal => exact .inl rfl
              | ret => exact .inr rfl
            · have hk2 := g2.shut hs (fun r hrm => (m4 r hrm).1) (fun r hrm => (m4 r hrm).2.2)
              obtain ⟨x, k1, k2⟩ := results_ok (fn := fn) hT g1 hk2.hr (by rw [q4]; exact hvs)
              exact ⟨x, k1, x, rfl, l1, k2, hk2⟩
          · cases h
end Go.Proofs.YtiddcnmgjabbeaaGreatDoor.Ev
