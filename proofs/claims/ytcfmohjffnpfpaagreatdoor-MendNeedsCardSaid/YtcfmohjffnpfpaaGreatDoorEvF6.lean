/-
  A FASTER RECKONER, SIXTH PART: bodies, calls. No program in sight; no condition.
-/
import Derived.Test.YtcfmohjffnpfpaaGreatDoorEvG2
namespace Go.Proofs.YtcfmohjffnpfpaaGreatDoor.Ev
open Go Go.RowKit

variable {P : Program} {T : Tb} {l : Env} {H : Hp} {w : World} {N : Nat} {Ds0 : List Deferred} {a : Act} {Q : Exit → Act → World → Prop}
/-! bodies -/
noncomputable def orR (r z : Rs) : Rs := @Rs.rec (fun _ => Rs) z (fun e F H => .ok e F H) r
noncomputable def drQ (x : Option (Tr AV × Hp)) : Rs := @Option.rec (Tr AV × Hp) (fun _ => Rs) .bad (fun p => @Prod.rec (Tr AV) Hp (fun _ => Rs) (fun f H => .ok .normal (frT f) H) p) x
noncomputable def rgQ (x : Option (Ex × Tr AV × Hp)) : Rs := @Option.rec (Ex × Tr AV × Hp) (fun _ => Rs) .bad (fun p => .ok p.1 (frT p.2.1) p.2.2) x
noncomputable def thenR (r : Rs) (k : Fr → Hp → Rs) : Rs := @Rs.rec (fun _ => Rs) .bad (fun e F H => @Ex.rec (fun _ => Rs) (k F H) (fun i => .ok (.exit i) F H) (.ok .ret F H) e) r
noncomputable def blockR (id : Nat) (r : Rs) : Rs := @Rs.rec (fun _ => Rs) .bad (fun e F H => @Ex.rec (fun _ => Rs) (.ok .normal F H) (fun i => bR (Nat.beq i id) (.ok .normal F H) (.ok (.exit i) F H)) (.ok .ret F H) e) r
noncomputable def iterS (g : Fr → Hp → Rs) (_ : Nat) (ih : Fr → Hp → Rs) (F : Fr) (H : Hp) : Rs := thenR (g F H) ih
noncomputable def iterF (g : Fr → Hp → Rs) (n : Nat) : Fr → Hp → Rs := @Nat.rec (fun _ => Fr → Hp → Rs) (fun _ _ => .bad) (iterS g) n
noncomputable def asIf (u : AV) (y z : Rs) : Rs := asBool u (fun b => bR b y z) .bad
abbrev DF := CallF → Nat → DrawF
structure CC where
  run : RF
noncomputable def cSkip : RF := fun _ F H => .ok .normal F H
noncomputable def cRegion (r : IL) : RF := fun call F H => IL.run r call F H
noncomputable def cDraw (T : Tb) (N : Nat) (D : DF) (ops : Array Oper) : RF := fun call F H => orR (drawF T N ops call F H) (drQ (D call N ops (trF F) H))
noncomputable def cSeq (x y : CC) : RF := fun call F H => thenR (CC.run x call F H) (CC.run y call)
noncomputable def cCond (c : Od) (x y : CC) : RF := fun call F H => rdO c F (fun v => asIf v (CC.run x call F H) (CC.run y call F H))
noncomputable def cBlock (id : Nat) (x : CC) : RF := fun call F H => blockR id (CC.run x call F H)
noncomputable def rounds : Nat := 1000000
noncomputable def cLoop (x : CC) : RF := fun call F H => iterF (CC.run x call) rounds F H
noncomputable def cRange (T : Tb) (N : Nat) (D : DF) (f : Operand) (ps : Array Tmp) (x y : Code) : RF := fun call F H => rgQ (evC T call (D call N) N 1000000 (.rangeFunc f ps x y) (trF F) H)
noncomputable def cExit (i : Nat) : RF := fun _ F H => .ok (.exit i) F H
noncomputable def cBad : RF := fun _ _ _ => .bad
noncomputable def cRet : RF := fun _ F H => .ok .ret F H
noncomputable def kReg (T : Tb) (N : Nat) (D : DF) (_ : Nat) (ops : Array Oper) (d : Bool) : CC := match d with
  | true => ⟨cDraw T N D ops⟩
  | false => ⟨cRegion (ilOf T N ops ops.toList)⟩
noncomputable def ccOf (T : Tb) (N : Nat) (D : DF) (c : Code) : CC := @Code.rec (fun _ => CC) ⟨cSkip⟩ (kReg T N D) (fun _ _ x y => ⟨cSeq x y⟩) (fun c _ _ x y => ⟨cCond (odOf c) x y⟩) (fun id _ x => ⟨cBlock id x⟩) (fun _ x => ⟨cLoop x⟩) (fun f ps x y _ _ => ⟨cRange T N D f ps x y⟩) (fun i => ⟨cExit i⟩) (fun _ x => x) (fun _ => ⟨cSkip⟩) (fun _ => ⟨cBad⟩) ⟨cRet⟩ (fun _ => ⟨cBad⟩) c
noncomputable def evF (T : Tb) (N : Nat) (D : DF) (c : Code) : RF := CC.run (ccOf T N D c)
theorem ccOf_loop (T : Tb) (N : Nat) (D : DF) (x : Code) : ccOf T N D (.loop x) = ⟨cLoop (ccOf T N D x)⟩ := rfl
theorem evF_loop (T : Tb) (N : Nat) (D : DF) (x : Code) (call : CallF) (F : Fr) (H : Hp) : evF T N D (.loop x) call F H = iterF (CC.run (ccOf T N D x) call) rounds F H := by
  unfold evF
  rw [ccOf_loop]
  unfold cLoop
  generalize rounds = n
  rfl
/-- A reckoning of a piece of code is right. -/
def EvOkF (P : Program) (T : Tb) (N : Nat) (c : Code) (g : Fr → Hp → Rs) : Prop := ∀ F H ex F' H', g F H = .ok ex F' H' → ∀ (B : Nat) (Ds : List Deferred) (l : Env) (a : Act) (w : World) (Q : Exit → Act → World → Prop), FRF N Ds l F a → HR T.sz l H w → Mk B l H w Ds →
  (∀ Ds' l' a' w', FRF N Ds' l' F' a' → Kp T.sz T.lo l H w l' H' w' → Mk B l' H' w' Ds' → Q ex.to a' w') → CSem P c Q a w
theorem thenR_ok {r : Rs} {k : Fr → Hp → Rs} {ex : Ex} {F' : Fr} {H' : Hp} (h : thenR r k = .ok ex F' H') : (∃ F1 H1, r = .ok .normal F1 H1 ∧ k F1 H1 = .ok ex F' H') ∨ (r = .ok ex F' H' ∧ ex ≠ .normal) := by
  cases r with
  | bad => cases h
  | ok e F1 H1 => cases e with
    | normal => exact .inl ⟨F1, H1, rfl, h⟩
    | exit i => cases h; exact .inr ⟨rfl, fun e => by cases e⟩
    | ret => cases h; exact .inr ⟨rfl, fun e => by cases e⟩
theorem iterF_ok {c : Code} {g : Fr → Hp → Rs} (hg : EvOkF P T N c g) : ∀ (n : Nat) (F : Fr) (H : Hp) (ex : Ex) (F' : Fr) (H' : Hp), iterF g n F H = .ok ex F' H' → ∀ (B : Nat) (Ds : List Deferred) (l : Env) (a : Act) (w : World), FRF N Ds l F a → HR T.sz l H w → Mk B l H w Ds →
    (∀ Ds' l' a' w', FRF N Ds' l' F' a' → Kp T.sz T.lo l H w l' H' w' → Mk B l' H' w' Ds' → ex ≠ .normal → Q ex.to a' w') → CSemN P c Q n a w
  | 0, _, _, _, _, _, h, _, _, _, _, _, _, _, _, _ => by cases h
  | n + 1, F, H, ex, F', H', h, B, Ds, l, a, w, hf, hr, hm, hQ => by
    have h : thenR (g F H) (iterF g n) = .ok ex F' H' := h
    rw [CSemN.succ]
    rcases thenR_ok h with ⟨F1, H1, h1, h2⟩ | ⟨h1, hx⟩
    · refine hg _ _ _ _ _ h1 B Ds l a w _ hf hr hm fun D1 l1 a1 w1 g1 g2 m1 => ?_
      exact iterF_ok hg n _ _ _ _ _ h2 _ _ _ _ _ g1 g2.hr m1 fun D2 l2 a2 w2 k1 k2 m2 => hQ _ _ _ _ k1 (g2.trans hr k2) m2
    · refine hg _ _ _ _ _ h1 B Ds l a w _ hf hr hm fun D1 l1 a1 w1 g1 g2 m1 => ?_
      have := hQ _ _ _ _ g1 g2 m1 hx
      cases ex with
      | normal => exact absurd rfl hx
      | exit i => exact this
      | ret => exact this
theorem evF_ok (hT : TbOk P T) {call : CallF} (hcall : CallOk P T call) {D : DF} (hD : DrawOk P T N (D call N)) : ∀ c : Code, EvOkF P T N c (evF T N D c call)
  | .skip => fun F H ex F' H' h B Ds l a w Q hf hr hm hQ => by cases h; exact .of_wp (wp_skip (hQ _ _ _ _ hf (.refl hr) hm))
  | .label _ => fun F H ex F' H' h B Ds l a w Q hf hr hm hQ => by cases h; exact .of_wp (wp_label (hQ _ _ _ _ hf (.refl hr) hm))
  | .region id ops false => fun F H ex F' H' h B Ds l a w Q hf hr hm hQ => by
    have h : runIL T (ilOf T N ops ops.toList) call F H = .ok ex F' H' := h
    have key := fun (Q' : Exit → Act → World → Prop) => ilOf_ok (Q := Q') (k := 0) hT hcall (fun j => by simp) h hf hr
    obtain rfl := (key Q).2
    exact CSem.region (by rw [List.range_eq_range', ← Array.length_toList]; exact (key Q).1 fun l' a' w' g1 g2 => hQ _ _ _ _ g1 g2 (hm.kp hr g2))
  | .region id ops true => fun F H ex F' H' h B Ds l a w Q hf hr hm hQ => by
    have h : orR (drawF T N ops call F H) (drQ (D call N ops (trF F) H)) = .ok ex F' H' := h
    cases hg : drawF T N ops call F H with
    | ok e1 F1 H1 =>
      rw [hg] at h
      have h : Rs.ok e1 F1 H1 = .ok ex F' H' := h
      cases h
      obtain ⟨rfl, -⟩ := drawF_ok (Q := fun _ _ _ => True) (id := id) hT hcall hg hf hr fun l' a' w' g1 g2 => trivial
      exact .of_wp (drawF_ok (Q := Q) (id := id) hT hcall hg hf hr fun l' a' w' g1 g2 => hQ _ _ _ _ g1 g2 (hm.kp hr g2)).2
    | bad =>
    rw [hg] at h
    have h : drQ (D call N ops (trF F) H) = .ok ex F' H' := h
    cases hd : D call N ops (trF F) H with
    | none => rw [hd] at h; cases h
    | some p =>
      obtain ⟨f1, H1⟩ := p
      rw [hd] at h
      have h : Rs.ok .normal (frT f1) H1 = .ok ex F' H' := h
      cases h
      exact .of_wp (hD _ _ _ _ _ hd Ds l a w Q id hf.fr hr fun l' a' w' g1 g2 => hQ _ _ _ _ (.of g1) g2 (hm.kp hr g2))
  | .seq x y => fun F H ex F' H' h B Ds l a w Q hf hr hm hQ => by
    have h : thenR (evF T N D x call F H) (evF T N D y call) = .ok ex F' H' := h
    refine CSem.seq ?_
    rcases thenR_ok h with ⟨F1, H1, h1, h2⟩ | ⟨h1, hx⟩
    · refine evF_ok hT hcall hD x _ _ _ _ _ h1 B Ds l a w _ hf hr hm fun D1 l1 a1 w1 g1 g2 m1 => ?_
      exact evF_ok hT hcall hD y _ _ _ _ _ h2 _ _ _ _ _ Q g1 g2.hr m1 fun D2 l2 a2 w2 k1 k2 m2 => hQ _ _ _ _ k1 (g2.trans hr k2) m2
    · refine evF_ok hT hcall hD x _ _ _ _ _ h1 B Ds l a w _ hf hr hm fun D1 l1 a1 w1 g1 g2 m1 => ?_
      cases ex with
      | normal => exact absurd rfl hx
      | exit i => exact hQ _ _ _ _ g1 g2 m1
      | ret => exact hQ _ _ _ _ g1 g2 m1
  | .cond c x y => fun F H ex F' H' h B Ds l a w Q hf hr hm hQ => by
    have h : rdO (odOf c) F (fun v => asIf v (evF T N D x call F H) (evF T N D y call F H)) = .ok ex F' H' := h
    rw [rdO_eq] at h
    rcases wv_ok (getO (odOf c) F) (fun v => asIf v (evF T N D x call F H) (evF T N D y call F H)) with h1 | ⟨v, hv, h1⟩
    · rw [h1] at h; exact Rs.ok_bad h
    rw [h1] at h
    have hc := hf.fr.ev _ _ (getO_ok hv)
    unfold asIf at h
    rcases asBool_ok v (fun b => bR b (evF T N D x call F H) (evF T N D y call F H)) .bad with h2 | ⟨b, rfl, h2⟩
    · rw [h2] at h; exact Rs.ok_bad h
    rw [h2] at h
    generalize hcv : a.eval c = cv at hc
    cases hc
    cases b with
    | true => exact CSem.cond (t := true) hcv (evF_ok hT hcall hD x _ _ _ _ _ h B Ds l a w Q hf hr hm hQ)
    | false => exact CSem.cond (t := false) hcv (evF_ok hT hcall hD y _ _ _ _ _ h B Ds l a w Q hf hr hm hQ)
  | .block id x => fun F H ex F' H' h B Ds l a w Q hf hr hm hQ => by
    have h : blockR id (evF T N D x call F H) = .ok ex F' H' := h
    refine CSem.block ?_
    cases h1 : evF T N D x call F H with
    | bad => rw [h1] at h; cases h
    | ok e F1 H1 =>
      rw [h1] at h
      refine evF_ok hT hcall hD x _ _ _ _ _ h1 B Ds l a w _ hf hr hm fun D1 l1 a1 w1 g1 g2 m1 => ?_
      cases e with
      | normal => cases h; exact hQ _ _ _ _ g1 g2 m1
      | ret => cases h; exact hQ _ _ _ _ g1 g2 m1
      | exit i =>
        have h : bR (Nat.beq i id) (.ok .normal F1 H1) (.ok (.exit i) F1 H1) = .ok ex F' H' := h
        cases hb : Nat.beq i id with
        | true =>
          have hi := Nat.eq_of_beq_eq_true hb
          rw [hb] at h
          cases h
          show Exit.inBlock id Q (.exit i) a1 w1
          simp only [Exit.inBlock, hi, if_true]
          exact hQ _ _ _ _ g1 g2 m1
        | false =>
          have hi := Nat.ne_of_beq_eq_false hb
          rw [hb] at h
          cases h
          show Exit.inBlock id Q (.exit i) a1 w1
          simp only [Exit.inBlock, hi, if_false]
          exact hQ _ _ _ _ g1 g2 m1
  | .loop x => fun F H ex F' H' h B Ds l a w Q hf hr hm hQ => by
    rw [evF_loop] at h
    exact CSem.loop rounds (iterF_ok (g := CC.run (ccOf T N D x) call) (evF_ok hT hcall hD x) rounds _ _ _ _ _ h B Ds l a w hf hr hm fun D1 l1 a1 w1 g1 g2 m1 _ => hQ _ _ _ _ g1 g2 m1)
  | .exit i => fun F H ex F' H' h B Ds l a w Q hf hr hm hQ => by cases h; exact .of_wp (wp_exit (hQ _ _ _ _ hf (.refl hr) hm))
  | .ret => fun F H ex F' H' h B Ds l a w Q hf hr hm hQ => by cases h; exact .of_wp (wp_ret (hQ _ _ _ _ hf (.refl hr) hm))
  | .scope x => fun F H ex F' H' h B Ds l a w Q hf hr hm hQ => by
    have h : evF T N D x call F H = .ok ex F' H' := h
    refine CSem.scope (evF_ok hT hcall hD x _ _ _ _ _ h B Ds l a w _ hf hr hm fun D1 l1 a1 w1 g1 g2 m1 => ?_)
    have := hQ _ _ _ _ g1 g2 m1
    cases ex <;> exact this
  | .goto _ => fun F H ex F' H' h => by cases h
  | .refuse _ => fun F H ex F' H' h => by cases h
  | .rangeFunc g ps x y => fun F H ex F' H' h B Ds l a w Q hf hr hm hQ => by
    have h : rgQ (evC T call (D call N) N 1000000 (.rangeFunc g ps x y) (trF F) H) = .ok ex F' H' := h
    cases hd : evC T call (D call N) N 1000000 (.rangeFunc g ps x y) (trF F) H with
    | none => rw [hd] at h; cases h
    | some p =>
      obtain ⟨e1, f1, H1⟩ := p
      rw [hd] at h
      have h : Rs.ok e1 (frT f1) H1 = .ok ex F' H' := h
      cases h
      exact evC_ok hT hcall hD 1000000 _ _ _ _ _ _ hd B Ds l a w Q hf.fr hr hm fun D1 l1 a1 w1 g1 g2 m1 => hQ _ _ _ _ (.of g1) g2 m1
/-! calls -/
noncomputable def hdQ (l : List AV) : Option AV := @List.rec AV (fun _ => Option AV) none (fun v _ _ => some v) l
noncomputable def tlQ (l : List AV) : List AV := @List.rec AV (fun _ => List AV) [] (fun _ r _ => r) l
theorem hdQ_eq (l : List AV) : hdQ l = l[0]? := by cases l <;> rfl
theorem tlQ_eq (l : List AV) (i : Nat) : (tlQ l)[i]? = l[i + 1]? := by cases l <;> rfl
noncomputable def e8 : F8 := ⟨none, none, none, none, none, none, none, none⟩
noncomputable def argFr (as0 : List AV) : Fr := ⟨⟨hdQ as0, hdQ (tlQ as0), hdQ (tlQ (tlQ as0)), hdQ (tlQ (tlQ (tlQ as0))), hdQ (tlQ (tlQ (tlQ (tlQ as0)))), hdQ (tlQ (tlQ (tlQ (tlQ (tlQ as0))))), hdQ (tlQ (tlQ (tlQ (tlQ (tlQ (tlQ as0)))))), hdQ (tlQ (tlQ (tlQ (tlQ (tlQ (tlQ (tlQ as0)))))))⟩, ⟨hdQ (tlQ (tlQ (tlQ (tlQ (tlQ (tlQ (tlQ (tlQ as0)))))))), hdQ (tlQ (tlQ (tlQ (tlQ (tlQ (tlQ (tlQ (tlQ (tlQ as0))))))))), hdQ (tlQ (tlQ (tlQ (tlQ (tlQ (tlQ (tlQ (tlQ (tlQ (tlQ as0)))))))))), hdQ (tlQ (tlQ (tlQ (tlQ (tlQ (tlQ (tlQ (tlQ (tlQ (tlQ (tlQ as0))))))))))), hdQ (tlQ (tlQ (tlQ (tlQ (tlQ (tlQ (tlQ (tlQ (tlQ (tlQ (tlQ (tlQ as0)))))))))))), hdQ (tlQ (tlQ (tlQ (tlQ (tlQ (tlQ (tlQ (tlQ (tlQ (tlQ (tlQ (tlQ (tlQ as0))))))))))))), hdQ (tlQ (tlQ (tlQ (tlQ (tlQ (tlQ (tlQ (tlQ (tlQ (tlQ (tlQ (tlQ (tlQ (tlQ as0)))))))))))))), hdQ (tlQ (tlQ (tlQ (tlQ (tlQ (tlQ (tlQ (tlQ (tlQ (tlQ (tlQ (tlQ (tlQ (tlQ (tlQ as0)))))))))))))))⟩, e8, e8, e8, e8, e8, e8, ⟨e8, e8, e8, e8, e8, e8, e8, e8⟩, .e⟩
theorem argFr_get {as0 : List AV} {i : Nat} {v : AV} (h : getI (argFr as0) i = some v) : as0[i]? = some v := by
  have key : ∀ a b : Nat, a < 8 → b < 8 → ∀ v, colG (dig b) (rowG (dig a) (argFr as0)) = some v → as0[8 * a + b]? = some v := by
    intro a b ha hb v
    have e1 : a = 0 ∨ a = 1 ∨ a = 2 ∨ a = 3 ∨ a = 4 ∨ a = 5 ∨ a = 6 ∨ a = 7 := by omega
    have e2 : b = 0 ∨ b = 1 ∨ b = 2 ∨ b = 3 ∨ b = 4 ∨ b = 5 ∨ b = 6 ∨ b = 7 := by omega
    have none_ : ∀ {p : Prop}, (none : Option AV) = some v → p := fun h => by cases h
    rcases e1 with rfl | rfl | rfl | rfl | rfl | rfl | rfl | rfl
    · rcases e2 with rfl | rfl | rfl | rfl | rfl | rfl | rfl | rfl <;> intro h <;> (have h : hdQ _ = some v := h) <;> simpa only [hdQ_eq, tlQ_eq, Nat.zero_add, Nat.reduceAdd, Nat.reduceMul] using h
    · rcases e2 with rfl | rfl | rfl | rfl | rfl | rfl | rfl | rfl <;> intro h <;> (have h : hdQ _ = some v := h) <;> simpa only [hdQ_eq, tlQ_eq, Nat.zero_add, Nat.reduceAdd, Nat.reduceMul] using h
    all_goals (rcases e2 with rfl | rfl | rfl | rfl | rfl | rfl | rfl | rfl <;> intro h <;> exact none_ h)
  by_cases h1 : i < 64
  · rw [getI_lo h1] at h
    have := key (i / 8) (i % 8) (by omega) (Nat.mod_lt _ (by decide)) v h
    rwa [show 8 * (i / 8) + i % 8 = i by omega] at this
  · by_cases h2 : i < 128
    · rw [getI_mid h1 h2] at h
      have key2 : ∀ a b : Nat, a < 8 → b < 8 → colG (dig b) (rowH (dig a) (argFr as0).hi) = none := by
        intro a b ha hb
        have e1 : a = 0 ∨ a = 1 ∨ a = 2 ∨ a = 3 ∨ a = 4 ∨ a = 5 ∨ a = 6 ∨ a = 7 := by omega
        have e2 : b = 0 ∨ b = 1 ∨ b = 2 ∨ b = 3 ∨ b = 4 ∨ b = 5 ∨ b = 6 ∨ b = 7 := by omega
        rcases e1 with rfl | rfl | rfl | rfl | rfl | rfl | rfl | rfl <;> rcases e2 with rfl | rfl | rfl | rfl | rfl | rfl | rfl | rfl <;> rfl
      rw [key2 _ _ (by omega) (Nat.mod_lt _ (by decide))] at h
      cases h
    · rw [getI_hi h2 (getI_lt h)] at h
      cases h
theorem FRF.first (hr : HR T.sz l H w) {us : List AV} {xs : List Value} (h : VRs l us xs) (hn : us.length ≤ N) : FRF N [] l (argFr us) { tmps := xs.toArray ++ Array.replicate (N - xs.toArray.size) undef, defers := [] } := by
  have hl := h.length
  refine ⟨by simp; omega, fun i v e => ?_, rfl, hr.glob⟩
  obtain ⟨u, g1, g2⟩ := h.get (argFr_get e)
  refine ⟨u, ?_, g2⟩
  have hlt := (List.getElem?_eq_some_iff.1 g1).1
  rw [Array.getElem?_append_left (by simpa using hlt)]
  simpa using g1
/-! results -/
noncomputable def ldOf (T : Tb) (H : Hp) (t : TypeId) (x : Option AV) : Option AV := match x with
  | some (.ptr b o) => loadV T H t b o
  | _ => none
noncomputable def resT (_ : Tb) (t : Tmp) (F : Fr) (_ : Hp) : Option AV := getO (odOf (.tmp t)) F
noncomputable def resC (T : Tb) (a : Tmp) (t : TypeId) (F : Fr) (H : Hp) : Option AV := ldOf T H t (getO (odOf (.tmp a)) F)
noncomputable def resF (T : Tb) (r : ResultVar) : Fr → Hp → Option AV := @ResultVar.rec (fun _ => Fr → Hp → Option AV) (resT T) (resC T) r
noncomputable def oL (x : Option AV) (q : AV → Option (List AV)) : Option (List AV) := @Option.rec AV (fun _ => Option (List AV)) none q x
noncomputable def oLs (x : Option (List AV)) (q : List AV → Option (List AV)) : Option (List AV) := @Option.rec (List AV) (fun _ => Option (List AV)) none q x
noncomputable def ressC (T : Tb) (r : ResultVar) (_ : List ResultVar) (ih : Fr → Hp → Option (List AV)) (F : Fr) (H : Hp) : Option (List AV) := oL (resF T r F H) (fun v => oLs (ih F H) (fun l => some (v :: l)))
noncomputable def ressF (T : Tb) (rs : List ResultVar) : Fr → Hp → Option (List AV) := @List.rec ResultVar (fun _ => Fr → Hp → Option (List AV)) (fun _ _ => some []) (ressC T) rs
theorem resF_ok {r : ResultVar} {F : Fr} {v : AV} (h : resF T r F H = some v) : resV T (trF F) H r = some v := by
  cases r with
  | tmp t => exact getO_ok h
  | cell a t =>
    have h : ldOf T H t (getO (odOf (.tmp a)) F) = some v := h
    unfold ldOf at h
    split at h
    · rename_i b o hb
      have hb : (trF F).get a = some (.ptr b o) := getO_ok hb
      simp only [resV, hb, h]
    · cases h
theorem ressF_ok {F : Fr} : ∀ {rs : List ResultVar} {vs : List AV}, ressF T rs F H = some vs → ressV T (trF F) H rs = some vs
  | [], vs, h => by cases h; rfl
  | r :: rs, vs, h => by
    have h : oL (resF T r F H) (fun v => oLs (ressF T rs F H) (fun l => some (v :: l))) = some vs := h
    cases h1 : resF T r F H with
    | none => rw [h1] at h; cases h
    | some v =>
      rw [h1] at h
      have h : oLs (ressF T rs F H) (fun l => some (v :: l)) = some vs := h
      cases h2 : ressF T rs F H with
      | none => rw [h2] at h; cases h
      | some l =>
        rw [h2] at h
        have h : some (v :: l) = some vs := h
        cases h
        rw [ressV, resF_ok h1, ressF_ok h2]
noncomputable def oAH {α : Type} (x : Option α) (q : α → Option (AV × Hp)) (z : Option (AV × Hp)) : Option (AV × Hp) := @Option.rec α (fun _ => Option (AV × Hp)) z q x
noncomputable def bAH (b : Bool) (x : Option (AV × Hp)) : Option (AV × Hp) := @Bool.rec (fun _ => Option (AV × Hp)) none x b
noncomputable def oneR (vs : List AV) : AV := @List.rec AV (fun _ => AV) (.tup []) (fun v r _ => @List.rec AV (fun _ => AV) v (fun v2 r2 _ => .tup (v :: v2 :: r2)) r) vs
theorem oneR_eq (vs : List AV) : oneR vs = resultV vs := by
  match vs with
  | [] => rfl
  | [_] => rfl
  | _ :: _ :: _ => rfl
noncomputable def endF (T : Tb) (rs : List ResultVar) (r : Rs) : Option (AV × Hp) := @Rs.rec (fun _ => Option (AV × Hp)) none (fun e F H => @Ex.rec (fun _ => Option (AV × Hp)) (oAH (ressF T rs F H) (fun vs => some (oneR vs, H)) none) (fun _ => none) (oAH (ressF T rs F H) (fun vs => some (oneR vs, H)) none) e) r
noncomputable def bodyF (T : Tb) (D : DF) (call : CallF) (us : List AV) (H : Hp) (i : FI) : Option (AV × Hp) := bAH (Nat.ble (lenQ us) (FI.ntmps i)) (endF T (FI.results i) (evF T (FI.ntmps i) D (FI.body i) call (argFr us) H))
noncomputable def callS (T : Tb) (D : DF) (_ : Nat) (ih : CallF) : CallF := fun g us H => oAH (Tb.hook T g us H) some (oAH (Tb.fn T g) (bodyF T D ih us H) none)
noncomputable def ev2 (T : Tb) (D : DF) (d : Nat) : CallF := @Nat.rec (fun _ => CallF) (fun _ _ _ => none) (callS T D) d
theorem endF_ok {rs : List ResultVar} {r : Rs} {v : AV} {H' : Hp} (h : endF T rs r = some (v, H')) : ∃ e F vs, r = .ok e F H' ∧ e.leaves = true ∧ ressV T (trF F) H' rs = some vs ∧ v = resultV vs := by
  have key : ∀ F H1, oAH (ressF T rs F H1) (fun vs => some (oneR vs, H1)) none = some (v, H') → ∃ vs, H1 = H' ∧ ressV T (trF F) H' rs = some vs ∧ v = resultV vs := by
    intro F H1 h
    cases h1 : ressF T rs F H1 with
    | none => rw [h1] at h; cases h
    | some vs =>
      rw [h1] at h
      have h : some (oneR vs, H1) = some (v, H') := h
      cases h
      exact ⟨vs, rfl, ressF_ok h1, oneR_eq vs⟩
  cases r with
  | bad => cases h
  | ok e F H1 => cases e with
    | normal => obtain ⟨vs, rfl, h1, h2⟩ := key F H1 h; exact ⟨_, _, vs, rfl, rfl, h1, h2⟩
    | exit i => cases h
    | ret => obtain ⟨vs, rfl, h1, h2⟩ := key F H1 h; exact ⟨_, _, vs, rfl, rfl, h1, h2⟩
theorem ev2_ok (hT : TbOk P T) (hh : CallOk P T T.hook) {D : DF} (hD : ∀ call N, CallOk P T call → DrawOk P T N (D call N)) : ∀ d, CallOk P T (ev2 T D d)
  | 0 => fun g us H v H' h => by cases h
  | d + 1 => fun g us H v H' h l w xs hr hx => by
    have h : oAH (T.hook g us H) some (oAH (T.fn g) (bodyF T D (ev2 T D d) us H) none) = some (v, H') := h
    cases hk : T.hook g us H with
    | some r =>
      rw [hk] at h
      have h : some r = some (v, H') := h
      cases h
      exact hh _ _ _ _ _ hk l w xs hr hx
    | none =>
      rw [hk] at h
      have h : oAH (T.fn g) (bodyF T D (ev2 T D d) us H) none = some (v, H') := h
      cases hi : T.fn g with
      | none => rw [hi] at h; cases h
      | some i =>
        rw [hi] at h
        have h : bAH (Nat.ble (lenQ us) i.ntmps) (endF T i.results (evF T i.ntmps D i.body (ev2 T D d) (argFr us) H)) = some (v, H') := h
        cases hn : Nat.ble (lenQ us) i.ntmps with
        | false => rw [hn] at h; cases h
        | true =>
          rw [hn] at h
          have h : endF T i.results (evF T i.ntmps D i.body (ev2 T D d) (argFr us) H) = some (v, H') := h
          have hn : us.length ≤ i.ntmps := by have := Nat.le_of_ble_eq_true hn; rwa [lenQ_eq] at this
          obtain ⟨fn, q1, q2, q3, q4, q5⟩ := hT.fn _ _ hi
          have hcall := ev2_ok hT hh hD d
          refine .inr ⟨q5 _ _, calls_of_sem q1 q2 ?_⟩
          rw [q3]
          obtain ⟨ex, F', vs, hev, hlv, hvs, rfl⟩ := endF_ok h
          refine evF_ok hT hcall (hD _ _ hcall) _ _ _ _ _ _ hev w.heap.size [] l _ w _ (FRF.first hr hx hn) hr ⟨Nat.le_refl _, [], rfl, List.nodup_nil, fun r hr => by cases hr⟩ fun D1 l1 a1 w1 g1 g2 m1 => ?_
          obtain ⟨rs, m2, m3, m4⟩ := m1.rs
          refine ⟨?_, rs, g1.defers.trans m2, m3, fun r hrm => (m4 r hrm).2.1, fun w2 hs => ?_⟩
          · cases ex with
            | exit i => cases hlv
            | normal => exact .inl rfl
            | ret => exact .inr rfl
          · have hk2 := g2.shut hs (fun r hrm => (m4 r hrm).1) (fun r hrm => (m4 r hrm).2.2)
            obtain ⟨x, k1, k2⟩ := results_ok (fn := fn) hT g1.fr hk2.hr (by rw [q4]; exact hvs)
            exact ⟨x, k1, x, rfl, l1, k2, hk2⟩
end Go.Proofs.YtcfmohjffnpfpaaGreatDoor.Ev
