/-
  A RECKONER OF CLOSED CALLS, NINETEENTH PART: regions that draw: the reckoning is right. No program in sight; no condition.
-/
import Derived.Test.YtfpioijfocmfcaaGreatDoorGEvC
namespace Go.Proofs.YtfpioijfocmfcaaGreatDoor.Ev
open Go Go.RowKit

variable {P : Program} {T : Tb} {N : Nat} {call : CallF}

noncomputable def dstN (N : Nat) (ops : Array Oper) (i : Nat) : Tmp := match ops[i]? with
  | some o => match o.dst with
    | some d => d
    | none => N + i
  | none => N + i
theorem dstN_some {ops : Array Oper} {i : Nat} {o : Oper} {d : Tmp} (ho : ops[i]? = some o) (hd : o.dst = some d) : dstN N ops i = d := by simp [dstN, ho, hd]
theorem dstN_none {ops : Array Oper} {i : Nat} {o : Oper} (ho : ops[i]? = some o) (hd : o.dst = none) : dstN N ops i = N + i := by simp [dstN, ho, hd]
theorem put_dstN {ops : Array Oper} {i : Nat} {o : Oper} (ho : ops[i]? = some o) {b : Act} (hb : b.tmps.size = N) (x : Value) : b.put o.dst x = b.put (some (dstN N ops i)) x := by
  cases hd : o.dst with
  | some d => rw [dstN_some ho hd]
  | none =>
    rw [dstN_none ho hd]
    simp only [Act.put]
    rw [Array.setIfInBounds_eq_of_size_le (by rw [hb]; exact Nat.le_add_right _ _)]
theorem eval_tmps (b : Act) (x : Operand) : ({ tmps := b.tmps, defers := [] } : Act).eval x = b.eval x := by cases x <;> rfl
theorem draw_run (hT : TbOk P T) (hcall : CallOk P T call) {ops : Array Oper} {f : Tr AV} {H : Hp} {Ds : List Deferred} {l : Env} {a : Act} {w : World} {Q : Exit → Act → World → Prop} {id : Nat} {dm : Tr Nat} (hdm : dmOf ops.toList 0 .e = some dm) {S : Nat → PS} (hS0 : S 0 = s0 f H) (hS : Run T call N ops dm S) (hC : Conc T ops S) (hf : FR N Ds l f a) (hr : HR T.sz l H w)
    (hQ : ∀ l' a' w', FR N Ds l' (S ops.size).f a' → Kp T.sz T.lo l H w l' ⟨putAll (S ops.size).pend (S ops.size).Hc, (S ops.size).nx⟩ w' → Q .normal a' w') : (Code.region id ops true).wp P Q a w := by
  have h0 : (S 0).ms = .e := by rw [hS0]; rfl
  have hp0 : (S 0).pend = [] := by rw [hS0]; rfl
  have hx0 : H.nx = (S 0).nx := by rw [hS0]; rfl
  have ht0 : H.t = (S 0).Hc := by rw [hS0]; rfl
  have hf0 : f = (S 0).f := by rw [hS0]; rfl
  obtain ⟨d1, -, -⟩ := dmOf_ok hdm
  have hdN : ∀ (j : Nat) (o : Oper) (d : Tmp), ops[j]? = some o → o.dst = some d → d < N := by
    intro j o d ho hd
    obtain ⟨s', g1, -⟩ := hS.step j o ho
    rw [hd] at g1
    simpa [dstOk, Nat.blt_eq] using g1
  have dinj : ∀ j k, j < ops.size → k < ops.size → dstN N ops j = dstN N ops k → j = k := by
    intro j k hj hk e
    have oj := Array.getElem?_eq_getElem hj
    have ok := Array.getElem?_eq_getElem hk
    cases dj : (ops[j]).dst with
    | none =>
      rw [dstN_none oj dj] at e
      cases dk : (ops[k]).dst with
      | none =>
        rw [dstN_none ok dk] at e
        exact Nat.add_left_cancel e
      | some d =>
        rw [dstN_some ok dk] at e
        have := hdN k _ d ok dk
        rw [← e] at this
        exact absurd this (Nat.not_lt.2 (Nat.le_add_right _ _))
    | some d =>
      rw [dstN_some oj dj] at e
      cases dk : (ops[k]).dst with
      | none =>
        rw [dstN_none ok dk] at e
        have := hdN j _ d oj dj
        rw [e] at this
        exact absurd this (Nat.not_lt.2 (Nat.le_add_right _ _))
      | some d' =>
        rw [dstN_some ok dk] at e
        subst e
        have e1 := d1 j _ d (by simp) dj
        have e2 := d1 k _ d (by simp) dk
        rw [e1] at e2
        have := Option.some.inj e2
        omega
  refine wp_region_K (dstN N ops) N (fun L v w1 => ∃ l1 p, JF T ops S l H w l1 p L v w1) hT.mixed ?_ ?_ hf.size ?_ ?_ ?_
  · rw [List.all_eq_true]
    intro i hi
    have hi' := List.mem_range.1 hi
    have ho := Array.getElem?_eq_getElem hi'
    rw [ho]
    simp only [List.all_eq_true]
    intro ed hed
    cases hb : Region.binds .any ed with
    | false => rfl
    | true => simpa using hS.edge h0 ho hed hb
  · rw [List.all_eq_true]
    intro j hj
    rw [List.all_eq_true]
    intro k hk
    exact decide_eq_true (dinj j k (List.mem_range.1 hj) (List.mem_range.1 hk))
  · intro w1 hx hh
    exact ⟨l, 0, JF.start hS hr hx0 ht0 hx hh⟩
  · rintro i o b L v w1 ho hLi hE hval hoth hbs ⟨l1, p, hJ⟩
    have hi := (Array.getElem?_eq_some_iff.1 ho).1
    have hE' : ∀ e ∈ o.after.toList, Region.binds .any e = true → L e.on = true := fun e he => hE e (by simpa using he)
    have hA := hS.listed h0 hJ.ideal i o ho hE'
    have hnx0 := hS.nx_le (i := 0) (j := i) (by omega) (by omega)
    have lecut : l.le (l1.cut (S i).nx) := fun b y e => by
      have := hr.dom b y e
      rw [Env.cut_at (by omega)]; exact hJ.le _ _ e
    have hglob : ∀ g, g < 1000 → (l1.cut (S i).nx) g = some (g, 0) := fun g hg => lecut _ _ (hr.glob g hg)
    have FRb : FR N [] (l1.cut (S i).nx) (S (i + 1)).info.fo { tmps := b.tmps, defers := [] } := by
      refine ⟨hbs, fun t u eu => ?_, rfl, hglob⟩
      rcases hS.sees h0 hdm ho eu with ⟨g1, g2⟩ | ⟨j, oj, g1, g2, g3, g4⟩
      · rw [← hf0] at g2
        obtain ⟨x, k1, k2⟩ := hf.get t u g2
        have htN : t < a.tmps.size := (Array.getElem?_eq_some_iff.1 k1).1
        have hb := hoth t fun j hj hlj hd => by
          have oj := Array.getElem?_eq_getElem hj
          cases dj : (ops[j]).dst with
          | none =>
            rw [dstN_none oj dj] at hd
            rw [hf.size, ← hd] at htN
            exact absurd htN (Nat.not_lt.2 (Nat.le_add_right _ _))
          | some d =>
            rw [dstN_some oj dj] at hd
            subst hd
            have h7 := hS.listed h0 hJ.ideal j _ oj (hJ.ideal j _ oj hlj) i (g1 j _ oj dj)
            rw [hLi] at h7
            cases h7
        refine ⟨x, ?_, k2.mono lecut⟩
        have htb : t < b.tmps.size := by rw [hbs, ← hf.size]; exact htN
        have e1 : b.tmps.getD t undef = b.tmps[t] := by simp [htb]
        have e2 : a.tmps.getD t undef = x := by simp [k1]
        show b.tmps[t]? = some x
        rw [Array.getElem?_eq_getElem htb, ← e1, hb, e2]
      · have hj := (Array.getElem?_eq_some_iff.1 g2).1
        have hji := hS.lt h0 i j hi g1
        have hd := dstN_some (N := N) g2 g3
        have htN := hdN j oj t g2 g3
        have hb := hval j hj (hA j g1) (by rw [hd]; exact htN)
        rw [hd] at hb
        refine ⟨v j, ?_, ?_⟩
        · have htb : t < b.tmps.size := by rw [hbs]; exact htN
          have e1 : b.tmps.getD t undef = b.tmps[t] := by simp [htb]
          show b.tmps[t]? = some (v j)
          rw [Array.getElem?_eq_getElem htb, ← e1, hb]
        · rw [g4]
          exact (hJ.val j hj (hA j g1)).mono (Env.cut_mono _ (hS.nx_le (by omega) (by omega)))
    have hEv : ∀ x, Ev (l1.cut (S i).nx) (S (i + 1)).info.fo b.eval x := fun x u eu => by
      rw [← eval_tmps]; exact FRb.ev x u eu
    have hwant : ∀ t, wantV ops (S (i + 1)).info.fo o = some t → Region.wanted o (yielded ops b.tmps) = t := fun t ht => wantV_ok FRb ht
    have hno : ∀ u, (S (i + 1)).info.blk = none → (S (i + 1)).info.blk = some u → False := fun u h1 h2 => by rw [h1] at h2; cases h2
    obtain ⟨s', -, -, hD, -, hSi⟩ := hS.step i o ho
    have e1 : (S (i + 1)).info = s'.info := by rw [hSi]
    have e2 : (S (i + 1)).nx = s'.nx := by rw [hSi]
    have e3 : (S (i + 1)).Hc = s'.Hc := by rw [hSi]
    obtain ⟨V, hV⟩ : ∃ V, (S (i + 1)).info.v = V := ⟨_, rfl⟩
    rw [hV] at hD
    have plain : ∀ {l2 : Env} {w2 : World} {x : Value}, (S (i + 1)).info.cl ≠ .W → l1.le l2 → (∀ b y, l2 b = some y → l1 b = some y ∨ ((S i).nx ≤ b ∧ b < (S (i + 1)).nx ∧ w1.heap.size ≤ y.1)) → w1.heap.size ≤ w2.heap.size → (∀ k, k < w1.heap.size → w2.heap[k]? = w1.heap[k]?) →
        w2.os = w1.os → w2.tape = w1.tape → w2.output = w1.output → VR (l2.cut (S (i + 1)).nx) V x → (∀ u, (S (i + 1)).info.blk = some u → ∃ k κ y, l2 (S i).nx = some (k, κ) ∧ w1.heap.size ≤ k ∧ w2.heap[k]? = some y ∧ OR T.sz (l2.cut (S (i + 1)).nx) κ u y) →
        ∃ l1 p, JF T ops S l H w l1 p (mrkL L i) (mrkV v i x) w2 := fun {l2 w2 x} g1 g2 g3 g4 g5 g6 g7 g8 g9 g10 =>
      ⟨l2, p, JF.more hS (by omega) hJ ho hLi hE' g1 g2 g3 g4 g5 g6 g7 g8 (by rw [hV]; exact g9) g10⟩
    cases hD with
    | U hw hd =>
      refine .inr ⟨hwant _ hw, ?_, plain (by rw [e1]; intro e; cases e) (.refl _) (fun b y e => .inl e) (Nat.le_refl _) (fun _ _ => rfl) rfl rfl rfl (.tup .nil) (fun u h => by rw [e1] at h; cases h)⟩
      cases hdd : o.dst with
      | none => rw [hdd] at hd; cases hd
      | some d => rw [dstN_some ho hdd]
    | R hw hrd hbel =>
      have hc : (S (i + 1)).info.cl = .R := by rw [e1]
      have hrd2 := hJ.reads hS h0 hC ho hLi hE' hc (by rw [hV]; exact hrd)
      rw [hV] at hrd2
      obtain ⟨x, g1, g2⟩ := ropV_ok (P := P) hT (hJ.hrn hr) (ρ := b.eval) (fun y u eu => (hEv y u eu).mono (Env.cut_le _ _)) hrd2
      refine .inl ⟨hwant _ hw, ?_⟩
      unfold Oper.wp
      rw [g1]
      refine ⟨x, put_dstN ho hbs x, plain (by rw [hc]; intro e; cases e) (.refl _) (fun b y e => .inl e) (Nat.le_refl _) (fun _ _ => rfl) rfl rfl rfl ?_ (fun u h => by rw [e1] at h; cases h)⟩
      rw [e2]
      exact belA_ok hbel g2
    | W hw hm hnn hop =>
      rename_i H1
      have hc : (S (i + 1)).info.cl = .W := by rw [e1]
      obtain ⟨hpi, hnoW, hHc⟩ := hJ.place hS hi hLi hc hA
      refine .inl ⟨hwant _ hw, opV_ok hT hcall (hJ.input hS h0 hp0 hr hx0 hi hpi hHc hA) hEv hop fun l' x w2 g1 g2 => ?_⟩
      exact ⟨x, put_dstN ho hbs x, _, _, hJ.write hS h0 hp0 hr hx0 ho hLi hE' hc e2.symm e3.symm (by rw [hV]; exact g1) g2⟩
    | M hw hop hnn =>
      rename_i H1
      have hre : HR T.sz (l1.cut (S i).nx) ⟨.e, (S i).nx⟩ w1 := ⟨(fun b o e => by cases e), (fun b b' o o' x x' e => by cases e), fun b x e => (Env.cut_of e).1, hglob⟩
      refine .inl ⟨hwant _ hw, (vop_ok hT hre hEv hop).wp fun l' x w2 g1 g2 => ?_⟩
      have e2' : (S (i + 1)).nx = (S i).nx := e2
      refine ⟨x, put_dstN ho hbs x, plain (by rw [e1]; intro e; cases e) (.refl _) (fun b y e => .inl e) g2.size (fun k hk => g2.block k hk fun b x _ _ hs => absurd hs (by simp [Hp.get, Tr.get_e])) g2.os g2.tape g2.output ?_ (fun u h => by rw [e1] at h; cases h)⟩
      refine g1.mono fun b y e => ?_
      have hb := g2.hr.dom b y e
      rw [hnn] at hb
      rw [e2']
      rcases g2.fresh b y e with k | ⟨k, -⟩
      · exact k
      · exact absurd (show b < (S i).nx from hb) (Nat.not_lt.2 (show (S i).nx ≤ b from k))
    | B hw hop hnn hx =>
      rename_i H1 u0
      have hre : HR T.sz (l1.cut (S i).nx) ⟨.e, (S i).nx⟩ w1 := ⟨(fun b o e => by cases e), (fun b b' o o' x x' e => by cases e), fun b x e => (Env.cut_of e).1, hglob⟩
      refine .inl ⟨hwant _ hw, (vop_ok hT hre hEv hop).wp fun l' x w2 g1 g2 => ?_⟩
      have e2' : (S (i + 1)).nx = (S i).nx + 1 := e2
      have fr : ∀ b y, l' b = some y → (l1.cut (S i).nx) b = some y ∨ ((S i).nx ≤ b ∧ w1.heap.size ≤ y.1) := fun b y e => by
        rcases g2.fresh b y e with k | ⟨k, k2 | ⟨b0, -, k3, -⟩⟩
        · exact .inl k
        · exact .inr ⟨k, k2⟩
        · exact absurd k3 (by simp [Hp.get, Tr.get_e])
      have hle : l1.le (l1.join l' (S i).nx (S (i + 1)).nx) := fun b y e => by
        unfold Env.join
        split
        · rename_i hb
          rw [hJ.no i hi hLi b hb.1 hb.2] at e; cases e
        · exact e
      have hnew : l'.le ((l1.join l' (S i).nx (S (i + 1)).nx).cut (S (i + 1)).nx) := fun b y e => by
        have hb : b < (S (i + 1)).nx := by have := g2.hr.dom b y e; omega
        rw [Env.cut_at hb]
        unfold Env.join
        split
        · exact e
        · rename_i hb2
          rcases fr b y e with g | ⟨g, -⟩
          · exact (Env.cut_of g).2
          · exact absurd ⟨g, hb⟩ hb2
      refine ⟨x, put_dstN ho hbs x, plain (by rw [e1]; intro e; cases e) hle (fun b y e => ?_) g2.size (fun k hk => g2.block k hk fun b x _ _ hs => absurd hs (by simp [Hp.get, Tr.get_e])) g2.os g2.tape g2.output (g1.mono hnew) (fun u h => ?_)⟩
      · unfold Env.join at e
        split at e
        · rename_i hb
          rcases fr b y e with g | ⟨-, g⟩
          · have := (Env.cut_of g).1; omega
          · exact .inr ⟨hb.1, hb.2, g⟩
        · exact .inl e
      · rw [e1] at h
        cases h
        obtain ⟨k, κ, y, k1, k2, k3⟩ := g2.hr.obj _ _ hx
        refine ⟨k, κ, y, (Env.cut_of (hnew _ _ k1)).2, ?_, k2, k3.mono hnew⟩
        rcases fr _ _ k1 with g | ⟨-, g⟩
        · have := (Env.cut_of g).1; omega
        · exact g
  · rintro L v w1 hall ⟨l1, p, hJ⟩
    have hK := hJ.finish hS h0 hp0 hr hx0 hall
    refine hQ l1 _ _ ⟨(fillAll_size _).1.trans hf.size, fun t u eu => ?_, (fillAll_size _).2.trans hf.defers, fun g hg => hJ.le _ _ (hf.glob g hg)⟩ hK
    rcases hS.slot ops.size (Nat.le_refl _) t u eu with ⟨j, oj, g1, g2, g3, rfl⟩ | ⟨g1, g2⟩
    · have hd := dstN_some (N := N) g2 g3
      refine ⟨v j, ?_, (hJ.val j g1 (hall j g1)).mono (Env.cut_le _ _)⟩
      have := fillAll_at (a := a) (v := v) (dst := dstN N ops) (i := j) (by rw [hd, hf.size]; exact hdN j oj t g2 g3) ops.size dinj g1
      rw [hd] at this
      exact this
    · rw [← hf0] at g2
      obtain ⟨x, k1, k2⟩ := hf.get t u g2
      have htN : t < a.tmps.size := (Array.getElem?_eq_some_iff.1 k1).1
      refine ⟨x, ?_, k2.mono hJ.le⟩
      rw [fillAll_other ops.size fun j hj hd => ?_]
      · exact k1
      · have oj := Array.getElem?_eq_getElem hj
        cases dj : (ops[j]).dst with
        | none =>
          rw [dstN_none oj dj] at hd
          rw [hf.size, ← hd] at htN
          exact absurd htN (Nat.not_lt.2 (Nat.le_add_right _ _))
        | some d =>
          rw [dstN_some oj dj] at hd
          subst hd
          exact g1 j _ hj oj dj
theorem drawV_ok (hT : TbOk P T) (hcall : CallOk P T call) : DrawOk P T N (drawV T call N) := by
  intro ops f H f' H' e Ds l a w Q id hf hr hQ
  unfold drawV at e
  split at e
  · cases e
  rename_i dm hdm
  split at e
  · cases e
  rename_i Ls hpass
  split at e
  · cases e
  rename_i hconc
  obtain ⟨S, hS0, hS, hSn, hSL⟩ := passD_run hpass
  have hC := conc_of hSL hconc
  rw [← hSn] at e
  cases e
  exact draw_run hT hcall hdm hS0 hS hC hf hr hQ
end Go.Proofs.YtfpioijfocmfcaaGreatDoor.Ev
