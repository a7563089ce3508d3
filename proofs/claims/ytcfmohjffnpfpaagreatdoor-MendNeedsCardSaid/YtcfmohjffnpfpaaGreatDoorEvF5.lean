/-
  A FASTER RECKONER, FIFTH PART: regions, bodies, calls. No program in sight; no condition.
-/
import Derived.Test.YtcfmohjffnpfpaaGreatDoorEvF4
namespace Go.Proofs.YtcfmohjffnpfpaaGreatDoor.Ev
open Go Go.RowKit

variable {P : Program} {T : Tb} {l : Env} {H : Hp} {w : World} {N : Nat} {Ds0 : List Deferred} {a : Act} {Q : Exit → Act → World → Prop}
/-! regions, as functions -/
abbrev RF := CallF → Fr → Hp → Rs
structure IL where
  run : RF
noncomputable def bEq (x : Bool) : Bool → Bool := @Bool.rec (fun _ => Bool → Bool) (fun b => @Bool.rec (fun _ => Bool) true false b) (fun b => b) x
theorem bEq_eq (x b : Bool) : bEq x b = (x == b) := by cases x <;> cases b <;> rfl
noncomputable def asGrd (u : AV) : Bool → Rs → Rs → Rs := @AV.rec (fun _ => Bool → Rs → Rs → Rs) (fun _ => Unit) (fun x b y z => bR (bEq x b) y z) (fun _ _ _ _ _ => .bad) (fun _ _ _ _ => .bad) (fun _ _ _ => .bad) (fun _ _ _ _ _ => .bad) (fun _ _ _ => .bad) (fun _ _ _ _ _ _ _ => .bad) (fun _ _ _ _ _ _ _ => .bad) (fun _ _ _ => .bad) (fun _ _ _ _ => .bad) (fun _ _ _ _ => .bad) (fun _ _ _ _ _ _ _ _ => .bad) (fun _ _ _ => .bad) (fun _ _ _ _ _ _ => .bad) (fun _ _ _ => .bad) (fun _ _ _ _ _ => .bad) (fun _ _ _ _ z => z) (fun _ _ _ _ => .bad) (fun _ _ _ _ => .bad) () (fun _ _ _ _ => ()) u
theorem asGrd_ok (u : AV) (b : Bool) (y z : Rs) : asGrd u b y z = .bad ∨ (∃ x, u = .bool x ∧ asGrd u b y z = bR (x == b) y z) ∨ (∃ l, u = .tup l) ∧ asGrd u b y z = z := by
  cases u <;> first | exact .inl rfl | exact .inr (.inl ⟨_, rfl, by rw [← bEq_eq]; rfl⟩) | exact .inr (.inr ⟨⟨_, rfl⟩, rfl⟩)
noncomputable def ilN : RF := fun _ F H => .ok .normal F H
noncomputable def ilB : RF := fun _ _ _ => .bad
noncomputable def ilI (x : X) (d : Ds) (r : IL) : RF := fun call F H => X.run x call F H (fun v H' => IL.run r call (setD d v F) H')
noncomputable def ilG (x : Od) (b : Bool) (i : X) (d : Ds) (r : IL) : RF := fun call F H =>
  rdO x F (fun u => asGrd u b (X.run i call F H (fun v H' => IL.run r call (setD d v F) H')) (IL.run r call (setD d (.tup []) F) H))
noncomputable def ilMv (x : Od) (d : Ds) (r : IL) : RF := fun call F H => rdO x F (fun v => IL.run r call (setD d v F) H)
noncomputable def ilBin (T : Tb) (f : FX) (op : BinOp) (t : TypeId) (ox oy : Operand) (x y : Od) (d : Ds) (r : IL) : RF := fun call F H => rdO x F (fun u => rdO y F (fun v => FX.f f u v (fun z => IL.run r call (setD d z F) H) (wv (binS T op t ox oy u v) (fun z => IL.run r call (setD d z F) H))))
noncomputable def ilC (T : Tb) (ins : Ins) (d : Ds) (r : IL) : IL := match ins with
  | .u k x => match k with
    | .mv => ⟨ilMv x d r⟩
    | k => ⟨ilI (xOf T (.u k x)) d r⟩
  | .b k x y => match k with
    | .bin op t ox oy => ⟨ilBin T (fxOf op) op t ox oy x y d r⟩
    | k => ⟨ilI (xOf T (.b k x y)) d r⟩
  | i => ⟨ilI (xOf T i) d r⟩
noncomputable def ilOf (T : Tb) (N : Nat) (ops : Array Oper) : List Oper → IL
  | [] => ⟨ilN⟩
  | o :: r => match dsOf N o.dst with
    | none => ⟨ilB⟩
    | some d => match o.guard with
      | none => ilC T (insOf T o.op) d (ilOf T N ops r)
      | some (j, b) => match ops[j]? with
        | some oj => match oj.dst with
          | some dj => ⟨ilG (odOf (.tmp dj)) b (xOf T (insOf T o.op)) d (ilOf T N ops r)⟩
          | none => ⟨ilB⟩
        | none => ⟨ilB⟩
noncomputable def runIL (_ : Tb) (i : IL) : RF := IL.run i
theorem ilC_run (T : Tb) (ins : Ins) (d : Ds) (r : IL) (call : CallF) (F : Fr) (H : Hp) : runIL T (ilC T ins d r) call F H = exec T ins call F H (fun v H' => runIL T r call (setD d v F) H') := by
  have gen : ∀ i : Ins, runIL T ⟨ilI (xOf T i) d r⟩ call F H = exec T i call F H (fun v H' => runIL T r call (setD d v F) H') := fun i => by
    show (xOf T i).run call F H (fun v H' => IL.run r call (setD d v F) H') = _
    rw [xOf_eq]; rfl
  cases ins with
  | u k x => cases k <;> first | rfl | exact gen _
  | b k x y =>
    cases k <;> first | exact gen _ | skip
    rename_i op t ox oy
    show rdO x F (fun u => rdO y F (fun v => (fxOf op).f u v (fun z => IL.run r call (setD d z F) H) (wv (binS T op t ox oy u v) (fun z => IL.run r call (setD d z F) H)))) = _
    rw [fxOf_eq]; rfl
  | _ => exact gen _
theorem ilG_run (T : Tb) (x : Od) (b : Bool) (i : Ins) (d : Ds) (r : IL) (call : CallF) (F : Fr) (H : Hp) : runIL T ⟨ilG x b (xOf T i) d r⟩ call F H = rdO x F (fun u => asGrd u b (exec T i call F H (fun v H' => runIL T r call (setD d v F) H')) (runIL T r call (setD d (.tup []) F) H)) := by
  show rdO x F (fun u => asGrd u b ((xOf T i).run call F H (fun v H' => IL.run r call (setD d v F) H')) (IL.run r call (setD d (.tup []) F) H)) = _
  rw [xOf_eq]; rfl
theorem stepV_ok (hT : TbOk P T) {call : CallF} (hcall : CallOk P T call) (hr : HR T.sz l H w) {f : Tr AV} (hf : FR N Ds0 l f a) {ops : Array Oper} {i : Nat} {is : List Nat} {o : Oper} (ho : ops[i]? = some o) (hw : Region.wanted o (yielded ops a.tmps) = true) {v : AV} {H' : Hp} (e : stepV T call f H o.op = some (v, H'))
    (h : ∀ l' x w', VR l' v x → Kp T.sz T.lo l H w l' H' w' → CSemL P ops Q is (a.put o.dst x) w') : CSemL P ops Q (i :: is) a w := by
  unfold stepV at e
  split at e
  · rename_i hv
    cases e
    exact CSemL.op ho hw (opV_y hT hcall hr hf.ev hv h)
  · split at e
    · rename_i hv
      cases e
      exact commV_ok hT hr hf.ev ho hw hv fun x w1 h1 h2 => h _ _ _ h1 h2
    · exact yopV_ok hT hcall hr hf.ev ho hw e h
theorem Rs.ok_bad {e : Ex} {F : Fr} {H : Hp} {p : Prop} (h : Rs.bad = .ok e F H) : p := by cases h
theorem exec_norm {call : CallF} {ins : Ins} {op : Op} {F F' : Fr} {H H' : Hp} {ex : Ex} {q : AV → Hp → Rs} (hi : XOk T op ins) (hq : ∀ v H1, q v H1 = .ok ex F' H' → ex = .normal) (h : exec T ins call F H q = .ok ex F' H') : ex = .normal := by
  rcases hi call F H q with h1 | ⟨v, H1, -, h1⟩
  · rw [h1] at h; exact Rs.ok_bad h
  · rw [h1] at h; exact hq _ _ h
theorem il_normal {call : CallF} {ops : Array Oper} : ∀ {r : List Oper} {F F' : Fr} {H H' : Hp} {ex : Ex}, runIL T (ilOf T N ops r) call F H = .ok ex F' H' → ex = .normal
  | [], F, F', H, H', ex, h => by cases h; rfl
  | o :: r, F, F', H, H', ex, h => by
    rw [ilOf] at h
    split at h
    · exact Rs.ok_bad h
    rename_i d hd
    split at h
    · rw [ilC_run] at h
      exact exec_norm (insOf_ok T o.op) (fun v H1 h => il_normal h) h
    · rename_i j b hg
      split at h
      · split at h
        · rename_i oj _ _ dj _
          have e : rdO (odOf (.tmp dj)) F (fun u => asGrd u b (exec T (insOf T o.op) call F H (fun v H' => runIL T (ilOf T N ops r) call (setD d v F) H')) (runIL T (ilOf T N ops r) call (setD d (.tup []) F) H)) = .ok ex F' H' := by rw [← ilG_run]; exact h
          rw [rdO_eq] at e
          rcases wv_ok (getO (odOf (.tmp dj)) F) (fun u => asGrd u b (exec T (insOf T o.op) call F H (fun v H' => runIL T (ilOf T N ops r) call (setD d v F) H')) (runIL T (ilOf T N ops r) call (setD d (.tup []) F) H)) with h1 | ⟨u, hu, h1⟩
          · rw [h1] at e; exact Rs.ok_bad e
          rw [h1] at e
          rcases asGrd_ok u b (exec T (insOf T o.op) call F H (fun v H' => runIL T (ilOf T N ops r) call (setD d v F) H')) (runIL T (ilOf T N ops r) call (setD d (.tup []) F) H) with h2 | ⟨x, -, h2⟩ | ⟨-, h2⟩
          · rw [h2] at e; exact Rs.ok_bad e
          · rw [h2] at e
            cases hx : (x == b) with
            | true => rw [hx] at e; exact exec_norm (insOf_ok T o.op) (fun v H1 h => il_normal h) e
            | false => rw [hx] at e; exact il_normal e
          · rw [h2] at e; exact il_normal e
        · exact Rs.ok_bad h
      · exact Rs.ok_bad h
theorem ilOf_ok (hT : TbOk P T) {call : CallF} (hcall : CallOk P T call) {ops : Array Oper} : ∀ {r : List Oper} {k : Nat} {F F' : Fr} {H H' : Hp} {ex : Ex} {l : Env} {a : Act} {w : World}, (∀ j, r[j]? = ops[k + j]?) → runIL T (ilOf T N ops r) call F H = .ok ex F' H' → FRF N Ds0 l F a → HR T.sz l H w →
    ((∀ l' a' w', FRF N Ds0 l' F' a' → Kp T.sz T.lo l H w l' H' w' → Q .normal a' w') → CSemL P ops Q (List.range' k r.length) a w) ∧ ex = .normal
  | [], k, F, F', H, H', ex, l, a, w, _, e, hf, hr => by
    cases e
    exact ⟨fun hQ => CSemL.nil (hQ _ _ _ hf (.refl hr)), rfl⟩
  | o :: r, k, F, F', H, H', ex, l, a, w, hk, e, hf, hr => by
    have h0 : ops[k]? = some o := by simpa using (hk 0).symm
    have hk' : ∀ j, r[j]? = ops[(k + 1) + j]? := fun j => by have := hk (j + 1); simpa [Nat.add_assoc, Nat.add_comm 1 j] using this
    rw [List.length_cons, List.range'_succ]
    rw [ilOf] at e
    split at e
    · exact Rs.ok_bad e
    rename_i d hd
    have run : ∀ {e' : Rs}, e' = exec T (insOf T o.op) call F H (fun v H' => runIL T (ilOf T N ops r) call (setD d v F) H') → e' = .ok ex F' H' → Region.wanted o (yielded ops a.tmps) = true →
        ((∀ l' a' w', FRF N Ds0 l' F' a' → Kp T.sz T.lo l H w l' H' w' → Q .normal a' w') → CSemL P ops Q (k :: List.range' (k + 1) r.length) a w) ∧ ex = .normal := by
      intro e' h1 h2 hw
      subst h1
      rcases insOf_ok T o.op call F H (fun v H' => runIL T (ilOf T N ops r) call (setD d v F) H') with h3 | ⟨v, H1, hs, h3⟩
      · rw [h3] at h2; exact Rs.ok_bad h2
      rw [h3] at h2
      refine ⟨fun hQ => stepV_ok hT hcall hr hf.fr h0 hw hs fun l1 x w1 g1 g2 => ?_, ?_⟩
      · exact (ilOf_ok hT hcall hk' h2 ((hf.mono g2.le).put hd g1) g2.hr).1 fun l2 a2 w2 k1 k2 => hQ _ _ _ k1 (g2.trans hr k2)
      · exact il_normal h2
    split at e
    · rename_i hg
      rw [ilC_run] at e
      exact run rfl e (wantV_ok hf.fr (by unfold wantV; rw [hg]))
    · rename_i j b hg
      split at e
      · rename_i oj hoj
        split at e
        · rename_i dj hdj
          have e : rdO (odOf (.tmp dj)) F (fun u => asGrd u b (exec T (insOf T o.op) call F H (fun v H' => runIL T (ilOf T N ops r) call (setD d v F) H')) (runIL T (ilOf T N ops r) call (setD d (.tup []) F) H)) = .ok ex F' H' := by rw [← ilG_run]; exact e
          rw [rdO_eq] at e
          rcases wv_ok (getO (odOf (.tmp dj)) F) (fun u => asGrd u b (exec T (insOf T o.op) call F H (fun v H' => runIL T (ilOf T N ops r) call (setD d v F) H')) (runIL T (ilOf T N ops r) call (setD d (.tup []) F) H)) with h1 | ⟨u, hu, h1⟩
          · rw [h1] at e; exact Rs.ok_bad e
          rw [h1] at e
          have hu : (trF F).get dj = some u := getO_ok hu
          have skip : runIL T (ilOf T N ops r) call (setD d (.tup []) F) H = .ok ex F' H' → Region.wanted o (yielded ops a.tmps) = false → ((∀ l' a' w', FRF N Ds0 l' F' a' → Kp T.sz T.lo l H w l' H' w' → Q .normal a' w') → CSemL P ops Q (k :: List.range' (k + 1) r.length) a w) ∧ ex = .normal := fun h2 hw =>
            ⟨fun hQ => CSemL.skip h0 hw ((ilOf_ok hT hcall hk' h2 (hf.put (x := undef) hd (.tup .nil)) hr).1 hQ), il_normal h2⟩
          rcases asGrd_ok u b (exec T (insOf T o.op) call F H (fun v H' => runIL T (ilOf T N ops r) call (setD d v F) H')) (runIL T (ilOf T N ops r) call (setD d (.tup []) F) H) with h2 | ⟨x, rfl, h2⟩ | ⟨⟨q, rfl⟩, h2⟩
          · rw [h2] at e; exact Rs.ok_bad e
          · rw [h2] at e
            have hw := wantV_ok (ops := ops) (o := o) hf.fr (b := x == b) (by unfold wantV; rw [hg]; simp only [hoj, hdj, hu])
            cases hx : (x == b) with
            | true => rw [hx] at e hw; exact run rfl e hw
            | false => rw [hx] at e hw; exact skip e hw
          · rw [h2] at e
            exact skip e (wantV_ok hf.fr (by unfold wantV; rw [hg]; simp only [hoj, hdj, hu]))
        · exact Rs.ok_bad e
      · exact Rs.ok_bad e
end Go.Proofs.YtcfmohjffnpfpaaGreatDoor.Ev
