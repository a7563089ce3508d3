/-
  A RECKONER OF CLOSED CALLS: what a piece of code comes to, in a frame that is no early one; communications of one goroutine among its steps. No program in sight; no condition.
-/
import Derived.Test.YtfpioijfocmfcaaGreatDoorGEvB
import Derived.LoopN
import Derived.Scope
import Derived.Conc.LoneSelect
import Derived.RangeFuncLeaves
import Derived.RangeFuncRecord
namespace Go.Proofs.YtfpioijfocmfcaaGreatDoor.Ev
open Go Go.RowKit Go.Conc

variable {P : Program} {T : Tb} {lo : Nat} {l : Env} {H : Hp} {w : World} {f : Tr AV} {a : Act} {Q : Exit → Act → World → Prop}

/-- Where a piece of code comes to. -/
noncomputable def CSem (P : Program) (c : Code) (Q : Exit → Act → World → Prop) (a : Act) (w : World) : Prop :=
  ∀ (b : Frame) (k : List Item) (cs : List Frame), b.kind ≠ .early → ∃ e a' w', Q e a' w' ∧ Arrives P (lone (b.at a (.code c :: k)) cs w) b k cs e a' w'
theorem CSem.of_wp {c : Code} (h : c.wp P Q a w) : CSem P c Q a w := fun b k cs _ => h b k cs
theorem CSem.seq {x y : Code} (h : CSem P x (Exit.then (CSem P y Q) Q) a w) : CSem P (.seq x y) Q a w := fun b k cs hb => by
  obtain ⟨e, a1, w1, hq, hr⟩ := h b (.code y :: k) cs hb
  have st : Steps P (lone (b.at a (.code (.seq x y) :: k)) cs w) _ := .one step_seq
  by_cases he : e = .normal
  · subst he
    obtain ⟨e2, a2, w2, hq2, hr2⟩ := hq b k cs hb
    exact ⟨e2, a2, w2, hq2, .of_steps (st.trans hr) hr2⟩
  · refine ⟨e, a1, w1, ?_, .of_steps st (.pass rfl (fun _ _ => .inl he) hr)⟩
    cases e <;> first | exact absurd rfl he | exact hq
theorem CSem.cond {c : Operand} {x y : Code} {t : Bool} (hc : a.eval c = .bool t) (h : CSem P (if t then x else y) Q a w) : CSem P (.cond c x y) Q a w := fun b k cs hb =>
  let ⟨e, a', w', hq, hr⟩ := h b k cs hb; ⟨e, a', w', hq, .of_steps (.one (step_cond hc)) hr⟩
theorem CSem.block {id : Nat} {c : Code} (h : CSem P c (Exit.inBlock id Q) a w) : CSem P (.block id c) Q a w := fun b k cs hb => by
  obtain ⟨e, a1, w1, hq, hr⟩ := h b (.inBlock id :: k) cs hb
  have st : Steps P (lone (b.at a (.code (.block id c) :: k)) cs w) _ := .one step_block
  cases e with
  | normal => exact ⟨.normal, a1, w1, hq, st.trans (Steps.trans hr (.one step_inBlock))⟩
  | exit i =>
    by_cases hi : i = id
    · simp only [Exit.inBlock, hi, if_true] at hq
      exact ⟨.normal, a1, w1, hq, st.trans (hr k (by simp [exitTo, hi]))⟩
    · simp only [Exit.inBlock, hi, if_false] at hq
      have hn : (id == i) = false := by rw [beq_eq_false_iff_ne]; exact fun e => hi e.symm
      exact ⟨.exit i, a1, w1, hq, fun k' hk => st.trans (hr k' (by simp [exitTo, hn, hk]))⟩
  | goto g => exact ⟨.goto g, a1, w1, hq, fun k' hk => st.trans (hr k' (by simp [gotoIn, hk]))⟩
  | ret => exact ⟨.ret, a1, w1, hq, .of_steps st hr⟩
  | panic ch => exact ⟨.panic ch, a1, w1, hq, .of_steps st hr⟩
  | outgrown => exact ⟨.outgrown, a1, w1, hq, .of_steps (b := b) (k := k) (cs := cs) (e := .outgrown) st hr⟩
/-- At most n rounds. -/
noncomputable def CSemN (P : Program) (c : Code) (Q : Exit → Act → World → Prop) : Nat → Act → World → Prop
  | 0, _, _ => False
  | n + 1, a, w => CSem P c (Exit.then (CSemN P c Q n) Q) a w
theorem CSemN.succ {c : Code} {n : Nat} : CSemN P c Q (n + 1) a w = CSem P c (Exit.then (CSemN P c Q n) Q) a w := rfl
theorem CSem.rounds {c : Code} (b : Frame) (k : List Item) (cs : List Frame) (hb : b.kind ≠ .early) : ∀ (n : Nat) (a : Act) (w : World), CSemN P c Q n a w →
    ∃ e a' w', Q e a' w' ∧ Arrives P (lone (b.at a (.code c :: .inLoop c :: k)) cs w) b k cs e a' w'
  | 0, _, _, h => h.elim
  | n + 1, a, w, h => by
    obtain ⟨e, a1, w1, hq, hr⟩ := h b (.inLoop c :: k) cs hb
    by_cases he : e = .normal
    · subst he
      obtain ⟨e2, a2, w2, hq2, hr2⟩ := CSem.rounds b k cs hb n a1 w1 hq
      exact ⟨e2, a2, w2, hq2, .of_steps (Steps.trans hr (.one step_inLoop)) hr2⟩
    · refine ⟨e, a1, w1, ?_, .pass rfl (fun _ _ => .inl he) hr⟩
      cases e <;> first | exact absurd rfl he | exact hq
theorem CSem.loop {c : Code} (n : Nat) (h : CSemN P c Q n a w) : CSem P (.loop c) Q a w := fun b k cs hb =>
  let ⟨e, a', w', hq, hr⟩ := CSem.rounds b k cs hb n a w h; ⟨e, a', w', hq, .of_steps (.one step_loop) hr⟩
theorem CSem.scope {c : Code} (h : CSem P c (Exit.noGoto Q) a w) : CSem P (.scope c) Q a w := fun b k cs hb => by
  obtain ⟨e, a1, w1, hq, hr⟩ := h b (.inScope c :: k) cs hb
  have st : Steps P (lone (b.at a (.code (.scope c) :: k)) cs w) _ := .one step_scope
  cases e with
  | normal => exact ⟨.normal, a1, w1, hq, st.trans (Steps.trans hr (.one step_inScope))⟩
  | exit i => exact ⟨.exit i, a1, w1, hq, fun k' hk => st.trans (hr k' (by simp [exitTo, hk]))⟩
  | goto g => exact hq.elim
  | ret => exact ⟨.ret, a1, w1, hq, .of_steps st hr⟩
  | panic ch => exact ⟨.panic ch, a1, w1, hq, .of_steps st hr⟩
  | outgrown => exact ⟨.outgrown, a1, w1, hq, .of_steps (b := b) (k := k) (cs := cs) (e := .outgrown) st hr⟩
theorem CSem.mono {c : Code} {Q' : Exit → Act → World → Prop} (h : CSem P c Q a w) (hq : ∀ e a w, Q e a w → Q' e a w) : CSem P c Q' a w := fun b k cs hb =>
  let ⟨e, a', w', q, r⟩ := h b k cs hb; ⟨e, a', w', hq _ _ _ q, r⟩

/-! operations in the order of the text -/
noncomputable def CSemL (P : Program) (ops : Array Oper) (Q : Exit → Act → World → Prop) (is : List Nat) (a : Act) (w : World) : Prop :=
  ∀ (b : Frame) (k : List Item) (cs : List Frame), b.kind ≠ .early → ∃ e a' w', Q e a' w' ∧ Arrives P (lone (b.at a (.inRegion ops is :: k)) cs w) b k cs e a' w'
section
variable {ops : Array Oper} {i : Nat} {is : List Nat} {o : Oper}
theorem CSemL.nil (h : Q .normal a w) : CSemL P ops Q [] a w := fun _ _ _ _ => ⟨.normal, a, w, h, .one step_region_end⟩
theorem CSemL.skip (ho : ops[i]? = some o) (hw : Region.wanted o (yielded ops a.tmps) = false) (h : CSemL P ops Q is (a.put o.dst undef) w) : CSemL P ops Q (i :: is) a w := fun b k cs hb => by
  obtain ⟨e, a', w', hq, hr⟩ := h b k cs hb
  refine ⟨e, a', w', hq, .of_steps (.one ?_) hr⟩
  have hs := step_op_skip (P := P) (b := b) (a := a) (k := k) (cs := cs) (w := w) (ops := ops) (i := i) (rest := is) (by simp [ho, hw])
  simpa [ho] using hs
/-- What an operation leaves that comes to a value, to none, or to a call that returns. -/
noncomputable def Yields (P : Program) (o : Oper) (a : Act) (w : World) (K : Value → World → Prop) : Prop :=
  (∃ v w', (execOp a.eval o).run P w = .ok (.value v) w' ∧ K v w') ∨ (∃ w', (execOp a.eval o).run P w = .ok .skip w' ∧ K undef w') ∨
  ∃ g args w', (execOp a.eval o).run P w = .ok (.enter g args) w' ∧ Calls P g args w' fun e w'' => ∃ v, e = .returned v ∧ K v w''
theorem CSemL.op (ho : ops[i]? = some o) (hw : Region.wanted o (yielded ops a.tmps) = true) (h : Yields P o a w fun v w' => CSemL P ops Q is (a.put o.dst v) w') : CSemL P ops Q (i :: is) a w := fun b k cs hb => by
  have hg := stepG_op (P := P) (b := b) (k := k) (cs := cs) (w := w) (rest := is) ho hw
  have hfin : ∀ v, (b.at a (.inRegion ops (i :: is) :: k)).finish v = b.at (a.put o.dst v) (.inRegion ops is :: k) := fun v => by
    rw [Frame.finish_at, ho]; rfl
  rcases h with ⟨v, w1, hr, h⟩ | ⟨w1, hr, h⟩ | ⟨g, args, w1, hr, h⟩
  · obtain ⟨e, a', w', hq, hA⟩ := h b k cs hb
    refine ⟨e, a', w', hq, .of_steps (.one (step_lone_go ?_)) hA⟩
    rw [hg, ← hfin]; simp [stepG.apply, hr]
  · obtain ⟨e, a', w', hq, hA⟩ := h b k cs hb
    refine ⟨e, a', w', hq, .of_steps (.one (step_lone_go ?_)) hA⟩
    rw [hg, ← hfin]; simp [stepG.apply, hr]
  · obtain ⟨en, w2, fr, ⟨v, rfl, h⟩, hc, -, hl⟩ := h (b.at a (.inRegion ops (i :: is) :: k) :: cs)
    obtain ⟨e, a', w', hq, hA⟩ := h b k cs hb
    have hin : step P (lone (b.at a (.inRegion ops (i :: is) :: k)) cs w) = .next (lone (Frame.enter P g args .normal) (b.at a (.inRegion ops (i :: is) :: k) :: cs) w1) :=
      step_lone_go (by rw [hg]; simp [stepG.apply, hr, Frame.at])
    have hout := step_leave_returned (c := b.at a (.inRegion ops (i :: is) :: k)) (cs := cs) hl
    rw [hfin] at hout
    exact ⟨e, a', w', hq, .of_steps (.head hin (Steps.trans hc (.one hout))) hA⟩
/-- What a round comes to: the call of yield hands v over. -/
noncomputable def RoundTo (P : Program) (lp : Nat) (fn : FuncId) (tmps : Array Value) (asg bd : Code) (w : World) (K : Value → World → Prop) : Prop :=
  ∀ (c : Frame) (cs : List Frame), ∃ v w', K v w' ∧ Steps P (lone (Frame.round lp fn tmps asg bd .normal) (c :: cs) w) (lone (c.finish v) cs w')
/-- A call of yield: a round. -/
theorem CSemL.round {lp : Nat} {fn : FuncId} {tmps : Array Value} {asg bd : Code} (ho : ops[i]? = some o) (hw : Region.wanted o (yielded ops a.tmps) = true) (hx : (execOp a.eval o).run P w = .ok (.round lp fn tmps asg bd) w) (h : RoundTo P lp fn tmps asg bd w fun v w' => CSemL P ops Q is (a.put o.dst v) w') : CSemL P ops Q (i :: is) a w := fun b k cs hb => by
  have hg := stepG_op (P := P) (b := b) (k := k) (cs := cs) (w := w) (rest := is) ho hw
  obtain ⟨v, w1, h, hs⟩ := h (b.at a (.inRegion ops (i :: is) :: k)) cs
  obtain ⟨e, a', w', hq, hA⟩ := h b k cs hb
  have hin : step P (lone (b.at a (.inRegion ops (i :: is) :: k)) cs w) = .next (lone (Frame.round lp fn tmps asg bd .normal) (b.at a (.inRegion ops (i :: is) :: k) :: cs) w) :=
    step_lone_go (by rw [hg]; simp [stepG.apply, hx, Frame.at])
  rw [Frame.finish_at, ho] at hs
  exact ⟨e, a', w', hq, .of_steps (.head hin hs) hA⟩
/-- A step of the machine's that hands a value over. -/
theorem CSemL.comm {v : Value} {w1 : World} (ho : ops[i]? = some o) (hs : ∀ (b : Frame) (k : List Item) (cs : List Frame), b.kind ≠ .early → step P (lone (b.at a (.inRegion ops (i :: is) :: k)) cs w) = .next (lone ((b.at a (.inRegion ops (i :: is) :: k)).finish v) cs w1))
    (h : CSemL P ops Q is (a.put o.dst v) w1) : CSemL P ops Q (i :: is) a w := fun b k cs hb => by
  obtain ⟨e, a', w', hq, hA⟩ := h b k cs hb
  have h1 := hs b k cs hb
  rw [Frame.finish_at, ho] at h1
  exact ⟨e, a', w', hq, .of_steps (.one h1) hA⟩
theorem CSem.region {id : Nat} (h : CSemL P ops Q (List.range ops.size) a w) : CSem P (.region id ops false) Q a w := fun b k cs hb =>
  let ⟨e, a', w', hq, hA⟩ := h b k cs hb; ⟨e, a', w', hq, .of_steps (.one step_region) hA⟩
end

/-! communications -/
theorem Kp.chan {sz : TypeId → Nat} (h : HR sz l H w) {b k κ cap : Nat} {o : AObj} {buf : List AV} {xs : List Value} {cl : Bool} {s r : Nat} (hb : H.get b = some o) (hl : l b = some (k, κ)) (hlo : lo ≤ b) (hk : k < w.heap.size) (hx : VRs l buf xs) :
    Kp sz lo l H w l (H.put b (.chan cap buf cl s r)) (w.setChan k cap xs.toArray cl s r false) :=
  Kp.turn h hb hl hlo (size_setChan ..) (fun j hj => by simp only [World.setChan]; rw [Array.getElem?_setIfInBounds_ne (fun e => hj e.symm)]) (heap_setChan _ _ _ _ _ _ _ _ hk) (.chan _ _ _ _ hx) rfl rfl rfl
/-- A send with room; a select of one receive with a default; a receive of what is there. -/
noncomputable def commV (T : Tb) (f : Tr AV) (H : Hp) (op : Op) : Option (AV × Hp) :=
  match op with
  | .send ch x => match evalO f ch, evalO f x with
    | some (.chan (some b)), some v => match H.get b with
      | some (.chan cap buf false s r) => match Nat.blt buf.length cap && Nat.ble T.lo b with
        | true => some (.tup [], H.put b (.chan cap (buf ++ [v]) false (s + 1) r))
        | false => none
      | _ => none
    | _, _ => none
  | .select ⟨[⟨ch, none, e⟩]⟩ false => match evalO f ch, T.ty e with
    | some (.chan none), some ⟨_, _, _, some z, _⟩ => some (.tup [.int .i64 (-1), .bool false, z], H)
    | some (.chan (some b)), some ⟨_, _, _, some z, _⟩ => match H.get b with
      | some (.chan _ [] false _ _) => some (.tup [.int .i64 (-1), .bool false, z], H)
      | some (.chan cap (v :: buf) cl s r) => match Nat.ble T.lo b with
        | true => some (.tup [.int .i64 0, .bool true, v], H.put b (.chan cap buf cl s (r + 1)))
        | false => none
      | _ => none
    | _, _ => none
  | .recv t ch false => match evalO f ch, T.ty t with
    | some (.chan (some b)), some ⟨.chan _ e, _, _, _, _⟩ => match T.ty e, H.get b with
      | some ⟨_, _, _, some _, _⟩, some (.chan cap (v :: buf) cl s r) => match Nat.ble T.lo b with
        | true => some (v, H.put b (.chan cap buf cl s (r + 1)))
        | false => none
      | _, _ => none
    | _, _ => none
  | _ => none
theorem commV_ok (hT : TbOk P T) (hr : HR T.sz l H w) (hf : ∀ x, Ev l f a.eval x) {ops : Array Oper} {i : Nat} {is : List Nat} {o : Oper} (ho : ops[i]? = some o) (hw : Region.wanted o (yielded ops a.tmps) = true) {v : AV} {H' : Hp} (e : commV T f H o.op = some (v, H'))
    (h : ∀ x w', VR l v x → Kp T.sz T.lo l H w l H' w' → CSemL P ops Q is (a.put o.dst x) w') : CSemL P ops Q (i :: is) a w := by
  unfold commV at e
  split at e
  · rename_i ch x hop
    split at e
    · rename_i b v0 hc hv
      split at e
      · rename_i cap buf s r hb
        split at e
        · rename_i hroom
          simp only [Bool.and_eq_true, Nat.ble_eq] at hroom
          obtain ⟨hroom, hlo⟩ := hroom
          cases e
          have hc := hf _ _ hc
          have hv := hf _ _ hv
          obtain ⟨k0, κ, xs, g1, g2, g3⟩ := hr.chan_ hb
          generalize hcv : a.eval ch = cv at hc
          cases hc with | chan hl => ?_
          rw [g1] at hl
          cases hl
          have hroom : xs.toArray.size < cap := by
            have := g3.length
            simp only [List.size_toArray]
            rw [← this]; simpa [Nat.blt_eq] using hroom
          have hx : (execOp a.eval o).run P w = .ok (.comm #[scase k0 (a.eval x) (.tuple #[])] true .send) w := by
            unfold execOp
            rw [hop]
            simp [hcv, scase]
          refine CSemL.comm (v := undef) ho (fun b' k cs hk => ?_) (h undef _ (.tup .nil) (Kp.chan (cap := cap) (cl := false) (s := s + 1) (r := r) hr hb g1 hlo (Array.getElem?_eq_some_iff.1 g2).1 (g3.append (.cons hv .nil))))
          have := step_lone_send_room (stepG_comm (P := P) (main := true) (b := b') (k := k) (cs := cs) (rest := is) ho hw hk hx) g2 hroom
          simp only [List.push_toArray] at this
          exact this
        · cases e
      · cases e
    · cases e
  · rename_i ch el hop
    split at e
    · rename_i z _ hc hel
      cases e
      have hc := hf _ _ hc
      obtain ⟨zx, q1, q2⟩ := run_zeroV (w := w) hT hel rfl
      generalize hcv : a.eval ch = cv at hc
      cases hc
      have hx : (execOp a.eval o).run P w = .ok (.comm #[rcaseNil zx] false .select) w := by
        unfold execOp
        rw [hop]
        simp [hcv, rcaseNil, q1]
      refine CSemL.comm (v := .tuple #[goInt (-1), .bool false, zx]) ho (fun b' k cs hk => ?_) (h _ _ (.tup (.cons (.int _ _) (.cons (.bool _) (.cons (q2 l) .nil)))) (.refl hr))
      exact step_lone_select_recv_nil (stepG_comm (P := P) (main := true) (b := b') (k := k) (cs := cs) (rest := is) ho hw hk hx)
    · rename_i b z _ hc hel
      have hc := hf _ _ hc
      obtain ⟨zx, q1, q2⟩ := run_zeroV (w := w) hT hel rfl
      generalize hcv : a.eval ch = cv at hc
      cases hc with | chan hl => ?_
      rename_i k1 κ1
      have hx : (execOp a.eval o).run P w = .ok (.comm #[rcase k1 zx] false .select) w := by
        unfold execOp
        rw [hop]
        simp [hcv, rcase, q1]
      split at e
      · rename_i cap s r hb
        cases e
        obtain ⟨k0, κ, xs, g1, g2, g3⟩ := hr.chan_ hb
        rw [g1] at hl
        cases hl
        cases g3
        refine CSemL.comm (v := .tuple #[goInt (-1), .bool false, zx]) ho (fun b' k cs hk => ?_) (h _ _ (.tup (.cons (.int _ _) (.cons (.bool _) (.cons (q2 l) .nil)))) (.refl hr))
        exact step_lone_select_default (stepG_comm (P := P) (main := true) (b := b') (k := k) (cs := cs) (rest := is) ho hw hk hx) g2
      · rename_i cap v0 buf cl s r hb
        split at e
        case h_2 => cases e
        rename_i hlo
        rw [Nat.ble_eq] at hlo
        cases e
        obtain ⟨k0, κ, xs, g1, g2, g3⟩ := hr.chan_ hb
        rw [g1] at hl
        cases hl
        cases g3 with | cons hv g3 => ?_
        rename_i x0 xs
        refine CSemL.comm (v := .tuple #[goInt 0, .bool true, x0]) ho (fun b' k cs hk => ?_) (h _ _ (.tup (.cons (.int _ _) (.cons (.bool _) (.cons hv .nil)))) (Kp.chan (cap := cap) (cl := cl) (s := s) (r := r + 1) hr hb g1 hlo (Array.getElem?_eq_some_iff.1 g2).1 g3))
        have := step_lone_select_recv_buf (stepG_comm (P := P) (main := true) (b := b') (k := k) (cs := cs) (rest := is) ho hw hk hx) g2 (by simp)
        rw [lone_eq_solo, lone_eq_solo]
        simpa using this
      · cases e
    · cases e
  · rename_i t ch hop
    split at e
    · rename_i b _ el _ _ _ _ hc ht
      split at e
      · rename_i z _ cap v0 buf cl s r hel hb
        split at e
        case h_2 => cases e
        rename_i hlo
        rw [Nat.ble_eq] at hlo
        cases e
        have hc := hf _ _ hc
        obtain ⟨zx, q1, q2⟩ := run_zeroV (w := w) hT hel rfl
        obtain ⟨k0, κ, xs, g1, g2, g3⟩ := hr.chan_ hb
        generalize hcv : a.eval ch = cv at hc
        cases hc with | chan hl => ?_
        rw [g1] at hl
        cases hl
        cases g3 with | cons hv g3 => ?_
        rename_i x0 xs
        have hx : (execOp a.eval o).run P w = .ok (.comm #[rcase k0 zx] true (.recv false)) w := by
          unfold execOp
          rw [hop]
          simp [hcv, rcase, q1, run_und hT ht]
        refine CSemL.comm (v := x0) ho (fun b' k cs hk => ?_) (h _ _ hv (Kp.chan (cap := cap) (cl := cl) (s := s) (r := r + 1) hr hb g1 hlo (Array.getElem?_eq_some_iff.1 g2).1 g3))
        have := step_lone_recv_buf false (stepG_comm (P := P) (main := true) (b := b') (k := k) (cs := cs) (rest := is) ho hw hk hx) g2 (by simp)
        rw [lone_eq_solo, lone_eq_solo]
        simpa [got] using this
      · cases e
    · cases e
  · cases e

/-! ranges over functions of which no round is reckoned; the marks that they leave -/
theorem HR.grown {sz : TypeId → Nat} {w' : World} (h : HR sz l H w) (hb : ∀ k, k < w.heap.size → w'.heap[k]? = w.heap[k]?) : HR sz l H w' :=
  ⟨fun b o e => let ⟨k, κ, x, g1, g2, g3⟩ := h.obj b o e; ⟨k, κ, x, g1, (hb k (Array.getElem?_eq_some_iff.1 g2).1).trans g2, g3⟩, h.inj, h.dom, h.glob⟩
theorem Kp.grown {sz : TypeId → Nat} {w' : World} {lo : Nat} (h : HR sz l H w) (h1 : w'.os = w.os) (h2 : w'.tape = w.tape) (h3 : w'.output = w.output) (hs : w.heap.size ≤ w'.heap.size) (hb : ∀ k, k < w.heap.size → w'.heap[k]? = w.heap[k]?) : Kp sz lo l H w l H w' :=
  ⟨.refl _, h.grown hb, Nat.le_refl _, fun _ _ e => e, h1, h2, h3, hs, fun k hk _ => hb k hk, fun _ _ e => .inl e⟩
noncomputable def mkD (r : Nat) : Deferred := { target := .collected r, args := #[] }
/-- The marks among the deferred calls: each block is new, and stands empty. -/
structure Mk (B : Nat) (l : Env) (H : Hp) (w : World) (Ds : List Deferred) : Prop where
  le : B ≤ w.heap.size
  rs : ∃ rs : List Nat, Ds = rs.map mkD ∧ rs.Nodup ∧ ∀ r ∈ rs, B ≤ r ∧ w.heap[r]? = some (.deferred (some [])) ∧ ∀ b x, l b = some x → (H.get b).isSome → x.1 ≠ r
theorem Mk.kp {sz : TypeId → Nat} {B : Nat} {Ds : List Deferred} {l' : Env} {H' : Hp} {w' : World} (h : Mk B l H w Ds) (hr : HR sz l H w) (hk : Kp sz lo l H w l' H' w') : Mk B l' H' w' Ds := by
  obtain ⟨rs, h1, h2, h3⟩ := h.rs
  refine ⟨Nat.le_trans h.le hk.size, rs, h1, h2, fun r hm => ?_⟩
  obtain ⟨g1, g2, g3⟩ := h3 r hm
  have hlt := (Array.getElem?_eq_some_iff.1 g2).1
  refine ⟨g1, (hk.block r hlt fun b x _ e1 e2 => g3 b x e1 e2).trans g2, fun b x e1 e2 => ?_⟩
  rcases hk.fresh b x e1 with e | ⟨f1, f2 | ⟨b0, -, f3, f4⟩⟩
  · exact g3 b x e (hk.old b (hr.dom b x e) e2)
  · omega
  · cases e : l b0 with
    | none => rw [e] at f4; cases f4
    | some y =>
      rw [e] at f4
      have : y.1 = x.1 := by simpa using f4
      rw [← this]; exact g3 b0 y e f3
theorem CSem.rangeFunc {g : Operand} {ps : Array Tmp} {x y : Code} {fid : FuncId} {av cv : List Value} (hg : a.eval g = .func (.func fid) av.toArray cv.toArray) (hin : ∀ args w, (callFunc fid args).run P w = .ok (.enter fid args) w)
    (h : ∀ fn : FuncId, Calls P fid ((av ++ [Value.func (.yield (w.heap.size + 1)) #[] #[]]) ++ cv).toArray { w with heap := (w.heap.push (.deferred (some []))).push (.loop { state := .ready, pending := none, fn := fn, tmps := a.tmps, params := ps, assign := x, body := y, defers := w.heap.size }) } fun e w2 => ∃ v, e = .returned v ∧ (∃ r : Loop, w2.heap[w.heap.size + 1]? = some (.loop r) ∧ r.state = .ready ∧ r.pending = none) ∧ ∀ w3 : World, w3.os = w2.os → w3.tape = w2.tape → w3.output = w2.output → w3.heap.size = w2.heap.size → (∀ k, k ≠ w.heap.size + 1 → w3.heap[k]? = w2.heap[k]?) → Q .normal { a with defers := mkD w.heap.size :: a.defers } w3) : CSem P (.rangeFunc g ps x y) Q a w := fun b k cs hb => by
  let b0 : Frame := { b with roundOf := none }
  have hat : ∀ a' todo, b0.atR a' todo = b.at a' todo := fun a' todo => Frame.atR_of_none rfl a' todo
  let lp : Obj := .loop { state := .ready, pending := none, fn := b.fn, tmps := a.tmps, params := ps, assign := x, body := y, defers := w.heap.size }
  let w1 : World := { w with heap := (w.heap.push (.deferred (some []))).push lp }
  have he : (Instr.enterLoop b0.fn a.tmps ps x y b0.roundOf).run P w = .ok (w.heap.size + 1, [mkD w.heap.size]) w1 := by
    simp [Instr.enterLoop, b0, mkD, w1, lp]
    rfl
  have hres : (resolve a.eval (rangeCall g (w.heap.size + 1)) 0).run P w1 = .ok { target := .fn (.func fid) cv.toArray, args := av.toArray ++ #[Value.func (.yield (w.heap.size + 1)) #[] #[]] } w1 := by
    have e1 : ∀ v : Value, a.eval (.const v) = v := fun _ => rfl
    simp [resolve, hg, Deferred.ofValue, e1]
  have hargs : ((av ++ [Value.func (.yield (w.heap.size + 1)) #[] #[]]) ++ cv).toArray = (av.toArray ++ #[Value.func (.yield (w.heap.size + 1)) #[] #[]]) ++ cv.toArray := by
    apply Array.ext'
    simp
  have hinv : (invoke (.fn (.func fid) cv.toArray) (av.toArray ++ #[Value.func (.yield (w.heap.size + 1)) #[] #[]])).run P w1 = .ok (.enter fid ((av ++ [Value.func (.yield (w.heap.size + 1)) #[] #[]]) ++ cv).toArray) w1 := by
    rw [hargs]
    exact hin _ _
  have s1 := stepR_rangeFunc (P := P) (b := b0) (a := a) (k := k) (cs := cs) he hres hinv
  rw [hat, hat] at s1
  obtain ⟨en, w2, fr, ⟨v, rfl, ⟨r, h2, hst, hpn⟩, hQ⟩, hc, -, hl⟩ := h b.fn (b.at { a with defers := [mkD w.heap.size] ++ a.defers } (.inRangeFunc (w.heap.size + 1) :: k) :: cs)
  have s2 := step_leave_returned (c := b.at { a with defers := [mkD w.heap.size] ++ a.defers } (.inRangeFunc (w.heap.size + 1) :: k)) (cs := cs) hl
  rw [← hat, finish_atR_inRangeFunc] at s2
  have hend : (Instr.endLoop (w.heap.size + 1)).run P w2 = .ok none (w2.putObj (w.heap.size + 1) (.loop { r with state := .exhausted })) := by
    rw [run_endLoop h2 (by rw [hst]; exact fun e => by cases e), hpn]
  have s3 := stepR_endRangeFunc (P := P) (b := b0) (a := { a with defers := [mkD w.heap.size] ++ a.defers }) (k := k) (cs := cs) hend
  refine ⟨.normal, { a with defers := mkD w.heap.size :: a.defers }, _, hQ (w2.putObj (w.heap.size + 1) (.loop { r with state := .exhausted })) rfl rfl rfl World.putObj_size (fun j hj => World.putObj_heap_other hj), ?_⟩
  rw [hat] at s3
  exact .head s1 (Steps.trans hc (.head s2 (.one (by rw [hat]; exact s3))))
/-- What the shut marks leave as it was. -/
structure Shut (rs : List Nat) (w w' : World) : Prop where
  os : w'.os = w.os
  tape : w'.tape = w.tape
  output : w'.output = w.output
  size : w'.heap.size = w.heap.size
  block : ∀ k, k ∉ rs → w'.heap[k]? = w.heap[k]?
theorem shut_steps (fr : Frame) (cs : List Frame) (hm : fr.mode = .returning) : ∀ (rs : List Nat) (w : World), fr.defers = rs.map mkD → rs.Nodup → (∀ r ∈ rs, w.heap[r]? = some (.deferred (some []))) →
    ∃ w', Shut rs w w' ∧ Steps P (lone fr cs w) (lone { fr with defers := [] } cs w')
  | [], w, hd, _, _ => ⟨w, ⟨rfl, rfl, rfl, rfl, fun _ _ => rfl⟩, by
    have : ({ fr with defers := [] } : Frame) = fr := by rw [← (show fr.defers = [] from hd)]
    rw [this]; exact .refl _ _⟩
  | r :: rs, w, hd, hn, hr => by
    have h0 := hr r (by simp)
    have hlt := (Array.getElem?_eq_some_iff.1 h0).1
    have ht : (Instr.takeDeferred r).run P w = .ok [] { w with heap := w.heap.setIfInBounds r (.deferred none) } := by
      simp [Instr.takeDeferred, getObj, setObj, Sem.run, h0, bind, Sem.bind, pure]
    have s1 := step_collected (P := P) (cs := cs) (w := w) (by rw [hm]; exact fun h => by cases h) (show fr.defers = mkD r :: rs.map mkD from hd) rfl ht
    have hn' := List.nodup_cons.1 hn
    obtain ⟨w', g1, g2⟩ := shut_steps { fr with defers := [] ++ rs.map mkD } cs hm rs { w with heap := w.heap.setIfInBounds r (.deferred none) } (by simp) hn'.2 (fun q hq => by
      have hne : r ≠ q := fun e => hn'.1 (e ▸ hq)
      simp only
      rw [Array.getElem?_setIfInBounds_ne hne]
      exact hr q (by simp [hq]))
    refine ⟨w', ⟨g1.os, g1.tape, g1.output, by rw [g1.size]; simp, fun k hk => ?_⟩, .head s1 g2⟩
    have hk' : k ≠ r ∧ k ∉ rs := by simpa using hk
    rw [g1.block k hk'.2]
    simp only
    rw [Array.getElem?_setIfInBounds_ne (fun e => hk'.1 e.symm)]
theorem HR.shut {sz : TypeId → Nat} {w' : World} {rs : List Nat} (h : HR sz l H w) (hs : Shut rs w w') (hr : ∀ r ∈ rs, ∀ b x, l b = some x → (H.get b).isSome → x.1 ≠ r) : HR sz l H w' :=
  ⟨fun b o e => let ⟨k, κ, x, g1, g2, g3⟩ := h.obj b o e; ⟨k, κ, x, g1, (hs.block k fun hm => hr k hm b (k, κ) g1 (by simp [e]) rfl).trans g2, g3⟩, h.inj, h.dom, h.glob⟩
theorem Kp.shut {sz : TypeId → Nat} {l' : Env} {H' : Hp} {w1 w2 : World} {rs : List Nat} (h : Kp sz lo l H w l' H' w1) (hs : Shut rs w1 w2) (hB : ∀ r ∈ rs, w.heap.size ≤ r) (hr : ∀ r ∈ rs, ∀ b x, l' b = some x → (H'.get b).isSome → x.1 ≠ r) : Kp sz lo l H w l' H' w2 :=
  ⟨h.le, h.hr.shut hs hr, h.nx, h.old, hs.os.trans h.os, hs.tape.trans h.tape, hs.output.trans h.output, by rw [hs.size]; exact h.size, fun k hk hne => (hs.block k fun hm => by have := hB k hm; omega).trans (h.block k hk hne), h.fresh⟩

/-! what a piece of code comes to within a round -/
noncomputable def RTo (P : Program) (start : Machine) (b : Frame) (k : List Item) (cs : List Frame) : Exit → Act → World → Prop
  | .normal, a, w => Steps P start (lone (b.atR a k) cs w)
  | .exit i, a, w => ∀ k', exitTo i k = some k' → Steps P start (lone (b.atR a k') cs w)
  | _, _, _ => False
noncomputable def RSem (P : Program) (lp : Nat) (c : Code) (Q : Exit → Act → World → Prop) (a : Act) (w : World) : Prop :=
  ∀ (b : Frame) (k : List Item) (cs : List Frame), b.kind = .normal → b.roundOf = some lp → ∃ e a' w', Q e a' w' ∧ RTo P (lone (b.atR a (.code c :: k)) cs w) b k cs e a' w'
theorem RTo.of_steps {s s' : Machine} {b : Frame} {k : List Item} {cs : List Frame} {e : Exit} (h : Steps P s s') (h' : RTo P s' b k cs e a w) : RTo P s b k cs e a w := by
  cases e with
  | normal => exact Steps.trans h h'
  | exit i => exact fun k' hk => Steps.trans h (h' k' hk)
  | _ => exact h'
theorem RTo.pass {s : Machine} {b : Frame} {k : List Item} {it : Item} {cs : List Frame} {e : Exit} (hne : e ≠ .normal) (hit : ∀ i k', exitTo i k = some k' → exitTo i (it :: k) = some k') (h : RTo P s b (it :: k) cs e a w) : RTo P s b k cs e a w := by
  cases e with
  | normal => exact absurd rfl hne
  | exit i => exact fun k' hk => h k' (hit i k' hk)
  | _ => exact h
section
variable {lp : Nat}
theorem RSem.skip (h : Q .normal a w) : RSem P lp .skip Q a w := fun _ _ _ _ _ => ⟨.normal, a, w, h, .one stepR_skip⟩
theorem RSem.label {i : Nat} (h : Q .normal a w) : RSem P lp (.label i) Q a w := fun _ _ _ _ _ => ⟨.normal, a, w, h, .one stepR_label⟩
theorem RSem.exit {i : Nat} (h : Q (.exit i) a w) : RSem P lp (.exit i) Q a w := fun _ _ _ _ _ => ⟨.exit i, a, w, h, fun _ hk => .one (stepR_exit hk)⟩
theorem RSem.seq {x y : Code} (h : RSem P lp x (Exit.then (RSem P lp y Q) Q) a w) : RSem P lp (.seq x y) Q a w := fun b k cs hb hr => by
  obtain ⟨e, a1, w1, hq, hr1⟩ := h b (.code y :: k) cs hb hr
  have st : Steps P (lone (b.atR a (.code (.seq x y) :: k)) cs w) _ := .one stepR_seq
  by_cases he : e = .normal
  · subst he
    obtain ⟨e2, a2, w2, hq2, hr2⟩ := hq b k cs hb hr
    exact ⟨e2, a2, w2, hq2, .of_steps (st.trans hr1) hr2⟩
  · refine ⟨e, a1, w1, ?_, .of_steps st (.pass he (fun i k' hk => by simp [exitTo, hk]) hr1)⟩
    cases e <;> first | exact absurd rfl he | exact hq
theorem RSem.cond {c : Operand} {x y : Code} {t : Bool} (hc : a.eval c = .bool t) (h : RSem P lp (if t then x else y) Q a w) : RSem P lp (.cond c x y) Q a w := fun b k cs hb hr =>
  let ⟨e, a', w', hq, h1⟩ := h b k cs hb hr; ⟨e, a', w', hq, .of_steps (.one (stepR_cond hc)) h1⟩
theorem RSem.block {id : Nat} {c : Code} (h : RSem P lp c (Exit.inBlock id Q) a w) : RSem P lp (.block id c) Q a w := fun b k cs hb hr => by
  obtain ⟨e, a1, w1, hq, hr1⟩ := h b (.inBlock id :: k) cs hb hr
  have st : Steps P (lone (b.atR a (.code (.block id c) :: k)) cs w) _ := .one stepR_block
  cases e with
  | normal => exact ⟨.normal, a1, w1, hq, st.trans (Steps.trans hr1 (.one stepR_inBlock))⟩
  | exit i =>
    by_cases hi : i = id
    · simp only [Exit.inBlock, hi, if_true] at hq
      exact ⟨.normal, a1, w1, hq, st.trans (hr1 k (by simp [exitTo, hi]))⟩
    · simp only [Exit.inBlock, hi, if_false] at hq
      have hn : (id == i) = false := by rw [beq_eq_false_iff_ne]; exact fun e => hi e.symm
      exact ⟨.exit i, a1, w1, hq, fun k' hk => st.trans (hr1 k' (by simp [exitTo, hn, hk]))⟩
  | _ => exact hr1.elim
/-- At most n rounds of a loop. -/
noncomputable def RSemN (P : Program) (lp : Nat) (c : Code) (Q : Exit → Act → World → Prop) : Nat → Act → World → Prop
  | 0, _, _ => False
  | n + 1, a, w => RSem P lp c (Exit.then (RSemN P lp c Q n) Q) a w
theorem RSemN.succ {c : Code} {n : Nat} : RSemN P lp c Q (n + 1) a w = RSem P lp c (Exit.then (RSemN P lp c Q n) Q) a w := rfl
theorem RSem.rounds {c : Code} (b : Frame) (k : List Item) (cs : List Frame) (hb : b.kind = .normal) (hro : b.roundOf = some lp) : ∀ (n : Nat) (a : Act) (w : World), RSemN P lp c Q n a w →
    ∃ e a' w', Q e a' w' ∧ RTo P (lone (b.atR a (.code c :: .inLoop c :: k)) cs w) b k cs e a' w'
  | 0, _, _, h => h.elim
  | n + 1, a, w, h => by
    obtain ⟨e, a1, w1, hq, hr⟩ := h b (.inLoop c :: k) cs hb hro
    by_cases he : e = .normal
    · subst he
      obtain ⟨e2, a2, w2, hq2, hr2⟩ := RSem.rounds b k cs hb hro n a1 w1 hq
      exact ⟨e2, a2, w2, hq2, .of_steps (Steps.trans hr (.one stepR_inLoop)) hr2⟩
    · refine ⟨e, a1, w1, ?_, .pass he (fun i k' hk => by simp [exitTo, hk]) hr⟩
      cases e <;> first | exact absurd rfl he | exact hq
theorem RSem.loop {c : Code} (n : Nat) (h : RSemN P lp c Q n a w) : RSem P lp (.loop c) Q a w := fun b k cs hb hr =>
  let ⟨e, a', w', hq, h1⟩ := RSem.rounds b k cs hb hr n a w h; ⟨e, a', w', hq, .of_steps (.one stepR_loop) h1⟩

/-! operations in the order of the text, within a round -/
noncomputable def RSemL (P : Program) (lp : Nat) (ops : Array Oper) (Q : Act → World → Prop) (is : List Nat) (a : Act) (w : World) : Prop :=
  ∀ (b : Frame) (k : List Item) (cs : List Frame), b.kind = .normal → b.roundOf = some lp → ∃ a' w', Q a' w' ∧ Steps P (lone (b.atR a (.inRegion ops is :: k)) cs w) (lone (b.atR a' k) cs w')
variable {ops : Array Oper} {i : Nat} {is : List Nat} {o : Oper} {Q' : Act → World → Prop}
theorem RSemL.nil (h : Q' a w) : RSemL P lp ops Q' [] a w := fun _ _ _ _ _ => ⟨a, w, h, .one stepR_region_end⟩
theorem RSemL.skip (ho : ops[i]? = some o) (hw : Region.wanted o (yielded ops a.tmps) = false) (h : RSemL P lp ops Q' is (a.put o.dst undef) w) : RSemL P lp ops Q' (i :: is) a w := fun b k cs hb hr => by
  obtain ⟨a', w', hq, h1⟩ := h b k cs hb hr
  refine ⟨a', w', hq, .head ?_ h1⟩
  have hs := stepR_op_skip (P := P) (b := b) (a := a) (k := k) (cs := cs) (w := w) (ops := ops) (i := i) (rest := is) (by simp [ho, hw])
  simpa [ho] using hs
theorem RSemL.op (ho : ops[i]? = some o) (hw : Region.wanted o (yielded ops a.tmps) = true) (hd : ∀ c, o.op ≠ .defer c) (h : Yields P o a w fun v w' => RSemL P lp ops Q' is (a.put o.dst v) w') : RSemL P lp ops Q' (i :: is) a w := fun b k cs hb hro => by
  have hg := stepGR_op (P := P) (b := b) (k := k) (cs := cs) (w := w) (rest := is) ho hw
  rw [Oper.semAt_eq _ _ _ hd] at hg
  have hfin : ∀ v, (b.atR a (.inRegion ops (i :: is) :: k)).finish v = b.atR (a.put o.dst v) (.inRegion ops is :: k) := fun v => by
    rw [Frame.finish_atR, ho]; rfl
  rcases h with ⟨v, w1, hr, h⟩ | ⟨w1, hr, h⟩ | ⟨g, args, w1, hr, h⟩
  · obtain ⟨a', w', hq, hA⟩ := h b k cs hb hro
    refine ⟨a', w', hq, .head (step_lone_go ?_) hA⟩
    rw [hg, ← hfin]; simp [stepG.apply, hr]
  · obtain ⟨a', w', hq, hA⟩ := h b k cs hb hro
    refine ⟨a', w', hq, .head (step_lone_go ?_) hA⟩
    rw [hg, ← hfin]; simp [stepG.apply, hr]
  · obtain ⟨en, w2, fr, ⟨v, rfl, h⟩, hc, -, hl⟩ := h (b.atR a (.inRegion ops (i :: is) :: k) :: cs)
    obtain ⟨a', w', hq, hA⟩ := h b k cs hb hro
    have hin : step P (lone (b.atR a (.inRegion ops (i :: is) :: k)) cs w) = .next (lone (Frame.enter P g args .normal) (b.atR a (.inRegion ops (i :: is) :: k) :: cs) w1) :=
      step_lone_go (by rw [hg]; simp [stepG.apply, hr, Frame.atR])
    have hout := step_leave_returned (c := b.atR a (.inRegion ops (i :: is) :: k)) (cs := cs) hl
    rw [hfin] at hout
    exact ⟨a', w', hq, .head hin (Steps.trans hc (.head hout hA))⟩
theorem RSem.region {id : Nat} (h : RSemL P lp ops (Q .normal) (List.range ops.size) a w) : RSem P lp (.region id ops false) Q a w := fun b k cs hb hr =>
  let ⟨a', w', hq, hA⟩ := h b k cs hb hr; ⟨.normal, a', w', hq, .head stepR_region hA⟩
/-- A round whose code ends normally. -/
theorem RoundTo.of_sem {fn : FuncId} {tmps : Array Value} {asg bd : Code} {K : Value → World → Prop}
    (h : RSem P lp asg (fun e a1 w1 => e = .normal ∧ ∃ w2, (Instr.beginRound lp).run P w1 = .ok () w2 ∧ RSem P lp bd (fun e _ w3 => e = .normal ∧ ∃ v w4, (Instr.endRound lp none).run P w3 = .ok v w4 ∧ K v w4) a1 w2) { tmps := tmps, defers := [] } w) : RoundTo P lp fn tmps asg bd w K := fun c cs => by
  let b : Frame := { (default : Frame) with fn := fn, kind := .normal, roundOf := some lp }
  have hb0 : Frame.round lp fn tmps asg bd .normal = b.atR { tmps := tmps, defers := [] } [.code asg, .beginRound, .code bd] := by
    simp [Frame.round, Frame.atR, b]
  rw [hb0]
  obtain ⟨e, a1, w1, ⟨rfl, w2, hbr, h2⟩, s1⟩ := h b [.beginRound, .code bd] (c :: cs) rfl rfl
  obtain ⟨e, a2, w3, ⟨rfl, v, w4, hend, hK⟩, s2⟩ := h2 b [] (c :: cs) rfl rfl
  exact ⟨v, w4, hK, Steps.trans s1 (.head (stepR_beginRound rfl hbr) (Steps.trans s2 (.one (stepR_round_end rfl rfl hend))))⟩
end

/-! a block that is hidden amid a round -/
/-- No block at hand lies at k. -/
noncomputable def Hid (l : Env) (H : Hp) (k : Nat) : Prop := ∀ b x, l b = some x → (H.get b).isSome → x.1 ≠ k
theorem Hid.kp {sz : TypeId → Nat} {k : Nat} {l' : Env} {H' : Hp} {w' : World} (h : Hid l H k) (hk : k < w.heap.size) (hr : HR sz l H w) (hp : Kp sz lo l H w l' H' w') : Hid l' H' k := fun b x e1 e2 => by
  rcases hp.fresh b x e1 with e | ⟨f1, f2 | ⟨b0, -, f3, f4⟩⟩
  · exact h b x e (hp.old b (hr.dom b x e) e2)
  · omega
  · cases e : l b0 with
    | none => rw [e] at f4; cases f4
    | some y =>
      rw [e] at f4
      have : y.1 = x.1 := by simpa using f4
      rw [← this]; exact h b0 y e f3
theorem Hid.keep {sz : TypeId → Nat} {k : Nat} {l' : Env} {H' : Hp} {w' : World} (h : Hid l H k) (hk : k < w.heap.size) (hp : Kp sz lo l H w l' H' w') : w'.heap[k]? = w.heap[k]? :=
  hp.block k hk fun b x _ e1 e2 => h b x e1 e2
theorem HR.hid {sz : TypeId → Nat} {k : Nat} {w' : World} (h : HR sz l H w) (hh : Hid l H k) (hb : ∀ j, j ≠ k → w'.heap[j]? = w.heap[j]?) : HR sz l H w' :=
  ⟨fun b o e => let ⟨j, κ, x, g1, g2, g3⟩ := h.obj b o e; ⟨j, κ, x, g1, (hb j (hh b (j, κ) g1 (by simp [e]))).trans g2, g3⟩, h.inj, h.dom, h.glob⟩
/-- What was done beside a hidden block that had turned, and turns back. -/
theorem Kp.swap {sz : TypeId → Nat} {k : Nat} {l' : Env} {H' : Hp} {w0 w' w2 : World} (h : Kp sz lo l H w0 l' H' w') (hr : HR sz l H w0) (hh : Hid l H k) (hk : k < w.heap.size) (h0 : w0.heap.size = w.heap.size) (h1 : ∀ j, j ≠ k → w0.heap[j]? = w.heap[j]?) (ho : w0.os = w.os) (ht : w0.tape = w.tape) (hp : w0.output = w.output)
    (g0 : w2.heap.size = w'.heap.size) (g1 : ∀ j, j ≠ k → w2.heap[j]? = w'.heap[j]?) (g2 : w2.heap[k]? = w.heap[k]?) (go : w2.os = w'.os) (gt : w2.tape = w'.tape) (gp : w2.output = w'.output) : Kp sz lo l H w l' H' w2 :=
  ⟨h.le, h.hr.hid (hh.kp (by rw [h0]; exact hk) hr h) g1, h.nx, h.old, (go.trans h.os).trans ho, (gt.trans h.tape).trans ht, (gp.trans h.output).trans hp, by rw [g0, ← h0]; exact h.size, fun j hj hne => by
    by_cases hjk : j = k
    · rw [hjk]; exact g2
    · exact ((g1 j hjk).trans (h.block j (by rw [h0]; exact hj) hne)).trans (h1 j hjk), fun b x e => by rw [← h0]; exact h.fresh b x e⟩
/-- A block that was put aside is put back. -/
theorem Kp.back {sz : TypeId → Nat} {b k κ : Nat} {o : AObj} {l' : Env} {H' : Hp} {w' : World} (hr : HR sz l H w) (hb : H.get b = some o) (hl : l b = some (k, κ)) (hr0 : HR sz l (H.drop b) w) (hh : Hid l (H.drop b) k) (h : Kp sz lo l (H.drop b) w l' H' w') : Kp sz lo l H w l' (H'.put b o) w' := by
  obtain ⟨k', κ', x, q1, q2, q3⟩ := hr.obj b o hb
  rw [hl] at q1
  cases q1
  have hk : k < w.heap.size := (Array.getElem?_eq_some_iff.1 q2).1
  have hh' := hh.kp hk hr0 h
  refine ⟨h.le, ⟨fun j u e => ?_, fun j j' u u' y y' e e' ly ly' hy => ?_, h.hr.dom, h.hr.glob⟩, h.nx, fun j hj hs => ?_, h.os, h.tape, h.output, h.size, fun j hj hne => ?_, fun j y e => ?_⟩
  · rcases Hp.put_get e with ⟨rfl, rfl⟩ | ⟨-, e⟩
    · exact ⟨k, κ, x, h.le _ _ hl, (hh.keep hk h).trans q2, q3.mono h.le⟩
    · exact h.hr.obj j u e
  · rcases Hp.put_get e with ⟨rfl, rfl⟩ | ⟨-, e2⟩
    · rcases Hp.put_get e' with ⟨rfl, rfl⟩ | ⟨-, e2'⟩
      · rfl
      · rw [h.le _ _ hl] at ly
        cases ly
        exact absurd hy.symm (hh' j' y' ly' (Option.isSome_iff_exists.2 ⟨_, e2'⟩))
    · rcases Hp.put_get e' with ⟨rfl, rfl⟩ | ⟨-, e2'⟩
      · rw [h.le _ _ hl] at ly'
        cases ly'
        exact absurd hy (hh' j y ly (Option.isSome_iff_exists.2 ⟨_, e2⟩))
      · exact h.hr.inj j j' u u' y y' e2 e2' ly ly' hy
  · obtain ⟨u, e⟩ := Option.isSome_iff_exists.1 hs
    rcases Hp.put_get e with ⟨rfl, rfl⟩ | ⟨-, e⟩
    · simp [hb]
    · obtain ⟨u', e'⟩ := Option.isSome_iff_exists.1 (h.old j hj (by simp [e]))
      simp [(Hp.drop_get e').2]
  · refine h.block j hj fun b2 y hlo e1 e2 => hne b2 y hlo e1 ?_
    obtain ⟨u, e⟩ := Option.isSome_iff_exists.1 e2
    simp [(Hp.drop_get e).2]
  · refine (h.fresh j y e).imp id fun ⟨e1, e2⟩ => ⟨e1, e2.imp id fun ⟨b0, f1, f2, f3⟩ => ⟨b0, f1, ?_, f3⟩⟩
    obtain ⟨u, e⟩ := Option.isSome_iff_exists.1 f2
    simp [(Hp.drop_get e).2]
theorem Hid.of {sz : TypeId → Nat} {b k κ : Nat} {o : AObj} (hr : HR sz l H w) (hb : H.get b = some o) (hl : l b = some (k, κ)) : Hid l (H.drop b) k := fun j y e1 e2 hy => by
  obtain ⟨u, e⟩ := Option.isSome_iff_exists.1 e2
  obtain ⟨hne, e⟩ := Hp.drop_get e
  exact hne (hr.inj j b u o y (k, κ) e hb e1 hl hy)
theorem HR.less' {sz : TypeId → Nat} (h : HR sz l H w) (b : Nat) : HR sz l (H.drop b) w :=
  ⟨fun b2 o2 e => h.obj b2 o2 (Hp.drop_get e).2, fun b2 b3 o2 o3 x2 x3 e2 e3 => h.inj b2 b3 o2 o3 x2 x3 (Hp.drop_get e2).2 (Hp.drop_get e3).2, h.dom, h.glob⟩
theorem Kp.forget {sz : TypeId → Nat} {b : Nat} {l' : Env} {H' : Hp} {w' : World} (h : Kp sz lo l H w l' H' w') : Kp sz lo l H w l' (H'.drop b) w' :=
  ⟨h.le, h.hr.less' b, h.nx, fun j hj hs => h.old j hj (by
    obtain ⟨u, e⟩ := Option.isSome_iff_exists.1 hs
    simp [(Hp.drop_get e).2]), h.os, h.tape, h.output, h.size, h.block, h.fresh⟩
end Go.Proofs.YtfpioijfocmfcaaGreatDoor.Ev
