/-
  A RECKONER OF CLOSED CALLS: what a piece of code comes to, in a frame that is no early one; communications of one goroutine among its steps. No program in sight; no condition.
  A RECKONER OF CLOSED CALLS, ELEVENTH PART: bodies and calls; regions that draw are a parameter. No program in sight; no condition.
-/
import Derived.Test.YtkbmmoobcikbaaaGreatDoorGEB
import Derived.LoopN
import Derived.Scope
import Derived.Conc.LoneSelect
import Derived.RangeFuncLeaves
import Derived.RangeFuncRecord
namespace Go.Proofs.YtkbmmoobcikbaaaGreatDoor.Ev
open Go Go.RowKit Go.Conc

variable {P : Program} {T : Tb} {lo : Nat} {l : Env} {H : Hp} {w : World} {f : Tr AV} {a : Act} {Q : Exit → Act → World → Prop}

/-- Where a piece of code comes to. -/
noncomputable def CSem (P : Program) (c : Code) (Q : Exit → Act → World → Prop) (a : Act) (w : World) : Prop :=
  ∀ (b : Frame) (k : List Item) (cs : List Frame), b.kind ≠ .early → ∃ e a' w', Q e a' w' ∧ Arrives P (lone (b.at a (.code c :: k)) cs w) b k cs e a' w'
theorem CSem.of_wp {c : Code} (h : c.wp P Q a w) : CSem P c Q a w := fun b k cs _ => h b k cs
theorem CSem.seq {x y : Code} (h : CSem P x (Exit.then (CSem P y Q) Q) a w) : CSem P (.seq x y) Q a w := fun b k cs hb => by
  obtain ⟨e, a1, w1, hq, hr⟩ := h b (.code y :: k) cs hb
  have st : Steps P (lone (b.at a (.code (.seq x y) :: k)) cs w) _ := .one step_seq
  by_cases he : e = .normal
  · subst he
    obtain ⟨e2, a2, w2, hq2, hr2⟩ := hq b k cs hb
    exact ⟨e2, a2, w2, hq2, .of_steps (st.trans hr) hr2⟩
  · refine ⟨e, a1, w1, ?_, .of_steps st (.pass rfl (fun _ _ => .inl he) hr)⟩
    cases e <;> first | exact absurd rfl he | exact hq
theorem CSem.cond {c : Operand} {x y : Code} {t : Bool} (hc : a.eval c = .bool t) (h : CSem P (if t then x else y) Q a w) : CSem P (.cond c x y) Q a w := fun b k cs hb =>
  let ⟨e, a', w', hq, hr⟩ := h b k cs hb; ⟨e, a', w', hq, .of_steps (.one (step_cond hc)) hr⟩
theorem CSem.block {id : Nat} {c : Code} (h : CSem P c (Exit.inBlock id Q) a w) : CSem P (.block id c) Q a w := fun b k cs hb => by
  obtain ⟨e, a1, w1, hq, hr⟩ := h b (.inBlock id :: k) cs hb
  have st : Steps P (lone (b.at a (.code (.block id c) :: k)) cs w) _ := .one step_block
  cases e with
  | normal => exact ⟨.normal, a1, w1, hq, st.trans (Steps.trans hr (.one step_inBlock))⟩
  | exit i =>
    by_cases hi : i = id
    · simp only [Exit.inBlock, hi, if_true] at hq
      exact ⟨.normal, a1, w1, hq, st.trans (hr k (by simp [exitTo, hi]))⟩
    · simp only [Exit.inBlock, hi, if_false] at hq
      have hn : (id == i) = false := by rw [beq_eq_false_iff_ne]; exact fun e => hi e.symm
      exact ⟨.exit i, a1, w1, hq, fun k' hk => st.trans (hr k' (by simp [exitTo, hn, hk]))⟩
  | goto g => exact ⟨.goto g, a1, w1, hq, fun k' hk => st.trans (hr k' (by simp [gotoIn, hk]))⟩
  | ret => exact ⟨.ret, a1, w1, hq, .of_steps st hr⟩
  | panic ch => exact ⟨.panic ch, a1, w1, hq, .of_steps st hr⟩
  | outgrown => exact ⟨.outgrown, a1, w1, hq, .of_steps (b := b) (k := k) (cs := cs) (e := .outgrown) st hr⟩
/-- At most n rounds. -/
noncomputable def CSemN (P : Program) (c : Code) (Q : Exit → Act → World → Prop) : Nat → Act → World → Prop
  | 0, _, _ => False
  | n + 1, a, w => CSem P c (Exit.then (CSemN P c Q n) Q) a w
theorem CSemN.succ {c : Code} {n : Nat} : CSemN P c Q (n + 1) a w = CSem P c (Exit.then (CSemN P c Q n) Q) a w := rfl
theorem CSem.rounds {c : Code} (b : Frame) (k : List Item) (cs : List Frame) (hb : b.kind ≠ .early) : ∀ (n : Nat) (a : Act) (w : World), CSemN P c Q n a w →
    ∃ e a' w', Q e a' w' ∧ Arrives P (lone (b.at a (.code c :: .inLoop c :: k)) cs w) b k cs e a' w'
  | 0, _, _, h => h.elim
  | n + 1, a, w, h => by
    obtain ⟨e, a1, w1, hq, hr⟩ := h b (.inLoop c :: k) cs hb
    by_cases he : e = .normal
    · subst he
      obtain ⟨e2, a2, w2, hq2, hr2⟩ := CSem.rounds b k cs hb n a1 w1 hq
      exact ⟨e2, a2, w2, hq2, .of_steps (Steps.trans hr (.one step_inLoop)) hr2⟩
    · refine ⟨e, a1, w1, ?_, .pass rfl (fun _ _ => .inl he) hr⟩
      cases e <;> first | exact absurd rfl he | exact hq
theorem CSem.loop {c : Code} (n : Nat) (h : CSemN P c Q n a w) : CSem P (.loop c) Q a w := fun b k cs hb =>
  let ⟨e, a', w', hq, hr⟩ := CSem.rounds b k cs hb n a w h; ⟨e, a', w', hq, .of_steps (.one step_loop) hr⟩
theorem CSem.scope {c : Code} (h : CSem P c (Exit.noGoto Q) a w) : CSem P (.scope c) Q a w := fun b k cs hb => by
  obtain ⟨e, a1, w1, hq, hr⟩ := h b (.inScope c :: k) cs hb
  have st : Steps P (lone (b.at a (.code (.scope c) :: k)) cs w) _ := .one step_scope
  cases e with
  | normal => exact ⟨.normal, a1, w1, hq, st.trans (Steps.trans hr (.one step_inScope))⟩
  | exit i => exact ⟨.exit i, a1, w1, hq, fun k' hk => st.trans (hr k' (by simp [exitTo, hk]))⟩
  | goto g => exact hq.elim
  | ret => exact ⟨.ret, a1, w1, hq, .of_steps st hr⟩
  | panic ch => exact ⟨.panic ch, a1, w1, hq, .of_steps st hr⟩
  | outgrown => exact ⟨.outgrown, a1, w1, hq, .of_steps (b := b) (k := k) (cs := cs) (e := .outgrown) st hr⟩
theorem CSem.mono {c : Code} {Q' : Exit → Act → World → Prop} (h : CSem P c Q a w) (hq : ∀ e a w, Q e a w → Q' e a w) : CSem P c Q' a w := fun b k cs hb =>
  let ⟨e, a', w', q, r⟩ := h b k cs hb; ⟨e, a', w', hq _ _ _ q, r⟩

/-! operations in the order of the text -/
noncomputable def CSemL (P : Program) (ops : Array Oper) (Q : Exit → Act → World → Prop) (is : List Nat) (a : Act) (w : World) : Prop :=
  ∀ (b : Frame) (k : List Item) (cs : List Frame), b.kind ≠ .early → ∃ e a' w', Q e a' w' ∧ Arrives P (lone (b.at a (.inRegion ops is :: k)) cs w) b k cs e a' w'
section
variable {ops : Array Oper} {i : Nat} {is : List Nat} {o : Oper}
theorem CSemL.nil (h : Q .normal a w) : CSemL P ops Q [] a w := fun _ _ _ _ => ⟨.normal, a, w, h, .one step_region_end⟩
theorem CSemL.skip (ho : ops[i]? = some o) (hw : Region.wanted o (yielded ops a.tmps) = false) (h : CSemL P ops Q is (a.put o.dst undef) w) : CSemL P ops Q (i :: is) a w := fun b k cs hb => by
  obtain ⟨e, a', w', hq, hr⟩ := h b k cs hb
  refine ⟨e, a', w', hq, .of_steps (.one ?_) hr⟩
  have hs := step_op_skip (P := P) (b := b) (a := a) (k := k) (cs := cs) (w := w) (ops := ops) (i := i) (rest := is) (by simp [ho, hw])
  simpa [ho] using hs
/-- What an operation leaves that comes to a value, to none, or to a call that returns. -/
noncomputable def Yields (P : Program) (o : Oper) (a : Act) (w : World) (K : Value → World → Prop) : Prop :=
  (∃ v w', (execOp a.eval o).run P w = .ok (.value v) w' ∧ K v w') ∨ (∃ w', (execOp a.eval o).run P w = .ok .skip w' ∧ K undef w') ∨
  ∃ g args w', (execOp a.eval o).run P w = .ok (.enter g args) w' ∧ Calls P g args w' fun e w'' => ∃ v, e = .returned v ∧ K v w''
theorem CSemL.op (ho : ops[i]? = some o) (hw : Region.wanted o (yielded ops a.tmps) = true) (h : Yields P o a w fun v w' => CSemL P ops Q is (a.put o.dst v) w') : CSemL P ops Q (i :: is) a w := fun b k cs hb => by
  have hg := stepG_op (P := P) (b := b) (k := k) (cs := cs) (w := w) (rest := is) ho hw
  have hfin : ∀ v, (b.at a (.inRegion ops (i :: is) :: k)).finish v = b.at (a.put o.dst v) (.inRegion ops is :: k) := fun v => by
    rw [Frame.finish_at, ho]; rfl
  rcases h with ⟨v, w1, hr, h⟩ | ⟨w1, hr, h⟩ | ⟨g, args, w1, hr, h⟩
  · obtain ⟨e, a', w', hq, hA⟩ := h b k cs hb
    refine ⟨e, a', w', hq, .of_steps (.one (step_lone_go ?_)) hA⟩
    rw [hg, ← hfin]; simp [stepG.apply, hr]
  · obtain ⟨e, a', w', hq, hA⟩ := h b k cs hb
    refine ⟨e, a', w', hq, .of_steps (.one (step_lone_go ?_)) hA⟩
    rw [hg, ← hfin]; simp [stepG.apply, hr]
  · obtain ⟨en, w2, fr, ⟨v, rfl, h⟩, hc, -, hl⟩ := h (b.at a (.inRegion ops (i :: is) :: k) :: cs)
    obtain ⟨e, a', w', hq, hA⟩ := h b k cs hb
    have hin : step P (lone (b.at a (.inRegion ops (i :: is) :: k)) cs w) = .next (lone (Frame.enter P g args .normal) (b.at a (.inRegion ops (i :: is) :: k) :: cs) w1) :=
      step_lone_go (by rw [hg]; simp [stepG.apply, hr, Frame.at])
    have hout := step_leave_returned (c := b.at a (.inRegion ops (i :: is) :: k)) (cs := cs) hl
    rw [hfin] at hout
    exact ⟨e, a', w', hq, .of_steps (.head hin (Steps.trans hc (.one hout))) hA⟩
/-- What a round comes to: the call of yield hands v over. -/
noncomputable def RoundTo (P : Program) (lp : Nat) (fn : FuncId) (tmps : Array Value) (asg bd : Code) (w : World) (K : Value → World → Prop) : Prop :=
  ∀ (c : Frame) (cs : List Frame), ∃ v w', K v w' ∧ Steps P (lone (Frame.round lp fn tmps asg bd .normal) (c :: cs) w) (lone (c.finish v) cs w')
/-- A call of yield: a round. -/
theorem CSemL.round {lp : Nat} {fn : FuncId} {tmps : Array Value} {asg bd : Code} (ho : ops[i]? = some o) (hw : Region.wanted o (yielded ops a.tmps) = true) (hx : (execOp a.eval o).run P w = .ok (.round lp fn tmps asg bd) w) (h : RoundTo P lp fn tmps asg bd w fun v w' => CSemL P ops Q is (a.put o.dst v) w') : CSemL P ops Q (i :: is) a w := fun b k cs hb => by
  have hg := stepG_op (P := P) (b := b) (k := k) (cs := cs) (w := w) (rest := is) ho hw
  obtain ⟨v, w1, h, hs⟩ := h (b.at a (.inRegion ops (i :: is) :: k)) cs
  obtain ⟨e, a', w', hq, hA⟩ := h b k cs hb
  have hin : step P (lone (b.at a (.inRegion ops (i :: is) :: k)) cs w) = .next (lone (Frame.round lp fn tmps asg bd .normal) (b.at a (.inRegion ops (i :: is) :: k) :: cs) w) :=
    step_lone_go (by rw [hg]; simp [stepG.apply, hx, Frame.at])
  rw [Frame.finish_at, ho] at hs
  exact ⟨e, a', w', hq, .of_steps (.head hin hs) hA⟩
/-- A step of the machine's that hands a value over. -/
theorem CSemL.comm {v : Value} {w1 : World} (ho : ops[i]? = some o) (hs : ∀ (b : Frame) (k : List Item) (cs : List Frame), b.kind ≠ .early → step P (lone (b.at a (.inRegion ops (i :: is) :: k)) cs w) = .next (lone ((b.at a (.inRegion ops (i :: is) :: k)).finish v) cs w1))
    (h : CSemL P ops Q is (a.put o.dst v) w1) : CSemL P ops Q (i :: is) a w := fun b k cs hb => by
  obtain ⟨e, a', w', hq, hA⟩ := h b k cs hb
  have h1 := hs b k cs hb
  rw [Frame.finish_at, ho] at h1
  exact ⟨e, a', w', hq, .of_steps (.one h1) hA⟩
theorem CSem.region {id : Nat} (h : CSemL P ops Q (List.range ops.size) a w) : CSem P (.region id ops false) Q a w := fun b k cs hb =>
  let ⟨e, a', w', hq, hA⟩ := h b k cs hb; ⟨e, a', w', hq, .of_steps (.one step_region) hA⟩
end

/-! communications -/
theorem Kp.chan {sz : TypeId → Nat} (h : HR sz l H w) {b k κ cap : Nat} {o : AObj} {buf : List AV} {xs : List Value} {cl : Bool} {s r : Nat} (hb : H.get b = some o) (hl : l b = some (k, κ)) (hlo : lo ≤ b) (hk : k < w.heap.size) (hx : VRs l buf xs) :
    Kp sz lo l H w l (H.put b (.chan cap buf cl s r)) (w.setChan k cap xs.toArray cl s r false) :=
  Kp.turn h hb hl hlo (size_setChan ..) (fun j hj => by simp only [World.setChan]; rw [Array.getElem?_setIfInBounds_ne (fun e => hj e.symm)]) (heap_setChan _ _ _ _ _ _ _ _ hk) (.chan _ _ _ _ hx) rfl rfl rfl
/-- A send with room; a select of one receive with a default; a receive of what is there. -/
noncomputable def commV (T : Tb) (f : Tr AV) (H : Hp) (op : Op) : Option (AV × Hp) :=
  match op with
  | .send ch x => match evalO f ch, evalO f x with
    | some (.chan (some b)), some v => match H.get b with
      | some (.chan cap buf false s r) => match Nat.blt buf.length cap && Nat.ble T.lo b with
        | true => some (.tup [], H.put b (.chan cap (buf ++ [v]) false (s + 1) r))
        | false => none
      | _ => none
    | _, _ => none
  | .select ⟨[⟨ch, none, e⟩]⟩ false => match evalO f ch, T.ty e with
    | some (.chan none), some ⟨_, _, _, some z, _⟩ => some (.tup [.int .i64 (-1), .bool false, z], H)
    | some (.chan (some b)), some ⟨_, _, _, some z, _⟩ => match H.get b with
      | some (.chan _ [] false _ _) => some (.tup [.int .i64 (-1), .bool false, z], H)
      | some (.chan cap (v :: buf) cl s r) => match Nat.ble T.lo b with
        | true => some (.tup [.int .i64 0, .bool true, v], H.put b (.chan cap buf cl s (r + 1)))
        | false => none
      | _ => none
    | _, _ => none
  | .recv t ch false => match evalO f ch, T.ty t with
    | some (.chan (some b)), some ⟨.chan _ e, _, _, _, _⟩ => match T.ty e, H.get b with
      | some ⟨_, _, _, some _, _⟩, some (.chan cap (v :: buf) cl s r) => match Nat.ble T.lo b with
        | true => some (v, H.put b (.chan cap buf cl s (r + 1)))
        | false => none
      | _, _ => none
    | _, _ => none
  | _ => none
theorem commV_ok (hT : TbOk P T) (hr : HR T.sz l H w) (hf : ∀ x, Ev l f a.eval x) {ops : Array Oper} {i : Nat} {is : List Nat} {o : Oper} (ho : ops[i]? = some o) (hw : Region.wanted o (yielded ops a.tmps) = true) {v : AV} {H' : Hp} (e : commV T f H o.op = some (v, H'))
    (h : ∀ x w', VR l v x → Kp T.sz T.lo l H w l H' w' → CSemL P ops Q is (a.put o.dst x) w') : CSemL P ops Q (i :: is) a w := by
  unfold commV at e
  split at e
  · rename_i ch x hop
    split at e
    · rename_i b v0 hc hv
      split at e
      · rename_i cap buf s r hb
        split at e
        · rename_i hroom
          simp only [Bool.and_eq_true, Nat.ble_eq] at hroom
          obtain ⟨hroom, hlo⟩ := hroom
          cases e
          have hc := hf _ _ hc
          have hv := hf _ _ hv
          obtain ⟨k0, κ, xs, g1, g2, g3⟩ := hr.chan_ hb
          generalize hcv : a.eval ch = cv at hc
          cases hc with | chan hl => ?_
          rw [g1] at hl
          cases hl
          have hroom : xs.toArray.size < cap := by
            have := g3.length
            simp only [List.size_toArray]
            rw [← this]; simpa [Nat.blt_eq] using hroom
          have hx : (execOp a.eval o).run P w = .ok (.comm #[scase k0 (a.eval x) (.tuple #[])] true .send) w := by
            unfold execOp
            rw [hop]
            simp [hcv, scase]
          refine CSemL.comm (v := undef) ho (fun b' k cs hk => ?_) (h undef _ (.tup .nil) (Kp.chan (cap := cap) (cl := false) (s := s + 1) (r := r) hr hb g1 hlo (Array.getElem?_eq_some_iff.1 g2).1 (g3.append (.cons hv .nil))))
          have := step_lone_send_room (stepG_comm (P := P) (main := true) (b := b') (k := k) (cs := cs) (rest := is) ho hw hk hx) g2 hroom
          simp only [List.push_toArray] at this
          exact this
        · cases e
      · cases e
    · cases e
  · rename_i ch el hop
    split at e
    · rename_i z _ hc hel
      cases e
      have hc := hf _ _ hc
      obtain ⟨zx, q1, q2⟩ := run_zeroV (w := w) hT hel rfl
      generalize hcv : a.eval ch = cv at hc
      cases hc
      have hx : (execOp a.eval o).run P w = .ok (.comm #[rcaseNil zx] false .select) w := by
        unfold execOp
        rw [hop]
        simp [hcv, rcaseNil, q1]
      refine CSemL.comm (v := .tuple #[goInt (-1), .bool false, zx]) ho (fun b' k cs hk => ?_) (h _ _ (.tup (.cons (.int _ _) (.cons (.bool _) (.cons (q2 l) .nil)))) (.refl hr))
      exact step_lone_select_recv_nil (stepG_comm (P := P) (main := true) (b := b') (k := k) (cs := cs) (rest := is) ho hw hk hx)
    · rename_i b z _ hc hel
      have hc := hf _ _ hc
      obtain ⟨zx, q1, q2⟩ := run_zeroV (w := w) hT hel rfl
      generalize hcv : a.eval ch = cv at hc
      cases hc with | chan hl => ?_
      rename_i k1 κ1
      have hx : (execOp a.eval o).run P w = .ok (.comm #[rcase k1 zx] false .select) w := by
        unfold execOp
        rw [hop]
        simp [hcv, rcase, q1]
      split at e
      · rename_i cap s r hb
        cases e
        obtain ⟨k0, κ, xs, g1, g2, g3⟩ := hr.chan_ hb
        rw [g1] at hl
        cases hl
        cases g3
        refine CSemL.comm (v := .tuple #[goInt (-1), .bool false, zx]) ho (fun b' k cs hk => ?_) (h _ _ (.tup (.cons (.int _ _) (.cons (.bool _) (.cons (q2 l) .nil)))) (.refl hr))
        exact step_lone_select_default (stepG_comm (P := P) (main := true) (b := b') (k := k) (cs := cs) (rest := is) ho hw hk hx) g2
      · rename_i cap v0 buf cl s r hb
        split at e
        case h_2 => cases e
        rename_i hlo
        rw [Nat.ble_eq] at hlo
        cases e
        obtain ⟨k0, κ, xs, g1, g2, g3⟩ := hr.chan_ hb
        rw [g1] at hl
        cases hl
        cases g3 with | cons hv g3 => ?_
        rename_i x0 xs
        refine CSemL.comm (v := .tuple #[goInt 0, .bool true, x0]) ho (fun b' k cs hk => ?_) (h _ _ (.tup (.cons (.int _ _) (.cons (.bool _) (.cons hv .nil)))) (Kp.chan (cap := cap) (cl := cl) (s := s) (r := r + 1) hr hb g1 hlo (Array.getElem?_eq_some_iff.1 g2).1 g3))
        have := step_lone_select_recv_buf (stepG_comm (P := P) (main := true) (b := b') (k := k) (cs := cs) (rest := is) ho hw hk hx) g2 (by simp)
        rw [lone_eq_solo, lone_eq_solo]
        simpa using this
      · cases e
    · cases e
  · rename_i t ch hop
    split at e
    · rename_i b _ el _ _ _ _ hc ht
      split at e
      · rename_i z _ cap v0 buf cl s r hel hb
        split at e
        case h_2 => cases e
        rename_i hlo
        rw [Nat.ble_eq] at hlo
        cases e
        have hc := hf _ _ hc
        obtain ⟨zx, q1, q2⟩ := run_zeroV (w := w) hT hel rfl
        obtain ⟨k0, κ, xs, g1, g2, g3⟩ := hr.chan_ hb
        generalize hcv : a.eval ch = cv at hc
        cases hc with | chan hl => ?_
        rw [g1] at hl
        cases hl
        cases g3 with | cons hv g3 => ?_
        rename_i x0 xs
        have hx : (execOp a.eval o).run P w = .ok (.comm #[rcase k0 zx] true (.recv false)) w := by
          unfold execOp
          rw [hop]
          simp [hcv, rcase, q1, run_und hT ht]
        refine CSemL.comm (v := x0) ho (fun b' k cs hk => ?_) (h _ _ hv (Kp.chan (cap := cap) (cl := cl) (s := s) (r := r + 1) hr hb g1 hlo (Array.getElem?_eq_some_iff.1 g2).1 g3))
        have := step_lone_recv_buf false (stepG_comm (P := P) (main := true) (b := b') (k := k) (cs := cs) (rest := is) ho hw hk hx) g2 (by simp)
        rw [lone_eq_solo, lone_eq_solo]
        simpa [got] using this
      · cases e
    · cases e
  · cases e

/-! ranges over functions of which no round is reckoned; the marks that they leave -/
theorem HR.grown {sz : TypeId → Nat} {w' : World} (h : HR sz l H w) (hb : ∀ k, k < w.heap.size → w'.heap[k]? = w.heap[k]?) : HR sz l H w' :=
  ⟨fun b o e => let ⟨k, κ, x, g1, g2, g3⟩ := h.obj b o e; ⟨k, κ, x, g1, (hb k (Array.getElem?_eq_some_iff.1 g2).1).trans g2, g3⟩, h.inj, h.dom, h.glob⟩
theorem Kp.grown {sz : TypeId → Nat} {w' : World} {lo : Nat} (h : HR sz l H w) (h1 : w'.os = w.os) (h2 : w'.tape = w.tape) (h3 : w'.output = w.output) (hs : w.heap.size ≤ w'.heap.size) (hb : ∀ k, k < w.heap.size → w'.heap[k]? = w.heap[k]?) : Kp sz lo l H w l H w' :=
  ⟨.refl _, h.grown hb, Nat.le_refl _, fun _ _ e => e, h1, h2, h3, hs, fun k hk _ => hb k hk, fun _ _ e => .inl e⟩
noncomputable def mkD (r : Nat) : Deferred := { target := .collected r, args := #[] }
/-- The marks among the deferred calls: each block is new, and stands empty. -/
structure Mk (B : Nat) (l : Env) (H : Hp) (w : World) (Ds : List Deferred) : Prop where
  le : B ≤ w.heap.size
  rs : ∃ rs : List Nat, Ds = rs.map mkD ∧ rs.Nodup ∧ ∀ r ∈ rs, B ≤ r ∧ w.heap[r]? = some (.deferred (some [])) ∧ ∀ b x, l b = some x → (H.get b).isSome → x.1 ≠ r
theorem Mk.kp {sz : TypeId → Nat} {B : Nat} {Ds : List Deferred} {l' : Env} {H' : Hp} {w' : World} (h : Mk B l H w Ds) (hr : HR sz l H w) (hk : Kp sz lo l H w l' H' w') : Mk B l' H' w' Ds := by
  obtain ⟨rs, h1, h2, h3⟩ := h.rs
  refine ⟨Nat.le_trans h.le hk.size, rs, h1, h2, fun r hm => ?_⟩
  obtain ⟨g1, g2, g3⟩ := h3 r hm
  have hlt := (Array.getElem?_eq_some_iff.1 g2).1
  refine ⟨g1, (hk.block r hlt fun b x _ e1 e2 => g3 b x e1 e2).trans g2, fun b x e1 e2 => ?_⟩
  rcases hk.fresh b x e1 with e | ⟨f1, f2 | ⟨b0, -, f3, f4⟩⟩
  · exact g3 b x e (hk.old b (hr.dom b x e) e2)
  · omega
  · cases e : l b0 with
    | none => rw [e] at f4; cases f4
    | some y =>
      rw [e] at f4
      have : y.1 = x.1 := by simpa using f4
      rw [← this]; exact g3 b0 y e f3
theorem CSem.rangeFunc {g : Operand} {ps : Array Tmp} {x y : Code} {fid : FuncId} {av cv : List Value} (hg : a.eval g = .func (.func fid) av.toArray cv.toArray) (hin : ∀ args w, (callFunc fid args).run P w = .ok (.enter fid args) w)
    (h : ∀ fn : FuncId, Calls P fid ((av ++ [Value.func (.yield (w.heap.size + 1)) #[] #[]]) ++ cv).toArray { w with heap := (w.heap.push (.deferred (some []))).push (.loop { state := .ready, pending := none, fn := fn, tmps := a.tmps, params := ps, assign := x, body := y, defers := w.heap.size }) } fun e w2 => ∃ v, e = .returned v ∧ (∃ r : Loop, w2.heap[w.heap.size + 1]? = some (.loop r) ∧ r.state = .ready ∧ r.pending = none) ∧ ∀ w3 : World, w3.os = w2.os → w3.tape = w2.tape → w3.output = w2.output → w3.heap.size = w2.heap.size → (∀ k, k ≠ w.heap.size + 1 → w3.heap[k]? = w2.heap[k]?) → Q .normal { a with defers := mkD w.heap.size :: a.defers } w3) : CSem P (.rangeFunc g ps x y) Q a w := fun b k cs hb => by
  let b0 : Frame := { b with roundOf := none }
  have hat : ∀ a' todo, b0.atR a' todo = b.at a' todo := fun a' todo => Frame.atR_of_none rfl a' todo
  let lp : Obj := .loop { state := .ready, pending := none, fn := b.fn, tmps := a.tmps, params := ps, assign := x, body := y, defers := w.heap.size }
  let w1 : World := { w with heap := (w.heap.push (.deferred (some []))).push lp }
  have he : (Instr.enterLoop b0.fn a.tmps ps x y b0.roundOf).run P w = .ok (w.heap.size + 1, [mkD w.heap.size]) w1 := by
    simp [Instr.enterLoop, b0, mkD, w1, lp]
    rfl
  have hres : (resolve a.eval (rangeCall g (w.heap.size + 1)) 0).run P w1 = .ok { target := .fn (.func fid) cv.toArray, args := av.toArray ++ #[Value.func (.yield (w.heap.size + 1)) #[] #[]] } w1 := by
    have e1 : ∀ v : Value, a.eval (.const v) = v := fun _ => rfl
    simp [resolve, hg, Deferred.ofValue, e1]
  have hargs : ((av ++ [Value.func (.yield (w.heap.size + 1)) #[] #[]]) ++ cv).toArray = (av.toArray ++ #[Value.func (.yield (w.heap.size + 1)) #[] #[]]) ++ cv.toArray := by
    apply Array.ext'
    simp
  have hinv : (invoke (.fn (.func fid) cv.toArray) (av.toArray ++ #[Value.func (.yield (w.heap.size + 1)) #[] #[]])).run P w1 = .ok (.enter fid ((av ++ [Value.func (.yield (w.heap.size + 1)) #[] #[]]) ++ cv).toArray) w1 := by
    rw [hargs]
    exact hin _ _
  have s1 := stepR_rangeFunc (P := P) (b := b0) (a := a) (k := k) (cs := cs) he hres hinv
  rw [hat, hat] at s1
  obtain ⟨en, w2, fr, ⟨v, rfl, ⟨r, h2, hst, hpn⟩, hQ⟩, hc, -, hl⟩ := h b.fn (b.at { a with defers := [mkD w.heap.size] ++ a.defers } (.inRangeFunc (w.heap.size + 1) :: k) :: cs)
  have s2 := step_leave_returned (c := b.at { a with defers := [mkD w.heap.size] ++ a.defers } (.inRangeFunc (w.heap.size + 1) :: k)) (cs := cs) hl
  rw [← hat, finish_atR_inRangeFunc] at s2
  have hend : (Instr.endLoop (w.heap.size + 1)).run P w2 = .ok none (w2.putObj (w.heap.size + 1) (.loop { r with state := .exhausted })) := by
    rw [run_endLoop h2 (by rw [hst]; exact fun e => by cases e), hpn]
  have s3 := stepR_endRangeFunc (P := P) (b := b0) (a := { a with defers := [mkD w.heap.size] ++ a.defers }) (k := k) (cs := cs) hend
  refine ⟨.normal, { a with defers := mkD w.heap.size :: a.defers }, _, hQ (w2.putObj (w.heap.size + 1) (.loop { r with state := .exhausted })) rfl rfl rfl World.putObj_size (fun j hj => World.putObj_heap_other hj), ?_⟩
  rw [hat] at s3
  exact .head s1 (Steps.trans hc (.head s2 (.one (by rw [hat]; exact s3))))
/-- What the shut marks leave as it was. -/
structure Shut (rs : List Nat) (w w' : World) : Prop where
  os : w'.os = w.os
  tape : w'.tape = w.tape
  output : w'.output = w.output
  size : w'.heap.size = w.heap.size
  block : ∀ k, k ∉ rs → w'.heap[k]? = w.heap[k]?
theorem shut_steps (fr : Frame) (cs : List Frame) (hm : fr.mode = .returning) : ∀ (rs : List Nat) (w : World), fr.defers = rs.map mkD → rs.Nodup → (∀ r ∈ rs, w.heap[r]? = some (.deferred (some []))) →
    ∃ w', Shut rs w w' ∧ Steps P (lone fr cs w) (lone { fr with defers := [] } cs w')
  | [], w, hd, _, _ => ⟨w, ⟨rfl, rfl, rfl, rfl, fun _ _ => rfl⟩, by
    have : ({ fr with defers := [] } : Frame) = fr := by rw [← (show fr.defers = [] from hd)]
    rw [this]; exact .refl _ _⟩
  | r :: rs, w, hd, hn, hr => by
    have h0 := hr r (by simp)
    have hlt := (Array.getElem?_eq_some_iff.1 h0).1
    have ht : (Instr.takeDeferred r).run P w = .ok [] { w with heap := w.heap.setIfInBounds r (.deferred none) } := by
      simp [Instr.takeDeferred, getObj, setObj, Sem.run, h0, bind, Sem.bind, pure]
    have s1 := step_collected (P := P) (cs := cs) (w := w) (by rw [hm]; exact fun h => by cases h) (show fr.defers = mkD r :: rs.map mkD from hd) rfl ht
    have hn' := List.nodup_cons.1 hn
    obtain ⟨w', g1, g2⟩ := shut_steps { fr with defers := [] ++ rs.map mkD } cs hm rs { w with heap := w.heap.setIfInBounds r (.deferred none) } (by simp) hn'.2 (fun q hq => by
      have hne : r ≠ q := fun e => hn'.1 (e ▸ hq)
      simp only
      rw [Array.getElem?_setIfInBounds_ne hne]
      exact hr q (by simp [hq]))
    refine ⟨w', ⟨g1.os, g1.tape, g1.output, by rw [g1.size]; simp, fun k hk => ?_⟩, .head s1 g2⟩
    have hk' : k ≠ r ∧ k ∉ rs := by simpa using hk
    rw [g1.block k hk'.2]
    simp only
    rw [Array.getElem?_setIfInBounds_ne (fun e => hk'.1 e.symm)]
theorem HR.shut {sz : TypeId → Nat} {w' : World} {rs : List Nat} (h : HR sz l H w) (hs : Shut rs w w') (hr : ∀ r ∈ rs, ∀ b x, l b = some x → (H.get b).isSome → x.1 ≠ r) : HR sz l H w' :=
  ⟨fun b o e => let ⟨k, κ, x, g1, g2, g3⟩ := h.obj b o e; ⟨k, κ, x, g1, (hs.block k fun hm => hr k hm b (k, κ) g1 (by simp [e]) rfl).trans g2, g3⟩, h.inj, h.dom, h.glob⟩
theorem Kp.shut {sz : TypeId → Nat} {l' : Env} {H' : Hp} {w1 w2 : World} {rs : List Nat} (h : Kp sz lo l H w l' H' w1) (hs : Shut rs w1 w2) (hB : ∀ r ∈ rs, w.heap.size ≤ r) (hr : ∀ r ∈ rs, ∀ b x, l' b = some x → (H'.get b).isSome → x.1 ≠ r) : Kp sz lo l H w l' H' w2 :=
  ⟨h.le, h.hr.shut hs hr, h.nx, h.old, hs.os.trans h.os, hs.tape.trans h.tape, hs.output.trans h.output, by rw [hs.size]; exact h.size, fun k hk hne => (hs.block k fun hm => by have := hB k hm; omega).trans (h.block k hk hne), h.fresh⟩

/-! what a piece of code comes to within a round -/
noncomputable def RTo (P : Program) (start : Machine) (b : Frame) (k : List Item) (cs : List Frame) : Exit → Act → World → Prop
  | .normal, a, w => Steps P start (lone (b.atR a k) cs w)
  | .exit i, a, w => ∀ k', exitTo i k = some k' → Steps P start (lone (b.atR a k') cs w)
  | _, _, _ => False
noncomputable def RSem (P : Program) (lp : Nat) (c : Code) (Q : Exit → Act → World → Prop) (a : Act) (w : World) : Prop :=
  ∀ (b : Frame) (k : List Item) (cs : List Frame), b.kind = .normal → b.roundOf = some lp → ∃ e a' w', Q e a' w' ∧ RTo P (lone (b.atR a (.code c :: k)) cs w) b k cs e a' w'
theorem RTo.of_steps {s s' : Machine} {b : Frame} {k : List Item} {cs : List Frame} {e : Exit} (h : Steps P s s') (h' : RTo P s' b k cs e a w) : RTo P s b k cs e a w := by
  cases e with
  | normal => exact Steps.trans h h'
  | exit i => exact fun k' hk => Steps.trans h (h' k' hk)
  | _ => exact h'
theorem RTo.pass {s : Machine} {b : Frame} {k : List Item} {it : Item} {cs : List Frame} {e : Exit} (hne : e ≠ .normal) (hit : ∀ i k', exitTo i k = some k' → exitTo i (it :: k) = some k') (h : RTo P s b (it :: k) cs e a w) : RTo P s b k cs e a w := by
  cases e with
  | normal => exact absurd rfl hne
  | exit i => exact fun k' hk => h k' (hit i k' hk)
  | _ => exact h
section
variable {lp : Nat}
theorem RSem.skip (h : Q .normal a w) : RSem P lp .skip Q a w := fun _ _ _ _ _ => ⟨.normal, a, w, h, .one stepR_skip⟩
theorem RSem.label {i : Nat} (h : Q .normal a w) : RSem P lp (.label i) Q a w := fun _ _ _ _ _ => ⟨.normal, a, w, h, .one stepR_label⟩
theorem RSem.exit {i : Nat} (h : Q (.exit i) a w) : RSem P lp (.exit i) Q a w := fun _ _ _ _ _ => ⟨.exit i, a, w, h, fun _ hk => .one (stepR_exit hk)⟩
theorem RSem.seq {x y : Code} (h : RSem P lp x (Exit.then (RSem P lp y Q) Q) a w) : RSem P lp (.seq x y) Q a w := fun b k cs hb hr => by
  obtain ⟨e, a1, w1, hq, hr1⟩ := h b (.code y :: k) cs hb hr
  have st : Steps P (lone (b.atR a (.code (.seq x y) :: k)) cs w) _ := .one stepR_seq
  by_cases he : e = .normal
  · subst he
    obtain ⟨e2, a2, w2, hq2, hr2⟩ := hq b k cs hb hr
    exact ⟨e2, a2, w2, hq2, .of_steps (st.trans hr1) hr2⟩
  · refine ⟨e, a1, w1, ?_, .of_steps st (.pass he (fun i k' hk => by simp [exitTo, hk]) hr1)⟩
    cases e <;> first | exact absurd rfl he | exact hq
theorem RSem.cond {c : Operand} {x y : Code} {t : Bool} (hc : a.eval c = .bool t) (h : RSem P lp (if t then x else y) Q a w) : RSem P lp (.cond c x y) Q a w := fun b k cs hb hr =>
  let ⟨e, a', w', hq, h1⟩ := h b k cs hb hr; ⟨e, a', w', hq, .of_steps (.one (stepR_cond hc)) h1⟩
theorem RSem.block {id : Nat} {c : Code} (h : RSem P lp c (Exit.inBlock id Q) a w) : RSem P lp (.block id c) Q a w := fun b k cs hb hr => by
  obtain ⟨e, a1, w1, hq, hr1⟩ := h b (.inBlock id :: k) cs hb hr
  have st : Steps P (lone (b.atR a (.code (.block id c) :: k)) cs w) _ := .one stepR_block
  cases e with
  | normal => exact ⟨.normal, a1, w1, hq, st.trans (Steps.trans hr1 (.one stepR_inBlock))⟩
  | exit i =>
    by_cases hi : i = id
    · simp only [Exit.inBlock, hi, if_true] at hq
      exact ⟨.normal, a1, w1, hq, st.trans (hr1 k (by simp [exitTo, hi]))⟩
    · simp only [Exit.inBlock, hi, if_false] at hq
      have hn : (id == i) = false := by rw [beq_eq_false_iff_ne]; exact fun e => hi e.symm
      exact ⟨.exit i, a1, w1, hq, fun k' hk => st.trans (hr1 k' (by simp [exitTo, hn, hk]))⟩
  | _ => exact hr1.elim
/-- At most n rounds of a loop. -/
noncomputable def RSemN (P : Program) (lp : Nat) (c : Code) (Q : Exit → Act → World → Prop) : Nat → Act → World → Prop
  | 0, _, _ => False
  | n + 1, a, w => RSem P lp c (Exit.then (RSemN P lp c Q n) Q) a w
theorem RSemN.succ {c : Code} {n : Nat} : RSemN P lp c Q (n + 1) a w = RSem P lp c (Exit.then (RSemN P lp c Q n) Q) a w := rfl
theorem RSem.rounds {c : Code} (b : Frame) (k : List Item) (cs : List Frame) (hb : b.kind = .normal) (hro : b.roundOf = some lp) : ∀ (n : Nat) (a : Act) (w : World), RSemN P lp c Q n a w →
    ∃ e a' w', Q e a' w' ∧ RTo P (lone (b.atR a (.code c :: .inLoop c :: k)) cs w) b k cs e a' w'
  | 0, _, _, h => h.elim
  | n + 1, a, w, h => by
    obtain ⟨e, a1, w1, hq, hr⟩ := h b (.inLoop c :: k) cs hb hro
    by_cases he : e = .normal
    · subst he
      obtain ⟨e2, a2, w2, hq2, hr2⟩ := RSem.rounds b k cs hb hro n a1 w1 hq
      exact ⟨e2, a2, w2, hq2, .of_steps (Steps.trans hr (.one stepR_inLoop)) hr2⟩
    · refine ⟨e, a1, w1, ?_, .pass he (fun i k' hk => by simp [exitTo, hk]) hr⟩
      cases e <;> first | exact absurd rfl he | exact hq
theorem RSem.loop {c : Code} (n : Nat) (h : RSemN P lp c Q n a w) : RSem P lp (.loop c) Q a w := fun b k cs hb hr =>
  let ⟨e, a', w', hq, h1⟩ := RSem.rounds b k cs hb hr n a w h; ⟨e, a', w', hq, .of_steps (.one stepR_loop) h1⟩

/-! operations in the order of the text, within a round -/
noncomputable def RSemL (P : Program) (lp : Nat) (ops : Array Oper) (Q : Act → World → Prop) (is : List Nat) (a : Act) (w : World) : Prop :=
  ∀ (b : Frame) (k : List Item) (cs : List Frame), b.kind = .normal → b.roundOf = some lp → ∃ a' w', Q a' w' ∧ Steps P (lone (b.atR a (.inRegion ops is :: k)) cs w) (lone (b.atR a' k) cs w')
variable {ops : Array Oper} {i : Nat} {is : List Nat} {o : Oper} {Q' : Act → World → Prop}
theorem RSemL.nil (h : Q' a w) : RSemL P lp ops Q' [] a w := fun _ _ _ _ _ => ⟨a, w, h, .one stepR_region_end⟩
theorem RSemL.skip (ho : ops[i]? = some o) (hw : Region.wanted o (yielded ops a.tmps) = false) (h : RSemL P lp ops Q' is (a.put o.dst undef) w) : RSemL P lp ops Q' (i :: is) a w := fun b k cs hb hr => by
  obtain ⟨a', w', hq, h1⟩ := h b k cs hb hr
  refine ⟨a', w', hq, .head ?_ h1⟩
  have hs := stepR_op_skip (P := P) (b := b) (a := a) (k := k) (cs := cs) (w := w) (ops := ops) (i := i) (rest := is) (by simp [ho, hw])
  simpa [ho] using hs
theorem RSemL.op (ho : ops[i]? = some o) (hw : Region.wanted o (yielded ops a.tmps) = true) (hd : ∀ c, o.op ≠ .defer c) (h : Yields P o a w fun v w' => RSemL P lp ops Q' is (a.put o.dst v) w') : RSemL P lp ops Q' (i :: is) a w := fun b k cs hb hro => by
  have hg := stepGR_op (P := P) (b := b) (k := k) (cs := cs) (w := w) (rest := is) ho hw
  rw [Oper.semAt_eq _ _ _ hd] at hg
  have hfin : ∀ v, (b.atR a (.inRegion ops (i :: is) :: k)).finish v = b.atR (a.put o.dst v) (.inRegion ops is :: k) := fun v => by
    rw [Frame.finish_atR, ho]; rfl
  rcases h with ⟨v, w1, hr, h⟩ | ⟨w1, hr, h⟩ | ⟨g, args, w1, hr, h⟩
  · obtain ⟨a', w', hq, hA⟩ := h b k cs hb hro
    refine ⟨a', w', hq, .head (step_lone_go ?_) hA⟩
    rw [hg, ← hfin]; simp [stepG.apply, hr]
  · obtain ⟨a', w', hq, hA⟩ := h b k cs hb hro
    refine ⟨a', w', hq, .head (step_lone_go ?_) hA⟩
    rw [hg, ← hfin]; simp [stepG.apply, hr]
  · obtain ⟨en, w2, fr, ⟨v, rfl, h⟩, hc, -, hl⟩ := h (b.atR a (.inRegion ops (i :: is) :: k) :: cs)
    obtain ⟨a', w', hq, hA⟩ := h b k cs hb hro
    have hin : step P (lone (b.atR a (.inRegion ops (i :: is) :: k)) cs w) = .next (lone (Frame.enter P g args .normal) (b.atR a (.inRegion ops (i :: is) :: k) :: cs) w1) :=
      step_lone_go (by rw [hg]; simp [stepG.apply, hr, Frame.atR])
    have hout := step_leave_returned (c := b.atR a (.inRegion ops (i :: is) :: k)) (cs := cs) hl
    rw [hfin] at hout
    exact ⟨a', w', hq, .head hin (Steps.trans hc (.head hout hA))⟩
theorem RSem.region {id : Nat} (h : RSemL P lp ops (Q .normal) (List.range ops.size) a w) : RSem P lp (.region id ops false) Q a w := fun b k cs hb hr =>
  let ⟨a', w', hq, hA⟩ := h b k cs hb hr; ⟨.normal, a', w', hq, .head stepR_region hA⟩
/-- A round whose code ends normally. -/
theorem RoundTo.of_sem {fn : FuncId} {tmps : Array Value} {asg bd : Code} {K : Value → World → Prop}
    (h : RSem P lp asg (fun e a1 w1 => e = .normal ∧ ∃ w2, (Instr.beginRound lp).run P w1 = .ok () w2 ∧ RSem P lp bd (fun e _ w3 => e = .normal ∧ ∃ v w4, (Instr.endRound lp none).run P w3 = .ok v w4 ∧ K v w4) a1 w2) { tmps := tmps, defers := [] } w) : RoundTo P lp fn tmps asg bd w K := fun c cs => by
  let b : Frame := { (default : Frame) with fn := fn, kind := .normal, roundOf := some lp }
  have hb0 : Frame.round lp fn tmps asg bd .normal = b.atR { tmps := tmps, defers := [] } [.code asg, .beginRound, .code bd] := by
    simp [Frame.round, Frame.atR, b]
  rw [hb0]
  obtain ⟨e, a1, w1, ⟨rfl, w2, hbr, h2⟩, s1⟩ := h b [.beginRound, .code bd] (c :: cs) rfl rfl
  obtain ⟨e, a2, w3, ⟨rfl, v, w4, hend, hK⟩, s2⟩ := h2 b [] (c :: cs) rfl rfl
  exact ⟨v, w4, hK, Steps.trans s1 (.head (stepR_beginRound rfl hbr) (Steps.trans s2 (.one (stepR_round_end rfl rfl hend))))⟩
end

/-! a block that is hidden amid a round -/
/-- No block at hand lies at k. -/
noncomputable def Hid (l : Env) (H : Hp) (k : Nat) : Prop := ∀ b x, l b = some x → (H.get b).isSome → x.1 ≠ k
theorem Hid.kp {sz : TypeId → Nat} {k : Nat} {l' : Env} {H' : Hp} {w' : World} (h : Hid l H k) (hk : k < w.heap.size) (hr : HR sz l H w) (hp : Kp sz lo l H w l' H' w') : Hid l' H' k := fun b x e1 e2 => by
  rcases hp.fresh b x e1 with e | ⟨f1, f2 | ⟨b0, -, f3, f4⟩⟩
  · exact h b x e (hp.old b (hr.dom b x e) e2)
  · omega
  · cases e : l b0 with
    | none => rw [e] at f4; cases f4
    | some y =>
      rw [e] at f4
      have : y.1 = x.1 := by simpa using f4
      rw [← this]; exact h b0 y e f3
theorem Hid.keep {sz : TypeId → Nat} {k : Nat} {l' : Env} {H' : Hp} {w' : World} (h : Hid l H k) (hk : k < w.heap.size) (hp : Kp sz lo l H w l' H' w') : w'.heap[k]? = w.heap[k]? :=
  hp.block k hk fun b x _ e1 e2 => h b x e1 e2
theorem HR.hid {sz : TypeId → Nat} {k : Nat} {w' : World} (h : HR sz l H w) (hh : Hid l H k) (hb : ∀ j, j ≠ k → w'.heap[j]? = w.heap[j]?) : HR sz l H w' :=
  ⟨fun b o e => let ⟨j, κ, x, g1, g2, g3⟩ := h.obj b o e; ⟨j, κ, x, g1, (hb j (hh b (j, κ) g1 (by simp [e]))).trans g2, g3⟩, h.inj, h.dom, h.glob⟩
/-- What was done beside a hidden block that had turned, and turns back. -/
theorem Kp.swap {sz : TypeId → Nat} {k : Nat} {l' : Env} {H' : Hp} {w0 w' w2 : World} (h : Kp sz lo l H w0 l' H' w') (hr : HR sz l H w0) (hh : Hid l H k) (hk : k < w.heap.size) (h0 : w0.heap.size = w.heap.size) (h1 : ∀ j, j ≠ k → w0.heap[j]? = w.heap[j]?) (ho : w0.os = w.os) (ht : w0.tape = w.tape) (hp : w0.output = w.output)
    (g0 : w2.heap.size = w'.heap.size) (g1 : ∀ j, j ≠ k → w2.heap[j]? = w'.heap[j]?) (g2 : w2.heap[k]? = w.heap[k]?) (go : w2.os = w'.os) (gt : w2.tape = w'.tape) (gp : w2.output = w'.output) : Kp sz lo l H w l' H' w2 :=
  ⟨h.le, h.hr.hid (hh.kp (by rw [h0]; exact hk) hr h) g1, h.nx, h.old, (go.trans h.os).trans ho, (gt.trans h.tape).trans ht, (gp.trans h.output).trans hp, by rw [g0, ← h0]; exact h.size, fun j hj hne => by
    by_cases hjk : j = k
    · rw [hjk]; exact g2
    · exact ((g1 j hjk).trans (h.block j (by rw [h0]; exact hj) hne)).trans (h1 j hjk), fun b x e => by rw [← h0]; exact h.fresh b x e⟩
/-- A block that was put aside is put back. -/
theorem Kp.back {sz : TypeId → Nat} {b k κ : Nat} {o : AObj} {l' : Env} {H' : Hp} {w' : World} (hr : HR sz l H w) (hb : H.get b = some o) (hl : l b = some (k, κ)) (hr0 : HR sz l (H.drop b) w) (hh : Hid l (H.drop b) k) (h : Kp sz lo l (H.drop b) w l' H' w') : Kp sz lo l H w l' (H'.put b o) w' := by
  obtain ⟨k', κ', x, q1, q2, q3⟩ := hr.obj b o hb
  rw [hl] at q1
  cases q1
  have hk : k < w.heap.size := (Array.getElem?_eq_some_iff.1 q2).1
  have hh' := hh.kp hk hr0 h
  refine ⟨h.le, ⟨fun j u e => ?_, fun j j' u u' y y' e e' ly ly' hy => ?_, h.hr.dom, h.hr.glob⟩, h.nx, fun j hj hs => ?_, h.os, h.tape, h.output, h.size, fun j hj hne => ?_, fun j y e => ?_⟩
  · rcases Hp.put_get e with ⟨rfl, rfl⟩ | ⟨-, e⟩
    · exact ⟨k, κ, x, h.le _ _ hl, (hh.keep hk h).trans q2, q3.mono h.le⟩
    · exact h.hr.obj j u e
  · rcases Hp.put_get e with ⟨rfl, rfl⟩ | ⟨-, e2⟩
    · rcases Hp.put_get e' with ⟨rfl, rfl⟩ | ⟨-, e2'⟩
      · rfl
      · rw [h.le _ _ hl] at ly
        cases ly
        exact absurd hy.symm (hh' j' y' ly' (Option.isSome_iff_exists.2 ⟨_, e2'⟩))
    · rcases Hp.put_get e' with ⟨rfl, rfl⟩ | ⟨-, e2'⟩
      · rw [h.le _ _ hl] at ly'
        cases ly'
        exact absurd hy (hh' j y ly (Option.isSome_iff_exists.2 ⟨_, e2⟩))
      · exact h.hr.inj j j' u u' y y' e2 e2' ly ly' hy
  · obtain ⟨u, e⟩ := Option.isSome_iff_exists.1 hs
    rcases Hp.put_get e with ⟨rfl, rfl⟩ | ⟨-, e⟩
    · simp [hb]
    · obtain ⟨u', e'⟩ := Option.isSome_iff_exists.1 (h.old j hj (by simp [e]))
      simp [(Hp.drop_get e').2]
  · refine h.block j hj fun b2 y hlo e1 e2 => hne b2 y hlo e1 ?_
    obtain ⟨u, e⟩ := Option.isSome_iff_exists.1 e2
    simp [(Hp.drop_get e).2]
  · refine (h.fresh j y e).imp id fun ⟨e1, e2⟩ => ⟨e1, e2.imp id fun ⟨b0, f1, f2, f3⟩ => ⟨b0, f1, ?_, f3⟩⟩
    obtain ⟨u, e⟩ := Option.isSome_iff_exists.1 f2
    simp [(Hp.drop_get e).2]
theorem Hid.of {sz : TypeId → Nat} {b k κ : Nat} {o : AObj} (hr : HR sz l H w) (hb : H.get b = some o) (hl : l b = some (k, κ)) : Hid l (H.drop b) k := fun j y e1 e2 hy => by
  obtain ⟨u, e⟩ := Option.isSome_iff_exists.1 e2
  obtain ⟨hne, e⟩ := Hp.drop_get e
  exact hne (hr.inj j b u o y (k, κ) e hb e1 hl hy)
theorem HR.less' {sz : TypeId → Nat} (h : HR sz l H w) (b : Nat) : HR sz l (H.drop b) w :=
  ⟨fun b2 o2 e => h.obj b2 o2 (Hp.drop_get e).2, fun b2 b3 o2 o3 x2 x3 e2 e3 => h.inj b2 b3 o2 o3 x2 x3 (Hp.drop_get e2).2 (Hp.drop_get e3).2, h.dom, h.glob⟩
theorem Kp.forget {sz : TypeId → Nat} {b : Nat} {l' : Env} {H' : Hp} {w' : World} (h : Kp sz lo l H w l' H' w') : Kp sz lo l H w l' (H'.drop b) w' :=
  ⟨h.le, h.hr.less' b, h.nx, fun j hj hs => h.old j hj (by
    obtain ⟨u, e⟩ := Option.isSome_iff_exists.1 hs
    simp [(Hp.drop_get e).2]), h.os, h.tape, h.output, h.size, h.block, h.fresh⟩
end Go.Proofs.YtkbmmoobcikbaaaGreatDoor.Ev
namespace Go.Proofs.YtkbmmoobcikbaaaGreatDoor.Ev
open Go Go.RowKit

variable {P : Program} {T : Tb} {lo : Nat} {l : Env} {H : Hp} {w : World} {f : Tr AV} {ρ : Operand → Value} {N : Nat} {Ds : List Deferred} {a : Act} {Q : Exit → Act → World → Prop}

theorem Kp.trans {sz : TypeId → Nat} {l1 l2 : Env} {H1 H2 : Hp} {w1 w2 : World} (hr : HR sz l H w) (h : Kp sz lo l H w l1 H1 w1) (h' : Kp sz lo l1 H1 w1 l2 H2 w2) : Kp sz lo l H w l2 H2 w2 := by
  have hs := h.size
  have hs' := h'.size
  have hn := h.nx
  have hn' := h'.nx
  refine ⟨h.le.trans h'.le, h'.hr, by omega, fun b hb hs => h.old b hb (h'.old b (by omega) hs), h'.os.trans h.os, h'.tape.trans h.tape, h'.output.trans h.output, by omega, fun k hk hne => ?_, fun b x hb => ?_⟩
  · refine (h'.block k (by omega) fun b x hlo hb hs => ?_).trans (h.block k hk hne)
    rcases h.fresh b x hb with e | ⟨e1, e2 | ⟨b0, f1, f2, f3⟩⟩
    · exact hne b x hlo e (h.old b (hr.dom b x e) hs)
    · omega
    · cases e : l b0 with
      | none => rw [e] at f3; cases f3
      | some y =>
        rw [e] at f3
        have : y.1 = x.1 := by simpa using f3
        rw [← this]
        exact hne b0 y f1 e f2
  · rcases h'.fresh b x hb with e | ⟨e1, e2 | ⟨b0, f1, f2, f3⟩⟩
    · exact h.fresh b x e
    · exact .inr ⟨by omega, .inl (by omega)⟩
    · cases e : l1 b0 with
      | none => rw [e] at f3; cases f3
      | some y =>
        rw [e] at f3
        have hy : y.1 = x.1 := by simpa using f3
        rcases h.fresh b0 y e with g | ⟨g1, g2 | ⟨b1, k1, k2, k3⟩⟩
        · exact .inr ⟨by omega, .inr ⟨b0, f1, h.old b0 (hr.dom b0 y g) f2, by rw [g]; simpa using hy⟩⟩
        · exact .inr ⟨by omega, .inl (by omega)⟩
        · exact .inr ⟨by omega, .inr ⟨b1, k1, k2, by rw [k3, hy]⟩⟩

abbrev CallF := FuncId → List AV → Hp → Option (AV × Hp)
noncomputable def FnOk (P : Program) (g : FuncId) (xs : Array Value) (w : World) (R : Value → World → Prop) : Prop :=
  (∃ x w', (callFunc g xs).run P w = .ok (.value x) w' ∧ R x w') ∨ ((callFunc g xs).run P w = .ok (.enter g xs) w ∧ Calls P g xs w fun e w' => ∃ x, e = .returned x ∧ R x w')
noncomputable def CallOk (P : Program) (T : Tb) (call : CallF) : Prop := ∀ g as H v H', call g as H = some (v, H') → ∀ (l : Env) (w : World) (xs : List Value), HR T.sz l H w → VRs l as xs →
  FnOk P g xs.toArray w fun x w' => ∃ l', VR l' v x ∧ Kp T.sz T.lo l H w l' H' w'

/-! one operation -/
noncomputable def opV (T : Tb) (call : CallF) (f : Tr AV) (H : Hp) (op : Op) : Option (AV × Hp) :=
  match op with
  | .call c => match c.callee with
    | .value g => match evalO f g with
      | some (.fn (.func fid) a cp) => match evalOs f c.args.toList with
        | some as => call fid ((a ++ as) ++ cp) H
        | none => none
      | some (.fn (.method n) (.ifc t v :: a) _) => match T.mth t n, evalOs f c.args.toList with
        | some fid, some as => call fid (v :: (a ++ as)) H
        | _, _ => none
      | _ => none
    | .builtin _ => vop T T.lo f H (.call c)
    | .invoke r n => match evalO f r with
      | some (.ifc t v) => match T.mth t n, evalOs f c.args.toList with
        | some fid, some as => call fid (v :: as) H
        | _, _ => none
      | _ => none
  | op => vop T T.lo f H op
theorem OpOk.yields {o : Oper} {v : AV} {H' : Hp} {K : Value → World → Prop} (h : OpOk P T.sz T.lo l H w (execOp a.eval o) v H') (hK : ∀ l' x w', VR l' v x → Kp T.sz T.lo l H w l' H' w' → K x w') : Yields P o a w K := by
  obtain ⟨l', x, w', h1, h2, h3⟩ := h
  rcases h1 with h1 | ⟨h1, rfl⟩
  · exact .inl ⟨_, _, h1, hK _ _ _ h2 h3⟩
  · exact .inr (.inl ⟨_, h1, hK _ _ _ h2 h3⟩)
theorem Yields.wp {o : Oper} {K : Act → World → Prop} (h : Yields P o a w fun v w' => K (a.put o.dst v) w') : o.wp P a w K Q := by
  unfold Oper.wp
  rcases h with ⟨v, w1, hr, h⟩ | ⟨w1, hr, h⟩ | ⟨g, args, w1, hr, h⟩
  · rw [hr]; exact h
  · rw [hr]; exact h
  · rw [hr]
    refine Calls.mono h fun e w' => ?_
    rintro ⟨v, rfl, h⟩
    exact h
theorem OpOk.wp {o : Oper} {v : AV} {H' : Hp} {K : Act → World → Prop} (h : OpOk P T.sz T.lo l H w (execOp a.eval o) v H') (hK : ∀ l' x w', VR l' v x → Kp T.sz T.lo l H w l' H' w' → K (a.put o.dst x) w') : o.wp P a w K Q :=
  (h.yields hK).wp
theorem opV_y (hT : TbOk P T) {call : CallF} (hcall : CallOk P T call) (hr : HR T.sz l H w) (hf : ∀ x, Ev l f a.eval x) {o : Oper} {v : AV} {H' : Hp} (e : opV T call f H o.op = some (v, H')) {K : Value → World → Prop}
    (hK : ∀ l' x w', VR l' v x → Kp T.sz T.lo l H w l' H' w' → K x w') : Yields P o a w K := by
  unfold opV at e
  split at e
  · rename_i c hop
    split at e
    · rename_i g hc
      split at e
      · rename_i fid as0 cp hg
        split at e
        · rename_i as has
          have h1 := hf _ _ hg
          have h2 := evalOs_ok' (fun p _ => hf p) has
          generalize hgv : a.eval g = gv at h1
          cases h1 with | fn _ ha hcp => ?_
          rename_i av cv
          have h3 := hcall _ _ _ _ _ e l w _ hr ((ha.append h2).append hcp)
          have hx : (execOp a.eval o) = callFunc fid ((av ++ (c.args.toList.map a.eval)) ++ cv).toArray := by
            unfold execOp
            rw [hop]
            simp only [resolve, hc, hgv, Deferred.ofValue, pure_bind, invoke]
            congr 1
            apply Array.ext'
            simp
          rcases h3 with ⟨x, w', g1, l', g2, g3⟩ | ⟨g1, g2⟩
          · exact .inl ⟨_, _, by rw [hx]; exact g1, hK _ _ _ g2 g3⟩
          · refine .inr (.inr ⟨_, _, _, by rw [hx]; exact g1, Calls.mono g2 fun e w' => ?_⟩)
            rintro ⟨x, rfl, l', g3, g4⟩
            exact ⟨x, rfl, hK _ _ _ g3 g4⟩
        · cases e
      · rename_i n t u as0 cp hg
        split at e
        · rename_i fid as hm has
          have h1 := hf _ _ hg
          have h2 := evalOs_ok' (fun p _ => hf p) has
          generalize hgv : a.eval g = gv at h1
          cases h1 with | fn _ h1 hcp => ?_
          cases h1 with | cons h1 h5 => ?_
          cases h1 with | ifc _ hu => ?_
          rename_i cv av u'
          have h3 := hcall _ _ _ _ _ e l w _ hr (VRs.cons hu (h5.append h2))
          have hx : (execOp a.eval o).run P w = (callFunc fid (u' :: (av ++ c.args.toList.map a.eval)).toArray).run P w := by
            unfold execOp
            rw [hop]
            simp only [resolve, hc, hgv, Deferred.ofValue, pure_bind, invoke]
            have e0 : (Value.iface t u' :: av).toArray ++ c.args.map a.eval = (Value.iface t u' :: (av ++ c.args.toList.map a.eval)).toArray := by
              apply Array.ext'
              simp
            rw [e0]
            have e1 : (Value.iface t u' :: (av ++ c.args.toList.map a.eval)).toArray[0]? = some (.iface t u') := rfl
            have e2 : (Value.iface t u' :: (av ++ c.args.toList.map a.eval)).toArray.extract 1 (Value.iface t u' :: (av ++ c.args.toList.map a.eval)).toArray.size = (av ++ c.args.toList.map a.eval).toArray := by
              apply Array.ext'
              simp
              rw [List.take_of_length_le (by simp)]
            rw [e1]
            simp only [e2, callMethod]
            have hmm := (hT.mth _ _ _ hm u' w).1
            have e3 : (u' :: (av ++ c.args.toList.map a.eval)).toArray = #[u'] ++ (av ++ c.args.toList.map a.eval).toArray := by
              apply Array.ext'
              simp
            rw [e3]
            simp [hmm, -Array.append_assoc, -List.append_toArray]
          rcases h3 with ⟨x, w', g1, l', g2, g3⟩ | ⟨g1, g2⟩
          · exact .inl ⟨_, _, by rw [hx]; exact g1, hK _ _ _ g2 g3⟩
          · refine .inr (.inr ⟨_, _, _, by rw [hx]; exact g1, Calls.mono g2 fun e w' => ?_⟩)
            rintro ⟨x, rfl, l', g3, g4⟩
            exact ⟨x, rfl, hK _ _ _ g3 g4⟩
        · cases e
      · cases e
    · rw [← hop] at e
      exact (vop_ok hT hr hf e).yields hK
    · rename_i r n hc
      split at e
      · rename_i t u hg
        split at e
        · rename_i fid as hm has
          have h1 := hf _ _ hg
          have h2 := evalOs_ok' (fun p _ => hf p) has
          generalize hgv : a.eval r = gv at h1
          cases h1 with | ifc _ hu => ?_
          rename_i u'
          have h3 := hcall _ _ _ _ _ e l w _ hr (VRs.cons hu h2)
          have hx : (execOp a.eval o).run P w = (callFunc fid (u' :: c.args.toList.map a.eval).toArray).run P w := by
            unfold execOp
            rw [hop]
            simp only [resolve, hc, hgv, pure_bind, invoke]
            have e1 : (#[Value.iface t u'] ++ c.args.map a.eval)[0]? = some (.iface t u') := by rw [Array.getElem?_append_left (by simp)]; rfl
            have e2 : (#[Value.iface t u'] ++ c.args.map a.eval).extract 1 (#[Value.iface t u'] ++ c.args.map a.eval).size = c.args.map a.eval := by
              apply Array.ext'
              simp
              rw [List.take_of_length_le (by simp)]
            rw [e1]
            simp only [e2, callMethod]
            have hmm := (hT.mth _ _ _ hm u' w).1
            have e3 : (u' :: c.args.toList.map a.eval).toArray = #[u'] ++ c.args.map a.eval := by
              apply Array.ext'
              simp
            rw [e3]
            simp [hmm, -Array.append_assoc]
          rcases h3 with ⟨x, w', g1, l', g2, g3⟩ | ⟨g1, g2⟩
          · exact .inl ⟨_, _, by rw [hx]; exact g1, hK _ _ _ g2 g3⟩
          · refine .inr (.inr ⟨_, _, _, by rw [hx]; exact g1, Calls.mono g2 fun e w' => ?_⟩)
            rintro ⟨x, rfl, l', g3, g4⟩
            exact ⟨x, rfl, hK _ _ _ g3 g4⟩
        · cases e
      · cases e
  · exact (vop_ok hT hr hf e).yields hK
theorem opV_ok (hT : TbOk P T) {call : CallF} (hcall : CallOk P T call) (hr : HR T.sz l H w) (hf : ∀ x, Ev l f a.eval x) {o : Oper} {v : AV} {H' : Hp} (e : opV T call f H o.op = some (v, H')) {K : Act → World → Prop}
    (hK : ∀ l' x w', VR l' v x → Kp T.sz T.lo l H w l' H' w' → K (a.put o.dst x) w') : o.wp P a w K Q :=
  (opV_y hT hcall hr hf e (K := fun x w' => K (a.put o.dst x) w') hK).wp

/-! lists of operations -/
noncomputable def wantV (ops : Array Oper) (f : Tr AV) (o : Oper) : Option Bool :=
  match o.guard with
  | none => some true
  | some (j, b) => match ops[j]? with
    | some oj => match oj.dst with
      | some d => match f.get d with
        | some (.bool x) => some (x == b)
        | some (.tup _) => some false
        | _ => none
      | none => none
    | none => none
theorem FR.ev (h : FR N Ds l f a) : ∀ x, Ev l f a.eval x := fun _ _ e => evalO_ok h e
theorem wantV_ok (hf : FR N Ds l f a) {ops : Array Oper} {o : Oper} {b : Bool} (e : wantV ops f o = some b) : Region.wanted o (yielded ops a.tmps) = b := by
  unfold wantV at e
  unfold Region.wanted
  split at e
  · rename_i hg; cases e; rw [hg]
  · rename_i j want hg
    rw [hg]
    split at e
    · rename_i oj hj
      split at e
      · rename_i d hd
        split at e
        · rename_i x hx
          cases e
          obtain ⟨y, h1, h2⟩ := hf.get _ _ hx
          cases h2
          have : yielded ops a.tmps j = some x := by simp [yielded, hj, hd, h1]
          show (yielded ops a.tmps j == some want) = _
          rw [this]
          cases x <;> cases want <;> rfl
        · rename_i x hx
          cases e
          obtain ⟨y, h1, h2⟩ := hf.get _ _ hx
          cases h2
          have : yielded ops a.tmps j = none := by simp [yielded, hj, hd, h1]
          show (yielded ops a.tmps j == some want) = _
          rw [this]
          rfl
        · cases e
      · cases e
    · cases e
/-! rounds of a range over a function: the loop's record holds the frame's slots as they were at its start; each round begins from them -/
inductive Ex where
  | normal
  | exit (i : Nat)
  | ret
noncomputable def Ex.to : Ex → Exit
  | .normal => .normal
  | .exit i => .exit i
  | .ret => .ret
noncomputable def notDefer : Op → Bool
  | .defer _ => false
  | _ => true
noncomputable def opsR (T : Tb) (call : CallF) (N : Nat) (ops : Array Oper) : List Oper → Tr AV → Hp → Option (Tr AV × Hp)
  | [], f, H => some (f, H)
  | o :: r, f, H => match wantV ops f o with
    | none => none
    | some false => match putF N f o.dst (.tup []) with
      | some f' => opsR T call N ops r f' H
      | none => none
    | some true => match notDefer o.op with
      | false => none
      | true => match opV T call f H o.op with
        | none => none
        | some (v, H') => match putF N f o.dst v with
          | some f' => opsR T call N ops r f' H'
          | none => none
theorem opsR_ok (hT : TbOk P T) {call : CallF} (hcall : CallOk P T call) {ops : Array Oper} {lp : Nat} {Q : Act → World → Prop} : ∀ {r : List Oper} {k : Nat} {f f' : Tr AV} {H H' : Hp} {l : Env} {a : Act} {w : World}, (∀ j, r[j]? = ops[k + j]?) → opsR T call N ops r f H = some (f', H') → FR N Ds l f a → HR T.sz l H w →
    (∀ l' a' w', FR N Ds l' f' a' → Kp T.sz T.lo l H w l' H' w' → Q a' w') → RSemL P lp ops Q (List.range' k r.length) a w
  | [], k, f, f', H, H', l, a, w, _, e, hf, hr, hQ => by
    cases e
    exact RSemL.nil (hQ _ _ _ hf (.refl hr))
  | o :: r, k, f, f', H, H', l, a, w, hk, e, hf, hr, hQ => by
    have h0 : ops[k]? = some o := by simpa using (hk 0).symm
    have hk' : ∀ j, r[j]? = ops[(k + 1) + j]? := fun j => by have := hk (j + 1); simpa [Nat.add_assoc, Nat.add_comm 1 j] using this
    rw [List.length_cons, List.range'_succ]
    unfold opsR at e
    split at e
    · cases e
    · rename_i hw
      refine RSemL.skip h0 (wantV_ok hf hw) ?_
      split at e
      · rename_i f1 hp
        exact opsR_ok hT hcall hk' e (hf.put (x := undef) (.tup .nil) hp) hr hQ
      · cases e
    · rename_i hw
      split at e
      · cases e
      rename_i hnd
      split at e
      · cases e
      · rename_i v H1 ho
        split at e
        · rename_i f1 hp
          refine RSemL.op h0 (wantV_ok hf hw) (fun c hc => by rw [hc] at hnd; cases hnd) (opV_y hT hcall hr hf.ev ho fun l1 x w1 h1 h2 => ?_)
          exact opsR_ok hT hcall hk' e ((hf.mono h2.le).put h1 hp) h2.hr fun l2 a2 w2 g1 g2 => hQ _ _ _ g1 (h2.trans hr g2)
        · cases e
noncomputable def iterR (g : Tr AV → Hp → Option (Ex × Tr AV × Hp)) : Nat → Tr AV → Hp → Option (Ex × Tr AV × Hp)
  | 0, _, _ => none
  | n + 1, f, H => match g f H with
    | some (.normal, f', H') => iterR g n f' H'
    | r => r
noncomputable def evR (T : Tb) (call : CallF) (N : Nat) (fuel : Nat) : Code → Tr AV → Hp → Option (Ex × Tr AV × Hp)
  | .skip, f, H => some (.normal, f, H)
  | .label _, f, H => some (.normal, f, H)
  | .region _ ops false, f, H => match opsR T call N ops ops.toList f H with
    | some (f', H') => some (.normal, f', H')
    | none => none
  | .seq x y, f, H => match evR T call N fuel x f H with
    | some (.normal, f', H') => evR T call N fuel y f' H'
    | r => r
  | .cond c x y, f, H => match evalO f c with
    | some (.bool true) => evR T call N fuel x f H
    | some (.bool false) => evR T call N fuel y f H
    | _ => none
  | .block id x, f, H => match evR T call N fuel x f H with
    | some (.exit i, f', H') => match Nat.beq i id with
      | true => some (.normal, f', H')
      | false => some (.exit i, f', H')
    | r => r
  | .loop x, f, H => iterR (evR T call N fuel x) fuel f H
  | .exit i, f, H => some (.exit i, f, H)
  | _, _, _ => none
/-- A reckoning of a piece of code within a round is right. -/
noncomputable def EvROk (P : Program) (T : Tb) (N : Nat) (c : Code) (g : Tr AV → Hp → Option (Ex × Tr AV × Hp)) : Prop := ∀ f H ex f' H', g f H = some (ex, f', H') → ∀ (lp : Nat) (Ds : List Deferred) (l : Env) (a : Act) (w : World) (Q : Exit → Act → World → Prop), FR N Ds l f a → HR T.sz l H w →
  (∀ l' a' w', FR N Ds l' f' a' → Kp T.sz T.lo l H w l' H' w' → Q ex.to a' w') → RSem P lp c Q a w
theorem iterR_ok {c : Code} {g : Tr AV → Hp → Option (Ex × Tr AV × Hp)} (hg : EvROk P T N c g) : ∀ (n : Nat) (f : Tr AV) (H : Hp) (ex : Ex) (f' : Tr AV) (H' : Hp), iterR g n f H = some (ex, f', H') → ∀ (lp : Nat) (Ds : List Deferred) (l : Env) (a : Act) (w : World), FR N Ds l f a → HR T.sz l H w →
    (∀ l' a' w', FR N Ds l' f' a' → Kp T.sz T.lo l H w l' H' w' → ex ≠ .normal → Q ex.to a' w') → RSemN P lp c Q n a w
  | 0, _, _, _, _, _, h, _, _, _, _, _, _, _, _ => by cases h
  | n + 1, f, H, ex, f', H', h, lp, Ds, l, a, w, hf, hr, hQ => by
    unfold iterR at h
    rw [RSemN.succ]
    split at h
    · rename_i f1 H1 h1
      refine hg _ _ _ _ _ h1 lp Ds l a w _ hf hr fun l1 a1 w1 g1 g2 => ?_
      exact iterR_ok hg n _ _ _ _ _ h lp _ _ _ _ g1 g2.hr fun l2 a2 w2 k1 k2 => hQ _ _ _ k1 (g2.trans hr k2)
    · rename_i hne
      refine hg _ _ _ _ _ h lp Ds l a w _ hf hr fun l1 a1 w1 g1 g2 => ?_
      have hx : ex ≠ .normal := fun e => by subst e; exact hne _ _ h
      have := hQ _ _ _ g1 g2 hx
      cases ex with
      | normal => exact absurd rfl hx
      | exit i => exact this
      | ret => exact this
theorem evR_ok (hT : TbOk P T) {call : CallF} (hcall : CallOk P T call) (fuel : Nat) : ∀ c : Code, EvROk P T N c (evR T call N fuel c)
  | .skip => fun f H ex f' H' h lp Ds l a w Q hf hr hQ => by cases h; exact .skip (hQ _ _ _ hf (.refl hr))
  | .label _ => fun f H ex f' H' h lp Ds l a w Q hf hr hQ => by cases h; exact .label (hQ _ _ _ hf (.refl hr))
  | .region id ops false => fun f H ex f' H' h lp Ds l a w Q hf hr hQ => by
    unfold evR at h
    split at h
    · rename_i ho
      cases h
      exact RSem.region (by rw [List.range_eq_range', ← Array.length_toList]; exact opsR_ok hT hcall (by simp) ho hf hr fun l' a' w' g1 g2 => hQ _ _ _ g1 g2)
    · cases h
  | .region id ops true => fun f H ex f' H' h => by cases h
  | .seq x y => fun f H ex f' H' h lp Ds l a w Q hf hr hQ => by
    unfold evR at h
    refine RSem.seq ?_
    split at h
    · rename_i f1 H1 h1
      refine evR_ok hT hcall fuel x _ _ _ _ _ h1 lp Ds l a w _ hf hr fun l1 a1 w1 g1 g2 => ?_
      exact evR_ok hT hcall fuel y _ _ _ _ _ h lp _ _ _ _ Q g1 g2.hr fun l2 a2 w2 k1 k2 => hQ _ _ _ k1 (g2.trans hr k2)
    · rename_i hne
      refine evR_ok hT hcall fuel x _ _ _ _ _ h lp Ds l a w _ hf hr fun l1 a1 w1 g1 g2 => ?_
      cases ex with
      | normal => exact absurd h (hne _ _)
      | exit i => exact hQ _ _ _ g1 g2
      | ret => exact hQ _ _ _ g1 g2
  | .cond c x y => fun f H ex f' H' h lp Ds l a w Q hf hr hQ => by
    unfold evR at h
    split at h
    · rename_i hc
      have hc := hf.ev _ _ hc
      generalize hcv : a.eval c = cv at hc
      cases hc
      exact RSem.cond (t := true) hcv (evR_ok hT hcall fuel x _ _ _ _ _ h lp Ds l a w Q hf hr hQ)
    · rename_i hc
      have hc := hf.ev _ _ hc
      generalize hcv : a.eval c = cv at hc
      cases hc
      exact RSem.cond (t := false) hcv (evR_ok hT hcall fuel y _ _ _ _ _ h lp Ds l a w Q hf hr hQ)
    · cases h
  | .block id x => fun f H ex f' H' h lp Ds l a w Q hf hr hQ => by
    unfold evR at h
    refine RSem.block ?_
    split at h
    · rename_i i f1 H1 h1
      refine evR_ok hT hcall fuel x _ _ _ _ _ h1 lp Ds l a w _ hf hr fun l1 a1 w1 g1 g2 => ?_
      split at h
      · rename_i hi
        have hi := Nat.eq_of_beq_eq_true hi
        cases h
        show Exit.inBlock id Q (.exit i) a1 w1
        simp only [Exit.inBlock, hi, if_true]
        exact hQ _ _ _ g1 g2
      · rename_i hi
        have hi := Nat.ne_of_beq_eq_false hi
        cases h
        show Exit.inBlock id Q (.exit i) a1 w1
        simp only [Exit.inBlock, hi, if_false]
        exact hQ _ _ _ g1 g2
    · rename_i hne
      refine evR_ok hT hcall fuel x _ _ _ _ _ h lp Ds l a w _ hf hr fun l1 a1 w1 g1 g2 => ?_
      cases ex with
      | exit i => exact absurd h (hne _ _ _)
      | normal => exact hQ _ _ _ g1 g2
      | ret => exact hQ _ _ _ g1 g2
  | .loop x => fun f H ex f' H' h lp Ds l a w Q hf hr hQ => by
    unfold evR at h
    exact RSem.loop fuel (iterR_ok (evR_ok hT hcall fuel x) fuel _ _ _ _ _ h lp Ds l a w hf hr fun l1 a1 w1 g1 g2 _ => hQ _ _ _ g1 g2)
  | .exit i => fun f H ex f' H' h lp Ds l a w Q hf hr hQ => by cases h; exact .exit (hQ _ _ _ hf (.refl hr))
  | .ret => fun f H ex f' H' h => by cases h
  | .scope x => fun f H ex f' H' h => by cases h
  | .goto _ => fun f H ex f' H' h => by cases h
  | .refuse _ => fun f H ex f' H' h => by cases h
  | .rangeFunc .. => fun f H ex f' H' h => by cases h
/-- Yield's arguments stand in the loop's parameters. -/
noncomputable def parF (N : Nat) : List Nat → List AV → Tr AV → Option (Tr AV)
  | [], [], f => some f
  | p :: ps, v :: vs, f => match putF N f (some p) v with
    | some f' => parF N ps vs f'
    | none => none
  | _, _, _ => none
theorem FR.par : ∀ {ps : List Nat} {vs : List AV} {xs : List Value} {f f' : Tr AV} {t : Array Value}, parF N ps vs f = some f' → VRs l vs xs → FR N Ds l f { tmps := t, defers := Ds } →
    ps.length = xs.length ∧ FR N Ds l f' { tmps := (ps.zip xs).foldl (fun tmps p => tmps.setIfInBounds p.1 p.2) t, defers := Ds }
  | [], [], _, f, f', t, e, .nil, hf => by cases e; exact ⟨rfl, hf⟩
  | p :: ps, v :: vs, x :: xs, f, f', t, e, .cons hv hvs, hf => by
    unfold parF at e
    split at e
    · rename_i f1 hp
      have := FR.par (ps := ps) (vs := vs) (xs := xs) e hvs (hf.put hv hp)
      exact ⟨by simp [this.1], this.2⟩
    · cases e
  | [], _ :: _, _, _, _, _, e, _, _ => by cases e
  | _ :: _, [], _, _, _, _, e, _, _ => by cases e
/-- A call of yield. -/
noncomputable def ylV (T : Tb) (call : CallF) (b : Nat) (as : List AV) (H : Hp) : Option (AV × Hp) := match H.get b with
  | some (.loop N ps asg bd f) => match parF N ps as f with
    | some f0 => match evR T call N 1000000 asg f0 (H.drop b) with
      | some (.normal, f1, H1) => match evR T call N 1000000 bd f1 H1 with
        | some (.normal, _, H2) => some (.bool true, H2.put b (.loop N ps asg bd f))
        | _ => none
      | _ => none
    | none => none
  | _ => none
theorem ylV_ok (hT : TbOk P T) {call : CallF} (hcall : CallOk P T call) (hr : HR T.sz l H w) {b k κ : Nat} (hl : l b = some (k, κ)) {as : List AV} {xs : List Value} (hx : VRs l as xs) {v : AV} {H' : Hp} (e : ylV T call b as H = some (v, H')) :
    ∃ fn tmps asg bd, (Instr.yield k xs.toArray).run P w = .ok (.round k fn tmps asg bd) w ∧ RoundTo P k fn tmps asg bd w fun x w' => ∃ l', VR l' v x ∧ Kp T.sz T.lo l H w l' H' w' := by
  unfold ylV at e
  split at e
  case h_2 => cases e
  rename_i N0 ps asg bd f hb
  split at e
  case h_2 => cases e
  rename_i f0 hp
  split at e
  case h_2 => cases e
  rename_i f1 H1 h1
  split at e
  case h_2 => cases e
  rename_i f2 H2 h2
  cases e
  obtain ⟨k', κ', x, q1, q2, q3⟩ := hr.obj b _ hb
  rw [hl] at q1
  cases q1
  have q3' := q3
  cases q3 with | loop c1 c2 c3 c4 c5 c6 c7 => ?_
  rename_i r
  have hk : k < w.heap.size := (Array.getElem?_eq_some_iff.1 q2).1
  obtain ⟨hlen, hf0⟩ := FR.par (Ds := []) (t := r.tmps) hp hx ⟨c6, c7, rfl, hr.glob⟩
  have hr0 := hr.less b
  have hh : Hid l (H.drop b) k := Hid.of hr hb hl
  have hzip : (r.params.zip xs.toArray).foldl (fun tmps (t, a) => tmps.setIfInBounds t a) r.tmps = (ps.zip xs).foldl (fun tmps p => tmps.setIfInBounds p.1 p.2) r.tmps := by
    rw [← Array.foldl_toList, Array.toList_zip, c3]
  refine ⟨r.fn, _, r.assign, r.body, run_yield q2 (by rw [← Array.length_toList, ← Array.length_toList, c3]; exact hlen.symm), RoundTo.of_sem ?_⟩
  rw [hzip, c4, c5]
  refine evR_ok hT hcall 1000000 asg _ _ _ _ _ h1 k [] l _ w _ hf0 hr0 fun l1 a1 w1 g1 A => ⟨rfl, ?_⟩
  have e1 : w1.heap[k]? = some (.loop r) := (hh.keep hk A).trans q2
  have hk1 : k < w1.heap.size := (Array.getElem?_eq_some_iff.1 e1).1
  have hh1 := hh.kp hk hr0 A
  refine ⟨_, run_beginRound e1 c1, ?_⟩
  have hr1 : HR T.sz l1 H1 (w1.putObj k (.loop { r with state := .busy })) := A.hr.hid hh1 fun j hj => World.putObj_heap_other hj
  refine evR_ok hT hcall 1000000 bd _ _ _ _ _ h2 k [] l1 a1 _ _ g1 hr1 fun l2 a2 w3 _ B => ⟨rfl, ?_⟩
  have e3 : w3.heap[k]? = some (.loop { r with state := .busy }) := (hh1.keep (by rw [World.putObj_size]; exact hk1) B).trans (World.putObj_heap_same hk1)
  refine ⟨_, _, run_endRound none e3, l2, .bool true, ?_⟩
  have hrr : ({ ({ r with state := .busy } : Loop) with state := if (none : Option Code).isNone then .ready else .done, pending := none } : Loop) = r := by
    obtain ⟨r1, r2, _, _, _, _, _, _⟩ := r
    simp only at c1 c2
    subst c1; subst c2
    rfl
  rw [hrr]
  have C := Kp.swap (w2 := w3.putObj k (.loop r)) B hr1 hh1 hk1 World.putObj_size (fun j hj => World.putObj_heap_other hj) rfl rfl rfl World.putObj_size (fun j hj => World.putObj_heap_other hj) (by rw [World.putObj_heap_same (Array.getElem?_eq_some_iff.1 e3).1, e1]) rfl rfl rfl
  exact Kp.back hr hb hl hr0 hh (A.trans hr0 C)
noncomputable def yopV (T : Tb) (call : CallF) (f : Tr AV) (H : Hp) : Op → Option (AV × Hp)
  | .call c => match c.callee with
    | .value g => match evalO f g, evalOs f c.args.toList with
      | some (.yld b), some as => ylV T call b as H
      | _, _ => none
    | _ => none
  | _ => none
theorem yopV_ok (hT : TbOk P T) {call : CallF} (hcall : CallOk P T call) (hr : HR T.sz l H w) (hf : ∀ x, Ev l f a.eval x) {ops : Array Oper} {i : Nat} {is : List Nat} {o : Oper} (ho : ops[i]? = some o) (hw : Region.wanted o (yielded ops a.tmps) = true) {v : AV} {H' : Hp} (e : yopV T call f H o.op = some (v, H'))
    (h : ∀ l' x w', VR l' v x → Kp T.sz T.lo l H w l' H' w' → CSemL P ops Q is (a.put o.dst x) w') : CSemL P ops Q (i :: is) a w := by
  unfold yopV at e
  split at e
  · rename_i c hop
    split at e
    · rename_i g hc
      split at e
      · rename_i b as hg has
        have h1 := hf _ _ hg
        have h2 := evalOs_ok' (fun p _ => hf p) has
        generalize hgv : a.eval g = gv at h1
        cases h1 with | yld hl => ?_
        rename_i k κ
        obtain ⟨fn, tmps, asg, bd, g1, g2⟩ := ylV_ok hT hcall hr hl h2 e
        have hx : (execOp a.eval o) = Instr.yield k (c.args.toList.map a.eval).toArray := by
          unfold execOp
          rw [hop]
          simp only [resolve, hc, hgv, Deferred.ofValue, pure_bind, invoke]
          congr 1
          apply Array.ext'
          simp
        refine CSemL.round ho hw (by rw [hx]; exact g1) fun c0 cs => ?_
        obtain ⟨x, w', ⟨l', g3, g4⟩, g5⟩ := g2 c0 cs
        exact ⟨x, w', h _ _ _ g3 g4, g5⟩
      · cases e
    · cases e
  · cases e
noncomputable def opsV (T : Tb) (call : CallF) (N : Nat) (ops : Array Oper) : List Oper → Tr AV → Hp → Option (Tr AV × Hp)
  | [], f, H => some (f, H)
  | o :: r, f, H => match wantV ops f o with
    | none => none
    | some false => match putF N f o.dst (.tup []) with
      | some f' => opsV T call N ops r f' H
      | none => none
    | some true => match opV T call f H o.op with
      | none => match commV T f H o.op with
        | none => match yopV T call f H o.op with
          | none => none
          | some (v, H') => match putF N f o.dst v with
            | some f' => opsV T call N ops r f' H'
            | none => none
        | some (v, H') => match putF N f o.dst v with
          | some f' => opsV T call N ops r f' H'
          | none => none
      | some (v, H') => match putF N f o.dst v with
        | some f' => opsV T call N ops r f' H'
        | none => none
theorem opsV_ok (hT : TbOk P T) {call : CallF} (hcall : CallOk P T call) {ops : Array Oper} : ∀ {r : List Oper} {k : Nat} {f f' : Tr AV} {H H' : Hp} {l : Env} {a : Act} {w : World}, (∀ j, r[j]? = ops[k + j]?) → opsV T call N ops r f H = some (f', H') → FR N Ds l f a → HR T.sz l H w →
    (∀ l' a' w', FR N Ds l' f' a' → Kp T.sz T.lo l H w l' H' w' → Q .normal a' w') → CSemL P ops Q (List.range' k r.length) a w
  | [], k, f, f', H, H', l, a, w, _, e, hf, hr, hQ => by
    cases e
    exact CSemL.nil (hQ _ _ _ hf (.refl hr))
  | o :: r, k, f, f', H, H', l, a, w, hk, e, hf, hr, hQ => by
    have h0 : ops[k]? = some o := by simpa using (hk 0).symm
    have hk' : ∀ j, r[j]? = ops[(k + 1) + j]? := fun j => by have := hk (j + 1); simpa [Nat.add_assoc, Nat.add_comm 1 j] using this
    rw [List.length_cons, List.range'_succ]
    unfold opsV at e
    split at e
    · cases e
    · rename_i hw
      refine CSemL.skip h0 (wantV_ok hf hw) ?_
      split at e
      · rename_i f1 hp
        exact opsV_ok hT hcall hk' e (hf.put (x := undef) (.tup .nil) hp) hr hQ
      · cases e
    · rename_i hw
      split at e
      · split at e
        · split at e
          · cases e
          · rename_i v H1 ho
            split at e
            · rename_i f1 hp
              refine yopV_ok hT hcall hr hf.ev h0 (wantV_ok hf hw) ho fun l1 x w1 h1 h2 => ?_
              exact opsV_ok hT hcall hk' e ((hf.mono h2.le).put h1 hp) h2.hr fun l2 a2 w2 g1 g2 => hQ _ _ _ g1 (h2.trans hr g2)
            · cases e
        · rename_i v H1 ho
          split at e
          · rename_i f1 hp
            refine commV_ok hT hr hf.ev h0 (wantV_ok hf hw) ho fun x w1 h1 h2 => ?_
            exact opsV_ok hT hcall hk' e ((hf.mono h2.le).put h1 hp) h2.hr fun l2 a2 w2 g1 g2 => hQ _ _ _ g1 (h2.trans hr g2)
          · cases e
      · rename_i v H1 ho
        split at e
        · rename_i f1 hp
          refine CSemL.op h0 (wantV_ok hf hw) (opV_y hT hcall hr hf.ev ho fun l1 x w1 h1 h2 => ?_)
          exact opsV_ok hT hcall hk' e ((hf.mono h2.le).put h1 hp) h2.hr fun l2 a2 w2 g1 g2 => hQ _ _ _ g1 (h2.trans hr g2)
        · cases e

/-! bodies -/
abbrev DrawF := Array Oper → Tr AV → Hp → Option (Tr AV × Hp)
noncomputable def DrawOk (P : Program) (T : Tb) (N : Nat) (D : DrawF) : Prop := ∀ ops f H f' H', D ops f H = some (f', H') → ∀ (Ds : List Deferred) (l : Env) (a : Act) (w : World) (Q : Exit → Act → World → Prop) (id : Nat), FR N Ds l f a → HR T.sz l H w →
  (∀ l' a' w', FR N Ds l' f' a' → Kp T.sz T.lo l H w l' H' w' → Q .normal a' w') → (Code.region id ops true).wp P Q a w
noncomputable def iterV (g : Tr AV → Hp → Option (Ex × Tr AV × Hp)) : Nat → Tr AV → Hp → Option (Ex × Tr AV × Hp)
  | 0, _, _ => none
  | n + 1, f, H => match g f H with
    | some (.normal, f', H') => iterV g n f' H'
    | r => r
noncomputable def evC (T : Tb) (call : CallF) (D : DrawF) (N : Nat) (fuel : Nat) : Code → Tr AV → Hp → Option (Ex × Tr AV × Hp)
  | .skip, f, H => some (.normal, f, H)
  | .label _, f, H => some (.normal, f, H)
  | .region _ ops false, f, H => match opsV T call N ops ops.toList f H with
    | some (f', H') => some (.normal, f', H')
    | none => none
  | .region _ ops true, f, H => match D ops f H with
    | some (f', H') => some (.normal, f', H')
    | none => none
  | .seq x y, f, H => match evC T call D N fuel x f H with
    | some (.normal, f', H') => evC T call D N fuel y f' H'
    | r => r
  | .cond c x y, f, H => match evalO f c with
    | some (.bool true) => evC T call D N fuel x f H
    | some (.bool false) => evC T call D N fuel y f H
    | _ => none
  | .block id x, f, H => match evC T call D N fuel x f H with
    | some (.exit i, f', H') => match Nat.beq i id with
      | true => some (.normal, f', H')
      | false => some (.exit i, f', H')
    | r => r
  | .loop x, f, H => iterV (evC T call D N fuel x) fuel f H
  | .exit i, f, H => some (.exit i, f, H)
  | .ret, f, H => some (.ret, f, H)
  | .scope x, f, H => evC T call D N fuel x f H
  | .rangeFunc g ps x y, f, H => match evalO f g with
    | some (.fn (.func fid) a cp) => match T.fn fid with
      | none => none
      | some _ => match call fid ((a ++ [.yld H.nx]) ++ cp) (H.new (.loop N ps.toList x y f)) with
        | some (_, H') => match H'.get H.nx with
          | some (.loop ..) => some (.normal, f, H'.drop H.nx)
          | _ => none
        | none => none
    | _ => none
  | _, _, _ => none
/-- A reckoning of a piece of code is right. -/
noncomputable def EvOk (P : Program) (T : Tb) (N : Nat) (c : Code) (g : Tr AV → Hp → Option (Ex × Tr AV × Hp)) : Prop := ∀ f H ex f' H', g f H = some (ex, f', H') → ∀ (B : Nat) (Ds : List Deferred) (l : Env) (a : Act) (w : World) (Q : Exit → Act → World → Prop), FR N Ds l f a → HR T.sz l H w → Mk B l H w Ds →
  (∀ Ds' l' a' w', FR N Ds' l' f' a' → Kp T.sz T.lo l H w l' H' w' → Mk B l' H' w' Ds' → Q ex.to a' w') → CSem P c Q a w
theorem iterV_ok {c : Code} {g : Tr AV → Hp → Option (Ex × Tr AV × Hp)} (hg : EvOk P T N c g) : ∀ (n : Nat) (f : Tr AV) (H : Hp) (ex : Ex) (f' : Tr AV) (H' : Hp), iterV g n f H = some (ex, f', H') → ∀ (B : Nat) (Ds : List Deferred) (l : Env) (a : Act) (w : World), FR N Ds l f a → HR T.sz l H w → Mk B l H w Ds →
    (∀ Ds' l' a' w', FR N Ds' l' f' a' → Kp T.sz T.lo l H w l' H' w' → Mk B l' H' w' Ds' → ex ≠ .normal → Q ex.to a' w') → CSemN P c Q n a w
  | 0, _, _, _, _, _, h, _, _, _, _, _, _, _, _, _ => by cases h
  | n + 1, f, H, ex, f', H', h, B, Ds, l, a, w, hf, hr, hm, hQ => by
    unfold iterV at h
    rw [CSemN.succ]
    split at h
    · rename_i f1 H1 h1
      refine hg _ _ _ _ _ h1 B Ds l a w _ hf hr hm fun D1 l1 a1 w1 g1 g2 m1 => ?_
      exact iterV_ok hg n _ _ _ _ _ h _ _ _ _ _ g1 g2.hr m1 fun D2 l2 a2 w2 k1 k2 m2 => hQ _ _ _ _ k1 (g2.trans hr k2) m2
    · rename_i hne
      refine hg _ _ _ _ _ h B Ds l a w _ hf hr hm fun D1 l1 a1 w1 g1 g2 m1 => ?_
      have hx : ex ≠ .normal := fun e => by subst e; exact hne _ _ h
      have := hQ _ _ _ _ g1 g2 m1 hx
      cases ex with
      | normal => exact absurd rfl hx
      | exit i => exact this
      | ret => exact this
theorem evC_ok (hT : TbOk P T) {call : CallF} (hcall : CallOk P T call) {D : DrawF} (hD : DrawOk P T N D) (fuel : Nat) : ∀ c : Code, EvOk P T N c (evC T call D N fuel c)
  | .skip => fun f H ex f' H' h B Ds l a w Q hf hr hm hQ => by cases h; exact .of_wp (wp_skip (hQ _ _ _ _ hf (.refl hr) hm))
  | .label _ => fun f H ex f' H' h B Ds l a w Q hf hr hm hQ => by cases h; exact .of_wp (wp_label (hQ _ _ _ _ hf (.refl hr) hm))
  | .region id ops false => fun f H ex f' H' h B Ds l a w Q hf hr hm hQ => by
    unfold evC at h
    split at h
    · rename_i ho
      cases h
      exact CSem.region (by rw [List.range_eq_range', ← Array.length_toList]; exact opsV_ok hT hcall (by simp) ho hf hr fun l' a' w' g1 g2 => hQ _ _ _ _ g1 g2 (hm.kp hr g2))
    · cases h
  | .region id ops true => fun f H ex f' H' h B Ds l a w Q hf hr hm hQ => by
    unfold evC at h
    split at h
    · rename_i ho
      cases h
      exact .of_wp (hD _ _ _ _ _ ho Ds l a w Q id hf hr fun l' a' w' g1 g2 => hQ _ _ _ _ g1 g2 (hm.kp hr g2))
    · cases h
  | .seq x y => fun f H ex f' H' h B Ds l a w Q hf hr hm hQ => by
    unfold evC at h
    refine CSem.seq ?_
    split at h
    · rename_i f1 H1 h1
      refine evC_ok hT hcall hD fuel x _ _ _ _ _ h1 B Ds l a w _ hf hr hm fun D1 l1 a1 w1 g1 g2 m1 => ?_
      exact evC_ok hT hcall hD fuel y _ _ _ _ _ h _ _ _ _ _ Q g1 g2.hr m1 fun D2 l2 a2 w2 k1 k2 m2 => hQ _ _ _ _ k1 (g2.trans hr k2) m2
    · rename_i hne
      refine evC_ok hT hcall hD fuel x _ _ _ _ _ h B Ds l a w _ hf hr hm fun D1 l1 a1 w1 g1 g2 m1 => ?_
      cases ex with
      | normal => exact absurd h (hne _ _)
      | exit i => exact hQ _ _ _ _ g1 g2 m1
      | ret => exact hQ _ _ _ _ g1 g2 m1
  | .cond c x y => fun f H ex f' H' h B Ds l a w Q hf hr hm hQ => by
    unfold evC at h
    split at h
    · rename_i hc
      have hc := hf.ev _ _ hc
      generalize hcv : a.eval c = cv at hc
      cases hc
      exact CSem.cond (t := true) hcv (evC_ok hT hcall hD fuel x _ _ _ _ _ h B Ds l a w Q hf hr hm hQ)
    · rename_i hc
      have hc := hf.ev _ _ hc
      generalize hcv : a.eval c = cv at hc
      cases hc
      exact CSem.cond (t := false) hcv (evC_ok hT hcall hD fuel y _ _ _ _ _ h B Ds l a w Q hf hr hm hQ)
    · cases h
  | .block id x => fun f H ex f' H' h B Ds l a w Q hf hr hm hQ => by
    unfold evC at h
    refine CSem.block ?_
    split at h
    · rename_i i f1 H1 h1
      refine evC_ok hT hcall hD fuel x _ _ _ _ _ h1 B Ds l a w _ hf hr hm fun D1 l1 a1 w1 g1 g2 m1 => ?_
      split at h
      · rename_i hi
        have hi := Nat.eq_of_beq_eq_true hi
        cases h
        show Exit.inBlock id Q (.exit i) a1 w1
        simp only [Exit.inBlock, hi, if_true]
        exact hQ _ _ _ _ g1 g2 m1
      · rename_i hi
        have hi := Nat.ne_of_beq_eq_false hi
        cases h
        show Exit.inBlock id Q (.exit i) a1 w1
        simp only [Exit.inBlock, hi, if_false]
        exact hQ _ _ _ _ g1 g2 m1
    · rename_i hne
      refine evC_ok hT hcall hD fuel x _ _ _ _ _ h B Ds l a w _ hf hr hm fun D1 l1 a1 w1 g1 g2 m1 => ?_
      cases ex with
      | exit i => exact absurd h (hne _ _ _)
      | normal => exact hQ _ _ _ _ g1 g2 m1
      | ret => exact hQ _ _ _ _ g1 g2 m1
  | .loop x => fun f H ex f' H' h B Ds l a w Q hf hr hm hQ => by
    unfold evC at h
    exact CSem.loop fuel (iterV_ok (evC_ok hT hcall hD fuel x) fuel _ _ _ _ _ h B Ds l a w hf hr hm fun D1 l1 a1 w1 g1 g2 m1 _ => hQ _ _ _ _ g1 g2 m1)
  | .exit i => fun f H ex f' H' h B Ds l a w Q hf hr hm hQ => by cases h; exact .of_wp (wp_exit (hQ _ _ _ _ hf (.refl hr) hm))
  | .ret => fun f H ex f' H' h B Ds l a w Q hf hr hm hQ => by cases h; exact .of_wp (wp_ret (hQ _ _ _ _ hf (.refl hr) hm))
  | .scope x => fun f H ex f' H' h B Ds l a w Q hf hr hm hQ => by
    unfold evC at h
    refine CSem.scope (evC_ok hT hcall hD fuel x _ _ _ _ _ h B Ds l a w _ hf hr hm fun D1 l1 a1 w1 g1 g2 m1 => ?_)
    have := hQ _ _ _ _ g1 g2 m1
    cases ex <;> exact this
  | .goto _ => fun f H ex f' H' h => by cases h
  | .refuse _ => fun f H ex f' H' h => by cases h
  | .rangeFunc g ps x y => fun f H ex f' H' h B Ds l a w Q hf hr hm hQ => by
    unfold evC at h
    split at h
    · rename_i fid as0 cp hg
      split at h
      · cases h
      rename_i i hi
      split at h
      · rename_i v H1 hc
        split at h
        case h_2 => cases h
        rename_i N9 ps9 asg9 bd9 f9 hlp
        cases h
        have h1 := hf.ev _ _ hg
        generalize hgv : a.eval g = gv at h1
        cases h1 with | fn _ ha hcp => ?_
        rename_i av cv
        obtain ⟨fn, -, -, -, -, q5⟩ := hT.fn _ _ hi
        refine CSem.rangeFunc hgv q5 fun lfn => ?_
        generalize hlpo : (Obj.loop { state := .ready, pending := none, fn := lfn, tmps := a.tmps, params := ps, assign := x, body := y, defers := w.heap.size }) = lp
        have hold : ∀ k, k < w.heap.size → ({ w with heap := w.heap.push (.deferred (some [])) } : World).heap[k]? = w.heap[k]? := fun k hk => by
          simp only
          rw [Array.getElem?_push_lt hk, Array.getElem?_eq_getElem hk]
        have hrA : HR T.sz l H { w with heap := w.heap.push (.deferred (some [])) } := hr.grown hold
        have hkA : Kp T.sz T.lo l H w l H { w with heap := w.heap.push (.deferred (some [])) } := Kp.grown hr rfl rfl rfl (by simp) hold
        have hszA : ({ w with heap := w.heap.push (.deferred (some [])) } : World).heap.size = w.heap.size + 1 := by simp
        have hle1 : l.le (l.upd H.nx (w.heap.size + 1, 0)) := Env.upd_le hr _
        have hkB := Kp.alloc (lo := T.lo) hrA 0 (o := .loop N ps.toList x y f) (x := lp) (by
          rw [← hlpo]
          exact .loop rfl rfl rfl rfl rfl hf.size fun i v e => let ⟨z, z1, z2⟩ := hf.get i v e; ⟨z, z1, z2.mono (Env.upd_le hrA _)⟩)
        rw [hszA] at hkB
        have hat : (l.upd H.nx (w.heap.size + 1, 0)) H.nx = some (w.heap.size + 1, 0) := Env.upd_at _ _ _
        have hk1 := hkA.trans hr hkB
        have hb : ∀ b x, l b = some x → (H.get b).isSome → x.1 < w.heap.size := fun b x e1 e2 => by
          obtain ⟨o, ho⟩ := Option.isSome_iff_exists.1 e2
          obtain ⟨k, κ, y, g1, g2, -⟩ := hr.obj b o ho
          rw [e1] at g1
          cases g1
          exact (Array.getElem?_eq_some_iff.1 g2).1
        have hb1 : ∀ b q, (l.upd H.nx (w.heap.size + 1, 0)) b = some q → ((H.new (.loop N ps.toList x y f)).get b).isSome → q.1 ≠ w.heap.size := fun b q e1 e2 => by
          obtain ⟨o, ho⟩ := Option.isSome_iff_exists.1 e2
          rcases Hp.new_get ho with ⟨rfl, -⟩ | ⟨hne, ho⟩
          · rw [hat] at e1
            cases e1
            simp
          · have e1' : l b = some q := by simpa [Env.upd, hne] using e1
            have := hb b q e1' (by simp [ho])
            omega
        rcases hcall _ _ _ _ _ hc (l.upd H.nx (w.heap.size + 1, 0)) _ _ hkB.hr (((ha.mono hle1).append (.cons (.yld hat) .nil)).append (hcp.mono hle1)) with ⟨z, w', e1, -⟩ | ⟨-, e2⟩
        · rw [q5] at e1; cases e1
        · refine Calls.mono e2 fun e w2 => ?_
          rintro ⟨z, rfl, l', -, hk⟩
          have hsz : ((w.heap.push (.deferred (some []))).push lp).size = w.heap.size + 2 := by simp
          have hsize := hk.size
          simp only at hsize
          rw [hsz] at hsize
          have keep : w2.heap[w.heap.size]? = some (.deferred (some [])) := by
            rw [hk.block w.heap.size (by simp only; rw [hsz]; omega) fun b x _ e1 e2 => hb1 b x e1 e2]
            simp only
            rw [Array.getElem?_push_lt (by simp), Array.getElem_push_eq]
          obtain ⟨kl, κl, xl, n1, n2, n3⟩ := hk.hr.obj _ _ hlp
          rw [hk.le _ _ hat] at n1
          cases n1
          cases n3 with | loop c1 c2 c3 c4 c5 c6 c7 => ?_
          rename_i rl
          refine ⟨z, rfl, ⟨rl, n2, c1, c2⟩, fun w3 t1 t2 t3 t4 t5 => ?_⟩
          have hkall : Kp T.sz T.lo l H w l' (H1.drop H.nx) w2 := (hk1.trans hr hk).forget
          have hidk : ∀ b x, l' b = some x → ((H1.drop H.nx).get b).isSome → x.1 ≠ w.heap.size + 1 := Hid.of hk.hr hlp (hk.le _ _ hat)
          have hidm : Hid l' (H1.drop H.nx) w.heap.size := fun b x e1 e2 => by
            have hh := Hid.kp (k := w.heap.size) (fun b x e1 e2 => hb1 b x e1 e2) (by simp only; rw [hsz]; omega) hkB.hr hk
            obtain ⟨u, hu⟩ := Option.isSome_iff_exists.1 e2
            exact hh b x e1 (Option.isSome_iff_exists.2 ⟨_, (Hp.drop_get hu).2⟩)
          have hs : Shut [w.heap.size + 1] w2 w3 := ⟨t1, t2, t3, t4, fun k hk => t5 k (by simpa using hk)⟩
          have hks : Kp T.sz T.lo l H w l' (H1.drop H.nx) w3 := hkall.shut hs (by simp) (fun r hrm b x e1 e2 => by
            have : r = w.heap.size + 1 := by simpa using hrm
            subst this
            exact hidk b x e1 e2)
          refine hQ (mkD w.heap.size :: Ds) l' _ w3 ⟨hf.size, (hf.mono hks.le).get, by rw [← hf.defers], fun g hg => hks.le _ _ (hf.glob g hg)⟩ hks ?_
          obtain ⟨rs, m1, m2, m3⟩ := (hm.kp hr hks).rs
          refine ⟨Nat.le_trans hm.le hks.size, w.heap.size :: rs, by rw [List.map_cons, ← m1], List.nodup_cons.2 ⟨fun hin => ?_, m2⟩, fun r hrm => ?_⟩
          · obtain ⟨rs0, n1, n2, n3⟩ := hm.rs
            have hrs : rs = rs0 := by
              have : rs.map mkD = rs0.map mkD := by rw [← m1, ← n1]
              exact (List.map_inj_right (fun a b hab => by simpa [mkD] using hab)).1 this
            subst hrs
            have := (Array.getElem?_eq_some_iff.1 (n3 _ hin).2.1).1
            omega
          · rcases List.mem_cons.1 hrm with rfl | hrm
            · refine ⟨hm.le, ?_, hidm⟩
              rw [t5 _ (by omega), keep]
            · exact m3 r hrm
      · cases h
    · cases h

/-! calls -/
noncomputable def argF : List AV → Nat → Tr AV → Tr AV
  | [], _, t => t
  | v :: r, i, t => argF r (i + 1) (t.set 10 i (some v))
theorem argF_get : ∀ (as : List AV) (i : Nat) (t : Tr AV) (j : Nat) (v : AV), (argF as i t).get j = some v → (i ≤ j ∧ as[j - i]? = some v) ∨ t.get j = some v
  | [], _, _, _, _, h => .inr h
  | u :: r, i, t, j, v, h => by
    rcases argF_get r (i + 1) _ j v h with ⟨h1, h2⟩ | h2
    · refine .inl ⟨by omega, ?_⟩
      rw [show j - i = (j - (i + 1)) + 1 from by omega, List.getElem?_cons_succ]; exact h2
    · rcases Tr.set_get _ _ _ _ _ _ h2 with ⟨rfl, e⟩ | ⟨-, e⟩
      · cases e; exact .inl ⟨Nat.le_refl _, by simp⟩
      · exact .inr e
theorem FR.first (hr : HR T.sz l H w) {as : List AV} {xs : List Value} (h : VRs l as xs) (hn : as.length ≤ N) : FR N [] l (argF as 0 .e) { tmps := xs.toArray ++ Array.replicate (N - xs.toArray.size) undef, defers := [] } := by
  have hl := h.length
  refine ⟨by simp; omega, fun i v e => ?_, rfl, hr.glob⟩
  rcases argF_get as 0 .e i v e with ⟨-, h2⟩ | h2
  · obtain ⟨u, g1, g2⟩ := h.get h2
    refine ⟨u, ?_, g2⟩
    rw [Nat.sub_zero] at g1
    have hlt := (List.getElem?_eq_some_iff.1 g1).1
    rw [Array.getElem?_append_left (by simpa using hlt)]
    simpa using g1
  · cases h2
noncomputable def resV (T : Tb) (f : Tr AV) (H : Hp) : ResultVar → Option AV
  | .tmp t => f.get t
  | .cell a t => match f.get a with
    | some (.ptr b o) => loadV T H t b o
    | _ => none
noncomputable def ressV (T : Tb) (f : Tr AV) (H : Hp) : List ResultVar → Option (List AV)
  | [] => some []
  | r :: rs => match resV T f H r with
    | none => none
    | some v => match ressV T f H rs with
      | none => none
      | some l => some (v :: l)
noncomputable def resultV : List AV → AV
  | [v] => v
  | l => .tup l
noncomputable def resRun (tmps : Array Value) : ResultVar → Sem Value
  | .tmp t => pure (tmps.getD t undef)
  | .cell a t => do loadVar t (← asAddr (tmps.getD a undef))
theorem resV_ok (hT : TbOk P T) (hf : FR N Ds l f a) (hr : HR T.sz l H w) {r : ResultVar} {v : AV} (e : resV T f H r = some v) : ∃ x, (resRun a.tmps r).run P w = .ok x w ∧ VR l v x := by
  cases r with
  | tmp t =>
    obtain ⟨x, h1, h2⟩ := hf.get t v e
    exact ⟨x, by simp [resRun, h1], h2⟩
  | cell t ty =>
    simp only [resV] at e
    split at e
    · rename_i b o hb
      obtain ⟨x, h1, h2⟩ := hf.get t _ hb
      obtain ⟨k, κ, y, g1, g2, g3⟩ := loadV_ok (P := P) hT hr e
      cases h2 with | ptr _ hl => ?_
      rw [hl] at g1
      cases g1
      exact ⟨y, by simp [resRun, h1, asAddr, g2], g3⟩
    · cases e
theorem ressV_ok (hT : TbOk P T) (hf : FR N Ds l f a) (hr : HR T.sz l H w) : ∀ {rs : List ResultVar} {vs : List AV}, ressV T f H rs = some vs → ∃ xs, (rs.mapM (resRun a.tmps)).run P w = .ok xs w ∧ VRs l vs xs
  | [], vs, e => by cases e; exact ⟨[], rfl, .nil⟩
  | r :: rs, vs, e => by
    unfold ressV at e
    split at e
    · cases e
    rename_i v hv
    split at e
    · cases e
    rename_i vs' hvs
    cases e
    obtain ⟨x, h1, h2⟩ := resV_ok hT hf hr hv
    obtain ⟨xs, h3, h4⟩ := ressV_ok hT hf hr hvs
    exact ⟨x :: xs, by simp [List.mapM_cons, h1, h3], .cons h2 h4⟩
theorem results_ok (hT : TbOk P T) (hf : FR N Ds l f a) (hr : HR T.sz l H w) {fn : Func} {vs : List AV} (e : ressV T f H fn.results.toList = some vs) : ∃ x, (results fn a.tmps).run P w = .ok x w ∧ VR l (resultV vs) x := by
  obtain ⟨xs, h1, h2⟩ := ressV_ok hT hf hr e
  have hm : (fn.results.mapM (resRun a.tmps)).run P w = .ok xs.toArray w := by
    rw [Array.mapM_eq_mapM_toList]
    simp [h1]
  have hres : results fn a.tmps = (do let vs ← fn.results.mapM (resRun a.tmps); pure (if h : vs.size = 1 then vs[0] else .tuple vs)) := by
    have e0 : (fun r => match r with | .tmp t => pure (a.tmps.getD t undef) | .cell c t => (do loadVar t (← asAddr (a.tmps.getD c undef)) : Sem Value)) = resRun a.tmps := by
      funext r
      cases r <;> rfl
    rw [← e0]; rfl
  refine ⟨if h : xs.toArray.size = 1 then xs.toArray[0] else .tuple xs.toArray, ?_, ?_⟩
  · rw [hres, Sem.run_bind, hm]; rfl
  · cases h2 with
    | nil => exact .tup .nil
    | cons h3 h4 =>
      cases h4 with
      | nil => exact h3
      | cons h5 h6 => exact .tup (.cons h3 (.cons h5 h6))
theorem calls_of_sem {g : FuncId} {fn : Func} {c : Code} {args : Array Value} {R : Ending → World → Prop} (hf : P.funcs[g]? = some fn) (hb : fn.body = some c)
    (h : CSem P c (fun e a w => (e = .normal ∨ e = .ret) ∧ ∃ rs : List Nat, a.defers = rs.map mkD ∧ rs.Nodup ∧ (∀ r ∈ rs, w.heap[r]? = some (.deferred (some []))) ∧ ∀ w2, Shut rs w w2 → ∃ v, (results fn a.tmps).run P w2 = .ok v w2 ∧ R (.returned v) w2) { tmps := args ++ Array.replicate (fn.ntmps - args.size) undef, defers := [] } w) : Calls P g args w R := by
  intro cs
  let b : Frame := { (default : Frame) with fn := g, kind := .normal }
  have hin : Frame.enter P g args .normal = b.at { tmps := args ++ Array.replicate (fn.ntmps - args.size) undef, defers := [] } [.code c] := by
    simp [Frame.enter, Frame.at, hf, hb, b]
  obtain ⟨e, a', w', ⟨he, rs, hd, hn, hrs, hR⟩, hA⟩ := h b [] cs (by simp [b])
  rw [← hin] at hA
  have fin : ∀ todo, Steps P (lone (Frame.enter P g args .normal) cs w) (lone { b.at a' todo with mode := .returning } cs w') → ∃ e w' fr, R e w' ∧ Comes P (lone (Frame.enter P g args .normal) cs w) (lone fr cs w') e ∧ fr.fn = g ∧ fr.leaving P w' e := fun todo hs => by
    obtain ⟨w2, g1, g2⟩ := shut_steps (P := P) { b.at a' todo with mode := .returning } cs rfl rs w' hd hn hrs
    obtain ⟨v, k1, k2⟩ := hR w2 g1
    exact ⟨.returned v, w2, _, k2, Steps.trans hs g2, rfl, rfl, rfl, rfl, fn, hf, k1⟩
  rcases he with rfl | rfl
  · exact fin [] (Steps.trans hA (.one step_end))
  · obtain ⟨todo, hs⟩ := hA
    exact fin todo hs
noncomputable def Ex.leaves : Ex → Bool
  | .exit _ => false
  | _ => true
noncomputable def ev (T : Tb) (D : CallF → Nat → DrawF) : Nat → CallF
  | 0, _, _, _ => none
  | d + 1, g, as, H => match T.hook g as H with
    | some r => some r
    | none => match T.fn g with
      | none => none
      | some i => match Nat.ble as.length i.ntmps with
        | false => none
        | true => match evC T (ev T D d) (D (ev T D d) i.ntmps) i.ntmps 1000000 i.body (argF as 0 .e) H with
          | none => none
          | some (ex, f, H') => match ex.leaves with
            | false => none
            | true => match ressV T f H' i.results with
              | some vs => some (resultV vs, H')
              | none => none
theorem ev_ok (hT : TbOk P T) (hh : CallOk P T T.hook) {D : CallF → Nat → DrawF} (hD : ∀ call N, CallOk P T call → DrawOk P T N (D call N)) : ∀ d, CallOk P T (ev T D d)
  | 0 => fun g as H v H' h => by cases h
  | d + 1 => fun g as H v H' h l w xs hr hx => by
    unfold ev at h
    split at h
    · rename_i r hk
      cases h
      exact hh _ _ _ _ _ hk l w xs hr hx
    · split at h
      · cases h
      rename_i i hi
      split at h
      · cases h
      rename_i hn
      have hn : as.length ≤ i.ntmps := by simpa [Nat.ble_eq] using hn
      obtain ⟨fn, q1, q2, q3, q4, q5⟩ := hT.fn _ _ hi
      have hcall := ev_ok hT hh hD d
      refine .inr ⟨?_, ?_⟩
      · exact q5 _ _
      · refine calls_of_sem q1 q2 ?_
        rw [q3]
        split at h
        · cases h
        · rename_i ex f' H1 hev
          split at h
          · cases h
          rename_i hlv
          split at h
          · rename_i vs hvs
            cases h
            refine evC_ok hT hcall (hD _ _ hcall) _ _ _ _ _ _ _ hev w.heap.size [] l _ w _ (FR.first hr hx hn) hr ⟨Nat.le_refl _, [], rfl, List.nodup_nil, fun r hr => by cases hr⟩ fun D1 l1 a1 w1 g1 g2 m1 => ?_
            obtain ⟨rs, m2, m3, m4⟩ := m1.rs
            refine ⟨?_, rs, g1.defers.trans m2, m3, fun r hrm => (m4 r hrm).2.1, fun w2 hs => ?_⟩
            · cases ex with
              | exit i => cases hlv
              | normal => exact .inl rfl
              | ret => exact .inr rfl
            · have hk2 := g2.shut hs (fun r hrm => (m4 r hrm).1) (fun r hrm => (m4 r hrm).2.2)
              obtain ⟨x, k1, k2⟩ := results_ok (fn := fn) hT g1 hk2.hr (by rw [q4]; exact hvs)
              exact ⟨x, k1, x, rfl, l1, k2, hk2⟩
          · cases h
end Go.Proofs.YtkbmmoobcikbaaaGreatDoor.Ev
