/-
  A FASTER RECKONER: regions that draw their order. No program in sight; no condition.
-/
import Derived.Test.YtcfmohjffnpfpaaGreatDoorEvG1
namespace Go.Proofs.YtcfmohjffnpfpaaGreatDoor.Ev
open Go Go.RowKit

variable {P : Program} {T : Tb} {call : CallF} {N : Nat} {ops : Array Oper} {dm : Tr Nat}
/-! values: below a number; alike -/
noncomputable def belQ (u : AV) : Nat → AV → Bool := @AV.rec (fun _ => Nat → AV → Bool) (fun _ => Unit) (fun _ _ _ => true) (fun _ _ _ _ => true) (fun _ _ _ => true) (fun _ _ => true) (fun b _ n _ => Nat.blt b n) (fun _ _ => true) (fun b _ _ _ n _ => Nat.blt b n) (fun b _ _ _ n _ => Nat.blt b n) (fun n v => belA 1000 n v) (fun _ n v => belA 1000 n v) (fun _ n v => belA 1000 n v) (fun _ _ _ _ _ n v => belA 1000 n v) (fun n v => belA 1000 n v) (fun _ _ _ n v => belA 1000 n v) (fun _ _ => true) (fun _ _ n v => belA 1000 n v) (fun _ _ n v => belA 1000 n v) (fun _ n v => belA 1000 n v) (fun _ n v => belA 1000 n v) () (fun _ _ _ _ => ()) u
theorem belQ_eq (u : AV) (n : Nat) : belQ u n u = belA 1000 n u := by cases u <;> rfl
noncomputable def eqPtr (v : AV) : Nat → Nat → AV → AV → Bool := @AV.rec (fun _ => Nat → Nat → AV → AV → Bool) (fun _ => Unit) (fun _ _ _ u v => eqA 1000 u v) (fun _ _ _ _ u v => eqA 1000 u v) (fun _ _ _ u v => eqA 1000 u v) (fun _ _ u v => eqA 1000 u v) (fun b2 o2 b o _ _ => @Bool.rec (fun _ => Bool) false (Nat.beq o o2) (Nat.beq b b2)) (fun _ _ u v => eqA 1000 u v) (fun _ _ _ _ _ _ u v => eqA 1000 u v) (fun _ _ _ _ _ _ u v => eqA 1000 u v) (fun _ _ u v => eqA 1000 u v) (fun _ _ _ u v => eqA 1000 u v) (fun _ _ _ u v => eqA 1000 u v) (fun _ _ _ _ _ _ _ u v => eqA 1000 u v) (fun _ _ u v => eqA 1000 u v) (fun _ _ _ _ _ u v => eqA 1000 u v) (fun _ _ u v => eqA 1000 u v) (fun _ _ _ _ u v => eqA 1000 u v) (fun _ _ _ _ u v => eqA 1000 u v) (fun _ _ _ u v => eqA 1000 u v) (fun _ _ _ u v => eqA 1000 u v) () (fun _ _ _ _ => ()) v
noncomputable def eqInt (v : AV) : IntKind → Int → AV → AV → Bool := @AV.rec (fun _ => IntKind → Int → AV → AV → Bool) (fun _ => Unit) (fun _ _ _ u v => eqA 1000 u v) (fun k2 n2 k n _ _ => @Bool.rec (fun _ => Bool) false (decide (n = n2)) (kEq k k2)) (fun _ _ _ u v => eqA 1000 u v) (fun _ _ u v => eqA 1000 u v) (fun _ _ _ _ u v => eqA 1000 u v) (fun _ _ u v => eqA 1000 u v) (fun _ _ _ _ _ _ u v => eqA 1000 u v) (fun _ _ _ _ _ _ u v => eqA 1000 u v) (fun _ _ u v => eqA 1000 u v) (fun _ _ _ u v => eqA 1000 u v) (fun _ _ _ u v => eqA 1000 u v) (fun _ _ _ _ _ _ _ u v => eqA 1000 u v) (fun _ _ u v => eqA 1000 u v) (fun _ _ _ _ _ u v => eqA 1000 u v) (fun _ _ u v => eqA 1000 u v) (fun _ _ _ _ u v => eqA 1000 u v) (fun _ _ _ _ u v => eqA 1000 u v) (fun _ _ _ u v => eqA 1000 u v) (fun _ _ _ u v => eqA 1000 u v) () (fun _ _ _ _ => ()) v
noncomputable def eqQ (u : AV) : AV → AV → Bool := @AV.rec (fun _ => AV → AV → Bool) (fun _ => Unit) (fun _ v u => eqA 1000 u v) (fun k n v u => eqInt v k n u v) (fun _ v u => eqA 1000 u v) (fun v u => eqA 1000 u v) (fun b o v u => eqPtr v b o u v) (fun v u => eqA 1000 u v) (fun _ _ _ _ v u => eqA 1000 u v) (fun _ _ _ _ v u => eqA 1000 u v) (fun v u => eqA 1000 u v) (fun _ v u => eqA 1000 u v) (fun _ v u => eqA 1000 u v) (fun _ _ _ _ _ v u => eqA 1000 u v) (fun v u => eqA 1000 u v) (fun _ _ _ v u => eqA 1000 u v) (fun v u => eqA 1000 u v) (fun _ _ v u => eqA 1000 u v) (fun _ _ v u => eqA 1000 u v) (fun _ v u => eqA 1000 u v) (fun _ v u => eqA 1000 u v) () (fun _ _ _ _ => ()) u
theorem eqQ_ok {u v : AV} (h : eqQ u v u = true) : u = v := by
  cases u <;> first | exact eqA_ok (n := 1000) h | skip
  · rename_i k n
    cases v <;> first | exact eqA_ok (n := 1000) h | skip
    rename_i k2 n2
    have h1 : kEq k k2 = true ∧ n = n2 := by
      have h : @Bool.rec (fun _ => Bool) false (decide (n = n2)) (kEq k k2) = true := h
      cases hk : kEq k k2 with
      | false => rw [hk] at h; cases h
      | true => rw [hk] at h; exact ⟨rfl, of_decide_eq_true h⟩
    rw [kEq_ok h1.1, h1.2]
  · rename_i b o
    cases v <;> first | exact eqA_ok (n := 1000) h | skip
    rename_i b2 o2
    have h : @Bool.rec (fun _ => Bool) false (Nat.beq o o2) (Nat.beq b b2) = true := h
    cases hb : Nat.beq b b2 with
    | false => rw [hb] at h; cases h
    | true =>
      rw [hb] at h
      have h : Nat.beq o o2 = true := h
      rw [Nat.eq_of_beq_eq_true hb, Nat.eq_of_beq_eq_true h]
/-! what a region is turned to -/
inductive Kd where
  | r
  | m
  | w
structure WR where
  j : Nat
  mask : Nat
  h : Tr AObj
  h' : Tr AObj
structure RR where
  i : Nat
  mask : Nat
  ins : Ins
  F : Fr
  v : AV
abbrev Pn := List (Nat × Nat × AObj)
abbrev DFn := CallF → Fr → Nat → Tr AObj → Pn → Nat → List WR → List RR → Rs
noncomputable def bitQ (m j : Nat) : Bool := Nat.beq (Nat.mod (Nat.shiftRight m j) 2) 1
theorem bitQ_eq (m j : Nat) : bitQ m j = bit m j := rfl
noncomputable def besQ (T : Tb) (call : CallF) (r : RR) (w : WR) (k : Rs) : Rs := bR (bitQ (RR.mask r) (WR.j w)) k (bR (bitQ (WR.mask w) (RR.i r)) k
  (exec T (RR.ins r) call (RR.F r) ⟨WR.h w, 0⟩ (fun a _ => bR (eqQ a (RR.v r) a) (exec T (RR.ins r) call (RR.F r) ⟨WR.h' w, 0⟩ (fun b _ => bR (eqQ b (RR.v r) b) k .bad)) .bad)))
noncomputable def besAll (T : Tb) (call : CallF) (r : RR) (ws : List WR) (k : Rs) : Rs := @List.rec WR (fun _ => Rs) k (fun w _ ih => besQ T call r w ih) ws
noncomputable def concQ (T : Tb) (call : CallF) (rs : List RR) (ws : List WR) (k : Rs) : Rs := @List.rec RR (fun _ => Rs) k (fun r _ ih => besAll T call r ws ih) rs
structure DL where
  run : DFn
noncomputable def dNil (T : Tb) : DFn := fun call F nx Hc pend _ ws rs => concQ T call rs ws (.ok .normal F ⟨putAll pend Hc, nx⟩)
noncomputable def dBad : DFn := fun _ _ _ _ _ _ _ _ => .bad
noncomputable def dR (i mask : Nat) (ins : Ins) (x : X) (d : Ds) (r : DL) : DFn := fun call F nx Hc pend wm ws rs =>
  X.run x call F ⟨Hc, 0⟩ (fun v _ => bR (belQ v nx v) (DL.run r call (setD d v F) nx Hc pend wm ws (⟨i, mask, ins, F, v⟩ :: rs)) .bad)
noncomputable def optO (x : Option AObj) (q : AObj → Rs) : Rs := @Option.rec AObj (fun _ => Rs) .bad q x
noncomputable def dM (i : Nat) (x : X) (d : Ds) (r : DL) : DFn := fun call F nx Hc pend wm ws rs =>
  X.run x call F ⟨.e, nx⟩ (fun v H' => bR (Nat.beq (Hp.nx H') nx) (DL.run r call (setD d v F) nx Hc pend wm ws rs) (bR (Nat.beq (Hp.nx H') (Nat.succ nx)) (optO (Hp.get H' nx) (fun o => DL.run r call (setD d v F) (Nat.succ nx) Hc ((i, nx, o) :: pend) wm ws rs)) .bad))
noncomputable def dW (i mask : Nat) (x : X) (d : Ds) (r : DL) : DFn := fun call F nx Hc pend wm ws rs =>
  bR (Nat.beq (Nat.land mask wm) wm) (X.run x call F ⟨putP mask pend Hc, nx⟩ (fun v H' => bR (Nat.ble nx (Hp.nx H')) (DL.run r call (setD d v F) (Hp.nx H') (Hp.t H') (waitP mask pend) (Nat.lor wm (Nat.shiftLeft 1 i)) (⟨i, mask, Hc, Hp.t H'⟩ :: ws) rs) .bad)) .bad
noncomputable def dK (T : Tb) (k : Kd) (i mask : Nat) (ins : Ins) (d : Ds) (r : DL) : DL := match k with
  | .r => ⟨dR i mask ins (xOf T ins) d r⟩
  | .m => ⟨dM i (xOf T ins) d r⟩
  | .w => ⟨dW i mask (xOf T ins) d r⟩
noncomputable def dGop (x : Od) (b : Bool) (k : DL) (d : Ds) (r : DL) : DFn := fun call F nx Hc pend wm ws rs =>
  rdO x F (fun u => asGrd u b (DL.run k call F nx Hc pend wm ws rs) (DL.run r call (setD d (.tup []) F) nx Hc pend wm ws rs))
noncomputable def runDL (_ : Tb) (l : DL) : DFn := DL.run l
/-! .. out of its operations -/
noncomputable def mapT (T : Tb) (t : TypeId) : Bool := match T.ty t with
  | some i => match i.und with
    | .slice _ => false
    | .string => false
    | _ => true
  | none => true
noncomputable def strT (T : Tb) (t : TypeId) : Bool := match T.ty t with
  | some i => match i.und with
    | .string => true
    | _ => false
  | none => false
noncomputable def kdOf (T : Tb) (op : Op) : Kd := match op with
  | .load _ _ => .r
  | .lookup _ _ _ _ => .r
  | .move _ => .m
  | .assign _ => .m
  | .pick _ _ _ => .m
  | .alloc _ => .m
  | .box _ _ => .m
  | .build _ _ => .m
  | .buildSlice _ _ _ => .m
  | .nilCheck _ => .m
  | .binOp _ _ _ _ _ => .m
  | .unOp _ _ _ => .m
  | .convert s d _ => match cvtI T s d, strT T s with
    | some _, _ => .m
    | none, true => .m
    | none, false => match strT T d with
      | true => .r
      | false => .w
  | .makeInterface _ _ => .m
  | .makeFunc _ _ _ => .m
  | .makeMap _ _ => .m
  | .makeSlice _ _ _ => .m
  | .slice _ _ _ _ _ => .m
  | .fieldAddr _ _ _ => .m
  | .field _ _ _ => .m
  | .indexAddr _ _ _ => .m
  | .index _ _ _ => .m
  | .extract _ _ => .m
  | .typeAssert _ _ _ _ => .m
  | .call c => match c.callee with
    | .builtin .len => match c.argTypes[0]? with
      | some t => match mapT T t with
        | true => .w
        | false => .m
      | none => .w
    | _ => .w
  | _ => .w
noncomputable def slotsB (dm : Tr Nat) (mask : Nat) : List Tmp → Bool
  | [] => true
  | t :: r => match Nat.blt t 1000 with
    | false => false
    | true => match dm.get t with
      | none => slotsB dm mask r
      | some j => match bit mask j with
        | true => slotsB dm mask r
        | false => false
noncomputable def slotsC (ops : Array Oper) (dm : Tr Nat) (i mask : Nat) (ts : List Tmp) : Bool := match slotsB dm mask ts with
  | true => true
  | false => slotsB dm (augM ops i mask) ts
noncomputable def dlOf (T : Tb) (N : Nat) (ops : Array Oper) (dm : Tr Nat) : List Oper → Nat → Tr Nat → DL
  | [], _, _ => ⟨dNil T⟩
  | o :: r, i, ms => match maskOf ms o.after.toList 0, dsOf N o.dst with
    | some mask, some d => match slotsC ops dm i mask (slotsOf ops o) with
      | false => ⟨dBad⟩
      | true => match o.guard with
        | none => dK T (kdOf T o.op) i mask (insO T o.op) d (dlOf T N ops dm r (i + 1) (ms.set 10 i (some mask)))
        | some (j, b) => match ops[j]?, isSomeB o.dst with
          | some oj, true => match oj.dst with
            | some dj => ⟨dGop (odOf (.tmp dj)) b (dK T (kdOf T o.op) i mask (insO T o.op) d (dlOf T N ops dm r (i + 1) (ms.set 10 i (some mask)))) d (dlOf T N ops dm r (i + 1) (ms.set 10 i (some mask)))⟩
            | none => ⟨dBad⟩
          | _, _ => ⟨dBad⟩
    | _, _ => ⟨dBad⟩
noncomputable def dmR (x : Option (Tr Nat)) (q : Tr Nat → Rs) : Rs := @Option.rec (Tr Nat) (fun _ => Rs) .bad q x
noncomputable def drawF (T : Tb) (N : Nat) (ops : Array Oper) (call : CallF) (F : Fr) (H : Hp) : Rs :=
  dmR (dmOf ops.toList 0 .e) (fun dm => runDL T (dlOf T N ops dm ops.toList 0 .e) call F (Hp.nx H) (Hp.t H) [] 0 [] [])
/-! it is right -/
def AgF (F : Fr) (f : Tr AV) : Prop := ∀ t v, getI F t = some v → f.get t = some v
theorem AgF.tr (F : Fr) : AgF F (trF F) := fun t v h => by rw [trF_eq (getI_lt h)]; exact h
theorem AgF.put {F : Fr} {f : Tr AV} (h : AgF F f) {dst : Option Tmp} {d : Ds} (hd : dsOf N dst = some d) (v : AV) : AgF (setD d v F) (putD f dst v) := by
  cases dst with
  | none => cases hd; exact h
  | some t =>
    have key := (dsOf_set hd v F).2
    obtain ⟨h2, h3⟩ := key
    rw [h3]
    intro i u e
    show (f.set 10 t (some v)).get i = some u
    rw [Tr.set_at 10 f t (some v) i (Nat.lt_of_lt_of_le (Nat.succ_lt_succ h2) (by decide))]
    rcases getI_setI h2 e with ⟨rfl, rfl⟩ | ⟨e1, e2⟩
    · rw [if_pos rfl]
    · rw [if_neg e1]; exact h i u e2
noncomputable def fr00 : Fr := frT .e
theorem dsOf_dst {dst : Option Tmp} {d : Ds} (hd : dsOf N dst = some d) : dstOk N dst = true := by
  cases dst with
  | none => rfl
  | some t =>
    have := (dsOf_set (F := fr00) hd (.bool true)).1
    show Nat.blt t N = true
    exact blt_t this
theorem slotsB_ok {mask : Nat} : ∀ {ts : List Tmp}, slotsB dm mask ts = true → ∀ t ∈ ts, t < 1000 ∧ (dm.get t = none ∨ ∃ j, dm.get t = some j ∧ bit mask j = true)
  | [], _, t, ht => by cases ht
  | x :: r, h, t, ht => by
    unfold slotsB at h
    split at h
    · cases h
    rename_i hx
    have hx : x < 1000 := by simpa [Nat.blt_eq] using hx
    split at h
    · rename_i hn
      rcases List.mem_cons.1 ht with rfl | ht
      · exact ⟨hx, .inl hn⟩
      · exact slotsB_ok h t ht
    · rename_i j hj
      split at h
      · rename_i hb
        rcases List.mem_cons.1 ht with rfl | ht
        · exact ⟨hx, .inr ⟨j, hj, hb⟩⟩
        · exact slotsB_ok h t ht
      · cases h
theorem slotsB_le {m m' : Nat} (hm : ∀ j, bit m j = true → bit m' j = true) : ∀ {ts : List Tmp}, slotsB dm m ts = true → slotsB dm m' ts = true
  | [], _ => rfl
  | t :: r, h => by
    unfold slotsB at h ⊢
    cases ht : Nat.blt t 1000 with
    | false => rw [ht] at h; cases h
    | true =>
      rw [ht] at h
      simp only at h ⊢
      cases hd : dm.get t with
      | none => rw [hd] at h; exact slotsB_le hm h
      | some j =>
        rw [hd] at h
        simp only at h ⊢
        cases hb : bit m j with
        | false => rw [hb] at h; cases h
        | true => rw [hb] at h; rw [hm j hb]; exact slotsB_le hm h
theorem slotsC_ok {i mask : Nat} {ts : List Tmp} (h : slotsC ops dm i mask ts = true) : slotsB dm (augM ops i mask) ts = true := by
  unfold slotsC at h
  split at h
  · rename_i h1
    exact slotsB_le (fun j hj => lateM_le hj) h1
  · exact h
theorem mono_fo {F : Fr} {f : Tr AV} (h : AgF F f) {mask : Nat} {o : Oper} (hs : slotsB dm mask (slotsOf ops o) = true) : Mono (trF F) (frameO dm mask f (slotsOf ops o) .e) o.op.operands.toList := by
  have hk := slotsB_ok hs
  intro x hx v hv
  cases x with
  | tmp t =>
    have hv : (trF F).get t = some v := hv
    have ht : t ∈ slotsOf ops o := by
      unfold slotsOf Oper.looksAt
      exact List.mem_append.2 (.inl (List.mem_filterMap.2 ⟨_, hx, rfl⟩))
    exact frameO_has (fun y hy => (hk y hy).1) (.inl ht) (h t v (trF_get hv)) (hk t ht).2
  | const c => exact hv
  | global g => exact hv
  | func g => exact hv
theorem want_fo {F : Fr} {f : Tr AV} (h : AgF F f) {mask : Nat} {o : Oper} (hs : slotsB dm mask (slotsOf ops o) = true) {j : Nat} {b : Bool} (hg : o.guard = some (j, b)) {oj : Oper} (hj : ops[j]? = some oj) {dj : Tmp} (hd : oj.dst = some dj) {u : AV} (hu : getO (odOf (.tmp dj)) F = some u) :
    (frameO dm mask f (slotsOf ops o) .e).get dj = some u := by
  have hk := slotsB_ok hs
  have hv : (trF F).get dj = some u := getO_ok hu
  have ht : dj ∈ slotsOf ops o := by
    unfold slotsOf Oper.looksAt
    refine List.mem_append.2 (.inr ?_)
    rw [hg]
    simp [hj, hd]
  exact frameO_has (fun y hy => (hk y hy).1) (.inl ht) (h dj u (trF_get hv)) (hk dj ht).2
theorem stringV_R {H H' : Hp} {s d : TypeId} {a v : AV} (h1 : stringV T H s d a = some (v, H')) : stringR T H s d a = some v := by
  unfold stringV at h1
  split at h1
  · rename_i el _ _ _ _ _ _ _ _ hs hd
    split at h1
    · rename_i hel
      split at h1
      · rename_i cs hcs
        split at h1
        · rename_i r hr
          cases h1
          unfold stringR
          simp only [hs, hd, hel]
          rw [hcs]
          simp only [hr]
        · cases h1
      · cases h1
    · cases h1
  · cases h1
theorem convHV_str {H H' : Hp} {s d : TypeId} {a v : AV} (hd : strT T d = true) (e : convHV T H T.lo s d a = some (v, H')) : stringR T H s d a = some v := by
  unfold strT at hd
  split at hd
  · rename_i i hi
    split at hd
    · rename_i hu
      unfold convHV at e
      split at e
      · rename_i h1
        cases e
        unfold bytesV at h1
        split at h1
        · rename_i h2
          rw [hi] at h2
          cases h2
          cases hu
        · cases h1
      · split at e
        · rename_i h1
          cases e
          exact stringV_R h1
        · unfold markV at e
          split at e
          · rename_i h2 _
            rw [hi] at h2
            cases h2
            cases hu
          · cases e
    · cases hd
  · cases hd
theorem rop_of {f : Tr AV} {op : Op} {h : Tr AObj} {v : AV} {H' : Hp} (hk : kdOf T op = .r) (e : opV T call f ⟨h, 0⟩ op = some (v, H')) : ropV T f h op = some v := by
  cases op with
  | load t x =>
    simp only [opV, vop] at e
    unfold ropV
    simp only
    split at e
    · rename_i b o hb
      simp only [hb]
      exact (keep_ok e).1
    · cases e
  | lookup t x k ok =>
    simp only [opV, vop] at e
    unfold ropV
    simp only
    split at e
    · rename_i x y hx hy
      simp only [hx, hy]
      exact (keep_ok e).1
    · cases e
  | convert s d x =>
    have hd : strT T d = true := by
      unfold kdOf at hk
      simp only at hk
      split at hk
      · cases hk
      · cases hk
      · split at hk
        · assumption
        · cases hk
    simp only [opV, vop] at e
    unfold ropV
    simp only
    split at e
    · rename_i a ha
      simp only [ha]
      split at e
      · rename_i u hc
        cases e
        simp only [hc]
      · rename_i hc
        simp only [hc]
        exact convHV_str hd e
    · cases e
  | _ =>
    unfold kdOf at hk
    simp only at hk
    first
      | cases hk
      | ((repeat' split at hk) <;> cases hk)
theorem vop_of {f : Tr AV} {op : Op} {H : Hp} (hk : kdOf T op = .m) : opV T call f H op = vop T T.lo f H op := by
  cases op with
  | call c =>
    unfold kdOf at hk
    simp only at hk
    split at hk
    · rename_i hc
      unfold opV
      simp only [hc]
    · cases hk
  | _ => rfl
/-- What the fast pass has met, beside the reckoner's states. -/
structure Met (T : Tb) (call : CallF) (ops : Array Oper) (dm : Tr Nat) (i : Nat) (S : Nat → PS) (ws : List WR) (rs : List RR) : Prop where
  w : ∀ k o, i ≤ k → ops[k]? = some o → (S (k + 1)).info.cl = .W → ⟨k, (S (k + 1)).info.mask, (S k).Hc, (S (k + 1)).Hc⟩ ∈ ws
  r : ∀ k o, i ≤ k → ops[k]? = some o → (S (k + 1)).info.cl = .R → ∃ F, ⟨k, (S (k + 1)).info.mask, insO T o.op, F, (S (k + 1)).info.v⟩ ∈ rs ∧ Mono (trF F) (S (k + 1)).info.fo o.op.operands.toList ∧ kdOf T o.op = .r
def StepR (T : Tb) (call : CallF) (N : Nat) (ops : Array Oper) (dm : Tr Nat) (S : Nat → PS) (i : Nat) (o : Oper) : Prop := ∃ s', dstOk N o.dst = true ∧ maskOf (S i).ms o.after.toList 0 = some (S (i + 1)).info.mask ∧
    DoR T call ops (S i) i (S (i + 1)).info.mask (S (i + 1)).info.fo o (S (i + 1)).info.v s' ∧ (S (i + 1)).info.fo = frameO dm (augM ops i (S (i + 1)).info.mask) (S i).f (slotsOf ops o) .e ∧
    S (i + 1) = { s' with f := putD (S i).f o.dst (S (i + 1)).info.v, ms := (S i).ms.set 10 i (some (S (i + 1)).info.mask) }
/-- What a suffix of the pass gives. -/
def Past (T : Tb) (call : CallF) (N : Nat) (ops : Array Oper) (dm : Tr Nat) (i : Nat) (s : PS) (ws : List WR) (rs : List RR) (F' : Fr) (H' : Hp) : Prop :=
  ∃ (S : Nat → PS) (ws' : List WR) (rs' : List RR) (k : Rs), S i = s ∧ (∀ j o, i ≤ j → ops[j]? = some o → StepR T call N ops dm S j o) ∧ AgF F' (S ops.size).f ∧ H' = ⟨putAll (S ops.size).pend (S ops.size).Hc, (S ops.size).nx⟩ ∧
    k = .ok .normal F' H' ∧ concQ T call rs' ws' k = .ok .normal F' H' ∧ (∀ x ∈ ws, x ∈ ws') ∧ (∀ x ∈ rs, x ∈ rs') ∧ Met T call ops dm i S ws' rs' ∧ ∀ x ∈ rs', ∃ op, XOkO T op x.ins
theorem Past.step {i : Nat} {s : PS} {ws : List WR} {rs : List RR} {F' : Fr} {H' : Hp} {o : Oper} (ho : ops[i]? = some o) {s' s1 : PS} {mask : Nat} {fo : Tr AV} {v : AV} (hd : dstOk N o.dst = true) (hm : maskOf s.ms o.after.toList 0 = some mask) (hfo : fo = frameO dm (augM ops i mask) s.f (slotsOf ops o) .e)
    (hR : DoR T call ops s i mask fo o v s') (h1 : s1 = { s' with f := putD s.f o.dst v, ms := s.ms.set 10 i (some mask) }) {ws1 : List WR} {rs1 : List RR} (hws : ∀ x ∈ ws, x ∈ ws1) (hrs : ∀ x ∈ rs, x ∈ rs1)
    (hw : s'.info.cl = .W → ⟨i, mask, s.Hc, s'.Hc⟩ ∈ ws1) (hr : s'.info.cl = .R → ∃ F, ⟨i, mask, insO T o.op, F, v⟩ ∈ rs1 ∧ Mono (trF F) fo o.op.operands.toList ∧ kdOf T o.op = .r)
    (h : Past T call N ops dm (i + 1) s1 ws1 rs1 F' H') : Past T call N ops dm i s ws rs F' H' := by
  obtain ⟨S, ws', rs', k, q1, q2, q3, q4, q5, q6, q7, q8, q9, q10⟩ := h
  have hi : i < ops.size := (Array.getElem?_eq_some_iff.1 ho).1
  have hs' := hR.info
  obtain ⟨S2, e0, eo⟩ : ∃ S2 : Nat → PS, S2 i = s ∧ ∀ j, i + 1 ≤ j → S2 j = S j := ⟨fun k => if k = i then s else S k, by simp, fun j hj => by simp; intro e; omega⟩
  have e1 : S2 (i + 1) = s1 := by rw [eo _ (Nat.le_refl _), q1]
  have en : S2 ops.size = S ops.size := eo _ hi
  have i1 : s1.info = s'.info := by rw [h1]
  have i2 : s1.Hc = s'.Hc := by rw [h1]
  refine ⟨S2, ws', rs', k, e0, fun j oj hj hoj => ?_, by rw [en]; exact q3, by rw [en]; exact q4, q5, q6, fun x hx => q7 x (hws x hx), fun x hx => q8 x (hrs x hx), ⟨fun j oj hj hoj hc => ?_, fun j oj hj hoj hc => ?_⟩, q10⟩
  · by_cases e : j = i
    · subst e
      rw [ho] at hoj; cases hoj
      unfold StepR
      rw [e1, e0, i1, hs'.1, hs'.2.1, hs'.2.2]
      exact ⟨s', hd, hm, hR, hfo, h1⟩
    · have := q2 j oj (by omega) hoj
      unfold StepR at this ⊢
      rw [eo j (by omega), eo (j + 1) (by omega)]; exact this
  · by_cases e : j = i
    · subst e
      rw [e1] at hc ⊢
      rw [e0, i1, i2, hs'.1]
      rw [i1] at hc
      exact q7 _ (hw hc)
    · rw [eo (j + 1) (by omega)] at hc ⊢
      rw [eo j (by omega)]
      exact q9.w j oj (by omega) hoj hc
  · by_cases e : j = i
    · subst e
      rw [ho] at hoj; cases hoj
      rw [e1] at hc ⊢
      rw [i1, hs'.1, hs'.2.1, hs'.2.2]
      rw [i1] at hc
      obtain ⟨F, g1, g2⟩ := hr hc
      exact ⟨F, q8 _ g1, g2⟩
    · rw [eo (j + 1) (by omega)] at hc ⊢
      exact q9.r j oj (by omega) hoj hc
theorem besQ_ok {r : RR} {w : WR} {k : Rs} {e : Ex} {F' : Fr} {H' : Hp} {op : Op} (hx : XOkO T op r.ins) (h : besQ T call r w k = .ok e F' H') : k = .ok e F' H' ∧ (bit r.mask w.j = false → bit w.mask r.i = false → (∃ H1, opV T call (trF r.F) ⟨w.h, 0⟩ op = some (r.v, H1)) ∧ ∃ H2, opV T call (trF r.F) ⟨w.h', 0⟩ op = some (r.v, H2)) := by
  unfold besQ at h
  rw [bitQ_eq, bitQ_eq] at h
  cases h1 : bit r.mask w.j with
  | true => rw [h1] at h; exact ⟨h, fun e => by cases e⟩
  | false =>
    rw [h1, bR_f] at h
    cases h2 : bit w.mask r.i with
    | true => rw [h2] at h; exact ⟨h, fun _ e => by cases e⟩
    | false =>
      rw [h2, bR_f] at h
      rcases hx call r.F ⟨w.h, 0⟩ (fun a _ => bR (eqQ a r.v a) (exec T r.ins call r.F ⟨w.h', 0⟩ (fun b _ => bR (eqQ b r.v b) k .bad)) .bad) with h3 | ⟨a, H1, h3, h4⟩
      · rw [h3] at h; exact Rs.ok_bad h
      rw [h4] at h
      cases h5 : eqQ a r.v a with
      | false => rw [h5] at h; exact Rs.ok_bad h
      | true =>
        rw [h5, bR_t] at h
        have ea := eqQ_ok h5
        subst ea
        rcases hx call r.F ⟨w.h', 0⟩ (fun b _ => bR (eqQ b r.v b) k .bad) with h6 | ⟨b, H2, h6, h7⟩
        · rw [h6] at h; exact Rs.ok_bad h
        rw [h7] at h
        cases h8 : eqQ b r.v b with
        | false => rw [h8] at h; exact Rs.ok_bad h
        | true =>
          rw [h8, bR_t] at h
          have eb := eqQ_ok h8
          rw [eb] at h6
          exact ⟨h, fun _ _ => ⟨⟨H1, h3⟩, H2, h6⟩⟩
theorem besAll_ok {r : RR} {op : Op} (hx : XOkO T op r.ins) : ∀ {ws : List WR} {k : Rs} {e : Ex} {F' : Fr} {H' : Hp}, besAll T call r ws k = .ok e F' H' → k = .ok e F' H' ∧ ∀ w ∈ ws, bit r.mask w.j = false → bit w.mask r.i = false → (∃ H1, opV T call (trF r.F) ⟨w.h, 0⟩ op = some (r.v, H1)) ∧ ∃ H2, opV T call (trF r.F) ⟨w.h', 0⟩ op = some (r.v, H2)
  | [], k, e, F', H', h => ⟨h, fun w hw => by cases hw⟩
  | w :: ws, k, e, F', H', h => by
    have h : besQ T call r w (besAll T call r ws k) = .ok e F' H' := h
    obtain ⟨h1, h2⟩ := besQ_ok hx h
    obtain ⟨h3, h4⟩ := besAll_ok hx h1
    refine ⟨h3, fun w' hw' => ?_⟩
    rcases List.mem_cons.1 hw' with rfl | hw'
    · exact h2
    · exact h4 w' hw'
theorem concQ_ok : ∀ {rs : List RR} {ws : List WR} {k : Rs} {e : Ex} {F' : Fr} {H' : Hp}, (∀ r ∈ rs, ∃ op, XOkO T op r.ins) → concQ T call rs ws k = .ok e F' H' → k = .ok e F' H' ∧ ∀ r ∈ rs, ∀ op, XOkO T op r.ins → ∀ w ∈ ws, bit r.mask w.j = false → bit w.mask r.i = false → (∃ H1, opV T call (trF r.F) ⟨w.h, 0⟩ op = some (r.v, H1)) ∧ ∃ H2, opV T call (trF r.F) ⟨w.h', 0⟩ op = some (r.v, H2)
  | [], ws, k, e, F', H', _, h => ⟨h, fun r hr => by cases hr⟩
  | r :: rs, ws, k, e, F', H', hx, h => by
    have h : besAll T call r ws (concQ T call rs ws k) = .ok e F' H' := h
    obtain ⟨op0, hx0⟩ := hx r (by simp)
    obtain ⟨h1, -⟩ := besAll_ok hx0 h
    obtain ⟨h3, h4⟩ := concQ_ok (fun r' hr' => hx r' (by simp [hr'])) h1
    refine ⟨h3, fun r' hr' op hop => ?_⟩
    rcases List.mem_cons.1 hr' with rfl | hr'
    · exact (besAll_ok hop h).2
    · exact h4 r' hr' op hop
theorem runDL_ok : ∀ {r : List Oper} {i : Nat} {F F' : Fr} {pend : Pn} {wm : Nat} {ws : List WR} {rs : List RR} {s : PS} {ex : Ex} {H' : Hp}, (∀ j, r[j]? = ops[i + j]?) → i + r.length = ops.size → (∀ x ∈ rs, ∃ op, XOkO T op x.ins) →
    s.pend = pend → s.wm = wm → AgF F s.f → runDL T (dlOf T N ops dm r i s.ms) call F s.nx s.Hc pend wm ws rs = .ok ex F' H' → ex = .normal ∧ Past T call N ops dm i s ws rs F' H'
  | [], i, F, F', pend, wm, ws, rs, s, ex, H', hk, hn, hx, h1, h2, h3, h => by
    have h : concQ T call rs ws (.ok .normal F ⟨putAll pend s.Hc, s.nx⟩) = .ok ex F' H' := h
    obtain ⟨h4, -⟩ := concQ_ok hx h
    cases h4
    have hn : i = ops.size := by simpa using hn
    refine ⟨rfl, fun _ => s, ws, rs, .ok .normal F ⟨putAll pend s.Hc, s.nx⟩, rfl, fun j o hj ho => ?_, h3, by rw [h1], rfl, h, fun x hx => hx, fun x hx => hx, ⟨fun j o hj ho => ?_, fun j o hj ho => ?_⟩, hx⟩
    all_goals (have := (Array.getElem?_eq_some_iff.1 ho).1; omega)
  | o :: r, i, F, F', pend, wm, ws, rs, s, ex, H', hk, hn, hx, h1, h2, h3, h => by
    have ho : ops[i]? = some o := by simpa using (hk 0).symm
    have hk' : ∀ j, r[j]? = ops[(i + 1) + j]? := fun j => by have := hk (j + 1); simpa [Nat.add_assoc, Nat.add_comm 1 j] using this
    have hn' : (i + 1) + r.length = ops.size := by simpa [Nat.add_assoc, Nat.add_comm 1 r.length] using hn
    unfold dlOf at h
    split at h
    case h_2 => exact Rs.ok_bad h
    rename_i mask d hmask hd
    split at h
    · exact Rs.ok_bad h
    rename_i hs
    replace hs := slotsC_ok hs
    obtain ⟨fo, hfo⟩ : ∃ fo, fo = frameO dm (augM ops i mask) s.f (slotsOf ops o) .e := ⟨_, rfl⟩
    have hmono : Mono (trF F) fo o.op.operands.toList := by rw [hfo]; exact mono_fo h3 hs
    have hXO := insO_ok T o.op
    have run : wantV ops fo o = some true → runDL T (dK T (kdOf T o.op) i mask (insO T o.op) d (dlOf T N ops dm r (i + 1) (s.ms.set 10 i (some mask)))) call F s.nx s.Hc pend wm ws rs = .ok ex F' H' → ex = .normal ∧ Past T call N ops dm i s ws rs F' H' := by
      intro hw h
      cases hkd : kdOf T o.op with
      | r =>
        rw [hkd] at h
        have h : (xOf T (insO T o.op)).run call F ⟨s.Hc, 0⟩ (fun v _ => bR (belQ v s.nx v) (runDL T (dlOf T N ops dm r (i + 1) (s.ms.set 10 i (some mask))) call (setD d v F) s.nx s.Hc pend wm ws (⟨i, mask, insO T o.op, F, v⟩ :: rs)) .bad) = .ok ex F' H' := h
        rw [xOf_eq] at h
        rcases hXO call F ⟨s.Hc, 0⟩ (fun v _ => bR (belQ v s.nx v) (runDL T (dlOf T N ops dm r (i + 1) (s.ms.set 10 i (some mask))) call (setD d v F) s.nx s.Hc pend wm ws (⟨i, mask, insO T o.op, F, v⟩ :: rs)) .bad) with g | ⟨v, H1, g1, g2⟩
        · rw [g] at h; exact Rs.ok_bad h
        rw [g2] at h
        cases hb : belQ v s.nx v with
        | false => rw [hb] at h; exact Rs.ok_bad h
        | true =>
          rw [hb, bR_t] at h
          rw [belQ_eq] at hb
          have hrop := rop_of hkd (opV_mono hmono g1)
          have hR := DoR.R (T := T) (call := call) (s := s) (i := i) (mask := mask) hw hrop hb
          obtain ⟨k1, k2⟩ := runDL_ok (s := { s with info := ⟨mask, fo, .R, v, none⟩, f := putD s.f o.dst v, ms := s.ms.set 10 i (some mask) }) hk' hn' (fun x hxm => by
            rcases List.mem_cons.1 hxm with rfl | hxm
            · exact ⟨o.op, hXO⟩
            · exact hx x hxm) h1 h2 (h3.put hd v) h
          refine ⟨k1, Past.step ho (dsOf_dst hd) hmask hfo hR rfl (fun x hx => hx) (fun x hx => List.mem_cons_of_mem _ hx) (fun e => by cases e) (fun _ => ⟨F, List.mem_cons_self, hmono, hkd⟩) k2⟩
      | m =>
        rw [hkd] at h
        have h : (xOf T (insO T o.op)).run call F ⟨.e, s.nx⟩ (fun v H' => bR (Nat.beq (Hp.nx H') s.nx) (runDL T (dlOf T N ops dm r (i + 1) (s.ms.set 10 i (some mask))) call (setD d v F) s.nx s.Hc pend wm ws rs) (bR (Nat.beq (Hp.nx H') (Nat.succ s.nx)) (optO (Hp.get H' s.nx) (fun o => runDL T (dlOf T N ops dm r (i + 1) (s.ms.set 10 i (some mask))) call (setD d v F) (Nat.succ s.nx) s.Hc ((i, s.nx, o) :: pend) wm ws rs)) .bad)) = .ok ex F' H' := h
        rw [xOf_eq] at h
        rcases hXO call F ⟨.e, s.nx⟩ (fun v H' => bR (Nat.beq (Hp.nx H') s.nx) (runDL T (dlOf T N ops dm r (i + 1) (s.ms.set 10 i (some mask))) call (setD d v F) s.nx s.Hc pend wm ws rs) (bR (Nat.beq (Hp.nx H') (Nat.succ s.nx)) (optO (Hp.get H' s.nx) (fun o => runDL T (dlOf T N ops dm r (i + 1) (s.ms.set 10 i (some mask))) call (setD d v F) (Nat.succ s.nx) s.Hc ((i, s.nx, o) :: pend) wm ws rs)) .bad)) with g | ⟨v, H1, g1, g2⟩
        · rw [g] at h; exact Rs.ok_bad h
        rw [g2] at h
        have hv : vop T T.lo fo ⟨.e, s.nx⟩ o.op = some (v, H1) := by rw [← vop_of (call := call) hkd]; exact opV_mono hmono g1
        cases hb : Nat.beq (Hp.nx H1) s.nx with
        | true =>
          rw [hb, bR_t] at h
          have hR := DoR.M (T := T) (call := call) (s := s) (i := i) (mask := mask) hw hv (Nat.eq_of_beq_eq_true hb)
          obtain ⟨k1, k2⟩ := runDL_ok (s := { s with info := ⟨mask, fo, .M, v, none⟩, f := putD s.f o.dst v, ms := s.ms.set 10 i (some mask) }) hk' hn' hx h1 h2 (h3.put hd v) h
          exact ⟨k1, Past.step ho (dsOf_dst hd) hmask hfo hR rfl (fun x hx => hx) (fun x hx => hx) (fun e => by cases e) (fun e => by cases e) k2⟩
        | false =>
          rw [hb, bR_f] at h
          cases hb2 : Nat.beq (Hp.nx H1) (Nat.succ s.nx) with
          | false => rw [hb2] at h; exact Rs.ok_bad h
          | true =>
            rw [hb2, bR_t] at h
            cases hx1 : Hp.get H1 s.nx with
            | none => rw [hx1] at h; exact Rs.ok_bad h
            | some x1 =>
              rw [hx1] at h
              have h : runDL T (dlOf T N ops dm r (i + 1) (s.ms.set 10 i (some mask))) call (setD d v F) (s.nx + 1) s.Hc ((i, s.nx, x1) :: pend) wm ws rs = .ok ex F' H' := h
              have hR := DoR.B (T := T) (call := call) (s := s) (i := i) (mask := mask) hw hv (Nat.eq_of_beq_eq_true hb2) hx1
              obtain ⟨k1, k2⟩ := runDL_ok (s := { s with nx := s.nx + 1, pend := (i, s.nx, x1) :: s.pend, info := ⟨mask, fo, .M, v, some x1⟩, f := putD s.f o.dst v, ms := s.ms.set 10 i (some mask) }) hk' hn' hx (by rw [h1]) h2 (h3.put hd v) h
              exact ⟨k1, Past.step ho (dsOf_dst hd) hmask hfo hR rfl (fun x hx => hx) (fun x hx => hx) (fun e => by cases e) (fun e => by cases e) k2⟩
      | w =>
        rw [hkd] at h
        have h : bR (Nat.beq (Nat.land mask wm) wm) ((xOf T (insO T o.op)).run call F ⟨putP mask pend s.Hc, s.nx⟩ (fun v H' => bR (Nat.ble s.nx (Hp.nx H')) (runDL T (dlOf T N ops dm r (i + 1) (s.ms.set 10 i (some mask))) call (setD d v F) (Hp.nx H') (Hp.t H') (waitP mask pend) (Nat.lor wm (Nat.shiftLeft 1 i)) (⟨i, mask, s.Hc, Hp.t H'⟩ :: ws) rs) .bad)) .bad = .ok ex F' H' := h
        rw [xOf_eq] at h
        cases hb : Nat.beq (Nat.land mask wm) wm with
        | false => rw [hb] at h; exact Rs.ok_bad h
        | true =>
          rw [hb, bR_t] at h
          rcases hXO call F ⟨putP mask pend s.Hc, s.nx⟩ (fun v H' => bR (Nat.ble s.nx (Hp.nx H')) (runDL T (dlOf T N ops dm r (i + 1) (s.ms.set 10 i (some mask))) call (setD d v F) (Hp.nx H') (Hp.t H') (waitP mask pend) (Nat.lor wm (Nat.shiftLeft 1 i)) (⟨i, mask, s.Hc, Hp.t H'⟩ :: ws) rs) .bad) with g | ⟨v, H1, g1, g2⟩
          · rw [g] at h; exact Rs.ok_bad h
          rw [g2] at h
          cases hl : Nat.ble s.nx (Hp.nx H1) with
          | false => rw [hl] at h; exact Rs.ok_bad h
          | true =>
            rw [hl, bR_t] at h
            have hR := DoR.W (T := T) (call := call) (s := s) (i := i) (mask := mask) (fo := fo) hw (by rw [h2]; exact Nat.eq_of_beq_eq_true hb) (Nat.le_of_ble_eq_true hl) (by rw [h1]; exact opV_mono hmono g1)
            obtain ⟨k1, k2⟩ := runDL_ok (s := { s with nx := H1.nx, Hc := H1.t, cm := s.cm ||| mask, wm := s.wm ||| 1 <<< i, pend := waitP mask s.pend, info := ⟨mask, fo, .W, v, none⟩, f := putD s.f o.dst v, ms := s.ms.set 10 i (some mask) }) hk' hn' hx (by rw [h1]) (by rw [h2]; rfl) (h3.put hd v) h
            exact ⟨k1, Past.step ho (dsOf_dst hd) hmask hfo hR rfl (fun x hx => List.mem_cons_of_mem _ hx) (fun x hx => hx) (fun _ => List.mem_cons_self) (fun e => by cases e) k2⟩
    split at h
    · rename_i hg
      exact run (by unfold wantV; rw [hg]) h
    · rename_i j b hg
      split at h
      · rename_i oj hoj hsb
        split at h
        · rename_i dj hdj
          have h : rdO (odOf (.tmp dj)) F (fun u => asGrd u b (runDL T (dK T (kdOf T o.op) i mask (insO T o.op) d (dlOf T N ops dm r (i + 1) (s.ms.set 10 i (some mask)))) call F s.nx s.Hc pend wm ws rs) (runDL T (dlOf T N ops dm r (i + 1) (s.ms.set 10 i (some mask))) call (setD d (.tup []) F) s.nx s.Hc pend wm ws rs)) = .ok ex F' H' := h
          rw [rdO_eq] at h
          rcases wv_ok (getO (odOf (.tmp dj)) F) (fun u => asGrd u b (runDL T (dK T (kdOf T o.op) i mask (insO T o.op) d (dlOf T N ops dm r (i + 1) (s.ms.set 10 i (some mask)))) call F s.nx s.Hc pend wm ws rs) (runDL T (dlOf T N ops dm r (i + 1) (s.ms.set 10 i (some mask))) call (setD d (.tup []) F) s.nx s.Hc pend wm ws rs)) with g | ⟨u, hu, g⟩
          · rw [g] at h; exact Rs.ok_bad h
          rw [g] at h
          have hfu : fo.get dj = some u := by rw [hfo]; exact want_fo h3 hs hg hoj hdj hu
          have skip : wantV ops fo o = some false → runDL T (dlOf T N ops dm r (i + 1) (s.ms.set 10 i (some mask))) call (setD d (.tup []) F) s.nx s.Hc pend wm ws rs = .ok ex F' H' → ex = .normal ∧ Past T call N ops dm i s ws rs F' H' := fun hw h => by
            have hR := DoR.U (T := T) (call := call) (s := s) (i := i) (mask := mask) hw hsb
            obtain ⟨k1, k2⟩ := runDL_ok (s := { s with info := ⟨mask, fo, .U, .tup [], none⟩, f := putD s.f o.dst (.tup []), ms := s.ms.set 10 i (some mask) }) hk' hn' hx h1 h2 (h3.put hd (.tup [])) h
            exact ⟨k1, Past.step ho (dsOf_dst hd) hmask hfo hR rfl (fun x hx => hx) (fun x hx => hx) (fun e => by cases e) (fun e => by cases e) k2⟩
          rcases asGrd_ok u b (runDL T (dK T (kdOf T o.op) i mask (insO T o.op) d (dlOf T N ops dm r (i + 1) (s.ms.set 10 i (some mask)))) call F s.nx s.Hc pend wm ws rs) (runDL T (dlOf T N ops dm r (i + 1) (s.ms.set 10 i (some mask))) call (setD d (.tup []) F) s.nx s.Hc pend wm ws rs) with g | ⟨x, rfl, g⟩ | ⟨⟨q, rfl⟩, g⟩
          · rw [g] at h; exact Rs.ok_bad h
          · rw [g] at h
            have hw : wantV ops fo o = some (x == b) := by unfold wantV; rw [hg]; simp only [hoj, hdj, hfu]
            cases hxb : (x == b) with
            | true => rw [hxb] at h hw; exact run hw h
            | false => rw [hxb] at h hw; exact skip hw h
          · rw [g] at h
            exact skip (by unfold wantV; rw [hg]; simp only [hoj, hdj, hfu]) h
        · exact Rs.ok_bad h
      · exact Rs.ok_bad h
theorem drawF_ok (hT : TbOk P T) (hcall : CallOk P T call) {F F' : Fr} {H H' : Hp} {ex : Ex} (h : drawF T N ops call F H = .ok ex F' H') {Ds : List Deferred} {l : Env} {a : Act} {w : World} {Q : Exit → Act → World → Prop} {id : Nat} (hf : FRF N Ds l F a) (hr : HR T.sz l H w)
    (hQ : ∀ l' a' w', FRF N Ds l' F' a' → Kp T.sz T.lo l H w l' H' w' → Q .normal a' w') : ex = .normal ∧ (Code.region id ops true).wp P Q a w := by
  unfold drawF at h
  cases hdm : dmOf ops.toList 0 .e with
  | none => rw [hdm] at h; exact Rs.ok_bad h
  | some dm =>
    rw [hdm] at h
    have h : runDL T (dlOf T N ops dm ops.toList 0 (s0 (trF F) H).ms) call F (s0 (trF F) H).nx (s0 (trF F) H).Hc [] 0 [] [] = .ok ex F' H' := h
    obtain ⟨h0, S, ws', rs', k, q1, q2, q3, q4, q5, q6, -, -, q9, q10⟩ := runDL_ok (s := s0 (trF F) H) (i := 0) (fun j => by simp) (by simp) (fun x hx => by cases hx) rfl rfl (AgF.tr F) h
    refine ⟨h0, draw_run hT hcall hdm q1 (f := trF F) ⟨fun i o ho => q2 i o (Nat.zero_le _) ho⟩ ?_ hf.fr hr fun l' a' w' g1 g2 => hQ l' a' w' ⟨g1.size, fun i v e => g1.get i v (q3 i v e), g1.defers, g1.glob⟩ (by rw [q4]; exact g2)⟩
    intro i o j ho hj ci cj h1 h2
    obtain ⟨F1, m1, m2, m3⟩ := q9.r i o (Nat.zero_le _) ho ci
    have m4 := q9.w j _ (Nat.zero_le _) (Array.getElem?_eq_getElem hj) cj
    obtain ⟨⟨H1, g1⟩, H2, g2⟩ := (concQ_ok q10 q6).2 _ m1 o.op (insO_ok T o.op) _ m4 h1 h2
    exact ⟨rop_of m3 (opV_mono m2 g1), rop_of m3 (opV_mono m2 g2)⟩
end Go.Proofs.YtcfmohjffnpfpaaGreatDoor.Ev
