/-
  A RECKONER OF CLOSED CALLS, TENTH PART: what one operation gives. No program in sight; no condition.
-/
import Derived.Test.YtbjpkfaiofkmdaaGreatDoorEvApp
namespace Go.Proofs.YtbjpkfaiofkmdaaGreatDoor.Ev
open Go Go.RowKit

variable {P : Program} {T : Tb} {lo : Nat} {l : Env} {H : Hp} {w : World} {f : Tr AV} {ρ : Operand → Value}

def pickO (f : Tr AV) (x : Operand) (H : Hp) : Option (AV × Hp) := match evalO f x with
  | some v => some (v, H)
  | none => none
def keep (H : Hp) : Option AV → Option (AV × Hp)
  | some v => some (v, H)
  | none => none
def natO (f : Tr AV) : Option Operand → Option (Option Nat)
  | none => some none
  | some x => match evalO f x with
    | none => none
    | some v => match natV v with
      | some n => some (some n)
      | none => none
def checkable : AV → Bool
  | .ptr _ _ => true
  | .ifc _ _ => true
  | .fn (.func _) _ _ => true
  | .sl _ _ _ _ => true
  | _ => false
def checkM (T : Tb) : AV → Bool
  | .fn (.method n) (.ifc t _ :: _) _ => match T.mth t n with
    | some _ => true
    | none => false
  | .slo _ _ _ _ => true
  | _ => false
def noIface : TypeDesc → Bool
  | .interface _ => false
  | _ => true
def builtinV (T : Tb) (H : Hp) (lo : Nat) (b : Builtin) (ts : Array TypeId) (args : List AV) : Option (AV × Hp) :=
  match b with
  | .len => match ts[0]?, args with
    | some t, [x] => match lenV T H t x with
      | some n => some (.int .i64 (.ofNat n), H)
      | none => match lenCV T H t x with
        | some n => some (.int .i64 (.ofNat n), H)
        | none => none
    | _, _ => none
  | .cap => match ts[0]?, args with
    | some t, [x] => match capV T t x with
      | some n => some (.int .i64 (.ofNat n), H)
      | none => none
    | _, _ => none
  | .unsafeString => match ts, args with
    | ⟨[t, _]⟩, [x, n] => unsafeStrV T H lo t x n
    | _, _ => none
  | .copy => match ts[0]?, args with
    | some t, [x, y] => copyV T H lo t x y
    | _, _ => none
  | .clear => match ts[0]?, args with
    | some t, [x] => clearV T H lo t x
    | _, _ => none
  | .delete => match ts[0]?, args with
    | some t, [x, k] => deleteV T H lo t x k
    | _, _ => none
  | .append => match ts[0]?, ts[1]?, args with
    | some t, some t2, [s, x] => appendW T H lo t t2 s x
    | _, _, _ => none
  | .min => match args with
    | [.int k a, .int _ b] => match decide (b < a) with
      | true => some (.int k b, H)
      | false => some (.int k a, H)
    | _ => none
  | .max => match args with
    | [.int k a, .int _ b] => match decide (a < b) with
      | true => some (.int k b, H)
      | false => some (.int k a, H)
    | _ => none
  | _ => none
/-- Interface values held against nil. -/
def isConstO : Operand → Bool
  | .const _ => true
  | _ => false
def ifaceB (x y : Operand) (a b : AV) : Option Bool :=
  match a, b with
  | .nilif, .nilif => match isConstO x || isConstO y with
    | true => some true
    | false => none
  | .nilif, .ifc _ _ => some false
  | .ifc _ _, .nilif => some false
  | _, _ => none
def ifaceV (T : Tb) (op : BinOp) (t : TypeId) (x y : Operand) (a b : AV) : Option AV :=
  match T.ty t with
  | some ⟨.interface _, _, _, _, _⟩ => match ifaceB x y a b with
    | some r => match op with
      | .eql => some (.bool r)
      | .neq => some (.bool (!r))
      | _ => none
    | none => none
  | _ => none
def vop (T : Tb) (lo : Nat) (f : Tr AV) (H : Hp) (op : Op) : Option (AV × Hp) :=
  match op with
  | .move x => pickO f x H
  | .assign x => pickO f x H
  | .pick c a b => match evalO f c with
    | some (.bool true) => pickO f a H
    | some (.bool false) => pickO f b H
    | _ => none
  | .alloc e => allocV T H e
  | .box e x => match evalO f x with
    | some v => boxV H e v
    | none => none
  | .build t parts => match evalP f parts.toList with
    | some ps => keep H (buildV T t ps)
    | none => none
  | .buildSlice t n parts => match evalP f parts.toList with
    | some ps => buildSliceV T H t n ps
    | none => none
  | .load t a => match evalO f a with
    | some (.ptr b o) => keep H (loadV T H t b o)
    | _ => none
  | .store t a x => match evalO f a, evalO f x with
    | some (.ptr b o), some v => match storeV T H lo t b o v with
      | some H' => some (.tup [], H')
      | none => none
    | _, _ => none
  | .nilCheck x => match evalO f x with
    | some v => match checkable v with
      | true => some (v, H)
      | false => match checkM T v with
        | true => some (v, H)
        | false => none
    | none => none
  | .range t x => match evalO f x with
    | some v => rangeV T H t v
    | none => none
  | .next x isStr => match evalO f x with
    | some v => nextV H lo isStr v
    | none => none
  | .typeAssert x _ asserted ok => match evalO f x with
    | some v => keep H (assertV T asserted ok v)
    | none => none
  | .binOp op t x y _ => match evalO f x, evalO f y with
    | some a, some b => match binV T op t a b with
      | some v => some (v, H)
      | none => keep H (ifaceV T op t x y a b)
    | _, _ => none
  | .unOp op _ x => match evalO f x with
    | some a => keep H (unV op a)
    | none => none
  | .convert s d x => match evalO f x with
    | some a => match convV T s d a with
      | some v => some (v, H)
      | none => convHV T H lo s d a
    | none => none
  | .makeInterface t x => match evalO f x, T.ty t with
    | some a, some i => match noIface i.und with
      | true => some (.ifc t a, H)
      | false => none
    | _, _ => none
  | .makeFunc fn a c => match evalOs f a.toList, evalOs f c.toList with
    | some a, some c => some (.fn fn a c, H)
    | _, _ => none
  | .makeMap _ none => some (makeMapV H)
  | .makeSlice t n c => match natO f (some n), natO f (some c) with
    | some (some n), some (some c) => makeSliceV T H t n c
    | _, _ => none
  | .makeChan t n => match natO f (some n), T.ty t with
    | some (some n), some ⟨.chan _ e, _, _, _, _⟩ => match T.ty e with
      | some i => match Nat.ble (i.bytes * n) 1000000000, Nat.ble n 1000000000 with
        | true, true => some (.chan (some H.nx), H.new (.chan n [] false 0 0))
        | _, _ => none
      | none => none
    | _, _ => none
  | .slice t x a b c => match evalO f x, natO f a, natO f b, natO f c with
    | some x, some a, some b, some c => keep H (sliceV T t x a b c)
    | _, _, _, _ => none
  | .fieldAddr t x n => match evalO f x with
    | some a => keep H (fieldV T t a n)
    | none => none
  | .field t x n => match evalO f x with
    | some a => keep H (fieldOfV T t a n)
    | none => none
  | .indexAddr t x i => match evalO f x, natO f (some i) with
    | some a, some (some n) => keep H (indexAtV T t a n)
    | _, _ => none
  | .index t x i => match evalO f x, natO f (some i) with
    | some a, some (some n) => keep H (indexV T t a n)
    | _, _ => none
  | .lookup t x k ok => match evalO f x, evalO f k with
    | some a, some k => keep H (lookupV T H t a k ok)
    | _, _ => none
  | .mapUpdate t m k x => match evalO f m, evalO f k, evalO f x with
    | some m, some k, some x => match updateV T H lo t m k x with
      | some H' => some (.tup [], H')
      | none => none
    | _, _, _ => none
  | .insert t m k x => match evalO f m, evalO f k, evalO f x with
    | some m, some k, some x => match updateV T H lo t m k x with
      | some H' => some (.tup [], H')
      | none => none
    | _, _, _ => none
  | .extract x i => match evalO f x with
    | some (.tup vs) => match vs[i]? with
      | some v => some (v, H)
      | none => none
    | _ => none
  | .call c => match c.callee with
    | .builtin b => match evalOs f c.args.toList with
      | some args => builtinV T H lo b c.argTypes args
      | none => none
    | _ => none
  | _ => none
/-- What an operation without a call leaves. -/
def OpOk (P : Program) (sz : TypeId → Nat) (lo : Nat) (l : Env) (H : Hp) (w : World) (s : Sem Next) (v : AV) (H' : Hp) : Prop :=
  ∃ l' x w', (s.run P w = .ok (.value x) w' ∨ (s.run P w = .ok .skip w' ∧ x = undef)) ∧ VR l' v x ∧ Kp sz lo l H w l' H' w'
theorem OpOk.of {s : Sem Value} {v : AV} {H' : Hp} (h : Gives P T.sz lo l H w s v H') : OpOk P T.sz lo l H w (do pure (.value (← s))) v H' := by
  obtain ⟨l', x, w', h1, h2, h3⟩ := h
  exact ⟨l', x, w', .inl (by rw [Sem.run_bind, h1]; rfl), h2, h3⟩
theorem OpOk.keep (hr : HR T.sz l H w) {s : Sem Value} {v : AV} (h : ∃ z, s.run P w = .ok z w ∧ VR l v z) : OpOk P T.sz lo l H w (do pure (.value (← s))) v H :=
  let ⟨_, h1, h2⟩ := h; .of (.pure hr h1 h2)
theorem OpOk.val (hr : HR T.sz l H w) {v : AV} {x : Value} (h : VR l v x) : OpOk P T.sz lo l H w (pure (.value x)) v H :=
  ⟨l, x, w, .inl rfl, h, .refl hr⟩
theorem OpOk.unit {s : Sem Unit} {w' : World} {H' : Hp} (h1 : s.run P w = .ok () w') (h2 : Kp T.sz lo l H w l H' w') : OpOk P T.sz lo l H w (do s; pure .skip) (.tup []) H' :=
  ⟨l, undef, w', .inr ⟨by rw [Sem.run_bind, h1]; rfl, rfl⟩, .tup .nil, h2⟩
theorem keep_ok {H' : Hp} {a : Option AV} {v : AV} (h : keep H a = some (v, H')) : a = some v ∧ H' = H := by
  cases a <;> cases h
  exact ⟨rfl, rfl⟩
theorem pickO_ok {x : Operand} {v : AV} {H' : Hp} (h : pickO f x H = some (v, H')) : evalO f x = some v ∧ H' = H := by
  unfold pickO at h
  split at h <;> cases h
  exact ⟨by assumption, rfl⟩
theorem natO_ok (hρ : ∀ x, Ev l f ρ x) {x : Option Operand} {n : Option Nat} (h : natO f x = some n) : NV n (x.map ρ) := by
  unfold natO at h
  split at h
  · cases h; trivial
  · rename_i x
    split at h
    · cases h
    rename_i v hv
    split at h
    · rename_i n hn
      cases h
      exact natV_ok hn (hρ x v hv)
    · cases h
theorem natO_some (hρ : ∀ x, Ev l f ρ x) {x : Operand} {n : Nat} (h : natO f (some x) = some (some n)) : ∃ k, ρ x = .int k (n : Int) := natO_ok hρ h
theorem builtinV_ok (hT : TbOk P T) (hr : HR T.sz l H w) {b : Builtin} {ts : Array TypeId} {ty : TypeId} {cs : Array Bool} {args : List AV} {v : AV} {H' : Hp} (e : builtinV T H lo b ts args = some (v, H')) {xs : List Value} (hx : VRs l args xs) :
    OpOk P T.sz lo l H w (builtin b ts ty cs xs.toArray) v H' := by
  unfold builtinV at e
  split at e
  · split at e
    · rename_i t x ht
      split at e
      · rename_i n hn
        cases e
        cases hx with
        | cons h1 h2 =>
          cases h2
          exact OpOk.of (.pure hr (lenV_ok hT hr hn h1 ts ht) (.int _ _))
      · split at e
        · rename_i n hn
          cases e
          cases hx with
          | cons h1 h2 =>
            cases h2
            exact OpOk.of (.pure hr (lenCV_ok hT hr hn h1 ts ht) (.int _ _))
        · cases e
    · cases e
  · split at e
    · rename_i t x ht
      split at e
      · rename_i n hn
        cases e
        cases hx with
        | cons h1 h2 =>
          cases h2
          exact OpOk.of (.pure hr (capV_ok hT hn h1 ts ht) (.int _ _))
      · cases e
    · cases e
  · split at e
    · cases hx with
      | cons h1 h2 =>
        cases h2 with
        | cons h2 h3 =>
          cases h3
          exact OpOk.of (unsafeStrV_ok hT hr e h1 h2)
    · cases e
  · split at e
    · rename_i t x y ht
      cases hx with
      | cons h1 h2 =>
        cases h2 with
        | cons h2 h3 =>
          cases h3
          exact OpOk.of (copyV_ok hT hr e h1 h2 ts ht)
    · cases e
  · split at e
    · rename_i t x ht
      cases hx with
      | cons h1 h2 =>
        cases h2
        exact OpOk.of (clearV_ok hT hr e h1 ts ht)
    · cases e
  · split at e
    · rename_i t x k ht
      cases hx with
      | cons h1 h2 =>
        cases h2 with
        | cons h2 h3 =>
          cases h3
          exact OpOk.of (deleteV_ok hT hr e h1 h2 ts ht)
    · cases e
  · split at e
    · rename_i t t2 s x ht ht2
      cases hx with
      | cons h1 h2 =>
        cases h2 with
        | cons h2 h3 =>
          cases h3
          exact OpOk.of (appendW_ok hT hr e h1 h2 ts ht ht2)
    · cases e
  · split at e
    · rename_i k a k' b
      cases hx with
      | cons h1 h2 =>
        cases h2 with
        | cons h2 h3 =>
          cases h3
          cases h1
          cases h2
          split at e
          · rename_i hd
            have hd := of_decide_eq_true hd
            cases e
            exact OpOk.of (.pure hr (by simp [Builtin.min_, Builtin.min2, hd]) (.int _ _))
          · rename_i hd
            have hd := of_decide_eq_false hd
            cases e
            exact OpOk.of (.pure hr (by simp [Builtin.min_, Builtin.min2, hd]) (.int _ _))
    · cases e
  · split at e
    · rename_i k a k' b
      cases hx with
      | cons h1 h2 =>
        cases h2 with
        | cons h2 h3 =>
          cases h3
          cases h1
          cases h2
          split at e
          · rename_i hd
            have hd := of_decide_eq_true hd
            cases e
            exact OpOk.of (.pure hr (by simp [Builtin.max_, Builtin.max2, hd]) (.int _ _))
          · rename_i hd
            have hd := of_decide_eq_false hd
            cases e
            exact OpOk.of (.pure hr (by simp [Builtin.max_, Builtin.max2, hd]) (.int _ _))
    · cases e
  · cases e
theorem toArr {α β : Type} (g : α → β) (a : Array α) : (a.toList.map g).toArray = a.map g := by
  apply Array.ext'
  rw [Array.toList_map]
theorem ifEq_ok {x y : Operand} {u1 u2 : AV} {r : Bool} (e : ifaceB x y u1 u2 = some r) {a b : Value} (hx : VR l u1 a) (hy : VR l u2 b) {t : TypeId} {ms : Array (String × TypeId)} (hu : P.underlying t = some (.interface ms)) (d : Nat) : (Op.equalIn (d + 1) t a b).run P w = .ok r w := by
  unfold ifaceB at e
  split at e
  · split at e
    · cases e; cases hx; cases hy; simp [Op.equalIn, run_underlying hu]
    · cases e
  · cases e; cases hx; cases hy; simp [Op.equalIn, run_underlying hu]
  · cases e; cases hx; cases hy; simp [Op.equalIn, run_underlying hu]
  · cases e
theorem ifaceV_ok (hT : TbOk P T) {op : BinOp} {t : TypeId} {x y : Operand} {u1 u2 v : AV} (e : ifaceV T op t x y u1 u2 = some v) {a b : Value} (hx : VR l u1 a) (hy : VR l u2 b) : ∃ z, (do eqGuard op t x y a b; binOp op t a b : Sem Value).run P w = .ok z w ∧ VR l v z := by
  unfold ifaceV at e
  split at e
  · rename_i ms _ _ _ _ ht
    split at e
    · rename_i r hr
      have hu := hT.und _ _ ht
      have key : eqGuard op t x y a b = pure () ∧ (Op.equal t a b).run P w = .ok r w ∧ binOp .eql t a b = (do pure (.bool (← Op.equal t a b))) ∧ binOp .neq t a b = (do pure (.bool (!(← Op.equal t a b)))) := by
        have h2 := ifEq_ok (w := w) hr hx hy hu 9999
        refine ⟨?_, h2, ?_, ?_⟩
        · unfold ifaceB at hr
          split at hr
          · split at hr
            · rename_i hc
              cases hx; cases hy
              cases x <;> cases y <;> first | (cases hc; done) | (cases op <;> rfl)
            · cases hr
          · cases hx; cases hy; cases op <;> rfl
          · cases hx; cases hy; cases op <;> rfl
          · cases hr
        · unfold ifaceB at hr
          split at hr <;> first | (cases hr; done) | (cases hx; cases hy; rfl)
        · unfold ifaceB at hr
          split at hr <;> first | (cases hr; done) | (cases hx; cases hy; rfl)
      obtain ⟨k1, k2, k3, k4⟩ := key
      rw [k1]
      simp only [pure_bind]
      split at e
      · cases e
        exact ⟨_, by rw [k3, Sem.run_bind, k2]; rfl, .bool _⟩
      · cases e
        exact ⟨_, by rw [k4, Sem.run_bind, k2]; rfl, .bool _⟩
      · cases e
    · cases e
  · cases e
theorem vop_ok (hT : TbOk P T) (hr : HR T.sz l H w) (hρ : ∀ x, Ev l f ρ x) {o : Oper} {v : AV} {H' : Hp} (e : vop T lo f H o.op = some (v, H')) : OpOk P T.sz lo l H w (execOp ρ o) v H' := by
  unfold execOp
  generalize o.op = op at e
  unfold vop at e
  split at e
  · obtain ⟨e1, rfl⟩ := pickO_ok e; exact .val hr (hρ _ _ e1)
  · obtain ⟨e1, rfl⟩ := pickO_ok e; exact .val hr (hρ _ _ e1)
  · rename_i c a b
    split at e
    · rename_i hc
      obtain ⟨e1, rfl⟩ := pickO_ok e
      have hc := hρ _ _ hc
      generalize hcv : ρ c = cv at hc
      cases hc
      simp only [hcv]
      exact ⟨l, _, w, .inl rfl, hρ _ _ e1, .refl hr⟩
    · rename_i hc
      obtain ⟨e1, rfl⟩ := pickO_ok e
      have hc := hρ _ _ hc
      generalize hcv : ρ c = cv at hc
      cases hc
      simp only [hcv]
      exact ⟨l, _, w, .inl rfl, hρ _ _ e1, .refl hr⟩
    · cases e
  · exact .of (allocV_ok hT hr e)
  · split at e
    · rename_i hv
      exact .of (boxV_ok hr e (hρ _ _ hv))
    · cases e
  · split at e
    · rename_i hp
      obtain ⟨e1, rfl⟩ := keep_ok e
      exact .keep hr (buildV_ok hT e1 (by simpa using evalP_ok (fun p _ => hρ p.2) hp))
    · cases e
  · split at e
    · rename_i hp
      exact .of (buildSliceV_ok hT hr e (by simpa using evalP_ok (fun p _ => hρ p.2) hp))
    · cases e
  · rename_i t a
    split at e
    · rename_i b o ha
      obtain ⟨e1, rfl⟩ := keep_ok e
      have ha := hρ _ _ ha
      obtain ⟨k, κ, x, h1, h2, h3⟩ := loadV_ok (P := P) hT hr e1
      generalize hav : ρ a = av at ha
      cases ha with | ptr _ hl => ?_
      rw [hl] at h1
      cases h1
      simp only [hav]
      exact .keep hr ⟨x, by simp [Instr.loadAt, Instr.sureAddr, h2], h3⟩
    · cases e
  · rename_i t a y
    split at e
    · rename_i b o v0 ha hy
      split at e
      · rename_i H2 hst
        cases e
        have ha := hρ _ _ ha
        obtain ⟨k, κ, w', h1, h2, h3⟩ := storeV_ok (P := P) hT hr hst (hρ _ _ hy)
        generalize hav : ρ a = av at ha
        cases ha with | ptr _ hl => ?_
        rw [hl] at h1
        cases h1
        simp only [hav]
        exact .unit (by simp [Instr.storeAt, Instr.sureAddr, h2]) h3
      · cases e
    · cases e
  · rename_i x
    split at e
    · rename_i v0 hv
      split at e
      · rename_i hc
        cases e
        have hv := hρ _ _ hv
        generalize hxv : ρ x = xv at hv
        simp only [hxv]
        unfold checkable at hc
        split at hc <;> first | (cases hc; done) | (cases hv; first | exact ⟨l, _, w, .inl rfl, .ptr _ (by assumption), .refl hr⟩ | exact ⟨l, _, w, .inl rfl, .ifc _ (by assumption), .refl hr⟩ | exact ⟨l, _, w, .inl rfl, .sl _ _ _ (by assumption), .refl hr⟩ | exact ⟨l, _, w, .inl rfl, .fn _ (by assumption) (by assumption), .refl hr⟩)
      · split at e
        · rename_i hc
          cases e
          have hv := hρ _ _ hv
          generalize hxv : ρ x = xv at hv
          simp only [hxv]
          unfold checkM at hc
          split at hc
          · rename_i n t u r c
            split at hc
            · rename_i g hg
              cases hv with | fn _ h1 h2 => ?_
              cases h1 with | cons h1 h3 => ?_
              cases h1 with | ifc _ h4 => ?_
              rename_i r' u'
              have hnil := (hT.mth _ _ _ hg u' w).2
              refine ⟨l, _, w, .inl ?_, .fn _ (.cons (.ifc _ h4) h3) h2, .refl hr⟩
              simp [hnil]
            · cases hc
          · cases hv with | slo _ _ _ h1 h2 => ?_
            exact ⟨l, _, w, .inl rfl, .slo _ _ _ h1 h2, .refl hr⟩
          · cases hc
        · cases e
    · cases e
  · split at e
    · rename_i v0 hv
      exact .of (rangeV_ok hT hr e (hρ _ _ hv))
    · cases e
  · split at e
    · rename_i v0 hv
      exact .of (nextV_ok hr e (hρ _ _ hv))
    · cases e
  · rename_i x xt asserted ok
    split at e
    · rename_i v0 hv
      obtain ⟨e1, rfl⟩ := keep_ok e
      exact .keep hr (assertV_ok hT e1 (hρ _ _ hv))
    · cases e
  · split at e
    · rename_i ha hb
      split at e
      · rename_i e1
        cases e
        exact .keep hr (binV_ok hT e1 (hρ _ _ ha) (hρ _ _ hb) _ _)
      · obtain ⟨e1, rfl⟩ := keep_ok e
        exact .keep hr (ifaceV_ok hT e1 (hρ _ _ ha) (hρ _ _ hb))
    · cases e
  · split at e
    · rename_i ha
      obtain ⟨e1, rfl⟩ := keep_ok e
      exact .keep hr (unV_ok e1 (hρ _ _ ha))
    · cases e
  · split at e
    · rename_i ha
      split at e
      · rename_i hc
        cases e
        exact .keep hr (convV_ok hT hc (hρ _ _ ha))
      · exact .of (convHV_ok hT hr e (hρ _ _ ha))
    · cases e
  · rename_i t x
    split at e
    · rename_i a i ha hi
      split at e
      · rename_i hn
        cases e
        refine .keep hr ⟨_, ?_, .ifc _ (hρ _ _ ha)⟩
        unfold Instr.makeInterface
        rw [Sem.run_bind, run_und hT hi]
        simp only [Result.andThen_ok]
        generalize i.und = d at hn
        cases d <;> first | (cases hn; done) | rfl
      · cases e
    · cases e
  · split at e
    · rename_i h1 h2
      cases e
      refine .keep hr ⟨_, rfl, ?_⟩
      have g1 := evalOs_ok' (fun p _ => hρ p) h1
      have g2 := evalOs_ok' (fun p _ => hρ p) h2
      rw [← toArr, ← toArr]
      exact .fn _ g1 g2
    · cases e
  · cases e
    exact .of (makeMapV_ok hr _)
  · split at e
    · rename_i h1 h2
      obtain ⟨k1, hk1⟩ := natO_some hρ h1
      obtain ⟨k2, hk2⟩ := natO_some hρ h2
      simp only [hk1, hk2]
      exact .of (makeSliceV_ok hT hr e k1 k2)
    · cases e
  · split at e
    · rename_i n0 _ el _ _ _ _ h1 ht
      split at e
      · rename_i i hi
        split at e
        · rename_i g1 g2
          rw [Nat.ble_eq] at g1 g2
          cases e
          obtain ⟨k1, hk1⟩ := natO_some hρ h1
          obtain ⟨fi, q1, q2, q3, -⟩ := hT.info _ _ hi
          simp only [hk1]
          refine .of ⟨l.upd H.nx (w.heap.size, 0), _, _, ?_, .chan (Env.upd_at _ _ _), Kp.alloc hr 0 (o := .chan n0 [] false 0 0) (.chan n0 false 0 0 .nil)⟩
          have c1 : ¬ (((n0 : Nat) : Int) < 0) := by omega
          have c2 : ¬ ((9223372036854775807 : Int) < ((n0 : Nat) : Int)) := by omega
          have ha : (asInt (.int k1 ((n0 : Nat) : Int))).run P w = .ok ((n0 : Nat) : Int) w := rfl
          have c3 : ¬ ((281474976710544 : Int) < ((fi.bytes : Nat) : Int) * ((n0 : Nat) : Int)) := by
            rw [q3]
            have h9 : (((i.bytes * n0 : Nat)) : Int) ≤ ((1000000000 : Nat) : Int) := Int.ofNat_le.2 g1
            rw [Int.natCast_mul] at h9
            omega
          simp [Instr.makeChan, run_und hT ht, ha, typeInfo, q1, c1, c2, c3]
        · cases e
      · cases e
    · cases e
  · split at e
    · rename_i h1 h2 h3 h4
      obtain ⟨e1, rfl⟩ := keep_ok e
      exact .keep hr (sliceV_ok hT e1 (hρ _ _ h1) (natO_ok hρ h2) (natO_ok hρ h3) (natO_ok hρ h4))
    · cases e
  · split at e
    · rename_i ha
      obtain ⟨e1, rfl⟩ := keep_ok e
      exact .keep hr (fieldV_ok hT e1 (hρ _ _ ha))
    · cases e
  · split at e
    · rename_i ha
      obtain ⟨e1, rfl⟩ := keep_ok e
      exact .keep hr (fieldOfV_ok hT e1 (hρ _ _ ha))
    · cases e
  · split at e
    · rename_i ha hn
      obtain ⟨e1, rfl⟩ := keep_ok e
      obtain ⟨k, hk⟩ := natO_some hρ hn
      simp only [hk]
      exact .keep hr (indexAtV_ok hT e1 (hρ _ _ ha) k)
    · cases e
  · split at e
    · rename_i ha hn
      obtain ⟨e1, rfl⟩ := keep_ok e
      obtain ⟨k, hk⟩ := natO_some hρ hn
      simp only [hk]
      exact .keep hr (indexV_ok hT e1 (hρ _ _ ha) k)
    · cases e
  · split at e
    · rename_i ha hn
      obtain ⟨e1, rfl⟩ := keep_ok e
      exact .keep hr (lookupV_ok hT hr e1 (hρ _ _ ha) (hρ _ _ hn))
    · cases e
  · split at e
    · rename_i h1 h2 h3
      split at e
      · rename_i hu
        cases e
        obtain ⟨w', g1, g2⟩ := updateV_ok (P := P) hT hr hu (hρ _ _ h1) (hρ _ _ h2) (hρ _ _ h3)
        exact .unit g1 g2
      · cases e
    · cases e
  · split at e
    · rename_i h1 h2 h3
      split at e
      · rename_i hu
        cases e
        obtain ⟨w', g1, g2⟩ := updateV_ok (P := P) hT hr hu (hρ _ _ h1) (hρ _ _ h2) (hρ _ _ h3)
        exact .unit g1 g2
      · cases e
    · cases e
  · rename_i x i
    split at e
    · rename_i vs hv
      split at e
      · rename_i v0 hi
        cases e
        have hv := hρ _ _ hv
        generalize hxv : ρ x = xv at hv
        cases hv with | tup hs => ?_
        obtain ⟨u, g1, g2⟩ := hs.get hi
        simp only [hxv]
        exact .keep hr ⟨u, by simp [Instr.extract, g1], g2⟩
      · cases e
    · cases e
  · rename_i c
    split at e
    · rename_i b hb
      split at e
      · rename_i args ha
        have g1 := evalOs_ok' (fun p _ => hρ p) ha
        have := builtinV_ok (P := P) (ty := o.type) (cs := c.args.map fun | .const _ => true | _ => false) hT hr e g1
        simp only [resolve, hb, pure_bind, invoke]
        rw [toArr] at this
        exact this
      · cases e
    · cases e
  · cases e
end Go.Proofs.YtbjpkfaiofkmdaaGreatDoor.Ev
