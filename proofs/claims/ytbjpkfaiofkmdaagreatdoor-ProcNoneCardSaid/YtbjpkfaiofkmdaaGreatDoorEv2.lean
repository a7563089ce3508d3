/-
  A RECKONER OF CLOSED CALLS, SECOND PART: frames, tables, and what operations upon values alone give. No program in sight; no condition.
-/
import Derived.Test.YtbjpkfaiofkmdaaGreatDoorEv1
import Derived.RowKit
import Derived.Laws.Strings
import Derived.Deep.MidRow
import Derived.Laws.Append
import Derived.Laws.AppendOwn
import Derived.Laws.StructEq
namespace Go.Proofs.YtbjpkfaiofkmdaaGreatDoor.Ev
open Go Go.RowKit

theorem Kp.refl {sz : TypeId → Nat} {lo : Nat} {l : Env} {H : Hp} {w : World} (h : HR sz l H w) : Kp sz lo l H w l H w :=
  ⟨.refl _, h, Nat.le_refl _, fun _ _ h => h, rfl, rfl, rfl, Nat.le_refl _, fun _ _ _ => rfl, fun _ _ h => .inl h⟩

/-- A type's row. -/
structure TI where
  und : TypeDesc
  size : Nat
  bytes : Nat
  zero : Option AV
  agg : Bool
structure FI where
  ntmps : Nat
  body : Code
  results : List ResultVar
structure Tb where
  ty : TypeId → Option TI
  fn : FuncId → Option FI
  sz : TypeId → Nat
  eqOk : TypeId → Bool
  hook : FuncId → List AV → Hp → Option (AV × Hp)
  mth : TypeId → String → Option FuncId
  lo : Nat
def rowDesc : TypeDesc → Bool
  | .struct _ | .array _ _ => true
  | _ => false
structure TbOk (P : Program) (T : Tb) : Prop where
  und : ∀ t i, T.ty t = some i → P.underlying t = some i.und
  info : ∀ t i, T.ty t = some i → ∃ f, P.info? t = some f ∧ f.size = i.size ∧ f.bytes = i.bytes ∧ ∀ z, i.zero = some z → (∀ u, z ≠ .cst u) ∧ ∃ x, f.zero = some x ∧ ∀ l, VR l z x
  agg : ∀ t i, T.ty t = some i → i.agg = rowDesc i.und
  sz : ∀ t i, T.ty t = some i → T.sz t = i.size
  fn : ∀ (f : FuncId) i, T.fn f = some i → ∃ fn, P.funcs[f]? = some fn ∧ fn.body = some i.body ∧ fn.ntmps = i.ntmps ∧ fn.results.toList = i.results ∧ ∀ args w, (callFunc f args).run P w = .ok (.enter f args) w
  eqOk : ∀ t, T.eqOk t = true → P.stoodInHeld t = false ∧ P.eqGuardType P.depth t = false ∧ ∀ f ∈ (P.fieldsOf t).toList, f.name ≠ "_"
  mixed : P.follows .mixedOrders = true
  mth : ∀ t n f, T.mth t n = some f → ∀ v w, (method (P.types.size + Made.depth) t v n).run P w = .ok (f, v) w ∧ (nilAhead (P.types.size + Made.depth) t v n).run P w = .ok (some false) w

/-- The same table, where no block ahead of one is turned. -/
def Tb.from (T : Tb) (n : Nat) : Tb := { T with lo := n }
theorem TbOk.from {P : Program} {T : Tb} (h : TbOk P T) (n : Nat) : TbOk P (T.from n) := ⟨h.und, h.info, h.agg, h.sz, h.fn, h.eqOk, h.mixed, h.mth⟩

/-- A frame: what is known of its slots. -/
structure FR (N : Nat) (Ds : List Deferred) (l : Env) (f : Tr AV) (a : Act) : Prop where
  size : a.tmps.size = N
  get : ∀ i v, f.get i = some v → ∃ x, a.tmps[i]? = some x ∧ VR l v x
  defers : a.defers = Ds
  glob : ∀ g, g < 1000 → l g = some (g, 0)
theorem FR.mono {N : Nat} {Ds : List Deferred} {l l' : Env} {f : Tr AV} {a : Act} (h : FR N Ds l f a) (hl : l.le l') : FR N Ds l' f a :=
  ⟨h.size, fun i v e => let ⟨x, h1, h2⟩ := h.get i v e; ⟨x, h1, h2.mono hl⟩, h.defers, fun g hg => hl _ _ (h.glob g hg)⟩
def putF (N : Nat) (f : Tr AV) (dst : Option Tmp) (v : AV) : Option (Tr AV) := match dst with
  | none => some f
  | some d => match Nat.blt d N with
    | true => some (f.set 10 d (some v))
    | false => none
theorem FR.put {N : Nat} {Ds : List Deferred} {l : Env} {f f' : Tr AV} {a : Act} (h : FR N Ds l f a) {dst : Option Tmp} {v : AV} {x : Value} (hv : VR l v x) (hp : putF N f dst v = some f') : FR N Ds l f' (a.put dst x) := by
  unfold putF at hp
  cases dst with
  | none => cases hp; exact h
  | some d =>
    simp only at hp
    split at hp
    · rename_i hd
      have hd' : d < N := by simpa [Nat.blt_eq] using hd
      cases hp
      refine ⟨by simp [Act.put, h.size], fun i u e => ?_, h.defers, h.glob⟩
      rcases Tr.set_get _ _ _ _ _ _ e with ⟨e1, e2⟩ | ⟨e1, e2⟩
      · cases e2; subst e1
        exact ⟨x, by simp [Act.put, h.size, hd'], hv⟩
      · obtain ⟨y, h1, h2⟩ := h.get i u e2
        refine ⟨y, ?_, h2⟩
        simp only [Act.put]
        rw [Array.getElem?_setIfInBounds_ne (fun e => e1 e.symm)]; exact h1
    · cases hp

def leafV : Value → Option AV
  | .bool b => some (.bool b)
  | .int k n => some (.int k n)
  | .string s => some (.str (s.data.toList.map UInt8.toNat))
  | .pointer none => some .nilp
  | .slice none 0 0 => some .nils
  | .map none => some (.map none)
  | .chan none => some (.chan none)
  | .nilFunc => some .nilfn
  | .nilIface => some .nilif
  | .func f ⟨[]⟩ ⟨[]⟩ => some (.fn f [] [])
  | _ => none
theorem bs_of (s : ByteArray) : bs (s.data.toList.map UInt8.toNat) = s := by
  obtain ⟨⟨d⟩⟩ := s
  unfold bs
  congr 2
  rw [List.map_map]
  conv => rhs; rw [← List.map_id d]
  apply List.map_congr_left
  intro x _
  simp
theorem leafV_ok {v : Value} {a : AV} (h : leafV v = some a) (l : Env) : VR l a v := by
  unfold leafV at h
  split at h <;> cases h
  · exact .bool _
  · exact .int _ _
  · rename_i s
    conv => rhs; rw [← bs_of s]
    refine .str _ (fun x hx => ?_)
    obtain ⟨c, -, rfl⟩ := List.mem_map.1 hx
    exact c.toNat_lt
  · exact .nilp
  · exact .nils
  · exact .nilmap
  · exact .nilchan
  · exact .nilfn
  · exact .nilif
  · exact .fn _ .nil .nil
def leafs : List Value → Option (List AV)
  | [] => some []
  | v :: r => match leafV v with
    | none => none
    | some a => match leafs r with
      | none => none
      | some l => some (a :: l)
theorem leafs_ok : ∀ {vs : List Value} {a : List AV}, leafs vs = some a → ∀ l : Env, VRs l a vs
  | [], a, h, l => by cases h; exact .nil
  | v :: r, a, h, l => by
    unfold leafs at h
    split at h
    · cases h
    · rename_i x hx
      split at h
      · cases h
      · rename_i y hy
        cases h
        exact .cons (leafV_ok hx l) (leafs_ok hy l)
def absV : Value → Option AV
  | .agg ⟨cs⟩ => match leafs cs with | some l => some (.agg l) | none => none
  | .tuple ⟨cs⟩ => match leafs cs with | some l => some (.tup l) | none => none
  | v => leafV v
theorem absV_ok {v : Value} {a : AV} (h : absV v = some a) (l : Env) : VR l a v := by
  unfold absV at h
  split at h
  · split at h <;> cases h
    rename_i hl
    exact .agg (leafs_ok hl l)
  · split at h <;> cases h
    rename_i hl
    exact .tup (leafs_ok hl l)
  · exact leafV_ok h l
def evalO (f : Tr AV) : Operand → Option AV
  | .tmp t => f.get t
  | .const v => absV v
  | .global g => match Nat.blt g 1000 with
    | true => some (.ptr g 0)
    | false => none
  | .func g => some (.fn (.func g) [] [])
theorem evalO_ok {N : Nat} {Ds : List Deferred} {l : Env} {f : Tr AV} {a : Act} (h : FR N Ds l f a) {o : Operand} {v : AV} (e : evalO f o = some v) : VR l v (a.eval o) := by
  cases o with
  | tmp t =>
    obtain ⟨x, h1, h2⟩ := h.get t v e
    have : a.eval (.tmp t) = x := by simp [Act.eval, h1]
    rw [this]; exact h2
  | const c => exact absV_ok e l
  | global g =>
    simp only [evalO] at e
    split at e
    · rename_i hg
      have hg : g < 1000 := by simpa [Nat.blt_eq] using hg
      cases e
      exact .ptr 0 (h.glob g hg)
    · cases e
  | func g => cases e; exact .fn _ .nil .nil
def evalOs (f : Tr AV) : List Operand → Option (List AV)
  | [] => some []
  | o :: r => match evalO f o with
    | none => none
    | some v => match evalOs f r with
      | none => none
      | some l => some (v :: l)
theorem evalOs_ok {N : Nat} {Ds : List Deferred} {l : Env} {f : Tr AV} {a : Act} (h : FR N Ds l f a) : ∀ {os : List Operand} {vs : List AV}, evalOs f os = some vs → VRs l vs (os.map a.eval)
  | [], vs, e => by cases e; exact .nil
  | o :: r, vs, e => by
    unfold evalOs at e
    split at e
    · cases e
    · rename_i v hv
      split at e
      · cases e
      · rename_i t ht
        cases e
        exact .cons (evalO_ok h hv) (evalOs_ok h ht)

/-! what an operation gives -/
def Gives (P : Program) (sz : TypeId → Nat) (lo : Nat) (l : Env) (H : Hp) (w : World) (s : Sem Value) (v : AV) (H' : Hp) : Prop :=
  ∃ l' x w', s.run P w = .ok x w' ∧ VR l' v x ∧ Kp sz lo l H w l' H' w'
theorem Gives.pure {P : Program} {sz : TypeId → Nat} {lo : Nat} {l : Env} {H : Hp} {w : World} {s : Sem Value} {v : AV} {x : Value} (hr : HR sz l H w) (h : s.run P w = .ok x w) (hv : VR l v x) : Gives P sz lo l H w s v H :=
  ⟨l, x, w, h, hv, .refl hr⟩

/-! operators -/
def intOp (op : BinOp) (k : IntKind) (a b : Int) : Option AV :=
  match op with
  | .add => some (.int k (k.wrap (a + b)))
  | .sub => some (.int k (k.wrap (a - b)))
  | .mul => some (.int k (k.wrap (a * b)))
  | .quo => if b = 0 then none else some (.int k (k.wrap (a.tdiv b)))
  | .rem => if b = 0 then none else some (.int k (a.tmod b))
  | .and => some (.int k (k.wrap (BitVec.ofInt k.bits a &&& BitVec.ofInt k.bits b).toNat))
  | .or => some (.int k (k.wrap (BitVec.ofInt k.bits a ||| BitVec.ofInt k.bits b).toNat))
  | .xor => some (.int k (k.wrap (BitVec.ofInt k.bits a ^^^ BitVec.ofInt k.bits b).toNat))
  | .andNot => some (.int k (k.wrap (BitVec.ofInt k.bits a &&& ~~~ (BitVec.ofInt k.bits b)).toNat))
  | .eql => some (.bool (a == b))
  | .neq => some (.bool (a != b))
  | .lss => some (.bool (a < b))
  | .leq => some (.bool (a ≤ b))
  | .gtr => some (.bool (a > b))
  | .geq => some (.bool (a ≥ b))
  | _ => none
theorem intOp_ok {P : Program} {w : World} {op : BinOp} {k : IntKind} {a b : Int} {v : AV} (t : TypeId) (h : intOp op k a b = some v) (l : Env) : ∃ x, (binOp op t (.int k a) (.int k b)).run P w = .ok x w ∧ VR l v x := by
  cases op <;> simp only [intOp] at h
  case quo => split at h <;> cases h; rename_i hb; exact ⟨_, by simp [binOp, Op.intDiv, hb], .int _ _⟩
  case rem => split at h <;> cases h; rename_i hb; exact ⟨_, by simp [binOp, Op.intDiv, hb], .int _ _⟩
  all_goals first
    | (cases h; refine ⟨_, ?_, .int _ _⟩; simp [binOp, Op.intArith, Op.intBits])
    | (cases h; refine ⟨_, ?_, .bool _⟩; simp [binOp, Op.intCmp])
    | cases h
theorem bs_inj {x y : List Nat} (hx : ∀ c ∈ x, c < 256) (hy : ∀ c ∈ y, c < 256) : (bs x).toList = (bs y).toList ↔ x = y := by
  constructor
  · intro h
    unfold bs at h
    rw [ByteArray.toList_eq, ByteArray.toList_eq] at h
    simp only at h
    have h : x.map UInt8.ofNat = y.map UInt8.ofNat := h
    have e : ∀ l : List Nat, (∀ c ∈ l, c < 256) → (l.map UInt8.ofNat).map UInt8.toNat = l := by
      intro l hl
      rw [List.map_map]
      conv => rhs; rw [← List.map_id l]
      apply List.map_congr_left
      intro c hc
      simp [Nat.mod_eq_of_lt (hl c hc)]
    rw [← e x hx, ← e y hy, h]
  · rintro rfl; rfl
def strLt : List Nat → List Nat → Bool
  | _, [] => false
  | [], _ :: _ => true
  | a :: x, b :: y => match Nat.blt a b with
    | true => true
    | false => match Nat.beq a b with
      | true => strLt x y
      | false => false
theorem strLt_ok : ∀ (x y : List Nat), (∀ c ∈ x, c < 256) → (∀ c ∈ y, c < 256) → Op.bytesLess (x.map UInt8.ofNat) (y.map UInt8.ofNat) = strLt x y
  | x, [], _, _ => by cases x <;> rfl
  | [], _ :: _, _, _ => rfl
  | a :: x, b :: y, hx, hy => by
    have ha := hx a (by simp)
    have hb := hy b (by simp)
    have ih := strLt_ok x y (fun c h => hx c (by simp [h])) (fun c h => hy c (by simp [h]))
    simp only [List.map_cons, Op.bytesLess, strLt, ih]
    have e1 : decide (UInt8.ofNat a < UInt8.ofNat b) = Nat.blt a b := by
      rw [Bool.eq_iff_iff]
      simp [UInt8.lt_iff_toNat_lt, Nat.mod_eq_of_lt ha, Nat.mod_eq_of_lt hb, Nat.blt_eq]
    have e2 : (UInt8.ofNat a == UInt8.ofNat b) = Nat.beq a b := by
      rw [Bool.eq_iff_iff]
      simp [← UInt8.toNat_inj, Nat.mod_eq_of_lt ha, Nat.mod_eq_of_lt hb]
    rw [e1, e2]
    cases Nat.blt a b <;> cases Nat.beq a b <;> rfl
def strEq : List Nat → List Nat → Bool
  | [], [] => true
  | a :: x, b :: y => match Nat.beq a b with
    | true => strEq x y
    | false => false
  | _, _ => false
theorem strEq_iff : ∀ {x y : List Nat}, strEq x y = true ↔ x = y
  | [], [] => by simp [strEq]
  | [], _ :: _ => by simp [strEq]
  | _ :: _, [] => by simp [strEq]
  | a :: x, b :: y => by
    unfold strEq
    cases h : Nat.beq a b with
    | true => have := Nat.eq_of_beq_eq_true h; simp [this, strEq_iff]
    | false => have := Nat.ne_of_beq_eq_false h; simp [this]
def strOp (op : BinOp) (a b : List Nat) : Option AV :=
  match op with
  | .add => match Nat.blt (a.length + b.length) 1000000 with | true => some (.str (a ++ b)) | false => none
  | .eql => some (.bool (strEq a b))
  | .neq => some (.bool (!(strEq a b)))
  | .lss => some (.bool (strLt a b))
  | .leq => some (.bool (strLt a b || strEq a b))
  | .gtr => some (.bool (!(strLt a b || strEq a b)))
  | .geq => some (.bool (!(strLt a b)))
  | _ => none
theorem bs_append (a b : List Nat) : bs (a ++ b) = bs a ++ bs b := by
  unfold bs
  apply ByteArray.ext
  simp
theorem strOp_ok {P : Program} {w : World} {op : BinOp} {a b : List Nat} {v : AV} (t : TypeId) (h : strOp op a b = some v) (ha : ∀ c ∈ a, c < 256) (hb : ∀ c ∈ b, c < 256) (l : Env) : ∃ x, (binOp op t (.string (bs a)) (.string (bs b))).run P w = .ok x w ∧ VR l v x := by
  have e1 : ((bs a).toList == (bs b).toList) = strEq a b := by
    rw [Bool.eq_iff_iff, strEq_iff, beq_iff_eq, bs_inj ha hb]
  have e2 : Op.bytesLess (bs a).toList (bs b).toList = strLt a b := by
    rw [← strLt_ok a b ha hb]
    unfold bs
    rw [ByteArray.toList_eq, ByteArray.toList_eq]
  have hz : (bs a).size + (bs b).size = a.length + b.length := by simp [bs, ByteArray.size]
  cases op <;> simp only [strOp] at h
  case add =>
    split at h <;> cases h
    rename_i hl
    have hl' : a.length + b.length < 1000000 := by simpa [Nat.blt_eq] using hl
    refine ⟨_, ?_, .str (a ++ b) (fun c hc => ?_)⟩
    · rw [bs_append]
      have : ¬ ((((bs a).size + (bs b).size : Nat) : Int) > IntKind.i64.max) := by
        rw [hz, show IntKind.i64.max = 9223372036854775807 from by decide]; omega
      simp only [binOp, Op.stringOp]
      rw [if_neg this]; rfl
    · rw [List.mem_append] at hc
      rcases hc with hc | hc
      · exact ha c hc
      · exact hb c hc
  all_goals first
    | (cases h; exact ⟨_, by simp only [binOp, Op.stringOp, e1, e2]; rfl, .bool _⟩)
    | cases h
end Go.Proofs.YtbjpkfaiofkmdaaGreatDoor.Ev
