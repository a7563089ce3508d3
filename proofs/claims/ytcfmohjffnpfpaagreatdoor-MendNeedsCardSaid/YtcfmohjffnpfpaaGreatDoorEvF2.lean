/-
  A FASTER RECKONER, SECOND PART: what one operation gives, upon values. No program in sight; no condition.
-/
import Derived.Test.YtcfmohjffnpfpaaGreatDoorEvF1
import Derived.IntWalk
namespace Go.Proofs.YtcfmohjffnpfpaaGreatDoor.Ev
open Go Go.RowKit

variable {T : Tb} {lo : Nat} {H : Hp}
theorem bR_t (x y : Rs) : bR true x y = x := rfl
theorem bR_f (x y : Rs) : bR false x y = y := rfl
/-! kinds of numbers -/
noncomputable def kMax (k : IntKind) : Nat := @IntKind.rec (fun _ => Nat) 127 32767 2147483647 9223372036854775807 255 65535 4294967295 18446744073709551615 k
noncomputable def kBits (k : IntKind) : Nat := @IntKind.rec (fun _ => Nat) 8 16 32 64 8 16 32 64 k
noncomputable def kU (k : IntKind) : Bool := @IntKind.rec (fun _ => Bool) false false false false true true true true k
noncomputable def kE0 (k : IntKind) : Bool := @IntKind.rec (fun _ => Bool) true false false false false false false false k
noncomputable def kE1 (k : IntKind) : Bool := @IntKind.rec (fun _ => Bool) false true false false false false false false k
noncomputable def kE2 (k : IntKind) : Bool := @IntKind.rec (fun _ => Bool) false false true false false false false false k
noncomputable def kE3 (k : IntKind) : Bool := @IntKind.rec (fun _ => Bool) false false false true false false false false k
noncomputable def kE4 (k : IntKind) : Bool := @IntKind.rec (fun _ => Bool) false false false false true false false false k
noncomputable def kE5 (k : IntKind) : Bool := @IntKind.rec (fun _ => Bool) false false false false false true false false k
noncomputable def kE6 (k : IntKind) : Bool := @IntKind.rec (fun _ => Bool) false false false false false false true false k
noncomputable def kE7 (k : IntKind) : Bool := @IntKind.rec (fun _ => Bool) false false false false false false false true k
noncomputable def kEq (k : IntKind) : IntKind → Bool := @IntKind.rec (fun _ => IntKind → Bool) kE0 kE1 kE2 kE3 kE4 kE5 kE6 kE7 k
noncomputable def kR0 (k : IntKind) : Rs → Rs → Rs := @IntKind.rec (fun _ => Rs → Rs → Rs) (fun y _ => y) (fun _ z => z) (fun _ z => z) (fun _ z => z) (fun _ z => z) (fun _ z => z) (fun _ z => z) (fun _ z => z) k
noncomputable def kR1 (k : IntKind) : Rs → Rs → Rs := @IntKind.rec (fun _ => Rs → Rs → Rs) (fun _ z => z) (fun y _ => y) (fun _ z => z) (fun _ z => z) (fun _ z => z) (fun _ z => z) (fun _ z => z) (fun _ z => z) k
noncomputable def kR2 (k : IntKind) : Rs → Rs → Rs := @IntKind.rec (fun _ => Rs → Rs → Rs) (fun _ z => z) (fun _ z => z) (fun y _ => y) (fun _ z => z) (fun _ z => z) (fun _ z => z) (fun _ z => z) (fun _ z => z) k
noncomputable def kR3 (k : IntKind) : Rs → Rs → Rs := @IntKind.rec (fun _ => Rs → Rs → Rs) (fun _ z => z) (fun _ z => z) (fun _ z => z) (fun y _ => y) (fun _ z => z) (fun _ z => z) (fun _ z => z) (fun _ z => z) k
noncomputable def kR4 (k : IntKind) : Rs → Rs → Rs := @IntKind.rec (fun _ => Rs → Rs → Rs) (fun _ z => z) (fun _ z => z) (fun _ z => z) (fun _ z => z) (fun y _ => y) (fun _ z => z) (fun _ z => z) (fun _ z => z) k
noncomputable def kR5 (k : IntKind) : Rs → Rs → Rs := @IntKind.rec (fun _ => Rs → Rs → Rs) (fun _ z => z) (fun _ z => z) (fun _ z => z) (fun _ z => z) (fun _ z => z) (fun y _ => y) (fun _ z => z) (fun _ z => z) k
noncomputable def kR6 (k : IntKind) : Rs → Rs → Rs := @IntKind.rec (fun _ => Rs → Rs → Rs) (fun _ z => z) (fun _ z => z) (fun _ z => z) (fun _ z => z) (fun _ z => z) (fun _ z => z) (fun y _ => y) (fun _ z => z) k
noncomputable def kR7 (k : IntKind) : Rs → Rs → Rs := @IntKind.rec (fun _ => Rs → Rs → Rs) (fun _ z => z) (fun _ z => z) (fun _ z => z) (fun _ z => z) (fun _ z => z) (fun _ z => z) (fun _ z => z) (fun y _ => y) k
noncomputable def kEqR (k : IntKind) : IntKind → Rs → Rs → Rs := @IntKind.rec (fun _ => IntKind → Rs → Rs → Rs) kR0 kR1 kR2 kR3 kR4 kR5 kR6 kR7 k
theorem kEqR_eq (k k2 : IntKind) (y z : Rs) : kEqR k k2 y z = bR (kEq k k2) y z := by cases k <;> cases k2 <;> rfl
theorem kEq_ok {k k' : IntKind} (h : kEq k k' = true) : k = k' := by
  cases k <;> cases k' <;> first | rfl | cases h
theorem kBits_eq (k : IntKind) : kBits k = k.bits := by cases k <;> rfl
theorem wrap_max {k : IntKind} {x : Nat} (h : x ≤ kMax k) : k.wrap (x : Int) = x := by
  cases k
  · exact IntWalk.i8_in _ (by have : x ≤ 127 := h; omega)
  · exact IntWalk.i16_in _ (by have : x ≤ 32767 := h; omega)
  · exact IntWalk.i32_in _ (by have : x ≤ 2147483647 := h; omega)
  · exact IntWalk.i64_in _ (by have : x ≤ 9223372036854775807 := h; omega)
  · exact IntWalk.u8_in _ (by have : x ≤ 255 := h; omega)
  · exact IntWalk.u16_in _ (by have : x ≤ 65535 := h; omega)
  · exact IntWalk.u32_in _ (by have : x ≤ 4294967295 := h; omega)
  · exact IntWalk.u64_in _ (by have : x ≤ 18446744073709551615 := h; omega)
theorem wrap_mod {k : IntKind} {x : Nat} (h : kU k = true) : k.wrap (x : Int) = ((x % (kMax k + 1) : Nat) : Int) := by
  cases k <;> first | (cases h; done) | skip
  · show (x : Int) % 256 = ((x % 256 : Nat) : Int); omega
  · show (x : Int) % 65536 = ((x % 65536 : Nat) : Int); omega
  · show (x : Int) % 4294967296 = ((x % 4294967296 : Nat) : Int); omega
  · show (x : Int) % 18446744073709551616 = ((x % 18446744073709551616 : Nat) : Int); omega
noncomputable def wrapQ (k : IntKind) (x : Nat) (q : AV → Rs) (z : Rs) : Rs := bR (Nat.ble x (kMax k)) (q (.int k (.ofNat x))) (bR (kU k) (q (.int k (.ofNat (Nat.mod x (Nat.succ (kMax k)))))) z)
theorem wrapQ_ok (k : IntKind) (x : Nat) (q : AV → Rs) (z : Rs) : wrapQ k x q z = z ∨ wrapQ k x q z = q (.int k (k.wrap (x : Int))) := by
  unfold wrapQ
  cases h1 : Nat.ble x (kMax k) with
  | true => exact .inr (by rw [bR_t, wrap_max (Nat.le_of_ble_eq_true h1)]; rfl)
  | false =>
    rw [bR_f]
    cases h2 : kU k with
    | true => exact .inr (by rw [bR_t, wrap_mod h2]; rfl)
    | false => exact .inl rfl
/-! values by their kinds -/
noncomputable def asNat (u : AV) : (IntKind → Nat → Rs) → Rs → Rs := @AV.rec (fun _ => (IntKind → Nat → Rs) → Rs → Rs) (fun _ => Unit) (fun _ _ z => z) (fun k n q z => @Int.rec (fun _ => Rs) (q k) (fun _ => z) n) (fun _ _ z => z) (fun _ z => z) (fun _ _ _ z => z) (fun _ z => z) (fun _ _ _ _ _ z => z) (fun _ _ _ _ _ z => z) (fun _ z => z) (fun _ _ z => z) (fun _ _ z => z) (fun _ _ _ _ _ _ z => z) (fun _ z => z) (fun _ _ _ _ z => z) (fun _ z => z) (fun _ _ _ z => z) (fun _ _ _ z => z) (fun _ _ z => z) (fun _ _ z => z) () (fun _ _ _ _ => ()) u
noncomputable def asPtr (u : AV) : (Nat → Nat → Rs) → Rs → Rs := @AV.rec (fun _ => (Nat → Nat → Rs) → Rs → Rs) (fun _ => Unit) (fun _ _ z => z) (fun _ _ _ z => z) (fun _ _ z => z) (fun _ z => z) (fun b o q _ => q b o) (fun _ z => z) (fun _ _ _ _ _ z => z) (fun _ _ _ _ _ z => z) (fun _ z => z) (fun _ _ z => z) (fun _ _ z => z) (fun _ _ _ _ _ _ z => z) (fun _ z => z) (fun _ _ _ _ z => z) (fun _ z => z) (fun _ _ _ z => z) (fun _ _ _ z => z) (fun _ _ z => z) (fun _ _ z => z) () (fun _ _ _ _ => ()) u
noncomputable def asSl (u : AV) : (Nat → Nat → Nat → Rs) → Rs → Rs := @AV.rec (fun _ => (Nat → Nat → Nat → Rs) → Rs → Rs) (fun _ => Unit) (fun _ _ z => z) (fun _ _ _ z => z) (fun _ _ z => z) (fun _ z => z) (fun _ _ _ z => z) (fun _ z => z) (fun b o n _ q _ => q b o n) (fun b o n _ q _ => q b o n) (fun _ z => z) (fun _ _ z => z) (fun _ _ z => z) (fun _ _ _ _ _ _ z => z) (fun _ z => z) (fun _ _ _ _ z => z) (fun _ z => z) (fun _ _ _ z => z) (fun _ _ _ z => z) (fun _ _ z => z) (fun _ _ z => z) () (fun _ _ _ _ => ()) u
noncomputable def asLen (u : AV) : (Nat → Rs) → Rs → Rs := @AV.rec (fun _ => (Nat → Rs) → Rs → Rs) (fun _ => Unit) (fun _ _ z => z) (fun _ _ _ z => z) (fun _ _ z => z) (fun _ z => z) (fun _ _ _ z => z) (fun q _ => q 0) (fun _ _ n _ q _ => q n) (fun _ _ n _ q _ => q n) (fun q _ => q 0) (fun _ _ z => z) (fun _ _ z => z) (fun _ _ _ _ _ _ z => z) (fun _ z => z) (fun _ _ _ _ z => z) (fun _ z => z) (fun _ _ _ z => z) (fun _ _ _ z => z) (fun _ _ z => z) (fun _ _ z => z) () (fun _ _ _ _ => ()) u
noncomputable def asStr (u : AV) : (List Nat → Rs) → Rs → Rs := @AV.rec (fun _ => (List Nat → Rs) → Rs → Rs) (fun _ => Unit) (fun _ _ z => z) (fun _ _ _ z => z) (fun l q _ => q l) (fun _ z => z) (fun _ _ _ z => z) (fun _ z => z) (fun _ _ _ _ _ z => z) (fun _ _ _ _ _ z => z) (fun _ z => z) (fun _ _ z => z) (fun _ _ z => z) (fun _ _ _ _ _ _ z => z) (fun _ z => z) (fun _ _ _ _ z => z) (fun _ z => z) (fun _ _ _ z => z) (fun _ _ _ z => z) (fun _ _ z => z) (fun _ _ z => z) () (fun _ _ _ _ => ()) u
noncomputable def asTup (u : AV) : (List AV → Rs) → Rs → Rs := @AV.rec (fun _ => (List AV → Rs) → Rs → Rs) (fun _ => Unit) (fun _ _ z => z) (fun _ _ _ z => z) (fun _ _ z => z) (fun _ z => z) (fun _ _ _ z => z) (fun _ z => z) (fun _ _ _ _ _ z => z) (fun _ _ _ _ _ z => z) (fun _ z => z) (fun _ _ z => z) (fun _ _ z => z) (fun _ _ _ _ _ _ z => z) (fun _ z => z) (fun _ _ _ _ z => z) (fun _ z => z) (fun _ _ _ z => z) (fun l _ q _ => q l) (fun _ _ z => z) (fun _ _ z => z) () (fun _ _ _ _ => ()) u
noncomputable def asBool (u : AV) : (Bool → Rs) → Rs → Rs := @AV.rec (fun _ => (Bool → Rs) → Rs → Rs) (fun _ => Unit) (fun b q _ => q b) (fun _ _ _ z => z) (fun _ _ z => z) (fun _ z => z) (fun _ _ _ z => z) (fun _ z => z) (fun _ _ _ _ _ z => z) (fun _ _ _ _ _ z => z) (fun _ z => z) (fun _ _ z => z) (fun _ _ z => z) (fun _ _ _ _ _ _ z => z) (fun _ z => z) (fun _ _ _ _ z => z) (fun _ z => z) (fun _ _ _ z => z) (fun _ _ _ z => z) (fun _ _ z => z) (fun _ _ z => z) () (fun _ _ _ _ => ()) u
/-- A value of one cell. -/
noncomputable def asOne (u : AV) : (Unit → Rs) → Rs → Rs := @AV.rec (fun _ => (Unit → Rs) → Rs → Rs) (fun _ => Unit) (fun _ q _ => q ()) (fun _ _ q _ => q ()) (fun _ q _ => q ()) (fun q _ => q ()) (fun _ _ q _ => q ()) (fun q _ => q ()) (fun _ _ _ _ q _ => q ()) (fun _ _ _ _ q _ => q ()) (fun q _ => q ()) (fun _ q _ => q ()) (fun _ q _ => q ()) (fun _ _ _ _ _ q _ => q ()) (fun q _ => q ()) (fun _ _ _ q _ => q ()) (fun q _ => q ()) (fun _ _ _ z => z) (fun _ _ _ z => z) (fun _ _ z => z) (fun _ q _ => q ()) () (fun _ _ _ _ => ()) u
theorem asNat_ok (u : AV) (q : IntKind → Nat → Rs) (z : Rs) : asNat u q z = z ∨ ∃ k a, u = .int k (.ofNat a) ∧ asNat u q z = q k a := by
  cases u <;> first | exact .inl rfl | skip
  rename_i k n
  cases n with
  | ofNat a => exact .inr ⟨k, a, rfl, rfl⟩
  | negSucc a => exact .inl rfl
theorem asPtr_ok (u : AV) (q : Nat → Nat → Rs) (z : Rs) : asPtr u q z = z ∨ ∃ b o, u = .ptr b o ∧ asPtr u q z = q b o := by
  cases u <;> first | exact .inl rfl | exact .inr ⟨_, _, rfl, rfl⟩
theorem asSl_ok (u : AV) (q : Nat → Nat → Nat → Rs) (z : Rs) : asSl u q z = z ∨ ∃ b o n c, (u = .sl b o n c ∨ u = .slo b o n c) ∧ asSl u q z = q b o n := by
  cases u <;> first | exact .inl rfl | exact .inr ⟨_, _, _, _, .inl rfl, rfl⟩ | exact .inr ⟨_, _, _, _, .inr rfl, rfl⟩
theorem asLen_ok (u : AV) (q : Nat → Rs) (z : Rs) : asLen u q z = z ∨ ∃ n, (∀ T H t e s b z g, T.ty t = some ⟨.slice e, s, b, z, g⟩ → lenV T H t u = some n) ∧ asLen u q z = q n := by
  cases u <;> first | exact .inl rfl | exact .inr ⟨_, fun T H t e s b z g h => by simp [lenV, h], rfl⟩
theorem asStr_ok (u : AV) (q : List Nat → Rs) (z : Rs) : asStr u q z = z ∨ ∃ l, u = .str l ∧ asStr u q z = q l := by
  cases u <;> first | exact .inl rfl | exact .inr ⟨_, rfl, rfl⟩
theorem asTup_ok (u : AV) (q : List AV → Rs) (z : Rs) : asTup u q z = z ∨ ∃ l, u = .tup l ∧ asTup u q z = q l := by
  cases u <;> first | exact .inl rfl | exact .inr ⟨_, rfl, rfl⟩
theorem asBool_ok (u : AV) (q : Bool → Rs) (z : Rs) : asBool u q z = z ∨ ∃ b, u = .bool b ∧ asBool u q z = q b := by
  cases u <;> first | exact .inl rfl | exact .inr ⟨_, rfl, rfl⟩
theorem asOne_ok (u : AV) (q : Unit → Rs) (z : Rs) : asOne u q z = z ∨ (one u = true ∧ avCells u = [u] ∧ isCst u = false) ∧ asOne u q z = q () := by
  cases u <;> first | exact .inl rfl | exact .inr ⟨⟨rfl, rfl, rfl⟩, rfl⟩
/-! rows -/
noncomputable def nthQ {α : Type} (l : List α) : Nat → Option α := @List.rec α (fun _ => Nat → Option α) (fun _ => none) (fun v _ ih n => @Nat.rec (fun _ => Option α) (some v) (fun m _ => ih m) n) l
theorem nthQ_eq {α : Type} : ∀ (l : List α) (n : Nat), nthQ l n = l[n]?
  | [], _ => rfl
  | _ :: _, 0 => rfl
  | _ :: r, n + 1 => by rw [List.getElem?_cons_succ, ← nthQ_eq r n]; rfl
noncomputable def lenQ {α : Type} (l : List α) : Nat := @List.rec α (fun _ => Nat) 0 (fun _ _ ih => Nat.succ ih) l
theorem lenQ_eq {α : Type} : ∀ l : List α, lenQ l = l.length
  | [] => rfl
  | _ :: r => by rw [List.length_cons, ← lenQ_eq r]; rfl
noncomputable def dropQ {α : Type} (n : Nat) : List α → List α := @Nat.rec (fun _ => List α → List α) (fun l => l) (fun _ ih l => @List.rec α (fun _ => List α) [] (fun _ r _ => ih r) l) n
theorem dropQ_eq {α : Type} : ∀ (n : Nat) (l : List α), dropQ n l = l.drop n
  | 0, _ => rfl
  | _ + 1, [] => rfl
  | n + 1, _ :: r => by rw [List.drop_succ_cons, ← dropQ_eq n r]; rfl
noncomputable def takeQ {α : Type} (n : Nat) : List α → List α := @Nat.rec (fun _ => List α → List α) (fun _ => []) (fun _ ih l => @List.rec α (fun _ => List α) [] (fun v r _ => v :: ih r) l) n
theorem takeQ_eq {α : Type} : ∀ (n : Nat) (l : List α), takeQ n l = l.take n
  | 0, _ => rfl
  | _ + 1, [] => rfl
  | n + 1, v :: r => by rw [List.take_succ_cons, ← takeQ_eq n r]; rfl
noncomputable def setQ (v : AV) (n : Nat) : List AV → List AV := @Nat.rec (fun _ => List AV → List AV) (fun l => @List.rec AV (fun _ => List AV) [v] (fun _ r _ => v :: r) l) (fun _ ih l => @List.rec AV (fun _ => List AV) [v] (fun x r _ => x :: ih r) l) n
theorem setQ_eq (v : AV) : ∀ (n : Nat) (l : List AV), n < l.length → setQ v n l = storeL l n [v]
  | 0, _ :: _, _ => by simp [storeL]; rfl
  | n + 1, x :: r, h => by
    have ih := setQ_eq v n r (by simpa using h)
    unfold storeL at ih ⊢
    simp only [List.take_succ_cons, List.cons_append, List.length_cons, List.length_nil] at ih ⊢
    rw [show n + 1 + (0 + 1) = (n + (0 + 1)) + 1 by omega, List.drop_succ_cons, ← ih]; rfl
  | 0, [], h => by simp at h
  | _ + 1, [], h => by simp at h
/-! operators -/
abbrev GB := IntKind → Nat → Nat → (AV → Rs) → Rs → Rs
abbrev FB := AV → AV → (AV → Rs) → Rs → Rs
noncomputable def two (g : GB) : FB := fun u v q z => asNat u (fun k a => asNat v (fun k' b => kEqR k k' (g k a b q z) z) z) z
noncomputable def yes (q : AV → Rs) (b : Bool) : Rs := bR b (q (.bool true)) (q (.bool false))
noncomputable def gAdd : GB := fun k a b q z => wrapQ k (Nat.add a b) q z
noncomputable def gSub : GB := fun k a b q z => bR (Nat.ble b a) (wrapQ k (Nat.sub a b) q z) z
noncomputable def gMul : GB := fun k a b q z => wrapQ k (Nat.mul a b) q z
noncomputable def gQuo : GB := fun k a b q z => bR (Nat.beq b 0) z (wrapQ k (Nat.div a b) q z)
noncomputable def gRem : GB := fun k a b q z => bR (Nat.beq b 0) z (q (.int k (.ofNat (Nat.mod a b))))
noncomputable def gBits (f : Nat → Nat → Nat) : GB := fun k a b q z => bR (Nat.ble a (kMax k)) (bR (Nat.ble b (kMax k)) (q (.int k (.ofNat (f a b)))) z) z
noncomputable def gEql : GB := fun _ a b q _ => yes q (Nat.beq a b)
noncomputable def gNeq : GB := fun _ a b q _ => bR (Nat.beq a b) (q (.bool false)) (q (.bool true))
noncomputable def gLss : GB := fun _ a b q _ => yes q (Nat.ble (Nat.succ a) b)
noncomputable def gLeq : GB := fun _ a b q _ => yes q (Nat.ble a b)
noncomputable def gGtr : GB := fun _ a b q _ => yes q (Nat.ble (Nat.succ b) a)
noncomputable def gGeq : GB := fun _ a b q _ => yes q (Nat.ble b a)
noncomputable def fAdd : FB := two gAdd
noncomputable def fSub : FB := two gSub
noncomputable def fMul : FB := two gMul
noncomputable def fQuo : FB := two gQuo
noncomputable def fRem : FB := two gRem
noncomputable def fAnd : FB := two (gBits Nat.land)
noncomputable def fOr : FB := two (gBits Nat.lor)
noncomputable def fXor : FB := two (gBits Nat.xor)
noncomputable def fEql : FB := two gEql
noncomputable def fNeq : FB := two gNeq
noncomputable def fLss : FB := two gLss
noncomputable def fLeq : FB := two gLeq
noncomputable def fGtr : FB := two gGtr
noncomputable def fGeq : FB := two gGeq
noncomputable def fShl : FB := fun u v q z => asNat u (fun k a => asNat v (fun _ n => bR (Nat.ble n (kBits k)) (wrapQ k (Nat.mul a (Nat.pow 2 n)) q z) z) z) z
noncomputable def fShr : FB := fun u v q z => asNat u (fun k a => asNat v (fun _ n => bR (Nat.ble n (kBits k)) (q (.int k (.ofNat (Nat.div a (Nat.pow 2 n))))) z) z) z
noncomputable def fNo : FB := fun _ _ _ z => z
noncomputable def fBin (op : BinOp) : FB := @BinOp.rec (fun _ => FB) fAdd fSub fMul fQuo fRem fAnd fOr fXor fShl fShr fNo fEql fNeq fLss fLeq fGtr fGeq op
theorem two_ok (g : GB) (u v : AV) (q : AV → Rs) (z : Rs) : two g u v q z = z ∨ ∃ k a b, u = .int k (.ofNat a) ∧ v = .int k (.ofNat b) ∧ two g u v q z = g k a b q z := by
  unfold two
  simp only [kEqR_eq]
  rcases asNat_ok u (fun k a => asNat v (fun k' b => bR (kEq k k') (g k a b q z) z) z) z with h | ⟨k, a, rfl, h⟩
  · exact .inl h
  rw [h]
  rcases asNat_ok v (fun k' b => bR (kEq k k') (g k a b q z) z) z with h | ⟨k', b, rfl, h⟩
  · exact .inl h
  rw [h]
  cases he : kEq k k' with
  | false => exact .inl rfl
  | true => have := kEq_ok he; subst this; exact .inr ⟨k, a, b, rfl, rfl, rfl⟩
theorem binV_int (op : BinOp) (t : TypeId) (k : IntKind) (a b : Int) (h1 : op ≠ .shl) (h2 : op ≠ .shr) : binV T op t (.int k a) (.int k b) = intOp op k a b := by
  cases op <;> first | exact absurd rfl h1 | exact absurd rfl h2 | simp [binV]
def GOk (op : BinOp) (g : GB) : Prop := ∀ k a b q z, g k a b q z = z ∨ ∃ r, intOp op k (a : Int) (b : Int) = some r ∧ g k a b q z = q r
theorem two_bin {op : BinOp} {g : GB} (hg : GOk op g) (h1 : op ≠ .shl) (h2 : op ≠ .shr) (t : TypeId) (u v : AV) (q : AV → Rs) (z : Rs) : two g u v q z = z ∨ ∃ r, binV T op t u v = some r ∧ two g u v q z = q r := by
  rcases two_ok g u v q z with h | ⟨k, a, b, rfl, rfl, h⟩
  · exact .inl h
  rw [h]
  rcases hg k a b q z with h3 | ⟨r, h3, h4⟩
  · exact .inl h3
  · exact .inr ⟨r, by rw [binV_int op t k _ _ h1 h2]; exact h3, h4⟩
theorem wrapQ_g {op : BinOp} {k : IntKind} {x : Nat} {a b : Nat} {q : AV → Rs} {z : Rs} (h : intOp op k (a : Int) (b : Int) = some (.int k (k.wrap (x : Int)))) : wrapQ k x q z = z ∨ ∃ r, intOp op k (a : Int) (b : Int) = some r ∧ wrapQ k x q z = q r := by
  rcases wrapQ_ok k x q z with h1 | h1
  · exact .inl h1
  · exact .inr ⟨_, h, h1⟩
theorem gAdd_ok : GOk .add gAdd := fun k a b q z => wrapQ_g (by simp [intOp])
theorem gSub_ok : GOk .sub gSub := fun k a b q z => by
  unfold gSub
  cases h : Nat.ble b a with
  | false => exact .inl rfl
  | true => 
    have := Nat.le_of_ble_eq_true h
    rw [bR_t]
    exact wrapQ_g (by show some (AV.int k (k.wrap ((a : Int) - b))) = some (AV.int k (k.wrap ((a - b : Nat) : Int))); rw [Int.ofNat_sub this])
theorem gMul_ok : GOk .mul gMul := fun k a b q z => wrapQ_g (by simp [intOp])
theorem gQuo_ok : GOk .quo gQuo := fun k a b q z => by
  unfold gQuo
  cases h : Nat.beq b 0 with
  | true => exact .inl rfl
  | false =>
    have h0 : b ≠ 0 := Nat.ne_of_beq_eq_false h
    rw [bR_f]
    exact wrapQ_g (by simp only [intOp]; rw [if_neg (by omega)]; rfl)
theorem gRem_ok : GOk .rem gRem := fun k a b q z => by
  unfold gRem
  cases h : Nat.beq b 0 with
  | true => exact .inl rfl
  | false =>
    have h0 : b ≠ 0 := Nat.ne_of_beq_eq_false h
    rw [bR_f]
    exact .inr ⟨_, by simp only [intOp]; rw [if_neg (by omega)]; rfl, rfl⟩
theorem kMax_bits (k : IntKind) : kMax k + 1 = 2 ^ (if k.signed then k.bits - 1 else k.bits) ∧ kMax k < 2 ^ k.bits := by cases k <;> decide
theorem bits_nat {k : IntKind} {a : Nat} (h : a ≤ kMax k) : (BitVec.ofInt k.bits (a : Int)).toNat = a := by
  have := (kMax_bits k).2
  rw [BitVec.ofInt_natCast, BitVec.toNat_ofNat, Nat.mod_eq_of_lt (by omega)]
theorem gBits_ok {op : BinOp} {f : Nat → Nat → Nat} (hf : ∀ n a b, a < 2 ^ n → b < 2 ^ n → f a b < 2 ^ n) (ho : ∀ k (a b : Nat), a ≤ kMax k → b ≤ kMax k → intOp op k (a : Int) (b : Int) = some (.int k (k.wrap ((f a b : Nat) : Int)))) : GOk op (gBits f) := fun k a b q z => by
  unfold gBits
  cases h1 : Nat.ble a (kMax k) with
  | false => exact .inl rfl
  | true =>
    rw [bR_t]
    cases h2 : Nat.ble b (kMax k) with
    | false => exact .inl rfl
    | true =>
      rw [bR_t]
      have h1 := Nat.le_of_ble_eq_true h1
      have h2 := Nat.le_of_ble_eq_true h2
      refine .inr ⟨_, ho k a b h1 h2, ?_⟩
      have hm := (kMax_bits k).1
      have := hf _ a b (show a < 2 ^ (if k.signed then k.bits - 1 else k.bits) by omega) (by omega)
      rw [wrap_max (show f a b ≤ kMax k by omega)]; rfl
theorem gAnd_ok : GOk .and (gBits Nat.land) := gBits_ok (fun n a b h _ => Nat.lt_of_le_of_lt (Nat.and_le_left (n := a) (m := b)) h) fun k a b h1 h2 => by
  simp only [intOp, BitVec.toNat_and, bits_nat h1, bits_nat h2]; rfl
theorem gOr_ok : GOk .or (gBits Nat.lor) := gBits_ok (fun n a b h1 h2 => Nat.or_lt_two_pow h1 h2) fun k a b h1 h2 => by
  simp only [intOp, BitVec.toNat_or, bits_nat h1, bits_nat h2]; rfl
theorem gXor_ok : GOk .xor (gBits Nat.xor) := gBits_ok (fun n a b h1 h2 => Nat.xor_lt_two_pow h1 h2) fun k a b h1 h2 => by
  simp only [intOp, BitVec.toNat_xor, bits_nat h1, bits_nat h2]; rfl
theorem yes_ok {q : AV → Rs} {b c : Bool} (h : b = c) : yes q b = q (.bool c) := by subst h; cases b <;> rfl
theorem beq_int (a b : Nat) : Nat.beq a b = ((a : Int) == (b : Int)) := by rw [Bool.eq_iff_iff, Nat.beq_eq, beq_iff_eq]; omega
theorem gEql_ok : GOk .eql gEql := fun _ a b _ _ => .inr ⟨_, rfl, yes_ok (beq_int a b)⟩
theorem gNeq_ok : GOk .neq gNeq := fun k a b q z => .inr ⟨_, rfl, by
  unfold gNeq
  show _ = q (.bool (!((a : Int) == (b : Int))))
  rw [← beq_int]
  cases Nat.beq a b <;> rfl⟩
theorem ble_dec {a b : Nat} {p : Prop} [Decidable p] (h : a ≤ b ↔ p) : Nat.ble a b = decide p := by rw [Bool.eq_iff_iff, Nat.ble_eq, decide_eq_true_iff, h]
theorem gLss_ok : GOk .lss gLss := fun k a b q z => .inr ⟨_, rfl, yes_ok (ble_dec (by omega))⟩
theorem gLeq_ok : GOk .leq gLeq := fun k a b q z => .inr ⟨_, rfl, yes_ok (ble_dec (by omega))⟩
theorem gGtr_ok : GOk .gtr gGtr := fun k a b q z => .inr ⟨_, rfl, yes_ok (ble_dec (by omega))⟩
theorem gGeq_ok : GOk .geq gGeq := fun k a b q z => .inr ⟨_, rfl, yes_ok (ble_dec (by omega))⟩
theorem fShl_ok (t : TypeId) (u v : AV) (q : AV → Rs) (z : Rs) : fShl u v q z = z ∨ ∃ r, binV T .shl t u v = some r ∧ fShl u v q z = q r := by
  unfold fShl
  rcases asNat_ok u (fun k a => asNat v (fun _ n => bR (Nat.ble n (kBits k)) (wrapQ k (Nat.mul a (Nat.pow 2 n)) q z) z) z) z with h | ⟨k, a, rfl, h⟩
  · exact .inl h
  rw [h]
  rcases asNat_ok v (fun _ n => bR (Nat.ble n (kBits k)) (wrapQ k (Nat.mul a (Nat.pow 2 n)) q z) z) z with h | ⟨k', n, rfl, h⟩
  · exact .inl h
  rw [h]
  cases he : Nat.ble n (kBits k) with
  | false => exact .inl rfl
  | true =>
    rw [bR_t]
    rcases wrapQ_ok k (Nat.mul a (Nat.pow 2 n)) q z with h1 | h1
    · exact .inl h1
    · rw [kBits_eq] at he
      refine .inr ⟨_, ?_, h1⟩
      simp only [binV, he]
      have : ((Nat.mul a (Nat.pow 2 n) : Nat) : Int) = Int.ofNat a * 2 ^ n := by
        show ((a * 2 ^ n : Nat) : Int) = _
        rw [Int.natCast_mul, Int.natCast_pow]; rfl
      rw [this]
theorem fShr_ok (t : TypeId) (u v : AV) (q : AV → Rs) (z : Rs) : fShr u v q z = z ∨ ∃ r, binV T .shr t u v = some r ∧ fShr u v q z = q r := by
  unfold fShr
  rcases asNat_ok u (fun k a => asNat v (fun _ n => bR (Nat.ble n (kBits k)) (q (.int k (.ofNat (Nat.div a (Nat.pow 2 n))))) z) z) z with h | ⟨k, a, rfl, h⟩
  · exact .inl h
  rw [h]
  rcases asNat_ok v (fun _ n => bR (Nat.ble n (kBits k)) (q (.int k (.ofNat (Nat.div a (Nat.pow 2 n))))) z) z with h | ⟨k', n, rfl, h⟩
  · exact .inl h
  rw [h]
  cases he : Nat.ble n (kBits k) with
  | false => exact .inl rfl
  | true =>
    rw [bR_t]
    rw [kBits_eq] at he
    refine .inr ⟨_, ?_, rfl⟩
    simp only [binV, he]
    have : ((Nat.div a (Nat.pow 2 n) : Nat) : Int) = Int.ofNat a / 2 ^ n := by
      show ((a / 2 ^ n : Nat) : Int) = _
      rw [Int.natCast_ediv, Int.natCast_pow]; rfl
    rw [← this]; rfl
theorem fBin_ok (op : BinOp) (t : TypeId) (u v : AV) (q : AV → Rs) (z : Rs) : fBin op u v q z = z ∨ ∃ r, binV T op t u v = some r ∧ fBin op u v q z = q r := by
  cases op
  · exact two_bin gAdd_ok (by decide) (by decide) t u v q z
  · exact two_bin gSub_ok (by decide) (by decide) t u v q z
  · exact two_bin gMul_ok (by decide) (by decide) t u v q z
  · exact two_bin gQuo_ok (by decide) (by decide) t u v q z
  · exact two_bin gRem_ok (by decide) (by decide) t u v q z
  · exact two_bin gAnd_ok (by decide) (by decide) t u v q z
  · exact two_bin gOr_ok (by decide) (by decide) t u v q z
  · exact two_bin gXor_ok (by decide) (by decide) t u v q z
  · exact fShl_ok t u v q z
  · exact fShr_ok t u v q z
  · exact .inl rfl
  · exact two_bin gEql_ok (by decide) (by decide) t u v q z
  · exact two_bin gNeq_ok (by decide) (by decide) t u v q z
  · exact two_bin gLss_ok (by decide) (by decide) t u v q z
  · exact two_bin gLeq_ok (by decide) (by decide) t u v q z
  · exact two_bin gGtr_ok (by decide) (by decide) t u v q z
  · exact two_bin gGeq_ok (by decide) (by decide) t u v q z
end Go.Proofs.YtcfmohjffnpfpaaGreatDoor.Ev
