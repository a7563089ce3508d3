/-
  A RECKONER OF CLOSED CALLS, NINTH PART: conversions and maps. No program in sight; no condition.
-/
import Derived.Test.YtbjpkfaiofkmdaaGreatDoorEv8
import Derived.Lib.ConvBytes
namespace Go.Proofs.YtbjpkfaiofkmdaaGreatDoor.Ev
open Go Go.RowKit

variable {P : Program} {T : Tb} {lo : Nat} {l : Env} {H : Hp} {w : World} {f : Tr AV} {ρ : Operand → Value}

/-! the same block, marked -/
theorem freeze_ok (h : HR T.sz l H w) {b k κ : Nat} {t : TypeId} {cs : List AV} {p : Bool} (hb : H.get b = some (.cells t cs p)) (hl : l b = some (k, κ)) (hlo : lo ≤ b) {n : Nat} (hn : ∀ c t' fr, w.heap[k]? = some (.cells c t' fr) → n = c.size) :
    Kp T.sz lo l H w l (H.put b (.cells t cs p)) (w.freeze ⟨k, n, none⟩ 1) := by
  obtain ⟨k', κ', ys, rest, fr, p1, p2, p3, p4, p5, p6⟩ := h.at_ hb
  rw [hl] at p1
  cases p1
  have hn := hn _ _ _ p2
  obtain ⟨fr', hk, hf'⟩ : ∃ fr', (w.freeze ⟨k, n, none⟩ 1).heap[k]? = some (.cells (ys ++ rest).toArray t fr') ∧ frOk fr' (ys ++ rest).length := by
    have hlt := (Array.getElem?_eq_some_iff.1 p2).1
    have hg := (Array.getElem?_eq_some_iff.1 p2).2
    obtain ⟨a, c⟩ := fr
    refine ⟨if (a == c) = true then (n, n + 1) else (min a n, max c (n + 1)), ?_, ?_⟩
    · simp only [World.freeze]
      rw [if_neg (by decide)]
      simp only [Array.getElem?_eq_getElem (show k < (w.heap.modify k _).size by simpa using hlt), Array.getElem_modify_self, hg]
    · have hsz : n = (ys ++ rest).length := by simpa using hn
      unfold frOk at p6 ⊢
      right
      split
      · rw [hsz]; exact Nat.le_refl _
      · rename_i hac
        rcases p6 with e | e
        · cases e; exact absurd rfl hac
        · simp only at e ⊢
          omega
  have hs : (w.freeze ⟨k, n, none⟩ 1).heap.size = w.heap.size := by simp [World.freeze]
  have ho : ∀ j, j ≠ k → (w.freeze ⟨k, n, none⟩ 1).heap[j]? = w.heap[j]? := fun j hj => by
    simp only [World.freeze]
    rw [if_neg (by decide)]
    simp only
    rw [Array.getElem?_modify, if_neg (fun e => hj e.symm)]
  refine Kp.turn h hb hl hlo hs ho hk ?_ (by simp [World.freeze]) (by simp [World.freeze]) (by simp [World.freeze])
  cases p with
  | false =>
    have := p4 rfl
    subst this
    rw [List.append_nil] at hf' ⊢; exact .shut p3 hf'
  | true => exact .opn p3 (p5 rfl) hf'
/-- A row of bytes that is turned into itself. -/
def markV (T : Tb) (H : Hp) (lo : Nat) (s d : TypeId) (x : AV) : Option (AV × Hp) :=
  match T.ty s, T.ty d, Nat.beq s d with
  | some ⟨.slice _, _, _, _, _⟩, some ⟨.slice e, _, _, _, _⟩, true => match T.ty e with
    | some ⟨.int .u8, _, _, _, _⟩ => match (match x with | .sl b _ _ _ => some b | .slo b _ _ _ => some b | _ => none) with
      | some b => match H.get b, Nat.ble lo b with
        | some (.cells t cs p), true => some (x, H.put b (.cells t cs p))
        | _, _ => none
      | none => none
    | _ => none
  | _, _, _ => none
theorem markV_ok (hT : TbOk P T) (h : HR T.sz l H w) {s d : TypeId} {x v : AV} {H' : Hp} (e : markV T H lo s d x = some (v, H')) {a : Value} (hx : VR l x a) : Gives P T.sz lo l H w (convert s d a) v H' := by
  unfold markV at e
  split at e
  · rename_i e1 _ _ _ _ el _ _ _ _ hs hd hsd
    have hsd : s = d := Nat.eq_of_beq_eq_true hsd
    split at e
    · rename_i hel
      split at e
      · rename_i b hb
        split at e
        · rename_i t cs p hg hlo
          rw [Nat.ble_eq] at hlo
          cases e
          obtain ⟨k, κ, o, n, c, hl, rfl⟩ : ∃ k κ o n c, l b = some (k, κ) ∧ a = .slice (some ⟨k, o, none⟩) n c := by
            cases hx <;> first | (cases hb; done) | (cases hb; rename_i hl; exact ⟨_, _, _, _, _, hl, rfl⟩) | (cases hb; rename_i hl _; exact ⟨_, _, _, _, _, hl, rfl⟩)
          obtain ⟨k', κ', ys, rest, fr, p1, p2, -⟩ := h.at_ hg
          rw [hl] at p1
          cases p1
          have hk := freeze_ok (lo := lo) h hg hl hlo (n := (ys ++ rest).toArray.size) (fun c t' fr e => by rw [p2] at e; cases e; rfl)
          refine ⟨l, _, _, ?_, hx, hk⟩
          simp [convert, run_underlying (hT.und _ _ hd), run_underlying (hT.und _ _ hel), hsd, markStringish, shape, freeze, Sem.run, World.shape?, p2]
        · cases e
      · cases e
    · cases e
  · cases e
def convV (T : Tb) (s d : TypeId) (x : AV) : Option AV :=
  match T.ty s, T.ty d with
  | some _, some j => match j.und, x with
    | .int k, .int _ n => some (.int k (k.wrap n))
    | .string, .str a => some (.str a)
    | _, _ => none
  | _, _ => none
theorem convV_ok (hT : TbOk P T) {s d : TypeId} {x v : AV} (e : convV T s d x = some v) {a : Value} (hx : VR l x a) : ∃ z, (convert s d a).run P w = .ok z w ∧ VR l v z := by
  unfold convV at e
  split at e
  · rename_i i j hi hj
    have h1 := hT.und _ _ hi
    have h2 := hT.und _ _ hj
    split at e
    · rename_i k n hd
      cases e
      cases hx
      rw [hd] at h2
      exact ⟨_, by simp [convert, run_underlying h1, run_underlying h2, Conv.intToInt], .int _ _⟩
    · rename_i a' hd
      cases e
      rw [hd] at h2
      cases hx with | str _ hs => ?_
      refine ⟨_, ?_, .str _ hs⟩
      simp [convert, run_underlying h1, run_underlying h2]
    · cases e
  · cases e

/-! maps -/
def sameV (d : TypeDesc) (x y : AV) : Option Bool :=
  match d, x, y with
  | .int _, .int k a, .int k' b => match decide (k = k') with
    | true => some (a == b)
    | false => none
  | .string, .str a, .str b => some (strEq a b)
  | .bool, .bool a, .bool b => some (a == b)
  | _, _, _ => none
theorem sameV_ok {d : TypeDesc} {x y : AV} {r : Bool} (e : sameV d x y = some r) {a b : Value} (hx : VR l x a) (hy : VR l y b) : Instr.sameNow d a b = some r := by
  unfold sameV at e
  split at e
  · split at e
    · rename_i hk
      have hk : _ = _ := of_decide_eq_true hk
      cases e; cases hx; cases hy
      simp [Instr.sameNow, hk]
    · cases e
  · cases e
    cases hx with | str _ h1 => ?_
    cases hy with | str _ h2 => ?_
    simp only [Instr.sameNow, Option.some.injEq]
    rw [beq_toListBytes, Bool.eq_iff_iff, strEq_iff, beq_iff_eq, bs_inj h1 h2]
  · cases e; cases hx; cases hy
    simp [Instr.sameNow]
  · cases e
def findV (d : TypeDesc) (k : AV) : List (AV × AV × Nat) → Nat → Option (Option (Nat × AV))
  | [], _ => some none
  | (k', v, _) :: es, i => match sameV d k k' with
    | some true => some (some (i, v))
    | some false => findV d k es (i + 1)
    | none => none
theorem findV_ok {d : TypeDesc} {k : AV} {a : Value} (hk : VR l k a) : ∀ {es : List (AV × AV × Nat)} {i : Nat} {r : Option (Nat × AV)} {xs : List MapEntry}, findV d k es i = some r → ERs l es xs →
    ∃ q, Instr.findNow d a xs i = some q ∧ (r = none → q = none) ∧ ∀ j v, r = some (j, v) → ∃ u, q = some (j, u) ∧ VR l v u ∧ i ≤ j ∧ j - i < es.length ∧ ∃ en, xs[j - i]? = some en ∧ Instr.sameNow d a en.key = some true
  | [], i, r, xs, e, hx => by
    cases hx; cases e
    exact ⟨none, rfl, fun _ => rfl, fun _ _ e => by cases e⟩
  | (k', v, n) :: es, i, r, xs, e, hx => by
    cases hx with
    | cons h1 h2 h3 =>
      rename_i kk vv xs
      unfold findV at e
      unfold Instr.findNow
      split at e
      · rename_i hs
        cases e
        simp only [sameV_ok hs hk h1]
        refine ⟨_, rfl, (fun e => by cases e), fun j v e => ?_⟩
        cases e
        exact ⟨vv, rfl, h2, Nat.le_refl _, by simp, ⟨kk, vv, n⟩, by simp, sameV_ok hs hk h1⟩
      · rename_i hs
        simp only [sameV_ok hs hk h1]
        obtain ⟨q, g1, g2, g3⟩ := findV_ok hk e h3
        refine ⟨q, g1, g2, fun j v e => ?_⟩
        obtain ⟨u, f1, f2, f3, f4, en, f5, f6⟩ := g3 j v e
        have hji : j - i = (j - (i + 1)) + 1 := by omega
        refine ⟨u, f1, f2, by omega, by rw [List.length_cons]; omega, en, ?_, f6⟩
        rw [hji, List.getElem?_cons_succ]; exact f5
      · cases e
def plainKey : TypeDesc → Bool
  | .int _ => true
  | .string => true
  | .bool => true
  | _ => false
theorem checkKey_plain (hT : TbOk P T) {t : TypeId} {i : TI} (hi : T.ty t = some i) (hp : plainKey i.und = true) (b : Bool) (a : Value) : (Instr.checkKey b 10000 t a).run P w = .ok () w := by
  show (Instr.checkKey b (9999 + 1) t a).run P w = .ok () w
  have h := run_und (w := w) hT hi
  unfold Instr.checkKey
  rw [Sem.run_bind, h]
  generalize i.und = d at *
  cases d <;> first | (cases hp; done) | rfl
def entriesV (H : Hp) : AV → Option (List (AV × AV × Nat))
  | .map none => some []
  | .map (some b) => match H.get b with
    | some (.map es _) => some es
    | _ => none
  | _ => none
def lookupV (T : Tb) (H : Hp) (t : TypeId) (x k : AV) (ok : Bool) : Option AV :=
  match T.ty t, entriesV H x with
  | some ⟨.map kt et, _, _, _, _⟩, some es => match T.ty kt, T.ty et with
    | some ki, some ei => match plainKey ki.und, findV ki.und k es 0, ei.zero with
      | true, some (some (_, v)), _ => some (match ok with | true => .tup [v, .bool true] | false => v)
      | true, some none, some z => some (match ok with | true => .tup [z, .bool false] | false => z)
      | _, _, _ => none
    | _, _ => none
  | _, _ => none
theorem lookupV_ok (hT : TbOk P T) (h : HR T.sz l H w) {t : TypeId} {x k v : AV} {ok : Bool} (e : lookupV T H t x k ok = some v) {a c : Value} (hx : VR l x a) (hk : VR l k c) : ∃ z, (Instr.lookup t a c ok).run P w = .ok z w ∧ VR l v z := by
  unfold lookupV at e
  split at e
  · rename_i kt et _ _ _ _ es ht he
    split at e
    · rename_i ki ei hki hei
      have key : ∃ xs : List MapEntry, ERs l es xs ∧ ((a = .map none ∧ xs = []) ∨ ∃ r c', a = .map (some r) ∧ w.heap[r]? = some (.map xs.toArray c')) := by
        unfold entriesV at he
        split at he
        · cases he; cases hx
          exact ⟨[], .nil, .inl ⟨rfl, rfl⟩⟩
        · split at he
          · rename_i b es' c' hb
            cases he
            cases hx with | map hl => ?_
            obtain ⟨k1, κ1, xs, h1, h2, h3⟩ := h.map_ hb
            rw [hl] at h1
            cases h1
            exact ⟨xs, h3, .inr ⟨_, _, rfl, h2⟩⟩
          · cases he
        · cases he
      obtain ⟨xs, hxs, hgo⟩ := key
      have fin : ∀ q, Instr.findNow ki.und c xs 0 = some q → plainKey ki.und = true → (Instr.lookup t a c ok).run P w = ((do
          let (v, o) ← match q with | some (_, v) => pure (v, true) | none => (do pure (← zeroValue et, false))
          pure (if ok then .tuple #[v, .bool o] else v) : Sem Value)).run P w := by
        intro q hq hp
        unfold Instr.lookup Instr.findKey
        rcases hgo with ⟨rfl, rfl⟩ | ⟨r, c', rfl, hr⟩
        · simp only [Sem.run_bind, run_und hT ht, Result.andThen_ok, Sem.run_pure, checkKey_plain hT hki hp, run_und hT hki, hq]
          rcases q with _ | ⟨_, _⟩ <;> simp
        · simp only [Sem.run_bind, run_und hT ht, Result.andThen_ok, run_getMap hr, Sem.run_pure, checkKey_plain hT hki hp, run_und hT hki, hq]
          rcases q with _ | ⟨_, _⟩ <;> simp
      split at e
      · rename_i j v' hp hf
        obtain ⟨q, g1, -, g3⟩ := findV_ok hk hf hxs
        obtain ⟨u, rfl, hu, -⟩ := g3 j v' rfl
        rw [fin _ g1 hp]
        cases ok <;> cases e
        · exact ⟨_, rfl, hu⟩
        · exact ⟨_, rfl, .tup (.cons hu (.cons (.bool _) .nil))⟩
      · rename_i z hp hf hz
        obtain ⟨q, g1, g2, -⟩ := findV_ok hk hf hxs
        cases g2 rfl
        rw [fin _ g1 hp]
        obtain ⟨x0, q1, q2⟩ := run_zeroV (w := w) hT hei hz
        cases ok <;> cases e
        · exact ⟨_, by simp [q1], q2 l⟩
        · exact ⟨_, by simp [q1], .tup (.cons (q2 l) (.cons (.bool _) .nil))⟩
      · cases e
    · cases e
  · cases e
def makeMapV (H : Hp) : AV × Hp := (.map (some H.nx), H.new (.map [] 0))
theorem makeMapV_ok (h : HR T.sz l H w) (t : TypeId) : Gives P T.sz lo l H w (Instr.makeMap t none) (makeMapV H).1 (makeMapV H).2 := by
  refine ⟨l.upd H.nx (w.heap.size, 0), _, _, ?_, .map (Env.upd_at _ _ _), Kp.alloc h 0 (o := .map [] 0) (.map 0 .nil)⟩
  simp [Instr.makeMap]
def setEs : List (AV × AV × Nat) → Nat → AV → AV → List (AV × AV × Nat)
  | [], _, _, _ => []
  | (_, _, n) :: es, 0, k, v => (k, v, n) :: es
  | e :: es, i + 1, k, v => e :: setEs es i k v
def updateV (T : Tb) (H : Hp) (lo : Nat) (t : TypeId) (x k v : AV) : Option Hp :=
  match T.ty t, x with
  | some ⟨.map kt _, _, _, _, _⟩, .map (some b) => match T.ty kt, H.get b, Nat.ble lo b with
    | some ki, some (.map es c), true => match plainKey ki.und, findV ki.und k es 0 with
      | true, some (some (j, _)) => some (H.put b (.map (setEs es j k v) c))
      | true, some none => some (H.put b (.map (es ++ [(k, v, c)]) (c + 1)))
      | _, _ => none
    | _, _, _ => none
  | _, _ => none
theorem ERs.append {l : Env} : ∀ {a x b y}, ERs l a x → ERs l b y → ERs l (a ++ b) (x ++ y)
  | _, _, _, _, .nil, h => h
  | _, _, _, _, .cons h h1 h', h2 => .cons h h1 (ERs.append h' h2)
theorem setEs_ok {k v : AV} {a b : Value} (hk : VR l k a) (hv : VR l v b) : ∀ {es : List (AV × AV × Nat)} {xs : List MapEntry} (i : Nat), ERs l es xs → ERs l (setEs es i k v) (xs.modify i fun e => { e with key := a, val := b })
  | _, _, _, .nil => by simp [setEs]; exact .nil
  | _, _, 0, .cons h1 h2 h3 => .cons hk hv h3
  | _, _, i + 1, .cons h1 h2 h3 => .cons h1 h2 (setEs_ok hk hv i h3)
theorem sameBits_of {d : TypeDesc} {a b : Value} (h : Instr.sameNow d a b = some true) : Instr.sameBits 10000 b a = true := by
  unfold Instr.sameNow at h
  split at h
  · split at h
    · rename_i hk
      have h := Option.some.inj h
      rw [beq_iff_eq] at h
      subst hk h
      simp [Instr.sameBits]
    · cases h
  · have h := Option.some.inj h
    rw [beq_toListBytes, beq_iff_eq] at h
    simp only [Instr.sameBits]
    rw [beq_toListBytes, h]; simp
  · have h := Option.some.inj h
    rw [beq_iff_eq] at h
    subst h; simp [Instr.sameBits]
  · cases h
theorem updateV_ok (hT : TbOk P T) (h : HR T.sz l H w) {t : TypeId} {x k v : AV} {H' : Hp} (e : updateV T H lo t x k v = some H') {a c d : Value} (hx : VR l x a) (hk : VR l k c) (hv : VR l v d) :
    ∃ w', (Instr.mapUpdate t a c d).run P w = .ok () w' ∧ Kp T.sz lo l H w l H' w' := by
  unfold updateV at e
  split at e
  · rename_i kt et _ _ _ _ b ht
    cases hx with | map hl => ?_
    rename_i r κ
    split at e
    · rename_i ki es ck hki hb hlo
      rw [Nat.ble_eq] at hlo
      obtain ⟨k1, κ1, xs, h1, h2, h3⟩ := h.map_ hb
      rw [hl] at h1
      cases h1
      have hset : ∀ o : Obj, (setObj r o).run P w = .ok () { w with heap := w.heap.setIfInBounds r o } := by
        intro o
        simp [setObj, Sem.run, h2]
      have hlt := (Array.getElem?_eq_some_iff.1 h2).1
      have done : ∀ (o' : AObj) (o : Obj), OR T.sz l κ o' o → Kp T.sz lo l H w l (H.put b o') { w with heap := w.heap.setIfInBounds r o } := fun o' o hor =>
        Kp.turn h hb hl hlo (by simp) (fun j hj => by simp only; rw [Array.getElem?_setIfInBounds_ne (fun e => hj e.symm)]) (x := o) (by simp [hlt]) hor rfl rfl rfl
      split at e
      · rename_i j v0 hp hf
        cases e
        obtain ⟨q, g1, -, g3⟩ := findV_ok hk hf h3
        obtain ⟨u, rfl, -, -, -, en, f5, f6⟩ := g3 j v0 rfl
        refine ⟨_, ?_, done _ (.map (xs.modify j fun e => { e with key := c, val := d }).toArray ck) (.map ck (setEs_ok hk hv j h3))⟩
        have hen : xs.toArray[j]? = some en := by simpa using f5
        have hkey : (Instr.keyThatStays (((xs.toArray[j]?).map (·.key)).getD c) c).run P w = .ok c w := by
          rw [hen]
          simp [Instr.keyThatStays, sameBits_of f6]
        have hmod : (xs.toArray.modify j fun e => { e with key := c, val := d }) = (xs.modify j fun e => { e with key := c, val := d }).toArray := by
          apply Array.ext'
          simp
        unfold Instr.mapUpdate Instr.findKey
        simp only [Sem.run_bind, run_und hT ht, Result.andThen_ok, run_getMap h2, checkKey_plain hT hki hp, run_und hT hki, g1, Sem.run_pure, hkey, hmod, hset]
      · rename_i hp hf
        cases e
        obtain ⟨q, g1, g2, -⟩ := findV_ok hk hf h3
        cases g2 rfl
        refine ⟨_, ?_, done _ (.map (xs ++ [(⟨c, d, ck⟩ : MapEntry)]).toArray (ck + 1)) (.map (ck + 1) (h3.append (.cons hk hv .nil)))⟩
        unfold Instr.mapUpdate Instr.findKey
        have hpush : xs.toArray.push (⟨c, d, ck⟩ : MapEntry) = (xs ++ [(⟨c, d, ck⟩ : MapEntry)]).toArray := by simp
        simp only [Sem.run_bind, run_und hT ht, Result.andThen_ok, run_getMap h2, checkKey_plain hT hki hp, run_und hT hki, g1, Sem.run_pure, hpush, hset]
      · cases e
    · cases e
  · cases e
/-! make -/
def makeSliceV (T : Tb) (H : Hp) (t : TypeId) (n c : Nat) : Option (AV × Hp) :=
  match T.ty t with
  | some ⟨.slice e, _, _, _, _⟩ => match T.ty e with
    | some ⟨_, size, bytes, some z, _⟩ => match Nat.ble n c, Nat.ble (bytes * c) 1000000000, Nat.ble c 1000000000, Nat.ble (c * size) 1000000 with
      | true, true, true, true => match Nat.beq (avCells z).length size, Nat.beq size 0 with
        | true, false => some (.sl H.nx 0 n c, H.new (.cells e (zerosL (avCells z) (c * size)) false))
        | _, _ => none
      | _, _, _, _ => none
    | _ => none
  | _ => none
theorem makeSliceV_ok (hT : TbOk P T) (h : HR T.sz l H w) {t : TypeId} {n c : Nat} {v : AV} {H' : Hp} (e : makeSliceV T H t n c = some (v, H')) (k k' : IntKind) : Gives P T.sz lo l H w (Instr.makeSlice t (.int k (n : Int)) (.int k' (c : Int))) v H' := by
  unfold makeSliceV at e
  split at e
  · rename_i el _ _ _ _ ht
    split at e
    · rename_i size bytes z _ hel
      split at e
      · rename_i g1 g2 g3 g4
        rw [Nat.ble_eq] at g1 g2 g3 g4
        split at e
        · rename_i hzl hs0
          have hzl := Nat.eq_of_beq_eq_true hzl
          have hs0 := Nat.ne_of_beq_eq_false hs0
          cases e
          obtain ⟨fi, q1, q2, q3, q4⟩ := hT.info _ _ hel
          obtain ⟨z0, zx, q5, q6⟩ := q4 z rfl
          simp only at q2 q3
          have hzs := (avCells_ok (q6 l) z0).length
          have hz : VRs l (zerosL (avCells z) (c * size)) ((List.range (c * size)).map fun i => zx.cells.toList.getD (i % (avCells z).length) undef) :=
            VRs.map _ fun i _ => (avCells_ok (q6 l) z0).getD (Nat.mod_lt _ (by omega))
          have hmade : madeCells zx.cells (c * size) = ((List.range (c * size)).map fun i => zx.cells.toList.getD (i % (avCells z).length) undef).toArray := by
            apply Array.ext'
            simp only [madeCells, Array.toList_map, Array.toList_range]
            apply List.map_congr_left
            intro i _
            have e1 : zx.cells.size = (avCells z).length := by rw [hzs]; simp
            have e2 : i % (avCells z).length < zx.cells.size := by rw [e1]; exact Nat.mod_lt _ (by omega)
            rw [e1, getElem!_pos zx.cells _ e2]
            simp [List.getD, e2]
          have hbb : (fi.bytes : Int) * (c : Int) ≤ 281474976710656 := by
            have h1 : ((bytes * c : Nat) : Int) ≤ 1000000000 := by omega
            rw [Int.natCast_mul] at h1
            rw [q3]; omega
          have hr := run_make (P := P) w t el fi zx (hT.und _ _ ht) q1 q5 k k' (n : Int) (c : Int) (by omega) (by omega) hbb (by omega)
          rw [Int.toNat_natCast, Int.toNat_natCast, q2, hmade] at hr
          obtain ⟨l', -, h4, h5⟩ := newRow_ok (P := P) (lo := lo) h el hz
          exact ⟨l', _, _, hr, .sl _ _ _ h4, h5⟩
        · cases e
      · cases e
    · cases e
  · cases e
/-! a text's bytes -/
def bytesV (T : Tb) (H : Hp) (s d : TypeId) (x : AV) : Option (AV × Hp) :=
  match T.ty s, T.ty d, x with
  | some _, some ⟨.slice e, _, _, _, _⟩, .str a => match T.ty e with
    | some ⟨.int .u8, _, _, _, _⟩ => match Nat.beq (T.sz e) 1 with
      | true => some (.slo H.nx 0 a.length 0, H.new (.cells e (a.map fun c => .int .u8 (.ofNat c)) true))
      | false => none
    | _ => none
  | _, _, _ => none
theorem bytesV_ok (hT : TbOk P T) (h : HR T.sz l H w) {s d : TypeId} {x v : AV} {H' : Hp} (e : bytesV T H s d x = some (v, H')) {a : Value} (hx : VR l x a) : Gives P T.sz lo l H w (convert s d a) v H' := by
  unfold bytesV at e
  split at e
  · rename_i i el _ _ _ _ a0 hs hd
    split at e
    · rename_i hel
      split at e
      · rename_i hsz
        have hsz := Nat.eq_of_beq_eq_true hsz
        cases e
        cases hx with | str _ hlt => ?_
        have hlen : (bs a0).size = a0.length := by simp [bs, ByteArray.size]
        have hge := grownCap_ge w a0.length 0 el
        have hr := Lib.run_convert_string_bytes (P := P) w s d el (bs a0) (hT.und _ _ hs) (hT.und _ _ hd) (hT.und _ _ hel)
        rw [hlen] at hr
        have hcells : Lib.bytesCells w el (bs a0) = ((a0.map fun (c : Nat) => Value.int .u8 (c : Int)) ++ List.replicate (grownCap w a0.length 0 el - a0.length) (Value.int .u8 0)).toArray := by
          unfold Lib.bytesCells
          rw [hlen]
          apply Array.ext'
          simp only [Array.toList_append, Array.toList_map, Array.toList_replicate]
          congr 1
          simp only [bs, List.map_map]
          apply List.map_congr_left
          intro c hc
          simp [Nat.mod_eq_of_lt (hlt c hc)]
        refine ⟨l.upd H.nx (w.heap.size, grownCap w a0.length 0 el), _, _, hr, .slo 0 a0.length 0 (Env.upd_at _ _ _) (by rw [Nat.zero_add]; exact hge), ?_⟩
        refine Kp.born h (grownCap w a0.length 0 el) (x := .cells (Lib.bytesCells w el (bs a0)) el ((Lib.bytesCells w el (bs a0)).size, (Lib.bytesCells w el (bs a0)).size + 1)) ?_ (Lib.bytesWorld_size w el (bs a0)) (Lib.bytesWorld_at_new w el (bs a0)) (fun j hj => Lib.bytesWorld_at_old w el (bs a0) j hj) ?_ ?_ ?_
        · rw [hcells]
          refine .opn (VRs.map a0 fun c _ => .int _ _) ?_ (.inr ?_)
          · rw [hsz, List.length_append, List.length_map, List.length_replicate]; omega
          · simp
        · simp [Lib.bytesWorld, World.freeze, World.alloc, World.drew, -World.alloc_eq, -World.drew_eq]
        · simp [Lib.bytesWorld, World.freeze, World.alloc, World.drew, -World.alloc_eq, -World.drew_eq]
        · simp [Lib.bytesWorld, World.freeze, World.alloc, World.drew, -World.alloc_eq, -World.drew_eq]
      · cases e
    · cases e
  · cases e
/-! bytes' text -/
def u8sL : List AV → Option (List Nat)
  | [] => some []
  | .int .u8 (.ofNat n) :: r => match Nat.blt n 256, u8sL r with
    | true, some l => some (n :: l)
    | _, _ => none
  | _ => none
def stringV (T : Tb) (H : Hp) (s d : TypeId) (x : AV) : Option (AV × Hp) :=
  match T.ty s, T.ty d with
  | some ⟨.slice e, _, _, _, _⟩, some ⟨.string, _, _, _, _⟩ => match T.ty e with
    | some ⟨.int .u8, _, _, _, _⟩ => match (match x with | .nils => some [] | .sl b o n _ => loadL H b o n | .slo b o n _ => loadL H b o n | _ => none) with
      | some cs => match u8sL cs with
        | some l => some (.str l, H)
        | none => none
      | none => none
    | _ => none
  | _, _ => none
theorem u8sL_ok : ∀ {cs : List AV} {r : List Nat} {xs : List Value}, u8sL cs = some r → VRs l cs xs → xs = r.map (fun (n : Nat) => Value.int .u8 (n : Int)) ∧ ∀ n ∈ r, n < 256
  | [], r, xs, e, h => by cases e; cases h; exact ⟨rfl, fun n hn => by cases hn⟩
  | c :: cs, r, xs, e, h => by
    unfold u8sL at e
    split at e
    · rename_i hh; cases hh
    · rename_i n cs' hh
      cases hh
      split at e
      · rename_i r' hn hr
        cases e
        cases h with | cons h1 h2 => ?_
        cases h1
        obtain ⟨g1, g2⟩ := u8sL_ok hr h2
        subst g1
        refine ⟨rfl, fun m hm => ?_⟩
        rcases List.mem_cons.1 hm with rfl | hm
        · simpa [Nat.blt_eq] using hn
        · exact g2 m hm
      · cases e
    · cases e
theorem pushAll (l : List Nat) : ∀ s : ByteArray, (forIn (m := Sem) (l.map fun (n : Nat) => Value.int .u8 (n : Int)) s fun c s => (match c with | .int .u8 n => pure (ForInStep.yield (s.push (UInt8.ofNat n.toNat))) | _ => (do stuck "bytesToString: byte expected"; pure (ForInStep.yield s)) : Sem (ForInStep ByteArray))) = pure (s ++ bs l) := by
  induction l with
  | nil =>
    intro s
    simp only [List.map_nil, List.forIn_nil]
    congr 1
    apply ByteArray.ext
    simp [bs]
  | cons a l ih =>
    intro s
    simp only [List.map_cons, List.forIn_cons, pure_bind, ih]
    congr 1
    apply ByteArray.ext
    simp [bs, ByteArray.push]
theorem stringV_ok (hT : TbOk P T) (h : HR T.sz l H w) {s d : TypeId} {x v : AV} {H' : Hp} (e : stringV T H s d x = some (v, H')) {a : Value} (hx : VR l x a) : Gives P T.sz lo l H w (convert s d a) v H' := by
  unfold stringV at e
  split at e
  · rename_i el _ _ _ _ _ _ _ _ hs hd
    split at e
    · rename_i hel
      split at e
      · rename_i cs hcs
        split at e
        · rename_i r hr
          cases e
          have hne : ∀ b n c, (convert s d (.slice b n c)).run P w = (Conv.bytesToString (.slice b n c)).run P w := fun b n c => by
            simp [convert, run_underlying (hT.und _ _ hs), run_underlying (hT.und _ _ hd), run_underlying (hT.und _ _ hel)]
          have fin : ∀ k o n c xs, w.rangeAt k o xs → xs.length = n → VRs l cs xs → ∃ z, (convert s d (.slice (some ⟨k, o, none⟩) n c)).run P w = .ok z w ∧ VR l (.str r) z := by
            intro k o n c xs h1 h2 h3
            obtain ⟨g1, g2⟩ := u8sL_ok hr h3
            refine ⟨_, ?_, .str r g2⟩
            rw [hne]
            unfold Conv.bytesToString
            subst h2
            simp only [Sem.run_bind, loadCells_run h1, Result.andThen_ok]
            subst g1
            have := pushAll r ByteArray.empty
            simp only [List.forIn_toArray]
            refine (congrArg (fun z => (Sem.run P z w).andThen fun a w' => Sem.run P (pure (Value.string a)) w') this).trans ?_
            simp only [Sem.run_pure, Result.andThen_ok]
            congr 2
          cases hx <;> first | (cases hcs; done) | skip
          · cases hcs
            cases hr
            refine .pure h ?_ (.str [] (fun x hx => by cases hx))
            rw [hne]; rfl
          · rename_i b k κ o n c hl
            obtain ⟨k', κ', xs, h1, h2, h3, h4⟩ := loadL_ok h hcs
            rw [hl] at h1
            cases h1
            obtain ⟨z, h5, h6⟩ := fin _ o n c xs h2 h4 h3
            exact .pure h h5 h6
          · rename_i b k κ o n c hl hd
            obtain ⟨k', κ', xs, h1, h2, h3, h4⟩ := loadL_ok h hcs
            rw [hl] at h1
            cases h1
            obtain ⟨z, h5, h6⟩ := fin _ o n _ xs h2 h4 h3
            exact .pure h h5 h6
        · cases e
      · cases e
    · cases e
  · cases e
/-- A conversion that makes a block, or looks at one. -/
def convHV (T : Tb) (H : Hp) (lo : Nat) (s d : TypeId) (x : AV) : Option (AV × Hp) :=
  match bytesV T H s d x with
  | some r => some r
  | none => match stringV T H s d x with
    | some r => some r
    | none => markV T H lo s d x
theorem convHV_ok (hT : TbOk P T) (h : HR T.sz l H w) {s d : TypeId} {x v : AV} {H' : Hp} (e : convHV T H lo s d x = some (v, H')) {a : Value} (hx : VR l x a) : Gives P T.sz lo l H w (convert s d a) v H' := by
  unfold convHV at e
  split at e
  · rename_i h1; cases e; exact bytesV_ok hT h h1 hx
  · split at e
    · rename_i h1; cases e; exact stringV_ok hT h h1 hx
    · exact markV_ok hT h e hx
end Go.Proofs.YtbjpkfaiofkmdaaGreatDoor.Ev
