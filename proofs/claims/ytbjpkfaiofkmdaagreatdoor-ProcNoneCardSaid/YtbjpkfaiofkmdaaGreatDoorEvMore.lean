/-
  A RECKONER OF CLOSED CALLS: lengths of channels, copy, clear, delete, type assertions. No program in sight; no condition.
-/
import Derived.Test.YtbjpkfaiofkmdaaGreatDoorEv9
import Derived.Lib.UnsafeStr
namespace Go.Proofs.YtbjpkfaiofkmdaaGreatDoor.Ev
open Go Go.RowKit

variable {P : Program} {T : Tb} {lo : Nat} {l : Env} {H : Hp} {w : World} {f : Tr AV} {ρ : Operand → Value}

theorem HR.chan_ {sz : TypeId → Nat} (h : HR sz l H w) {b cap : Nat} {buf : List AV} {cl : Bool} {s r : Nat} (hb : H.get b = some (.chan cap buf cl s r)) : ∃ k κ xs, l b = some (k, κ) ∧ w.heap[k]? = some (.chan cap xs.toArray cl s r false) ∧ VRs l buf xs := by
  obtain ⟨k, κ, x, h1, h2, h3⟩ := h.obj b _ hb
  cases h3
  exact ⟨k, κ, _, h1, h2, by assumption⟩
theorem run_getObj {k cap s r : Nat} {buf : Array Value} {cl tm : Bool} (h : w.heap[k]? = some (.chan cap buf cl s r tm)) : (getObj k).run P w = .ok (.chan cap buf cl s r tm) w := by
  simp [getObj, Sem.run, h]
def lenCV (T : Tb) (H : Hp) (t : TypeId) (x : AV) : Option Nat :=
  match T.ty t with
  | some ⟨.chan _ _, _, _, _, _⟩ => match x with
    | .chan none => some 0
    | .chan (some b) => match H.get b with
      | some (.chan _ buf _ _ _) => some buf.length
      | _ => none
    | _ => none
  | _ => none
theorem lenCV_ok (hT : TbOk P T) (h : HR T.sz l H w) {t ty : TypeId} {x : AV} {n : Nat} (e : lenCV T H t x = some n) {a : Value} (hx : VR l x a) (ts : Array TypeId) (ht0 : ts[0]? = some t) : (Builtin.len_ ts ty #[a]).run P w = .ok (.int .i64 (n : Int)) w := by
  unfold lenCV at e
  split at e
  · rename_i ht
    split at e
    · cases e
      cases hx
      simp [Builtin.len_, ht0, run_und hT ht, goInt]
    · split at e
      · rename_i hb
        cases e
        cases hx with | chan hl => ?_
        obtain ⟨k, κ, xs, h1, h2, h3⟩ := h.chan_ hb
        rw [hl] at h1
        cases h1
        simp [Builtin.len_, ht0, run_und hT ht, run_getObj h2, goInt, h3.length]
      · cases e
    · cases e
  · cases e
def capV (T : Tb) (t : TypeId) (x : AV) : Option Nat :=
  match T.ty t with
  | some ⟨.slice _, _, _, _, _⟩ => match x with
    | .nils => some 0
    | .sl _ _ _ c => some c
    | _ => none
  | _ => none
theorem capV_ok (hT : TbOk P T) {t ty : TypeId} {x : AV} {n : Nat} (e : capV T t x = some n) {a : Value} (hx : VR l x a) (ts : Array TypeId) (ht0 : ts[0]? = some t) : (Builtin.cap_ ts ty #[a]).run P w = .ok (.int .i64 (n : Int)) w := by
  unfold capV at e
  split at e
  · rename_i ht
    split at e <;> cases e <;> cases hx <;> simp [Builtin.cap_, ht0, run_und hT ht, goInt]
  · cases e

/-! copy, clear -/
def rowLenV : AV → Option Nat
  | .nils => some 0
  | .sl _ _ n _ => some n
  | .slo _ _ n _ => some n
  | .str s => some s.length
  | _ => none
theorem rowLenV_ok {x : AV} {n : Nat} (e : rowLenV x = some n) {a : Value} (hx : VR l x a) : ∀ w', (Builtin.lenOf a).run P w' = .ok n w' := by
  unfold rowLenV at e
  split at e <;> cases e <;> cases hx <;> intro w' <;> simp [Builtin.lenOf, bs, ByteArray.size]
def firstV (H : Hp) (size n : Nat) : AV → Option (List AV)
  | .nils => some []
  | .sl b o _ _ => loadL H b o (n * size)
  | .slo b o _ _ => loadL H b o (n * size)
  | .str s => some ((s.take n).map fun c => .int .u8 (.ofNat c))
  | _ => none
theorem firstV_ok (h : HR T.sz l H w) {size n : Nat} {x : AV} {cs : List AV} (e : firstV H size n x = some cs) {a : Value} (hx : VR l x a) : ∃ xs, (Builtin.firstCells size n a).run P w = .ok xs.toArray w ∧ VRs l cs xs := by
  unfold firstV at e
  split at e
  · cases e; cases hx
    exact ⟨[], rfl, .nil⟩
  · cases hx with | sl _ _ _ hl => ?_
    obtain ⟨k, κ, xs, h1, h2, h3, h4⟩ := loadL_ok h e
    rw [hl] at h1
    cases h1
    refine ⟨xs, ?_, h3⟩
    show (loadCells _ (n * size)).run P w = _
    rw [← h4]; exact loadCells_run h2
  · cases hx with | slo _ _ _ hl hd => ?_
    obtain ⟨k, κ, xs, h1, h2, h3, h4⟩ := loadL_ok h e
    rw [hl] at h1
    cases h1
    refine ⟨xs, ?_, h3⟩
    show (loadCells _ (n * size)).run P w = _
    rw [← h4]; exact loadCells_run h2
  · rename_i s
    cases e
    cases hx with | str _ hs => ?_
    refine ⟨(s.take n).map fun (c : Nat) => Value.int .u8 (c : Int), ?_, VRs.map _ fun c _ => .int _ _⟩
    simp only [Builtin.firstCells, Sem.run_pure]
    congr 1
    apply Array.ext'
    have e1 : ((bs s).extract 0 n).data.toList = ((s.map UInt8.ofNat).take n) := by
      simp [bs, ByteArray.data_extract]
    simp only [Array.toList_map, e1]
    rw [← List.map_take, List.map_map]
    apply List.map_congr_left
    intro c hc
    simp [Nat.mod_eq_of_lt (hs c (List.mem_of_mem_take hc))]
  · cases e
theorem storeCells_run (h : HR T.sz l H w) {b o : Nat} {vs : List AV} {H' : Hp} (e : storeH H lo b o vs = some H') {xs : List Value} (hx : VRs l vs xs) {k κ : Nat} (hl : l b = some (k, κ)) :
    ∃ w', (storeCells ⟨k, o, none⟩ xs).run P w = .ok () w' ∧ Kp T.sz lo l H w l H' w' := by
  obtain ⟨k', κ', h1, h2, h3, h4⟩ := storeH_ok h e hx
  rw [hl] at h1
  cases h1
  refine ⟨_, ?_, h4⟩
  have hst := run_storeCells_cells (P := P) k o xs 0 w (fun j hj => by simpa using (h2 j hj).1) (fun j hj => by simpa using (h2 j hj).2) h3
  simpa using hst
/-- Where a row's cells lie. -/
def rowAtV : AV → Option (Option (Nat × Nat) × Nat)
  | .nils => some (none, 0)
  | .sl b o n _ => some (some (b, o), n)
  | .slo b o n _ => some (some (b, o), n)
  | _ => none
theorem rowAtV_ok {x : AV} {r : Option (Nat × Nat) × Nat} (e : rowAtV x = some r) {a : Value} (hx : VR l x a) : ∃ q c, a = .slice q r.2 c ∧ (r.1 = none → q = none) ∧ ∀ b o, r.1 = some (b, o) → ∃ k κ, l b = some (k, κ) ∧ q = some ⟨k, o, none⟩ := by
  unfold rowAtV at e
  split at e
  · cases e; cases hx
    exact ⟨_, _, rfl, fun _ => rfl, fun _ _ h => by cases h⟩
  · cases e
    cases hx with | sl _ _ _ hl => ?_
    exact ⟨_, _, rfl, (fun h => by cases h), fun _ _ h => by cases h; exact ⟨_, _, hl, rfl⟩⟩
  · cases e
    cases hx with | slo _ _ _ hl hd => ?_
    exact ⟨_, _, rfl, (fun h => by cases h), fun _ _ h => by cases h; exact ⟨_, _, hl, rfl⟩⟩
  · cases e
def copyV (T : Tb) (H : Hp) (lo : Nat) (t : TypeId) (d s : AV) : Option (AV × Hp) :=
  match T.ty t with
  | some ⟨.slice e, _, _, _, _⟩ => match T.ty e, rowAtV d, rowLenV s with
    | some i, some (q, dn), some sn => match firstV H i.size (Nat.min sn dn) s with
      | some cs => match q with
        | none => some (.int .i64 (.ofNat (Nat.min sn dn)), H)
        | some (b, o) => match storeH H lo b o cs with
          | some H' => some (.int .i64 (.ofNat (Nat.min sn dn)), H')
          | none => none
      | none => none
    | _, _, _ => none
  | _ => none
theorem copyV_ok (hT : TbOk P T) (h : HR T.sz l H w) {t ty : TypeId} {d s v : AV} {H' : Hp} (e : copyV T H lo t d s = some (v, H')) {a b : Value} (ha : VR l d a) (hb : VR l s b) (ts : Array TypeId) (ht0 : ts[0]? = some t) :
    Gives P T.sz lo l H w (Builtin.copy_ ts ty #[a, b]) v H' := by
  unfold copyV at e
  split at e
  · rename_i el _ _ _ _ ht
    split at e
    · rename_i i q dn sn hi hd hs
      split at e
      · rename_i cs hcs
        obtain ⟨q', c, rfl, g1, g2⟩ := rowAtV_ok hd ha
        have hlen := rowLenV_ok (P := P) hs hb
        obtain ⟨xs, k1, k2⟩ := firstV_ok (P := P) h hcs hb
        split at e
        · cases e
          have := g1 rfl
          subst this
          exact .pure h (by simp [Builtin.copy_, ht0, run_und hT ht, run_size hT hi, hlen, k1, goInt]) (.int _ _)
        · rename_i b0 o0
          split at e
          · rename_i H1 hst
            cases e
            obtain ⟨k, κ, f1, rfl⟩ := g2 _ _ rfl
            obtain ⟨w', s1, s2⟩ := storeCells_run (P := P) h hst k2 f1
            refine ⟨l, _, w', ?_, .int _ _, s2⟩
            simp [Builtin.copy_, ht0, run_und hT ht, run_size hT hi, hlen, k1, s1, goInt]
          · cases e
      · cases e
    · cases e
  · cases e
def clearV (T : Tb) (H : Hp) (lo : Nat) (t : TypeId) (x : AV) : Option (AV × Hp) :=
  match T.ty t with
  | some ⟨.slice e, _, _, _, _⟩ => match T.ty e, rowAtV x with
    | some i, some (q, n) => match Nat.beq n 0, q, i.zero with
      | true, _, _ => some (.tup [], H)
      | false, some (b, o), some z => match Nat.beq (avCells z).length 0 with
        | true => none
        | false => match storeH H lo b o (zerosL (avCells z) (n * (avCells z).length)) with
          | some H' => some (.tup [], H')
          | none => none
      | _, _, _ => none
    | _, _ => none
  | _ => none
theorem clearV_ok (hT : TbOk P T) (h : HR T.sz l H w) {t ty : TypeId} {x v : AV} {H' : Hp} (e : clearV T H lo t x = some (v, H')) {a : Value} (ha : VR l x a) (ts : Array TypeId) (ht0 : ts[0]? = some t) :
    Gives P T.sz lo l H w (Builtin.clear_ ts ty #[a]) v H' := by
  unfold clearV at e
  split at e
  · rename_i el _ _ _ _ ht
    split at e
    · rename_i i q n hi hx
      obtain ⟨q', c, rfl, g1, g2⟩ := rowAtV_ok hx ha
      split at e
      · rename_i hn
        have hn := Nat.eq_of_beq_eq_true hn
        subst hn
        cases e
        exact .pure h (by cases q' <;> simp [Builtin.clear_, ht0, run_und hT ht]) (.tup .nil)
      · rename_i b o z hn hz
        have hn := Nat.ne_of_beq_eq_false hn
        split at e
        · cases e
        · rename_i hz0
          have hz0 := Nat.ne_of_beq_eq_false hz0
          split at e
          · rename_i H1 hst
            cases e
            obtain ⟨k, κ, f1, rfl⟩ := g2 _ _ rfl
            obtain ⟨zx, q1, q2⟩ := run_zero (w := w) hT hi hz
            obtain ⟨zv, q3, q4⟩ := run_zeroV (w := w) hT hi hz
            have hzx : zv = zx := by rw [q1] at q3; cases q3; rfl
            subst hzx
            have hxl := (q2 l).length
            have hzc : VRs l (zerosL (avCells z) (n * (avCells z).length)) (Builtin.zeroCells zv.cells n).toList := by
              have e1 : (Builtin.zeroCells zv.cells n).toList = (List.range (n * (avCells z).length)).map fun i => zv.cells.toList.getD (i % (avCells z).length) undef := by
                have e0 : zv.cells.size = (avCells z).length := by rw [hxl]; simp
                simp only [Builtin.zeroCells, Array.toList_map, Array.toList_range, e0]
                apply List.map_congr_left
                intro i _
                have e2 : i % (avCells z).length < zv.cells.size := by rw [e0]; exact Nat.mod_lt _ (by omega)
                rw [getElem!_pos zv.cells _ e2]
                simp [List.getD, e2]
              rw [e1]
              exact VRs.map _ fun i _ => (q2 l).getD (Nat.mod_lt _ (by omega))
            obtain ⟨w', s1, s2⟩ := storeCells_run (P := P) h hst hzc f1
            refine ⟨l, _, w', ?_, .tup .nil, s2⟩
            obtain ⟨m, rfl⟩ : ∃ m, n = m + 1 := ⟨n - 1, by omega⟩
            simp [Builtin.clear_, ht0, run_und hT ht, q1, s1]
          · cases e
      · cases e
    · cases e
  · cases e

/-! delete -/
def eraseEs : List (AV × AV × Nat) → Nat → List (AV × AV × Nat)
  | [], _ => []
  | _ :: es, 0 => es
  | e :: es, i + 1 => e :: eraseEs es i
theorem eraseEs_ok : ∀ {es : List (AV × AV × Nat)} {xs : List MapEntry} (i : Nat), ERs l es xs → ERs l (eraseEs es i) (xs.eraseIdx i)
  | _, _, _, .nil => by simp [eraseEs]; exact .nil
  | _, _, 0, .cons h1 h2 h3 => h3
  | _, _, i + 1, .cons h1 h2 h3 => .cons h1 h2 (eraseEs_ok i h3)
def deleteV (T : Tb) (H : Hp) (lo : Nat) (t : TypeId) (x k : AV) : Option (AV × Hp) :=
  match T.ty t, x with
  | some ⟨.map kt _, _, _, _, _⟩, .map (some b) => match T.ty kt, H.get b, Nat.ble lo b with
    | some ki, some (.map es c), true => match plainKey ki.und, findV ki.und k es 0 with
      | true, some (some (j, _)) => some (.tup [], H.put b (.map (eraseEs es j) c))
      | true, some none => some (.tup [], H.put b (.map es c))
      | _, _ => none
    | _, _, _ => none
  | _, _ => none
theorem deleteV_ok (hT : TbOk P T) (h : HR T.sz l H w) {t ty : TypeId} {x k v : AV} {H' : Hp} (e : deleteV T H lo t x k = some (v, H')) {a d : Value} (ha : VR l x a) (hk : VR l k d) (ts : Array TypeId) (ht0 : ts[0]? = some t) :
    Gives P T.sz lo l H w (Builtin.delete_ ts ty #[a, d]) v H' := by
  unfold deleteV at e
  split at e
  · rename_i kt et _ _ _ _ b ht
    cases ha with | map hl => ?_
    rename_i r κ
    split at e
    · rename_i ki es ck hki hb hlo
      rw [Nat.ble_eq] at hlo
      obtain ⟨k1, κ1, xs, h1, h2, h3⟩ := h.map_ hb
      rw [hl] at h1
      cases h1
      have hset : ∀ o : Obj, (setObj r o).run P w = .ok () { w with heap := w.heap.setIfInBounds r o } := by
        intro o
        simp [setObj, Sem.run, h2]
      have hlt := (Array.getElem?_eq_some_iff.1 h2).1
      have done : ∀ (o' : AObj) (o : Obj), OR T.sz l κ o' o → Kp T.sz lo l H w l (H.put b o') { w with heap := w.heap.setIfInBounds r o } := fun o' o hor =>
        Kp.turn h hb hl hlo (by simp) (fun j hj => by simp only; rw [Array.getElem?_setIfInBounds_ne (fun e => hj e.symm)]) (x := o) (by simp [hlt]) hor rfl rfl rfl
      split at e
      · rename_i j v0 hp hf
        cases e
        obtain ⟨q, g1, -, g3⟩ := findV_ok hk hf h3
        obtain ⟨u, rfl, -, -, -, en, -, -⟩ := g3 j v0 rfl
        refine ⟨l, _, _, ?_, .tup .nil, done _ (.map (xs.eraseIdx j).toArray ck) (.map ck (eraseEs_ok j h3))⟩
        simp [Builtin.delete_, Instr.findKey, ht0, hset, run_und hT ht, run_getMap h2, checkKey_plain hT hki hp, run_und hT hki, g1]
      · rename_i hp hf
        cases e
        obtain ⟨q, g1, g2, -⟩ := findV_ok hk hf h3
        cases g2 rfl
        refine ⟨l, _, _, ?_, .tup .nil, done _ (.map xs.toArray ck) (.map ck h3)⟩
        simp [Builtin.delete_, Instr.findKey, ht0, hset, run_und hT ht, run_getMap h2, checkKey_plain hT hki hp, run_und hT hki, g1]
      · cases e
    · cases e
  · cases e

/-! type assertions to a type that is no interface -/
def noIf : TypeDesc → Bool
  | .interface _ => false
  | _ => true
def assertV (T : Tb) (asserted : TypeId) (ok : Bool) (x : AV) : Option AV :=
  match T.ty asserted with
  | some i => match noIf i.und, x with
    | true, .ifc t v => match Nat.beq t asserted, ok with
      | true, true => some (.tup [v, .bool true])
      | true, false => some v
      | false, true => match i.zero with
        | some z => some (.tup [z, .bool false])
        | none => none
      | false, false => none
    | true, .nilif => match ok, i.zero with
      | true, some z => some (.tup [z, .bool false])
      | _, _ => none
    | _, _ => none
  | none => none
theorem assertV_ok (hT : TbOk P T) {xt asserted : TypeId} {ok : Bool} {x v : AV} (e : assertV T asserted ok x = some v) {a : Value} (hx : VR l x a) : ∃ z, (Instr.typeAssert a xt asserted ok).run P w = .ok z w ∧ VR l v z := by
  unfold assertV at e
  split at e
  · rename_i i hi
    have hu := run_und (w := w) hT hi
    split at e
    · rename_i t u hn
      cases hx with | ifc _ hv => ?_
      rename_i v'
      generalize hd : i.und = d at hn hu
      split at e
      · rename_i ht
        have ht := Nat.eq_of_beq_eq_true ht
        cases e
        subst ht
        refine ⟨.tuple #[v', .bool true], ?_, .tup (.cons hv (.cons (.bool _) .nil))⟩
        cases d <;> first | (cases hn; done) | simp [Instr.typeAssert, hu]
      · rename_i ht
        have ht := Nat.eq_of_beq_eq_true ht
        cases e
        subst ht
        refine ⟨v', ?_, hv⟩
        cases d <;> first | (cases hn; done) | simp [Instr.typeAssert, hu]
      · rename_i ht
        have ht := Nat.ne_of_beq_eq_false ht
        split at e
        · rename_i z hz
          cases e
          obtain ⟨zx, q1, q2⟩ := run_zeroV (w := w) hT hi hz
          refine ⟨.tuple #[zx, .bool false], ?_, .tup (.cons (q2 l) (.cons (.bool _) .nil))⟩
          cases d <;> first | (cases hn; done) | simp [Instr.typeAssert, hu, ht, q1]
        · cases e
      · cases e
    · rename_i hn
      cases hx
      generalize hd : i.und = d at hn hu
      split at e
      · rename_i z hz
        cases e
        obtain ⟨zx, q1, q2⟩ := run_zeroV (w := w) hT hi hz
        refine ⟨.tuple #[zx, .bool false], ?_, .tup (.cons (q2 l) (.cons (.bool _) .nil))⟩
        cases d <;> first | (cases hn; done) | simp [Instr.typeAssert, hu, q1]
      · cases e
    · cases e
  · cases e

/-! ranges over texts of plain letters, and over maps that hold nothing -/
def rangeV (T : Tb) (H : Hp) (t : TypeId) (x : AV) : Option (AV × Hp) :=
  match T.ty t, x with
  | some ⟨.string, _, _, _, _⟩, .str s => some (.ptr H.nx 0, H.new (.strIter s 0))
  | some ⟨.map _ _, _, _, _, _⟩, .map (some m) => match H.get m with
    | some (.map [] _) => some (.ptr H.nx 0, H.new (.mapIter m))
    | _ => none
  | _, _ => none
theorem rangeV_ok (hT : TbOk P T) (h : HR T.sz l H w) {t : TypeId} {x v : AV} {H' : Hp} (e : rangeV T H t x = some (v, H')) {a : Value} (ha : VR l x a) : Gives P T.sz lo l H w (Instr.range t a) v H' := by
  unfold rangeV at e
  split at e
  · rename_i s ht
    cases e
    cases ha with | str _ hs => ?_
    refine ⟨l.upd H.nx (w.heap.size, 0), _, _, ?_, .ptr 0 (Env.upd_at _ _ _), Kp.alloc h 0 (.strIter s 0 hs)⟩
    simp [Instr.range, run_und hT ht]
  · rename_i m ht
    split at e
    · rename_i c hm
      cases e
      cases ha with | map hl => ?_
      obtain ⟨k1, κ1, xs, h1, h2, h3⟩ := h.map_ hm
      rw [hl] at h1
      cases h1
      refine ⟨l.upd H.nx (w.heap.size, 0), _, _, ?_, .ptr 0 (Env.upd_at _ _ _), Kp.alloc h 0 (.mapIter c c (Env.upd_le h _ _ _ hl))⟩
      simp [Instr.range, run_und hT ht, run_getMap h2]
    · cases e
  · cases e
def nextV (H : Hp) (lo : Nat) (isStr : Bool) (x : AV) : Option (AV × Hp) :=
  match x with
  | .ptr b 0 => match H.get b, isStr with
    | some (.strIter s pos), true => match s[pos]? with
      | none => some (.tup [.bool false], H)
      | some c => match Nat.blt c 128, Nat.ble lo b with
        | true, true => some (.tup [.bool true, .int .i64 (.ofNat pos), .int .i32 (.ofNat c)], H.put b (.strIter s (pos + 1)))
        | _, _ => none
    | some (.mapIter m), false => match H.get m with
      | some (.map [] _) => some (.tup [.bool false], H)
      | _ => none
    | _, _ => none
  | _ => none
theorem decode_plain {s : List Nat} {pos c : Nat} (h : s[pos]? = some c) (hc : c < 128) : Utf8.decode (bs s) pos = (c, 1) := by
  have hlt := (List.getElem?_eq_some_iff.1 h).1
  have hg : ((bs s).get! pos).toNat = c := by
    show (((s.map UInt8.ofNat).toArray)[pos]!).toNat = c
    rw [getElem!_pos _ pos (by simpa using hlt)]
    simp [(List.getElem?_eq_some_iff.1 h).2, Nat.mod_eq_of_lt (show c < 256 by omega)]
  unfold Utf8.decode
  simp [hg, hc]
theorem nextV_ok (h : HR T.sz l H w) {isStr : Bool} {x v : AV} {ty : TypeId} {H' : Hp} (e : nextV H lo isStr x = some (v, H')) {a : Value} (ha : VR l x a) : Gives P T.sz lo l H w (Instr.next a isStr ty) v H' := by
  unfold nextV at e
  split at e
  · rename_i b
    cases ha with | ptr _ hl => ?_
    rename_i k κ
    split at e
    · rename_i s pos hb
      obtain ⟨k', κ', y, h1, h2, h3⟩ := h.obj b _ hb
      rw [hl] at h1
      cases h1
      cases h3 with | strIter _ _ hs => ?_
      have hget : (getObj k).run P w = .ok (.stringIter (bs s) pos) w := by simp [getObj, Sem.run, h2]
      have hsz : (bs s).size = s.length := by simp [bs, ByteArray.size]
      split at e
      · rename_i hn
        cases e
        have : ¬ pos < (bs s).size := by
          rw [hsz]
          intro hh
          rw [List.getElem?_eq_getElem hh] at hn; cases hn
        exact .pure h (by simp [Instr.next, hget, this]) (.tup (.cons (.bool _) .nil))
      · rename_i c hc
        split at e
        · rename_i g1 g2
          have g1 : c < 128 := by simpa [Nat.blt_eq] using g1
          rw [Nat.ble_eq] at g2
          cases e
          have hlt := (Array.getElem?_eq_some_iff.1 h2).1
          have hp : pos < (bs s).size := by rw [hsz]; exact (List.getElem?_eq_some_iff.1 hc).1
          have hset : (setObj k (.stringIter (bs s) (pos + 1))).run P w = .ok () { w with heap := w.heap.setIfInBounds k (.stringIter (bs s) (pos + 1)) } := by
            simp [setObj, Sem.run, h2]
          refine ⟨l, _, { w with heap := w.heap.setIfInBounds k (.stringIter (bs s) (pos + 1)) }, ?_, .tup (.cons (.bool _) (.cons (.int _ _) (.cons (.int _ _) .nil))), Kp.turn h hb hl g2 (by simp) (fun j hj => by simp only; rw [Array.getElem?_setIfInBounds_ne (fun e => hj e.symm)]) (x := .stringIter (bs s) (pos + 1)) (by simp [hlt]) (.strIter s (pos + 1) hs) rfl rfl rfl⟩
          simp [Instr.next, hget, hp, decode_plain hc g1, hset, goInt]
        · cases e
    · rename_i m hb
      obtain ⟨k', κ', y, h1, h2, h3⟩ := h.obj b _ hb
      rw [hl] at h1
      cases h1
      cases h3 with | mapIter since c0 hm => ?_
      rename_i r κ2
      split at e
      · rename_i c hmm
        cases e
        obtain ⟨k1, κ1, xs, g1, g2, g3⟩ := h.map_ hmm
        rw [hm] at g1
        cases g1
        cases g3
        have hget : (getObj k).run P w = .ok (.mapIter (some r) since #[] c0) w := by simp [getObj, Sem.run, h2]
        have key : ∃ w', (Instr.next (.pointer (some ⟨k, 0, none⟩)) false ty).run P w = .ok (.tuple #[.bool false]) w' ∧ w'.heap = w.heap ∧ w'.os = w.os ∧ w'.tape = w.tape ∧ w'.output = w.output := by
          refine ⟨_, by simp [Instr.next, hget, run_getMap g2, choose, Sem.run, Question.forced], rfl, rfl, rfl, rfl⟩
        obtain ⟨w', q1, q2, q3, q4, q5⟩ := key
        refine ⟨l, _, w', q1, .tup (.cons (.bool _) .nil), ⟨.refl _, ⟨fun b o eo => ?_, h.inj, h.dom, h.glob⟩, Nat.le_refl _, fun _ _ e => e, q3, q4, q5, by rw [q2]; exact Nat.le_refl _, fun j hj _ => by rw [q2], fun _ _ e => .inl e⟩⟩
        rw [q2]; exact h.obj b o eo
      · cases e
    · cases e
  · cases e

/-! a text over a row of bytes: the row is given up -/
theorem Kp.lost {sz : TypeId → Nat} (h : HR sz l H w) {b k κ : Nat} {o : AObj} (hb : H.get b = some o) (hl : l b = some (k, κ)) (hlo : lo ≤ b) {w' : World} (hs : w'.heap.size = w.heap.size) (ho : ∀ j, j ≠ k → w'.heap[j]? = w.heap[j]?)
    (h1 : w'.os = w.os) (h2 : w'.tape = w.tape) (h3 : w'.output = w.output) : Kp sz lo l H w l (H.drop b) w' := by
  refine ⟨.refl _, ⟨fun b2 o2 e => ?_, fun b2 b3 o2 o3 x2 x3 e2 e3 l2 l3 hx => h.inj b2 b3 _ _ x2 x3 (Hp.drop_get e2).2 (Hp.drop_get e3).2 l2 l3 hx, h.dom, h.glob⟩, Nat.le_refl _, fun b2 _ hs2 => ?_, h1, h2, h3, by omega, fun j hj hne => ho j (fun e => hne b (k, κ) hlo hl (by simp [hb]) e.symm), fun _ _ e => .inl e⟩
  · obtain ⟨hne, e⟩ := Hp.drop_get e
    obtain ⟨k2, κ2, x2, l2, e2, r2⟩ := h.obj b2 o2 e
    exact ⟨k2, κ2, x2, l2, (ho k2 fun ek => hne (h.inj b2 b o2 o _ _ e hb l2 hl ek)).trans e2, r2⟩
  · obtain ⟨o2, e⟩ := Option.isSome_iff_exists.1 hs2
    rw [(Hp.drop_get e).2]; rfl
def unsafeStrV (T : Tb) (H : Hp) (lo : Nat) (pt : TypeId) (x n : AV) : Option (AV × Hp) :=
  match T.ty pt, x, n with
  | some ⟨.pointer e, _, _, _, _⟩, .ptr b 0, .int .i64 (.ofNat n) => match T.ty e, H.get b with
    | some i, some (.cells e' cs false) => match Nat.beq i.size 1, Nat.beq e' e, Nat.beq n 0, Nat.ble n cs.length, Nat.ble n 1000000000, Nat.ble lo b with
      | true, true, false, true, true, true => match u8sL (cs.take n) with
        | some l => some (.str l, H.drop b)
        | none => none
      | _, _, _, _, _, _ => none
    | _, _ => none
  | _, _, _ => none
theorem unsafeStrV_ok (hT : TbOk P T) (h : HR T.sz l H w) {pt it ty : TypeId} {x n v : AV} {H' : Hp} (e : unsafeStrV T H lo pt x n = some (v, H')) {a c : Value} (ha : VR l x a) (hn : VR l n c) : Gives P T.sz lo l H w (Builtin.unsafeString_ #[pt, it] ty #[a, c]) v H' := by
  unfold unsafeStrV at e
  split at e
  · rename_i el _ _ _ _ b n ht
    cases ha with | ptr _ hl => ?_
    rename_i k κ
    cases hn
    split at e
    · rename_i i e' cs hi hb
      split at e
      · rename_i g1 g2 g3 g4 g5 g6
        have g1 := Nat.eq_of_beq_eq_true g1
        have g2 := Nat.eq_of_beq_eq_true g2
        have g3 := Nat.ne_of_beq_eq_false g3
        rw [Nat.ble_eq] at g4 g5 g6
        subst g2
        split at e
        · rename_i r hr
          cases e
          obtain ⟨k', κ', y, h1, h2, h3⟩ := h.obj b _ hb
          rw [hl] at h1
          cases h1
          cases h3 with | shut hv hf => ?_
          rename_i xs fr
          obtain ⟨q1, q2⟩ := u8sL_ok hr (hv.take n)
          have hlx := hv.length
          have hrl : r.length = n := by
            have := congrArg List.length q1
            simp only [List.length_take, List.length_map] at this
            omega
          obtain ⟨fi, f1, f2, -⟩ := hT.info _ _ hi
          have hcell : P.cellsOf e' = 1 := by simp [Program.cellsOf, f1, f2, g1]
          have hus := Lib.run_unsafeString_row (P := P) (w := w) pt it ty e' (hT.und _ _ ht) hcell k xs.length (by simp [World.shape?, h2]) (r.map UInt8.ofNat) (by intro hc; rw [List.map_eq_nil_iff] at hc; subst hc; simp at hrl; omega) (by simp; omega) (by simp; omega) (fun j u hj => by
            rw [List.getElem?_map] at hj
            cases hrj : r[j]? with
            | none => rw [hrj] at hj; cases hj
            | some m =>
              rw [hrj] at hj
              simp only [Option.map_some, Option.some.injEq] at hj
              subst hj
              have hjn : j < n := by have := (List.getElem?_eq_some_iff.1 hrj).1; omega
              have hx : (xs.take n)[j]? = some (.int .u8 (m : Int)) := by rw [q1, List.getElem?_map, hrj]; rfl
              rw [List.getElem?_take_of_lt hjn] at hx
              have hm : m < 256 := q2 m (List.mem_of_getElem? hrj)
              have := cell_get h2 j _ hx
              rw [Addr.add_mid]
              simpa [Nat.mod_eq_of_lt hm] using this)
          simp only [List.length_map, hrl] at hus
          refine ⟨l, _, _, hus, .str r q2, Kp.lost h hb hl g6 (by simp only [World.freeze]; rw [if_neg g3]; simp) (fun j hj => ?_) (by simp only [World.freeze]; rw [if_neg g3]) (by simp only [World.freeze]; rw [if_neg g3]) (by simp only [World.freeze]; rw [if_neg g3])⟩
          simp only [World.freeze]
          rw [if_neg g3]
          simp only
          rw [Array.getElem?_modify, if_neg (fun e => hj e.symm)]
        · cases e
      · cases e
    · cases e
  · cases e
end Go.Proofs.YtbjpkfaiofkmdaaGreatDoor.Ev
