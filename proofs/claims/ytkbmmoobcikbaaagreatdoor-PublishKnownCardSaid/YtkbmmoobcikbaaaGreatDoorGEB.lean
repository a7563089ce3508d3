/-
  A RECKONER OF CLOSED CALLS, SEVENTH PART: parts of slices and texts, lengths, what is appended. No program in sight; no condition.
  A RECKONER OF CLOSED CALLS, EIGHTH PART: lengths, what is appended, conversions, maps. No program in sight; no condition.
  A RECKONER OF CLOSED CALLS, NINTH PART: conversions and maps. No program in sight; no condition.
  A RECKONER OF CLOSED CALLS: lengths of channels, copy, clear, delete, type assertions. No program in sight; no condition.
  A RECKONER OF CLOSED CALLS: append with a made tail; append into known cells. No program in sight; no condition.
  A RECKONER OF CLOSED CALLS, TENTH PART: what one operation gives. No program in sight; no condition.
-/
import Derived.Test.YtkbmmoobcikbaaaGreatDoorGEA
import Derived.Lib.ConvBytes
import Derived.Lib.UnsafeStr
import Derived.IntWalk
namespace Go.Proofs.YtkbmmoobcikbaaaGreatDoor.Ev
open Go Go.RowKit

variable {P : Program} {T : Tb} {lo : Nat} {l : Env} {H : Hp} {w : World} {f : Tr AV} {ρ : Operand → Value}

/-! parts -/
noncomputable def NV : Option Nat → Option Value → Prop
  | none, none => True
  | some n, some v => ∃ k, v = .int k (n : Int)
  | _, _ => False
noncomputable def boundsV (len cap : Nat) (lo hi mx : Option Nat) : Option (Nat × Nat × Nat) :=
  match mx with
  | none => match Nat.ble (lo.getD 0) (hi.getD len), Nat.ble (hi.getD len) cap with
    | true, true => some (lo.getD 0, hi.getD len, cap)
    | _, _ => none
  | some m => match hi with
    | none => none
    | some h => match Nat.ble (lo.getD 0) h, Nat.ble h m, Nat.ble m cap with
      | true, true, true => some (lo.getD 0, h, m)
      | _, _, _ => none
theorem boundsV_ok (sl : Bool) {len cap : Nat} {a b c : Option Nat} {r : Nat × Nat × Nat} (e : boundsV len cap a b c = some r) {x y z : Option Value} (hx : NV a x) (hy : NV b y) (hz : NV c z) :
    (Instr.sliceBounds sl len cap x y z).run P w = .ok r w ∧ r.1 ≤ r.2.1 ∧ r.2.1 ≤ r.2.2 ∧ r.2.2 ≤ cap ∧ r.2.1 = b.getD len := by
  unfold boundsV at e
  split at e
  · split at e
    · rename_i h1 h2
      rw [Nat.ble_eq] at h1 h2
      cases e
      refine ⟨?_, h1, h2, Nat.le_refl _, rfl⟩
      cases z with
      | some _ => cases hz
      | none =>
        cases a <;> cases x <;> first | (cases hx; done) | skip
        all_goals cases b <;> cases y <;> first | (cases hy; done) | skip
        all_goals
          try obtain ⟨_, rfl⟩ := hx
          try obtain ⟨_, rfl⟩ := hy
          simp only [Option.getD_some, Option.getD_none] at h1 h2
          simp [Instr.sliceBounds, run_sliceBound_if, *]
    · cases e
  · rename_i m
    split at e
    · cases e
    rename_i h
    split at e
    · rename_i h1 h2 h3
      rw [Nat.ble_eq] at h1 h2 h3
      cases e
      refine ⟨?_, h1, h2, h3, rfl⟩
      cases z with
      | none => cases hz
      | some z =>
        obtain ⟨_, rfl⟩ := hz
        cases y with
        | none => cases hy
        | some y =>
          obtain ⟨_, rfl⟩ := hy
          cases a <;> cases x <;> first | (cases hx; done) | skip
          all_goals
            try obtain ⟨_, rfl⟩ := hx
            simp only [Option.getD_some, Option.getD_none] at h1 h2
            simp [Instr.sliceBounds, run_sliceBound_if, *]
    · cases e
noncomputable def sliceV (T : Tb) (t : TypeId) (x : AV) (a b c : Option Nat) : Option AV :=
  match T.ty t with
  | some ⟨.string, _, _, _, _⟩ => match x, c with
    | .str s, none => match boundsV s.length s.length a b none with
      | some (l, h, _) => some (.str ((s.take h).drop l))
      | none => none
    | _, _ => none
  | some ⟨.slice e, _, _, _, _⟩ => match T.ty e with
    | none => none
    | some i => match x with
      | .nils => match boundsV 0 0 a b c with
        | some _ => some .nils
        | none => none
      | .sl bl o n cap => match boundsV n cap a b c with
        | some (l, h, m) => match Nat.beq m l with
          | true => some (.sl bl o (h - l) (m - l))
          | false => some (.sl bl (o + l * i.size) (h - l) (m - l))
        | none => none
      | .slo bl o n d => match c with
        | some _ => match boundsV n n a b c with
          | some (l, h, m) => match Nat.beq m l with
            | true => some (.sl bl o (h - l) (m - l))
            | false => some (.sl bl (o + l * i.size) (h - l) (m - l))
          | none => none
        | none => match boundsV n n a b none with
          | some (l, h, _) => match Nat.beq l 0 with
            | true => some (.slo bl o h d)
            | false => match Nat.blt l n with
              | true => some (.slo bl (o + l * i.size) (h - l) (d + l))
              | false => some .sle
          | none => none
      | .sle => match c with
        | some _ => none
        | none => match boundsV 0 0 a b none with
          | some _ => some .sle
          | none => none
      | _ => none
  | some ⟨.array n e, _, _, _, _⟩ => match T.ty e, x with
    | some i, .ptr bl o => match boundsV n n a b c with
      | some (l, h, m) => match Nat.beq m l with
        | true => some (.sl bl o (h - l) (m - l))
        | false => some (.sl bl (o + l * i.size) (h - l) (m - l))
      | none => none
    | _, _ => none
  | _ => none
theorem bs_extract (s : List Nat) (l h : Nat) : (bs s).extract l h = bs ((s.take h).drop l) := by
  unfold bs
  apply ByteArray.ext
  apply Array.ext'
  simp [ByteArray.data_extract, List.map_drop, List.map_take, List.drop_take]
theorem sliceV_ok (hT : TbOk P T) {t : TypeId} {x v : AV} {a b c : Option Nat} (e : sliceV T t x a b c = some v) {y : Value} (hx : VR l x y) {p q r : Option Value} (hp : NV a p) (hq : NV b q) (hr : NV c r) :
    ∃ z, (Instr.sliceAt t y p q r).run P w = .ok z w ∧ VR l v z := by
  unfold sliceV at e
  split at e
  · rename_i ht
    split at e
    · rename_i s
      split at e
      · rename_i l1 h1 m1 hb
        cases e
        cases hx with | str _ hs => ?_
        have hz : (bs s).size = s.length := by simp [bs, ByteArray.size]
        obtain ⟨e1, e2, e3, e4, -⟩ := boundsV_ok (P := P) (w := w) false hb hp hq (z := none) trivial
        cases r with
        | some _ => cases hr
        | none =>
          refine ⟨_, ?_, .str _ (fun x hx => hs x (List.mem_of_mem_take (List.mem_of_mem_drop hx)))⟩
          rw [← bs_extract]
          unfold Instr.sliceAt
          simp [run_und hT ht, Instr.slice, hz, e1]
      · cases e
    · cases e
  · rename_i el _ _ _ _ ht
    split at e
    · cases e
    rename_i i hi
    have go : ∀ (bo : Option Addr) (n cap : Nat) (l1 h1 m1 : Nat), boundsV n cap a b c = some (l1, h1, m1) → (Instr.sliceAt t (.slice bo n cap) p q r).run P w = .ok (.slice (if m1 = l1 then bo else bo.map (·.add (l1 * i.size))) (h1 - l1) (m1 - l1)) w := by
      intro bo n cap l1 h1 m1 hb
      obtain ⟨e1, e2, e3, e4, -⟩ := boundsV_ok (P := P) (w := w) true hb hp hq hr
      unfold Instr.sliceAt
      simp only [Sem.run_bind, run_und hT ht, Result.andThen_ok, Instr.slice, e1, run_size hT hi]
      rfl
    split at e
    · split at e
      · rename_i r1 hb
        obtain ⟨l1, h1, m1⟩ := r1
        obtain ⟨-, e2, e3, e4, -⟩ := boundsV_ok (P := P) (w := w) true hb hp hq hr
        cases e
        cases hx
        refine ⟨_, go none 0 0 l1 h1 m1 hb, ?_⟩
        simp only at e2 e3 e4
        have z1 : m1 = 0 := by omega
        have z2 : h1 = 0 := by omega
        have z3 : l1 = 0 := by omega
        subst z1 z2 z3
        exact .nils
      · cases e
    · rename_i bl o n cap
      cases hx with | sl _ _ _ hl => ?_
      split at e
      · rename_i l1 h1 m1 hb
        refine ⟨_, go _ _ _ l1 h1 m1 hb, ?_⟩
        split at e
        · rename_i hm; have hm := Nat.eq_of_beq_eq_true hm; cases e; rw [if_pos hm]; exact .sl _ _ _ hl
        · rename_i hm; have hm := Nat.ne_of_beq_eq_false hm; cases e; rw [if_neg hm]; simp only [Option.map_some, Addr.add_mid]; exact .sl _ _ _ hl
      · cases e
    · rename_i bl o n d
      cases hx with | slo _ _ _ hl hd => ?_
      rename_i k κ
      split at e
      · rename_i m0
        split at e
        · rename_i l1 h1 m1 hb
          obtain ⟨-, e2, e3, e4, -⟩ := boundsV_ok (P := P) (w := w) true hb hp hq hr
          simp only at e2 e3 e4
          have hb2 : boundsV n (κ - d) a b (some m0) = some (l1, h1, m1) := by
            unfold boundsV at hb ⊢
            simp only at hb ⊢
            split at hb
            · cases hb
            rename_i h0
            split at hb
            · rename_i g1 g2 g3
              cases hb
              have g4 : Nat.ble m0 (κ - d) = true := by rw [Nat.ble_eq] at g3 ⊢; omega
              simp only [g1, g2, g4]
            · cases hb
          refine ⟨_, go _ _ _ l1 h1 m1 hb2, ?_⟩
          split at e
          · rename_i hm; have hm := Nat.eq_of_beq_eq_true hm; cases e; rw [if_pos hm]; exact .sl _ _ _ hl
          · rename_i hm; have hm := Nat.ne_of_beq_eq_false hm; cases e; rw [if_neg hm]; simp only [Option.map_some, Addr.add_mid]; exact .sl _ _ _ hl
        · cases e
      · split at e
        · rename_i l1 h1 m1 hb
          obtain ⟨-, e2, e3, e4, -⟩ := boundsV_ok (P := P) (w := w) true hb hp hq hr
          simp only at e2 e3 e4
          have hb2 : boundsV n (κ - d) a b none = some (l1, h1, κ - d) := by
            unfold boundsV at hb ⊢
            simp only at hb ⊢
            split at hb
            · rename_i g1 g2
              cases hb
              have g4 : Nat.ble (b.getD n) (κ - d) = true := by rw [Nat.ble_eq] at g2 ⊢; omega
              simp only [g1, g4]
            · cases hb
          refine ⟨_, go _ _ _ l1 h1 _ hb2, ?_⟩
          split at e
          · rename_i hm
            have hm := Nat.eq_of_beq_eq_true hm
            subst hm
            cases e
            have : (if κ - d = 0 then some (⟨k, o, none⟩ : Addr) else (some (⟨k, o, none⟩ : Addr)).map (·.add (0 * i.size))) = some ⟨k, o, none⟩ := by split <;> simp [Addr.add_mid]
            rw [this]
            simp only [Nat.sub_zero]
            exact .slo _ _ _ hl (by omega)
          · rename_i hm0
            have hm0 := Nat.ne_of_beq_eq_false hm0
            split at e
            · rename_i hlt
              have hlt : l1 < n := by simpa [Nat.blt_eq] using hlt
              cases e
              rw [if_neg (by omega)]
              simp only [Option.map_some, Addr.add_mid]
              rw [show κ - d - l1 = κ - (d + l1) from by omega]
              exact .slo _ _ _ hl (by omega)
            · rename_i hlt
              have hlt : ¬ l1 < n := by rw [Bool.eq_false_iff] at hlt; simpa [Nat.blt_eq] using hlt
              cases e
              rw [show h1 - l1 = 0 by omega]
              split <;> exact .sle _ _
        · cases e
    · cases hx with | sle pa cp => ?_
      split at e
      · cases e
      split at e
      · rename_i r1 hb
        obtain ⟨l1, h1, m1⟩ := r1
        obtain ⟨-, e2, e3, e4, -⟩ := boundsV_ok (P := P) (w := w) true hb hp hq hr
        simp only at e2 e3 e4
        have hb2 : boundsV 0 cp a b none = some (l1, h1, cp) := by
          unfold boundsV at hb ⊢
          simp only at hb ⊢
          split at hb
          · rename_i g1 g2
            cases hb
            have g4 : Nat.ble (b.getD 0) cp = true := by rw [Nat.ble_eq] at g2 ⊢; omega
            simp only [g1, g4]
          · cases hb
        cases e
        refine ⟨_, go _ _ _ l1 h1 _ hb2, ?_⟩
        rw [show h1 - l1 = 0 by omega]
        split <;> exact .sle _ _
      · cases e
    · cases e
  · rename_i n el _ _ _ _ ht
    split at e
    · rename_i i bl o hi
      split at e
      · rename_i l1 h1 m1 hb
        cases hx with | ptr _ hl => ?_
        obtain ⟨e1, e2, e3, e4, -⟩ := boundsV_ok (P := P) (w := w) false hb hp hq hr
        rename_i k κ
        have go : (Instr.sliceAt t (.pointer (some ⟨k, o, none⟩)) p q r).run P w = .ok (.slice (some (if m1 = l1 then ⟨k, o, none⟩ else (⟨k, o, none⟩ : Addr).add (l1 * i.size))) (h1 - l1) (m1 - l1)) w := by
          unfold Instr.sliceAt
          simp only [Sem.run_bind, run_und hT ht, Result.andThen_ok, Instr.sureAddr, Sem.run_pure, e1, run_size hT hi]
        refine ⟨_, go, ?_⟩
        split at e
        · rename_i hm; have hm := Nat.eq_of_beq_eq_true hm; cases e; rw [if_pos hm]; exact .sl _ _ _ hl
        · rename_i hm; have hm := Nat.ne_of_beq_eq_false hm; cases e; rw [if_neg hm, Addr.add_mid]; exact .sl _ _ _ hl
      · cases e
    · cases e
  · cases e
end Go.Proofs.YtkbmmoobcikbaaaGreatDoor.Ev
namespace Go.Proofs.YtkbmmoobcikbaaaGreatDoor.Ev
open Go Go.RowKit

variable {P : Program} {T : Tb} {lo : Nat} {l : Env} {H : Hp} {w : World} {f : Tr AV} {ρ : Operand → Value}

noncomputable def lenV (T : Tb) (H : Hp) (t : TypeId) (x : AV) : Option Nat :=
  match T.ty t with
  | some ⟨.string, _, _, _, _⟩ => match x with
    | .str s => some s.length
    | _ => none
  | some ⟨.slice _, _, _, _, _⟩ => match x with
    | .nils => some 0
    | .sl _ _ n _ => some n
    | .slo _ _ n _ => some n
    | .sle => some 0
    | _ => none
  | some ⟨.array n _, _, _, _, _⟩ => some n
  | some ⟨.map _ _, _, _, _, _⟩ => match x with
    | .map none => some 0
    | .map (some b) => match H.get b with
      | some (.map es _) => some es.length
      | _ => none
    | _ => none
  | _ => none
theorem ERs.length {l : Env} : ∀ {a x}, ERs l a x → a.length = x.length
  | _, _, .nil => rfl
  | _, _, .cons _ _ h => by rw [List.length_cons, List.length_cons, ERs.length h]
theorem HR.map_ (h : HR T.sz l H w) {b : Nat} {es : List (AV × AV × Nat)} {c : Nat} (hb : H.get b = some (.map es c)) : ∃ k κ xs, l b = some (k, κ) ∧ w.heap[k]? = some (.map xs.toArray c) ∧ ERs l es xs := by
  obtain ⟨k, κ, x, h1, h2, h3⟩ := h.obj b _ hb
  cases h3 with
  | map _ h => exact ⟨k, κ, _, h1, h2, h⟩
theorem run_getMap {k c : Nat} {es : Array MapEntry} (h : w.heap[k]? = some (.map es c)) : (getObj k).run P w = .ok (.map es c) w := by
  simp [getObj, Sem.run, h]
theorem bs_size (s : List Nat) : (bs s).size = s.length := by simp [bs, ByteArray.size]
theorem lenV_ok (hT : TbOk P T) (h : HR T.sz l H w) {t ty : TypeId} {x : AV} {n : Nat} (e : lenV T H t x = some n) {a : Value} (hx : VR l x a) (ts : Array TypeId) (ht0 : ts[0]? = some t) : (Builtin.len_ ts ty #[a]).run P w = .ok (.int .i64 (n : Int)) w := by
  unfold lenV at e
  split at e
  · rename_i ht
    split at e
    · cases e
      cases hx
      simp [Builtin.len_, ht0, run_und hT ht, goInt, bs_size]
    · cases e
  · rename_i ht
    split at e <;> cases e <;> cases hx <;> simp [Builtin.len_, ht0, run_und hT ht, goInt]
  · rename_i ht
    cases e
    simp [Builtin.len_, ht0, run_und hT ht, goInt]
  · rename_i ht
    split at e
    · cases e
      cases hx
      simp [Builtin.len_, ht0, run_und hT ht, goInt]
    · split at e
      · rename_i b es c hb
        cases e
        cases hx with | map hl => ?_
        obtain ⟨k, κ, xs, h1, h2, h3⟩ := h.map_ hb
        rw [hl] at h1
        cases h1
        simp [Builtin.len_, ht0, run_und hT ht, run_getMap h2, goInt, h3.length]
      · cases e
    · cases e
  · cases e

/-! append -/
noncomputable def newCellsV (H : Hp) (size : Nat) : AV → Option (Nat × List AV)
  | .nils => some (0, [])
  | .sl b o n _ => match loadL H b o (n * size) with
    | some c => some (n, c)
    | none => none
  | .slo b o n _ => match loadL H b o (n * size) with
    | some c => some (n, c)
    | none => none
  | .sle => some (0, [])
  | .str s => match Nat.beq size 1 with
    | true => some (s.length, s.map fun c => .int .u8 (.ofNat c))
    | false => none
  | _ => none
theorem newCellsV_ok (h : HR T.sz l H w) {size n : Nat} {x : AV} {new : List AV} (e : newCellsV H size x = some (n, new)) {a : Value} (hx : VR l x a) :
    (∀ w', (Builtin.lenOf a).run P w' = .ok n w') ∧ ∃ news, VRs l new news ∧ news.length = n * size ∧ ∀ w', w'.heap = w.heap → (Builtin.firstCells size n a).run P w' = .ok news.toArray w' := by
  unfold newCellsV at e
  split at e
  · cases e; cases hx
    exact ⟨fun _ => rfl, [], .nil, by simp, fun _ _ => rfl⟩
  · split at e
    · rename_i hc
      cases e
      cases hx with | sl _ _ _ hl => ?_
      obtain ⟨k, κ, xs, h1, h2, h3, h4⟩ := loadL_ok h hc
      rw [hl] at h1
      cases h1
      refine ⟨fun _ => rfl, xs, h3, h4, fun w' hw => ?_⟩
      have : w'.rangeAt _ _ xs := fun j u hj => by have := h2 j u hj; simpa [World.cell?, hw] using this
      simp only [Builtin.firstCells]
      rw [← h4]; exact loadCells_run this
    · cases e
  · split at e
    · rename_i hc
      cases e
      cases hx with | slo _ _ _ hl _ => ?_
      obtain ⟨k, κ, xs, h1, h2, h3, h4⟩ := loadL_ok h hc
      rw [hl] at h1
      cases h1
      refine ⟨fun _ => rfl, xs, h3, h4, fun w' hw => ?_⟩
      have : w'.rangeAt _ _ xs := fun j u hj => by have := h2 j u hj; simpa [World.cell?, hw] using this
      simp only [Builtin.firstCells]
      rw [← h4]; exact loadCells_run this
    · cases e
  · cases e; cases hx
    exact ⟨fun _ => rfl, [], .nil, by simp, fun _ _ => by simp [Builtin.firstCells, loadCells, loadCellsFrom]⟩
  · rename_i s
    split at e
    · rename_i hs1
      have hs1 := Nat.eq_of_beq_eq_true hs1
      subst hs1
      cases e
      cases hx with | str _ hs => ?_
      have hz := bs_size s
      refine ⟨fun _ => by simp [Builtin.lenOf, hz], s.map fun c => .int .u8 (.ofNat c), ?_, by simp, fun w' _ => ?_⟩
      · exact VRs.map s fun c _ => .int _ _
      · simp only [Builtin.firstCells]
        rw [bs_extract]
        simp only [Sem.run_pure, List.take_length, List.drop_zero]
        congr 1
        apply Array.ext'
        simp only [bs, Array.toList_map, List.map_map]
        apply List.map_congr_left
        intro c hc
        simp [Nat.mod_eq_of_lt (hs c hc)]
    · cases e
  · cases e

/-- A new number for an old block. -/
theorem Kp.moved (h : HR T.sz l H w) {b k κ : Nat} {o o' : AObj} (hb : H.get b = some o) (hl : l b = some (k, κ)) (hlo : lo ≤ b) {w' : World} (hs : w'.heap.size = w.heap.size) (ho : ∀ j, j ≠ k → w'.heap[j]? = w.heap[j]?)
    {x : Obj} (hk : w'.heap[k]? = some x) (hor : OR T.sz (l.upd H.nx (k, κ)) κ o' x) (h1 : w'.os = w.os) (h2 : w'.tape = w.tape) (h3 : w'.output = w.output) : Kp T.sz lo l H w (l.upd H.nx (k, κ)) ((H.drop b).new o') w' := by
  have hle := Env.upd_le h (k, κ)
  have hup := Env.upd_at l H.nx (k, κ)
  have hot : ∀ b, b ≠ H.nx → (l.upd H.nx (k, κ)) b = l b := fun b hb => by simp [Env.upd, hb]
  have hg : ∀ b2 o2, ((H.drop b).new o').get b2 = some o2 → (b2 = H.nx ∧ o2 = o') ∨ (b2 ≠ H.nx ∧ b2 ≠ b ∧ H.get b2 = some o2) := by
    intro b2 o2 e
    rcases Hp.new_get e with ⟨rfl, rfl⟩ | ⟨hne, e⟩
    · exact .inl ⟨rfl, rfl⟩
    · obtain ⟨e1, e2⟩ := Hp.drop_get e
      exact .inr ⟨hne, e1, e2⟩
  refine ⟨hle, ⟨fun b2 o2 e => ?_, fun b2 b3 o2 o3 x2 x3 e2 e3 l2 l3 hx => ?_, fun b2 y hb2 => ?_, fun g hg => hle _ _ (h.glob g hg)⟩, Nat.le_succ _, fun b2 hlt2 hs2 => ?_, h1, h2, h3, by omega, fun j hj hne => ho j (fun e => hne b (k, κ) hlo hl (by simp [hb]) e.symm), fun b2 y hb2 => ?_⟩
  · rcases hg _ _ e with ⟨rfl, rfl⟩ | ⟨n1, n2, e⟩
    · exact ⟨k, κ, x, hup, hk, hor⟩
    · obtain ⟨k2, κ2, y, l2, g2, r2⟩ := h.obj b2 o2 e
      refine ⟨k2, κ2, y, hle _ _ l2, (ho k2 (fun ek => n2 (h.inj b2 b o2 o _ _ e hb l2 hl ek))).trans g2, r2.mono hle⟩
  · rcases hg _ _ e2 with ⟨rfl, -⟩ | ⟨n2, m2, e2⟩
    · rcases hg _ _ e3 with ⟨rfl, -⟩ | ⟨n3, m3, e3⟩
      · rfl
      · rw [hup] at l2
        rw [hot _ n3] at l3
        cases l2
        exact absurd (h.inj b3 b o3 o _ _ e3 hb l3 hl hx.symm) m3
    · rcases hg _ _ e3 with ⟨rfl, -⟩ | ⟨n3, m3, e3⟩
      · rw [hup] at l3
        rw [hot _ n2] at l2
        cases l3
        exact absurd (h.inj b2 b o2 o _ _ e2 hb l2 hl hx) m2
      · rw [hot _ n2] at l2
        rw [hot _ n3] at l3
        exact h.inj b2 b3 _ _ x2 x3 e2 e3 l2 l3 hx
  · show b2 < H.nx + 1
    by_cases hb3 : b2 = H.nx
    · omega
    · rw [hot b2 hb3] at hb2
      have := h.dom b2 y hb2; omega
  · obtain ⟨o2, e⟩ := Option.isSome_iff_exists.1 hs2
    rcases hg _ _ e with ⟨rfl, -⟩ | ⟨-, -, e⟩
    · omega
    · rw [e]; rfl
  · by_cases hb3 : b2 = H.nx
    · subst hb3
      rw [hup] at hb2
      cases hb2
      exact .inr ⟨Nat.le_refl _, .inr ⟨b, hlo, by simp [hb], by simp [hl]⟩⟩
    · rw [hot b2 hb3] at hb2
      exact .inl hb2
/-- A new block, an old number given up. -/
theorem HR.less (h : HR T.sz l H w) (b : Nat) : HR T.sz l (H.drop b) w :=
  ⟨fun b2 o2 e => h.obj b2 o2 (Hp.drop_get e).2, fun b2 b3 o2 o3 x2 x3 e2 e3 => h.inj b2 b3 o2 o3 x2 x3 (Hp.drop_get e2).2 (Hp.drop_get e3).2, h.dom, h.glob⟩
theorem Kp.drop {b : Nat} {l' : Env} {H' : Hp} {w' : World} (h : Kp T.sz lo l (H.drop b) w l' H' w') : Kp T.sz lo l H w l' H' w' :=
  ⟨h.le, h.hr, h.nx, fun b2 hb2 hs2 => (by
    obtain ⟨o2, e⟩ := Option.isSome_iff_exists.1 (h.old b2 hb2 hs2)
    rw [(Hp.drop_get e).2]; rfl), h.os, h.tape, h.output, h.size, fun k hk hne => h.block k hk fun b2 x hb hl hs => hne b2 x hb hl (by
    obtain ⟨o, ho⟩ := Option.isSome_iff_exists.1 hs
    rw [(Hp.drop_get ho).2]; rfl), fun b2 x e => (h.fresh b2 x e).imp id fun ⟨e1, e2⟩ => ⟨e1, e2.imp id fun ⟨b0, f1, f2, f3⟩ => ⟨b0, f1, by
    obtain ⟨o, ho⟩ := Option.isSome_iff_exists.1 f2
    rw [(Hp.drop_get ho).2]; rfl, f3⟩⟩⟩
noncomputable def rowish : TypeDesc → Bool
  | .slice _ => true
  | .string => true
  | _ => false
theorem rowish_ok {d : TypeDesc} (h : rowish d = true) : (∃ e, d = .slice e) ∨ d = .string := by cases d <;> first | exact .inl ⟨_, rfl⟩ | exact .inr rfl | cases h
noncomputable def appendV (T : Tb) (H : Hp) (lo : Nat) (t t2 : TypeId) (s x : AV) : Option (AV × Hp) :=
  match T.ty t, T.ty t2 with
  | some ⟨.slice e, _, _, _, _⟩, some i2 => match T.ty e with
    | none => none
    | some i => match i.zero, rowish i2.und, Nat.beq i.size (T.sz e) with
      | some z, true, true => match Nat.beq (avCells z).length i.size, newCellsV H i.size x with
        | true, some (n, new) => match s with
          | .nils => match Nat.beq n 0, Nat.ble (n * i.bytes) 1000000000, Nat.ble n 1000000000 with
            | true, _, _ => some (.nils, H)
            | false, true, true => some (.slo H.nx 0 n 0, H.new (.cells e new true))
            | _, _, _ => none
          | .sl b o m c => match Nat.ble (m + n) c with
            | true => match storeH H lo b (o + m * i.size) new with
              | some H' => some (.sl b o (m + n) c, H')
              | none => none
            | false => match loadL H b o (m * i.size), Nat.ble ((m + n) * i.bytes) 1000000000, Nat.ble (m + n) 1000000000 with
              | some old, true, true => some (.slo H.nx 0 (m + n) 0, H.new (.cells e (old ++ new) true))
              | _, _, _ => none
          | .slo b o m d => match Nat.beq n 0 with
            | true => some (.slo b o m d, H)
            | false => match Nat.beq o 0, Nat.beq d 0, Nat.ble ((m + n) * i.bytes) 1000000000, Nat.ble (m + n) 1000000000, Nat.ble lo b with
              | true, true, true, true, true => match H.get b with
                | some (.cells t' cs true) => match Nat.beq cs.length (m * i.size), Nat.beq t' e, ones new with
                  | true, true, true => some (.slo H.nx 0 (m + n) 0, (H.drop b).new (.cells e (cs ++ new) true))
                  | _, _, _ => none
                | _ => none
              | _, _, _, _, _ => none
          | _ => none
        | _, _ => none
      | _, _, _ => none
  | _, _ => none

section
variable (t t2 ty e : TypeId) (i : TypeInfo) (z : Value) (d2 : TypeDesc)
theorem run_grow (ts : Array TypeId) (ht0 : ts[0]? = some t) (ht1 : ts[1]? = some t2) (ht : P.underlying t = some (.slice e)) (ht2 : P.underlying t2 = some d2) (hd2 : rowish d2 = true)
    (hi : P.info? e = some i) (hz : i.zero = some z) (ba : Option Addr) (m c n : Nat) (b : Value) (olds news : List Value)
    (hl : ∀ w', (Builtin.lenOf b).run P w' = .ok n w') (hn : ∀ w', w'.heap = w.heap → (Builtin.firstCells i.size n b).run P w' = .ok news.toArray w') (ho : ∀ w', w'.heap = w.heap → (Builtin.firstCells i.size m (.slice ba m c)).run P w' = .ok olds.toArray w')
    (hg : c < m + n) (h9 : m + n ≤ 1000000000) (hb : (m + n) * i.bytes ≤ 1000000000) :
    (Builtin.append_ ts ty #[.slice ba m c, b]).run P w =
      .ok (.slice (some ⟨w.heap.size, 0, none⟩) (m + n) (grownCap w (m + n) c e)) { w with drawn := w.drawn + 1, heap := w.heap.push (.cells (olds ++ (news ++ (Builtin.zeroCells z.cells (grownCap w (m + n) c e - (m + n))).toList)).toArray e (0, 0)) } := by
  have hn1 : ¬ (m + n ≤ c) := by omega
  have h63' : ¬ (9223372036854775807 < ((m : Int) + (n : Int))) := by omega
  have hfit := growslice_fits (bytes := i.bytes) hg (by omega)
  have h48' : ¬ (281474976710656 < Builtin.nextslicecap (m + n) c * i.bytes) := by omega
  have hf := hn w.drew rfl
  have hfo := ho w.drew rfl
  have e1 : (Builtin.append_ ts ty #[.slice ba m c, b]).run P w = .ok (.slice (some ⟨w.heap.size, 0, none⟩) (m + n) (grownCap w (m + n) c e)) (w.drew.alloc (.cells (olds.toArray ++ news.toArray ++ Builtin.zeroCells z.cells (grownCap w (m + n) c e - (m + n))) e)) := by
    rcases rowish_ok hd2 with ⟨_, rfl⟩ | rfl <;> simp [Builtin.append_, ht0, ht1, run_underlying ht, run_underlying ht2, sizeOf, typeInfo, zeroValue, hi, hz, hl, hn1, h63', h48', Question.forced, hf, hfo, newRow, grownCap] <;> (congr 2; apply Array.ext'; simp)
  rw [e1]
  have e2 : olds.toArray ++ news.toArray ++ Builtin.zeroCells z.cells (grownCap w (m + n) c e - (m + n)) = (olds ++ (news ++ (Builtin.zeroCells z.cells (grownCap w (m + n) c e - (m + n))).toList)).toArray := by
    apply Array.ext'
    simp
  rw [e2]; rfl
theorem run_room (ts : Array TypeId) (ht0 : ts[0]? = some t) (ht1 : ts[1]? = some t2) (ht : P.underlying t = some (.slice e)) (ht2 : P.underlying t2 = some d2) (hd2 : rowish d2 = true)
    (hi : P.info? e = some i) (k o m c n : Nat) (b : Value) (news : List Value)
    (hl : ∀ w', (Builtin.lenOf b).run P w' = .ok n w') (hn : ∀ w', w'.heap = w.heap → (Builtin.firstCells i.size n b).run P w' = .ok news.toArray w')
    (hg : m + n ≤ c) (hth : w.there k (o + m * i.size) news.length) (h1 : ∀ u ∈ news, u.oneCell' = true) :
    (Builtin.append_ ts ty #[.slice (some ⟨k, o, none⟩) m c, b]).run P w = .ok (.slice (some ⟨k, o, none⟩) (m + n) c) (w.setCells k (o + m * i.size) news) := by
  have hst := run_storeCells_cells (P := P) k (o + m * i.size) news 0 w (fun j hj => by simpa using (hth j hj).1) (fun j hj => by simpa using (hth j hj).2) h1
  simp only [Nat.add_zero] at hst
  have hf := hn w rfl
  rcases rowish_ok hd2 with ⟨_, rfl⟩ | rfl <;> simp [Builtin.append_, ht0, ht1, run_underlying ht, run_underlying ht2, sizeOf, typeInfo, hi, hl, hg, hf, Addr.add_mid, hst]
theorem run_none (ts : Array TypeId) (ht0 : ts[0]? = some t) (ht1 : ts[1]? = some t2) (ht : P.underlying t = some (.slice e)) (ht2 : P.underlying t2 = some d2) (hd2 : rowish d2 = true)
    (hi : P.info? e = some i) (b : Value) (news : List Value) (hl : ∀ w', (Builtin.lenOf b).run P w' = .ok 0 w') (hn : ∀ w', w'.heap = w.heap → (Builtin.firstCells i.size 0 b).run P w' = .ok news.toArray w') :
    (Builtin.append_ ts ty #[.slice none 0 0, b]).run P w = .ok (.slice none 0 0) w := by
  have hf := hn w rfl
  rcases rowish_ok hd2 with ⟨_, rfl⟩ | rfl <;> simp [Builtin.append_, ht0, ht1, run_underlying ht, run_underlying ht2, sizeOf, typeInfo, hi, hl, hf]
end
theorem loadL_first (h : HR T.sz l H w) {b o n m c size : Nat} {vs : List AV} (e : loadL H b o (n * size) = some vs) {k κ : Nat} (hl : l b = some (k, κ)) : ∃ xs, VRs l vs xs ∧ xs.length = n * size ∧ ∀ w', w'.heap = w.heap → (Builtin.firstCells size n (.slice (some ⟨k, o, none⟩) m c)).run P w' = .ok xs.toArray w' := by
  obtain ⟨k', κ', xs, h1, h2, h3, h4⟩ := loadL_ok h e
  rw [hl] at h1
  cases h1
  refine ⟨xs, h3, h4, fun w' hw => ?_⟩
  have : w'.rangeAt _ _ xs := fun j u hj => by have := h2 j u hj; simpa [World.cell?, hw] using this
  simp only [Builtin.firstCells]
  rw [← h4]; exact loadCells_run this
/-- The new block of a row that grew. -/
theorem Kp.grew (h : HR T.sz l H w) (e : TypeId) {z : Array Value} (hz : z.size = T.sz e) {n κ : Nat} {cs : List AV} {xs : List Value} (hx : VRs l cs xs) (hn : xs.length = n * T.sz e) (hle : n ≤ κ) (D : Nat) :
    Kp T.sz lo l H w (l.upd H.nx (w.heap.size, κ)) (H.new (.cells e cs true)) { w with drawn := D, heap := w.heap.push (.cells (xs ++ (Builtin.zeroCells z (κ - n)).toList).toArray e (0, 0)) } := by
  have ho : OR T.sz (l.upd H.nx (w.heap.size, κ)) κ (.cells e cs true) (.cells (xs ++ (Builtin.zeroCells z (κ - n)).toList).toArray e (0, 0)) := by
    refine .opn (hx.mono (Env.upd_le h _)) ?_ (.inl rfl)
    rw [List.length_append, hn, Array.length_toList, size_zeroCells, hz, ← Nat.add_mul]
    congr 1; omega
  exact Kp.born h κ ho (by simp) (by simp) (fun j hj => by simp [Array.getElem?_push, Nat.ne_of_lt hj]) rfl rfl rfl
theorem appendV_ok (hT : TbOk P T) (h : HR T.sz l H w) {t t2 ty : TypeId} {s x v : AV} {H' : Hp} (e : appendV T H lo t t2 s x = some (v, H')) {a b : Value} (ha : VR l s a) (hb : VR l x b) (ts : Array TypeId) (ht0 : ts[0]? = some t) (ht1 : ts[1]? = some t2) :
    Gives P T.sz lo l H w (Builtin.append_ ts ty #[a, b]) v H' := by
  unfold appendV at e
  split at e
  · rename_i el _ _ _ _ i2 ht ht2
    split at e
    · cases e
    rename_i i hi
    split at e
    · rename_i z hz hd2 hsz
      have hsz := Nat.eq_of_beq_eq_true hsz
      split at e
      · rename_i n new hzl hnew
        have hzl := Nat.eq_of_beq_eq_true hzl
        obtain ⟨hlen, news, hv, hnl, hfirst⟩ := newCellsV_ok (P := P) h hnew hb
        obtain ⟨fi, q1, q2, q3, q4⟩ := hT.info _ _ hi
        obtain ⟨z0, zx, q5, q6⟩ := q4 z hz
        have hzs : zx.cells.size = T.sz el := by have := (avCells_ok (q6 l) z0).length; rw [hzl, hsz] at this; simpa using this.symm
        rw [← q2] at hfirst hnl
        have hfs : fi.size = T.sz el := by rw [q2, hsz]
        have hu := hT.und _ _ ht
        have hu2 := hT.und _ _ ht2
        split at e
        · cases ha
          split at e
          · rename_i h0
            have h0 := Nat.eq_of_beq_eq_true h0
            subst h0
            cases e
            exact .pure h (run_none t t2 ty el fi _ ts ht0 ht1 hu hu2 hd2 q1 b news hlen hfirst) .nils
          · rename_i h0 g1 g2
            have h0 := Nat.ne_of_beq_eq_false h0
            rw [Nat.ble_eq] at g1 g2
            cases e
            have hr := run_grow (P := P) (w := w) t t2 ty el fi zx _ ts ht0 ht1 hu hu2 hd2 q1 q5 none 0 0 n b [] news hlen hfirst (fun _ _ => rfl) (by omega) (by omega) (by rw [q3]; simpa using g1)
            simp only [List.nil_append, Nat.zero_add] at hr
            refine ⟨_, _, _, hr, ?_, Kp.grew h el hzs hv (by rw [hnl, hfs]) (grownCap_ge _ _ _ _) _⟩
            exact .slo 0 n 0 (Env.upd_at _ _ _) (by show 0 + n ≤ grownCap w n 0 el; rw [Nat.zero_add]; exact grownCap_ge _ _ _ _)
          · cases e
        · rename_i b0 o m c
          cases ha with | sl _ _ _ hl => ?_
          rename_i k κ
          split at e
          · rename_i hmc
            rw [Nat.ble_eq] at hmc
            split at e
            · rename_i H2 hst
              cases e
              obtain ⟨k', κ', h1, h2, h3, h4⟩ := storeH_ok h hst hv
              rw [hl] at h1
              cases h1
              rw [← q2] at h2 h4
              exact ⟨_, _, _, run_room t t2 ty el fi _ ts ht0 ht1 hu hu2 hd2 q1 k o m c n b news hlen hfirst hmc h2 h3, .sl _ _ _ hl, h4⟩
            · cases e
          · rename_i hmc
            have hmc : ¬ (m + n ≤ c) := by
              intro hh
              rw [← Nat.ble_eq] at hh
              rw [hh] at hmc; cases hmc
            split at e
            · rename_i old hold g1 g2
              rw [Nat.ble_eq] at g1 g2
              cases e
              rw [← q2] at hold
              obtain ⟨olds, r1, r2, r3⟩ := loadL_first (P := P) (m := m) (c := c) h hold hl
              have hr := run_grow (P := P) (w := w) t t2 ty el fi zx _ ts ht0 ht1 hu hu2 hd2 q1 q5 (some ⟨k, o, none⟩) m c n b olds news hlen hfirst r3 (by omega) g2 (by rw [q3]; exact g1)
              rw [← List.append_assoc] at hr
              refine ⟨_, _, _, hr, ?_, Kp.grew h el hzs (r1.append hv) (by rw [List.length_append, r2, hnl, hfs, Nat.add_mul]) (grownCap_ge _ _ _ _) _⟩
              exact .slo 0 (m + n) 0 (Env.upd_at _ _ _) (by show 0 + (m + n) ≤ grownCap w (m + n) c el; rw [Nat.zero_add]; exact grownCap_ge _ _ _ _)
            · cases e
        · rename_i b0 o m d
          split at e
          · rename_i h0
            have h0 := Nat.eq_of_beq_eq_true h0
            subst h0
            cases e
            cases ha with | slo _ _ _ hl hd => ?_
            rename_i k κ
            have hnil : news = [] := by
              apply List.eq_nil_of_length_eq_zero
              rw [hnl]; simp
            subst hnil
            exact .pure h (run_room t t2 ty el fi _ ts ht0 ht1 hu hu2 hd2 q1 k o m (κ - d) 0 b [] hlen hfirst (by omega) (fun j hj => by cases hj) (fun u hu => by cases hu)) (.slo _ _ _ hl hd)
          · rename_i hn0
            have hn0 := Nat.ne_of_beq_eq_false hn0
            split at e
            · rename_i g1 g2 g3 g4 g5
              have g1 := Nat.eq_of_beq_eq_true g1
              have g2 := Nat.eq_of_beq_eq_true g2
              rw [Nat.ble_eq] at g3 g4 g5
              subst g1 g2
              split at e
              · rename_i t' cs hb0
                split at e
                · rename_i c1 c2 c3
                  have c1 := Nat.eq_of_beq_eq_true c1
                  have c2 := Nat.eq_of_beq_eq_true c2
                  subst c2
                  cases e
                  cases ha with | slo _ _ _ hl hd => ?_
                  rename_i k κ
                  obtain ⟨k', κ', ys, rest, fr, p1, p2, p3, -, p5, p6⟩ := h.at_ hb0
                  rw [hl] at p1
                  cases p1
                  have p5 := p5 rfl
                  have hyl := p3.length
                  by_cases hroom : m + n ≤ κ
                  · have hmul : (m + n) * T.sz t' ≤ κ * T.sz t' := Nat.mul_le_mul_right _ hroom
                    rw [Nat.add_mul] at hmul
                    have hr : rest = rest.take news.length ++ rest.drop news.length := (List.take_append_drop _ _).symm
                    have hrl : news.length ≤ rest.length := by
                      rw [List.length_append] at p5
                      rw [hnl, hfs]; rw [← hyl, c1, hsz] at p5; omega
                    have hset := setCells_heap k news w (m * fi.size) ys (rest.take news.length) (rest.drop news.length) t' fr (by rw [← hr]; exact p2) (by rw [← hyl, c1, q2]) (by simp; omega)
                    obtain ⟨r1, r2, r3⟩ := setCells_rest k news w (m * fi.size)
                    have hroomr := run_room (w := w) t t2 ty t' fi _ ts ht0 ht1 hu hu2 hd2 q1 k 0 m (κ - 0) n b news hlen hfirst (by omega) (fun j hj => by
                      have hj2 : m * fi.size + j < (ys ++ rest).length := by rw [List.length_append, ← hyl, c1, q2]; omega
                      rw [Nat.zero_add]
                      exact ⟨by rw [cell_get p2 _ _ (List.getElem?_eq_getElem hj2)]; rfl, frOk_not p6 p2 hj2⟩) (ones_ok hv c3)
                    rw [Nat.zero_add] at hroomr
                    refine ⟨_, _, _, hroomr, .slo 0 (m + n) 0 (Env.upd_at _ _ _) (by omega), Kp.moved h hb0 hl g5 (setCells_size _ _ _ _) (fun j hj => setCells_other _ _ _ _ _ hj) hset ?_ r1 r2 r3⟩
                    rw [← List.append_assoc]
                    have hmono := Env.upd_le h (k, κ)
                    refine .opn ((p3.append hv).mono hmono) ?_ (frOk_len p6 ?_)
                    · rw [← p5]; simp only [List.length_append, List.length_drop]; omega
                    · simp only [List.length_append, List.length_drop]; omega
                  · have hold : loadL H b0 0 (m * i.size) = some cs := by
                      unfold loadL
                      rw [hb0]
                      simp only [Nat.zero_add, ← c1]
                      rw [show Nat.ble cs.length cs.length = true from by rw [Nat.ble_eq]; exact Nat.le_refl _]
                      simp
                    rw [← q2] at hold
                    obtain ⟨olds, s1, s2, s3⟩ := loadL_first (P := P) (m := m) (c := κ - 0) h hold hl
                    have hr := run_grow (P := P) (w := w) t t2 ty t' fi zx _ ts ht0 ht1 hu hu2 hd2 q1 q5 (some ⟨k, 0, none⟩) m (κ - 0) n b olds news hlen hfirst s3 (by omega) g4 (by rw [q3]; exact g3)
                    rw [← List.append_assoc] at hr
                    have hk := Kp.grew (lo := lo) (h.less b0) t' hzs (s1.append hv) (by rw [List.length_append, s2, hnl, hfs, Nat.add_mul]) (grownCap_ge w (m + n) (κ - 0) t') (w.drawn + 1)
                    exact ⟨_, _, _, hr, .slo 0 (m + n) 0 (Env.upd_at _ _ _) (by show 0 + (m + n) ≤ grownCap w (m + n) (κ - 0) t'; rw [Nat.zero_add]; exact grownCap_ge _ _ _ _), hk.drop⟩
                · cases e
              · cases e
            · cases e
        · cases e
      · cases e
    · cases e
  · cases e
end Go.Proofs.YtkbmmoobcikbaaaGreatDoor.Ev
namespace Go.Proofs.YtkbmmoobcikbaaaGreatDoor.Ev
open Go Go.RowKit

variable {P : Program} {T : Tb} {lo : Nat} {l : Env} {H : Hp} {w : World} {f : Tr AV} {ρ : Operand → Value}

/-! the same block, marked -/
theorem freeze_ok (h : HR T.sz l H w) {b k κ : Nat} {t : TypeId} {cs : List AV} {p : Bool} (hb : H.get b = some (.cells t cs p)) (hl : l b = some (k, κ)) (hlo : lo ≤ b) {n : Nat} (hn : ∀ c t' fr, w.heap[k]? = some (.cells c t' fr) → n = c.size) :
    Kp T.sz lo l H w l (H.put b (.cells t cs p)) (w.freeze ⟨k, n, none⟩ 1) := by
  obtain ⟨k', κ', ys, rest, fr, p1, p2, p3, p4, p5, p6⟩ := h.at_ hb
  rw [hl] at p1
  cases p1
  have hn := hn _ _ _ p2
  obtain ⟨fr', hk, hf'⟩ : ∃ fr', (w.freeze ⟨k, n, none⟩ 1).heap[k]? = some (.cells (ys ++ rest).toArray t fr') ∧ frOk fr' (ys ++ rest).length := by
    have hlt := (Array.getElem?_eq_some_iff.1 p2).1
    have hg := (Array.getElem?_eq_some_iff.1 p2).2
    obtain ⟨a, c⟩ := fr
    refine ⟨if (a == c) = true then (n, n + 1) else (min a n, max c (n + 1)), ?_, ?_⟩
    · simp only [World.freeze]
      rw [if_neg (by decide)]
      simp only [Array.getElem?_eq_getElem (show k < (w.heap.modify k _).size by simpa using hlt), Array.getElem_modify_self, hg]
    · have hsz : n = (ys ++ rest).length := by simpa using hn
      unfold frOk at p6 ⊢
      right
      split
      · rw [hsz]; exact Nat.le_refl _
      · rename_i hac
        rcases p6 with e | e
        · cases e; exact absurd rfl hac
        · simp only at e ⊢
          omega
  have hs : (w.freeze ⟨k, n, none⟩ 1).heap.size = w.heap.size := by simp [World.freeze]
  have ho : ∀ j, j ≠ k → (w.freeze ⟨k, n, none⟩ 1).heap[j]? = w.heap[j]? := fun j hj => by
    simp only [World.freeze]
    rw [if_neg (by decide)]
    simp only
    rw [Array.getElem?_modify, if_neg (fun e => hj e.symm)]
  refine Kp.turn h hb hl hlo hs ho hk ?_ (by simp [World.freeze]) (by simp [World.freeze]) (by simp [World.freeze])
  cases p with
  | false =>
    have := p4 rfl
    subst this
    rw [List.append_nil] at hf' ⊢; exact .shut p3 hf'
  | true => exact .opn p3 (p5 rfl) hf'
/-- A row of bytes that is turned into itself. -/
noncomputable def markV (T : Tb) (H : Hp) (lo : Nat) (s d : TypeId) (x : AV) : Option (AV × Hp) :=
  match T.ty s, T.ty d, Nat.beq s d with
  | some ⟨.slice _, _, _, _, _⟩, some ⟨.slice e, _, _, _, _⟩, true => match T.ty e with
    | some ⟨.int .u8, _, _, _, _⟩ => match (match x with | .sl b _ _ _ => some b | .slo b _ _ _ => some b | _ => none) with
      | some b => match H.get b, Nat.ble lo b with
        | some (.cells t cs p), true => some (x, H.put b (.cells t cs p))
        | _, _ => none
      | none => none
    | _ => none
  | _, _, _ => none
theorem markV_ok (hT : TbOk P T) (h : HR T.sz l H w) {s d : TypeId} {x v : AV} {H' : Hp} (e : markV T H lo s d x = some (v, H')) {a : Value} (hx : VR l x a) : Gives P T.sz lo l H w (convert s d a) v H' := by
  unfold markV at e
  split at e
  · rename_i e1 _ _ _ _ el _ _ _ _ hs hd hsd
    have hsd : s = d := Nat.eq_of_beq_eq_true hsd
    split at e
    · rename_i hel
      split at e
      · rename_i b hb
        split at e
        · rename_i t cs p hg hlo
          rw [Nat.ble_eq] at hlo
          cases e
          obtain ⟨k, κ, o, n, c, hl, rfl⟩ : ∃ k κ o n c, l b = some (k, κ) ∧ a = .slice (some ⟨k, o, none⟩) n c := by
            cases hx <;> first | (cases hb; done) | (cases hb; rename_i hl; exact ⟨_, _, _, _, _, hl, rfl⟩) | (cases hb; rename_i hl _; exact ⟨_, _, _, _, _, hl, rfl⟩)
          obtain ⟨k', κ', ys, rest, fr, p1, p2, -⟩ := h.at_ hg
          rw [hl] at p1
          cases p1
          have hk := freeze_ok (lo := lo) h hg hl hlo (n := (ys ++ rest).toArray.size) (fun c t' fr e => by rw [p2] at e; cases e; rfl)
          refine ⟨l, _, _, ?_, hx, hk⟩
          simp [convert, run_underlying (hT.und _ _ hd), run_underlying (hT.und _ _ hel), hsd, markStringish, shape, freeze, Sem.run, World.shape?, p2]
        · cases e
      · cases e
    · cases e
  · cases e
noncomputable def convV (T : Tb) (s d : TypeId) (x : AV) : Option AV :=
  match T.ty s, T.ty d with
  | some _, some j => match j.und, x with
    | .int k, .int _ n => some (.int k (k.wrap n))
    | .string, .str a => some (.str a)
    | _, _ => none
  | _, _ => none
theorem convV_ok (hT : TbOk P T) {s d : TypeId} {x v : AV} (e : convV T s d x = some v) {a : Value} (hx : VR l x a) : ∃ z, (convert s d a).run P w = .ok z w ∧ VR l v z := by
  unfold convV at e
  split at e
  · rename_i i j hi hj
    have h1 := hT.und _ _ hi
    have h2 := hT.und _ _ hj
    split at e
    · rename_i k n hd
      cases e
      cases hx
      rw [hd] at h2
      exact ⟨_, by simp [convert, run_underlying h1, run_underlying h2, Conv.intToInt], .int _ _⟩
    · rename_i a' hd
      cases e
      rw [hd] at h2
      cases hx with | str _ hs => ?_
      refine ⟨_, ?_, .str _ hs⟩
      simp [convert, run_underlying h1, run_underlying h2]
    · cases e
  · cases e

/-! maps -/
noncomputable def sameV (d : TypeDesc) (x y : AV) : Option Bool :=
  match d, x, y with
  | .int _, .int k a, .int k' b => match decide (k = k') with
    | true => some (a == b)
    | false => none
  | .string, .str a, .str b => some (strEq a b)
  | .bool, .bool a, .bool b => some (a == b)
  | _, _, _ => none
theorem sameV_ok {d : TypeDesc} {x y : AV} {r : Bool} (e : sameV d x y = some r) {a b : Value} (hx : VR l x a) (hy : VR l y b) : Instr.sameNow d a b = some r := by
  unfold sameV at e
  split at e
  · split at e
    · rename_i hk
      have hk : _ = _ := of_decide_eq_true hk
      cases e; cases hx; cases hy
      simp [Instr.sameNow, hk]
    · cases e
  · cases e
    cases hx with | str _ h1 => ?_
    cases hy with | str _ h2 => ?_
    simp only [Instr.sameNow, Option.some.injEq]
    rw [beq_toListBytes, Bool.eq_iff_iff, strEq_iff, beq_iff_eq, bs_inj h1 h2]
  · cases e; cases hx; cases hy
    simp [Instr.sameNow]
  · cases e
noncomputable def findV (d : TypeDesc) (k : AV) : List (AV × AV × Nat) → Nat → Option (Option (Nat × AV))
  | [], _ => some none
  | (k', v, _) :: es, i => match sameV d k k' with
    | some true => some (some (i, v))
    | some false => findV d k es (i + 1)
    | none => none
theorem findV_ok {d : TypeDesc} {k : AV} {a : Value} (hk : VR l k a) : ∀ {es : List (AV × AV × Nat)} {i : Nat} {r : Option (Nat × AV)} {xs : List MapEntry}, findV d k es i = some r → ERs l es xs →
    ∃ q, Instr.findNow d a xs i = some q ∧ (r = none → q = none) ∧ ∀ j v, r = some (j, v) → ∃ u, q = some (j, u) ∧ VR l v u ∧ i ≤ j ∧ j - i < es.length ∧ ∃ en, xs[j - i]? = some en ∧ Instr.sameNow d a en.key = some true
  | [], i, r, xs, e, hx => by
    cases hx; cases e
    exact ⟨none, rfl, fun _ => rfl, fun _ _ e => by cases e⟩
  | (k', v, n) :: es, i, r, xs, e, hx => by
    cases hx with
    | cons h1 h2 h3 =>
      rename_i kk vv xs
      unfold findV at e
      unfold Instr.findNow
      split at e
      · rename_i hs
        cases e
        simp only [sameV_ok hs hk h1]
        refine ⟨_, rfl, (fun e => by cases e), fun j v e => ?_⟩
        cases e
        exact ⟨vv, rfl, h2, Nat.le_refl _, by simp, ⟨kk, vv, n⟩, by simp, sameV_ok hs hk h1⟩
      · rename_i hs
        simp only [sameV_ok hs hk h1]
        obtain ⟨q, g1, g2, g3⟩ := findV_ok hk e h3
        refine ⟨q, g1, g2, fun j v e => ?_⟩
        obtain ⟨u, f1, f2, f3, f4, en, f5, f6⟩ := g3 j v e
        have hji : j - i = (j - (i + 1)) + 1 := by omega
        refine ⟨u, f1, f2, by omega, by rw [List.length_cons]; omega, en, ?_, f6⟩
        rw [hji, List.getElem?_cons_succ]; exact f5
      · cases e
noncomputable def plainKey : TypeDesc → Bool
  | .int _ => true
  | .string => true
  | .bool => true
  | _ => false
theorem checkKey_plain (hT : TbOk P T) {t : TypeId} {i : TI} (hi : T.ty t = some i) (hp : plainKey i.und = true) (b : Bool) (a : Value) : (Instr.checkKey b 10000 t a).run P w = .ok () w := by
  show (Instr.checkKey b (9999 + 1) t a).run P w = .ok () w
  have h := run_und (w := w) hT hi
  unfold Instr.checkKey
  rw [Sem.run_bind, h]
  generalize i.und = d at *
  cases d <;> first | (cases hp; done) | rfl
noncomputable def entriesV (H : Hp) : AV → Option (List (AV × AV × Nat))
  | .map none => some []
  | .map (some b) => match H.get b with
    | some (.map es _) => some es
    | _ => none
  | _ => none
noncomputable def lookupV (T : Tb) (H : Hp) (t : TypeId) (x k : AV) (ok : Bool) : Option AV :=
  match T.ty t, entriesV H x with
  | some ⟨.map kt et, _, _, _, _⟩, some es => match T.ty kt, T.ty et with
    | some ki, some ei => match plainKey ki.und, findV ki.und k es 0, ei.zero with
      | true, some (some (_, v)), _ => some (match ok with | true => .tup [v, .bool true] | false => v)
      | true, some none, some z => some (match ok with | true => .tup [z, .bool false] | false => z)
      | _, _, _ => none
    | _, _ => none
  | _, _ => none
theorem lookupV_ok (hT : TbOk P T) (h : HR T.sz l H w) {t : TypeId} {x k v : AV} {ok : Bool} (e : lookupV T H t x k ok = some v) {a c : Value} (hx : VR l x a) (hk : VR l k c) : ∃ z, (Instr.lookup t a c ok).run P w = .ok z w ∧ VR l v z := by
  unfold lookupV at e
  split at e
  · rename_i kt et _ _ _ _ es ht he
    split at e
    · rename_i ki ei hki hei
      have key : ∃ xs : List MapEntry, ERs l es xs ∧ ((a = .map none ∧ xs = []) ∨ ∃ r c', a = .map (some r) ∧ w.heap[r]? = some (.map xs.toArray c')) := by
        unfold entriesV at he
        split at he
        · cases he; cases hx
          exact ⟨[], .nil, .inl ⟨rfl, rfl⟩⟩
        · split at he
          · rename_i b es' c' hb
            cases he
            cases hx with | map hl => ?_
            obtain ⟨k1, κ1, xs, h1, h2, h3⟩ := h.map_ hb
            rw [hl] at h1
            cases h1
            exact ⟨xs, h3, .inr ⟨_, _, rfl, h2⟩⟩
          · cases he
        · cases he
      obtain ⟨xs, hxs, hgo⟩ := key
      have fin : ∀ q, Instr.findNow ki.und c xs 0 = some q → plainKey ki.und = true → (Instr.lookup t a c ok).run P w = ((do
          let (v, o) ← match q with | some (_, v) => pure (v, true) | none => (do pure (← zeroValue et, false))
          pure (if ok then .tuple #[v, .bool o] else v) : Sem Value)).run P w := by
        intro q hq hp
        unfold Instr.lookup Instr.findKey
        rcases hgo with ⟨rfl, rfl⟩ | ⟨r, c', rfl, hr⟩
        · simp only [Sem.run_bind, run_und hT ht, Result.andThen_ok, Sem.run_pure, checkKey_plain hT hki hp, run_und hT hki, hq]
          rcases q with _ | ⟨_, _⟩ <;> simp
        · simp only [Sem.run_bind, run_und hT ht, Result.andThen_ok, run_getMap hr, Sem.run_pure, checkKey_plain hT hki hp, run_und hT hki, hq]
          rcases q with _ | ⟨_, _⟩ <;> simp
      split at e
      · rename_i j v' hp hf
        obtain ⟨q, g1, -, g3⟩ := findV_ok hk hf hxs
        obtain ⟨u, rfl, hu, -⟩ := g3 j v' rfl
        rw [fin _ g1 hp]
        cases ok <;> cases e
        · exact ⟨_, rfl, hu⟩
        · exact ⟨_, rfl, .tup (.cons hu (.cons (.bool _) .nil))⟩
      · rename_i z hp hf hz
        obtain ⟨q, g1, g2, -⟩ := findV_ok hk hf hxs
        cases g2 rfl
        rw [fin _ g1 hp]
        obtain ⟨x0, q1, q2⟩ := run_zeroV (w := w) hT hei hz
        cases ok <;> cases e
        · exact ⟨_, by simp [q1], q2 l⟩
        · exact ⟨_, by simp [q1], .tup (.cons (q2 l) (.cons (.bool _) .nil))⟩
      · cases e
    · cases e
  · cases e
noncomputable def makeMapV (H : Hp) : AV × Hp := (.map (some H.nx), H.new (.map [] 0))
theorem makeMapV_ok (h : HR T.sz l H w) (t : TypeId) : Gives P T.sz lo l H w (Instr.makeMap t none) (makeMapV H).1 (makeMapV H).2 := by
  refine ⟨l.upd H.nx (w.heap.size, 0), _, _, ?_, .map (Env.upd_at _ _ _), Kp.alloc h 0 (o := .map [] 0) (.map 0 .nil)⟩
  simp [Instr.makeMap]
noncomputable def setEs : List (AV × AV × Nat) → Nat → AV → AV → List (AV × AV × Nat)
  | [], _, _, _ => []
  | (_, _, n) :: es, 0, k, v => (k, v, n) :: es
  | e :: es, i + 1, k, v => e :: setEs es i k v
noncomputable def updateV (T : Tb) (H : Hp) (lo : Nat) (t : TypeId) (x k v : AV) : Option Hp :=
  match T.ty t, x with
  | some ⟨.map kt _, _, _, _, _⟩, .map (some b) => match T.ty kt, H.get b, Nat.ble lo b with
    | some ki, some (.map es c), true => match plainKey ki.und, findV ki.und k es 0 with
      | true, some (some (j, _)) => some (H.put b (.map (setEs es j k v) c))
      | true, some none => some (H.put b (.map (es ++ [(k, v, c)]) (c + 1)))
      | _, _ => none
    | _, _, _ => none
  | _, _ => none
theorem ERs.append {l : Env} : ∀ {a x b y}, ERs l a x → ERs l b y → ERs l (a ++ b) (x ++ y)
  | _, _, _, _, .nil, h => h
  | _, _, _, _, .cons h h1 h', h2 => .cons h h1 (ERs.append h' h2)
theorem setEs_ok {k v : AV} {a b : Value} (hk : VR l k a) (hv : VR l v b) : ∀ {es : List (AV × AV × Nat)} {xs : List MapEntry} (i : Nat), ERs l es xs → ERs l (setEs es i k v) (xs.modify i fun e => { e with key := a, val := b })
  | _, _, _, .nil => by simp [setEs]; exact .nil
  | _, _, 0, .cons h1 h2 h3 => .cons hk hv h3
  | _, _, i + 1, .cons h1 h2 h3 => .cons h1 h2 (setEs_ok hk hv i h3)
theorem sameBits_of {d : TypeDesc} {a b : Value} (h : Instr.sameNow d a b = some true) : Instr.sameBits 10000 b a = true := by
  unfold Instr.sameNow at h
  split at h
  · split at h
    · rename_i hk
      have h := Option.some.inj h
      rw [beq_iff_eq] at h
      subst hk h
      simp [Instr.sameBits]
    · cases h
  · have h := Option.some.inj h
    rw [beq_toListBytes, beq_iff_eq] at h
    simp only [Instr.sameBits]
    rw [beq_toListBytes, h]; simp
  · have h := Option.some.inj h
    rw [beq_iff_eq] at h
    subst h; simp [Instr.sameBits]
  · cases h
theorem updateV_ok (hT : TbOk P T) (h : HR T.sz l H w) {t : TypeId} {x k v : AV} {H' : Hp} (e : updateV T H lo t x k v = some H') {a c d : Value} (hx : VR l x a) (hk : VR l k c) (hv : VR l v d) :
    ∃ w', (Instr.mapUpdate t a c d).run P w = .ok () w' ∧ Kp T.sz lo l H w l H' w' := by
  unfold updateV at e
  split at e
  · rename_i kt et _ _ _ _ b ht
    cases hx with | map hl => ?_
    rename_i r κ
    split at e
    · rename_i ki es ck hki hb hlo
      rw [Nat.ble_eq] at hlo
      obtain ⟨k1, κ1, xs, h1, h2, h3⟩ := h.map_ hb
      rw [hl] at h1
      cases h1
      have hset : ∀ o : Obj, (setObj r o).run P w = .ok () { w with heap := w.heap.setIfInBounds r o } := by
        intro o
        simp [setObj, Sem.run, h2]
      have hlt := (Array.getElem?_eq_some_iff.1 h2).1
      have done : ∀ (o' : AObj) (o : Obj), OR T.sz l κ o' o → Kp T.sz lo l H w l (H.put b o') { w with heap := w.heap.setIfInBounds r o } := fun o' o hor =>
        Kp.turn h hb hl hlo (by simp) (fun j hj => by simp only; rw [Array.getElem?_setIfInBounds_ne (fun e => hj e.symm)]) (x := o) (by simp [hlt]) hor rfl rfl rfl
      split at e
      · rename_i j v0 hp hf
        cases e
        obtain ⟨q, g1, -, g3⟩ := findV_ok hk hf h3
        obtain ⟨u, rfl, -, -, -, en, f5, f6⟩ := g3 j v0 rfl
        refine ⟨_, ?_, done _ (.map (xs.modify j fun e => { e with key := c, val := d }).toArray ck) (.map ck (setEs_ok hk hv j h3))⟩
        have hen : xs.toArray[j]? = some en := by simpa using f5
        have hkey : (Instr.keyThatStays (((xs.toArray[j]?).map (·.key)).getD c) c).run P w = .ok c w := by
          rw [hen]
          simp [Instr.keyThatStays, sameBits_of f6]
        have hmod : (xs.toArray.modify j fun e => { e with key := c, val := d }) = (xs.modify j fun e => { e with key := c, val := d }).toArray := by
          apply Array.ext'
          simp
        unfold Instr.mapUpdate Instr.findKey
        simp only [Sem.run_bind, run_und hT ht, Result.andThen_ok, run_getMap h2, checkKey_plain hT hki hp, run_und hT hki, g1, Sem.run_pure, hkey, hmod, hset]
      · rename_i hp hf
        cases e
        obtain ⟨q, g1, g2, -⟩ := findV_ok hk hf h3
        cases g2 rfl
        refine ⟨_, ?_, done _ (.map (xs ++ [(⟨c, d, ck⟩ : MapEntry)]).toArray (ck + 1)) (.map (ck + 1) (h3.append (.cons hk hv .nil)))⟩
        unfold Instr.mapUpdate Instr.findKey
        have hpush : xs.toArray.push (⟨c, d, ck⟩ : MapEntry) = (xs ++ [(⟨c, d, ck⟩ : MapEntry)]).toArray := by simp
        simp only [Sem.run_bind, run_und hT ht, Result.andThen_ok, run_getMap h2, checkKey_plain hT hki hp, run_und hT hki, g1, Sem.run_pure, hpush, hset]
      · cases e
    · cases e
  · cases e
/-! make -/
noncomputable def makeSliceV (T : Tb) (H : Hp) (t : TypeId) (n c : Nat) : Option (AV × Hp) :=
  match T.ty t with
  | some ⟨.slice e, _, _, _, _⟩ => match T.ty e with
    | some ⟨_, size, bytes, some z, _⟩ => match Nat.ble n c, Nat.ble (bytes * c) 1000000000, Nat.ble c 1000000000, Nat.ble (c * size) 1000000 with
      | true, true, true, true => match Nat.beq (avCells z).length size, Nat.beq size 0 with
        | true, false => some (.sl H.nx 0 n c, H.new (.cells e (zerosL (avCells z) (c * size)) false))
        | _, _ => none
      | _, _, _, _ => none
    | _ => none
  | _ => none
theorem makeSliceV_ok (hT : TbOk P T) (h : HR T.sz l H w) {t : TypeId} {n c : Nat} {v : AV} {H' : Hp} (e : makeSliceV T H t n c = some (v, H')) (k k' : IntKind) : Gives P T.sz lo l H w (Instr.makeSlice t (.int k (n : Int)) (.int k' (c : Int))) v H' := by
  unfold makeSliceV at e
  split at e
  · rename_i el _ _ _ _ ht
    split at e
    · rename_i size bytes z _ hel
      split at e
      · rename_i g1 g2 g3 g4
        rw [Nat.ble_eq] at g1 g2 g3 g4
        split at e
        · rename_i hzl hs0
          have hzl := Nat.eq_of_beq_eq_true hzl
          have hs0 := Nat.ne_of_beq_eq_false hs0
          cases e
          obtain ⟨fi, q1, q2, q3, q4⟩ := hT.info _ _ hel
          obtain ⟨z0, zx, q5, q6⟩ := q4 z rfl
          simp only at q2 q3
          have hzs := (avCells_ok (q6 l) z0).length
          have hz : VRs l (zerosL (avCells z) (c * size)) ((List.range (c * size)).map fun i => zx.cells.toList.getD (i % (avCells z).length) undef) :=
            VRs.map _ fun i _ => (avCells_ok (q6 l) z0).getD (Nat.mod_lt _ (by omega))
          have hmade : madeCells zx.cells (c * size) = ((List.range (c * size)).map fun i => zx.cells.toList.getD (i % (avCells z).length) undef).toArray := by
            apply Array.ext'
            simp only [madeCells, Array.toList_map, Array.toList_range]
            apply List.map_congr_left
            intro i _
            have e1 : zx.cells.size = (avCells z).length := by rw [hzs]; simp
            have e2 : i % (avCells z).length < zx.cells.size := by rw [e1]; exact Nat.mod_lt _ (by omega)
            rw [e1, getElem!_pos zx.cells _ e2]
            simp [List.getD, e2]
          have hbb : (fi.bytes : Int) * (c : Int) ≤ 281474976710656 := by
            have h1 : ((bytes * c : Nat) : Int) ≤ 1000000000 := by omega
            rw [Int.natCast_mul] at h1
            rw [q3]; omega
          have hr := run_make (P := P) w t el fi zx (hT.und _ _ ht) q1 q5 k k' (n : Int) (c : Int) (by omega) (by omega) hbb (by omega)
          rw [Int.toNat_natCast, Int.toNat_natCast, q2, hmade] at hr
          obtain ⟨l', -, h4, h5⟩ := newRow_ok (P := P) (lo := lo) h el hz
          exact ⟨l', _, _, hr, .sl _ _ _ h4, h5⟩
        · cases e
      · cases e
    · cases e
  · cases e
/-! a text's bytes -/
noncomputable def bytesV (T : Tb) (H : Hp) (s d : TypeId) (x : AV) : Option (AV × Hp) :=
  match T.ty s, T.ty d, x with
  | some _, some ⟨.slice e, _, _, _, _⟩, .str a => match T.ty e with
    | some ⟨.int .u8, _, _, _, _⟩ => match Nat.beq (T.sz e) 1 with
      | true => some (.slo H.nx 0 a.length 0, H.new (.cells e (a.map fun c => .int .u8 (.ofNat c)) true))
      | false => none
    | _ => none
  | _, _, _ => none
theorem bytesV_ok (hT : TbOk P T) (h : HR T.sz l H w) {s d : TypeId} {x v : AV} {H' : Hp} (e : bytesV T H s d x = some (v, H')) {a : Value} (hx : VR l x a) : Gives P T.sz lo l H w (convert s d a) v H' := by
  unfold bytesV at e
  split at e
  · rename_i i el _ _ _ _ a0 hs hd
    split at e
    · rename_i hel
      split at e
      · rename_i hsz
        have hsz := Nat.eq_of_beq_eq_true hsz
        cases e
        cases hx with | str _ hlt => ?_
        have hlen : (bs a0).size = a0.length := by simp [bs, ByteArray.size]
        have hge := grownCap_ge w a0.length 0 el
        have hr := Lib.run_convert_string_bytes (P := P) w s d el (bs a0) (hT.und _ _ hs) (hT.und _ _ hd) (hT.und _ _ hel)
        rw [hlen] at hr
        have hcells : Lib.bytesCells w el (bs a0) = ((a0.map fun (c : Nat) => Value.int .u8 (c : Int)) ++ List.replicate (grownCap w a0.length 0 el - a0.length) (Value.int .u8 0)).toArray := by
          unfold Lib.bytesCells
          rw [hlen]
          apply Array.ext'
          simp only [Array.toList_append, Array.toList_map, Array.toList_replicate]
          congr 1
          simp only [bs, List.map_map]
          apply List.map_congr_left
          intro c hc
          simp [Nat.mod_eq_of_lt (hlt c hc)]
        refine ⟨l.upd H.nx (w.heap.size, grownCap w a0.length 0 el), _, _, hr, .slo 0 a0.length 0 (Env.upd_at _ _ _) (by rw [Nat.zero_add]; exact hge), ?_⟩
        refine Kp.born h (grownCap w a0.length 0 el) (x := .cells (Lib.bytesCells w el (bs a0)) el ((Lib.bytesCells w el (bs a0)).size, (Lib.bytesCells w el (bs a0)).size + 1)) ?_ (Lib.bytesWorld_size w el (bs a0)) (Lib.bytesWorld_at_new w el (bs a0)) (fun j hj => Lib.bytesWorld_at_old w el (bs a0) j hj) ?_ ?_ ?_
        · rw [hcells]
          refine .opn (VRs.map a0 fun c _ => .int _ _) ?_ (.inr ?_)
          · rw [hsz, List.length_append, List.length_map, List.length_replicate]; omega
          · simp
        · simp [Lib.bytesWorld, World.freeze, World.alloc, World.drew, -World.alloc_eq, -World.drew_eq]
        · simp [Lib.bytesWorld, World.freeze, World.alloc, World.drew, -World.alloc_eq, -World.drew_eq]
        · simp [Lib.bytesWorld, World.freeze, World.alloc, World.drew, -World.alloc_eq, -World.drew_eq]
      · cases e
    · cases e
  · cases e
/-! bytes' text -/
noncomputable def u8sL : List AV → Option (List Nat)
  | [] => some []
  | .int .u8 (.ofNat n) :: r => match Nat.blt n 256, u8sL r with
    | true, some l => some (n :: l)
    | _, _ => none
  | _ => none
noncomputable def stringV (T : Tb) (H : Hp) (s d : TypeId) (x : AV) : Option (AV × Hp) :=
  match T.ty s, T.ty d with
  | some ⟨.slice e, _, _, _, _⟩, some ⟨.string, _, _, _, _⟩ => match T.ty e with
    | some ⟨.int .u8, _, _, _, _⟩ => match (match x with | .nils => some [] | .sl b o n _ => loadL H b o n | .slo b o n _ => loadL H b o n | _ => none) with
      | some cs => match u8sL cs with
        | some l => some (.str l, H)
        | none => none
      | none => none
    | _ => none
  | _, _ => none
theorem u8sL_ok : ∀ {cs : List AV} {r : List Nat} {xs : List Value}, u8sL cs = some r → VRs l cs xs → xs = r.map (fun (n : Nat) => Value.int .u8 (n : Int)) ∧ ∀ n ∈ r, n < 256
  | [], r, xs, e, h => by cases e; cases h; exact ⟨rfl, fun n hn => by cases hn⟩
  | c :: cs, r, xs, e, h => by
    unfold u8sL at e
    split at e
    · rename_i hh; cases hh
    · rename_i n cs' hh
      cases hh
      split at e
      · rename_i r' hn hr
        cases e
        cases h with | cons h1 h2 => ?_
        cases h1
        obtain ⟨g1, g2⟩ := u8sL_ok hr h2
        subst g1
        refine ⟨rfl, fun m hm => ?_⟩
        rcases List.mem_cons.1 hm with rfl | hm
        · simpa [Nat.blt_eq] using hn
        · exact g2 m hm
      · cases e
    · cases e
theorem pushAll (l : List Nat) : ∀ s : ByteArray, (forIn (m := Sem) (l.map fun (n : Nat) => Value.int .u8 (n : Int)) s fun c s => (match c with | .int .u8 n => pure (ForInStep.yield (s.push (UInt8.ofNat n.toNat))) | _ => (do stuck "bytesToString: byte expected"; pure (ForInStep.yield s)) : Sem (ForInStep ByteArray))) = pure (s ++ bs l) := by
  induction l with
  | nil =>
    intro s
    simp only [List.map_nil, List.forIn_nil]
    congr 1
    apply ByteArray.ext
    simp [bs]
  | cons a l ih =>
    intro s
    simp only [List.map_cons, List.forIn_cons, pure_bind, ih]
    congr 1
    apply ByteArray.ext
    simp [bs, ByteArray.push]
theorem stringV_ok (hT : TbOk P T) (h : HR T.sz l H w) {s d : TypeId} {x v : AV} {H' : Hp} (e : stringV T H s d x = some (v, H')) {a : Value} (hx : VR l x a) : Gives P T.sz lo l H w (convert s d a) v H' := by
  unfold stringV at e
  split at e
  · rename_i el _ _ _ _ _ _ _ _ hs hd
    split at e
    · rename_i hel
      split at e
      · rename_i cs hcs
        split at e
        · rename_i r hr
          cases e
          have hne : ∀ b n c, (convert s d (.slice b n c)).run P w = (Conv.bytesToString (.slice b n c)).run P w := fun b n c => by
            simp [convert, run_underlying (hT.und _ _ hs), run_underlying (hT.und _ _ hd), run_underlying (hT.und _ _ hel)]
          have fin : ∀ k o n c xs, w.rangeAt k o xs → xs.length = n → VRs l cs xs → ∃ z, (convert s d (.slice (some ⟨k, o, none⟩) n c)).run P w = .ok z w ∧ VR l (.str r) z := by
            intro k o n c xs h1 h2 h3
            obtain ⟨g1, g2⟩ := u8sL_ok hr h3
            refine ⟨_, ?_, .str r g2⟩
            rw [hne]
            unfold Conv.bytesToString
            subst h2
            simp only [Sem.run_bind, loadCells_run h1, Result.andThen_ok]
            subst g1
            have := pushAll r ByteArray.empty
            simp only [List.forIn_toArray]
            refine (congrArg (fun z => (Sem.run P z w).andThen fun a w' => Sem.run P (pure (Value.string a)) w') this).trans ?_
            simp only [Sem.run_pure, Result.andThen_ok]
            congr 2
          cases hx <;> first | (cases hcs; done) | skip
          · cases hcs
            cases hr
            refine .pure h ?_ (.str [] (fun x hx => by cases hx))
            rw [hne]; rfl
          · rename_i b k κ o n c hl
            obtain ⟨k', κ', xs, h1, h2, h3, h4⟩ := loadL_ok h hcs
            rw [hl] at h1
            cases h1
            obtain ⟨z, h5, h6⟩ := fin _ o n c xs h2 h4 h3
            exact .pure h h5 h6
          · rename_i b k κ o n c hl hd
            obtain ⟨k', κ', xs, h1, h2, h3, h4⟩ := loadL_ok h hcs
            rw [hl] at h1
            cases h1
            obtain ⟨z, h5, h6⟩ := fin _ o n _ xs h2 h4 h3
            exact .pure h h5 h6
        · cases e
      · cases e
    · cases e
  · cases e
/-- .. as it is read, nothing turned. -/
noncomputable def stringR (T : Tb) (H : Hp) (s d : TypeId) (x : AV) : Option AV :=
  match T.ty s, T.ty d with
  | some ⟨.slice e, _, _, _, _⟩, some ⟨.string, _, _, _, _⟩ => match T.ty e with
    | some ⟨.int .u8, _, _, _, _⟩ => match (match x with | .nils => some [] | .sl b o n _ => loadL H b o n | .slo b o n _ => loadL H b o n | _ => none) with
      | some cs => match u8sL cs with
        | some l => some (.str l)
        | none => none
      | none => none
    | _ => none
  | _, _ => none
theorem stringR_ok (hT : TbOk P T) (h : HR T.sz l H w) {s d : TypeId} {x v : AV} (e : stringR T H s d x = some v) {a : Value} (hx : VR l x a) : ∃ z, (convert s d a).run P w = .ok z w ∧ VR l v z := by
  unfold stringR at e
  split at e
  · rename_i el _ _ _ _ _ _ _ _ hs hd
    split at e
    · rename_i hel
      split at e
      · rename_i cs hcs
        split at e
        · rename_i r hr
          cases e
          have hne : ∀ b n c, (convert s d (.slice b n c)).run P w = (Conv.bytesToString (.slice b n c)).run P w := fun b n c => by
            simp [convert, run_underlying (hT.und _ _ hs), run_underlying (hT.und _ _ hd), run_underlying (hT.und _ _ hel)]
          have fin : ∀ k o n c xs, w.rangeAt k o xs → xs.length = n → VRs l cs xs → ∃ z, (convert s d (.slice (some ⟨k, o, none⟩) n c)).run P w = .ok z w ∧ VR l (.str r) z := by
            intro k o n c xs h1 h2 h3
            obtain ⟨g1, g2⟩ := u8sL_ok hr h3
            refine ⟨_, ?_, .str r g2⟩
            rw [hne]
            unfold Conv.bytesToString
            subst h2
            simp only [Sem.run_bind, loadCells_run h1, Result.andThen_ok]
            subst g1
            have := pushAll r ByteArray.empty
            simp only [List.forIn_toArray]
            refine (congrArg (fun z => (Sem.run P z w).andThen fun a w' => Sem.run P (pure (Value.string a)) w') this).trans ?_
            simp only [Sem.run_pure, Result.andThen_ok]
            congr 2
          cases hx <;> first | (cases hcs; done) | skip
          · cases hcs
            cases hr
            refine ⟨_, ?_, .str [] (fun x hx => by cases hx)⟩
            rw [hne]; rfl
          · rename_i b k κ o n c hl
            obtain ⟨k', κ', xs, h1, h2, h3, h4⟩ := loadL_ok h hcs
            rw [hl] at h1
            cases h1
            obtain ⟨z, h5, h6⟩ := fin _ o n c xs h2 h4 h3
            exact ⟨z, h5, h6⟩
          · rename_i b k κ o n c hl hd
            obtain ⟨k', κ', xs, h1, h2, h3, h4⟩ := loadL_ok h hcs
            rw [hl] at h1
            cases h1
            obtain ⟨z, h5, h6⟩ := fin _ o n _ xs h2 h4 h3
            exact ⟨z, h5, h6⟩
        · cases e
      · cases e
    · cases e
  · cases e
/-- A conversion that makes a block, or looks at one. -/
noncomputable def convHV (T : Tb) (H : Hp) (lo : Nat) (s d : TypeId) (x : AV) : Option (AV × Hp) :=
  match bytesV T H s d x with
  | some r => some r
  | none => match stringV T H s d x with
    | some r => some r
    | none => markV T H lo s d x
theorem convHV_ok (hT : TbOk P T) (h : HR T.sz l H w) {s d : TypeId} {x v : AV} {H' : Hp} (e : convHV T H lo s d x = some (v, H')) {a : Value} (hx : VR l x a) : Gives P T.sz lo l H w (convert s d a) v H' := by
  unfold convHV at e
  split at e
  · rename_i h1; cases e; exact bytesV_ok hT h h1 hx
  · split at e
    · rename_i h1; cases e; exact stringV_ok hT h h1 hx
    · exact markV_ok hT h e hx
end Go.Proofs.YtkbmmoobcikbaaaGreatDoor.Ev
namespace Go.Proofs.YtkbmmoobcikbaaaGreatDoor.Ev
open Go Go.RowKit

variable {P : Program} {T : Tb} {lo : Nat} {l : Env} {H : Hp} {w : World} {f : Tr AV} {ρ : Operand → Value}

theorem HR.chan_ {sz : TypeId → Nat} (h : HR sz l H w) {b cap : Nat} {buf : List AV} {cl : Bool} {s r : Nat} (hb : H.get b = some (.chan cap buf cl s r)) : ∃ k κ xs, l b = some (k, κ) ∧ w.heap[k]? = some (.chan cap xs.toArray cl s r false) ∧ VRs l buf xs := by
  obtain ⟨k, κ, x, h1, h2, h3⟩ := h.obj b _ hb
  cases h3
  exact ⟨k, κ, _, h1, h2, by assumption⟩
theorem run_getObj {k cap s r : Nat} {buf : Array Value} {cl tm : Bool} (h : w.heap[k]? = some (.chan cap buf cl s r tm)) : (getObj k).run P w = .ok (.chan cap buf cl s r tm) w := by
  simp [getObj, Sem.run, h]
noncomputable def lenCV (T : Tb) (H : Hp) (t : TypeId) (x : AV) : Option Nat :=
  match T.ty t with
  | some ⟨.chan _ _, _, _, _, _⟩ => match x with
    | .chan none => some 0
    | .chan (some b) => match H.get b with
      | some (.chan _ buf _ _ _) => some buf.length
      | _ => none
    | _ => none
  | _ => none
theorem lenCV_ok (hT : TbOk P T) (h : HR T.sz l H w) {t ty : TypeId} {x : AV} {n : Nat} (e : lenCV T H t x = some n) {a : Value} (hx : VR l x a) (ts : Array TypeId) (ht0 : ts[0]? = some t) : (Builtin.len_ ts ty #[a]).run P w = .ok (.int .i64 (n : Int)) w := by
  unfold lenCV at e
  split at e
  · rename_i ht
    split at e
    · cases e
      cases hx
      simp [Builtin.len_, ht0, run_und hT ht, goInt]
    · split at e
      · rename_i hb
        cases e
        cases hx with | chan hl => ?_
        obtain ⟨k, κ, xs, h1, h2, h3⟩ := h.chan_ hb
        rw [hl] at h1
        cases h1
        simp [Builtin.len_, ht0, run_und hT ht, run_getObj h2, goInt, h3.length]
      · cases e
    · cases e
  · cases e
noncomputable def capV (T : Tb) (t : TypeId) (x : AV) : Option Nat :=
  match T.ty t with
  | some ⟨.slice _, _, _, _, _⟩ => match x with
    | .nils => some 0
    | .sl _ _ _ c => some c
    | _ => none
  | _ => none
theorem capV_ok (hT : TbOk P T) {t ty : TypeId} {x : AV} {n : Nat} (e : capV T t x = some n) {a : Value} (hx : VR l x a) (ts : Array TypeId) (ht0 : ts[0]? = some t) : (Builtin.cap_ ts ty #[a]).run P w = .ok (.int .i64 (n : Int)) w := by
  unfold capV at e
  split at e
  · rename_i ht
    split at e <;> cases e <;> cases hx <;> simp [Builtin.cap_, ht0, run_und hT ht, goInt]
  · cases e

/-! copy, clear -/
noncomputable def rowLenV : AV → Option Nat
  | .nils => some 0
  | .sl _ _ n _ => some n
  | .slo _ _ n _ => some n
  | .sle => some 0
  | .str s => some s.length
  | _ => none
theorem rowLenV_ok {x : AV} {n : Nat} (e : rowLenV x = some n) {a : Value} (hx : VR l x a) : ∀ w', (Builtin.lenOf a).run P w' = .ok n w' := by
  unfold rowLenV at e
  split at e <;> cases e <;> cases hx <;> intro w' <;> simp [Builtin.lenOf, bs, ByteArray.size]
noncomputable def firstV (H : Hp) (size n : Nat) : AV → Option (List AV)
  | .nils => some []
  | .sl b o _ _ => loadL H b o (n * size)
  | .slo b o _ _ => loadL H b o (n * size)
  | .str s => some ((s.take n).map fun c => .int .u8 (.ofNat c))
  | _ => none
theorem firstV_ok (h : HR T.sz l H w) {size n : Nat} {x : AV} {cs : List AV} (e : firstV H size n x = some cs) {a : Value} (hx : VR l x a) : ∃ xs, (Builtin.firstCells size n a).run P w = .ok xs.toArray w ∧ VRs l cs xs := by
  unfold firstV at e
  split at e
  · cases e; cases hx
    exact ⟨[], rfl, .nil⟩
  · cases hx with | sl _ _ _ hl => ?_
    obtain ⟨k, κ, xs, h1, h2, h3, h4⟩ := loadL_ok h e
    rw [hl] at h1
    cases h1
    refine ⟨xs, ?_, h3⟩
    show (loadCells _ (n * size)).run P w = _
    rw [← h4]; exact loadCells_run h2
  · cases hx with | slo _ _ _ hl hd => ?_
    obtain ⟨k, κ, xs, h1, h2, h3, h4⟩ := loadL_ok h e
    rw [hl] at h1
    cases h1
    refine ⟨xs, ?_, h3⟩
    show (loadCells _ (n * size)).run P w = _
    rw [← h4]; exact loadCells_run h2
  · rename_i s
    cases e
    cases hx with | str _ hs => ?_
    refine ⟨(s.take n).map fun (c : Nat) => Value.int .u8 (c : Int), ?_, VRs.map _ fun c _ => .int _ _⟩
    simp only [Builtin.firstCells, Sem.run_pure]
    congr 1
    apply Array.ext'
    have e1 : ((bs s).extract 0 n).data.toList = ((s.map UInt8.ofNat).take n) := by
      simp [bs, ByteArray.data_extract]
    simp only [Array.toList_map, e1]
    rw [← List.map_take, List.map_map]
    apply List.map_congr_left
    intro c hc
    simp [Nat.mod_eq_of_lt (hs c (List.mem_of_mem_take hc))]
  · cases e
theorem storeCells_run (h : HR T.sz l H w) {b o : Nat} {vs : List AV} {H' : Hp} (e : storeH H lo b o vs = some H') {xs : List Value} (hx : VRs l vs xs) {k κ : Nat} (hl : l b = some (k, κ)) :
    ∃ w', (storeCells ⟨k, o, none⟩ xs).run P w = .ok () w' ∧ Kp T.sz lo l H w l H' w' := by
  obtain ⟨k', κ', h1, h2, h3, h4⟩ := storeH_ok h e hx
  rw [hl] at h1
  cases h1
  refine ⟨_, ?_, h4⟩
  have hst := run_storeCells_cells (P := P) k o xs 0 w (fun j hj => by simpa using (h2 j hj).1) (fun j hj => by simpa using (h2 j hj).2) h3
  simpa using hst
/-- Where a row's cells lie. -/
noncomputable def rowAtV : AV → Option (Option (Nat × Nat) × Nat)
  | .nils => some (none, 0)
  | .sl b o n _ => some (some (b, o), n)
  | .slo b o n _ => some (some (b, o), n)
  | _ => none
theorem rowAtV_ok {x : AV} {r : Option (Nat × Nat) × Nat} (e : rowAtV x = some r) {a : Value} (hx : VR l x a) : ∃ q c, a = .slice q r.2 c ∧ (r.1 = none → q = none) ∧ ∀ b o, r.1 = some (b, o) → ∃ k κ, l b = some (k, κ) ∧ q = some ⟨k, o, none⟩ := by
  unfold rowAtV at e
  split at e
  · cases e; cases hx
    exact ⟨_, _, rfl, fun _ => rfl, fun _ _ h => by cases h⟩
  · cases e
    cases hx with | sl _ _ _ hl => ?_
    exact ⟨_, _, rfl, (fun h => by cases h), fun _ _ h => by cases h; exact ⟨_, _, hl, rfl⟩⟩
  · cases e
    cases hx with | slo _ _ _ hl hd => ?_
    exact ⟨_, _, rfl, (fun h => by cases h), fun _ _ h => by cases h; exact ⟨_, _, hl, rfl⟩⟩
  · cases e
noncomputable def copyV (T : Tb) (H : Hp) (lo : Nat) (t : TypeId) (d s : AV) : Option (AV × Hp) :=
  match T.ty t with
  | some ⟨.slice e, _, _, _, _⟩ => match T.ty e, rowAtV d, rowLenV s with
    | some i, some (q, dn), some sn => match firstV H i.size (Nat.min sn dn) s with
      | some cs => match q with
        | none => some (.int .i64 (.ofNat (Nat.min sn dn)), H)
        | some (b, o) => match storeH H lo b o cs with
          | some H' => some (.int .i64 (.ofNat (Nat.min sn dn)), H')
          | none => none
      | none => none
    | _, _, _ => none
  | _ => none
theorem copyV_ok (hT : TbOk P T) (h : HR T.sz l H w) {t ty : TypeId} {d s v : AV} {H' : Hp} (e : copyV T H lo t d s = some (v, H')) {a b : Value} (ha : VR l d a) (hb : VR l s b) (ts : Array TypeId) (ht0 : ts[0]? = some t) :
    Gives P T.sz lo l H w (Builtin.copy_ ts ty #[a, b]) v H' := by
  unfold copyV at e
  split at e
  · rename_i el _ _ _ _ ht
    split at e
    · rename_i i q dn sn hi hd hs
      split at e
      · rename_i cs hcs
        obtain ⟨q', c, rfl, g1, g2⟩ := rowAtV_ok hd ha
        have hlen := rowLenV_ok (P := P) hs hb
        obtain ⟨xs, k1, k2⟩ := firstV_ok (P := P) h hcs hb
        split at e
        · cases e
          have := g1 rfl
          subst this
          exact .pure h (by simp [Builtin.copy_, ht0, run_und hT ht, run_size hT hi, hlen, k1, goInt]) (.int _ _)
        · rename_i b0 o0
          split at e
          · rename_i H1 hst
            cases e
            obtain ⟨k, κ, f1, rfl⟩ := g2 _ _ rfl
            obtain ⟨w', s1, s2⟩ := storeCells_run (P := P) h hst k2 f1
            refine ⟨l, _, w', ?_, .int _ _, s2⟩
            simp [Builtin.copy_, ht0, run_und hT ht, run_size hT hi, hlen, k1, s1, goInt]
          · cases e
      · cases e
    · cases e
  · cases e
noncomputable def clearV (T : Tb) (H : Hp) (lo : Nat) (t : TypeId) (x : AV) : Option (AV × Hp) :=
  match T.ty t with
  | some ⟨.slice e, _, _, _, _⟩ => match T.ty e, rowAtV x with
    | some i, some (q, n) => match Nat.beq n 0, q, i.zero with
      | true, _, _ => some (.tup [], H)
      | false, some (b, o), some z => match Nat.beq (avCells z).length 0 with
        | true => none
        | false => match storeH H lo b o (zerosL (avCells z) (n * (avCells z).length)) with
          | some H' => some (.tup [], H')
          | none => none
      | _, _, _ => none
    | _, _ => none
  | _ => none
theorem clearV_ok (hT : TbOk P T) (h : HR T.sz l H w) {t ty : TypeId} {x v : AV} {H' : Hp} (e : clearV T H lo t x = some (v, H')) {a : Value} (ha : VR l x a) (ts : Array TypeId) (ht0 : ts[0]? = some t) :
    Gives P T.sz lo l H w (Builtin.clear_ ts ty #[a]) v H' := by
  unfold clearV at e
  split at e
  · rename_i el _ _ _ _ ht
    split at e
    · rename_i i q n hi hx
      obtain ⟨q', c, rfl, g1, g2⟩ := rowAtV_ok hx ha
      split at e
      · rename_i hn
        have hn := Nat.eq_of_beq_eq_true hn
        subst hn
        cases e
        exact .pure h (by cases q' <;> simp [Builtin.clear_, ht0, run_und hT ht]) (.tup .nil)
      · rename_i b o z hn hz
        have hn := Nat.ne_of_beq_eq_false hn
        split at e
        · cases e
        · rename_i hz0
          have hz0 := Nat.ne_of_beq_eq_false hz0
          split at e
          · rename_i H1 hst
            cases e
            obtain ⟨k, κ, f1, rfl⟩ := g2 _ _ rfl
            obtain ⟨zx, q1, q2⟩ := run_zero (w := w) hT hi hz
            obtain ⟨zv, q3, q4⟩ := run_zeroV (w := w) hT hi hz
            have hzx : zv = zx := by rw [q1] at q3; cases q3; rfl
            subst hzx
            have hxl := (q2 l).length
            have hzc : VRs l (zerosL (avCells z) (n * (avCells z).length)) (Builtin.zeroCells zv.cells n).toList := by
              have e1 : (Builtin.zeroCells zv.cells n).toList = (List.range (n * (avCells z).length)).map fun i => zv.cells.toList.getD (i % (avCells z).length) undef := by
                have e0 : zv.cells.size = (avCells z).length := by rw [hxl]; simp
                simp only [Builtin.zeroCells, Array.toList_map, Array.toList_range, e0]
                apply List.map_congr_left
                intro i _
                have e2 : i % (avCells z).length < zv.cells.size := by rw [e0]; exact Nat.mod_lt _ (by omega)
                rw [getElem!_pos zv.cells _ e2]
                simp [List.getD, e2]
              rw [e1]
              exact VRs.map _ fun i _ => (q2 l).getD (Nat.mod_lt _ (by omega))
            obtain ⟨w', s1, s2⟩ := storeCells_run (P := P) h hst hzc f1
            refine ⟨l, _, w', ?_, .tup .nil, s2⟩
            obtain ⟨m, rfl⟩ : ∃ m, n = m + 1 := ⟨n - 1, by omega⟩
            simp [Builtin.clear_, ht0, run_und hT ht, q1, s1]
          · cases e
      · cases e
    · cases e
  · cases e

/-! delete -/
noncomputable def eraseEs : List (AV × AV × Nat) → Nat → List (AV × AV × Nat)
  | [], _ => []
  | _ :: es, 0 => es
  | e :: es, i + 1 => e :: eraseEs es i
theorem eraseEs_ok : ∀ {es : List (AV × AV × Nat)} {xs : List MapEntry} (i : Nat), ERs l es xs → ERs l (eraseEs es i) (xs.eraseIdx i)
  | _, _, _, .nil => by simp [eraseEs]; exact .nil
  | _, _, 0, .cons h1 h2 h3 => h3
  | _, _, i + 1, .cons h1 h2 h3 => .cons h1 h2 (eraseEs_ok i h3)
noncomputable def deleteV (T : Tb) (H : Hp) (lo : Nat) (t : TypeId) (x k : AV) : Option (AV × Hp) :=
  match T.ty t, x with
  | some ⟨.map kt _, _, _, _, _⟩, .map (some b) => match T.ty kt, H.get b, Nat.ble lo b with
    | some ki, some (.map es c), true => match plainKey ki.und, findV ki.und k es 0 with
      | true, some (some (j, _)) => some (.tup [], H.put b (.map (eraseEs es j) c))
      | true, some none => some (.tup [], H.put b (.map es c))
      | _, _ => none
    | _, _, _ => none
  | _, _ => none
theorem deleteV_ok (hT : TbOk P T) (h : HR T.sz l H w) {t ty : TypeId} {x k v : AV} {H' : Hp} (e : deleteV T H lo t x k = some (v, H')) {a d : Value} (ha : VR l x a) (hk : VR l k d) (ts : Array TypeId) (ht0 : ts[0]? = some t) :
    Gives P T.sz lo l H w (Builtin.delete_ ts ty #[a, d]) v H' := by
  unfold deleteV at e
  split at e
  · rename_i kt et _ _ _ _ b ht
    cases ha with | map hl => ?_
    rename_i r κ
    split at e
    · rename_i ki es ck hki hb hlo
      rw [Nat.ble_eq] at hlo
      obtain ⟨k1, κ1, xs, h1, h2, h3⟩ := h.map_ hb
      rw [hl] at h1
      cases h1
      have hset : ∀ o : Obj, (setObj r o).run P w = .ok () { w with heap := w.heap.setIfInBounds r o } := by
        intro o
        simp [setObj, Sem.run, h2]
      have hlt := (Array.getElem?_eq_some_iff.1 h2).1
      have done : ∀ (o' : AObj) (o : Obj), OR T.sz l κ o' o → Kp T.sz lo l H w l (H.put b o') { w with heap := w.heap.setIfInBounds r o } := fun o' o hor =>
        Kp.turn h hb hl hlo (by simp) (fun j hj => by simp only; rw [Array.getElem?_setIfInBounds_ne (fun e => hj e.symm)]) (x := o) (by simp [hlt]) hor rfl rfl rfl
      split at e
      · rename_i j v0 hp hf
        cases e
        obtain ⟨q, g1, -, g3⟩ := findV_ok hk hf h3
        obtain ⟨u, rfl, -, -, -, en, -, -⟩ := g3 j v0 rfl
        refine ⟨l, _, _, ?_, .tup .nil, done _ (.map (xs.eraseIdx j).toArray ck) (.map ck (eraseEs_ok j h3))⟩
        simp [Builtin.delete_, Instr.findKey, ht0, hset, run_und hT ht, run_getMap h2, checkKey_plain hT hki hp, run_und hT hki, g1]
      · rename_i hp hf
        cases e
        obtain ⟨q, g1, g2, -⟩ := findV_ok hk hf h3
        cases g2 rfl
        refine ⟨l, _, _, ?_, .tup .nil, done _ (.map xs.toArray ck) (.map ck h3)⟩
        simp [Builtin.delete_, Instr.findKey, ht0, hset, run_und hT ht, run_getMap h2, checkKey_plain hT hki hp, run_und hT hki, g1]
      · cases e
    · cases e
  · cases e

/-! type assertions to a type that is no interface -/
noncomputable def noIf : TypeDesc → Bool
  | .interface _ => false
  | _ => true
noncomputable def assertV (T : Tb) (asserted : TypeId) (ok : Bool) (x : AV) : Option AV :=
  match T.ty asserted with
  | some i => match noIf i.und, x with
    | true, .ifc t v => match Nat.beq t asserted, ok with
      | true, true => some (.tup [v, .bool true])
      | true, false => some v
      | false, true => match i.zero with
        | some z => some (.tup [z, .bool false])
        | none => none
      | false, false => none
    | true, .nilif => match ok, i.zero with
      | true, some z => some (.tup [z, .bool false])
      | _, _ => none
    | _, _ => none
  | none => none
theorem assertV_ok (hT : TbOk P T) {xt asserted : TypeId} {ok : Bool} {x v : AV} (e : assertV T asserted ok x = some v) {a : Value} (hx : VR l x a) : ∃ z, (Instr.typeAssert a xt asserted ok).run P w = .ok z w ∧ VR l v z := by
  unfold assertV at e
  split at e
  · rename_i i hi
    have hu := run_und (w := w) hT hi
    split at e
    · rename_i t u hn
      cases hx with | ifc _ hv => ?_
      rename_i v'
      generalize hd : i.und = d at hn hu
      split at e
      · rename_i ht
        have ht := Nat.eq_of_beq_eq_true ht
        cases e
        subst ht
        refine ⟨.tuple #[v', .bool true], ?_, .tup (.cons hv (.cons (.bool _) .nil))⟩
        cases d <;> first | (cases hn; done) | simp [Instr.typeAssert, hu]
      · rename_i ht
        have ht := Nat.eq_of_beq_eq_true ht
        cases e
        subst ht
        refine ⟨v', ?_, hv⟩
        cases d <;> first | (cases hn; done) | simp [Instr.typeAssert, hu]
      · rename_i ht
        have ht := Nat.ne_of_beq_eq_false ht
        split at e
        · rename_i z hz
          cases e
          obtain ⟨zx, q1, q2⟩ := run_zeroV (w := w) hT hi hz
          refine ⟨.tuple #[zx, .bool false], ?_, .tup (.cons (q2 l) (.cons (.bool _) .nil))⟩
          cases d <;> first | (cases hn; done) | simp [Instr.typeAssert, hu, ht, q1]
        · cases e
      · cases e
    · rename_i hn
      cases hx
      generalize hd : i.und = d at hn hu
      split at e
      · rename_i z hz
        cases e
        obtain ⟨zx, q1, q2⟩ := run_zeroV (w := w) hT hi hz
        refine ⟨.tuple #[zx, .bool false], ?_, .tup (.cons (q2 l) (.cons (.bool _) .nil))⟩
        cases d <;> first | (cases hn; done) | simp [Instr.typeAssert, hu, q1]
      · cases e
    · cases e
  · cases e

/-! ranges over texts of plain letters, and over maps that hold nothing -/
noncomputable def rangeV (T : Tb) (H : Hp) (t : TypeId) (x : AV) : Option (AV × Hp) :=
  match T.ty t, x with
  | some ⟨.string, _, _, _, _⟩, .str s => some (.ptr H.nx 0, H.new (.strIter s 0))
  | some ⟨.map _ _, _, _, _, _⟩, .map (some m) => match H.get m with
    | some (.map [] _) => some (.ptr H.nx 0, H.new (.mapIter m))
    | _ => none
  | _, _ => none
theorem rangeV_ok (hT : TbOk P T) (h : HR T.sz l H w) {t : TypeId} {x v : AV} {H' : Hp} (e : rangeV T H t x = some (v, H')) {a : Value} (ha : VR l x a) : Gives P T.sz lo l H w (Instr.range t a) v H' := by
  unfold rangeV at e
  split at e
  · rename_i s ht
    cases e
    cases ha with | str _ hs => ?_
    refine ⟨l.upd H.nx (w.heap.size, 0), _, _, ?_, .ptr 0 (Env.upd_at _ _ _), Kp.alloc h 0 (.strIter s 0 hs)⟩
    simp [Instr.range, run_und hT ht]
  · rename_i m ht
    split at e
    · rename_i c hm
      cases e
      cases ha with | map hl => ?_
      obtain ⟨k1, κ1, xs, h1, h2, h3⟩ := h.map_ hm
      rw [hl] at h1
      cases h1
      refine ⟨l.upd H.nx (w.heap.size, 0), _, _, ?_, .ptr 0 (Env.upd_at _ _ _), Kp.alloc h 0 (.mapIter c c (Env.upd_le h _ _ _ hl))⟩
      simp [Instr.range, run_und hT ht, run_getMap h2]
    · cases e
  · cases e
noncomputable def nextV (H : Hp) (lo : Nat) (isStr : Bool) (x : AV) : Option (AV × Hp) :=
  match x with
  | .ptr b 0 => match H.get b, isStr with
    | some (.strIter s pos), true => match s[pos]? with
      | none => some (.tup [.bool false], H)
      | some c => match Nat.blt c 128, Nat.ble lo b with
        | true, true => some (.tup [.bool true, .int .i64 (.ofNat pos), .int .i32 (.ofNat c)], H.put b (.strIter s (pos + 1)))
        | _, _ => none
    | some (.mapIter m), false => match H.get m with
      | some (.map [] _) => some (.tup [.bool false], H)
      | _ => none
    | _, _ => none
  | _ => none
theorem decode_plain {s : List Nat} {pos c : Nat} (h : s[pos]? = some c) (hc : c < 128) : Utf8.decode (bs s) pos = (c, 1) := by
  have hlt := (List.getElem?_eq_some_iff.1 h).1
  have hg : ((bs s).get! pos).toNat = c := by
    show (((s.map UInt8.ofNat).toArray)[pos]!).toNat = c
    rw [getElem!_pos _ pos (by simpa using hlt)]
    simp [(List.getElem?_eq_some_iff.1 h).2, Nat.mod_eq_of_lt (show c < 256 by omega)]
  unfold Utf8.decode
  simp [hg, hc]
theorem nextV_ok (h : HR T.sz l H w) {isStr : Bool} {x v : AV} {ty : TypeId} {H' : Hp} (e : nextV H lo isStr x = some (v, H')) {a : Value} (ha : VR l x a) : Gives P T.sz lo l H w (Instr.next a isStr ty) v H' := by
  unfold nextV at e
  split at e
  · rename_i b
    cases ha with | ptr _ hl => ?_
    rename_i k κ
    split at e
    · rename_i s pos hb
      obtain ⟨k', κ', y, h1, h2, h3⟩ := h.obj b _ hb
      rw [hl] at h1
      cases h1
      cases h3 with | strIter _ _ hs => ?_
      have hget : (getObj k).run P w = .ok (.stringIter (bs s) pos) w := by simp [getObj, Sem.run, h2]
      have hsz : (bs s).size = s.length := by simp [bs, ByteArray.size]
      split at e
      · rename_i hn
        cases e
        have : ¬ pos < (bs s).size := by
          rw [hsz]
          intro hh
          rw [List.getElem?_eq_getElem hh] at hn; cases hn
        exact .pure h (by simp [Instr.next, hget, this]) (.tup (.cons (.bool _) .nil))
      · rename_i c hc
        split at e
        · rename_i g1 g2
          have g1 : c < 128 := by simpa [Nat.blt_eq] using g1
          rw [Nat.ble_eq] at g2
          cases e
          have hlt := (Array.getElem?_eq_some_iff.1 h2).1
          have hp : pos < (bs s).size := by rw [hsz]; exact (List.getElem?_eq_some_iff.1 hc).1
          have hset : (setObj k (.stringIter (bs s) (pos + 1))).run P w = .ok () { w with heap := w.heap.setIfInBounds k (.stringIter (bs s) (pos + 1)) } := by
            simp [setObj, Sem.run, h2]
          refine ⟨l, _, { w with heap := w.heap.setIfInBounds k (.stringIter (bs s) (pos + 1)) }, ?_, .tup (.cons (.bool _) (.cons (.int _ _) (.cons (.int _ _) .nil))), Kp.turn h hb hl g2 (by simp) (fun j hj => by simp only; rw [Array.getElem?_setIfInBounds_ne (fun e => hj e.symm)]) (x := .stringIter (bs s) (pos + 1)) (by simp [hlt]) (.strIter s (pos + 1) hs) rfl rfl rfl⟩
          simp [Instr.next, hget, hp, decode_plain hc g1, hset, goInt]
        · cases e
    · rename_i m hb
      obtain ⟨k', κ', y, h1, h2, h3⟩ := h.obj b _ hb
      rw [hl] at h1
      cases h1
      cases h3 with | mapIter since c0 hm => ?_
      rename_i r κ2
      split at e
      · rename_i c hmm
        cases e
        obtain ⟨k1, κ1, xs, g1, g2, g3⟩ := h.map_ hmm
        rw [hm] at g1
        cases g1
        cases g3
        have hget : (getObj k).run P w = .ok (.mapIter (some r) since #[] c0) w := by simp [getObj, Sem.run, h2]
        have key : ∃ w', (Instr.next (.pointer (some ⟨k, 0, none⟩)) false ty).run P w = .ok (.tuple #[.bool false]) w' ∧ w'.heap = w.heap ∧ w'.os = w.os ∧ w'.tape = w.tape ∧ w'.output = w.output := by
          refine ⟨_, by simp [Instr.next, hget, run_getMap g2, choose, Sem.run, Question.forced], rfl, rfl, rfl, rfl⟩
        obtain ⟨w', q1, q2, q3, q4, q5⟩ := key
        refine ⟨l, _, w', q1, .tup (.cons (.bool _) .nil), ⟨.refl _, ⟨fun b o eo => ?_, h.inj, h.dom, h.glob⟩, Nat.le_refl _, fun _ _ e => e, q3, q4, q5, by rw [q2]; exact Nat.le_refl _, fun j hj _ => by rw [q2], fun _ _ e => .inl e⟩⟩
        rw [q2]; exact h.obj b o eo
      · cases e
    · cases e
  · cases e

/-! a text over a row of bytes: the row is given up -/
theorem Kp.lost {sz : TypeId → Nat} (h : HR sz l H w) {b k κ : Nat} {o : AObj} (hb : H.get b = some o) (hl : l b = some (k, κ)) (hlo : lo ≤ b) {w' : World} (hs : w'.heap.size = w.heap.size) (ho : ∀ j, j ≠ k → w'.heap[j]? = w.heap[j]?)
    (h1 : w'.os = w.os) (h2 : w'.tape = w.tape) (h3 : w'.output = w.output) : Kp sz lo l H w l (H.drop b) w' := by
  refine ⟨.refl _, ⟨fun b2 o2 e => ?_, fun b2 b3 o2 o3 x2 x3 e2 e3 l2 l3 hx => h.inj b2 b3 _ _ x2 x3 (Hp.drop_get e2).2 (Hp.drop_get e3).2 l2 l3 hx, h.dom, h.glob⟩, Nat.le_refl _, fun b2 _ hs2 => ?_, h1, h2, h3, by omega, fun j hj hne => ho j (fun e => hne b (k, κ) hlo hl (by simp [hb]) e.symm), fun _ _ e => .inl e⟩
  · obtain ⟨hne, e⟩ := Hp.drop_get e
    obtain ⟨k2, κ2, x2, l2, e2, r2⟩ := h.obj b2 o2 e
    exact ⟨k2, κ2, x2, l2, (ho k2 fun ek => hne (h.inj b2 b o2 o _ _ e hb l2 hl ek)).trans e2, r2⟩
  · obtain ⟨o2, e⟩ := Option.isSome_iff_exists.1 hs2
    rw [(Hp.drop_get e).2]; rfl
noncomputable def unsafeStrV (T : Tb) (H : Hp) (lo : Nat) (pt : TypeId) (x n : AV) : Option (AV × Hp) :=
  match T.ty pt, x, n with
  | some ⟨.pointer e, _, _, _, _⟩, .ptr b 0, .int .i64 (.ofNat n) => match T.ty e, H.get b with
    | some i, some (.cells e' cs false) => match Nat.beq i.size 1, Nat.beq e' e, Nat.beq n 0, Nat.ble n cs.length, Nat.ble n 1000000000, Nat.ble lo b with
      | true, true, false, true, true, true => match u8sL (cs.take n) with
        | some l => some (.str l, H.drop b)
        | none => none
      | _, _, _, _, _, _ => none
    | _, _ => none
  | _, _, _ => none
theorem unsafeStrV_ok (hT : TbOk P T) (h : HR T.sz l H w) {pt it ty : TypeId} {x n v : AV} {H' : Hp} (e : unsafeStrV T H lo pt x n = some (v, H')) {a c : Value} (ha : VR l x a) (hn : VR l n c) : Gives P T.sz lo l H w (Builtin.unsafeString_ #[pt, it] ty #[a, c]) v H' := by
  unfold unsafeStrV at e
  split at e
  · rename_i el _ _ _ _ b n ht
    cases ha with | ptr _ hl => ?_
    rename_i k κ
    cases hn
    split at e
    · rename_i i e' cs hi hb
      split at e
      · rename_i g1 g2 g3 g4 g5 g6
        have g1 := Nat.eq_of_beq_eq_true g1
        have g2 := Nat.eq_of_beq_eq_true g2
        have g3 := Nat.ne_of_beq_eq_false g3
        rw [Nat.ble_eq] at g4 g5 g6
        subst g2
        split at e
        · rename_i r hr
          cases e
          obtain ⟨k', κ', y, h1, h2, h3⟩ := h.obj b _ hb
          rw [hl] at h1
          cases h1
          cases h3 with | shut hv hf => ?_
          rename_i xs fr
          obtain ⟨q1, q2⟩ := u8sL_ok hr (hv.take n)
          have hlx := hv.length
          have hrl : r.length = n := by
            have := congrArg List.length q1
            simp only [List.length_take, List.length_map] at this
            omega
          obtain ⟨fi, f1, f2, -⟩ := hT.info _ _ hi
          have hcell : P.cellsOf e' = 1 := by simp [Program.cellsOf, f1, f2, g1]
          have hus := Lib.run_unsafeString_row (P := P) (w := w) pt it ty e' (hT.und _ _ ht) hcell k xs.length (by simp [World.shape?, h2]) (r.map UInt8.ofNat) (by intro hc; rw [List.map_eq_nil_iff] at hc; subst hc; simp at hrl; omega) (by simp; omega) (by simp; omega) (fun j u hj => by
            rw [List.getElem?_map] at hj
            cases hrj : r[j]? with
            | none => rw [hrj] at hj; cases hj
            | some m =>
              rw [hrj] at hj
              simp only [Option.map_some, Option.some.injEq] at hj
              subst hj
              have hjn : j < n := by have := (List.getElem?_eq_some_iff.1 hrj).1; omega
              have hx : (xs.take n)[j]? = some (.int .u8 (m : Int)) := by rw [q1, List.getElem?_map, hrj]; rfl
              rw [List.getElem?_take_of_lt hjn] at hx
              have hm : m < 256 := q2 m (List.mem_of_getElem? hrj)
              have := cell_get h2 j _ hx
              rw [Addr.add_mid]
              simpa [Nat.mod_eq_of_lt hm] using this)
          simp only [List.length_map, hrl] at hus
          refine ⟨l, _, _, hus, .str r q2, Kp.lost h hb hl g6 (by simp only [World.freeze]; rw [if_neg g3]; simp) (fun j hj => ?_) (by simp only [World.freeze]; rw [if_neg g3]) (by simp only [World.freeze]; rw [if_neg g3]) (by simp only [World.freeze]; rw [if_neg g3])⟩
          simp only [World.freeze]
          rw [if_neg g3]
          simp only
          rw [Array.getElem?_modify, if_neg (fun e => hj e.symm)]
        · cases e
      · cases e
    · cases e
  · cases e
end Go.Proofs.YtkbmmoobcikbaaaGreatDoor.Ev
namespace Go.Proofs.YtkbmmoobcikbaaaGreatDoor.Ev
open Go Go.RowKit

variable {P : Program} {T : Tb} {lo : Nat} {l : Env} {H : Hp} {w : World}

theorem zeroCells_toList {zv : Value} {z : AV} (hz : VR l z zv) (hag : ∀ u, z ≠ .cst u) (n : Nat) (h0 : (avCells z).length ≠ 0) : VRs l (zerosL (avCells z) (n * (avCells z).length)) (Builtin.zeroCells zv.cells n).toList := by
  have hxl := (avCells_ok hz hag).length
  have e1 : (Builtin.zeroCells zv.cells n).toList = (List.range (n * (avCells z).length)).map fun i => zv.cells.toList.getD (i % (avCells z).length) undef := by
    have e0 : zv.cells.size = (avCells z).length := by rw [hxl]; simp
    simp only [Builtin.zeroCells, Array.toList_map, Array.toList_range, e0]
    apply List.map_congr_left
    intro i _
    have e2 : i % (avCells z).length < zv.cells.size := by rw [e0]; exact Nat.mod_lt _ (by omega)
    rw [getElem!_pos zv.cells _ e2]
    simp [List.getD, e2]
  rw [e1]
  exact VRs.map _ fun i _ => (avCells_ok hz hag).getD (Nat.mod_lt _ (by omega))
theorem run_made (t t2 ty e : TypeId) (i : TypeInfo) (z : Value) (k2 : IntKind) (ts : Array TypeId) (ht0 : ts[0]? = some t) (ht1 : ts[1]? = some t2) (ht : P.underlying t = some (.slice e)) (ht2 : P.underlying t2 = some (.int k2))
    (hi : P.info? e = some i) (hz : i.zero = some z) (k : IntKind) (n : Nat) (h0 : 0 < n) (hs : i.size ≠ 0) (h9 : n ≤ 1000000000) (hb : n * i.bytes ≤ 1000000000) :
    (Builtin.append_ ts ty #[.slice none 0 0, .int k (n : Int)]).run P w =
      .ok (.slice (some ⟨w.heap.size, 0, none⟩) n (grownCap w n 0 e)) { w with drawn := w.drawn + 1, heap := w.heap.push (.cells ((Builtin.zeroCells z.cells n).toList ++ (Builtin.zeroCells z.cells (grownCap w n 0 e - n)).toList).toArray e (0, 0)) } := by
  have h64 : IntKind.i64.wrap (n : Int) = (n : Int) := IntWalk.i64_in _ (by omega)
  have h63' : ¬ (9223372036854775807 < (n : Int)) := by omega
  have hfit := growslice_fits (need := n) (old := 0) (bytes := i.bytes) (by omega) (by omega)
  have h48' : ¬ (281474976710656 < Builtin.nextslicecap n 0 * i.bytes) := by omega
  have hneg : ¬ ((n : Int) < 0) := by omega
  have hbi : ¬ (281474976710656 < (n : Int) * (i.bytes : Int)) := by
    have : (n : Int) * (i.bytes : Int) = ((n * i.bytes : Nat) : Int) := by simp
    rw [this]; omega
  have hms : ¬ (n * i.size = 0) := by
    rw [Nat.mul_eq_zero]; omega
  have hn0 : ¬ n = 0 := by omega
  have e1 : (Builtin.append_ ts ty #[.slice none 0 0, .int k (n : Int)]).run P w = .ok (.slice (some ⟨w.heap.size, 0, none⟩) n (grownCap w n 0 e)) (w.drew.alloc (.cells (#[] ++ Builtin.zeroCells z.cells n ++ Builtin.zeroCells z.cells (grownCap w n 0 e - n)) e)) := by
    simp [Builtin.append_, ht0, ht1, run_underlying ht, run_underlying ht2, sizeOf, typeInfo, zeroValue, hi, hz, asInt, asIntOf, h64, hneg, hbi, h63', h48', hn0, Question.forced, Builtin.firstCells, newRow, grownCap]
    exact fun h => absurd h hms
  rw [e1]
  have e2 : #[] ++ Builtin.zeroCells z.cells n ++ Builtin.zeroCells z.cells (grownCap w n 0 e - n) = ((Builtin.zeroCells z.cells n).toList ++ (Builtin.zeroCells z.cells (grownCap w n 0 e - n)).toList).toArray := by
    apply Array.ext'
    simp
  rw [e2]; rfl
/-- append(nil, make([]E, n)...). -/
noncomputable def appendMV (T : Tb) (H : Hp) (t t2 : TypeId) (s x : AV) : Option (AV × Hp) :=
  match T.ty t, T.ty t2, s, x with
  | some ⟨.slice e, _, _, _, _⟩, some ⟨.int _, _, _, _, _⟩, .nils, .int _ (.ofNat n) => match T.ty e with
    | some ⟨_, size, bytes, some z, _⟩ => match Nat.beq (avCells z).length size, Nat.beq size (T.sz e), Nat.beq size 0, Nat.beq n 0 with
      | true, true, false, false => match Nat.ble (n * bytes) 1000000000, Nat.ble n 1000000000 with
        | true, true => some (.slo H.nx 0 n 0, H.new (.cells e (zerosL (avCells z) (n * size)) true))
        | _, _ => none
      | _, _, _, _ => none
    | _ => none
  | _, _, _, _ => none
theorem appendMV_ok (hT : TbOk P T) (h : HR T.sz l H w) {t t2 ty : TypeId} {s x v : AV} {H' : Hp} (e : appendMV T H t t2 s x = some (v, H')) {a b : Value} (ha : VR l s a) (hb : VR l x b) (ts : Array TypeId) (ht0 : ts[0]? = some t) (ht1 : ts[1]? = some t2) :
    Gives P T.sz lo l H w (Builtin.append_ ts ty #[a, b]) v H' := by
  unfold appendMV at e
  split at e
  case h_2 => cases e
  rename_i el _ _ _ _ k2 _ _ _ _ kx n ht ht2
  split at e
  case h_2 => cases e
  rename_i size bytes z _ hel
  split at e
  case h_2 => cases e
  rename_i g1 g2 g3 g4
  have g1 := Nat.eq_of_beq_eq_true g1
  have g2 := Nat.eq_of_beq_eq_true g2
  have g3 := Nat.ne_of_beq_eq_false g3
  have g4 := Nat.ne_of_beq_eq_false g4
  split at e
  case h_2 => cases e
  rename_i g5 g6
  rw [Nat.ble_eq] at g5 g6
  cases e
  cases ha
  cases hb
  obtain ⟨fi, q1, q2, q3, q4⟩ := hT.info _ _ hel
  obtain ⟨z0, zx, q5, q6⟩ := q4 z rfl
  simp only at q2 q3
  have hv := zeroCells_toList (q6 l) z0 n (by omega)
  rw [g1] at hv
  have hzs : zx.cells.size = T.sz el := by have := (avCells_ok (q6 l) z0).length; rw [g1, g2] at this; simpa using this.symm
  have hr := run_made (P := P) (w := w) t t2 ty el fi zx k2 ts ht0 ht1 (hT.und _ _ ht) (hT.und _ _ ht2) q1 q5 kx n (by omega) (by omega) g6 (by rw [q3]; exact g5)
  refine ⟨_, _, _, hr, ?_, Kp.grew h el hzs hv (by rw [Array.length_toList, size_zeroCells, hzs]) (grownCap_ge _ _ _ _) _⟩
  exact .slo 0 n 0 (Env.upd_at _ _ _) (by show 0 + n ≤ grownCap w n 0 el; rw [Nat.zero_add]; exact grownCap_ge _ _ _ _)
/-- What is appended finds room among the known cells of an open block. -/
noncomputable def appendIV (T : Tb) (H : Hp) (lo : Nat) (t t2 : TypeId) (s x : AV) : Option (AV × Hp) :=
  match T.ty t, T.ty t2, s with
  | some ⟨.slice e, _, _, _, _⟩, some i2, .slo b 0 m 0 => match T.ty e, rowish i2.und, H.get b with
    | some i, true, some (.cells t' cs true) => match newCellsV H i.size x with
      | some (n, new) => match Nat.beq t' e, Nat.beq i.size (T.sz e), Nat.beq i.size 0, Nat.ble ((m + n) * i.size) cs.length with
        | true, true, false, true => match storeH H lo b (0 + m * i.size) new with
          | some H' => some (.slo b 0 (m + n) 0, H')
          | none => none
        | _, _, _, _ => none
      | none => none
    | _, _, _ => none
  | _, _, _ => none
theorem appendIV_ok (hT : TbOk P T) (h : HR T.sz l H w) {t t2 ty : TypeId} {s x v : AV} {H' : Hp} (e : appendIV T H lo t t2 s x = some (v, H')) {a b : Value} (ha : VR l s a) (hb : VR l x b) (ts : Array TypeId) (ht0 : ts[0]? = some t) (ht1 : ts[1]? = some t2) :
    Gives P T.sz lo l H w (Builtin.append_ ts ty #[a, b]) v H' := by
  unfold appendIV at e
  split at e
  case h_2 => cases e
  rename_i el _ _ _ _ i2 b0 m ht ht2
  split at e
  case h_2 => cases e
  rename_i i t' cs hi hd2 hb0
  split at e
  case h_2 => cases e
  rename_i n new hnew
  split at e
  case h_2 => cases e
  rename_i g1 g2 g3 g4
  have g1 := Nat.eq_of_beq_eq_true g1
  have g2 := Nat.eq_of_beq_eq_true g2
  have g3 := Nat.ne_of_beq_eq_false g3
  rw [Nat.ble_eq] at g4
  subst g1
  split at e
  case h_2 => cases e
  rename_i H2 hst
  cases e
  cases ha with | slo _ _ _ hl hd => ?_
  rename_i k κ
  obtain ⟨hlen, news, hv, hnl, hfirst⟩ := newCellsV_ok (P := P) h hnew hb
  obtain ⟨fi, q1, q2, q3, q4⟩ := hT.info _ _ hi
  rw [← q2] at hfirst hnl
  obtain ⟨k', κ', h1, h2, h3, h4⟩ := storeH_ok h hst hv
  rw [hl] at h1
  cases h1
  rw [← q2] at h2 h4
  obtain ⟨k', κ', ys, rest, fr, p1, p2, p3, -, p5, p6⟩ := h.at_ hb0
  rw [hl] at p1
  cases p1
  have p5 := p5 rfl
  have hyl := p3.length
  have hroom : m + n ≤ κ := by
    rw [List.length_append] at p5
    have h1 : (m + n) * T.sz t' ≤ κ * T.sz t' := by rw [← g2]; rw [← g2] at p5; omega
    exact Nat.le_of_mul_le_mul_right h1 (by omega)
  exact ⟨_, _, _, run_room t t2 ty t' fi _ ts ht0 ht1 (hT.und _ _ ht) (hT.und _ _ ht2) hd2 q1 k 0 m (κ - 0) n b news hlen hfirst (by omega) h2 h3, .slo _ _ _ hl (by omega), h4⟩
noncomputable def appendW (T : Tb) (H : Hp) (lo : Nat) (t t2 : TypeId) (s x : AV) : Option (AV × Hp) :=
  match appendV T H lo t t2 s x with
  | some r => some r
  | none => match appendMV T H t t2 s x with
    | some r => some r
    | none => appendIV T H lo t t2 s x
theorem appendW_ok (hT : TbOk P T) (h : HR T.sz l H w) {t t2 ty : TypeId} {s x v : AV} {H' : Hp} (e : appendW T H lo t t2 s x = some (v, H')) {a b : Value} (ha : VR l s a) (hb : VR l x b) (ts : Array TypeId) (ht0 : ts[0]? = some t) (ht1 : ts[1]? = some t2) :
    Gives P T.sz lo l H w (Builtin.append_ ts ty #[a, b]) v H' := by
  unfold appendW at e
  split at e
  · rename_i r hr
    cases e
    exact appendV_ok hT h hr ha hb ts ht0 ht1
  · split at e
    · rename_i r hr
      cases e
      exact appendMV_ok hT h hr ha hb ts ht0 ht1
    · exact appendIV_ok hT h e ha hb ts ht0 ht1
end Go.Proofs.YtkbmmoobcikbaaaGreatDoor.Ev
namespace Go.Proofs.YtkbmmoobcikbaaaGreatDoor.Ev
open Go Go.RowKit

variable {P : Program} {T : Tb} {lo : Nat} {l : Env} {H : Hp} {w : World} {f : Tr AV} {ρ : Operand → Value}

noncomputable def pickO (f : Tr AV) (x : Operand) (H : Hp) : Option (AV × Hp) := match evalO f x with
  | some v => some (v, H)
  | none => none
noncomputable def keep (H : Hp) : Option AV → Option (AV × Hp)
  | some v => some (v, H)
  | none => none
noncomputable def natO (f : Tr AV) : Option Operand → Option (Option Nat)
  | none => some none
  | some x => match evalO f x with
    | none => none
    | some v => match natV v with
      | some n => some (some n)
      | none => none
noncomputable def checkable : AV → Bool
  | .ptr _ _ => true
  | .ifc _ _ => true
  | .fn (.func _) _ _ => true
  | .sl _ _ _ _ => true
  | _ => false
noncomputable def checkM (T : Tb) : AV → Bool
  | .fn (.method n) (.ifc t _ :: _) _ => match T.mth t n with
    | some _ => true
    | none => false
  | .slo _ _ _ _ => true
  | .sle => true
  | _ => false
noncomputable def noIface : TypeDesc → Bool
  | .interface _ => false
  | _ => true
noncomputable def builtinV (T : Tb) (H : Hp) (lo : Nat) (b : Builtin) (ts : Array TypeId) (args : List AV) : Option (AV × Hp) :=
  match b with
  | .len => match ts[0]?, args with
    | some t, [x] => match lenV T H t x with
      | some n => some (.int .i64 (.ofNat n), H)
      | none => match lenCV T H t x with
        | some n => some (.int .i64 (.ofNat n), H)
        | none => none
    | _, _ => none
  | .cap => match ts[0]?, args with
    | some t, [x] => match capV T t x with
      | some n => some (.int .i64 (.ofNat n), H)
      | none => none
    | _, _ => none
  | .unsafeString => match ts, args with
    | ⟨[t, _]⟩, [x, n] => unsafeStrV T H lo t x n
    | _, _ => none
  | .copy => match ts[0]?, args with
    | some t, [x, y] => copyV T H lo t x y
    | _, _ => none
  | .clear => match ts[0]?, args with
    | some t, [x] => clearV T H lo t x
    | _, _ => none
  | .delete => match ts[0]?, args with
    | some t, [x, k] => deleteV T H lo t x k
    | _, _ => none
  | .append => match ts[0]?, ts[1]?, args with
    | some t, some t2, [s, x] => appendW T H lo t t2 s x
    | _, _, _ => none
  | .min => match args with
    | [.int k a, .int _ b] => match decide (b < a) with
      | true => some (.int k b, H)
      | false => some (.int k a, H)
    | _ => none
  | .max => match args with
    | [.int k a, .int _ b] => match decide (a < b) with
      | true => some (.int k b, H)
      | false => some (.int k a, H)
    | _ => none
  | _ => none
/-- Interface values held against nil. -/
noncomputable def isConstO : Operand → Bool
  | .const _ => true
  | _ => false
noncomputable def ifaceB (x y : Operand) (a b : AV) : Option Bool :=
  match a, b with
  | .nilif, .nilif => match isConstO x || isConstO y with
    | true => some true
    | false => none
  | .nilif, .ifc _ _ => some false
  | .ifc _ _, .nilif => some false
  | _, _ => none
noncomputable def ifaceV (T : Tb) (op : BinOp) (t : TypeId) (x y : Operand) (a b : AV) : Option AV :=
  match T.ty t with
  | some ⟨.interface _, _, _, _, _⟩ => match ifaceB x y a b with
    | some r => match op with
      | .eql => some (.bool r)
      | .neq => some (.bool (!r))
      | _ => none
    | none => none
  | _ => none
noncomputable def vop (T : Tb) (lo : Nat) (f : Tr AV) (H : Hp) (op : Op) : Option (AV × Hp) :=
  match op with
  | .move x => pickO f x H
  | .assign x => pickO f x H
  | .pick c a b => match evalO f c with
    | some (.bool true) => pickO f a H
    | some (.bool false) => pickO f b H
    | _ => none
  | .alloc e => allocV T H e
  | .box e x => match evalO f x with
    | some v => boxV H e v
    | none => none
  | .build t parts => match evalP f parts.toList with
    | some ps => keep H (buildV T t ps)
    | none => none
  | .buildSlice t n parts => match evalP f parts.toList with
    | some ps => buildSliceV T H t n ps
    | none => none
  | .load t a => match evalO f a with
    | some (.ptr b o) => keep H (loadV T H t b o)
    | _ => none
  | .store t a x => match evalO f a, evalO f x with
    | some (.ptr b o), some v => match storeV T H lo t b o v with
      | some H' => some (.tup [], H')
      | none => none
    | _, _ => none
  | .nilCheck x => match evalO f x with
    | some v => match checkable v with
      | true => some (v, H)
      | false => match checkM T v with
        | true => some (v, H)
        | false => none
    | none => none
  | .range t x => match evalO f x with
    | some v => rangeV T H t v
    | none => none
  | .next x isStr => match evalO f x with
    | some v => nextV H lo isStr v
    | none => none
  | .typeAssert x _ asserted ok => match evalO f x with
    | some v => keep H (assertV T asserted ok v)
    | none => none
  | .binOp op t x y _ => match evalO f x, evalO f y with
    | some a, some b => match binV T op t a b with
      | some v => some (v, H)
      | none => keep H (ifaceV T op t x y a b)
    | _, _ => none
  | .unOp op _ x => match evalO f x with
    | some a => keep H (unV op a)
    | none => none
  | .convert s d x => match evalO f x with
    | some a => match convV T s d a with
      | some v => some (v, H)
      | none => convHV T H lo s d a
    | none => none
  | .makeInterface t x => match evalO f x, T.ty t with
    | some a, some i => match noIface i.und with
      | true => some (.ifc t a, H)
      | false => none
    | _, _ => none
  | .makeFunc fn a c => match evalOs f a.toList, evalOs f c.toList with
    | some a, some c => some (.fn fn a c, H)
    | _, _ => none
  | .makeMap _ none => some (makeMapV H)
  | .makeSlice t n c => match natO f (some n), natO f (some c) with
    | some (some n), some (some c) => makeSliceV T H t n c
    | _, _ => none
  | .makeChan t n => match natO f (some n), T.ty t with
    | some (some n), some ⟨.chan _ e, _, _, _, _⟩ => match T.ty e with
      | some i => match Nat.ble (i.bytes * n) 1000000000, Nat.ble n 1000000000 with
        | true, true => some (.chan (some H.nx), H.new (.chan n [] false 0 0))
        | _, _ => none
      | none => none
    | _, _ => none
  | .slice t x a b c => match evalO f x, natO f a, natO f b, natO f c with
    | some x, some a, some b, some c => keep H (sliceV T t x a b c)
    | _, _, _, _ => none
  | .fieldAddr t x n => match evalO f x with
    | some a => keep H (fieldV T t a n)
    | none => none
  | .field t x n => match evalO f x with
    | some a => keep H (fieldOfV T t a n)
    | none => none
  | .indexAddr t x i => match evalO f x, natO f (some i) with
    | some a, some (some n) => keep H (indexAtV T t a n)
    | _, _ => none
  | .index t x i => match evalO f x, natO f (some i) with
    | some a, some (some n) => keep H (indexV T t a n)
    | _, _ => none
  | .lookup t x k ok => match evalO f x, evalO f k with
    | some a, some k => keep H (lookupV T H t a k ok)
    | _, _ => none
  | .mapUpdate t m k x => match evalO f m, evalO f k, evalO f x with
    | some m, some k, some x => match updateV T H lo t m k x with
      | some H' => some (.tup [], H')
      | none => none
    | _, _, _ => none
  | .insert t m k x => match evalO f m, evalO f k, evalO f x with
    | some m, some k, some x => match updateV T H lo t m k x with
      | some H' => some (.tup [], H')
      | none => none
    | _, _, _ => none
  | .extract x i => match evalO f x with
    | some (.tup vs) => match vs[i]? with
      | some v => some (v, H)
      | none => none
    | _ => none
  | .call c => match c.callee with
    | .builtin b => match evalOs f c.args.toList with
      | some args => builtinV T H lo b c.argTypes args
      | none => none
    | _ => none
  | _ => none
/-- What an operation without a call leaves. -/
noncomputable def OpOk (P : Program) (sz : TypeId → Nat) (lo : Nat) (l : Env) (H : Hp) (w : World) (s : Sem Next) (v : AV) (H' : Hp) : Prop :=
  ∃ l' x w', (s.run P w = .ok (.value x) w' ∨ (s.run P w = .ok .skip w' ∧ x = undef)) ∧ VR l' v x ∧ Kp sz lo l H w l' H' w'
theorem OpOk.of {s : Sem Value} {v : AV} {H' : Hp} (h : Gives P T.sz lo l H w s v H') : OpOk P T.sz lo l H w (do pure (.value (← s))) v H' := by
  obtain ⟨l', x, w', h1, h2, h3⟩ := h
  exact ⟨l', x, w', .inl (by rw [Sem.run_bind, h1]; rfl), h2, h3⟩
theorem OpOk.keep (hr : HR T.sz l H w) {s : Sem Value} {v : AV} (h : ∃ z, s.run P w = .ok z w ∧ VR l v z) : OpOk P T.sz lo l H w (do pure (.value (← s))) v H :=
  let ⟨_, h1, h2⟩ := h; .of (.pure hr h1 h2)
theorem OpOk.val (hr : HR T.sz l H w) {v : AV} {x : Value} (h : VR l v x) : OpOk P T.sz lo l H w (pure (.value x)) v H :=
  ⟨l, x, w, .inl rfl, h, .refl hr⟩
theorem OpOk.unit {s : Sem Unit} {w' : World} {H' : Hp} (h1 : s.run P w = .ok () w') (h2 : Kp T.sz lo l H w l H' w') : OpOk P T.sz lo l H w (do s; pure .skip) (.tup []) H' :=
  ⟨l, undef, w', .inr ⟨by rw [Sem.run_bind, h1]; rfl, rfl⟩, .tup .nil, h2⟩
theorem keep_ok {H' : Hp} {a : Option AV} {v : AV} (h : keep H a = some (v, H')) : a = some v ∧ H' = H := by
  cases a <;> cases h
  exact ⟨rfl, rfl⟩
theorem pickO_ok {x : Operand} {v : AV} {H' : Hp} (h : pickO f x H = some (v, H')) : evalO f x = some v ∧ H' = H := by
  unfold pickO at h
  split at h <;> cases h
  exact ⟨by assumption, rfl⟩
theorem natO_ok (hρ : ∀ x, Ev l f ρ x) {x : Option Operand} {n : Option Nat} (h : natO f x = some n) : NV n (x.map ρ) := by
  unfold natO at h
  split at h
  · cases h; trivial
  · rename_i x
    split at h
    · cases h
    rename_i v hv
    split at h
    · rename_i n hn
      cases h
      exact natV_ok hn (hρ x v hv)
    · cases h
theorem natO_some (hρ : ∀ x, Ev l f ρ x) {x : Operand} {n : Nat} (h : natO f (some x) = some (some n)) : ∃ k, ρ x = .int k (n : Int) := natO_ok hρ h
theorem builtinV_ok (hT : TbOk P T) (hr : HR T.sz l H w) {b : Builtin} {ts : Array TypeId} {ty : TypeId} {cs : Array Bool} {args : List AV} {v : AV} {H' : Hp} (e : builtinV T H lo b ts args = some (v, H')) {xs : List Value} (hx : VRs l args xs) :
    OpOk P T.sz lo l H w (builtin b ts ty cs xs.toArray) v H' := by
  unfold builtinV at e
  split at e
  · split at e
    · rename_i t x ht
      split at e
      · rename_i n hn
        cases e
        cases hx with
        | cons h1 h2 =>
          cases h2
          exact OpOk.of (.pure hr (lenV_ok hT hr hn h1 ts ht) (.int _ _))
      · split at e
        · rename_i n hn
          cases e
          cases hx with
          | cons h1 h2 =>
            cases h2
            exact OpOk.of (.pure hr (lenCV_ok hT hr hn h1 ts ht) (.int _ _))
        · cases e
    · cases e
  · split at e
    · rename_i t x ht
      split at e
      · rename_i n hn
        cases e
        cases hx with
        | cons h1 h2 =>
          cases h2
          exact OpOk.of (.pure hr (capV_ok hT hn h1 ts ht) (.int _ _))
      · cases e
    · cases e
  · split at e
    · cases hx with
      | cons h1 h2 =>
        cases h2 with
        | cons h2 h3 =>
          cases h3
          exact OpOk.of (unsafeStrV_ok hT hr e h1 h2)
    · cases e
  · split at e
    · rename_i t x y ht
      cases hx with
      | cons h1 h2 =>
        cases h2 with
        | cons h2 h3 =>
          cases h3
          exact OpOk.of (copyV_ok hT hr e h1 h2 ts ht)
    · cases e
  · split at e
    · rename_i t x ht
      cases hx with
      | cons h1 h2 =>
        cases h2
        exact OpOk.of (clearV_ok hT hr e h1 ts ht)
    · cases e
  · split at e
    · rename_i t x k ht
      cases hx with
      | cons h1 h2 =>
        cases h2 with
        | cons h2 h3 =>
          cases h3
          exact OpOk.of (deleteV_ok hT hr e h1 h2 ts ht)
    · cases e
  · split at e
    · rename_i t t2 s x ht ht2
      cases hx with
      | cons h1 h2 =>
        cases h2 with
        | cons h2 h3 =>
          cases h3
          exact OpOk.of (appendW_ok hT hr e h1 h2 ts ht ht2)
    · cases e
  · split at e
    · rename_i k a k' b
      cases hx with
      | cons h1 h2 =>
        cases h2 with
        | cons h2 h3 =>
          cases h3
          cases h1
          cases h2
          split at e
          · rename_i hd
            have hd := of_decide_eq_true hd
            cases e
            exact OpOk.of (.pure hr (by simp [Builtin.min_, Builtin.min2, hd]) (.int _ _))
          · rename_i hd
            have hd := of_decide_eq_false hd
            cases e
            exact OpOk.of (.pure hr (by simp [Builtin.min_, Builtin.min2, hd]) (.int _ _))
    · cases e
  · split at e
    · rename_i k a k' b
      cases hx with
      | cons h1 h2 =>
        cases h2 with
        | cons h2 h3 =>
          cases h3
          cases h1
          cases h2
          split at e
          · rename_i hd
            have hd := of_decide_eq_true hd
            cases e
            exact OpOk.of (.pure hr (by simp [Builtin.max_, Builtin.max2, hd]) (.int _ _))
          · rename_i hd
            have hd := of_decide_eq_false hd
            cases e
            exact OpOk.of (.pure hr (by simp [Builtin.max_, Builtin.max2, hd]) (.int _ _))
    · cases e
  · cases e
theorem toArr {α β : Type} (g : α → β) (a : Array α) : (a.toList.map g).toArray = a.map g := by
  apply Array.ext'
  rw [Array.toList_map]
theorem ifEq_ok {x y : Operand} {u1 u2 : AV} {r : Bool} (e : ifaceB x y u1 u2 = some r) {a b : Value} (hx : VR l u1 a) (hy : VR l u2 b) {t : TypeId} {ms : Array (String × TypeId)} (hu : P.underlying t = some (.interface ms)) (d : Nat) : (Op.equalIn (d + 1) t a b).run P w = .ok r w := by
  unfold ifaceB at e
  split at e
  · split at e
    · cases e; cases hx; cases hy; simp [Op.equalIn, run_underlying hu]
    · cases e
  · cases e; cases hx; cases hy; simp [Op.equalIn, run_underlying hu]
  · cases e; cases hx; cases hy; simp [Op.equalIn, run_underlying hu]
  · cases e
theorem ifaceV_ok (hT : TbOk P T) {op : BinOp} {t : TypeId} {x y : Operand} {u1 u2 v : AV} (e : ifaceV T op t x y u1 u2 = some v) {a b : Value} (hx : VR l u1 a) (hy : VR l u2 b) : ∃ z, (do eqGuard op t x y a b; binOp op t a b : Sem Value).run P w = .ok z w ∧ VR l v z := by
  unfold ifaceV at e
  split at e
  · rename_i ms _ _ _ _ ht
    split at e
    · rename_i r hr
      have hu := hT.und _ _ ht
      have key : eqGuard op t x y a b = pure () ∧ (Op.equal t a b).run P w = .ok r w ∧ binOp .eql t a b = (do pure (.bool (← Op.equal t a b))) ∧ binOp .neq t a b = (do pure (.bool (!(← Op.equal t a b)))) := by
        have h2 := ifEq_ok (w := w) hr hx hy hu 9999
        refine ⟨?_, h2, ?_, ?_⟩
        · unfold ifaceB at hr
          split at hr
          · split at hr
            · rename_i hc
              cases hx; cases hy
              cases x <;> cases y <;> first | (cases hc; done) | (cases op <;> rfl)
            · cases hr
          · cases hx; cases hy; cases op <;> rfl
          · cases hx; cases hy; cases op <;> rfl
          · cases hr
        · unfold ifaceB at hr
          split at hr <;> first | (cases hr; done) | (cases hx; cases hy; rfl)
        · unfold ifaceB at hr
          split at hr <;> first | (cases hr; done) | (cases hx; cases hy; rfl)
      obtain ⟨k1, k2, k3, k4⟩ := key
      rw [k1]
      simp only [pure_bind]
      split at e
      · cases e
        exact ⟨_, by rw [k3, Sem.run_bind, k2]; rfl, .bool _⟩
      · cases e
        exact ⟨_, by rw [k4, Sem.run_bind, k2]; rfl, .bool _⟩
      · cases e
    · cases e
  · cases e
theorem vop_ok (hT : TbOk P T) (hr : HR T.sz l H w) (hρ : ∀ x, Ev l f ρ x) {o : Oper} {v : AV} {H' : Hp} (e : vop T lo f H o.op = some (v, H')) : OpOk P T.sz lo l H w (execOp ρ o) v H' := by
  unfold execOp
  generalize o.op = op at e
  unfold vop at e
  split at e
  · obtain ⟨e1, rfl⟩ := pickO_ok e; exact .val hr (hρ _ _ e1)
  · obtain ⟨e1, rfl⟩ := pickO_ok e; exact .val hr (hρ _ _ e1)
  · rename_i c a b
    split at e
    · rename_i hc
      obtain ⟨e1, rfl⟩ := pickO_ok e
      have hc := hρ _ _ hc
      generalize hcv : ρ c = cv at hc
      cases hc
      simp only [hcv]
      exact ⟨l, _, w, .inl rfl, hρ _ _ e1, .refl hr⟩
    · rename_i hc
      obtain ⟨e1, rfl⟩ := pickO_ok e
      have hc := hρ _ _ hc
      generalize hcv : ρ c = cv at hc
      cases hc
      simp only [hcv]
      exact ⟨l, _, w, .inl rfl, hρ _ _ e1, .refl hr⟩
    · cases e
  · exact .of (allocV_ok hT hr e)
  · split at e
    · rename_i hv
      exact .of (boxV_ok hr e (hρ _ _ hv))
    · cases e
  · split at e
    · rename_i hp
      obtain ⟨e1, rfl⟩ := keep_ok e
      exact .keep hr (buildV_ok hT e1 (by simpa using evalP_ok (fun p _ => hρ p.2) hp))
    · cases e
  · split at e
    · rename_i hp
      exact .of (buildSliceV_ok hT hr e (by simpa using evalP_ok (fun p _ => hρ p.2) hp))
    · cases e
  · rename_i t a
    split at e
    · rename_i b o ha
      obtain ⟨e1, rfl⟩ := keep_ok e
      have ha := hρ _ _ ha
      obtain ⟨k, κ, x, h1, h2, h3⟩ := loadV_ok (P := P) hT hr e1
      generalize hav : ρ a = av at ha
      cases ha with | ptr _ hl => ?_
      rw [hl] at h1
      cases h1
      simp only [hav]
      exact .keep hr ⟨x, by simp [Instr.loadAt, Instr.sureAddr, h2], h3⟩
    · cases e
  · rename_i t a y
    split at e
    · rename_i b o v0 ha hy
      split at e
      · rename_i H2 hst
        cases e
        have ha := hρ _ _ ha
        obtain ⟨k, κ, w', h1, h2, h3⟩ := storeV_ok (P := P) hT hr hst (hρ _ _ hy)
        generalize hav : ρ a = av at ha
        cases ha with | ptr _ hl => ?_
        rw [hl] at h1
        cases h1
        simp only [hav]
        exact .unit (by simp [Instr.storeAt, Instr.sureAddr, h2]) h3
      · cases e
    · cases e
  · rename_i x
    split at e
    · rename_i v0 hv
      split at e
      · rename_i hc
        cases e
        have hv := hρ _ _ hv
        generalize hxv : ρ x = xv at hv
        simp only [hxv]
        unfold checkable at hc
        split at hc <;> first | (cases hc; done) | (cases hv; first | exact ⟨l, _, w, .inl rfl, .ptr _ (by assumption), .refl hr⟩ | exact ⟨l, _, w, .inl rfl, .ifc _ (by assumption), .refl hr⟩ | exact ⟨l, _, w, .inl rfl, .sl _ _ _ (by assumption), .refl hr⟩ | exact ⟨l, _, w, .inl rfl, .fn _ (by assumption) (by assumption), .refl hr⟩)
      · split at e
        · rename_i hc
          cases e
          have hv := hρ _ _ hv
          generalize hxv : ρ x = xv at hv
          simp only [hxv]
          unfold checkM at hc
          split at hc
          · rename_i n t u r c
            split at hc
            · rename_i g hg
              cases hv with | fn _ h1 h2 => ?_
              cases h1 with | cons h1 h3 => ?_
              cases h1 with | ifc _ h4 => ?_
              rename_i r' u'
              have hnil := (hT.mth _ _ _ hg u' w).2
              refine ⟨l, _, w, .inl ?_, .fn _ (.cons (.ifc _ h4) h3) h2, .refl hr⟩
              simp [hnil]
            · cases hc
          · cases hv with | slo _ _ _ h1 h2 => ?_
            exact ⟨l, _, w, .inl rfl, .slo _ _ _ h1 h2, .refl hr⟩
          · cases hv with | sle p c => ?_
            exact ⟨l, _, w, .inl rfl, .sle _ _, .refl hr⟩
          · cases hc
        · cases e
    · cases e
  · split at e
    · rename_i v0 hv
      exact .of (rangeV_ok hT hr e (hρ _ _ hv))
    · cases e
  · split at e
    · rename_i v0 hv
      exact .of (nextV_ok hr e (hρ _ _ hv))
    · cases e
  · rename_i x xt asserted ok
    split at e
    · rename_i v0 hv
      obtain ⟨e1, rfl⟩ := keep_ok e
      exact .keep hr (assertV_ok hT e1 (hρ _ _ hv))
    · cases e
  · split at e
    · rename_i ha hb
      split at e
      · rename_i e1
        cases e
        exact .keep hr (binV_ok hT e1 (hρ _ _ ha) (hρ _ _ hb) _ _)
      · obtain ⟨e1, rfl⟩ := keep_ok e
        exact .keep hr (ifaceV_ok hT e1 (hρ _ _ ha) (hρ _ _ hb))
    · cases e
  · split at e
    · rename_i ha
      obtain ⟨e1, rfl⟩ := keep_ok e
      exact .keep hr (unV_ok e1 (hρ _ _ ha))
    · cases e
  · split at e
    · rename_i ha
      split at e
      · rename_i hc
        cases e
        exact .keep hr (convV_ok hT hc (hρ _ _ ha))
      · exact .of (convHV_ok hT hr e (hρ _ _ ha))
    · cases e
  · rename_i t x
    split at e
    · rename_i a i ha hi
      split at e
      · rename_i hn
        cases e
        refine .keep hr ⟨_, ?_, .ifc _ (hρ _ _ ha)⟩
        unfold Instr.makeInterface
        rw [Sem.run_bind, run_und hT hi]
        simp only [Result.andThen_ok]
        generalize i.und = d at hn
        cases d <;> first | (cases hn; done) | rfl
      · cases e
    · cases e
  · split at e
    · rename_i h1 h2
      cases e
      refine .keep hr ⟨_, rfl, ?_⟩
      have g1 := evalOs_ok' (fun p _ => hρ p) h1
      have g2 := evalOs_ok' (fun p _ => hρ p) h2
      rw [← toArr, ← toArr]
      exact .fn _ g1 g2
    · cases e
  · cases e
    exact .of (makeMapV_ok hr _)
  · split at e
    · rename_i h1 h2
      obtain ⟨k1, hk1⟩ := natO_some hρ h1
      obtain ⟨k2, hk2⟩ := natO_some hρ h2
      simp only [hk1, hk2]
      exact .of (makeSliceV_ok hT hr e k1 k2)
    · cases e
  · split at e
    · rename_i n0 _ el _ _ _ _ h1 ht
      split at e
      · rename_i i hi
        split at e
        · rename_i g1 g2
          rw [Nat.ble_eq] at g1 g2
          cases e
          obtain ⟨k1, hk1⟩ := natO_some hρ h1
          obtain ⟨fi, q1, q2, q3, -⟩ := hT.info _ _ hi
          simp only [hk1]
          refine .of ⟨l.upd H.nx (w.heap.size, 0), _, _, ?_, .chan (Env.upd_at _ _ _), Kp.alloc hr 0 (o := .chan n0 [] false 0 0) (.chan n0 false 0 0 .nil)⟩
          have c1 : ¬ (((n0 : Nat) : Int) < 0) := by omega
          have c2 : ¬ ((9223372036854775807 : Int) < ((n0 : Nat) : Int)) := by omega
          have ha : (asInt (.int k1 ((n0 : Nat) : Int))).run P w = .ok ((n0 : Nat) : Int) w := rfl
          have c3 : ¬ ((281474976710544 : Int) < ((fi.bytes : Nat) : Int) * ((n0 : Nat) : Int)) := by
            rw [q3]
            have h9 : (((i.bytes * n0 : Nat)) : Int) ≤ ((1000000000 : Nat) : Int) := Int.ofNat_le.2 g1
            rw [Int.natCast_mul] at h9
            omega
          simp [Instr.makeChan, run_und hT ht, ha, typeInfo, q1, c1, c2, c3]
        · cases e
      · cases e
    · cases e
  · split at e
    · rename_i h1 h2 h3 h4
      obtain ⟨e1, rfl⟩ := keep_ok e
      exact .keep hr (sliceV_ok hT e1 (hρ _ _ h1) (natO_ok hρ h2) (natO_ok hρ h3) (natO_ok hρ h4))
    · cases e
  · split at e
    · rename_i ha
      obtain ⟨e1, rfl⟩ := keep_ok e
      exact .keep hr (fieldV_ok hT e1 (hρ _ _ ha))
    · cases e
  · split at e
    · rename_i ha
      obtain ⟨e1, rfl⟩ := keep_ok e
      exact .keep hr (fieldOfV_ok hT e1 (hρ _ _ ha))
    · cases e
  · split at e
    · rename_i ha hn
      obtain ⟨e1, rfl⟩ := keep_ok e
      obtain ⟨k, hk⟩ := natO_some hρ hn
      simp only [hk]
      exact .keep hr (indexAtV_ok hT e1 (hρ _ _ ha) k)
    · cases e
  · split at e
    · rename_i ha hn
      obtain ⟨e1, rfl⟩ := keep_ok e
      obtain ⟨k, hk⟩ := natO_some hρ hn
      simp only [hk]
      exact .keep hr (indexV_ok hT e1 (hρ _ _ ha) k)
    · cases e
  · split at e
    · rename_i ha hn
      obtain ⟨e1, rfl⟩ := keep_ok e
      exact .keep hr (lookupV_ok hT hr e1 (hρ _ _ ha) (hρ _ _ hn))
    · cases e
  · split at e
    · rename_i h1 h2 h3
      split at e
      · rename_i hu
        cases e
        obtain ⟨w', g1, g2⟩ := updateV_ok (P := P) hT hr hu (hρ _ _ h1) (hρ _ _ h2) (hρ _ _ h3)
        exact .unit g1 g2
      · cases e
    · cases e
  · split at e
    · rename_i h1 h2 h3
      split at e
      · rename_i hu
        cases e
        obtain ⟨w', g1, g2⟩ := updateV_ok (P := P) hT hr hu (hρ _ _ h1) (hρ _ _ h2) (hρ _ _ h3)
        exact .unit g1 g2
      · cases e
    · cases e
  · rename_i x i
    split at e
    · rename_i vs hv
      split at e
      · rename_i v0 hi
        cases e
        have hv := hρ _ _ hv
        generalize hxv : ρ x = xv at hv
        cases hv with | tup hs => ?_
        obtain ⟨u, g1, g2⟩ := hs.get hi
        simp only [hxv]
        exact .keep hr ⟨u, by simp [Instr.extract, g1], g2⟩
      · cases e
    · cases e
  · rename_i c
    split at e
    · rename_i b hb
      split at e
      · rename_i args ha
        have g1 := evalOs_ok' (fun p _ => hρ p) ha
        have := builtinV_ok (P := P) (ty := o.type) (cs := c.args.map fun | .const _ => true | _ => false) hT hr e g1
        simp only [resolve, hb, pure_bind, invoke]
        rw [toArr] at this
        exact this
      · cases e
    · cases e
  · cases e
end Go.Proofs.YtkbmmoobcikbaaaGreatDoor.Ev
