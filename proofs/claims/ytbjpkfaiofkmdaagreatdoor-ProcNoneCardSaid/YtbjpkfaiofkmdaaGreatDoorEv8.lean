/-
  A RECKONER OF CLOSED CALLS, EIGHTH PART: lengths, what is appended, conversions, maps. No program in sight; no condition.
-/
import Derived.Test.YtbjpkfaiofkmdaaGreatDoorEv7
namespace Go.Proofs.YtbjpkfaiofkmdaaGreatDoor.Ev
open Go Go.RowKit

variable {P : Program} {T : Tb} {lo : Nat} {l : Env} {H : Hp} {w : World} {f : Tr AV} {ρ : Operand → Value}

def lenV (T : Tb) (H : Hp) (t : TypeId) (x : AV) : Option Nat :=
  match T.ty t with
  | some ⟨.string, _, _, _, _⟩ => match x with
    | .str s => some s.length
    | _ => none
  | some ⟨.slice _, _, _, _, _⟩ => match x with
    | .nils => some 0
    | .sl _ _ n _ => some n
    | .slo _ _ n _ => some n
    | _ => none
  | some ⟨.array n _, _, _, _, _⟩ => some n
  | some ⟨.map _ _, _, _, _, _⟩ => match x with
    | .map none => some 0
    | .map (some b) => match H.get b with
      | some (.map es _) => some es.length
      | _ => none
    | _ => none
  | _ => none
theorem ERs.length {l : Env} : ∀ {a x}, ERs l a x → a.length = x.length
  | _, _, .nil => rfl
  | _, _, .cons _ _ h => by rw [List.length_cons, List.length_cons, ERs.length h]
theorem HR.map_ (h : HR T.sz l H w) {b : Nat} {es : List (AV × AV × Nat)} {c : Nat} (hb : H.get b = some (.map es c)) : ∃ k κ xs, l b = some (k, κ) ∧ w.heap[k]? = some (.map xs.toArray c) ∧ ERs l es xs := by
  obtain ⟨k, κ, x, h1, h2, h3⟩ := h.obj b _ hb
  cases h3 with
  | map _ h => exact ⟨k, κ, _, h1, h2, h⟩
theorem run_getMap {k c : Nat} {es : Array MapEntry} (h : w.heap[k]? = some (.map es c)) : (getObj k).run P w = .ok (.map es c) w := by
  simp [getObj, Sem.run, h]
theorem bs_size (s : List Nat) : (bs s).size = s.length := by simp [bs, ByteArray.size]
theorem lenV_ok (hT : TbOk P T) (h : HR T.sz l H w) {t ty : TypeId} {x : AV} {n : Nat} (e : lenV T H t x = some n) {a : Value} (hx : VR l x a) (ts : Array TypeId) (ht0 : ts[0]? = some t) : (Builtin.len_ ts ty #[a]).run P w = .ok (.int .i64 (n : Int)) w := by
  unfold lenV at e
  split at e
  · rename_i ht
    split at e
    · cases e
      cases hx
      simp [Builtin.len_, ht0, run_und hT ht, goInt, bs_size]
    · cases e
  · rename_i ht
    split at e <;> cases e <;> cases hx <;> simp [Builtin.len_, ht0, run_und hT ht, goInt]
  · rename_i ht
    cases e
    simp [Builtin.len_, ht0, run_und hT ht, goInt]
  · rename_i ht
    split at e
    · cases e
      cases hx
      simp [Builtin.len_, ht0, run_und hT ht, goInt]
    · split at e
      · rename_i b es c hb
        cases e
        cases hx with | map hl => ?_
        obtain ⟨k, κ, xs, h1, h2, h3⟩ := h.map_ hb
        rw [hl] at h1
        cases h1
        simp [Builtin.len_, ht0, run_und hT ht, run_getMap h2, goInt, h3.length]
      · cases e
    · cases e
  · cases e

/-! append -/
def newCellsV (H : Hp) (size : Nat) : AV → Option (Nat × List AV)
  | .nils => some (0, [])
  | .sl b o n _ => match loadL H b o (n * size) with
    | some c => some (n, c)
    | none => none
  | .slo b o n _ => match loadL H b o (n * size) with
    | some c => some (n, c)
    | none => none
  | .str s => match Nat.beq size 1 with
    | true => some (s.length, s.map fun c => .int .u8 (.ofNat c))
    | false => none
  | _ => none
theorem newCellsV_ok (h : HR T.sz l H w) {size n : Nat} {x : AV} {new : List AV} (e : newCellsV H size x = some (n, new)) {a : Value} (hx : VR l x a) :
    (∀ w', (Builtin.lenOf a).run P w' = .ok n w') ∧ ∃ news, VRs l new news ∧ news.length = n * size ∧ ∀ w', w'.heap = w.heap → (Builtin.firstCells size n a).run P w' = .ok news.toArray w' := by
  unfold newCellsV at e
  split at e
  · cases e; cases hx
    exact ⟨fun _ => rfl, [], .nil, by simp, fun _ _ => rfl⟩
  · split at e
    · rename_i hc
      cases e
      cases hx with | sl _ _ _ hl => ?_
      obtain ⟨k, κ, xs, h1, h2, h3, h4⟩ := loadL_ok h hc
      rw [hl] at h1
      cases h1
      refine ⟨fun _ => rfl, xs, h3, h4, fun w' hw => ?_⟩
      have : w'.rangeAt _ _ xs := fun j u hj => by have := h2 j u hj; simpa [World.cell?, hw] using this
      simp only [Builtin.firstCells]
      rw [← h4]; exact loadCells_run this
    · cases e
  · split at e
    · rename_i hc
      cases e
      cases hx with | slo _ _ _ hl _ => ?_
      obtain ⟨k, κ, xs, h1, h2, h3, h4⟩ := loadL_ok h hc
      rw [hl] at h1
      cases h1
      refine ⟨fun _ => rfl, xs, h3, h4, fun w' hw => ?_⟩
      have : w'.rangeAt _ _ xs := fun j u hj => by have := h2 j u hj; simpa [World.cell?, hw] using this
      simp only [Builtin.firstCells]
      rw [← h4]; exact loadCells_run this
    · cases e
  · rename_i s
    split at e
    · rename_i hs1
      have hs1 := Nat.eq_of_beq_eq_true hs1
      subst hs1
      cases e
      cases hx with | str _ hs => ?_
      have hz := bs_size s
      refine ⟨fun _ => by simp [Builtin.lenOf, hz], s.map fun c => .int .u8 (.ofNat c), ?_, by simp, fun w' _ => ?_⟩
      · exact VRs.map s fun c _ => .int _ _
      · simp only [Builtin.firstCells]
        rw [bs_extract]
        simp only [Sem.run_pure, List.take_length, List.drop_zero]
        congr 1
        apply Array.ext'
        simp only [bs, Array.toList_map, List.map_map]
        apply List.map_congr_left
        intro c hc
        simp [Nat.mod_eq_of_lt (hs c hc)]
    · cases e
  · cases e

/-- A new number for an old block. -/
theorem Kp.moved (h : HR T.sz l H w) {b k κ : Nat} {o o' : AObj} (hb : H.get b = some o) (hl : l b = some (k, κ)) (hlo : lo ≤ b) {w' : World} (hs : w'.heap.size = w.heap.size) (ho : ∀ j, j ≠ k → w'.heap[j]? = w.heap[j]?)
    {x : Obj} (hk : w'.heap[k]? = some x) (hor : OR T.sz (l.upd H.nx (k, κ)) κ o' x) (h1 : w'.os = w.os) (h2 : w'.tape = w.tape) (h3 : w'.output = w.output) : Kp T.sz lo l H w (l.upd H.nx (k, κ)) ((H.drop b).new o') w' := by
  have hle := Env.upd_le h (k, κ)
  have hup := Env.upd_at l H.nx (k, κ)
  have hot : ∀ b, b ≠ H.nx → (l.upd H.nx (k, κ)) b = l b := fun b hb => by simp [Env.upd, hb]
  have hg : ∀ b2 o2, ((H.drop b).new o').get b2 = some o2 → (b2 = H.nx ∧ o2 = o') ∨ (b2 ≠ H.nx ∧ b2 ≠ b ∧ H.get b2 = some o2) := by
    intro b2 o2 e
    rcases Hp.new_get e with ⟨rfl, rfl⟩ | ⟨hne, e⟩
    · exact .inl ⟨rfl, rfl⟩
    · obtain ⟨e1, e2⟩ := Hp.drop_get e
      exact .inr ⟨hne, e1, e2⟩
  refine ⟨hle, ⟨fun b2 o2 e => ?_, fun b2 b3 o2 o3 x2 x3 e2 e3 l2 l3 hx => ?_, fun b2 y hb2 => ?_, fun g hg => hle _ _ (h.glob g hg)⟩, Nat.le_succ _, fun b2 hlt2 hs2 => ?_, h1, h2, h3, by omega, fun j hj hne => ho j (fun e => hne b (k, κ) hlo hl (by simp [hb]) e.symm), fun b2 y hb2 => ?_⟩
  · rcases hg _ _ e with ⟨rfl, rfl⟩ | ⟨n1, n2, e⟩
    · exact ⟨k, κ, x, hup, hk, hor⟩
    · obtain ⟨k2, κ2, y, l2, g2, r2⟩ := h.obj b2 o2 e
      refine ⟨k2, κ2, y, hle _ _ l2, (ho k2 (fun ek => n2 (h.inj b2 b o2 o _ _ e hb l2 hl ek))).trans g2, r2.mono hle⟩
  · rcases hg _ _ e2 with ⟨rfl, -⟩ | ⟨n2, m2, e2⟩
    · rcases hg _ _ e3 with ⟨rfl, -⟩ | ⟨n3, m3, e3⟩
      · rfl
      · rw [hup] at l2
        rw [hot _ n3] at l3
        cases l2
        exact absurd (h.inj b3 b o3 o _ _ e3 hb l3 hl hx.symm) m3
    · rcases hg _ _ e3 with ⟨rfl, -⟩ | ⟨n3, m3, e3⟩
      · rw [hup] at l3
        rw [hot _ n2] at l2
        cases l3
        exact absurd (h.inj b2 b o2 o _ _ e2 hb l2 hl hx) m2
      · rw [hot _ n2] at l2
        rw [hot _ n3] at l3
        exact h.inj b2 b3 _ _ x2 x3 e2 e3 l2 l3 hx
  · show b2 < H.nx + 1
    by_cases hb3 : b2 = H.nx
    · omega
    · rw [hot b2 hb3] at hb2
      have := h.dom b2 y hb2; omega
  · obtain ⟨o2, e⟩ := Option.isSome_iff_exists.1 hs2
    rcases hg _ _ e with ⟨rfl, -⟩ | ⟨-, -, e⟩
    · omega
    · rw [e]; rfl
  · by_cases hb3 : b2 = H.nx
    · subst hb3
      rw [hup] at hb2
      cases hb2
      exact .inr ⟨Nat.le_refl _, .inr ⟨b, hlo, by simp [hb], by simp [hl]⟩⟩
    · rw [hot b2 hb3] at hb2
      exact .inl hb2
/-- A new block, an old number given up. -/
theorem HR.less (h : HR T.sz l H w) (b : Nat) : HR T.sz l (H.drop b) w :=
  ⟨fun b2 o2 e => h.obj b2 o2 (Hp.drop_get e).2, fun b2 b3 o2 o3 x2 x3 e2 e3 => h.inj b2 b3 o2 o3 x2 x3 (Hp.drop_get e2).2 (Hp.drop_get e3).2, h.dom, h.glob⟩
theorem Kp.drop {b : Nat} {l' : Env} {H' : Hp} {w' : World} (h : Kp T.sz lo l (H.drop b) w l' H' w') : Kp T.sz lo l H w l' H' w' :=
  ⟨h.le, h.hr, h.nx, fun b2 hb2 hs2 => (by
    obtain ⟨o2, e⟩ := Option.isSome_iff_exists.1 (h.old b2 hb2 hs2)
    rw [(Hp.drop_get e).2]; rfl), h.os, h.tape, h.output, h.size, fun k hk hne => h.block k hk fun b2 x hb hl hs => hne b2 x hb hl (by
    obtain ⟨o, ho⟩ := Option.isSome_iff_exists.1 hs
    rw [(Hp.drop_get ho).2]; rfl), fun b2 x e => (h.fresh b2 x e).imp id fun ⟨e1, e2⟩ => ⟨e1, e2.imp id fun ⟨b0, f1, f2, f3⟩ => ⟨b0, f1, by
    obtain ⟨o, ho⟩ := Option.isSome_iff_exists.1 f2
    rw [(Hp.drop_get ho).2]; rfl, f3⟩⟩⟩
def rowish : TypeDesc → Bool
  | .slice _ => true
  | .string => true
  | _ => false
theorem rowish_ok {d : TypeDesc} (h : rowish d = true) : (∃ e, d = .slice e) ∨ d = .string := by cases d <;> first | exact .inl ⟨_, rfl⟩ | exact .inr rfl | cases h
def appendV (T : Tb) (H : Hp) (lo : Nat) (t t2 : TypeId) (s x : AV) : Option (AV × Hp) :=
  match T.ty t, T.ty t2 with
  | some ⟨.slice e, _, _, _, _⟩, some i2 => match T.ty e with
    | none => none
    | some i => match i.zero, rowish i2.und, Nat.beq i.size (T.sz e) with
      | some z, true, true => match Nat.beq (avCells z).length i.size, newCellsV H i.size x with
        | true, some (n, new) => match s with
          | .nils => match Nat.beq n 0, Nat.ble (n * i.bytes) 1000000000, Nat.ble n 1000000000 with
            | true, _, _ => some (.nils, H)
            | false, true, true => some (.slo H.nx 0 n 0, H.new (.cells e new true))
            | _, _, _ => none
          | .sl b o m c => match Nat.ble (m + n) c with
            | true => match storeH H lo b (o + m * i.size) new with
              | some H' => some (.sl b o (m + n) c, H')
              | none => none
            | false => match loadL H b o (m * i.size), Nat.ble ((m + n) * i.bytes) 1000000000, Nat.ble (m + n) 1000000000 with
              | some old, true, true => some (.slo H.nx 0 (m + n) 0, H.new (.cells e (old ++ new) true))
              | _, _, _ => none
          | .slo b o m d => match Nat.beq n 0 with
            | true => some (.slo b o m d, H)
            | false => match Nat.beq o 0, Nat.beq d 0, Nat.ble ((m + n) * i.bytes) 1000000000, Nat.ble (m + n) 1000000000, Nat.ble lo b with
              | true, true, true, true, true => match H.get b with
                | some (.cells t' cs true) => match Nat.beq cs.length (m * i.size), Nat.beq t' e, ones new with
                  | true, true, true => some (.slo H.nx 0 (m + n) 0, (H.drop b).new (.cells e (cs ++ new) true))
                  | _, _, _ => none
                | _ => none
              | _, _, _, _, _ => none
          | _ => none
        | _, _ => none
      | _, _, _ => none
  | _, _ => none

section
variable (t t2 ty e : TypeId) (i : TypeInfo) (z : Value) (d2 : TypeDesc)
theorem run_grow (ts : Array TypeId) (ht0 : ts[0]? = some t) (ht1 : ts[1]? = some t2) (ht : P.underlying t = some (.slice e)) (ht2 : P.underlying t2 = some d2) (hd2 : rowish d2 = true)
    (hi : P.info? e = some i) (hz : i.zero = some z) (ba : Option Addr) (m c n : Nat) (b : Value) (olds news : List Value)
    (hl : ∀ w', (Builtin.lenOf b).run P w' = .ok n w') (hn : ∀ w', w'.heap = w.heap → (Builtin.firstCells i.size n b).run P w' = .ok news.toArray w') (ho : ∀ w', w'.heap = w.heap → (Builtin.firstCells i.size m (.slice ba m c)).run P w' = .ok olds.toArray w')
    (hg : c < m + n) (h9 : m + n ≤ 1000000000) (hb : (m + n) * i.bytes ≤ 1000000000) :
    (Builtin.append_ ts ty #[.slice ba m c, b]).run P w =
      .ok (.slice (some ⟨w.heap.size, 0, none⟩) (m + n) (grownCap w (m + n) c e)) { w with drawn := w.drawn + 1, heap := w.heap.push (.cells (olds ++ (news ++ (Builtin.zeroCells z.cells (grownCap w (m + n) c e - (m + n))).toList)).toArray e (0, 0)) } := by
  have hn1 : ¬ (m + n ≤ c) := by omega
  have h63' : ¬ (9223372036854775807 < ((m : Int) + (n : Int))) := by omega
  have hfit := growslice_fits (bytes := i.bytes) hg (by omega)
  have h48' : ¬ (281474976710656 < Builtin.nextslicecap (m + n) c * i.bytes) := by omega
  have hf := hn w.drew rfl
  have hfo := ho w.drew rfl
  have e1 : (Builtin.append_ ts ty #[.slice ba m c, b]).run P w = .ok (.slice (some ⟨w.heap.size, 0, none⟩) (m + n) (grownCap w (m + n) c e)) (w.drew.alloc (.cells (olds.toArray ++ news.toArray ++ Builtin.zeroCells z.cells (grownCap w (m + n) c e - (m + n))) e)) := by
    rcases rowish_ok hd2 with ⟨_, rfl⟩ | rfl <;> simp [Builtin.append_, ht0, ht1, run_underlying ht, run_underlying ht2, sizeOf, typeInfo, zeroValue, hi, hz, hl, hn1, h63', h48', Question.forced, hf, hfo, newRow, grownCap] <;> (congr 2; apply Array.ext'; simp)
  rw [e1]
  have e2 : olds.toArray ++ news.toArray ++ Builtin.zeroCells z.cells (grownCap w (m + n) c e - (m + n)) = (olds ++ (news ++ (Builtin.zeroCells z.cells (grownCap w (m + n) c e - (m + n))).toList)).toArray := by
    apply Array.ext'
    simp
  rw [e2]; rfl
theorem run_room (ts : Array TypeId) (ht0 : ts[0]? = some t) (ht1 : ts[1]? = some t2) (ht : P.underlying t = some (.slice e)) (ht2 : P.underlying t2 = some d2) (hd2 : rowish d2 = true)
    (hi : P.info? e = some i) (k o m c n : Nat) (b : Value) (news : List Value)
    (hl : ∀ w', (Builtin.lenOf b).run P w' = .ok n w') (hn : ∀ w', w'.heap = w.heap → (Builtin.firstCells i.size n b).run P w' = .ok news.toArray w')
    (hg : m + n ≤ c) (hth : w.there k (o + m * i.size) news.length) (h1 : ∀ u ∈ news, u.oneCell' = true) :
    (Builtin.append_ ts ty #[.slice (some ⟨k, o, none⟩) m c, b]).run P w = .ok (.slice (some ⟨k, o, none⟩) (m + n) c) (w.setCells k (o + m * i.size) news) := by
  have hst := run_storeCells_cells (P := P) k (o + m * i.size) news 0 w (fun j hj => by simpa using (hth j hj).1) (fun j hj => by simpa using (hth j hj).2) h1
  simp only [Nat.add_zero] at hst
  have hf := hn w rfl
  rcases rowish_ok hd2 with ⟨_, rfl⟩ | rfl <;> simp [Builtin.append_, ht0, ht1, run_underlying ht, run_underlying ht2, sizeOf, typeInfo, hi, hl, hg, hf, Addr.add_mid, hst]
theorem run_none (ts : Array TypeId) (ht0 : ts[0]? = some t) (ht1 : ts[1]? = some t2) (ht : P.underlying t = some (.slice e)) (ht2 : P.underlying t2 = some d2) (hd2 : rowish d2 = true)
    (hi : P.info? e = some i) (b : Value) (news : List Value) (hl : ∀ w', (Builtin.lenOf b).run P w' = .ok 0 w') (hn : ∀ w', w'.heap = w.heap → (Builtin.firstCells i.size 0 b).run P w' = .ok news.toArray w') :
    (Builtin.append_ ts ty #[.slice none 0 0, b]).run P w = .ok (.slice none 0 0) w := by
  have hf := hn w rfl
  rcases rowish_ok hd2 with ⟨_, rfl⟩ | rfl <;> simp [Builtin.append_, ht0, ht1, run_underlying ht, run_underlying ht2, sizeOf, typeInfo, hi, hl, hf]
end
theorem loadL_first (h : HR T.sz l H w) {b o n m c size : Nat} {vs : List AV} (e : loadL H b o (n * size) = some vs) {k κ : Nat} (hl : l b = some (k, κ)) : ∃ xs, VRs l vs xs ∧ xs.length = n * size ∧ ∀ w', w'.heap = w.heap → (Builtin.firstCells size n (.slice (some ⟨k, o, none⟩) m c)).run P w' = .ok xs.toArray w' := by
  obtain ⟨k', κ', xs, h1, h2, h3, h4⟩ := loadL_ok h e
  rw [hl] at h1
  cases h1
  refine ⟨xs, h3, h4, fun w' hw => ?_⟩
  have : w'.rangeAt _ _ xs := fun j u hj => by have := h2 j u hj; simpa [World.cell?, hw] using this
  simp only [Builtin.firstCells]
  rw [← h4]; exact loadCells_run this
/-- The new block of a row that grew. -/
theorem Kp.grew (h : HR T.sz l H w) (e : TypeId) {z : Array Value} (hz : z.size = T.sz e) {n κ : Nat} {cs : List AV} {xs : List Value} (hx : VRs l cs xs) (hn : xs.length = n * T.sz e) (hle : n ≤ κ) (D : Nat) :
    Kp T.sz lo l H w (l.upd H.nx (w.heap.size, κ)) (H.new (.cells e cs true)) { w with drawn := D, heap := w.heap.push (.cells (xs ++ (Builtin.zeroCells z (κ - n)).toList).toArray e (0, 0)) } := by
  have ho : OR T.sz (l.upd H.nx (w.heap.size, κ)) κ (.cells e cs true) (.cells (xs ++ (Builtin.zeroCells z (κ - n)).toList).toArray e (0, 0)) := by
    refine .opn (hx.mono (Env.upd_le h _)) ?_ (.inl rfl)
    rw [List.length_append, hn, Array.length_toList, size_zeroCells, hz, ← Nat.add_mul]
    congr 1; omega
  exact Kp.born h κ ho (by simp) (by simp) (fun j hj => by simp [Array.getElem?_push, Nat.ne_of_lt hj]) rfl rfl rfl
theorem appendV_ok (hT : TbOk P T) (h : HR T.sz l H w) {t t2 ty : TypeId} {s x v : AV} {H' : Hp} (e : appendV T H lo t t2 s x = some (v, H')) {a b : Value} (ha : VR l s a) (hb : VR l x b) (ts : Array TypeId) (ht0 : ts[0]? = some t) (ht1 : ts[1]? = some t2) :
    Gives P T.sz lo l H w (Builtin.append_ ts ty #[a, b]) v H' := by
  unfold appendV at e
  split at e
  · rename_i el _ _ _ _ i2 ht ht2
    split at e
    · cases e
    rename_i i hi
    split at e
    · rename_i z hz hd2 hsz
      have hsz := Nat.eq_of_beq_eq_true hsz
      split at e
      · rename_i n new hzl hnew
        have hzl := Nat.eq_of_beq_eq_true hzl
        obtain ⟨hlen, news, hv, hnl, hfirst⟩ := newCellsV_ok (P := P) h hnew hb
        obtain ⟨fi, q1, q2, q3, q4⟩ := hT.info _ _ hi
        obtain ⟨z0, zx, q5, q6⟩ := q4 z hz
        have hzs : zx.cells.size = T.sz el := by have := (avCells_ok (q6 l) z0).length; rw [hzl, hsz] at this; simpa using this.symm
        rw [← q2] at hfirst hnl
        have hfs : fi.size = T.sz el := by rw [q2, hsz]
        have hu := hT.und _ _ ht
        have hu2 := hT.und _ _ ht2
        split at e
        · cases ha
          split at e
          · rename_i h0
            have h0 := Nat.eq_of_beq_eq_true h0
            subst h0
            cases e
            exact .pure h (run_none t t2 ty el fi _ ts ht0 ht1 hu hu2 hd2 q1 b news hlen hfirst) .nils
          · rename_i h0 g1 g2
            have h0 := Nat.ne_of_beq_eq_false h0
            rw [Nat.ble_eq] at g1 g2
            cases e
            have hr := run_grow (P := P) (w := w) t t2 ty el fi zx _ ts ht0 ht1 hu hu2 hd2 q1 q5 none 0 0 n b [] news hlen hfirst (fun _ _ => rfl) (by omega) (by omega) (by rw [q3]; simpa using g1)
            simp only [List.nil_append, Nat.zero_add] at hr
            refine ⟨_, _, _, hr, ?_, Kp.grew h el hzs hv (by rw [hnl, hfs]) (grownCap_ge _ _ _ _) _⟩
            exact .slo 0 n 0 (Env.upd_at _ _ _) (by show 0 + n ≤ grownCap w n 0 el; rw [Nat.zero_add]; exact grownCap_ge _ _ _ _)
          · cases e
        · rename_i b0 o m c
          cases ha with | sl _ _ _ hl => ?_
          rename_i k κ
          split at e
          · rename_i hmc
            rw [Nat.ble_eq] at hmc
            split at e
            · rename_i H2 hst
              cases e
              obtain ⟨k', κ', h1, h2, h3, h4⟩ := storeH_ok h hst hv
              rw [hl] at h1
              cases h1
              rw [← q2] at h2 h4
              exact ⟨_, _, _, run_room t t2 ty el fi _ ts ht0 ht1 hu hu2 hd2 q1 k o m c n b news hlen hfirst hmc h2 h3, .sl _ _ _ hl, h4⟩
            · cases e
          · rename_i hmc
            have hmc : ¬ (m + n ≤ c) := by
              intro hh
              rw [← Nat.ble_eq] at hh
              rw [hh] at hmc; cases hmc
            split at e
            · rename_i old hold g1 g2
              rw [Nat.ble_eq] at g1 g2
              cases e
              rw [← q2] at hold
              obtain ⟨olds, r1, r2, r3⟩ := loadL_first (P := P) (m := m) (c := c) h hold hl
              have hr := run_grow (P := P) (w := w) t t2 ty el fi zx _ ts ht0 ht1 hu hu2 hd2 q1 q5 (some ⟨k, o, none⟩) m c n b olds news hlen hfirst r3 (by omega) g2 (by rw [q3]; exact g1)
              rw [← List.append_assoc] at hr
              refine ⟨_, _, _, hr, ?_, Kp.grew h el hzs (r1.append hv) (by rw [List.length_append, r2, hnl, hfs, Nat.add_mul]) (grownCap_ge _ _ _ _) _⟩
              exact .slo 0 (m + n) 0 (Env.upd_at _ _ _) (by show 0 + (m + n) ≤ grownCap w (m + n) c el; rw [Nat.zero_add]; exact grownCap_ge _ _ _ _)
            · cases e
        · rename_i b0 o m d
          split at e
          · rename_i h0
            have h0 := Nat.eq_of_beq_eq_true h0
            subst h0
            cases e
            cases ha with | slo _ _ _ hl hd => ?_
            rename_i k κ
            have hnil : news = [] := by
              apply List.eq_nil_of_length_eq_zero
              rw [hnl]; simp
            subst hnil
            exact .pure h (run_room t t2 ty el fi _ ts ht0 ht1 hu hu2 hd2 q1 k o m (κ - d) 0 b [] hlen hfirst (by omega) (fun j hj => by cases hj) (fun u hu => by cases hu)) (.slo _ _ _ hl hd)
          · rename_i hn0
            have hn0 := Nat.ne_of_beq_eq_false hn0
            split at e
            · rename_i g1 g2 g3 g4 g5
              have g1 := Nat.eq_of_beq_eq_true g1
              have g2 := Nat.eq_of_beq_eq_true g2
              rw [Nat.ble_eq] at g3 g4 g5
              subst g1 g2
              split at e
              · rename_i t' cs hb0
                split at e
                · rename_i c1 c2 c3
                  have c1 := Nat.eq_of_beq_eq_true c1
                  have c2 := Nat.eq_of_beq_eq_true c2
                  subst c2
                  cases e
                  cases ha with | slo _ _ _ hl hd => ?_
                  rename_i k κ
                  obtain ⟨k', κ', ys, rest, fr, p1, p2, p3, -, p5, p6⟩ := h.at_ hb0
                  rw [hl] at p1
                  cases p1
                  have p5 := p5 rfl
                  have hyl := p3.length
                  by_cases hroom : m + n ≤ κ
                  · have hmul : (m + n) * T.sz t' ≤ κ * T.sz t' := Nat.mul_le_mul_right _ hroom
                    rw [Nat.add_mul] at hmul
                    have hr : rest = rest.take news.length ++ rest.drop news.length := (List.take_append_drop _ _).symm
                    have hrl : news.length ≤ rest.length := by
                      rw [List.length_append] at p5
                      rw [hnl, hfs]; rw [← hyl, c1, hsz] at p5; omega
                    have hset := setCells_heap k news w (m * fi.size) ys (rest.take news.length) (rest.drop news.length) t' fr (by rw [← hr]; exact p2) (by rw [← hyl, c1, q2]) (by simp; omega)
                    obtain ⟨r1, r2, r3⟩ := setCells_rest k news w (m * fi.size)
                    have hroomr := run_room (w := w) t t2 ty t' fi _ ts ht0 ht1 hu hu2 hd2 q1 k 0 m (κ - 0) n b news hlen hfirst (by omega) (fun j hj => by
                      have hj2 : m * fi.size + j < (ys ++ rest).length := by rw [List.length_append, ← hyl, c1, q2]; omega
                      rw [Nat.zero_add]
                      exact ⟨by rw [cell_get p2 _ _ (List.getElem?_eq_getElem hj2)]; rfl, frOk_not p6 p2 hj2⟩) (ones_ok hv c3)
                    rw [Nat.zero_add] at hroomr
                    refine ⟨_, _, _, hroomr, .slo 0 (m + n) 0 (Env.upd_at _ _ _) (by omega), Kp.moved h hb0 hl g5 (setCells_size _ _ _ _) (fun j hj => setCells_other _ _ _ _ _ hj) hset ?_ r1 r2 r3⟩
                    rw [← List.append_assoc]
                    have hmono := Env.upd_le h (k, κ)
                    refine .opn ((p3.append hv).mono hmono) ?_ (frOk_len p6 ?_)
                    · rw [← p5]; simp only [List.length_append, List.length_drop]; omega
                    · simp only [List.length_append, List.length_drop]; omega
                  · have hold : loadL H b0 0 (m * i.size) = some cs := by
                      unfold loadL
                      rw [hb0]
                      simp only [Nat.zero_add, ← c1]
                      rw [show Nat.ble cs.length cs.length = true from by rw [Nat.ble_eq]; exact Nat.le_refl _]
                      simp
                    rw [← q2] at hold
                    obtain ⟨olds, s1, s2, s3⟩ := loadL_first (P := P) (m := m) (c := κ - 0) h hold hl
                    have hr := run_grow (P := P) (w := w) t t2 ty t' fi zx _ ts ht0 ht1 hu hu2 hd2 q1 q5 (some ⟨k, 0, none⟩) m (κ - 0) n b olds news hlen hfirst s3 (by omega) g4 (by rw [q3]; exact g3)
                    rw [← List.append_assoc] at hr
                    have hk := Kp.grew (lo := lo) (h.less b0) t' hzs (s1.append hv) (by rw [List.length_append, s2, hnl, hfs, Nat.add_mul]) (grownCap_ge w (m + n) (κ - 0) t') (w.drawn + 1)
                    exact ⟨_, _, _, hr, .slo 0 (m + n) 0 (Env.upd_at _ _ _) (by show 0 + (m + n) ≤ grownCap w (m + n) (κ - 0) t'; rw [Nat.zero_add]; exact grownCap_ge _ _ _ _), hk.drop⟩
                · cases e
              · cases e
            · cases e
        · cases e
      · cases e
    · cases e
  · cases e
end Go.Proofs.YtbjpkfaiofkmdaaGreatDoor.Ev
