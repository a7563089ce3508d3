/-
  A RECKONER OF CLOSED CALLS: append with a made tail; append into known cells. No program in sight; no condition.
-/
import Derived.Test.YtbjpkfaiofkmdaaGreatDoorEvMore
import Derived.IntWalk
namespace Go.Proofs.YtbjpkfaiofkmdaaGreatDoor.Ev
open Go Go.RowKit

variable {P : Program} {T : Tb} {lo : Nat} {l : Env} {H : Hp} {w : World}

theorem zeroCells_toList {zv : Value} {z : AV} (hz : VR l z zv) (hag : ∀ u, z ≠ .cst u) (n : Nat) (h0 : (avCells z).length ≠ 0) : VRs l (zerosL (avCells z) (n * (avCells z).length)) (Builtin.zeroCells zv.cells n).toList := by
  have hxl := (avCells_ok hz hag).length
  have e1 : (Builtin.zeroCells zv.cells n).toList = (List.range (n * (avCells z).length)).map fun i => zv.cells.toList.getD (i % (avCells z).length) undef := by
    have e0 : zv.cells.size = (avCells z).length := by rw [hxl]; simp
    simp only [Builtin.zeroCells, Array.toList_map, Array.toList_range, e0]
    apply List.map_congr_left
    intro i _
    have e2 : i % (avCells z).length < zv.cells.size := by rw [e0]; exact Nat.mod_lt _ (by omega)
    rw [getElem!_pos zv.cells _ e2]
    simp [List.getD, e2]
  rw [e1]
  exact VRs.map _ fun i _ => (avCells_ok hz hag).getD (Nat.mod_lt _ (by omega))
theorem run_made (t t2 ty e : TypeId) (i : TypeInfo) (z : Value) (k2 : IntKind) (ts : Array TypeId) (ht0 : ts[0]? = some t) (ht1 : ts[1]? = some t2) (ht : P.underlying t = some (.slice e)) (ht2 : P.underlying t2 = some (.int k2))
    (hi : P.info? e = some i) (hz : i.zero = some z) (k : IntKind) (n : Nat) (h0 : 0 < n) (hs : i.size ≠ 0) (h9 : n ≤ 1000000000) (hb : n * i.bytes ≤ 1000000000) :
    (Builtin.append_ ts ty #[.slice none 0 0, .int k (n : Int)]).run P w =
      .ok (.slice (some ⟨w.heap.size, 0, none⟩) n (grownCap w n 0 e)) { w with drawn := w.drawn + 1, heap := w.heap.push (.cells ((Builtin.zeroCells z.cells n).toList ++ (Builtin.zeroCells z.cells (grownCap w n 0 e - n)).toList).toArray e (0, 0)) } := by
  have h64 : IntKind.i64.wrap (n : Int) = (n : Int) := IntWalk.i64_in _ (by omega)
  have h63' : ¬ (9223372036854775807 < (n : Int)) := by omega
  have hfit := growslice_fits (need := n) (old := 0) (bytes := i.bytes) (by omega) (by omega)
  have h48' : ¬ (281474976710656 < Builtin.nextslicecap n 0 * i.bytes) := by omega
  have hneg : ¬ ((n : Int) < 0) := by omega
  have hbi : ¬ (281474976710656 < (n : Int) * (i.bytes : Int)) := by
    have : (n : Int) * (i.bytes : Int) = ((n * i.bytes : Nat) : Int) := by simp
    rw [this]; omega
  have hms : ¬ (n * i.size = 0) := by
    rw [Nat.mul_eq_zero]; omega
  have hn0 : ¬ n = 0 := by omega
  have e1 : (Builtin.append_ ts ty #[.slice none 0 0, .int k (n : Int)]).run P w = .ok (.slice (some ⟨w.heap.size, 0, none⟩) n (grownCap w n 0 e)) (w.drew.alloc (.cells (#[] ++ Builtin.zeroCells z.cells n ++ Builtin.zeroCells z.cells (grownCap w n 0 e - n)) e)) := by
    simp [Builtin.append_, ht0, ht1, run_underlying ht, run_underlying ht2, sizeOf, typeInfo, zeroValue, hi, hz, asInt, asIntOf, h64, hneg, hbi, h63', h48', hn0, Question.forced, Builtin.firstCells, newRow, grownCap]
    exact fun h => absurd h hms
  rw [e1]
  have e2 : #[] ++ Builtin.zeroCells z.cells n ++ Builtin.zeroCells z.cells (grownCap w n 0 e - n) = ((Builtin.zeroCells z.cells n).toList ++ (Builtin.zeroCells z.cells (grownCap w n 0 e - n)).toList).toArray := by
    apply Array.ext'
    simp
  rw [e2]; rfl
/-- append(nil, make([]E, n)...). -/
def appendMV (T : Tb) (H : Hp) (t t2 : TypeId) (s x : AV) : Option (AV × Hp) :=
  match T.ty t, T.ty t2, s, x with
  | some ⟨.slice e, _, _, _, _⟩, some ⟨.int _, _, _, _, _⟩, .nils, .int _ (.ofNat n) => match T.ty e with
    | some ⟨_, size, bytes, some z, _⟩ => match Nat.beq (avCells z).length size, Nat.beq size (T.sz e), Nat.beq size 0, Nat.beq n 0 with
      | true, true, false, false => match Nat.ble (n * bytes) 1000000000, Nat.ble n 1000000000 with
        | true, true => some (.slo H.nx 0 n 0, H.new (.cells e (zerosL (avCells z) (n * size)) true))
        | _, _ => none
      | _, _, _, _ => none
    | _ => none
  | _, _, _, _ => none
theorem appendMV_ok (hT : TbOk P T) (h : HR T.sz l H w) {t t2 ty : TypeId} {s x v : AV} {H' : Hp} (e : appendMV T H t t2 s x = some (v, H')) {a b : Value} (ha : VR l s a) (hb : VR l x b) (ts : Array TypeId) (ht0 : ts[0]? = some t) (ht1 : ts[1]? = some t2) :
    Gives P T.sz lo l H w (Builtin.append_ ts ty #[a, b]) v H' := by
  unfold appendMV at e
  split at e
  case h_2 => cases e
  rename_i el _ _ _ _ k2 _ _ _ _ kx n ht ht2
  split at e
  case h_2 => cases e
  rename_i size bytes z _ hel
  split at e
  case h_2 => cases e
  rename_i g1 g2 g3 g4
  have g1 := Nat.eq_of_beq_eq_true g1
  have g2 := Nat.eq_of_beq_eq_true g2
  have g3 := Nat.ne_of_beq_eq_false g3
  have g4 := Nat.ne_of_beq_eq_false g4
  split at e
  case h_2 => cases e
  rename_i g5 g6
  rw [Nat.ble_eq] at g5 g6
  cases e
  cases ha
  cases hb
  obtain ⟨fi, q1, q2, q3, q4⟩ := hT.info _ _ hel
  obtain ⟨z0, zx, q5, q6⟩ := q4 z rfl
  simp only at q2 q3
  have hv := zeroCells_toList (q6 l) z0 n (by omega)
  rw [g1] at hv
  have hzs : zx.cells.size = T.sz el := by have := (avCells_ok (q6 l) z0).length; rw [g1, g2] at this; simpa using this.symm
  have hr := run_made (P := P) (w := w) t t2 ty el fi zx k2 ts ht0 ht1 (hT.und _ _ ht) (hT.und _ _ ht2) q1 q5 kx n (by omega) (by omega) g6 (by rw [q3]; exact g5)
  refine ⟨_, _, _, hr, ?_, Kp.grew h el hzs hv (by rw [Array.length_toList, size_zeroCells, hzs]) (grownCap_ge _ _ _ _) _⟩
  exact .slo 0 n 0 (Env.upd_at _ _ _) (by show 0 + n ≤ grownCap w n 0 el; rw [Nat.zero_add]; exact grownCap_ge _ _ _ _)
/-- What is appended finds room among the known cells of an open block. -/
def appendIV (T : Tb) (H : Hp) (lo : Nat) (t t2 : TypeId) (s x : AV) : Option (AV × Hp) :=
  match T.ty t, T.ty t2, s with
  | some ⟨.slice e, _, _, _, _⟩, some i2, .slo b 0 m 0 => match T.ty e, rowish i2.und, H.get b with
    | some i, true, some (.cells t' cs true) => match newCellsV H i.size x with
      | some (n, new) => match Nat.beq t' e, Nat.beq i.size (T.sz e), Nat.beq i.size 0, Nat.ble ((m + n) * i.size) cs.length with
        | true, true, false, true => match storeH H lo b (0 + m * i.size) new with
          | some H' => some (.slo b 0 (m + n) 0, H')
          | none => none
        | _, _, _, _ => none
      | none => none
    | _, _, _ => none
  | _, _, _ => none
theorem appendIV_ok (hT : TbOk P T) (h : HR T.sz l H w) {t t2 ty : TypeId} {s x v : AV} {H' : Hp} (e : appendIV T H lo t t2 s x = some (v, H')) {a b : Value} (ha : VR l s a) (hb : VR l x b) (ts : Array TypeId) (ht0 : ts[0]? = some t) (ht1 : ts[1]? = some t2) :
    Gives P T.sz lo l H w (Builtin.append_ ts ty #[a, b]) v H' := by
  unfold appendIV at e
  split at e
  case h_2 => cases e
  rename_i el _ _ _ _ i2 b0 m ht ht2
  split at e
  case h_2 => cases e
  rename_i i t' cs hi hd2 hb0
  split at e
  case h_2 => cases e
  rename_i n new hnew
  split at e
  case h_2 => cases e
  rename_i g1 g2 g3 g4
  have g1 := Nat.eq_of_beq_eq_true g1
  have g2 := Nat.eq_of_beq_eq_true g2
  have g3 := Nat.ne_of_beq_eq_false g3
  rw [Nat.ble_eq] at g4
  subst g1
  split at e
  case h_2 => cases e
  rename_i H2 hst
  cases e
  cases ha with | slo _ _ _ hl hd => ?_
  rename_i k κ
  obtain ⟨hlen, news, hv, hnl, hfirst⟩ := newCellsV_ok (P := P) h hnew hb
  obtain ⟨fi, q1, q2, q3, q4⟩ := hT.info _ _ hi
  rw [← q2] at hfirst hnl
  obtain ⟨k', κ', h1, h2, h3, h4⟩ := storeH_ok h hst hv
  rw [hl] at h1
  cases h1
  rw [← q2] at h2 h4
  obtain ⟨k', κ', ys, rest, fr, p1, p2, p3, -, p5, p6⟩ := h.at_ hb0
  rw [hl] at p1
  cases p1
  have p5 := p5 rfl
  have hyl := p3.length
  have hroom : m + n ≤ κ := by
    rw [List.length_append] at p5
    have h1 : (m + n) * T.sz t' ≤ κ * T.sz t' := by rw [← g2]; rw [← g2] at p5; omega
    exact Nat.le_of_mul_le_mul_right h1 (by omega)
  exact ⟨_, _, _, run_room t t2 ty t' fi _ ts ht0 ht1 (hT.und _ _ ht) (hT.und _ _ ht2) hd2 q1 k 0 m (κ - 0) n b news hlen hfirst (by omega) h2 h3, .slo _ _ _ hl (by omega), h4⟩
def appendW (T : Tb) (H : Hp) (lo : Nat) (t t2 : TypeId) (s x : AV) : Option (AV × Hp) :=
  match appendV T H lo t t2 s x with
  | some r => some r
  | none => match appendMV T H t t2 s x with
    | some r => some r
    | none => appendIV T H lo t t2 s x
theorem appendW_ok (hT : TbOk P T) (h : HR T.sz l H w) {t t2 ty : TypeId} {s x v : AV} {H' : Hp} (e : appendW T H lo t t2 s x = some (v, H')) {a b : Value} (ha : VR l s a) (hb : VR l x b) (ts : Array TypeId) (ht0 : ts[0]? = some t) (ht1 : ts[1]? = some t2) :
    Gives P T.sz lo l H w (Builtin.append_ ts ty #[a, b]) v H' := by
  unfold appendW at e
  split at e
  · rename_i r hr
    cases e
    exact appendV_ok hT h hr ha hb ts ht0 ht1
  · split at e
    · rename_i r hr
      cases e
      exact appendMV_ok hT h hr ha hb ts ht0 ht1
    · exact appendIV_ok hT h e ha hb ts ht0 ht1
end Go.Proofs.YtbjpkfaiofkmdaaGreatDoor.Ev
