/-
  A RECKONER OF CLOSED CALLS: a step of a range over a map, wherever the iterator lies. No program in sight; conditions: the stamps are elder than the range, no two alike.
  A RECKONER OF CLOSED CALLS: (*inode.Table).sum by hand: a sum over a map's entries, in whatever order. Conditions: the stamps are elder than the range, no two alike; what is summed turns nothing.
  ROWS OF TWO CELLS AN ELEMENT. No program in sight; no condition.
  A RECKONER OF CLOSED CALLS: what a range over a map has seen. No condition.
  A RECKONER OF CLOSED CALLS: a new block, wherever it lies. No program in sight; no condition.
  CONTRACT of what direct.List compares by: two entries, by their names. No condition.
  ROWS OF TWO CELLS AN ELEMENT, and what the library's sort leaves of one. No condition.
  THE ORDER OF ENTRIES, by their names; a row of entries whose names are told apart, sorted. No condition.
  A RECKONER OF CLOSED CALLS: (*direct.Dir).List by hand: the entries of a map, in whatever order they come, sorted by name. Conditions: the stamps are elder than the range, no two alike; names apart; at most a million.
-/
import Derived.Test.YtkbmmoobcikbaaaGreatDoorGEE
import Derived.Test.YtkbmmoobcikbaaaGreatDoorEvHook
import Derived.Laws.IdiomRangeMap
import Derived.Test.YtkbmmoobcikbaaaGreatDoorGN
import Derived.Calls
import Derived.Tactics
import Derived.Laws.AppendOwn
import Derived.Test.YtkbmmoobcikbaaaGreatDoorSort
import Derived.Shelf.SlSortCmp.NoneTotal
namespace Go.Proofs.YtkbmmoobcikbaaaGreatDoor.Ev
open Go Go.RowKit

variable {P : Program} {w : World}

/-- What stays in a step. -/
structure Side (w w' : World) : Prop where
  os : w'.os = w.os
  tape : w'.tape = w.tape
  output : w'.output = w.output
theorem run_next_at (ty : TypeId) {r bm since c0 clock : Nat} {seen : Array Nat} {es : Array MapEntry} (hr : w.heap[r]? = some (.mapIter (some bm) since seen c0)) (hb : w.heap[bm]? = some (.map es clock)) (hold : ∀ x ∈ es.toList, x.born < since) (hsc : since ≤ c0) :
    ((leftOf es seen).size = 0 ∧ ∃ w', (Instr.next (.pointer (some ⟨r, 0, none⟩)) false ty).run P w = .ok (.tuple #[.bool false]) w' ∧ w'.heap = w.heap ∧ Side w w') ∨
    ∃ e ∈ (leftOf es seen).toList, ∃ w', (Instr.next (.pointer (some ⟨r, 0, none⟩)) false ty).run P w = .ok (.tuple #[.bool true, e.key, e.val]) w' ∧ w'.heap = w.heap.setIfInBounds r (.mapIter (some bm) since (seen.push e.born) clock) ∧ Side w w' := by
  have hset : ∀ (w1 : World) (o : Obj), w1.heap = w.heap → (setObj r o).run P w1 = .ok () { w1 with heap := w1.heap.setIfInBounds r o } := fun w1 o h => by
    simp [setObj, Sem.run, h, hr]
  simp only [Instr.next, getObj, Sem.run_bind, Sem.run, hr, hb, Result.andThen, next_test_false seen es since c0 hold hsc, Bool.false_eq_true, if_false]
  unfold leftOf
  have hmem : ∀ x ∈ (Array.filter (fun e => !seen.contains e.born) es).toList, x.born < since := fun x hx => hold x (by simp at hx ⊢; exact hx.1)
  generalize Array.filter (fun e => !seen.contains e.born) es = L at hmem ⊢
  have o1 : L.filter (fun x => decide (x.born < since)) = L := Array.filter_eq_self.2 fun x hx => by simpa using hmem x (by simpa using hx)
  have o2 : L.filter (fun x => decide (x.born ≥ since)) = #[] := Array.filter_eq_empty_iff.2 fun x hx => by
    have := hmem x (by simpa using hx)
    simp; omega
  simp only [o1, o2, Array.append_empty]
  rcases Nat.eq_zero_or_pos L.size with h0 | h0
  · have : L = #[] := Array.eq_empty_of_size_eq_zero h0
    subst this
    refine .inl ⟨rfl, w, ?_, rfl, rfl, rfl, rfl⟩
    simp [choose, Sem.run, Question.forced]
  · have hne : L.isEmpty = false := by cases he : L.isEmpty with | false => rfl | true => (rw [Array.isEmpty_iff] at he; rw [he] at h0; exact absurd h0 (by simp))
    simp only [hne, Bool.false_eq_true, if_false, Array.empty_append, Array.size_map]
    have hch : ∃ (j : Nat) (w1 : World), j < L.size ∧ w1.heap = w.heap ∧ Side w w1 ∧ (choose (Question.mapNext L.size)).run P w = .ok j w1 := by
      by_cases hf : L.size ≤ 1
      · exact ⟨0, w, h0, rfl, ⟨rfl, rfl, rfl⟩, by simp [choose, Sem.run, Question.forced, hf]⟩
      · exact ⟨_, w.drew, Nat.mod_lt _ h0, rfl, ⟨rfl, rfl, rfl⟩, by
          simp only [choose, Sem.run, Question.forced, decide_eq_true_eq, hf, if_false, Question.cut]
          rfl⟩
    obtain ⟨j, w1, hj, hh, hs, hrun⟩ := hch
    refine .inr ⟨L[j], by simp, { w1 with heap := w1.heap.setIfInBounds r (.mapIter (some bm) since (seen.push L[j].born) clock) }, ?_, by rw [hh], hs.os, hs.tape, hs.output⟩
    simp only [hrun, Array.getElem?_map, Array.getElem?_eq_getElem hj, Option.map_some, Sem.run_bind, hset w1 _ hh, Result.andThen]
    rfl
theorem run_entry_at {r bm since clock : Nat} {seen : Array Nat} {es : Array MapEntry} {e : MapEntry} (hr : w.heap[r]? = some (.mapIter (some bm) since (seen.push e.born) clock)) (hb : w.heap[bm]? = some (.map es clock)) (he : e ∈ es.toList) (hn : (es.toList.map (·.born)).Nodup) :
    (Instr.entry (.pointer (some ⟨r, 0, none⟩))).run P w = .ok (.tuple #[e.key, e.val]) w := by
  have hf : es.find? (·.born == e.born) = some e := by rw [← Array.find?_toList]; exact find_born e es.toList hn he
  simp only [Instr.entry, getObj, Sem.run_bind, Sem.run, hr, hb, Result.andThen, Array.back?_push, bne_self_eq_false, Bool.false_eq_true, if_false, hf]
  rfl
/-- How far the iterator in block r is. -/
def left_ (w : World) (r : Nat) (es : Array MapEntry) : Nat := (leftOf es (w.iterSeen r)).size
theorem left_eq {r bm since c0 : Nat} {seen : Array Nat} (hr : w.heap[r]? = some (.mapIter (some bm) since seen c0)) (es : Array MapEntry) : left_ w r es = (leftOf es seen).size := by
  unfold left_ World.iterSeen
  rw [hr]
end Go.Proofs.YtkbmmoobcikbaaaGreatDoor.Ev
namespace Go.Proofs.YtkbmmoobcikbaaaGreatDoor.Ev
open Go Go.RowKit

theorem Same.refl (w : World) : Same w w := ⟨rfl, rfl, rfl, Nat.le_refl _, fun _ _ => rfl⟩
theorem Same.trans {a b c : World} (h : Same a b) (h' : Same b c) : Same a c :=
  ⟨h'.os.trans h.os, h'.tape.trans h.tape, h'.output.trans h.output, Nat.le_trans h.size h'.size, fun k hk => (h'.block k (Nat.lt_of_lt_of_le hk h.size)).trans (h.block k hk)⟩
def valN (kf : MapEntry → Nat) (e : MapEntry) : MapEntry := { e with val := .int .i64 ((kf e : Nat) : Int) }
theorem valN_borns (kf : MapEntry → Nat) (es : List MapEntry) : (es.map (valN kf)).map (·.born) = es.map (·.born) := by
  rw [List.map_map]; rfl
theorem seen_le (kf : MapEntry → Nat) (seen : Array Nat) : ∀ es : List MapEntry, 0 ≤ seenSum (es.map (valN kf)) seen ∧ seenSum (es.map (valN kf)) seen ≤ ((es.map kf).sum : Nat)
  | [] => by simp [seenSum]
  | e :: es => by
    have ih := seen_le kf seen es
    simp only [List.map_cons, seenSum, List.sum_cons]
    have : valOf (valN kf e).val = ((kf e : Nat) : Int) := rfl
    split <;> omega
theorem sum_cast (kf : MapEntry → Nat) : ∀ es : List MapEntry, (es.map fun e => ((kf e : Nat) : Int)).sum = ((es.map kf).sum : Nat)
  | [] => rfl
  | e :: es => by simp only [List.map_cons, List.sum_cons, Int.natCast_add, sum_cast kf es]
theorem seen_full (kf : MapEntry → Nat) {seen : Array Nat} {es : List MapEntry} (h : (leftOf es.toArray seen).size = 0) : seenSum (es.map (valN kf)) seen = ((es.map kf).sum : Nat) := by
  rw [seenSum_full seen _ (fun x hx => by
    obtain ⟨y, hy, rfl⟩ := List.mem_map.1 hx
    exact all_seen es.toArray seen h y (by simpa using hy)), List.map_map]
  exact sum_cast kf es
theorem seen_push (kf : MapEntry → Nat) {seen : Array Nat} {es : List MapEntry} {e : MapEntry} (hs : seen.contains e.born = false) (hn : (es.map (·.born)).Nodup) (he : e ∈ es) : seenSum (es.map (valN kf)) (seen.push e.born) = seenSum (es.map (valN kf)) seen + ((kf e : Nat) : Int) := by
  have := seenSum_push seen (valN kf e) hs (es.map (valN kf)) (by rw [valN_borns]; exact hn) (List.mem_map.2 ⟨e, he, rfl⟩)
  exact this
set_option maxHeartbeats 4000000 in
set_option maxRecDepth 1000000 in
theorem sum_walk (W0 : World) (kb km c : Nat) (es : List MapEntry) (g : Nat) (kf : MapEntry → Nat) (hb : W0.cell? ⟨kb, 0, none⟩ = some (.map (some km))) (hm : W0.heap[km]? = some (.map es.toArray c))
    (hold : ∀ x ∈ es, x.born < c) (hn : (es.map (·.born)).Nodup) (hbig : (es.map kf).sum ≤ 1000000000) (eg : ∀ args w, (callFunc g args).run Tryz.prog w = .ok (.enter g args) w)
    (hcall : ∀ W, Same W0 W → ∀ e ∈ es, Calls Tryz.prog g #[e.val] W fun r W' => r = .returned (.int .i64 ((kf e : Nat) : Int)) ∧ Same W W') :
    Calls Tryz.prog 97 #[.pointer (some ⟨kb, 0, none⟩), .func (.func g) #[] #[]] W0 fun r W' => r = .returned (.int .i64 (((es.map kf).sum : Nat) : Int)) ∧ Same W0 W' := by
  have hrg := run_range_map (P := Tryz.prog) W0 193 3 202 km es.toArray c Tryz.underlying193 hm
  go_enter Tryz.func97, Tryz.ntmps97
  go_wp2
  go_loopw [4] (fun s w' => Same W0 w' ∧ ∃ seen, w'.heap[W0.heap.size]? = some (.mapIter (some km) c seen c) ∧ s = .int .i64 (seenSum (es.map (valN kf)) seen)) (fun _ w' => left_ w' W0.heap.size es.toArray)
  case atStart =>
    refine ⟨⟨rfl, rfl, rfl, by simp, fun k hk => heap_alloc_old _ _ hk⟩, #[], heap_alloc_new _ _, by rw [seenSum_none]⟩
  case round =>
    obtain ⟨hS, seen, hit, rfl⟩ := hrel
    have hlm : km < W0.heap.size := (Array.getElem?_eq_some_iff.1 hm).1
    have hb1 : wr.heap[km]? = some (.map es.toArray c) := (hS.block km hlm).trans hm
    have hsz := hS.size
    have hit' := hit
    rcases run_next_at (P := Tryz.prog) 0 hit hb1 (by simpa using hold) (Nat.le_refl _) with ⟨h0, w2, hrun, hw2, hs2⟩ | ⟨e, he, w2, hrun, hw2, hs2⟩
    · have hnx : ∀ ty, (Instr.next (.pointer (some ⟨W0.heap.size, 0, none⟩)) false ty).run Tryz.prog wr = _ := fun _ => hrun
      have hx : Same W0 w2 := ⟨hs2.os.trans hS.os, hs2.tape.trans hS.tape, hs2.output.trans hS.output, by rw [hw2]; exact hsz, fun k hk => by rw [hw2]; exact hS.block k hk⟩
      rw [seen_full kf h0]
      clear hit hit' hrun
      go_wp2
      go_ret
      exact ⟨rfl, hx⟩
    · have hnx : ∀ ty, (Instr.next (.pointer (some ⟨W0.heap.size, 0, none⟩)) false ty).run Tryz.prog wr = _ := fun _ => hrun
      obtain ⟨hee, hns⟩ := mem_left he
      have hee : e ∈ es := by simpa using hee
      have hlt : W0.heap.size < wr.heap.size := (Array.getElem?_eq_some_iff.1 hit).1
      have hit2 : w2.heap[W0.heap.size]? = some (.mapIter (some km) c (seen.push e.born) c) := by rw [hw2]; simp [hlt]
      have hx2 : Same W0 w2 := ⟨hs2.os.trans hS.os, hs2.tape.trans hS.tape, hs2.output.trans hS.output, by rw [hw2]; simpa using hsz, fun k hk => by rw [hw2, Array.getElem?_setIfInBounds_ne (by omega)]; exact hS.block k hk⟩
      have hb2 : w2.heap[km]? = some (.map es.toArray c) := (hx2.block km hlm).trans hm
      have hen := run_entry_at (P := Tryz.prog) hit2 hb2 (by simpa using hee) (by simpa using hn)
      have ha := hcall w2 hx2 e hee
      have hpu := seen_push kf hns hn hee
      have q1 := seen_le kf seen es
      have q2 := seen_le kf (seen.push e.born) es
      have hle : left_ w2 W0.heap.size es.toArray < left_ wr W0.heap.size es.toArray := by
        rw [left_eq hit2, left_eq hit']
        exact left_shrinks _ _ _ he
      clear hit hit' hrun
      go_wp2_with (refine ha.mono ?_; rintro _ w3 ⟨rfl, hx3⟩)
      case roundEnd =>
        have hit3 : w3.heap[W0.heap.size]? = some (.mapIter (some km) c (seen.push e.born) c) := (hx3.block _ (Array.getElem?_eq_some_iff.1 hit2).1).trans hit2
        refine ⟨⟨hx2.trans hx3, seen.push e.born, hit3, by rw [hpu]⟩, ?_⟩
        rw [left_eq hit3, ← left_eq hit2]
        exact hle
/-- The stamps are elder than the range, no two alike. -/
noncomputable def notIn : List (AV × AV × Nat) → Nat → Bool
  | [], _ => true
  | (_, _, n) :: es, k => match Nat.beq n k with
    | true => false
    | false => notIn es k
noncomputable def stampsOk : List (AV × AV × Nat) → Nat → Bool
  | [], _ => true
  | (_, _, n) :: es, c => Nat.blt n c && (notIn es n && stampsOk es c)
variable {P : Program} {T : Tb} {l : Env} {H : Hp} {w : World}
theorem notIn_ok {k : Nat} : ∀ {es : List (AV × AV × Nat)} {xs : List MapEntry}, ERs l es xs → notIn es k = true → k ∉ xs.map (·.born)
  | _, _, .nil, _ => by simp
  | _, _, .cons h1 h2 h3, h => by
    unfold notIn at h
    split at h
    · cases h
    · rename_i hk
      have hk := Nat.ne_of_beq_eq_false hk
      have := notIn_ok h3 h
      simp only [List.map_cons, List.mem_cons, not_or]
      exact ⟨fun e => hk e.symm, this⟩
theorem stampsOk_ok {c : Nat} : ∀ {es : List (AV × AV × Nat)} {xs : List MapEntry}, ERs l es xs → stampsOk es c = true → (∀ x ∈ xs, x.born < c) ∧ (xs.map (·.born)).Nodup
  | _, _, .nil, _ => by simp
  | _, _, .cons h1 h2 h3, h => by
    unfold stampsOk at h
    simp only [Bool.and_eq_true] at h
    obtain ⟨g1, g2⟩ := stampsOk_ok h3 h.2.2
    have := notIn_ok h3 h.2.1
    refine ⟨fun x hx => ?_, ?_⟩
    · rcases List.mem_cons.1 hx with rfl | hx
      · simpa [Nat.blt_eq] using h.1
      · exact g1 x hx
    · simp only [List.map_cons, List.nodup_cons]
      exact ⟨this, g2⟩
/-- A call that turns nothing that stands. -/
theorem ro_call {D : Nat} (hT : TbOk P T) (hh : CallOk P (T.from H.nx) T.hook) {g : FuncId} {i : FI} (hi : T.fn g = some i) {v r : AV} {H' : Hp} {x : Value} (e : ev (T.from H.nx) (drawV (T.from H.nx)) D g [v] H = some (r, H')) (hr : HR T.sz l H w) (hv : VR l v x) :
    Calls P g #[x] w fun e w' => ∃ y l', e = .returned y ∧ VR l' r y ∧ Same w w' := by
  have h := ev_ok (hT.from H.nx) hh (fun call N hc => drawV_ok (N := N) (hT.from H.nx) hc) D g [v] H r H' e l w [x] hr (.cons hv .nil)
  obtain ⟨fn, -, -, -, -, q5⟩ := hT.fn _ _ hi
  rcases h with ⟨y, w', h1, -⟩ | ⟨-, h2⟩
  · rw [q5] at h1; cases h1
  · refine Calls.mono h2 fun e w' => ?_
    rintro ⟨y, rfl, l', h3, h4⟩
    refine ⟨y, l', rfl, h3, h4.os, h4.tape, h4.output, h4.size, fun k hk => h4.block k hk fun b z hlo hz _ => ?_⟩
    have hlo : H.nx ≤ b := hlo
    have := hr.dom b z hz
    omega
theorem HR.same {sz : TypeId → Nat} {w' : World} (h : HR sz l H w) (hs : Same w w') : HR sz l H w' := h.grown hs.block
theorem Kp.same {sz : TypeId → Nat} {lo : Nat} {w' : World} (h : HR sz l H w) (hs : Same w w') : Kp sz lo l H w l H w' := Kp.grown h hs.os hs.tape hs.output hs.size hs.block
noncomputable def natR : Option (AV × Hp) → Option Nat
  | some (.int .i64 (.ofNat n), _) => some n
  | _ => none
noncomputable def sumAll (f : AV → Option Nat) : List (AV × AV × Nat) → Nat → Option Nat
  | [], n => some n
  | (_, v, _) :: es, n => match f v with
    | some k => sumAll f es (n + k)
    | none => none
/-- (*inode.Table).sum by hand (T: a table of its own for what is summed). -/
noncomputable def sumH (T : Tb) (D : Nat) : HookF
  | [.ptr b 0, .fn (.func g) [] []], H => match H.get b, T.fn g with
    | some (.cells _ (.map (some m) :: _) _), some _ => match H.get m with
      | some (.map es c) => match stampsOk es c with
        | true => match sumAll (fun v => natR (ev (T.from H.nx) (drawV (T.from H.nx)) D g [v] H)) es 0 with
          | some n => match Nat.ble n 1000000000 with
            | true => some (.int .i64 (.ofNat n), H)
            | false => none
          | none => none
        | false => none
      | _ => none
    | _, _ => none
  | _, _ => none
theorem sumAll_ok {f : AV → Option Nat} : ∀ {es : List (AV × AV × Nat)} {xs : List MapEntry} {n r : Nat}, ERs l es xs → (xs.map (·.born)).Nodup → sumAll f es n = some r → ∃ kf : MapEntry → Nat, n + (xs.map kf).sum = r ∧ ∀ e ∈ xs, ∃ v, VR l v e.val ∧ f v = some (kf e)
  | _, _, n, r, .nil, _, h => by cases h; exact ⟨fun _ => 0, by simp, fun e he => by cases he⟩
  | _, _, n, r, .cons (k' := k') (v' := v') (n := st) (a' := xs) h1 h2 h3, hn, h => by
    unfold sumAll at h
    split at h
    · rename_i k hk
      simp only [List.map_cons, List.nodup_cons] at hn
      obtain ⟨kf, g1, g2⟩ := sumAll_ok h3 hn.2 h
      refine ⟨fun e => if e.born = st then k else kf e, ?_, fun e he => ?_⟩
      · have : xs.map (fun e => if e.born = st then k else kf e) = xs.map kf := List.map_congr_left fun e he => by
          rw [if_neg]
          intro hb
          exact hn.1 (List.mem_map.2 ⟨e, he, hb⟩)
        simp only [List.map_cons, List.sum_cons, this, if_true]
        omega
      · rcases List.mem_cons.1 he with rfl | he
        · exact ⟨_, h2, by simpa using hk⟩
        · obtain ⟨v, q1, q2⟩ := g2 e he
          refine ⟨v, q1, ?_⟩
          show f v = some (if e.born = st then k else kf e)
          rw [if_neg]
          · exact q2
          · intro hb
            exact hn.1 (List.mem_map.2 ⟨e, he, hb⟩)
    · cases h
theorem sum_ok {T0 : Tb} {D lo : Nat} (hT : TbOk Tryz.prog T0) (hh : ∀ n, CallOk Tryz.prog (T0.from n) T0.hook) (hc : ∀ args w, (callFunc 97 args).run Tryz.prog w = .ok (.enter 97 args) w) : HookOk Tryz.prog T0.sz lo 97 (sumH T0 D) := by
  intro us H v H' e l w xs hr hx
  unfold sumH at e
  split at e
  · rename_i b g
    split at e
    · rename_i ts m cs p i hb hi
      split at e
      · rename_i es c hm
        split at e
        · rename_i hst
          split at e
          · rename_i n hsum
            split at e
            · rename_i hle
              rw [Nat.ble_eq] at hle
              cases e
              cases hx with | cons h1 hx => ?_
              cases hx with | cons h2 hx => ?_
              cases hx
              cases h1 with | ptr _ hl => ?_
              cases h2 with | fn _ a1 a2 => ?_
              cases a1; cases a2
              obtain ⟨k, κ, ys, rest, fr, g1, g2, g3, -, -, -⟩ := hr.at_ hb
              rw [hl] at g1
              cases g1
              cases g3 with | cons h4 g3 => ?_
              cases h4 with | map hlm => ?_
              obtain ⟨km, κm, ms, f1, f2, f3⟩ := hr.map_ hm
              rw [hlm] at f1
              cases f1
              obtain ⟨q1, q2⟩ := stampsOk_ok f3 hst
              obtain ⟨kf, r1, r2⟩ := sumAll_ok f3 q2 hsum
              rw [Nat.zero_add] at r1
              obtain ⟨fn, -, -, -, -, q5⟩ := hT.fn _ _ hi
              have hw := sum_walk w _ _ c ms g kf (cell_get (xs := _ :: _) g2 0 _ rfl) f2 q1 q2 (by rw [r1]; exact hle) q5 (fun W hS e he => by
                obtain ⟨v, s1, s2⟩ := r2 e he
                unfold natR at s2
                split at s2
                · rename_i k2 H2 hev
                  cases s2
                  refine Calls.mono (ro_call hT (hh H.nx) hi hev (hr.same hS) s1) fun r W' => ?_
                  rintro ⟨y, l', rfl, t1, t2⟩
                  cases t1
                  exact ⟨rfl, t2⟩
                · cases s2)
              refine .inr ⟨hc _ _, Calls.mono hw fun r w' => ?_⟩
              rintro ⟨rfl, hS⟩
              rw [r1]
              exact ⟨_, rfl, l, .int _ _, Kp.same hr hS⟩
            · cases e
          · cases e
        · cases e
      · cases e
    · cases e
  · cases e
end Go.Proofs.YtkbmmoobcikbaaaGreatDoor.Ev
namespace Go.Proofs.YtkbmmoobcikbaaaGreatDoor.Ev
open Go

section
variable {α : Type} {enc : α → List Value}
def flatE (enc : α → List Value) (l : List α) : List Value := l.flatMap enc
theorem flatE_length (hen : ∀ x : α, (enc x).length = 2) : ∀ l : List α, (flatE enc l).length = l.length * 2
  | [] => rfl
  | x :: r => by
    show (enc x ++ flatE enc r).length = _
    rw [List.length_append, flatE_length hen r, hen, List.length_cons]; omega
theorem flatE_append (l r : List α) : flatE enc (l ++ r) = flatE enc l ++ flatE enc r := by simp [flatE]
theorem flatE_one (x : α) : flatE enc [x] = enc x := by simp [flatE]
theorem flatE_get (hen : ∀ x : α, (enc x).length = 2) : ∀ (l : List α) (k i : Nat) (hk : k < l.length), i < 2 → (flatE enc l)[k * 2 + i]? = (enc l[k])[i]?
  | [], k, _, hk, _ => absurd hk (Nat.not_lt_zero _)
  | x :: r, 0, i, _, hi => by
    show (enc x ++ flatE enc r)[0 * 2 + i]? = _
    rw [Nat.zero_mul, Nat.zero_add, List.getElem?_append_left (by rw [hen]; exact hi)]; rfl
  | x :: r, k + 1, i, hk, hi => by
    show (enc x ++ flatE enc r)[(k + 1) * 2 + i]? = _
    rw [List.getElem?_append_right (by rw [hen]; omega), hen, show (k + 1) * 2 + i - 2 = k * 2 + i by omega]
    rw [flatE_get hen r k i (by simpa using hk) hi]; rfl
end
end Go.Proofs.YtkbmmoobcikbaaaGreatDoor.Ev
namespace Go.Proofs.YtkbmmoobcikbaaaGreatDoor.Ev
open Go Go.RowKit

/-- What is seen of es. -/
noncomputable def seenE (es : List MapEntry) (seen : Array Nat) : List MapEntry := es.filter fun e => seen.contains e.born
theorem seenE_none (es : List MapEntry) : seenE es #[] = [] := by simp [seenE]
theorem seenE_all {es : List MapEntry} {seen : Array Nat} (h : (leftOf es.toArray seen).size = 0) : seenE es seen = es := by
  unfold seenE
  rw [List.filter_eq_self]
  intro e he
  have := all_seen es.toArray seen h e (by simpa using he)
  simpa using this
theorem seenE_push {seen : Array Nat} {e : MapEntry} (hs : seen.contains e.born = false) : ∀ {es : List MapEntry}, (es.map (·.born)).Nodup → e ∈ es → (seenE es (seen.push e.born)).Perm (seenE es seen ++ [e])
  | [], _, he => by cases he
  | y :: ys, hn, he => by
    simp only [List.map_cons, List.nodup_cons] at hn
    have hpush : ∀ x : MapEntry, (seen.push e.born).contains x.born = (seen.contains x.born || x.born == e.born) := fun x => by
      rw [Bool.eq_iff_iff]; simp
    by_cases hy : y.born = e.born
    · have hne : ∀ x ∈ ys, x.born ≠ e.born := fun x hx h => hn.1 (List.mem_map.2 ⟨x, hx, by rw [h, hy]⟩)
      have hye : y = e := by
        rcases List.mem_cons.1 he with rfl | he
        · rfl
        · exact absurd rfl (hne e he)
      subst hye
      have h1 : seenE ys (seen.push y.born) = seenE ys seen := by
        unfold seenE
        refine List.filter_congr fun x hx => ?_
        rw [hpush]
        have := hne x hx
        simp [this]
      have h2 : seenE (y :: ys) (seen.push y.born) = y :: seenE ys (seen.push y.born) := by
        unfold seenE
        rw [List.filter_cons_of_pos (by simp)]
      have h3 : seenE (y :: ys) seen = seenE ys seen := by
        unfold seenE
        rw [List.filter_cons_of_neg (by rw [hs]; simp)]
      rw [h2, h3, h1]
      exact (List.perm_append_singleton y _).symm
    · have he : e ∈ ys := by
        rcases List.mem_cons.1 he with rfl | he
        · exact absurd rfl hy
        · exact he
      have ih := seenE_push hs hn.2 he
      have hc : (seen.push e.born).contains y.born = seen.contains y.born := by rw [hpush]; simp [hy]
      unfold seenE at ih ⊢
      rcases hb : seen.contains y.born with _ | _
      · rw [List.filter_cons_of_neg (by rw [hc, hb]; simp), List.filter_cons_of_neg (by rw [hb]; simp)]
        exact ih
      · rw [List.filter_cons_of_pos (by rw [hc, hb]), List.filter_cons_of_pos (by rw [hb])]
        exact ih.cons y
theorem own_cases {w : World} {B n k : Nat} {T : TypeId} {v : Value} {xs : List Value} (h : w.ownsRow B T k v n xs) (hn : 0 < n) : ∃ g cap, v = .slice (some ⟨g, 0, none⟩) n cap := by
  obtain ⟨-, ⟨h1, h2⟩ | ⟨g, cap, cur, e, -⟩⟩ := h
  · omega
  · exact ⟨g, cap, e⟩
end Go.Proofs.YtkbmmoobcikbaaaGreatDoor.Ev
namespace Go.Proofs.YtkbmmoobcikbaaaGreatDoor.Ev
open Go Go.RowKit

variable {P : Program} {T : Tb} {l : Env} {H : Hp} {w : World}
/-- A new block, wherever it lies. -/
theorem Kp.bornAt {sz : TypeId → Nat} {lo : Nat} (h : HR sz l H w) (g κ : Nat) (hg0 : w.heap.size ≤ g) {o : AObj} {x : Obj} {w' : World} (hor : OR sz (l.upd H.nx (g, κ)) κ o x) (hs : w.heap.size ≤ w'.heap.size) (hn : w'.heap[g]? = some x) (ho : ∀ j, j < w.heap.size → w'.heap[j]? = w.heap[j]?)
    (h1 : w'.os = w.os) (h2 : w'.tape = w.tape) (h3 : w'.output = w.output) : Kp sz lo l H w (l.upd H.nx (g, κ)) (H.new o) w' := by
  have hle := Env.upd_le h (g, κ)
  have hlt : ∀ b o2 x2, H.get b = some o2 → l b = some x2 → x2.1 < w.heap.size := fun b o2 x2 e e2 => by
    obtain ⟨k2, κ2, y, l2, g2, -⟩ := h.obj b o2 e
    rw [e2] at l2
    cases l2
    exact (Array.getElem?_eq_some_iff.1 g2).1
  have hup : (l.upd H.nx (g, κ)) H.nx = some (g, κ) := by simp [Env.upd]
  have hot : ∀ b, b ≠ H.nx → (l.upd H.nx (g, κ)) b = l b := fun b hb => by simp [Env.upd, hb]
  refine ⟨hle, ⟨fun b2 o2 e => ?_, fun b2 b3 o2 o3 x2 x3 e2 e3 l2 l3 hx => ?_, fun b y hb => ?_, fun g' hg => hle _ _ (h.glob g' hg)⟩, Nat.le_succ _, fun b2 hlt2 hs2 => ?_, h1, h2, h3, hs, fun j hj _ => ho j hj, fun b y hb => ?_⟩
  · rcases Hp.new_get e with ⟨rfl, rfl⟩ | ⟨hne, e⟩
    · exact ⟨_, κ, x, hup, hn, hor⟩
    · obtain ⟨k2, κ2, y, l2, g2, r2⟩ := h.obj b2 o2 e
      refine ⟨k2, κ2, y, hle _ _ l2, (ho k2 (hlt b2 o2 _ e l2)).trans g2, r2.mono hle⟩
  · rcases Hp.new_get e2 with ⟨rfl, -⟩ | ⟨n2, e2⟩
    · rcases Hp.new_get e3 with ⟨rfl, -⟩ | ⟨n3, e3⟩
      · rfl
      · rw [hup] at l2
        rw [hot _ n3] at l3
        cases l2
        have := hlt b3 o3 x3 e3 l3
        simp only at hx; omega
    · rcases Hp.new_get e3 with ⟨rfl, -⟩ | ⟨n3, e3⟩
      · rw [hup] at l3
        rw [hot _ n2] at l2
        cases l3
        have := hlt b2 o2 x2 e2 l2
        simp only at hx; omega
      · rw [hot _ n2] at l2
        rw [hot _ n3] at l3
        exact h.inj b2 b3 _ _ x2 x3 e2 e3 l2 l3 hx
  · show b < H.nx + 1
    by_cases hb2 : b = H.nx
    · omega
    · rw [hot b hb2] at hb
      have := h.dom b y hb; omega
  · obtain ⟨o2, e⟩ := Option.isSome_iff_exists.1 hs2
    rcases Hp.new_get e with ⟨rfl, -⟩ | ⟨-, e⟩
    · omega
    · rw [e]; rfl
  · by_cases hb2 : b = H.nx
    · subst hb2
      rw [hup] at hb
      cases hb
      exact .inr ⟨Nat.le_refl _, .inl hg0⟩
    · rw [hot b hb2] at hb
      exact .inl hb

theorem HR.map2 {sz : TypeId → Nat} (h : HR sz l H w) {b : Nat} {es : List (AV × AV × Nat)} {c : Nat} (hb : H.get b = some (.map es c)) : ∃ k κ xs, l b = some (k, κ) ∧ w.heap[k]? = some (.map xs.toArray c) ∧ ERs l es xs := by
  obtain ⟨k, κ, x, h1, h2, h3⟩ := h.obj b _ hb
  cases h3 with
  | map _ h => exact ⟨k, κ, _, h1, h2, h⟩
end Go.Proofs.YtkbmmoobcikbaaaGreatDoor.Ev
namespace Go.Proofs.YtkbmmoobcikbaaaGreatDoor.Ev
open Go Go.RowKit

/-- cmp.Compare of two texts. -/
noncomputable def cmpS (a b : List Nat) : Int := if strLt a b then -1 else if strLt b a then 1 else 0
theorem nan_any (s : ByteArray) (w : World) : Calls Tryz.prog 141 #[.string s] w fun r w' => r = .returned (.bool false) ∧ w' = w := by
  go_enter Tryz.func141, Tryz.ntmps141
  go_wp2
  go_ret
  simp
theorem less_eq {a b : List Nat} (ha : ∀ x ∈ a, x < 256) (hb : ∀ x ∈ b, x < 256) : Op.bytesLess (bs a).toList (bs b).toList = strLt a b := by
  rw [← strLt_ok a b ha hb]
  unfold bs
  rw [ByteArray.toList_eq, ByteArray.toList_eq]
theorem strLt_irr : ∀ a : List Nat, strLt a a = false
  | [] => rfl
  | x :: a => by
    unfold strLt
    rw [show Nat.blt x x = false from by simp [Nat.blt_eq, Bool.eq_false_iff], Nat.beq_refl]
    exact strLt_irr a
theorem strLt_tri : ∀ a b : List Nat, strLt a b = false → a ≠ b → strLt b a = true
  | [], [], _, h => absurd rfl h
  | [], y :: b, h, _ => by simp [strLt] at h
  | x :: a, [], _, _ => by simp [strLt]
  | x :: a, y :: b, h, hn => by
    unfold strLt at h ⊢
    rcases Nat.lt_trichotomy x y with hh | hh | hh
    · rw [show Nat.blt x y = true from by simpa [Nat.blt_eq] using hh] at h; cases h
    · subst hh
      rw [show Nat.blt x x = false from by simp [Nat.blt_eq, Bool.eq_false_iff], Nat.beq_refl] at h ⊢
      exact strLt_tri a b h (fun e => hn (by rw [e]))
    · rw [show Nat.blt y x = true from by simpa [Nat.blt_eq] using hh]
theorem strLt_asym : ∀ a b : List Nat, strLt a b = true → strLt b a = false
  | _, [], h => by simp [strLt] at h
  | [], y :: b, _ => by simp [strLt]
  | x :: a, y :: b, h => by
    unfold strLt at h ⊢
    rcases Nat.lt_trichotomy x y with hh | hh | hh
    · rw [show Nat.blt y x = false from by rw [Bool.eq_false_iff]; simp [Nat.blt_eq]; omega, show Nat.beq y x = false from by rw [Bool.eq_false_iff]; simp; omega]
    · subst hh
      rw [show Nat.blt x x = false from by simp [Nat.blt_eq, Bool.eq_false_iff], Nat.beq_refl] at h ⊢
      exact strLt_asym a b h
    · rw [show Nat.blt x y = false from by rw [Bool.eq_false_iff]; simp [Nat.blt_eq]; omega, show Nat.beq x y = false from by rw [Bool.eq_false_iff]; simp; omega] at h
      cases h
set_option maxRecDepth 1000000 in
theorem cmpS_any {a b : List Nat} (ha : ∀ x ∈ a, x < 256) (hb : ∀ x ∈ b, x < 256) (w : World) : Calls Tryz.prog 94 #[.string (bs a), .string (bs b)] w fun r w' => r = .returned (.int .i64 (cmpS a b)) ∧ w' = w := by
  have h1 := less_eq ha hb
  have h3 : ((bs a).toList == (bs b).toList) = decide (a = b) := by rw [Bool.eq_iff_iff, beq_iff_eq, bs_inj ha hb, decide_eq_true_iff]
  obtain ⟨c, hc⟩ : ∃ c, c = cmpS a b := ⟨_, rfl⟩
  rw [← hc]
  unfold cmpS at hc
  rcases hx : strLt a b with _ | _
  · by_cases he : a = b
    · rw [hx] at h1
      rw [decide_eq_true he] at h3
      rw [hx, he, strLt_irr] at hc
      obtain rfl : c = 0 := by simpa using hc
      clear hc hx he
      generalize bs a = sa at h1 h3 ⊢
      generalize bs b = sb at h1 h3 ⊢
      go_enter Tryz.func94, Tryz.ntmps94
      go_wp2_with (go_at_call 141; refine (nan_any _ _).mono ?_; rintro _ _ ⟨rfl, rfl⟩)
      go_ret
      exact ⟨rfl, rfl⟩
    · have hy := strLt_tri a b hx he
      rw [hx] at h1
      rw [decide_eq_false he] at h3
      rw [hx, hy] at hc
      obtain rfl : c = 1 := by simpa using hc
      clear hc hx he hy
      generalize bs a = sa at h1 h3 ⊢
      generalize bs b = sb at h1 h3 ⊢
      go_enter Tryz.func94, Tryz.ntmps94
      go_wp2_with (go_at_call 141; refine (nan_any _ _).mono ?_; rintro _ _ ⟨rfl, rfl⟩)
      go_ret
      exact ⟨rfl, rfl⟩
  · rw [hx] at h1 hc
    obtain rfl : c = -1 := by simpa using hc
    clear hc hx h3
    generalize bs a = sa at h1 ⊢
    generalize bs b = sb at h1 ⊢
    go_enter Tryz.func94, Tryz.ntmps94
    go_wp2_with (go_at_call 141; refine (nan_any _ _).mono ?_; rintro _ _ ⟨rfl, rfl⟩)
    go_ret
    exact ⟨rfl, rfl⟩
set_option maxRecDepth 1000000 in
theorem less_any {a b : List Nat} (ha : ∀ x ∈ a, x < 256) (hb : ∀ x ∈ b, x < 256) (i j : Int) (w : World) : Calls Tryz.prog 93 #[.agg #[.string (bs a), .int .i64 i], .agg #[.string (bs b), .int .i64 j]] w fun r w' => r = .returned (.int .i64 (cmpS a b)) ∧ w' = (w.alloc (.cells #[.string (bs a), .int .i64 i] 147)).alloc (.cells #[.string (bs b), .int .i64 j] 147) := by
  have hc := cmpS_any ha hb
  generalize cmpS a b = c at hc ⊢
  generalize bs a = sa at hc ⊢
  generalize bs b = sb at hc ⊢
  go_enter Tryz.func93, Tryz.ntmps93
  go_wp2_with (go_at_call 94; refine (hc _).mono ?_; rintro _ _ ⟨rfl, rfl⟩)
  go_ret
  exact ⟨rfl, rfl⟩
end Go.Proofs.YtkbmmoobcikbaaaGreatDoor.Ev
namespace Go.Proofs.YtkbmmoobcikbaaaGreatDoor.Ev
open Go Go.RowKit Go.Sort

section
variable {α : Type} {enc : α → List Value}
variable [Inhabited α]
theorem flatK_flatE (hen : ∀ x : α, (enc x).length = 2) (l : List α) : (flatK enc 2 l.toArray).toList = flatE enc l := by
  apply List.ext_getElem?
  intro t
  by_cases ht : t < l.length * 2
  · have hk : t / 2 < l.length := by omega
    have e := flatE_get hen l (t / 2) (t % 2) hk (Nat.mod_lt _ (by decide))
    rw [show t / 2 * 2 + t % 2 = t by omega] at e
    rw [e]
    have h1 : t < (flatK enc 2 l.toArray).size := by simpa using ht
    have h2 := get_flatK enc 2 l.toArray t (by simpa using ht)
    rw [getElem!_pos _ t h1] at h2
    rw [Array.getElem?_toList, Array.getElem?_eq_getElem h1, h2]
    have h3 : l.toArray[t / 2]! = l[t / 2] := by simp [hk]
    rw [h3]
    have h4 : t % 2 < (enc (l[t / 2])).length := by rw [hen]; exact Nat.mod_lt _ (by decide)
    rw [List.getElem?_eq_getElem h4, getElem!_pos (enc (l[t / 2])) (t % 2) h4]
  · rw [List.getElem?_eq_none (by simpa using ht), List.getElem?_eq_none (by rw [flatE_length hen]; omega)]
theorem own_sortedE (hen : ∀ x : α, (enc x).length = 2) {w : World} {B g n cap m : Nat} {T : TypeId} {xs ys : List α} {os : Array Obj} (h : w.ownsRow B T 2 (.slice (some ⟨g, 0, none⟩) n cap) n (flatE enc xs)) (hy : ys.length = n) :
    (sortWorldK enc 2 w g 0 m ys.toArray os).ownsRow B T 2 (.slice (some ⟨g, 0, none⟩) n cap) n (flatE enc ys) ∧ Upd (At g) w (sortWorldK enc 2 w g 0 m ys.toArray os) := by
  obtain ⟨h1, ⟨h2, -⟩ | ⟨g', cap', cur, e, hB, hg, hn, hc, hs, ht⟩⟩ := h
  · cases h2
  cases e
  have hlt := lt_of_heap hg
  have hcur : n * 2 ≤ cur.size := by rw [hs]; exact Nat.mul_le_mul_right 2 hn
  have hmod : (mapBlock (Sort.ahead w m) g (putCells id 0 (flatK enc 2 ys.toArray))).heap[g]? = some (.cells (putCells id 0 (flatK enc 2 ys.toArray) cur) T (0, 0)) := by
    show (w.heap.modify g _)[g]? = _
    have h' : w.heap[g] = .cells cur T (0, 0) := by simpa [Array.getElem?_eq_getElem hlt] using hg
    rw [Array.getElem?_eq_getElem (by simpa using hlt), Array.getElem_modify_self, h']
    rfl
  have hsz : (mapBlock (Sort.ahead w m) g (putCells id 0 (flatK enc 2 ys.toArray))).heap.size = w.heap.size := by
    show (w.heap.modify g _).size = _
    simp
  have hgrow : (sortWorldK enc 2 w g 0 m ys.toArray os).heap[g]? = some (.cells (putCells id 0 (flatK enc 2 ys.toArray) cur) T (0, 0)) :=
    (heap_grow_old _ os (by show g < (mapBlock _ _ _).heap.size; rw [hsz]; exact hlt)).trans hmod
  refine ⟨⟨by rw [flatE_length hen, hy], .inr ⟨g, cap, _, rfl, hB, hgrow, hn, hc, by simpa [putCells] using hs, ?_⟩⟩, ⟨rfl, rfl, rfl, ?_, fun k hk hne => ?_⟩⟩
  · apply List.ext_getElem?
    intro t
    by_cases htn : t < n * 2
    · rw [List.getElem?_take_of_lt htn, Array.getElem?_toList]
      unfold putCells
      rw [Array.getElem?_mapIdx, Array.getElem?_eq_getElem (show t < cur.size by omega)]
      simp only [Option.map_some]
      rw [if_pos ⟨Nat.zero_le _, by simp [hy]; omega⟩, Nat.sub_zero]
      have hf := flatK_flatE hen ys
      have h1 : t < (flatK enc 2 ys.toArray).size := by simp [hy]; omega
      rw [← hf, Array.getElem?_toList, Array.getElem?_eq_getElem h1, getElem!_pos _ t h1]; rfl
    · rw [List.getElem?_eq_none (by simp; omega), List.getElem?_eq_none (by rw [flatE_length hen, hy]; omega)]
  · show w.heap.size ≤ (grow _ os).heap.size
    rw [size_grow]
    show w.heap.size ≤ (mapBlock _ _ _).heap.size + _
    rw [hsz]; omega
  · refine (heap_grow_old _ os (by show k < (mapBlock _ _ _).heap.size; rw [hsz]; exact hk)).trans ?_
    show (w.heap.modify g _)[k]? = _
    rw [Array.getElem?_modify, if_neg (fun e => hne e.symm)]
theorem own_holdsE (hen : ∀ x : α, (enc x).length = 2) {w : World} {B g n cap : Nat} {T : TypeId} {xs : List α} (h : w.ownsRow B T 2 (.slice (some ⟨g, 0, none⟩) n cap) n (flatE enc xs)) (hx : xs.length = n) : HoldsK enc 2 w g 0 xs.toArray ∧ g < w.heap.size := by
  obtain ⟨h1, ⟨h2, -⟩ | ⟨g', cap', cur, e, hB, hg, hn, hc, hs, ht⟩⟩ := h
  · cases h2
  cases e
  refine ⟨fun j hj => ?_, lt_of_heap hg⟩
  have hj' : j < n * 2 := by simpa [hx] using hj
  have hcur : n * 2 ≤ cur.size := by rw [hs]; exact Nat.mul_le_mul_right 2 hn
  rw [Nat.zero_add]
  refine ⟨cellAt hg j _ ?_, freeAt hg j⟩
  have e : (flatE enc xs)[j]? = cur[j]? := by rw [← ht, List.getElem?_take_of_lt hj', Array.getElem?_toList]
  rw [← e, ← flatK_flatE hen, Array.getElem?_toList, Array.getElem?_eq_getElem hj, getElem!_pos _ j hj]; rfl
end
end Go.Proofs.YtkbmmoobcikbaaaGreatDoor.Ev
namespace Go.Proofs.YtkbmmoobcikbaaaGreatDoor.Ev
open Go Go.RowKit Go.Sort

abbrev Ent := List Nat × Int
noncomputable def encE (x : Ent) : List Value := [.string (bs x.1), .int .i64 x.2]
theorem strLt_trans : ∀ a b c : List Nat, strLt a b = true → strLt b c = true → strLt a c = true
  | _, [], _, h, _ => by simp [strLt] at h
  | _, _ :: _, [], _, h => by simp [strLt] at h
  | [], _ :: _, _ :: _, _, _ => by simp [strLt]
  | x :: a, y :: b, z :: c, h1, h2 => by
    have key : ∀ (p q : Nat) (u v : List Nat), strLt (p :: u) (q :: v) = true ↔ p < q ∨ (p = q ∧ strLt u v = true) := fun p q u v => by
      show (match Nat.blt p q with | true => true | false => match Nat.beq p q with | true => strLt u v | false => false) = true ↔ _
      rcases Nat.lt_trichotomy p q with hh | hh | hh
      · rw [show Nat.blt p q = true from by simpa [Nat.blt_eq] using hh]
        simp; omega
      · subst hh
        rw [show Nat.blt p p = false from by simp [Nat.blt_eq, Bool.eq_false_iff], Nat.beq_refl]
        simp
      · rw [show Nat.blt p q = false from by rw [Bool.eq_false_iff]; simp [Nat.blt_eq]; omega, show Nat.beq p q = false from by rw [Bool.eq_false_iff]; simp; omega]
        simp; omega
    rw [key] at h1 h2 ⊢
    rcases h1 with h1 | ⟨rfl, h1⟩
    · rcases h2 with h2 | ⟨rfl, -⟩
      · exact .inl (by omega)
      · exact .inl h1
    · rcases h2 with h2 | ⟨rfl, h2⟩
      · exact .inl h2
      · exact .inr ⟨rfl, strLt_trans a b c h1 h2⟩
theorem cmpS_lt (a b : List Nat) : (cmpS a b < 0) = (strLt a b = true) := by
  unfold cmpS
  cases strLt a b <;> cases strLt b a <;> simp
/-- Entries of a row. -/
abbrev In (E : List Ent) := {x : Ent // x ∈ E}
noncomputable def encI {E : List Ent} (x : In E) : List Value := encE x.1
noncomputable def cmpI {E : List Ent} (x y : In E) : Int := cmpS x.1.1 y.1.1
theorem ltI {E : List Ent} (x y : In E) : ltOf cmpI x y = strLt x.1.1 y.1.1 := by
  unfold ltOf cmpI
  rw [Bool.eq_iff_iff, decide_eq_true_iff, cmpS_lt]
theorem swoI (E : List Ent) : SWO (ltOf (cmpI (E := E))) where
  irrefl x := by rw [ltI]; exact strLt_irr _
  trans x y z h1 h2 := by rw [ltI] at *; exact strLt_trans _ _ _ h1 h2
  ntrans x y z h1 h2 := by
    rw [ltI] at *
    rw [Bool.eq_false_iff]
    intro h
    by_cases e1 : x.1.1 = y.1.1
    · rw [e1, h2] at h; cases h
    · have g1 := strLt_tri _ _ h1 e1
      have g2 := strLt_trans _ _ _ g1 h
      rw [h2] at g2; cases g2
/-- No two names alike. -/
noncomputable def Apart (E : List Ent) : Prop := ∀ x ∈ E, ∀ y ∈ E, x.1 = y.1 → x = y
theorem totI {E : List Ent} (hE : Apart E) (x y : In E) (h1 : ltOf cmpI x y = false) (h2 : ltOf cmpI y x = false) : x = y := by
  rw [ltI] at *
  apply Subtype.ext
  refine hE _ x.2 _ y.2 ?_
  by_cases e : x.1.1 = y.1.1
  · exact e
  · have := strLt_tri _ _ h1 e
    rw [h2] at this; cases this
noncomputable def insE (x : Ent) : List Ent → List Ent
  | [] => [x]
  | y :: r => match strLt x.1 y.1 with
    | true => x :: y :: r
    | false => y :: insE x r
noncomputable def sortE : List Ent → List Ent
  | [] => []
  | x :: r => insE x (sortE r)
theorem insE_perm (x : Ent) : ∀ l, (insE x l).Perm (x :: l)
  | [] => .refl _
  | y :: r => by
    unfold insE
    split
    · exact .refl _
    · exact ((insE_perm x r).cons y).trans (.swap x y r)
theorem sortE_perm : ∀ l, (sortE l).Perm l
  | [] => .refl _
  | x :: r => (insE_perm x _).trans ((sortE_perm r).cons x)
noncomputable def leE (x y : Ent) : Prop := strLt y.1 x.1 = false
theorem leE_trans {x y z : Ent} (h1 : leE x y) (h2 : leE y z) : leE x z := by
  unfold leE at *
  rw [Bool.eq_false_iff]
  intro h
  by_cases e : y.1 = z.1
  · rw [e] at h1; rw [h] at h1; cases h1
  · have g := strLt_tri _ _ h2 (fun q => e q.symm)
    have := strLt_trans _ _ _ g h
    rw [h1] at this; cases this
theorem insE_sorted (x : Ent) : ∀ l, l.Pairwise leE → (insE x l).Pairwise leE
  | [], _ => by simp [insE]
  | y :: r, h => by
    unfold insE
    have h' := List.pairwise_cons.1 h
    split
    · rename_i hx
      refine List.pairwise_cons.2 ⟨fun z hz => ?_, h⟩
      have hxy : leE x y := strLt_asym _ _ hx
      rcases List.mem_cons.1 hz with rfl | hz
      · exact hxy
      · exact leE_trans hxy (h'.1 z hz)
    · rename_i hx
      refine List.pairwise_cons.2 ⟨fun z hz => ?_, insE_sorted x r h'.2⟩
      rcases List.mem_cons.1 ((insE_perm x r).mem_iff.1 hz) with rfl | hz
      · exact hx
      · exact h'.1 z hz
theorem sortE_sorted : ∀ l, (sortE l).Pairwise leE
  | [] => .nil
  | x :: r => insE_sorted x _ (sortE_sorted r)
/-- What the library's sort leaves is what is reckoned. -/
theorem merge_sortE {E : List Ent} (hE : Apart E) (l : List (In E)) (hp : (l.map (·.1)).Perm E) : (l.mergeSort fun x y => !(ltOf cmpI) y x).map (·.1) = sortE E := by
  refine List.Perm.eq_of_pairwise (le := leE) (fun a b ha hb h1 h2 => ?_) ?_ (sortE_sorted E) (((List.mergeSort_perm l _).map _).trans (hp.trans (sortE_perm E).symm))
  · have ha' : a ∈ E := hp.mem_iff.1 (((List.mergeSort_perm l _).map _).mem_iff.1 ha)
    have hb' : b ∈ E := (sortE_perm E).mem_iff.1 hb
    refine hE _ ha' _ hb' ?_
    unfold leE at h1 h2
    by_cases e : a.1 = b.1
    · exact e
    · have := strLt_tri _ _ h2 e
      rw [h1] at this; cases this
  · rw [List.pairwise_map]
    have h := List.pairwise_mergeSort (le := fun x y : In E => !(ltOf cmpI) y x) (fun a b c h1 h2 => ?_) (fun a b => ?_) l
    · refine h.imp fun {a b} h1 => ?_
      show strLt b.1.1 a.1.1 = false
      simpa [ltI] using h1
    · simp only [ltI, Bool.not_eq_true'] at h1 h2 ⊢
      exact leE_trans h1 h2
    · simp only [ltI]
      rcases hx : strLt b.1.1 a.1.1 with _ | _
      · rfl
      · rw [strLt_asym _ _ hx]; rfl
end Go.Proofs.YtkbmmoobcikbaaaGreatDoor.Ev
namespace Go.Proofs.YtkbmmoobcikbaaaGreatDoor.Ev
open Go Go.RowKit Go.Sort

theorem Tryz.entT : SliceT Tryz.prog 144 147 2 24 := sliceT_of Tryz.underlying144 (by kernel_rfl) (by decide)
theorem encE_len (x : Ent) : (encE x).length = 2 := rfl
theorem encI_len {E : List Ent} (x : In E) : (encI x).length = 2 := rfl
/-- A row of entries of E, as one of members of E. -/
theorem flatI {E : List Ent} (l : List (In E)) : flatE encI l = flatE encE (l.map (·.1)) := by
  unfold flatE
  rw [List.flatMap_map]
  rfl
noncomputable def inE (E : List Ent) (l : List Ent) (h : ∀ x ∈ l, x ∈ E) : List (In E) := l.attach.map fun x => ⟨x.1, h x.1 x.2⟩
theorem inE_map (E : List Ent) (l : List Ent) (h : ∀ x ∈ l, x ∈ E) : (inE E l h).map (·.1) = l := by
  unfold inE
  rw [List.map_map]
  exact List.attach_map_subtype_val l
theorem alloc2_grow (W : World) (a b : Obj) : (W.alloc a).alloc b = grow (W.drewN 0) #[a, b] := by
  unfold grow World.drewN World.alloc
  simp only [Array.push_eq_append, Array.append_assoc]
  rfl
set_option maxHeartbeats 8000000 in
set_option maxRecDepth 1000000 in
theorem list_walk (W0 : World) (d km c : Nat) (es : List MapEntry) (ent : MapEntry → Ent) (hb : W0.cell? ⟨d, 1, none⟩ = some (.map (some km))) (hm : W0.heap[km]? = some (.map es.toArray c))
    (hold : ∀ x ∈ es, x.born < c) (hn : (es.map (·.born)).Nodup) (hbig : es.length ≤ 1000000) (hne : 0 < es.length) (hent : ∀ e ∈ es, e.key = .string (bs (ent e).1) ∧ e.val = .int .i64 (ent e).2 ∧ ∀ x ∈ (ent e).1, x < 256) (hap : Apart (es.map ent)) :
    Calls Tryz.prog 64 #[.pointer (some ⟨d, 0, none⟩)] W0 fun r W' => ∃ v, r = .returned v ∧ W'.ownsRow (W0.heap.size + 1) 147 2 v es.length (flatE encE (sortE (es.map ent))) ∧ Same W0 W' := by
  have hrg := run_range_map (P := Tryz.prog) W0 189 9 3 km es.toArray c Tryz.underlying189 hm
  have eg : ∀ args w, (callFunc 93 args).run Tryz.prog w = .ok (.enter 93 args) w := enters_of Tryz.func93 (by kernel_rfl) rfl
  have EG := Lib.hid eg
  have HENT := Lib.hid hent
  have HAP := Lib.hid hap
  clear eg hent hap
  go_enter Tryz.func64, Tryz.ntmps64
  go_wp2
  go_loopw [3] (fun s w' => Same W0 w' ∧ ∃ seen L, w'.heap[W0.heap.size]? = some (.mapIter (some km) c seen c) ∧ w'.ownsRow (W0.heap.size + 1) 147 2 s L.length (flatE encE L) ∧ L.Perm ((seenE es seen).map ent)) (fun _ w' => left_ w' W0.heap.size es.toArray)
  case atStart =>
    refine ⟨⟨rfl, rfl, rfl, by simp, fun k hk => heap_alloc_old _ _ hk⟩, #[], [], heap_alloc_new _ _, World.ownsRow_nil _ _ _ _, by rw [seenE_none]; exact .refl _⟩
  case round =>
    obtain ⟨hS, seen, L, hit, hown, hperm⟩ := hrel
    obtain ⟨ae, ne, ce, rfl⟩ := ownsForm hown
    have HP := Lib.hid hperm
    clear hperm
    have hlm : km < W0.heap.size := (Array.getElem?_eq_some_iff.1 hm).1
    have hb1 : wr.heap[km]? = some (.map es.toArray c) := (hS.block km hlm).trans hm
    have hsz := hS.size
    have hit' := hit
    have hlt : W0.heap.size < wr.heap.size := (Array.getElem?_eq_some_iff.1 hit).1
    rcases run_next_at (P := Tryz.prog) 0 hit hb1 (by simpa using hold) (Nat.le_refl _) with ⟨h0, w2, hrun, hw2, hs2⟩ | ⟨e, he, w2, hrun, hw2, hs2⟩
    · have hnx : ∀ ty, (Instr.next (.pointer (some ⟨W0.heap.size, 0, none⟩)) false ty).run Tryz.prog wr = _ := fun _ => hrun
      have hx : Same W0 w2 := ⟨hs2.os.trans hS.os, hs2.tape.trans hS.tape, hs2.output.trans hS.output, by rw [hw2]; exact hsz, fun k hk => by rw [hw2]; exact hS.block k hk⟩
      have hu2 : Upd Nothing wr w2 := ⟨hs2.os, hs2.tape, hs2.output, by rw [hw2]; exact Nat.le_refl _, fun k hk _ => by rw [hw2]⟩
      have hown2 := hu2.ownsRow hown (fun _ _ e => e)
      have hpe := HP.out
      rw [seenE_all h0] at hpe
      have hLn : L.length = es.length := by rw [hpe.length_eq, List.length_map]
      obtain ⟨g, cap, q⟩ := own_cases hown2 (by omega)
      rw [q] at hown2
      obtain ⟨rfl, rfl, rfl⟩ : ae = some ⟨g, 0, none⟩ ∧ ne = L.length ∧ ce = cap := by simpa using q
      clear q
      have : Inhabited (In (es.map ent)) := ⟨⟨ent es[0], List.mem_map.2 ⟨_, List.getElem_mem hne, rfl⟩⟩⟩
      have hmem : ∀ x ∈ L, x ∈ es.map ent := fun x hx => hpe.mem_iff.1 hx
      obtain ⟨I, hI⟩ : ∃ I, I = inE (es.map ent) L hmem := ⟨_, rfl⟩
      have hIL : I.map (·.1) = L := by rw [hI]; exact inE_map _ _ _
      have hIn : I.length = L.length := by rw [← hIL, List.length_map]
      have hownI : w2.ownsRow (W0.heap.size + 1) 147 2 (.slice (some ⟨g, 0, none⟩) L.length ce) L.length (flatE encI I) := by rw [flatI, hIL]; exact hown2
      obtain ⟨hh, hlt2⟩ := own_holdsE encI_len hownI hIn
      have hcon : Calls Tryz.prog 92 #[.slice (some ⟨g, 0, none⟩) I.length ce, .func (.func 93) #[] #[]] w2 fun e w' => e = .returned (.tuple #[]) ∧ ∃ n os, w' = sortWorldK encI 2 w2 g 0 n (I.mergeSort fun x y => !(ltOf cmpI) y x).toArray os :=
        AnyQ.slices_SortFunc_total (P := Tryz.prog) (ρ := Tryz.sortEnt_ren) Tryz.sortEnt 2 Tryz.isAgg147 Tryz.sizeOf147 encI encI_len (fun x u hu => by unfold encI encE at hu; simp at hu; rcases hu with rfl | rfl <;> rfl) cmpI (swoI _) 93 #[] g 0 ce I.toArray w2 EG.out (fun m os dk _ x y => by
          obtain ⟨e1, m1, q1⟩ := List.mem_map.1 x.2
          obtain ⟨e2, m2, q2⟩ := List.mem_map.1 y.2
          have b1 := (HENT.out e1 m1).2.2
          have b2 := (HENT.out e2 m2).2.2
          rw [q1] at b1
          rw [q2] at b2
          refine (less_any b1 b2 x.1.2 y.1.2 _).mono fun _ w' => ?_
          rintro ⟨rfl, rfl⟩
          exact ⟨rfl, 0, _, alloc2_grow _ _ _⟩) hh hlt2 (by simp; omega) (totI HAP.out)
      have hpI : (I.map (·.1)).Perm (es.map ent) := by rw [hIL]; exact hpe
      have hms := merge_sortE HAP.out I hpI
      rw [hIn] at hcon
      have HCON := Lib.hid hcon
      have HOWN2 := Lib.hid hownI
      have HX2 := Lib.hid hx
      have HMS := Lib.hid hms
      have HLN := Lib.hid hLn
      have HIN := Lib.hid hIn
      obtain ⟨n3, hn3⟩ : ∃ n, n = L.length := ⟨_, rfl⟩
      rw [← hn3] at HCON HOWN2 HLN HIN ⊢
      clear hn3 hit hit' hrun hx hown2 hown hu2 hw2 hs2 hcon hownI hms hLn hIn hpI hpe hmem hI hIL hh hlt2
      go_wp2_with (go_at_call 92; fail)
      refine HCON.out.mono ?_
      rintro e w5 ⟨rfl, m, os, hw5⟩
      have ho := own_sortedE (m := m) (os := os) (ys := I.mergeSort fun x y => !(ltOf cmpI) y x) encI_len HOWN2.out (by rw [List.length_mergeSort]; exact HIN.out)
      rw [← hw5, flatI, HMS.out, HLN.out] at ho
      have hx5 : Same W0 w5 := ⟨ho.2.os.trans HX2.out.os, ho.2.tape.trans HX2.out.tape, ho.2.output.trans HX2.out.output, Nat.le_trans HX2.out.size ho.2.size, fun k hk => by
        have q := HX2.out.size
        refine (ho.2.block k (by omega) (fun e => ?_)).trans (HX2.out.block k hk)
        obtain ⟨-, ⟨q1, -⟩ | ⟨g', cap', cur, e1, hB', -⟩⟩ := HOWN2.out
        · cases q1
        · cases e1; unfold At at e; omega⟩
      have HO5 := Lib.hid ho.1
      have HX5 := Lib.hid hx5
      rw [HLN.out]
      clear ho hw5 hx5
      go_wp2
      go_ret
      exact ⟨_, rfl, HO5.out, HX5.out⟩
    · have hnx : ∀ ty, (Instr.next (.pointer (some ⟨W0.heap.size, 0, none⟩)) false ty).run Tryz.prog wr = _ := fun _ => hrun
      obtain ⟨hee, hns⟩ := mem_left he
      have hee : e ∈ es := by simpa using hee
      have hit2 : w2.heap[W0.heap.size]? = some (.mapIter (some km) c (seen.push e.born) c) := by rw [hw2]; simp [hlt]
      have hx2 : Same W0 w2 := ⟨hs2.os.trans hS.os, hs2.tape.trans hS.tape, hs2.output.trans hS.output, by rw [hw2]; simpa using hsz, fun k hk => by rw [hw2, Array.getElem?_setIfInBounds_ne (by omega)]; exact hS.block k hk⟩
      have hb2 : w2.heap[km]? = some (.map es.toArray c) := (hx2.block km hlm).trans hm
      have hen := run_entry_at (P := Tryz.prog) hit2 hb2 (by simpa using hee) (by simpa using hn)
      have hu2 : Upd (At W0.heap.size) wr w2 := ⟨hs2.os, hs2.tape, hs2.output, by rw [hw2]; simp, fun k hk hne => by rw [hw2, Array.getElem?_setIfInBounds_ne (fun e => hne e.symm)]⟩
      have hB : ∀ k, (Value.slice ae ne ce).ownBlock = some k → W0.heap.size + 1 ≤ k := fun k hk => by
        rcases hown.2 with ⟨q, _⟩ | ⟨g, cap, cur, q, hg, _⟩
        · rw [q] at hk; simp [Value.ownBlock] at hk
        · rw [q] at hk; simp only [Value.ownBlock, Option.some.injEq] at hk; omega
      have hown2 := hu2.ownsRow hown (fun k hk e => by have := hB k hk; unfold At at e; omega)
      obtain ⟨hk1, hk2, -⟩ := HENT.out e hee
      have hpu := (seenE_push hns hn hee).map ent
      have hlen : L.length ≤ es.length := by
        rw [HP.out.length_eq, List.length_map]
        exact List.length_filter_le _ _
      have hle : left_ w2 W0.heap.size es.toArray < left_ wr W0.heap.size es.toArray := by
        rw [left_eq hit2, left_eq hit']
        exact left_shrinks _ _ _ he
      rw [hk1, hk2] at hen hrun
      have HPU := Lib.hid hpu
      have HLE := Lib.hid hle
      have HX2 := Lib.hid hx2
      have HIT2 := Lib.hid hit2
      have HOWN2 := Lib.hid hown2
      have HB := Lib.hid hB
      clear hit hit' hrun hpu hle hx2 hown2 hB hu2 hown hw2 hs2 hk1 hk2
      go_wp2_with (at_builtin; go_must (refine wpList_append_row rfl _ _ _ rfl Tryz.entT rfl (HOWN2.out.alloc _) rfl (row_new _ _ _ 1 _ (by decide) (by simp)) rfl (by intro u hu; simp at hu; rcases hu with rfl | rfl <;> rfl) ?c3 ?c4 ?c5 ?_))
      case c3 => unfold maxLen; omega
      case c4 => omega
      case c5 => have := HX2.out.size; have := lt_of_heap HIT2.out; simp; omega
      intro v' w6 hown6 hg _
      have hx6 : Same W0 w6 := ⟨hg.os.trans HX2.out.os, hg.tape.trans HX2.out.tape, hg.output.trans HX2.out.output, by have := hg.size; have := HX2.out.size; simp at *; omega, fun k hk => by
        have q := hg.block k (by have := HX2.out.size; simp; omega) (fun e => by have := HB.out k e.symm; omega)
        exact q.trans ((heap_alloc_old _ _ (Nat.lt_of_lt_of_le hk HX2.out.size)).trans (HX2.out.block k hk))⟩
      have hit6 : w6.heap[W0.heap.size]? = some (.mapIter (some km) c (seen.push e.born) c) := by
        have q := hg.block W0.heap.size (by have := lt_of_heap HIT2.out; simp; omega) (fun e => by have := HB.out _ e.symm; omega)
        exact q.trans ((heap_alloc_old _ _ (lt_of_heap HIT2.out)).trans HIT2.out)
      have HX6 := Lib.hid hx6
      have HIT6 := Lib.hid hit6
      have HOWN6 := Lib.hid hown6
      clear hg hx6 hit6 hown6
      go_wp2
      go_roundw
      case rel =>
        refine ⟨HX6.out, seen.push e.born, L ++ [ent e], HIT6.out, ?_, ?_⟩
        · rw [List.length_append, flatE_append, flatE_one]
          exact HOWN6.out
        · refine List.Perm.trans ?_ HPU.out.symm
          rw [List.map_append]
          exact HP.out.append_right _
      case measure =>
        rw [left_eq HIT6.out, ← left_eq HIT2.out]
        exact HLE.out
end Go.Proofs.YtkbmmoobcikbaaaGreatDoor.Ev
