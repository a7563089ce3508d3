/-
  A RECKONER OF CLOSED CALLS: (*inode.Table).sum by hand: a sum over a map's entries, in whatever order. Conditions: the stamps are elder than the range, no two alike; what is summed turns nothing.
-/
import Derived.Test.YtcfmohjffnpfpaaGreatDoorEvIter
import Derived.Test.YtcfmohjffnpfpaaGreatDoorNBase
namespace Go.Proofs.YtcfmohjffnpfpaaGreatDoor.Ev
open Go Go.RowKit

theorem Same.refl (w : World) : Same w w := ⟨rfl, rfl, rfl, Nat.le_refl _, fun _ _ => rfl⟩
theorem Same.trans {a b c : World} (h : Same a b) (h' : Same b c) : Same a c :=
  ⟨h'.os.trans h.os, h'.tape.trans h.tape, h'.output.trans h.output, Nat.le_trans h.size h'.size, fun k hk => (h'.block k (Nat.lt_of_lt_of_le hk h.size)).trans (h.block k hk)⟩
def valN (kf : MapEntry → Nat) (e : MapEntry) : MapEntry := { e with val := .int .i64 ((kf e : Nat) : Int) }
theorem valN_borns (kf : MapEntry → Nat) (es : List MapEntry) : (es.map (valN kf)).map (·.born) = es.map (·.born) := by
  rw [List.map_map]; rfl
theorem seen_le (kf : MapEntry → Nat) (seen : Array Nat) : ∀ es : List MapEntry, 0 ≤ seenSum (es.map (valN kf)) seen ∧ seenSum (es.map (valN kf)) seen ≤ ((es.map kf).sum : Nat)
  | [] => by simp [seenSum]
  | e :: es => by
    have ih := seen_le kf seen es
    simp only [List.map_cons, seenSum, List.sum_cons]
    have : valOf (valN kf e).val = ((kf e : Nat) : Int) := rfl
    split <;> omega
theorem sum_cast (kf : MapEntry → Nat) : ∀ es : List MapEntry, (es.map fun e => ((kf e : Nat) : Int)).sum = ((es.map kf).sum : Nat)
  | [] => rfl
  | e :: es => by simp only [List.map_cons, List.sum_cons, Int.natCast_add, sum_cast kf es]
theorem seen_full (kf : MapEntry → Nat) {seen : Array Nat} {es : List MapEntry} (h : (leftOf es.toArray seen).size = 0) : seenSum (es.map (valN kf)) seen = ((es.map kf).sum : Nat) := by
  rw [seenSum_full seen _ (fun x hx => by
    obtain ⟨y, hy, rfl⟩ := List.mem_map.1 hx
    exact all_seen es.toArray seen h y (by simpa using hy)), List.map_map]
  exact sum_cast kf es
theorem seen_push (kf : MapEntry → Nat) {seen : Array Nat} {es : List MapEntry} {e : MapEntry} (hs : seen.contains e.born = false) (hn : (es.map (·.born)).Nodup) (he : e ∈ es) : seenSum (es.map (valN kf)) (seen.push e.born) = seenSum (es.map (valN kf)) seen + ((kf e : Nat) : Int) := by
  have := seenSum_push seen (valN kf e) hs (es.map (valN kf)) (by rw [valN_borns]; exact hn) (List.mem_map.2 ⟨e, he, rfl⟩)
  exact this
set_option maxHeartbeats 4000000 in
set_option maxRecDepth 1000000 in
theorem sum_walk (W0 : World) (kb km c : Nat) (es : List MapEntry) (g : Nat) (kf : MapEntry → Nat) (hb : W0.cell? ⟨kb, 0, none⟩ = some (.map (some km))) (hm : W0.heap[km]? = some (.map es.toArray c))
    (hold : ∀ x ∈ es, x.born < c) (hn : (es.map (·.born)).Nodup) (hbig : (es.map kf).sum ≤ 1000000000) (eg : ∀ args w, (callFunc g args).run Tryz.prog w = .ok (.enter g args) w)
    (hcall : ∀ W, Same W0 W → ∀ e ∈ es, Calls Tryz.prog g #[e.val] W fun r W' => r = .returned (.int .i64 ((kf e : Nat) : Int)) ∧ Same W W') :
    Calls Tryz.prog 220 #[.pointer (some ⟨kb, 0, none⟩), .func (.func g) #[] #[]] W0 fun r W' => r = .returned (.int .i64 (((es.map kf).sum : Nat) : Int)) ∧ Same W0 W' := by
  have hrg := run_range_map (P := Tryz.prog) W0 125 3 166 km es.toArray c Tryz.underlying125 hm
  go_enter Tryz.func220, Tryz.ntmps220
  go_wp2
  go_loopw [4] (fun s w' => Same W0 w' ∧ ∃ seen, w'.heap[W0.heap.size]? = some (.mapIter (some km) c seen c) ∧ s = .int .i64 (seenSum (es.map (valN kf)) seen)) (fun _ w' => left_ w' W0.heap.size es.toArray)
  case atStart =>
    refine ⟨⟨rfl, rfl, rfl, by simp, fun k hk => heap_alloc_old _ _ hk⟩, #[], heap_alloc_new _ _, by rw [seenSum_none]⟩
  case round =>
    obtain ⟨hS, seen, hit, rfl⟩ := hrel
    have hlm : km < W0.heap.size := (Array.getElem?_eq_some_iff.1 hm).1
    have hb1 : wr.heap[km]? = some (.map es.toArray c) := (hS.block km hlm).trans hm
    have hsz := hS.size
    have hit' := hit
    rcases run_next_at (P := Tryz.prog) 0 hit hb1 (by simpa using hold) (Nat.le_refl _) with ⟨h0, w2, hrun, hw2, hs2⟩ | ⟨e, he, w2, hrun, hw2, hs2⟩
    · have hnx : ∀ ty, (Instr.next (.pointer (some ⟨W0.heap.size, 0, none⟩)) false ty).run Tryz.prog wr = _ := fun _ => hrun
      have hx : Same W0 w2 := ⟨hs2.os.trans hS.os, hs2.tape.trans hS.tape, hs2.output.trans hS.output, by rw [hw2]; exact hsz, fun k hk => by rw [hw2]; exact hS.block k hk⟩
      rw [seen_full kf h0]
      clear hit hit' hrun
      go_wp2
      go_ret
      exact ⟨rfl, hx⟩
    · have hnx : ∀ ty, (Instr.next (.pointer (some ⟨W0.heap.size, 0, none⟩)) false ty).run Tryz.prog wr = _ := fun _ => hrun
      obtain ⟨hee, hns⟩ := mem_left he
      have hee : e ∈ es := by simpa using hee
      have hlt : W0.heap.size < wr.heap.size := (Array.getElem?_eq_some_iff.1 hit).1
      have hit2 : w2.heap[W0.heap.size]? = some (.mapIter (some km) c (seen.push e.born) c) := by rw [hw2]; simp [hlt]
      have hx2 : Same W0 w2 := ⟨hs2.os.trans hS.os, hs2.tape.trans hS.tape, hs2.output.trans hS.output, by rw [hw2]; simpa using hsz, fun k hk => by rw [hw2, Array.getElem?_setIfInBounds_ne (by omega)]; exact hS.block k hk⟩
      have hb2 : w2.heap[km]? = some (.map es.toArray c) := (hx2.block km hlm).trans hm
      have hen := run_entry_at (P := Tryz.prog) hit2 hb2 (by simpa using hee) (by simpa using hn)
      have ha := hcall w2 hx2 e hee
      have hpu := seen_push kf hns hn hee
      have q1 := seen_le kf seen es
      have q2 := seen_le kf (seen.push e.born) es
      have hle : left_ w2 W0.heap.size es.toArray < left_ wr W0.heap.size es.toArray := by
        rw [left_eq hit2, left_eq hit']
        exact left_shrinks _ _ _ he
      clear hit hit' hrun
      go_wp2_with (refine ha.mono ?_; rintro _ w3 ⟨rfl, hx3⟩)
      case roundEnd =>
        have hit3 : w3.heap[W0.heap.size]? = some (.mapIter (some km) c (seen.push e.born) c) := (hx3.block _ (Array.getElem?_eq_some_iff.1 hit2).1).trans hit2
        refine ⟨⟨hx2.trans hx3, seen.push e.born, hit3, by rw [hpu]⟩, ?_⟩
        rw [left_eq hit3, ← left_eq hit2]
        exact hle
/-- The stamps are elder than the range, no two alike. -/
noncomputable def notIn : List (AV × AV × Nat) → Nat → Bool
  | [], _ => true
  | (_, _, n) :: es, k => match Nat.beq n k with
    | true => false
    | false => notIn es k
noncomputable def stampsOk : List (AV × AV × Nat) → Nat → Bool
  | [], _ => true
  | (_, _, n) :: es, c => Nat.blt n c && (notIn es n && stampsOk es c)
variable {P : Program} {T : Tb} {l : Env} {H : Hp} {w : World}
theorem notIn_ok {k : Nat} : ∀ {es : List (AV × AV × Nat)} {xs : List MapEntry}, ERs l es xs → notIn es k = true → k ∉ xs.map (·.born)
  | _, _, .nil, _ => by simp
  | _, _, .cons h1 h2 h3, h => by
    unfold notIn at h
    split at h
    · cases h
    · rename_i hk
      have hk := Nat.ne_of_beq_eq_false hk
      have := notIn_ok h3 h
      simp only [List.map_cons, List.mem_cons, not_or]
      exact ⟨fun e => hk e.symm, this⟩
theorem stampsOk_ok {c : Nat} : ∀ {es : List (AV × AV × Nat)} {xs : List MapEntry}, ERs l es xs → stampsOk es c = true → (∀ x ∈ xs, x.born < c) ∧ (xs.map (·.born)).Nodup
  | _, _, .nil, _ => by simp
  | _, _, .cons h1 h2 h3, h => by
    unfold stampsOk at h
    simp only [Bool.and_eq_true] at h
    obtain ⟨g1, g2⟩ := stampsOk_ok h3 h.2.2
    have := notIn_ok h3 h.2.1
    refine ⟨fun x hx => ?_, ?_⟩
    · rcases List.mem_cons.1 hx with rfl | hx
      · simpa [Nat.blt_eq] using h.1
      · exact g1 x hx
    · simp only [List.map_cons, List.nodup_cons]
      exact ⟨this, g2⟩
/-- A call that turns nothing that stands. -/
theorem ro_call {D : Nat} (hT : TbOk P T) (hh : CallOk P (T.from H.nx) T.hook) {g : FuncId} {i : FI} (hi : T.fn g = some i) {v r : AV} {H' : Hp} {x : Value} (e : ev (T.from H.nx) (drawV (T.from H.nx)) D g [v] H = some (r, H')) (hr : HR T.sz l H w) (hv : VR l v x) :
    Calls P g #[x] w fun e w' => ∃ y l', e = .returned y ∧ VR l' r y ∧ Same w w' := by
  have h := ev_ok (hT.from H.nx) hh (fun call N hc => drawV_ok (N := N) (hT.from H.nx) hc) D g [v] H r H' e l w [x] hr (.cons hv .nil)
  obtain ⟨fn, -, -, -, -, q5⟩ := hT.fn _ _ hi
  rcases h with ⟨y, w', h1, -⟩ | ⟨-, h2⟩
  · rw [q5] at h1; cases h1
  · refine Calls.mono h2 fun e w' => ?_
    rintro ⟨y, rfl, l', h3, h4⟩
    refine ⟨y, l', rfl, h3, h4.os, h4.tape, h4.output, h4.size, fun k hk => h4.block k hk fun b z hlo hz _ => ?_⟩
    have hlo : H.nx ≤ b := hlo
    have := hr.dom b z hz
    omega
theorem HR.same {sz : TypeId → Nat} {w' : World} (h : HR sz l H w) (hs : Same w w') : HR sz l H w' := h.grown hs.block
theorem Kp.same {sz : TypeId → Nat} {lo : Nat} {w' : World} (h : HR sz l H w) (hs : Same w w') : Kp sz lo l H w l H w' := Kp.grown h hs.os hs.tape hs.output hs.size hs.block
noncomputable def natR : Option (AV × Hp) → Option Nat
  | some (.int .i64 (.ofNat n), _) => some n
  | _ => none
noncomputable def sumAll (f : AV → Option Nat) : List (AV × AV × Nat) → Nat → Option Nat
  | [], n => some n
  | (_, v, _) :: es, n => match f v with
    | some k => sumAll f es (n + k)
    | none => none
/-- (*inode.Table).sum by hand (T: a table of its own for what is summed). -/
noncomputable def sumH (T : Tb) (D : Nat) : HookF
  | [.ptr b 0, .fn (.func g) [] []], H => match H.get b, T.fn g with
    | some (.cells _ (.map (some m) :: _) _), some _ => match H.get m with
      | some (.map es c) => match stampsOk es c with
        | true => match sumAll (fun v => natR (ev (T.from H.nx) (drawV (T.from H.nx)) D g [v] H)) es 0 with
          | some n => match Nat.ble n 1000000000 with
            | true => some (.int .i64 (.ofNat n), H)
            | false => none
          | none => none
        | false => none
      | _ => none
    | _, _ => none
  | _, _ => none
theorem sumAll_ok {f : AV → Option Nat} : ∀ {es : List (AV × AV × Nat)} {xs : List MapEntry} {n r : Nat}, ERs l es xs → (xs.map (·.born)).Nodup → sumAll f es n = some r → ∃ kf : MapEntry → Nat, n + (xs.map kf).sum = r ∧ ∀ e ∈ xs, ∃ v, VR l v e.val ∧ f v = some (kf e)
  | _, _, n, r, .nil, _, h => by cases h; exact ⟨fun _ => 0, by simp, fun e he => by cases he⟩
  | _, _, n, r, .cons (k' := k') (v' := v') (n := st) (a' := xs) h1 h2 h3, hn, h => by
    unfold sumAll at h
    split at h
    · rename_i k hk
      simp only [List.map_cons, List.nodup_cons] at hn
      obtain ⟨kf, g1, g2⟩ := sumAll_ok h3 hn.2 h
      refine ⟨fun e => if e.born = st then k else kf e, ?_, fun e he => ?_⟩
      · have : xs.map (fun e => if e.born = st then k else kf e) = xs.map kf := List.map_congr_left fun e he => by
          rw [if_neg]
          intro hb
          exact hn.1 (List.mem_map.2 ⟨e, he, hb⟩)
        simp only [List.map_cons, List.sum_cons, this, if_true]
        omega
      · rcases List.mem_cons.1 he with rfl | he
        · exact ⟨_, h2, by simpa using hk⟩
        · obtain ⟨v, q1, q2⟩ := g2 e he
          refine ⟨v, q1, ?_⟩
          show f v = some (if e.born = st then k else kf e)
          rw [if_neg]
          · exact q2
          · intro hb
            exact hn.1 (List.mem_map.2 ⟨e, he, hb⟩)
    · cases h
theorem sum_ok {T0 : Tb} {D lo : Nat} (hT : TbOk Tryz.prog T0) (hh : ∀ n, CallOk Tryz.prog (T0.from n) T0.hook) (hc : ∀ args w, (callFunc 220 args).run Tryz.prog w = .ok (.enter 220 args) w) : HookOk Tryz.prog T0.sz lo 220 (sumH T0 D) := by
  intro us H v H' e l w xs hr hx
  unfold sumH at e
  split at e
  · rename_i b g
    split at e
    · rename_i ts m cs p i hb hi
      split at e
      · rename_i es c hm
        split at e
        · rename_i hst
          split at e
          · rename_i n hsum
            split at e
            · rename_i hle
              rw [Nat.ble_eq] at hle
              cases e
              cases hx with | cons h1 hx => ?_
              cases hx with | cons h2 hx => ?_
              cases hx
              cases h1 with | ptr _ hl => ?_
              cases h2 with | fn _ a1 a2 => ?_
              cases a1; cases a2
              obtain ⟨k, κ, ys, rest, fr, g1, g2, g3, -, -, -⟩ := hr.at_ hb
              rw [hl] at g1
              cases g1
              cases g3 with | cons h4 g3 => ?_
              cases h4 with | map hlm => ?_
              obtain ⟨km, κm, ms, f1, f2, f3⟩ := hr.map_ hm
              rw [hlm] at f1
              cases f1
              obtain ⟨q1, q2⟩ := stampsOk_ok f3 hst
              obtain ⟨kf, r1, r2⟩ := sumAll_ok f3 q2 hsum
              rw [Nat.zero_add] at r1
              obtain ⟨fn, -, -, -, -, q5⟩ := hT.fn _ _ hi
              have hw := sum_walk w _ _ c ms g kf (cell_get (xs := _ :: _) g2 0 _ rfl) f2 q1 q2 (by rw [r1]; exact hle) q5 (fun W hS e he => by
                obtain ⟨v, s1, s2⟩ := r2 e he
                unfold natR at s2
                split at s2
                · rename_i k2 H2 hev
                  cases s2
                  refine Calls.mono (ro_call hT (hh H.nx) hi hev (hr.same hS) s1) fun r W' => ?_
                  rintro ⟨y, l', rfl, t1, t2⟩
                  cases t1
                  exact ⟨rfl, t2⟩
                · cases s2)
              refine .inr ⟨hc _ _, Calls.mono hw fun r w' => ?_⟩
              rintro ⟨rfl, hS⟩
              rw [r1]
              exact ⟨_, rfl, l, .int _ _, Kp.same hr hS⟩
            · cases e
          · cases e
        · cases e
      · cases e
    · cases e
  · cases e
end Go.Proofs.YtcfmohjffnpfpaaGreatDoor.Ev
