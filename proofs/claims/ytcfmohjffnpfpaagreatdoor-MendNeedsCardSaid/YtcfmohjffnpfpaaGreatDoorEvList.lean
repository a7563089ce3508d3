/-
  A RECKONER OF CLOSED CALLS: (*direct.Dir).List by hand: the entries of a map, in whatever order they come, sorted by name. Conditions: the stamps are elder than the range, no two alike; names apart; at most a million.
-/
import Derived.Test.YtcfmohjffnpfpaaGreatDoorEvOrd
namespace Go.Proofs.YtcfmohjffnpfpaaGreatDoor.Ev
open Go Go.RowKit Go.Sort

theorem Tryz.entT : SliceT Tryz.prog 113 116 2 24 := sliceT_of Tryz.underlying113 (by kernel_rfl) (by decide)
/-- What is seen of es. -/
noncomputable def seenE (es : List MapEntry) (seen : Array Nat) : List MapEntry := es.filter fun e => seen.contains e.born
theorem seenE_none (es : List MapEntry) : seenE es #[] = [] := by simp [seenE]
theorem seenE_all {es : List MapEntry} {seen : Array Nat} (h : (leftOf es.toArray seen).size = 0) : seenE es seen = es := by
  unfold seenE
  rw [List.filter_eq_self]
  intro e he
  have := all_seen es.toArray seen h e (by simpa using he)
  simpa using this
theorem seenE_push {seen : Array Nat} {e : MapEntry} (hs : seen.contains e.born = false) : ∀ {es : List MapEntry}, (es.map (·.born)).Nodup → e ∈ es → (seenE es (seen.push e.born)).Perm (seenE es seen ++ [e])
  | [], _, he => by cases he
  | y :: ys, hn, he => by
    simp only [List.map_cons, List.nodup_cons] at hn
    have hpush : ∀ x : MapEntry, (seen.push e.born).contains x.born = (seen.contains x.born || x.born == e.born) := fun x => by
      rw [Bool.eq_iff_iff]; simp
    by_cases hy : y.born = e.born
    · have hne : ∀ x ∈ ys, x.born ≠ e.born := fun x hx h => hn.1 (List.mem_map.2 ⟨x, hx, by rw [h, hy]⟩)
      have hye : y = e := by
        rcases List.mem_cons.1 he with rfl | he
        · rfl
        · exact absurd rfl (hne e he)
      subst hye
      have h1 : seenE ys (seen.push y.born) = seenE ys seen := by
        unfold seenE
        refine List.filter_congr fun x hx => ?_
        rw [hpush]
        have := hne x hx
        simp [this]
      have h2 : seenE (y :: ys) (seen.push y.born) = y :: seenE ys (seen.push y.born) := by
        unfold seenE
        rw [List.filter_cons_of_pos (by simp)]
      have h3 : seenE (y :: ys) seen = seenE ys seen := by
        unfold seenE
        rw [List.filter_cons_of_neg (by rw [hs]; simp)]
      rw [h2, h3, h1]
      exact (List.perm_append_singleton y _).symm
    · have he : e ∈ ys := by
        rcases List.mem_cons.1 he with rfl | he
        · exact absurd rfl hy
        · exact he
      have ih := seenE_push hs hn.2 he
      have hc : (seen.push e.born).contains y.born = seen.contains y.born := by rw [hpush]; simp [hy]
      unfold seenE at ih ⊢
      rcases hb : seen.contains y.born with _ | _
      · rw [List.filter_cons_of_neg (by rw [hc, hb]; simp), List.filter_cons_of_neg (by rw [hb]; simp)]
        exact ih
      · rw [List.filter_cons_of_pos (by rw [hc, hb]), List.filter_cons_of_pos (by rw [hb])]
        exact ih.cons y
theorem encE_len (x : Ent) : (encE x).length = 2 := rfl
theorem encI_len {E : List Ent} (x : In E) : (encI x).length = 2 := rfl
/-- A row of entries of E, as one of members of E. -/
theorem flatI {E : List Ent} (l : List (In E)) : flatE encI l = flatE encE (l.map (·.1)) := by
  unfold flatE
  rw [List.flatMap_map]
  rfl
noncomputable def inE (E : List Ent) (l : List Ent) (h : ∀ x ∈ l, x ∈ E) : List (In E) := l.attach.map fun x => ⟨x.1, h x.1 x.2⟩
theorem inE_map (E : List Ent) (l : List Ent) (h : ∀ x ∈ l, x ∈ E) : (inE E l h).map (·.1) = l := by
  unfold inE
  rw [List.map_map]
  exact List.attach_map_subtype_val l
theorem own_cases {w : World} {B n k : Nat} {T : TypeId} {v : Value} {xs : List Value} (h : w.ownsRow B T k v n xs) (hn : 0 < n) : ∃ g cap, v = .slice (some ⟨g, 0, none⟩) n cap := by
  obtain ⟨-, ⟨h1, h2⟩ | ⟨g, cap, cur, e, -⟩⟩ := h
  · omega
  · exact ⟨g, cap, e⟩
theorem alloc2_grow (W : World) (a b : Obj) : (W.alloc a).alloc b = grow (W.drewN 0) #[a, b] := by
  unfold grow World.drewN World.alloc
  simp only [Array.push_eq_append, Array.append_assoc]
  rfl
set_option maxHeartbeats 8000000 in
set_option maxRecDepth 1000000 in
theorem list_walk (W0 : World) (d km c : Nat) (es : List MapEntry) (ent : MapEntry → Ent) (hb : W0.cell? ⟨d, 1, none⟩ = some (.map (some km))) (hm : W0.heap[km]? = some (.map es.toArray c))
    (hold : ∀ x ∈ es, x.born < c) (hn : (es.map (·.born)).Nodup) (hbig : es.length ≤ 1000000) (hne : 0 < es.length) (hent : ∀ e ∈ es, e.key = .string (bs (ent e).1) ∧ e.val = .int .i64 (ent e).2 ∧ ∀ x ∈ (ent e).1, x < 256) (hap : Apart (es.map ent)) :
    Calls Tryz.prog 35 #[.pointer (some ⟨d, 0, none⟩)] W0 fun r W' => ∃ v, r = .returned v ∧ W'.ownsRow (W0.heap.size + 1) 116 2 v es.length (flatE encE (sortE (es.map ent))) ∧ Same W0 W' := by
  have hrg := run_range_map (P := Tryz.prog) W0 121 9 3 km es.toArray c Tryz.underlying121 hm
  have eg : ∀ args w, (callFunc 54 args).run Tryz.prog w = .ok (.enter 54 args) w := enters_of Tryz.func54 (by kernel_rfl) rfl
  have EG := Lib.hid eg
  have HENT := Lib.hid hent
  have HAP := Lib.hid hap
  clear eg hent hap
  go_enter Tryz.func35, Tryz.ntmps35
  go_wp2
  go_loopw [3] (fun s w' => Same W0 w' ∧ ∃ seen L, w'.heap[W0.heap.size]? = some (.mapIter (some km) c seen c) ∧ w'.ownsRow (W0.heap.size + 1) 116 2 s L.length (flatE encE L) ∧ L.Perm ((seenE es seen).map ent)) (fun _ w' => left_ w' W0.heap.size es.toArray)
  case atStart =>
    refine ⟨⟨rfl, rfl, rfl, by simp, fun k hk => heap_alloc_old _ _ hk⟩, #[], [], heap_alloc_new _ _, World.ownsRow_nil _ _ _ _, by rw [seenE_none]; exact .refl _⟩
  case round =>
    obtain ⟨hS, seen, L, hit, hown, hperm⟩ := hrel
    obtain ⟨ae, ne, ce, rfl⟩ := ownsForm hown
    have HP := Lib.hid hperm
    clear hperm
    have hlm : km < W0.heap.size := (Array.getElem?_eq_some_iff.1 hm).1
    have hb1 : wr.heap[km]? = some (.map es.toArray c) := (hS.block km hlm).trans hm
    have hsz := hS.size
    have hit' := hit
    have hlt : W0.heap.size < wr.heap.size := (Array.getElem?_eq_some_iff.1 hit).1
    rcases run_next_at (P := Tryz.prog) 0 hit hb1 (by simpa using hold) (Nat.le_refl _) with ⟨h0, w2, hrun, hw2, hs2⟩ | ⟨e, he, w2, hrun, hw2, hs2⟩
    · have hnx : ∀ ty, (Instr.next (.pointer (some ⟨W0.heap.size, 0, none⟩)) false ty).run Tryz.prog wr = _ := fun _ => hrun
      have hx : Same W0 w2 := ⟨hs2.os.trans hS.os, hs2.tape.trans hS.tape, hs2.output.trans hS.output, by rw [hw2]; exact hsz, fun k hk => by rw [hw2]; exact hS.block k hk⟩
      have hu2 : Upd Nothing wr w2 := ⟨hs2.os, hs2.tape, hs2.output, by rw [hw2]; exact Nat.le_refl _, fun k hk _ => by rw [hw2]⟩
      have hown2 := hu2.ownsRow hown (fun _ _ e => e)
      have hpe := HP.out
      rw [seenE_all h0] at hpe
      have hLn : L.length = es.length := by rw [hpe.length_eq, List.length_map]
      obtain ⟨g, cap, q⟩ := own_cases hown2 (by omega)
      rw [q] at hown2
      obtain ⟨rfl, rfl, rfl⟩ : ae = some ⟨g, 0, none⟩ ∧ ne = L.length ∧ ce = cap := by simpa using q
      clear q
      have : Inhabited (In (es.map ent)) := ⟨⟨ent es[0], List.mem_map.2 ⟨_, List.getElem_mem hne, rfl⟩⟩⟩
      have hmem : ∀ x ∈ L, x ∈ es.map ent := fun x hx => hpe.mem_iff.1 hx
      obtain ⟨I, hI⟩ : ∃ I, I = inE (es.map ent) L hmem := ⟨_, rfl⟩
      have hIL : I.map (·.1) = L := by rw [hI]; exact inE_map _ _ _
      have hIn : I.length = L.length := by rw [← hIL, List.length_map]
      have hownI : w2.ownsRow (W0.heap.size + 1) 116 2 (.slice (some ⟨g, 0, none⟩) L.length ce) L.length (flatE encI I) := by rw [flatI, hIL]; exact hown2
      obtain ⟨hh, hlt2⟩ := own_holdsE encI_len hownI hIn
      have hcon : Calls Tryz.prog 53 #[.slice (some ⟨g, 0, none⟩) I.length ce, .func (.func 54) #[] #[]] w2 fun e w' => e = .returned (.tuple #[]) ∧ ∃ n os, w' = sortWorldK encI 2 w2 g 0 n (I.mergeSort fun x y => !(ltOf cmpI) y x).toArray os :=
        AnyQ.slices_SortFunc_total (P := Tryz.prog) (ρ := Tryz.sortEnt_ren) Tryz.sortEnt 2 Tryz.isAgg116 Tryz.sizeOf116 encI encI_len (fun x u hu => by unfold encI encE at hu; simp at hu; rcases hu with rfl | rfl <;> rfl) cmpI (swoI _) 54 #[] g 0 ce I.toArray w2 EG.out (fun m os dk _ x y => by
          obtain ⟨e1, m1, q1⟩ := List.mem_map.1 x.2
          obtain ⟨e2, m2, q2⟩ := List.mem_map.1 y.2
          have b1 := (HENT.out e1 m1).2.2
          have b2 := (HENT.out e2 m2).2.2
          rw [q1] at b1
          rw [q2] at b2
          refine (less_any b1 b2 x.1.2 y.1.2 _).mono fun _ w' => ?_
          rintro ⟨rfl, rfl⟩
          exact ⟨rfl, 0, _, alloc2_grow _ _ _⟩) hh hlt2 (by simp; omega) (totI HAP.out)
      have hpI : (I.map (·.1)).Perm (es.map ent) := by rw [hIL]; exact hpe
      have hms := merge_sortE HAP.out I hpI
      rw [hIn] at hcon
      have HCON := Lib.hid hcon
      have HOWN2 := Lib.hid hownI
      have HX2 := Lib.hid hx
      have HMS := Lib.hid hms
      have HLN := Lib.hid hLn
      have HIN := Lib.hid hIn
      obtain ⟨n3, hn3⟩ : ∃ n, n = L.length := ⟨_, rfl⟩
      rw [← hn3] at HCON HOWN2 HLN HIN ⊢
      clear hn3 hit hit' hrun hx hown2 hown hu2 hw2 hs2 hcon hownI hms hLn hIn hpI hpe hmem hI hIL hh hlt2
      go_wp2_with (go_at_call 53; fail)
      refine HCON.out.mono ?_
      rintro e w5 ⟨rfl, m, os, hw5⟩
      have ho := own_sortedE (m := m) (os := os) (ys := I.mergeSort fun x y => !(ltOf cmpI) y x) encI_len HOWN2.out (by rw [List.length_mergeSort]; exact HIN.out)
      rw [← hw5, flatI, HMS.out, HLN.out] at ho
      have hx5 : Same W0 w5 := ⟨ho.2.os.trans HX2.out.os, ho.2.tape.trans HX2.out.tape, ho.2.output.trans HX2.out.output, Nat.le_trans HX2.out.size ho.2.size, fun k hk => by
        have q := HX2.out.size
        refine (ho.2.block k (by omega) (fun e => ?_)).trans (HX2.out.block k hk)
        obtain ⟨-, ⟨q1, -⟩ | ⟨g', cap', cur, e1, hB', -⟩⟩ := HOWN2.out
        · cases q1
        · cases e1; unfold At at e; omega⟩
      have HO5 := Lib.hid ho.1
      have HX5 := Lib.hid hx5
      rw [HLN.out]
      clear ho hw5 hx5
      go_wp2
      go_ret
      exact ⟨_, rfl, HO5.out, HX5.out⟩
    · have hnx : ∀ ty, (Instr.next (.pointer (some ⟨W0.heap.size, 0, none⟩)) false ty).run Tryz.prog wr = _ := fun _ => hrun
      obtain ⟨hee, hns⟩ := mem_left he
      have hee : e ∈ es := by simpa using hee
      have hit2 : w2.heap[W0.heap.size]? = some (.mapIter (some km) c (seen.push e.born) c) := by rw [hw2]; simp [hlt]
      have hx2 : Same W0 w2 := ⟨hs2.os.trans hS.os, hs2.tape.trans hS.tape, hs2.output.trans hS.output, by rw [hw2]; simpa using hsz, fun k hk => by rw [hw2, Array.getElem?_setIfInBounds_ne (by omega)]; exact hS.block k hk⟩
      have hb2 : w2.heap[km]? = some (.map es.toArray c) := (hx2.block km hlm).trans hm
      have hen := run_entry_at (P := Tryz.prog) hit2 hb2 (by simpa using hee) (by simpa using hn)
      have hu2 : Upd (At W0.heap.size) wr w2 := ⟨hs2.os, hs2.tape, hs2.output, by rw [hw2]; simp, fun k hk hne => by rw [hw2, Array.getElem?_setIfInBounds_ne (fun e => hne e.symm)]⟩
      have hB : ∀ k, (Value.slice ae ne ce).ownBlock = some k → W0.heap.size + 1 ≤ k := fun k hk => by
        rcases hown.2 with ⟨q, _⟩ | ⟨g, cap, cur, q, hg, _⟩
        · rw [q] at hk; simp [Value.ownBlock] at hk
        · rw [q] at hk; simp only [Value.ownBlock, Option.some.injEq] at hk; omega
      have hown2 := hu2.ownsRow hown (fun k hk e => by have := hB k hk; unfold At at e; omega)
      obtain ⟨hk1, hk2, -⟩ := HENT.out e hee
      have hpu := (seenE_push hns hn hee).map ent
      have hlen : L.length ≤ es.length := by
        rw [HP.out.length_eq, List.length_map]
        exact List.length_filter_le _ _
      have hle : left_ w2 W0.heap.size es.toArray < left_ wr W0.heap.size es.toArray := by
        rw [left_eq hit2, left_eq hit']
        exact left_shrinks _ _ _ he
      rw [hk1, hk2] at hen hrun
      have HPU := Lib.hid hpu
      have HLE := Lib.hid hle
      have HX2 := Lib.hid hx2
      have HIT2 := Lib.hid hit2
      have HOWN2 := Lib.hid hown2
      have HB := Lib.hid hB
      clear hit hit' hrun hpu hle hx2 hown2 hB hu2 hown hw2 hs2 hk1 hk2
      go_wp2_with (at_builtin; go_must (refine wpList_append_row rfl _ _ _ rfl Tryz.entT rfl (HOWN2.out.alloc _) rfl (row_new _ _ _ 1 _ (by decide) (by simp)) rfl (by intro u hu; simp at hu; rcases hu with rfl | rfl <;> rfl) ?c3 ?c4 ?c5 ?_))
      case c3 => unfold maxLen; omega
      case c4 => omega
      case c5 => have := HX2.out.size; have := lt_of_heap HIT2.out; simp; omega
      intro v' w6 hown6 hg _
      have hx6 : Same W0 w6 := ⟨hg.os.trans HX2.out.os, hg.tape.trans HX2.out.tape, hg.output.trans HX2.out.output, by have := hg.size; have := HX2.out.size; simp at *; omega, fun k hk => by
        have q := hg.block k (by have := HX2.out.size; simp; omega) (fun e => by have := HB.out k e.symm; omega)
        exact q.trans ((heap_alloc_old _ _ (Nat.lt_of_lt_of_le hk HX2.out.size)).trans (HX2.out.block k hk))⟩
      have hit6 : w6.heap[W0.heap.size]? = some (.mapIter (some km) c (seen.push e.born) c) := by
        have q := hg.block W0.heap.size (by have := lt_of_heap HIT2.out; simp; omega) (fun e => by have := HB.out _ e.symm; omega)
        exact q.trans ((heap_alloc_old _ _ (lt_of_heap HIT2.out)).trans HIT2.out)
      have HX6 := Lib.hid hx6
      have HIT6 := Lib.hid hit6
      have HOWN6 := Lib.hid hown6
      clear hg hx6 hit6 hown6
      go_wp2
      go_roundw
      case rel =>
        refine ⟨HX6.out, seen.push e.born, L ++ [ent e], HIT6.out, ?_, ?_⟩
        · rw [List.length_append, flatE_append, flatE_one]
          exact HOWN6.out
        · refine List.Perm.trans ?_ HPU.out.symm
          rw [List.map_append]
          exact HP.out.append_right _
      case measure =>
        rw [left_eq HIT6.out, ← left_eq HIT2.out]
        exact HLE.out
end Go.Proofs.YtcfmohjffnpfpaaGreatDoor.Ev
