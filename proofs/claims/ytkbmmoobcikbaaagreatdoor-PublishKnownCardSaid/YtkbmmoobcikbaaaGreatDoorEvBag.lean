/-
  A RECKONER OF CLOSED CALLS: a row of pairs of which the order is not known: (*folder.Folder).Power's range over a map, and (*inode.Table).Fail's look for a file's names, by hand. Conditions: the stamps are elder than the range, no two alike; numbers apart; at most a million.
-/
import Derived.Test.YtkbmmoobcikbaaaGreatDoorGEH
import Derived.Test.YtkbmmoobcikbaaaGreatDoorGEG
namespace Go.Proofs.YtkbmmoobcikbaaaGreatDoor.Ev
open Go Go.Proofs.YtkbmmoobcikbaaaGreatDoor Go.RowKit

theorem Tryz.namesT : SliceT Tryz.prog 154 156 2 16 := sliceT_of Tryz.underlying154 (by kernel_rfl) (by decide)
/-- A piece by hand at a place. -/
noncomputable def ovAt (f : RF) : List Dir → Ov
  | [] => .here f
  | .l :: p => .two (ovAt f p) .no
  | .r :: p => .two .no (ovAt f p)
theorem ovAt_ok {P : Program} {T : Tb} {N : Nat} {call : CallF} {f : RF} : ∀ (p : List Dir) (c : Code), EvOkF P T N (cAt p c) (f call) → OvOk P T N call (ovAt f p) c
  | [], _, h => h
  | .l :: p, .seq x _, h => ⟨ovAt_ok p x h, trivial⟩
  | .r :: p, .seq _ y, h => ⟨trivial, ovAt_ok p y h⟩
  | .l :: p, .cond _ x _, h => ⟨ovAt_ok p x h, trivial⟩
  | .r :: p, .cond _ _ y, h => ⟨trivial, ovAt_ok p y h⟩
  | .l :: p, .block _ x, h => ovAt_ok p x h
  | .r :: _, .block _ _, _ => trivial
  | .l :: p, .loop x, h => ovAt_ok p x h
  | .r :: _, .loop _, _ => trivial
  | .l :: p, .scope x, h => ovAt_ok p x h
  | .r :: _, .scope _, _ => trivial
  | .l :: _, .skip, _ => trivial
  | .r :: _, .skip, _ => trivial
  | .l :: _, .label _, _ => trivial
  | .r :: _, .label _, _ => trivial
  | .l :: _, .region _ _ _, _ => trivial
  | .r :: _, .region _ _ _, _ => trivial
  | .l :: _, .exit _, _ => trivial
  | .r :: _, .exit _, _ => trivial
  | .l :: _, .ret, _ => trivial
  | .r :: _, .ret, _ => trivial
  | .l :: _, .goto _, _ => trivial
  | .r :: _, .goto _, _ => trivial
  | .l :: _, .refuse _, _ => trivial
  | .r :: _, .refuse _, _ => trivial
  | .l :: _, .rangeFunc _ _ _ _, _ => trivial
  | .r :: _, .rangeFunc _ _ _ _, _ => trivial
theorem consOf {n : Nat} {l : List Value} (h : l.length = n + 1) : ∃ x r, l = x :: r ∧ r.length = n := by
  cases l with
  | nil => cases h
  | cons x r => exact ⟨x, r, rfl, by simpa using h⟩
theorem keepF_in {F : Fr} : ∀ {ss : List Nat} {G : Fr} {i : Nat} {v : AV}, getI (keepF F ss G) i = some v → i ∈ ss ∨ getI G i = some v
  | [], G, i, v, h => .inr h
  | s :: r, G, i, v, h => by
    unfold keepF at h
    split at h
    · rename_i u hs hu
      rcases keepF_in h with h | h
      · exact .inl (by simp [h])
      · rcases getI_setI (by simpa [Nat.blt_eq] using hs) h with ⟨rfl, rfl⟩ | ⟨-, e⟩
        · exact .inl (by simp)
        · exact .inr e
    · rcases keepF_in h with h | h
      · exact .inl (by simp [h])
      · exact .inr h
theorem fr0_no {F : Fr} : ∀ i v, getI fr0 i = some v → getI F i = some v := fun _ _ e => fr0_get e
/-- A map's pairs of numbers. -/
noncomputable def pairsOf : List (AV × AV × Nat) → Option (List (Int × Int))
  | [] => some []
  | (.int .i64 k, .int .i64 n, _) :: r => match pairsOf r with
    | some l => some ((k, n) :: l)
    | none => none
  | _ => none
def encP (x : Int × Int) : List Value := [.int .i64 x.1, .int .i64 x.2]
theorem flatE_P (l : List (Int × Int)) : flatE encP l = flatP l := rfl
theorem pairsOf_ok {l : Env} : ∀ {es : List (AV × AV × Nat)} {xs : List MapEntry} {E : List (Int × Int)}, ERs l es xs → (xs.map (·.born)).Nodup → pairsOf es = some E → ∃ ent : MapEntry → Int × Int, xs.map ent = E ∧ ∀ e ∈ xs, e.key = .int .i64 (ent e).1 ∧ e.val = .int .i64 (ent e).2
  | _, _, _, .nil, _, h => by cases h; exact ⟨fun _ => (0, 0), rfl, fun e he => by cases he⟩
  | _, _, _, .cons (n := st) (a' := xs) h1 h2 h3, hn, h => by
    unfold pairsOf at h
    split at h
    · rename_i hh; cases hh
    · rename_i s n st' r hh
      cases hh
      split at h
      · rename_i E' hE
        cases h
        simp only [List.map_cons, List.nodup_cons] at hn
        obtain ⟨ent, g1, g2⟩ := pairsOf_ok h3 hn.2 hE
        cases h1
        cases h2
        have hne : ∀ e ∈ xs, e.born ≠ st := fun e he hb => hn.1 (List.mem_map.2 ⟨e, he, hb⟩)
        refine ⟨fun e => if e.born = st then (s, n) else ent e, ?_, fun e he => ?_⟩
        · have : xs.map (fun e => if e.born = st then (s, n) else ent e) = xs.map ent := List.map_congr_left fun e he => by
            rw [if_neg (hne e he)]
          simp only [List.map_cons, this, if_true, g1]
        · rcases List.mem_cons.1 he with rfl | he
          · simp
          · simp only [if_neg (hne e he)]
            exact g2 e he
      · cases h
    · cases h
/-! Power's range -/
noncomputable def rfB : RF := fun _ F H => match getI F 6, getI F 9 with
  | some (.map (some m)), some .nils => match H.get m with
    | some (.map es c) => match stampsOk es c, pairsOf es with
      | true, some ps => match Nat.ble ps.length 1000000, ps with
        | true, [] => .ok .normal (setI (keepF F [0, 1, 2] fr0) 9 .nils) H
        | true, p :: r => .ok .normal (setI (keepF F [0, 1, 2] fr0) 9 (.slo H.nx 0 (p :: r).length 0)) (H.new (.bag 156 (p :: r)))
        | _, _ => .bad
      | _, _ => .bad
    | _ => .bad
  | _, _ => .bad
set_option maxHeartbeats 8000000 in
set_option maxRecDepth 1000000 in
theorem rangeB_walk {Q : Exit → Act → World → Prop} (W0 : World) (c : Nat) (km : Nat) (es : List MapEntry) (ent : MapEntry → Int × Int) (Ds : List Deferred) (x0 x1 x2 x3 x4 x5 x7 x8 x10 x11 x12 x13 x14 x15 x16 x17 x18 x19 x20 x21 x22 x23 x24 x25 x26 x27 x28 x29 x30 x31 x32 x33 x34 x35 x36 x37 x38 x39 x40 x41 x42 x43 x44 x45 x46 x47 x48 x49 x50 x51 x52 x53 x54 x55 x56 x57 x58 x59 x60 x61 x62 : Value) (hm : W0.heap[km]? = some (.map es.toArray c))
    (hold : ∀ x ∈ es, x.born < c) (hn : (es.map (·.born)).Nodup) (hbig : es.length ≤ 1000000) (hent : ∀ e ∈ es, e.key = .int .i64 (ent e).1 ∧ e.val = .int .i64 (ent e).2)
    (hQ : ∀ (v y10 y11 y39 y40 y41 y42 y43 y44 y45 y46 y47 y48 y49 y50 y51 : Value) (L : List (Int × Int)) (w' : World), w'.ownsRow (W0.heap.size + 1) 156 2 v L.length (flatE encP L) → L.Perm (es.map ent) → (L = [] → v = .slice none 0 0) → Same W0 w' → Q .normal { tmps := #[x0, x1, x2, x3, x4, x5, .map (some km), x7, x8, v, y10, y11, x12, x13, x14, x15, x16, x17, x18, x19, x20, x21, x22, x23, x24, x25, x26, x27, x28, x29, x30, x31, x32, x33, x34, x35, x36, x37, x38, y39, y40, y41, y42, y43, y44, y45, y46, y47, y48, y49, y50, y51, x52, x53, x54, x55, x56, x57, x58, x59, x60, x61, x62], defers := Ds } w') :
    (cAt [.r, .r, .r, .r, .r, .l] (Tryz.f41.body.getD .skip)).wp Tryz.prog Q { tmps := #[x0, x1, x2, x3, x4, x5, .map (some km), x7, x8, .slice none 0 0, x10, x11, x12, x13, x14, x15, x16, x17, x18, x19, x20, x21, x22, x23, x24, x25, x26, x27, x28, x29, x30, x31, x32, x33, x34, x35, x36, x37, x38, x39, x40, x41, x42, x43, x44, x45, x46, x47, x48, x49, x50, x51, x52, x53, x54, x55, x56, x57, x58, x59, x60, x61, x62], defers := Ds } W0 := by
  have hrg := run_range_map (P := Tryz.prog) W0 153 3 3 km es.toArray c Tryz.underlying153 hm
  have HENT := Lib.hid hent
  have HQ := Lib.hid hQ
  clear hent hQ
  unfold Tryz.f41
  dsimp only [cAt, Option.getD_some]
  go_wp2
  go_loopw [9] (fun s w' => Same W0 w' ∧ ∃ seen L, w'.heap[W0.heap.size]? = some (.mapIter (some km) c seen c) ∧ w'.ownsRow (W0.heap.size + 1) 156 2 s L.length (flatE encP L) ∧ L.Perm ((seenE es seen).map ent) ∧ (L = [] → s = .slice none 0 0)) (fun _ w' => left_ w' W0.heap.size es.toArray)
  case atStart =>
    refine ⟨⟨rfl, rfl, rfl, by simp, fun k hk => heap_alloc_old _ _ hk⟩, #[], [], heap_alloc_new _ _, World.ownsRow_nil _ _ _ _, by rw [seenE_none]; exact .refl _, fun _ => rfl⟩
  case round =>
    obtain ⟨hS, seen, L, hit, hown, hperm, hnil⟩ := hrel
    obtain ⟨ae, ne, ce, rfl⟩ := ownsForm hown
    have HP := Lib.hid hperm
    have HNIL := Lib.hid hnil
    clear hperm hnil
    have hlm : km < W0.heap.size := (Array.getElem?_eq_some_iff.1 hm).1
    have hb1 : wr.heap[km]? = some (.map es.toArray c) := (hS.block km hlm).trans hm
    have hsz := hS.size
    have hit' := hit
    have hlt : W0.heap.size < wr.heap.size := (Array.getElem?_eq_some_iff.1 hit).1
    rcases run_next_at (P := Tryz.prog) 0 hit hb1 (by simpa using hold) (Nat.le_refl _) with ⟨h0, w2, hrun, hw2, hs2⟩ | ⟨e, he, w2, hrun, hw2, hs2⟩
    · have hnx : ∀ ty, (Instr.next (.pointer (some ⟨W0.heap.size, 0, none⟩)) false ty).run Tryz.prog wr = _ := fun _ => hrun
      have hx : Same W0 w2 := ⟨hs2.os.trans hS.os, hs2.tape.trans hS.tape, hs2.output.trans hS.output, by rw [hw2]; exact hsz, fun k hk => by rw [hw2]; exact hS.block k hk⟩
      have hu2 : Upd Nothing wr w2 := ⟨hs2.os, hs2.tape, hs2.output, by rw [hw2]; exact Nat.le_refl _, fun k hk _ => by rw [hw2]⟩
      have hown2 := hu2.ownsRow hown (fun _ _ e => e)
      have hpe := HP.out
      rw [seenE_all h0] at hpe
      have HOWN2 := Lib.hid hown2
      have HPE := Lib.hid hpe
      have HX2 := Lib.hid hx
      clear hit hit' hrun hown2 hown hu2 hw2 hs2 hpe hx
      go_wp2
      exact HQ.out _ _ _ _ _ _ _ _ _ _ _ _ _ _ _ _ L w2 HOWN2.out HPE.out HNIL.out HX2.out
    · have hnx : ∀ ty, (Instr.next (.pointer (some ⟨W0.heap.size, 0, none⟩)) false ty).run Tryz.prog wr = _ := fun _ => hrun
      obtain ⟨hee, hns⟩ := mem_left he
      have hee : e ∈ es := by simpa using hee
      have hit2 : w2.heap[W0.heap.size]? = some (.mapIter (some km) c (seen.push e.born) c) := by rw [hw2]; simp [hlt]
      have hx2 : Same W0 w2 := ⟨hs2.os.trans hS.os, hs2.tape.trans hS.tape, hs2.output.trans hS.output, by rw [hw2]; simpa using hsz, fun k hk => by rw [hw2, Array.getElem?_setIfInBounds_ne (by omega)]; exact hS.block k hk⟩
      have hb2 : w2.heap[km]? = some (.map es.toArray c) := (hx2.block km hlm).trans hm
      have hen := run_entry_at (P := Tryz.prog) hit2 hb2 (by simpa using hee) (by simpa using hn)
      have hu2 : Upd (At W0.heap.size) wr w2 := ⟨hs2.os, hs2.tape, hs2.output, by rw [hw2]; simp, fun k hk hne => by rw [hw2, Array.getElem?_setIfInBounds_ne (fun e => hne e.symm)]⟩
      have hB : ∀ k, (Value.slice ae ne ce).ownBlock = some k → W0.heap.size + 1 ≤ k := fun k hk => by
        rcases hown.2 with ⟨q, _⟩ | ⟨g, cap, cur, q, hg, _⟩
        · rw [q] at hk; simp [Value.ownBlock] at hk
        · rw [q] at hk; simp only [Value.ownBlock, Option.some.injEq] at hk; omega
      have hown2 := hu2.ownsRow hown (fun k hk e => by have := hB k hk; unfold At at e; omega)
      obtain ⟨hk1, hk2⟩ := HENT.out e hee
      have hpu := (seenE_push hns hn hee).map ent
      have hlen : L.length ≤ es.length := by
        rw [HP.out.length_eq, List.length_map]
        exact List.length_filter_le _ _
      have hle : left_ w2 W0.heap.size es.toArray < left_ wr W0.heap.size es.toArray := by
        rw [left_eq hit2, left_eq hit']
        exact left_shrinks _ _ _ he
      rw [hk1, hk2] at hen hrun
      have HPU := Lib.hid hpu
      have HLE := Lib.hid hle
      have HX2 := Lib.hid hx2
      have HIT2 := Lib.hid hit2
      have HOWN2 := Lib.hid hown2
      have HB := Lib.hid hB
      clear hit hit' hrun hpu hle hx2 hown2 hB hu2 hown hw2 hs2 hk1 hk2
      go_wp2_with (at_builtin; go_must (refine wpList_append_row rfl _ _ _ rfl Tryz.namesT rfl (HOWN2.out.alloc _) rfl (row_new _ _ _ 1 _ (by decide) (by simp)) rfl (by intro u hu; simp at hu; rcases hu with rfl | rfl <;> rfl) ?c3 ?c4 ?c5 ?_))
      case c3 => unfold maxLen; omega
      case c4 => omega
      case c5 => have := HX2.out.size; have := lt_of_heap HIT2.out; simp; omega
      intro v' w6 hown6 hg _
      have hx6 : Same W0 w6 := ⟨hg.os.trans HX2.out.os, hg.tape.trans HX2.out.tape, hg.output.trans HX2.out.output, by have := hg.size; have := HX2.out.size; simp at *; omega, fun k hk => by
        have q := hg.block k (by have := HX2.out.size; simp; omega) (fun e => by have := HB.out k e.symm; omega)
        exact q.trans ((heap_alloc_old _ _ (Nat.lt_of_lt_of_le hk HX2.out.size)).trans (HX2.out.block k hk))⟩
      have hit6 : w6.heap[W0.heap.size]? = some (.mapIter (some km) c (seen.push e.born) c) := by
        have q := hg.block W0.heap.size (by have := lt_of_heap HIT2.out; simp; omega) (fun e => by have := HB.out _ e.symm; omega)
        exact q.trans ((heap_alloc_old _ _ (lt_of_heap HIT2.out)).trans HIT2.out)
      have HX6 := Lib.hid hx6
      have HIT6 := Lib.hid hit6
      have HOWN6 := Lib.hid hown6
      clear hg hx6 hit6 hown6
      go_wp2
      go_roundw
      case rel =>
        refine ⟨HX6.out, seen.push e.born, L ++ [ent e], HIT6.out, ?_, ?_, fun h => absurd h (by simp)⟩
        · rw [List.length_append, flatE_append, flatE_one]
          exact HOWN6.out
        · refine List.Perm.trans ?_ HPU.out.symm
          rw [List.map_append]
          exact HP.out.append_right _
      case measure =>
        rw [left_eq HIT6.out, ← left_eq HIT2.out]
        exact HLE.out
theorem rfB_ok {T : Tb} {call : CallF} (hsz : T.sz 156 = 2) : EvOkF Tryz.prog T 63 (cAt [.r, .r, .r, .r, .r, .l] (Tryz.f41.body.getD .skip)) (rfB call) := by
  intro F H ex F' H' h B Ds l a w Q hf hr hm hQ
  unfold rfB at h
  split at h
  case h_2 => cases h
  rename_i m h6 h9
  split at h
  case h_2 => cases h
  rename_i es c hmap
  split at h
  case h_2 => cases h
  rename_i ps hst hps
  obtain ⟨u6, g6, v6⟩ := hf.get 6 _ h6
  cases v6 with | map hl => ?_
  obtain ⟨u9, g9, v9⟩ := hf.get 9 _ h9
  cases v9
  obtain ⟨km, κm, ms, f1, f2, f3⟩ := hr.map2 hmap
  rw [hl] at f1
  cases f1
  obtain ⟨q1, q2⟩ := stampsOk_ok f3 hst
  obtain ⟨ent, r1, r2⟩ := pairsOf_ok f3 q2 hps
  have hlen : ms.length = ps.length := by rw [← r1, List.length_map]
  have hbig : ms.length ≤ 1000000 := by
    split at h
    · rename_i hb; rw [hlen]; exact Nat.le_of_ble_eq_true hb
    · rename_i hb; rw [hlen]; exact Nat.le_of_ble_eq_true hb
    · cases h
  obtain ⟨tm, ds⟩ := a
  obtain ⟨X⟩ := tm
  have hz0 : X.length = 63 := by simpa using hf.size
  obtain rfl : ds = Ds := hf.defers
  obtain ⟨x0, L1, rfl, hz1⟩ := consOf hz0
  obtain ⟨x1, L2, rfl, hz2⟩ := consOf hz1
  obtain ⟨x2, L3, rfl, hz3⟩ := consOf hz2
  obtain ⟨x3, L4, rfl, hz4⟩ := consOf hz3
  obtain ⟨x4, L5, rfl, hz5⟩ := consOf hz4
  obtain ⟨x5, L6, rfl, hz6⟩ := consOf hz5
  obtain ⟨x6, L7, rfl, hz7⟩ := consOf hz6
  obtain ⟨x7, L8, rfl, hz8⟩ := consOf hz7
  obtain ⟨x8, L9, rfl, hz9⟩ := consOf hz8
  obtain ⟨x9, L10, rfl, hz10⟩ := consOf hz9
  obtain ⟨x10, L11, rfl, hz11⟩ := consOf hz10
  obtain ⟨x11, L12, rfl, hz12⟩ := consOf hz11
  obtain ⟨x12, L13, rfl, hz13⟩ := consOf hz12
  obtain ⟨x13, L14, rfl, hz14⟩ := consOf hz13
  obtain ⟨x14, L15, rfl, hz15⟩ := consOf hz14
  obtain ⟨x15, L16, rfl, hz16⟩ := consOf hz15
  obtain ⟨x16, L17, rfl, hz17⟩ := consOf hz16
  obtain ⟨x17, L18, rfl, hz18⟩ := consOf hz17
  obtain ⟨x18, L19, rfl, hz19⟩ := consOf hz18
  obtain ⟨x19, L20, rfl, hz20⟩ := consOf hz19
  obtain ⟨x20, L21, rfl, hz21⟩ := consOf hz20
  obtain ⟨x21, L22, rfl, hz22⟩ := consOf hz21
  obtain ⟨x22, L23, rfl, hz23⟩ := consOf hz22
  obtain ⟨x23, L24, rfl, hz24⟩ := consOf hz23
  obtain ⟨x24, L25, rfl, hz25⟩ := consOf hz24
  obtain ⟨x25, L26, rfl, hz26⟩ := consOf hz25
  obtain ⟨x26, L27, rfl, hz27⟩ := consOf hz26
  obtain ⟨x27, L28, rfl, hz28⟩ := consOf hz27
  obtain ⟨x28, L29, rfl, hz29⟩ := consOf hz28
  obtain ⟨x29, L30, rfl, hz30⟩ := consOf hz29
  obtain ⟨x30, L31, rfl, hz31⟩ := consOf hz30
  obtain ⟨x31, L32, rfl, hz32⟩ := consOf hz31
  obtain ⟨x32, L33, rfl, hz33⟩ := consOf hz32
  obtain ⟨x33, L34, rfl, hz34⟩ := consOf hz33
  obtain ⟨x34, L35, rfl, hz35⟩ := consOf hz34
  obtain ⟨x35, L36, rfl, hz36⟩ := consOf hz35
  obtain ⟨x36, L37, rfl, hz37⟩ := consOf hz36
  obtain ⟨x37, L38, rfl, hz38⟩ := consOf hz37
  obtain ⟨x38, L39, rfl, hz39⟩ := consOf hz38
  obtain ⟨x39, L40, rfl, hz40⟩ := consOf hz39
  obtain ⟨x40, L41, rfl, hz41⟩ := consOf hz40
  obtain ⟨x41, L42, rfl, hz42⟩ := consOf hz41
  obtain ⟨x42, L43, rfl, hz43⟩ := consOf hz42
  obtain ⟨x43, L44, rfl, hz44⟩ := consOf hz43
  obtain ⟨x44, L45, rfl, hz45⟩ := consOf hz44
  obtain ⟨x45, L46, rfl, hz46⟩ := consOf hz45
  obtain ⟨x46, L47, rfl, hz47⟩ := consOf hz46
  obtain ⟨x47, L48, rfl, hz48⟩ := consOf hz47
  obtain ⟨x48, L49, rfl, hz49⟩ := consOf hz48
  obtain ⟨x49, L50, rfl, hz50⟩ := consOf hz49
  obtain ⟨x50, L51, rfl, hz51⟩ := consOf hz50
  obtain ⟨x51, L52, rfl, hz52⟩ := consOf hz51
  obtain ⟨x52, L53, rfl, hz53⟩ := consOf hz52
  obtain ⟨x53, L54, rfl, hz54⟩ := consOf hz53
  obtain ⟨x54, L55, rfl, hz55⟩ := consOf hz54
  obtain ⟨x55, L56, rfl, hz56⟩ := consOf hz55
  obtain ⟨x56, L57, rfl, hz57⟩ := consOf hz56
  obtain ⟨x57, L58, rfl, hz58⟩ := consOf hz57
  obtain ⟨x58, L59, rfl, hz59⟩ := consOf hz58
  obtain ⟨x59, L60, rfl, hz60⟩ := consOf hz59
  obtain ⟨x60, L61, rfl, hz61⟩ := consOf hz60
  obtain ⟨x61, L62, rfl, hz62⟩ := consOf hz61
  obtain ⟨x62, L63, rfl, hz63⟩ := consOf hz62
  obtain rfl : L63 = [] := List.eq_nil_of_length_eq_zero hz63
  have fr : ∀ (v y10 y11 y39 y40 y41 y42 y43 y44 y45 y46 y47 y48 y49 y50 y51 : Value) (l' : Env) (u : AV), l.le l' → VR l' u v → FRF 63 ds l' (setI (keepF F [0, 1, 2] fr0) 9 u) { tmps := #[x0, x1, x2, x3, x4, x5, x6, x7, x8, v, y10, y11, x12, x13, x14, x15, x16, x17, x18, x19, x20, x21, x22, x23, x24, x25, x26, x27, x28, x29, x30, x31, x32, x33, x34, x35, x36, x37, x38, y39, y40, y41, y42, y43, y44, y45, y46, y47, y48, y49, y50, y51, x52, x53, x54, x55, x56, x57, x58, x59, x60, x61, x62], defers := ds } := fun v y10 y11 y39 y40 y41 y42 y43 y44 y45 y46 y47 y48 y49 y50 y51 l' u hle hu => ⟨by simp, fun i x e => by
    rcases getI_setI (by decide) e with ⟨rfl, rfl⟩ | ⟨-, e⟩
    · exact ⟨_, by simp, hu⟩
    · rcases keepF_in e with h | h
      · simp only [List.mem_cons, List.not_mem_nil, or_false] at h
        obtain ⟨y, q1, q2⟩ := hf.get i x (keepF_get fr0_no e)
        rcases h with rfl | rfl | rfl <;> exact ⟨y, by simpa using q1, q2.mono hle⟩
      · exact fr0_get h, rfl, fun g hg => hle _ _ (hf.glob g hg)⟩
  obtain rfl : x6 = _ := by simpa using g6
  obtain rfl : x9 = _ := by simpa using g9
  refine CSem.of_wp (rangeB_walk w c _ ms ent ds x0 x1 x2 x3 x4 x5 x7 x8 x10 x11 x12 x13 x14 x15 x16 x17 x18 x19 x20 x21 x22 x23 x24 x25 x26 x27 x28 x29 x30 x31 x32 x33 x34 x35 x36 x37 x38 x39 x40 x41 x42 x43 x44 x45 x46 x47 x48 x49 x50 x51 x52 x53 x54 x55 x56 x57 x58 x59 x60 x61 x62 f2 q1 q2 hbig r2 ?_)
  intro v y10 y11 y39 y40 y41 y42 y43 y44 y45 y46 y47 y48 y49 y50 y51 L w' hown hperm hnil hS
  rw [r1] at hperm
  split at h
  · rename_i hb
    cases h
    obtain rfl : L = [] := by simpa using hperm
    obtain rfl := hnil rfl
    have hk : Kp T.sz T.lo l H w l H w' := Kp.same hr hS
    exact hQ _ _ _ _ (fr _ _ _ _ _ _ _ _ _ _ _ _ _ _ _ _ l .nils (.refl _) .nils) hk (hm.kp hr hk)
  · rename_i p r hb
    cases h
    have hLn : L.length = (p :: r).length := hperm.length_eq
    have hpos : 0 < L.length := by rw [hLn]; exact Nat.succ_pos _
    obtain ⟨g, cap, rfl⟩ := own_cases hown hpos
    obtain ⟨h9', ⟨h2, -⟩ | ⟨g', cap', cur, e9, hB, hg, hn, hcp, hs, ht⟩⟩ := hown
    · cases h2
    cases e9
    have hcur : cur = (flatP L ++ cur.toList.drop (L.length * 2)).toArray := by
      rw [← flatE_P, ← ht, List.take_append_drop]
    have hk : Kp T.sz T.lo l H w (l.upd H.nx (g, cap)) (H.new (.bag 156 (p :: r))) w' :=
      Kp.bornAt hr g cap (by omega) (.bag (rest := cur.toList.drop (L.length * 2)) hperm (by rw [hsz, ← flatE_P, ← ht, List.take_append_drop]; simpa using hs) (.inl rfl)) hS.size (by rw [← hcur]; exact hg) hS.block hS.os hS.tape hS.output
    refine hQ _ _ _ _ (fr _ _ _ _ _ _ _ _ _ _ _ _ _ _ _ _ (l.upd H.nx (g, cap)) _ hk.le ?_) hk (hm.kp hr hk)
    have := VR.slo (d := 0) (l := l.upd H.nx (g, cap)) 0 L.length (Env.upd_at _ _ _) (by omega)
    rw [hLn] at this ⊢
    exact this
  · cases h
end Go.Proofs.YtkbmmoobcikbaaaGreatDoor.Ev
