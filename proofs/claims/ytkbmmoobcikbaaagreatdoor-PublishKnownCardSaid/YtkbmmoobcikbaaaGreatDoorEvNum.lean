/-
  A RECKONER OF CLOSED CALLS: (*inode.Table).numbers by hand: a map's numbers, in order. Conditions: the stamps are elder than the range, no two alike; numbers told apart, from 0 on; at most a million.
-/
import Derived.Test.YtkbmmoobcikbaaaGreatDoorEvLook
import Derived.Test.YtkbmmoobcikbaaaGreatDoorKeys
namespace Go.Proofs.YtkbmmoobcikbaaaGreatDoor.Ev
open Go Go.Proofs.YtkbmmoobcikbaaaGreatDoor Go.RowKit Go.Maps Go.Sort Go.Shelf

/-- slices.Sort's two contracts at this dump, at the fence that asks nothing. -/
theorem Tryz.sortsI (m : Nat) : AnyZI.SortsIn Tryz.prog Tryz.sortedI_ren Fence.wide m :=
  ⟨fun blk off cap ss W hH hblk hsz => callsIn_wide.2 (AnyM.slices_Sort_int Tryz.sortI blk off cap ss W hH hblk hsz),
   fun p cap W => callsIn_wide.2 (AnyM.slices_Sort_int_none Tryz.sortI p cap W)⟩
abbrev noVal : Value → Option (DataW Unit × List MemPlace) := fun _ => some (.nil, [])
theorem own_nums (w : World) (km c : Nat) (es : List MapEntry) (ks : MapEntry → Int) (hm : w.heap[km]? = some (.map es.toArray c))
    (hold : ∀ x ∈ es, x.born < c) (hn : (es.map (·.born)).Nodup) (hkn : (es.map ks).Nodup) (hbig : es.length ≤ 1000000) (hkey : ∀ e ∈ es, e.key = .int .i64 (ks e)) (hwf : ∀ e ∈ es, (Lit.int .i64 (ks e)).wf = true) :
    ∃ D0 : DataW Unit, w.ownsMap Tryz.prog 3 noVal km es.length D0 ∧ (intKeys D0).Perm (es.map ks) ∧ Maps.size D0 = es.length := by
  have hk : ∀ e ∈ es, keyOf Tryz.prog 3 e.key = some (.int .i64 (ks e)) := fun e he => by
    rw [hkey e he]
    exact keyOf_int_mk Tryz.underlying3 (hwf e he)
  have hrd : ∀ e ∈ es, Go.WideElems.rd Tryz.prog 3 noVal e = some (.int .i64 (ks e), .nil) := fun e he => by
    unfold Go.WideElems.rd
    rw [hk e he]
    rfl
  have hrg : ∀ e ∈ es, (Go.WideElems.rg Tryz.prog 3 noVal e).1 = .int .i64 (ks e) := fun e he => by
    unfold Go.WideElems.rg
    rw [hrd e he]
    rfl
  have hp := Go.WideShapes.sorted_perm (es.map (Go.WideElems.rg Tryz.prog 3 noVal))
  refine ⟨.map ((es.map (Go.WideElems.rg Tryz.prog 3 noVal)).foldr DataW.insert []), ⟨es.toArray, c, hm, ⟨by simp [maxLen]; omega, ⟨by simpa using hold, by simpa using hn, ?_⟩, fun x hx => ⟨_, hrd x (by simpa using hx)⟩⟩, by simp, by simp⟩, ?_, ?_⟩
  · show (es.map (·.key)).Nodup
    have : es.map (·.key) = (es.map ks).map (fun n => Value.int .i64 n) := by
      rw [List.map_map]
      exact List.map_congr_left fun e he => hkey e he
    rw [this]
    exact List.pairwise_map.2 (hkn.imp fun h e => h (by simpa using e))
  · show ((List.foldr DataW.insert [] _).map fun p => Go.intOf p.1).Perm _
    refine (hp.map _).trans ?_
    rw [List.map_map]
    refine List.Perm.of_eq (List.map_congr_left fun e he => ?_)
    rw [Function.comp_apply, hrg e he]
    rfl
  · rw [Maps.size_eq, hp.length_eq, List.length_map]
set_option maxHeartbeats 1000000 in
theorem num_any (w : World) (kt km c : Nat) (es : List MapEntry) (ks : MapEntry → Int) (hb : w.cell? ⟨kt, 0, none⟩ = some (.map (some km))) (hm : w.heap[km]? = some (.map es.toArray c))
    (hold : ∀ x ∈ es, x.born < c) (hn : (es.map (·.born)).Nodup) (hkn : (es.map ks).Nodup) (hbig : es.length ≤ 1000000) (hkey : ∀ e ∈ es, e.key = .int .i64 (ks e)) (hwf : ∀ e ∈ es, (Lit.int .i64 (ks e)).wf = true) :
    Calls Tryz.prog 101 #[.pointer (some ⟨kt, 0, none⟩)] w fun e w' => ∃ (v : Value) (ss : List Int), e = .returned v ∧ ss.Perm (es.map ks) ∧
      w'.ownsRow w.heap.size 3 1 v ss.length ((ss.mergeSort (fun x y => decide (x ≤ y))).map encZ) ∧ (v = .slice none 0 0 ↔ ss = []) ∧ Below w.heap.size w w' := by
  obtain ⟨D0, hown, hper, hsize⟩ := own_nums w km c es ks hm hold hn hkn hbig hkey hwf
  refine (callsIn_wide (n := 6)).1 ?_
  have hbl := hown.lt
  have hmax : Maps.size D0 ≤ maxLen := by unfold maxLen; omega
  have hbytes : Maps.size D0 * 8 ≤ 140737488355328 := by omega
  have hseq : SeqGives Fence.wide 2 Tryz.prog 182 #[.pointer (some ⟨w.heap.size, 0, none⟩)] encZ (fun ss => ss.Perm (intKeys D0)) (Maps.size D0) (w.alloc (.cells #[.map (some km)] 193)) :=
    AnyZI.keys_gives (ρ := Tryz.keysI_ren) { Tryz.keysI with } Fence.wide _ trivial rfl (by omega) w.heap.size km es.length D0 _ (by simp) (by simp) (by
      obtain ⟨es, clock, hb, Ft, hs, hD⟩ := hown
      exact ⟨es, clock, (Below.heap_alloc _ _ km hbl).trans hb, Ft, hs, hD⟩)
  have cK : ∀ mb W, CallsIn Fence.wide 5 Tryz.prog 144 #[.map mb] W fun e w' => e = .returned (.func (.func 182) #[] #[.pointer (some ⟨W.heap.size, 0, none⟩)]) ∧ w' = W.alloc (.cells #[.map mb] 193) := fun mb W => AnyZI.keys_in Tryz.keysI Fence.wide 5 trivial rfl mb W
  have cS := AnyZI.sorted_in Tryz.sortedI Fence.wide 5 trivial trivial trivial trivial rfl (by omega) (Tryz.sortsI _) (enters_of Tryz.func181 (by kernel_rfl) rfl) 182 #[.pointer (some ⟨w.heap.size, 0, none⟩)] trivial (enters_of Tryz.func182 (by kernel_rfl) rfl) _ _ hmax hbytes _ hseq
  change CallsIn _ _ Tryz.prog 143 _ _ _ at cS
  have hfK : Fence.wide.fn 144 := trivial
  have hfS : Fence.wide.fn 143 := trivial
  have HOWN := Lib.hid hown
  have HPER := Lib.hid hper
  clear hown hper
  refine callsIn_of_wp Tryz.func101 rfl trivial ?_ rfl
  simp only [Tryz.ntmps101, List.size_toArray, List.length_cons, List.length_nil, Nat.reduceAdd, Nat.reduceSub, Array.replicate_succ, Array.replicate_zero, List.push_toArray, List.append_toArray, List.nil_append, List.cons_append]
  gi_wp2_with (first
    | (gi_at_call 144; refine (cK _ _).mono ?_; rintro e w' ⟨rfl, rfl⟩)
    | (gi_at_call 143; refine cS.mono ?_; rintro e w' ⟨v, ss, rfl, hS, hrow, hnil, hb⟩))
  go_ret
  exact ⟨v, ss, rfl, hS.trans HPER.out, ownsRow_base_a hrow (by simp), hnil, ((Below.refl _ w).alloc (Nat.le_refl _) _).trans (hb.mono (by simp))⟩
/-! as a function by hand -/
noncomputable def insI (x : Int) : List Int → List Int
  | [] => [x]
  | y :: r => match decide (x ≤ y) with
    | true => x :: y :: r
    | false => y :: insI x r
noncomputable def sortI : List Int → List Int
  | [] => []
  | x :: r => insI x (sortI r)
theorem insI_perm (x : Int) : ∀ l : List Int, (insI x l).Perm (x :: l)
  | [] => .refl _
  | y :: r => by
    unfold insI
    split
    · exact .refl _
    · exact ((insI_perm x r).cons y).trans (.swap x y r)
theorem sortI_perm : ∀ l : List Int, (sortI l).Perm l
  | [] => .refl _
  | x :: r => (insI_perm x _).trans ((sortI_perm r).cons x)
theorem insI_sorted (x : Int) : ∀ l : List Int, l.Pairwise (· ≤ ·) → (insI x l).Pairwise (· ≤ ·)
  | [], _ => by simp [insI]
  | y :: r, h => by
    obtain ⟨h1, h2⟩ := List.pairwise_cons.1 h
    unfold insI
    split
    · rename_i hxy
      have hxy : x ≤ y := by simpa using hxy
      refine List.pairwise_cons.2 ⟨fun a ha => ?_, h⟩
      rcases List.mem_cons.1 ha with rfl | ha
      · exact hxy
      · exact Int.le_trans hxy (h1 a ha)
    · rename_i hxy
      have hxy : ¬ x ≤ y := by simpa using hxy
      refine List.pairwise_cons.2 ⟨fun a ha => ?_, insI_sorted x r h2⟩
      rcases List.mem_cons.1 ((insI_perm x r).mem_iff.1 ha) with rfl | ha
      · omega
      · exact h1 a ha
theorem sortI_sorted : ∀ l : List Int, (sortI l).Pairwise (· ≤ ·)
  | [] => List.Pairwise.nil
  | x :: r => insI_sorted x _ (sortI_sorted r)
theorem sortI_eq {l ss : List Int} (h : ss.Perm l) : ss.mergeSort (fun x y => decide (x ≤ y)) = sortI l := by
  have h1 := List.pairwise_mergeSort (le := fun x y : Int => decide (x ≤ y)) (fun a b c h1 h2 => by simp only [decide_eq_true_eq] at *; omega) (fun a b => by simp only [Bool.or_eq_true, decide_eq_true_eq]; omega) ss
  refine List.Perm.eq_of_pairwise (le := (· ≤ ·)) (fun a b _ _ h1 h2 => Int.le_antisymm h1 h2) (h1.imp fun h => by simpa using h) (sortI_sorted l) ((List.mergeSort_perm ss _).trans (h.trans (sortI_perm l).symm))
noncomputable def keysOf : List (AV × AV × Nat) → Option (List Int)
  | [] => some []
  | (.int .i64 k, _, _) :: r => match keysOf r with
    | some l => some (k :: l)
    | none => none
  | _ => none
noncomputable def noneI (a : Int) : List Int → Bool
  | [] => true
  | x :: r => match decide (x = a) with
    | true => false
    | false => noneI a r
noncomputable def okI : List Int → Bool
  | [] => true
  | x :: r => match noneI x r, decide (0 ≤ x), decide (x < 4611686018427387904) with
    | true, true, true => okI r
    | _, _, _ => false
theorem noneI_ok {a : Int} : ∀ {l : List Int}, noneI a l = true → a ∉ l
  | [], _, hx => by cases hx
  | y :: r, h, hx => by
    unfold noneI at h
    split at h
    · cases h
    · rename_i hy
      rcases List.mem_cons.1 hx with rfl | hx'
      · simp at hy
      · exact noneI_ok h hx'
theorem okI_ok : ∀ {l : List Int}, okI l = true → l.Nodup ∧ ∀ x ∈ l, 0 ≤ x ∧ x < 4611686018427387904
  | [], _ => ⟨List.nodup_nil, fun x hx => by cases hx⟩
  | y :: r, h => by
    unfold okI at h
    split at h
    · rename_i h1 h2 h3
      obtain ⟨g1, g2⟩ := okI_ok h
      refine ⟨List.nodup_cons.2 ⟨noneI_ok h1, g1⟩, fun x hx => ?_⟩
      rcases List.mem_cons.1 hx with rfl | hx
      · exact ⟨by simpa using h2, by simpa using h3⟩
      · exact g2 x hx
    · cases h
theorem keysOf_ok {l : Env} : ∀ {es : List (AV × AV × Nat)} {xs : List MapEntry} {E : List Int}, ERs l es xs → (xs.map (·.born)).Nodup → keysOf es = some E → ∃ ks : MapEntry → Int, xs.map ks = E ∧ ∀ e ∈ xs, e.key = .int .i64 (ks e)
  | _, _, _, .nil, _, h => by cases h; exact ⟨fun _ => 0, rfl, fun e he => by cases he⟩
  | _, _, _, .cons (n := st) (a' := xs) h1 h2 h3, hn, h => by
    unfold keysOf at h
    split at h
    · rename_i hh; cases hh
    · rename_i s v st' r hh
      cases hh
      split at h
      · rename_i E' hE
        cases h
        simp only [List.map_cons, List.nodup_cons] at hn
        obtain ⟨ks, g1, g2⟩ := keysOf_ok h3 hn.2 hE
        cases h1
        have hne : ∀ e ∈ xs, e.born ≠ st := fun e he hb => hn.1 (List.mem_map.2 ⟨e, he, hb⟩)
        refine ⟨fun e => if e.born = st then s else ks e, ?_, fun e he => ?_⟩
        · have : xs.map (fun e => if e.born = st then s else ks e) = xs.map ks := List.map_congr_left fun e he => by
            rw [if_neg (hne e he)]
          simp only [List.map_cons, this, if_true, g1]
        · rcases List.mem_cons.1 he with rfl | he
          · simp
          · simp only [if_neg (hne e he)]
            exact g2 e he
      · cases h
    · cases h
noncomputable def intsV : List Int → List AV
  | [] => []
  | x :: r => .int .i64 x :: intsV r
theorem intsV_ok {l : Env} : ∀ (E : List Int), VRs l (intsV E) (E.map encZ)
  | [] => .nil
  | _ :: r => .cons (.int _ _) (intsV_ok r)
/-- (*inode.Table).numbers by hand. -/
noncomputable def numH : HookF
  | [.ptr b 0], H => match H.get b with
    | some (.cells _ (.map (some m) :: _) _) => match H.get m with
      | some (.map es c) => match stampsOk es c, keysOf es with
        | true, some E => match okI E, Nat.ble E.length 1000000, E with
          | true, true, [] => some (.nils, H)
          | true, true, x :: r => some (.slo H.nx 0 (x :: r).length 0, H.new (.cells 3 (intsV (sortI (x :: r))) true))
          | _, _, _ => none
        | _, _ => none
      | _ => none
    | _ => none
  | _, _ => none
theorem num_ok {sz : TypeId → Nat} {lo : Nat} (hsz : sz 3 = 1) (hc : ∀ args w, (callFunc 101 args).run Tryz.prog w = .ok (.enter 101 args) w) : HookOk Tryz.prog sz lo 101 numH := by
  intro us H v H' e l w xs hr hx
  unfold numH at e
  split at e
  case h_2 => cases e
  rename_i b H0
  split at e
  case h_2 => cases e
  rename_i t0 m cs p hb
  split at e
  case h_2 => cases e
  rename_i es c hm
  split at e
  case h_2 => cases e
  rename_i E hst hE
  cases hx with | cons h1 hx => ?_
  cases hx
  cases h1 with | ptr _ hl => ?_
  obtain ⟨k, κ, ys, rest, fr, g1, g2, g3, -, -, -⟩ := hr.at_ hb
  rw [hl] at g1
  cases g1
  cases g3 with | cons h3 g3 => ?_
  cases h3 with | map hlm => ?_
  obtain ⟨km, κm, ms, f1, f2, f3⟩ := hr.map2 hm
  rw [hlm] at f1
  cases f1
  obtain ⟨q1, q2⟩ := stampsOk_ok f3 hst
  obtain ⟨ks, r1, r2⟩ := keysOf_ok f3 q2 hE
  have hok : okI E = true ∧ E.length ≤ 1000000 := by
    split at e
    · rename_i h1 h2; exact ⟨h1, Nat.le_of_ble_eq_true h2⟩
    · rename_i h1 h2; exact ⟨h1, Nat.le_of_ble_eq_true h2⟩
    · cases e
  obtain ⟨s1, s2⟩ := okI_ok hok.1
  have hlen : ms.length = E.length := by rw [← r1, List.length_map]
  have hw := num_any w _ _ c ms ks (cell_get (xs := _ :: _) g2 0 _ rfl) f2 q1 q2 (by rw [r1]; exact s1) (by omega) r2 (fun e he => by
    obtain ⟨a1, a2⟩ := s2 (ks e) (by rw [← r1]; exact List.mem_map.2 ⟨e, he, rfl⟩)
    have m1 : IntKind.i64.min = -9223372036854775808 := by decide
    have m2 : IntKind.i64.max = 9223372036854775807 := by decide
    simp only [Lit.wf, m1, m2, Bool.and_eq_true, decide_eq_true_eq]
    omega)
  refine .inr ⟨hc _ _, Calls.mono hw fun r w' => ?_⟩
  rintro ⟨v', ss, rfl, hper, ho, hnil, hbw⟩
  rw [r1] at hper
  have hS : Same w w' := ⟨hbw.os, hbw.tape, hbw.output, hbw.size, hbw.block⟩
  split at e
  · cases e
    obtain rfl : ss = [] := by simpa using hper
    obtain rfl := hnil.2 rfl
    exact ⟨_, rfl, l, .nils, Kp.same hr hS⟩
  · rename_i x r h1 h2
    cases e
    have hsl : ss.length = (x :: r).length := hper.length_eq
    rw [sortI_eq hper, hsl] at ho
    obtain ⟨g, cap, rfl⟩ := own_cases ho (Nat.succ_pos _)
    obtain ⟨h9, ⟨h2, -⟩ | ⟨g', cap', cur, e9, hB, hg, hn, hcp, hs, ht⟩⟩ := ho
    · cases h2
    cases e9
    have hcur : cur = ((sortI (x :: r)).map encZ ++ cur.toList.drop ((x :: r).length * 1)).toArray := by
      rw [← ht, List.take_append_drop]
    refine ⟨_, rfl, l.upd H.nx (g, cap), VR.slo (d := 0) 0 (x :: r).length (Env.upd_at _ _ _) (by omega), Kp.bornAt hr g cap (by omega) (.opn (rest := cur.toList.drop ((x :: r).length * 1)) (intsV_ok _) ?_ (.inl rfl)) hS.size (by rw [← hcur]; exact hg) hS.block hS.os hS.tape hS.output⟩
    rw [hsz, ← ht, List.take_append_drop]
    simpa using hs
  · cases e
end Go.Proofs.YtkbmmoobcikbaaaGreatDoor.Ev
