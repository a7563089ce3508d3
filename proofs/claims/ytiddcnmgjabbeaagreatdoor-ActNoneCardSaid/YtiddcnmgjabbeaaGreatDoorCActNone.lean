/-
  PROVED: THE TIED CARD of the law ActNone: whatever comes in, the call hands back true, and what came in reads as before.
-/
import Derived.Test.YtiddcnmgjabbeaaGreatDoorEvShut
import Derived.Test.YtiddcnmgjabbeaaGreatDoorEvRun25
import Derived.Test.YtiddcnmgjabbeaaGreatDoorCards
import Derived.Test.YtiddcnmgjabbeaaGreatDoorTie
namespace Go.Proofs.YtiddcnmgjabbeaaGreatDoor
open Go Go.ChangeShapes Go.WideShapes Go.ChangeAt Go.RowKit

theorem actNone_cells0 : Tryz.prog.cellsOf 26 = 3 := by kernel_rfl
set_option maxHeartbeats 4000000 in
set_option maxRecDepth 100000 in
theorem actNone_lifted (os : Os) (started : os.Started) (H : Type) (enc : TypeId × Value → H) :
    ReturnsInHanded {} Tryz.checked os 3 .any (fun w args => (Rows.actNoneSpec.pre enc Tryz.prog Tryz.f3 [] false w args ∧ laidMetH Tryz.prog Rows.actNoneRow.laid w) ∧ sizedMet enc Tryz.prog Tryz.f3 (OpenSpec.ofChange Rows.actNoneSpec) false w args)
      (Rows.actNoneSpec.post enc Tryz.prog Tryz.f3 false true false false) := by
  refine returnsInHanded_and_shaped (C := Tryz.checked) (X := fun w _ => laidMetH Tryz.prog Rows.actNoneRow.laid w) (fun _ _ _ hh h => h.of_heap hh) Tryz.own started (by kernel_rfl) Tryz.func3
    (ChangeSpec.witness_shaped (enc := enc) (C := Tryz.checked) (os := os) (X := fun w _ => laidMetH Tryz.prog Rows.actNoneRow.laid w) false (World.laidAll Tryz.prog os Rows.actNoneRow.laid) #[.agg #[.int .i64 0, .slice none 0 0, .slice none 0 0], .int .u64 0] 8 (World.laidAll_os _ _ _)
      (World.shaped_of_ZipB (by kernel_rfl) (by kernel_rfl)) (by kernel_rfl) (by kernel_rfl) (by kernel_rfl)
      (by rw [MakeChecks.laidMetH_plain _ _ _ (by kernel_rfl)]; exact laidMet_laidAll _ (by kernel_rfl) (by kernel_rfl))) ?_
  intro W base args ds gs before hval0 hW _ _ hL hsh _
  have hval : ∀ (j : Nat) t v, Tryz.f3.params[j]? = some t → args[j]? = some v → Value.okWide Tryz.prog W .any base t v := hval0
  have hW' := hW
  obtain ⟨p, q, hA0, hV, rfl, hfz, hnd⟩ := hW
  have hA : DataW.TrodAll enc Tryz.prog W 0 (fun _ => true) true Tryz.f3.params.toList args.toList ds p := hA0
  rw [Tryz.params3] at hA hval
  obtain ⟨v0, vs0, d0, ds0, p0, q0, hargs, rfl, rfl, h0, r0⟩ := trodAll_cons hA
  obtain ⟨v1, vs1, d1, ds1, p1, q1, rfl, rfl, rfl, h1, r1⟩ := trodAll_cons r0
  obtain ⟨rfl, rfl, rfl⟩ := trodAll_nil r1
  obtain rfl : args = #[v0, v1] := by cases args; simp_all
  obtain ⟨rfl, rfl⟩ := trodVars_none hV
  have lt0 : ∀ x ∈ p0, x.block < W.heap.size := by obtain ⟨m, hm⟩ := h0; exact DataW.trod_lt m _ _ _ hm
  obtain ⟨xs0, rfl, hsz0⟩ := okWide_struct Tryz.underlying26 (hval 0 26 v0 rfl rfl)
  obtain ⟨x0_0, x0_1, x0_2, rfl⟩ := arr3 (hsz0.trans actNone_cells0)
  have lt1 : ∀ x ∈ p1, x.block < W.heap.size := by obtain ⟨m, hm⟩ := h1; exact DataW.trod_lt m _ _ _ hm
  clear hA0 hval0
  refine (Ev.run_any W x0_0 x0_1 x0_2 v1).mono fun e W' ⟨he, hx⟩ => ?_
  subst he
  have bel : Below W.heap.size W W' := ⟨hx.os, hx.tape, hx.output, hx.size, hx.block⟩
  exact ⟨_, rfl, _, _, _, [], _, [], hW', trodAll_mk1 (shut_bool Tryz.underlying4 _), (trodAll_cons_mk (Below.trod Tryz.laidOut (by kernel_rfl) (of_decide_eq_true (by kernel_rfl)) h0 bel lt0) (trodAll_cons_mk (Below.trod Tryz.laidOut (by kernel_rfl) (of_decide_eq_true (by kernel_rfl)) h1 bel lt1) trodAll_mk0)), rfl, bel.frame _, fun h => by cases h⟩
set_option maxRecDepth 100000
theorem actNone_j0 : (Rows.actNoneRow.wf (OpenSpec.ofChange Rows.actNoneSpec)) = true := by kernel_rfl
theorem actNone_j1 : (laidOutB Tryz.pinned.checked.prog) = true := by kernel_rfl
theorem actNone_j2 : (mapsRowed Tryz.pinned.checked.prog) = true := by kernel_rfl
theorem actNone_j3 : (Tryz.f3.params.all (Tryz.pinned.checked.prog.readableRec ·)) = true := by kernel_rfl
theorem actNone_j4 : (namedTie Tryz.pinned.checked.prog Rows.actNoneRow.named Rows.actNoneSpec.vars) = true := by kernel_rfl
theorem actNone_j5 : ((Rows.actNoneRow.stops == [])) = true := by kernel_rfl
theorem actNone_j6 : ((Tryz.pinned.checked.prog.stops == [])) = true := by kernel_rfl
theorem actNone_j7 : ((Rows.actNoneRow.knobs == [])) = true := by kernel_rfl
theorem actNone_j8 : ((Tryz.pinned.checked.prog.stopKnobs == [])) = true := by kernel_rfl
theorem actNone_j9 : ((Rows.actNoneRow.inPlace == Tryz.pinned.checked.prog.inPlace 3)) = true := by kernel_rfl
theorem actNone_j10 : ((Rows.actNoneRow.unfollowed == Tryz.pinned.checked.prog.unfollowed 3)) = true := by kernel_rfl
theorem actNone_j11 : ((Rows.actNoneRow.recurses == Tryz.pinned.checked.prog.recurses 3)) = true := by kernel_rfl
theorem actNone_j12 : ((Rows.actNoneRow.named == Tryz.pinned.checked.prog.varsNamed 3)) = true := by kernel_rfl
theorem actNone_j13 : ((Rows.actNoneRow.maps == (Tryz.f3.params.toList ++ Rows.actNoneSpec.plain.varTypes Tryz.pinned.checked.prog).any (Tryz.pinned.checked.prog.mapsRec ·))) = true := by kernel_rfl
theorem actNone_j14 : ((Rows.actNoneRow.ifaces == (Tryz.f3.params.toList ++ Rows.actNoneSpec.plain.varTypes Tryz.pinned.checked.prog).any (Tryz.pinned.checked.prog.ifacesRec ·))) = true := by kernel_rfl
theorem actNone_j15 : ((Rows.actNoneRow.mapsOut == Tryz.pinned.checked.prog.mapsAmong Tryz.f3.resultTypes.toList)) = true := by kernel_rfl
theorem actNone_j16 : ((Rows.actNoneRow.loops == (Tryz.f3.params.toList ++ Rows.actNoneSpec.plain.varTypes Tryz.pinned.checked.prog).any (Tryz.pinned.checked.prog.loopsFrom ·))) = true := by kernel_rfl
theorem actNone_j17 : ((Rows.actNoneRow.wideKeys == (Tryz.f3.params.toList ++ Rows.actNoneSpec.plain.varTypes Tryz.pinned.checked.prog ++ Tryz.f3.resultTypes.toList).any (Tryz.pinned.checked.prog.wideKeysFrom ·))) = true := by kernel_rfl
theorem actNone_j18 : (Rows.actNoneSpec.vars.all (Tryz.pinned.checked.prog.varReadable ·)) = true := by kernel_rfl
theorem actNone_j19 : (Tryz.f3.resultTypes.all (fun t => Tryz.pinned.checked.prog.readableRec t && decide (t < Tryz.pinned.checked.prog.types.size))) = true := by kernel_rfl
theorem actNone_j20 : ((Rows.actNoneRow.ifacesOut == Tryz.f3.resultTypes.toList.any (Tryz.pinned.checked.prog.ifacesRec ·))) = true := by kernel_rfl
theorem actNone_j21 : ((Rows.actNoneRow.loopsOut == Tryz.f3.resultTypes.toList.any (Tryz.pinned.checked.prog.loopsFrom ·))) = true := by kernel_rfl
theorem actNone_j22 : ((Rows.actNoneRow.plainKeys == Tryz.pinned.checked.prog.plainKeys)) = true := by kernel_rfl
theorem actNone_j23 : (Rows.actNoneRow.shortTexts.isNone) = true := by kernel_rfl
theorem actNone_j24 : (Tryz.pinned.checked.prog.stopsHeard) = true := by kernel_rfl
theorem actNone_j25 : (Tryz.pinned.checked.prog.mayEnter) = true := by kernel_rfl
theorem actNone_j26 : ((Rows.actNoneRow.lifted == Tryz.pinned.checked.prog.liftsFinal)) = true := by kernel_rfl
theorem actNone_j27 : ((Tryz.pinned.checked.prog.make == some Rows.actNoneRow.make)) = true := by kernel_rfl
theorem actNone_j28 : ((Rows.actNoneRow.kinds == (if Rows.actNoneRow.domain.isEmpty then [] else Tryz.f3.params.toList.map fun t => match Tryz.pinned.checked.prog.underlying t with | some (.int k) => some k | _ => none))) = true := by kernel_rfl
theorem actNone_j29 : ((Rows.actNoneRow.pinned == Rows.actNoneRow.pinnedBy)) = true := by kernel_rfl
theorem actNone_j30 : ((Rows.actNoneRow.veiled == (Tryz.f3.params.toList ++ Rows.actNoneSpec.plain.varTypes Tryz.pinned.checked.prog ++ Tryz.f3.resultTypes.toList).any (Tryz.pinned.checked.prog.veiledRec ·))) = true := by kernel_rfl
theorem actNone_j31 : (Rows.actNoneRow.veiledFits Tryz.pinned.checked.prog Tryz.f3.params.toList (Tryz.f3.params.toList ++ Rows.actNoneSpec.plain.varTypes Tryz.pinned.checked.prog ++ Tryz.f3.resultTypes.toList)) = true := by kernel_rfl
theorem actNone_joined : joinedFacts Tryz.pinned.checked.prog 3 Tryz.f3 Rows.actNoneSpec Rows.actNoneRow = true :=
  (Bool.and_eq_true_iff.2 ⟨(Bool.and_eq_true_iff.2 ⟨(Bool.and_eq_true_iff.2 ⟨(Bool.and_eq_true_iff.2 ⟨(Bool.and_eq_true_iff.2 ⟨(Bool.and_eq_true_iff.2 ⟨(Bool.and_eq_true_iff.2 ⟨(Bool.and_eq_true_iff.2 ⟨(Bool.and_eq_true_iff.2 ⟨(Bool.and_eq_true_iff.2 ⟨(Bool.and_eq_true_iff.2 ⟨(Bool.and_eq_true_iff.2 ⟨(Bool.and_eq_true_iff.2 ⟨(Bool.and_eq_true_iff.2 ⟨(Bool.and_eq_true_iff.2 ⟨(Bool.and_eq_true_iff.2 ⟨(Bool.and_eq_true_iff.2 ⟨(Bool.and_eq_true_iff.2 ⟨(Bool.and_eq_true_iff.2 ⟨(Bool.and_eq_true_iff.2 ⟨(Bool.and_eq_true_iff.2 ⟨(Bool.and_eq_true_iff.2 ⟨(Bool.and_eq_true_iff.2 ⟨(Bool.and_eq_true_iff.2 ⟨(Bool.and_eq_true_iff.2 ⟨(Bool.and_eq_true_iff.2 ⟨(Bool.and_eq_true_iff.2 ⟨(Bool.and_eq_true_iff.2 ⟨(Bool.and_eq_true_iff.2 ⟨(Bool.and_eq_true_iff.2 ⟨(Bool.and_eq_true_iff.2 ⟨actNone_j0, actNone_j1⟩), actNone_j2⟩), actNone_j3⟩), actNone_j4⟩), actNone_j5⟩), actNone_j6⟩), actNone_j7⟩), actNone_j8⟩), actNone_j9⟩), actNone_j10⟩), actNone_j11⟩), actNone_j12⟩), actNone_j13⟩), actNone_j14⟩), actNone_j15⟩), actNone_j16⟩), actNone_j17⟩), actNone_j18⟩), actNone_j19⟩), actNone_j20⟩), actNone_j21⟩), actNone_j22⟩), actNone_j23⟩), actNone_j24⟩), actNone_j25⟩), actNone_j26⟩), actNone_j27⟩), actNone_j28⟩), actNone_j29⟩), actNone_j30⟩), actNone_j31⟩)
theorem actNone_named : Tryz.pinned.checked.prog.funcNamed "chartroom/chartroomlaw25.ActNone" = some 3 := by kernel_rfl
theorem actNone_wrap : Tryz.f3.isWrapper Tryz.pinned.checked.prog Rows.actNoneRow.wrapper Rows.actNoneRow.mainSum := by unfold Func.isWrapper; first | (rw [if_pos (by decide +kernel)]; kernel_rfl) | (rw [if_neg (by decide +kernel)]; exact ⟨rfl, rfl⟩)
theorem actNone_wf : Rows.actNoneRow.wfByText (OpenSpec.ofChange Rows.actNoneSpec) = true := by kernel_rfl
theorem actNone_main : Tryz.pinned.checked.prog.mainIs = some (true, ("e1737ab4d48a4874e1f49b9e001ab2a73dcda508b81e2508e39ab29c6539a7cc").toList) := by kernel_rfl
theorem actNone_looks : true = Tryz.pinned.checked.prog.looks [] := by kernel_rfl
theorem actNone_goes : false = Rows.actNoneRow.goesBy Tryz.pinned.checked.prog := by kernel_rfl
theorem actNone_stand : (([26, 27] : List TypeId).all fun u => !Tryz.prog.wantsStandIn u) = true := by kernel_rfl
theorem actNone_holds : Rows.ActNoneSaid :=
  OpenClaim.holds_of_wide 3 Tryz.f3 rfl rfl rfl rfl rfl rfl rfl ⟨rfl, rfl, rfl, rfl, rfl⟩ rfl rfl rfl rfl rfl actNone_named Tryz.func3 actNone_joined
    (of_decide_eq_true (by kernel_rfl)) actNone_wrap
    (fun os started H enc _ => actNone_lifted os started H enc)
theorem actNone_card : Rows.ActNoneCardSaid :=
  Claim7.holds_tied_plain_at .later [] [.data, .data, .data, .data, .sentinel, .sentinel, .pinned] true (true, "e1737ab4d48a4874e1f49b9e001ab2a73dcda508b81e2508e39ab29c6539a7cc") true
    actNone_holds (fun _ h => by cases h) actNone_wf (fun _ h => by cases h) actNone_row_tie rfl ⟨rfl, rfl⟩ actNone_main rfl
    (fun f fn hf hfn => by
      obtain rfl : f = 3 := Option.some.inj (actNone_named.symm.trans hf) |>.symm
      obtain rfl : fn = Tryz.f3 := (Option.some.inj (Tryz.func3.symm.trans hfn)).symm
      exact ⟨actNone_looks, fun j t ht => by
        rw [Tryz.params3] at ht
        have hm : t ∈ ([26, 27] : List TypeId) := by simpa using Array.mem_of_getElem? ht
        exact (show Tryz.prog.wantsStandIn t = false by simpa using List.all_eq_true.1 actNone_stand t hm)⟩)
    actNone_goes
#print axioms actNone_card
end Go.Proofs.YtiddcnmgjabbeaaGreatDoor
