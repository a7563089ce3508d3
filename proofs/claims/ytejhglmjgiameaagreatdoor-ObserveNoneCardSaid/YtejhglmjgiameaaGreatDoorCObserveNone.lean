/-
  PROVED: THE TIED CARD of the law ObserveNone: whatever comes in, the call hands back true, and what came in reads as before.
-/
import Derived.Test.YtejhglmjgiameaaGreatDoorEvShut
import Derived.Test.YtejhglmjgiameaaGreatDoorEvRun23
import Derived.Test.YtejhglmjgiameaaGreatDoorCards
import Derived.Test.YtejhglmjgiameaaGreatDoorTie
namespace Go.Proofs.YtejhglmjgiameaaGreatDoor
open Go Go.ChangeShapes Go.WideShapes Go.ChangeAt Go.RowKit

theorem observeNone_cells0 : Tryz.prog.cellsOf 26 = 3 := by kernel_rfl
set_option maxHeartbeats 4000000 in
set_option maxRecDepth 100000 in
theorem observeNone_lifted (os : Os) (started : os.Started) (H : Type) (enc : TypeId × Value → H) :
    ReturnsInHanded {} Tryz.checked os 3 .any (fun w args => (Rows.observeNoneSpec.pre enc Tryz.prog Tryz.f3 [] false w args ∧ laidMetH Tryz.prog Rows.observeNoneRow.laid w) ∧ sizedMet enc Tryz.prog Tryz.f3 (OpenSpec.ofChange Rows.observeNoneSpec) false w args)
      (Rows.observeNoneSpec.post enc Tryz.prog Tryz.f3 false true false false) := by
  refine returnsInHanded_and_shaped (C := Tryz.checked) (X := fun w _ => laidMetH Tryz.prog Rows.observeNoneRow.laid w) (fun _ _ _ hh h => h.of_heap hh) Tryz.own started (by kernel_rfl) Tryz.func3
    (ChangeSpec.witness_shaped (enc := enc) (C := Tryz.checked) (os := os) (X := fun w _ => laidMetH Tryz.prog Rows.observeNoneRow.laid w) false (World.laidAll Tryz.prog os Rows.observeNoneRow.laid) #[.agg #[.int .i64 0, .slice none 0 0, .slice none 0 0]] 8 (World.laidAll_os _ _ _)
      (World.shaped_of_ZipB (by kernel_rfl) (by kernel_rfl)) (by kernel_rfl) (by kernel_rfl) (by kernel_rfl)
      (by rw [MakeChecks.laidMetH_plain _ _ _ (by kernel_rfl)]; exact laidMet_laidAll _ (by kernel_rfl) (by kernel_rfl))) ?_
  intro W base args ds gs before hval0 hW _ _ hL hsh _
  have hval : ∀ (j : Nat) t v, Tryz.f3.params[j]? = some t → args[j]? = some v → Value.okWide Tryz.prog W .any base t v := hval0
  have hW' := hW
  obtain ⟨p, q, hA0, hV, rfl, hfz, hnd⟩ := hW
  have hA : DataW.TrodAll enc Tryz.prog W 0 (fun _ => true) true Tryz.f3.params.toList args.toList ds p := hA0
  rw [Tryz.params3] at hA hval
  obtain ⟨v0, vs0, d0, ds0, p0, q0, hargs, rfl, rfl, h0, r0⟩ := trodAll_cons hA
  obtain ⟨rfl, rfl, rfl⟩ := trodAll_nil r0
  obtain rfl : args = #[v0] := by cases args; simp_all
  obtain ⟨rfl, rfl⟩ := trodVars_none hV
  have lt0 : ∀ x ∈ p0, x.block < W.heap.size := by obtain ⟨m, hm⟩ := h0; exact DataW.trod_lt m _ _ _ hm
  obtain ⟨xs0, rfl, hsz0⟩ := okWide_struct Tryz.underlying26 (hval 0 26 v0 rfl rfl)
  obtain ⟨x0_0, x0_1, x0_2, rfl⟩ := arr3 (hsz0.trans observeNone_cells0)
  clear hA0 hval0
  refine (Ev.run_any W x0_0 x0_1 x0_2).mono fun e W' ⟨he, hx⟩ => ?_
  subst he
  have bel : Below W.heap.size W W' := ⟨hx.os, hx.tape, hx.output, hx.size, hx.block⟩
  exact ⟨_, rfl, _, _, _, [], _, [], hW', trodAll_mk1 (shut_bool Tryz.underlying4 _), (trodAll_cons_mk (Below.trod Tryz.laidOut (by kernel_rfl) (of_decide_eq_true (by kernel_rfl)) h0 bel lt0) trodAll_mk0), rfl, bel.frame _, fun h => by cases h⟩
set_option maxRecDepth 100000
theorem observeNone_j0 : (Rows.observeNoneRow.wf (OpenSpec.ofChange Rows.observeNoneSpec)) = true := by kernel_rfl
theorem observeNone_j1 : (laidOutB Tryz.pinned.checked.prog) = true := by kernel_rfl
theorem observeNone_j2 : (mapsRowed Tryz.pinned.checked.prog) = true := by kernel_rfl
theorem observeNone_j3 : (Tryz.f3.params.all (Tryz.pinned.checked.prog.readableRec ·)) = true := by kernel_rfl
theorem observeNone_j4 : (namedTie Tryz.pinned.checked.prog Rows.observeNoneRow.named Rows.observeNoneSpec.vars) = true := by kernel_rfl
theorem observeNone_j5 : ((Rows.observeNoneRow.stops == [])) = true := by kernel_rfl
theorem observeNone_j6 : ((Tryz.pinned.checked.prog.stops == [])) = true := by kernel_rfl
theorem observeNone_j7 : ((Rows.observeNoneRow.knobs == [])) = true := by kernel_rfl
theorem observeNone_j8 : ((Tryz.pinned.checked.prog.stopKnobs == [])) = true := by kernel_rfl
theorem observeNone_j9 : ((Rows.observeNoneRow.inPlace == Tryz.pinned.checked.prog.inPlace 3)) = true := by kernel_rfl
theorem observeNone_j10 : ((Rows.observeNoneRow.unfollowed == Tryz.pinned.checked.prog.unfollowed 3)) = true := by kernel_rfl
theorem observeNone_j11 : ((Rows.observeNoneRow.recurses == Tryz.pinned.checked.prog.recurses 3)) = true := by kernel_rfl
theorem observeNone_j12 : ((Rows.observeNoneRow.named == Tryz.pinned.checked.prog.varsNamed 3)) = true := by kernel_rfl
theorem observeNone_j13 : ((Rows.observeNoneRow.maps == (Tryz.f3.params.toList ++ Rows.observeNoneSpec.plain.varTypes Tryz.pinned.checked.prog).any (Tryz.pinned.checked.prog.mapsRec ·))) = true := by kernel_rfl
theorem observeNone_j14 : ((Rows.observeNoneRow.ifaces == (Tryz.f3.params.toList ++ Rows.observeNoneSpec.plain.varTypes Tryz.pinned.checked.prog).any (Tryz.pinned.checked.prog.ifacesRec ·))) = true := by kernel_rfl
theorem observeNone_j15 : ((Rows.observeNoneRow.mapsOut == Tryz.pinned.checked.prog.mapsAmong Tryz.f3.resultTypes.toList)) = true := by kernel_rfl
theorem observeNone_j16 : ((Rows.observeNoneRow.loops == (Tryz.f3.params.toList ++ Rows.observeNoneSpec.plain.varTypes Tryz.pinned.checked.prog).any (Tryz.pinned.checked.prog.loopsFrom ·))) = true := by kernel_rfl
theorem observeNone_j17 : ((Rows.observeNoneRow.wideKeys == (Tryz.f3.params.toList ++ Rows.observeNoneSpec.plain.varTypes Tryz.pinned.checked.prog ++ Tryz.f3.resultTypes.toList).any (Tryz.pinned.checked.prog.wideKeysFrom ·))) = true := by kernel_rfl
theorem observeNone_j18 : (Rows.observeNoneSpec.vars.all (Tryz.pinned.checked.prog.varReadable ·)) = true := by kernel_rfl
theorem observeNone_j19 : (Tryz.f3.resultTypes.all (fun t => Tryz.pinned.checked.prog.readableRec t && decide (t < Tryz.pinned.checked.prog.types.size))) = true := by kernel_rfl
theorem observeNone_j20 : ((Rows.observeNoneRow.ifacesOut == Tryz.f3.resultTypes.toList.any (Tryz.pinned.checked.prog.ifacesRec ·))) = true := by kernel_rfl
theorem observeNone_j21 : ((Rows.observeNoneRow.loopsOut == Tryz.f3.resultTypes.toList.any (Tryz.pinned.checked.prog.loopsFrom ·))) = true := by kernel_rfl
theorem observeNone_j22 : ((Rows.observeNoneRow.plainKeys == Tryz.pinned.checked.prog.plainKeys)) = true := by kernel_rfl
theorem observeNone_j23 : (Rows.observeNoneRow.shortTexts.isNone) = true := by kernel_rfl
theorem observeNone_j24 : (Tryz.pinned.checked.prog.stopsHeard) = true := by kernel_rfl
theorem observeNone_j25 : (Tryz.pinned.checked.prog.mayEnter) = true := by kernel_rfl
theorem observeNone_j26 : ((Rows.observeNoneRow.lifted == Tryz.pinned.checked.prog.liftsFinal)) = true := by kernel_rfl
theorem observeNone_j27 : ((Tryz.pinned.checked.prog.make == some Rows.observeNoneRow.make)) = true := by kernel_rfl
theorem observeNone_j28 : ((Rows.observeNoneRow.kinds == (if Rows.observeNoneRow.domain.isEmpty then [] else Tryz.f3.params.toList.map fun t => match Tryz.pinned.checked.prog.underlying t with | some (.int k) => some k | _ => none))) = true := by kernel_rfl
theorem observeNone_j29 : ((Rows.observeNoneRow.pinned == Rows.observeNoneRow.pinnedBy)) = true := by kernel_rfl
theorem observeNone_j30 : ((Rows.observeNoneRow.veiled == (Tryz.f3.params.toList ++ Rows.observeNoneSpec.plain.varTypes Tryz.pinned.checked.prog ++ Tryz.f3.resultTypes.toList).any (Tryz.pinned.checked.prog.veiledRec ·))) = true := by kernel_rfl
theorem observeNone_j31 : (Rows.observeNoneRow.veiledFits Tryz.pinned.checked.prog Tryz.f3.params.toList (Tryz.f3.params.toList ++ Rows.observeNoneSpec.plain.varTypes Tryz.pinned.checked.prog ++ Tryz.f3.resultTypes.toList)) = true := by kernel_rfl
theorem observeNone_joined : joinedFacts Tryz.pinned.checked.prog 3 Tryz.f3 Rows.observeNoneSpec Rows.observeNoneRow = true :=
  (Bool.and_eq_true_iff.2 ⟨(Bool.and_eq_true_iff.2 ⟨(Bool.and_eq_true_iff.2 ⟨(Bool.and_eq_true_iff.2 ⟨(Bool.and_eq_true_iff.2 ⟨(Bool.and_eq_true_iff.2 ⟨(Bool.and_eq_true_iff.2 ⟨(Bool.and_eq_true_iff.2 ⟨(Bool.and_eq_true_iff.2 ⟨(Bool.and_eq_true_iff.2 ⟨(Bool.and_eq_true_iff.2 ⟨(Bool.and_eq_true_iff.2 ⟨(Bool.and_eq_true_iff.2 ⟨(Bool.and_eq_true_iff.2 ⟨(Bool.and_eq_true_iff.2 ⟨(Bool.and_eq_true_iff.2 ⟨(Bool.and_eq_true_iff.2 ⟨(Bool.and_eq_true_iff.2 ⟨(Bool.and_eq_true_iff.2 ⟨(Bool.and_eq_true_iff.2 ⟨(Bool.and_eq_true_iff.2 ⟨(Bool.and_eq_true_iff.2 ⟨(Bool.and_eq_true_iff.2 ⟨(Bool.and_eq_true_iff.2 ⟨(Bool.and_eq_true_iff.2 ⟨(Bool.and_eq_true_iff.2 ⟨(Bool.and_eq_true_iff.2 ⟨(Bool.and_eq_true_iff.2 ⟨(Bool.and_eq_true_iff.2 ⟨(Bool.and_eq_true_iff.2 ⟨(Bool.and_eq_true_iff.2 ⟨observeNone_j0, observeNone_j1⟩), observeNone_j2⟩), observeNone_j3⟩), observeNone_j4⟩), observeNone_j5⟩), observeNone_j6⟩), observeNone_j7⟩), observeNone_j8⟩), observeNone_j9⟩), observeNone_j10⟩), observeNone_j11⟩), observeNone_j12⟩), observeNone_j13⟩), observeNone_j14⟩), observeNone_j15⟩), observeNone_j16⟩), observeNone_j17⟩), observeNone_j18⟩), observeNone_j19⟩), observeNone_j20⟩), observeNone_j21⟩), observeNone_j22⟩), observeNone_j23⟩), observeNone_j24⟩), observeNone_j25⟩), observeNone_j26⟩), observeNone_j27⟩), observeNone_j28⟩), observeNone_j29⟩), observeNone_j30⟩), observeNone_j31⟩)
theorem observeNone_named : Tryz.pinned.checked.prog.funcNamed "chartroom/chartroomlaw23.ObserveNone" = some 3 := by kernel_rfl
theorem observeNone_wrap : Tryz.f3.isWrapper Tryz.pinned.checked.prog Rows.observeNoneRow.wrapper Rows.observeNoneRow.mainSum := by unfold Func.isWrapper; first | (rw [if_pos (by decide +kernel)]; kernel_rfl) | (rw [if_neg (by decide +kernel)]; exact ⟨rfl, rfl⟩)
theorem observeNone_wf : Rows.observeNoneRow.wfByText (OpenSpec.ofChange Rows.observeNoneSpec) = true := by kernel_rfl
theorem observeNone_main : Tryz.pinned.checked.prog.mainIs = some (true, ("9378e3434de23fc74648f7400d410abfcf595ac3345a8707cf2a945d488e1efb").toList) := by kernel_rfl
theorem observeNone_looks : true = Tryz.pinned.checked.prog.looks [] := by kernel_rfl
theorem observeNone_goes : false = Rows.observeNoneRow.goesBy Tryz.pinned.checked.prog := by kernel_rfl
theorem observeNone_stand : (([26] : List TypeId).all fun u => !Tryz.prog.wantsStandIn u) = true := by kernel_rfl
theorem observeNone_holds : Rows.ObserveNoneSaid :=
  OpenClaim.holds_of_wide 3 Tryz.f3 rfl rfl rfl rfl rfl rfl rfl ⟨rfl, rfl, rfl, rfl, rfl⟩ rfl rfl rfl rfl rfl observeNone_named Tryz.func3 observeNone_joined
    (of_decide_eq_true (by kernel_rfl)) observeNone_wrap
    (fun os started H enc _ => observeNone_lifted os started H enc)
theorem observeNone_card : Rows.ObserveNoneCardSaid :=
  Claim7.holds_tied_plain_at .later [] [.data, .data, .data, .data, .sentinel, .sentinel, .pinned] true (true, "9378e3434de23fc74648f7400d410abfcf595ac3345a8707cf2a945d488e1efb") true
    observeNone_holds (fun _ h => by cases h) observeNone_wf (fun _ h => by cases h) observeNone_row_tie rfl ⟨rfl, rfl⟩ observeNone_main rfl
    (fun f fn hf hfn => by
      obtain rfl : f = 3 := Option.some.inj (observeNone_named.symm.trans hf) |>.symm
      obtain rfl : fn = Tryz.f3 := (Option.some.inj (Tryz.func3.symm.trans hfn)).symm
      exact ⟨observeNone_looks, fun j t ht => by
        rw [Tryz.params3] at ht
        have hm : t ∈ ([26] : List TypeId) := by simpa using Array.mem_of_getElem? ht
        exact (show Tryz.prog.wantsStandIn t = false by simpa using List.all_eq_true.1 observeNone_stand t hm)⟩)
    observeNone_goes
#print axioms observeNone_card
end Go.Proofs.YtejhglmjgiameaaGreatDoor
