/-
  PIECES OF A CLOSED FUNCTION, joined. No condition.
-/
import Derived.Test.YtkbmmoobcikbaaaGreatDoorPc0
import Derived.Test.YtkbmmoobcikbaaaGreatDoorPc1
import Derived.Test.YtkbmmoobcikbaaaGreatDoorPc2
import Derived.Test.YtkbmmoobcikbaaaGreatDoorPc3
import Derived.Test.YtkbmmoobcikbaaaGreatDoorPc4
import Derived.Test.YtkbmmoobcikbaaaGreatDoorPc5
import Derived.Test.YtkbmmoobcikbaaaGreatDoorPc6
import Derived.Test.YtkbmmoobcikbaaaGreatDoorPc7
import Derived.Test.YtkbmmoobcikbaaaGreatDoorPc8
import Derived.Test.YtkbmmoobcikbaaaGreatDoorPc9
import Derived.Test.YtkbmmoobcikbaaaGreatDoorPc10
import Derived.Test.YtkbmmoobcikbaaaGreatDoorPc11
namespace Go.Proofs.YtkbmmoobcikbaaaGreatDoor.Ev
open Go
set_option maxRecDepth 1000000
theorem Good.cast {P : Program} {T T2 : Tb} {N B : Nat} {l0 : Env} {H0 : Hp} {w0 : World} {Q : Exit → Act → World → Prop} {s : St} (h1 : T.sz = T2.sz) (h2 : T.lo = T2.lo) (h : Good P T N B l0 H0 w0 Q s) : Good P T2 N B l0 H0 w0 Q s := by
  unfold Good at h ⊢
  rw [← h1, ← h2]
  exact h
theorem callK_ok : CallOk Tryz.prog tbK (callT tbK 60) := ev2_ok tbK_ok hookK_ok (fun _ N hc => drawV_ok (N := N) tbK_ok hc) 60
theorem at0_ok : AtOk Tryz.prog tbK.sz tbK.lo 7 at0 := at_ok (c := bodyC7) Tryz.func7 rfl rfl Tryz.call7 (by decide) fun _ _ hr => Good.piece tbK_ok callK_ok hr cp0_0 (Good.lastV tbK_ok callK_ok hr rfl cl0)
theorem at1_ok : AtOk Tryz.prog tbK.sz tbK.lo 7 at1 := at_ok (c := bodyC7) Tryz.func7 rfl rfl Tryz.call7 (by decide) fun _ _ hr => Good.piece tbK_ok callK_ok hr cp1_0 (Good.lastV tbK_ok callK_ok hr rfl cl1)
theorem at2_ok : AtOk Tryz.prog tbK.sz tbK.lo 7 at2 := at_ok (c := bodyC7) Tryz.func7 rfl rfl Tryz.call7 (by decide) fun _ _ hr => Good.piece tbK_ok callK_ok hr cp2_0 (Good.lastV tbK_ok callK_ok hr rfl cl2)
theorem at3_ok : AtOk Tryz.prog tbK.sz tbK.lo 7 at3 := at_ok (c := bodyC7) Tryz.func7 rfl rfl Tryz.call7 (by decide) fun _ _ hr => Good.piece tbK_ok callK_ok hr cp3_0 (Good.lastV tbK_ok callK_ok hr rfl cl3)
theorem at4_ok : AtOk Tryz.prog tbK.sz tbK.lo 7 at4 := at_ok (c := bodyC7) Tryz.func7 rfl rfl Tryz.call7 (by decide) fun _ _ hr => Good.piece tbK_ok callK_ok hr cp4_0 (Good.lastV tbK_ok callK_ok hr rfl cl4)
theorem at5_ok : AtOk Tryz.prog tbK.sz tbK.lo 7 at5 := at_ok (c := bodyC7) Tryz.func7 rfl rfl Tryz.call7 (by decide) fun _ _ hr => Good.piece tbK_ok callK_ok hr cp5_0 (Good.lastV tbK_ok callK_ok hr rfl cl5)
theorem at6_ok : AtOk Tryz.prog tbK.sz tbK.lo 7 at6 := at_ok (c := bodyC7) Tryz.func7 rfl rfl Tryz.call7 (by decide) fun _ _ hr => Good.piece tbK_ok callK_ok hr cp6_0 (Good.lastV tbK_ok callK_ok hr rfl cl6)
theorem at7_ok : AtOk Tryz.prog tbK.sz tbK.lo 7 at7 := at_ok (c := bodyC7) Tryz.func7 rfl rfl Tryz.call7 (by decide) fun _ _ hr => Good.piece tbK_ok callK_ok hr cp7_0 (Good.lastV tbK_ok callK_ok hr rfl cl7)
theorem at8_ok : AtOk Tryz.prog tbK.sz tbK.lo 7 at8 := at_ok (c := bodyC7) Tryz.func7 rfl rfl Tryz.call7 (by decide) fun _ _ hr => Good.piece tbK_ok callK_ok hr cp8_0 (Good.lastV tbK_ok callK_ok hr rfl cl8)
theorem at9_ok : AtOk Tryz.prog tbK.sz tbK.lo 7 at9 := at_ok (c := bodyC7) Tryz.func7 rfl rfl Tryz.call7 (by decide) fun _ _ hr => Good.piece tbK_ok callK_ok hr cp9_0 (Good.lastV tbK_ok callK_ok hr rfl cl9)
theorem at10_ok : AtOk Tryz.prog tbK.sz tbK.lo 7 at10 := at_ok (c := bodyC7) Tryz.func7 rfl rfl Tryz.call7 (by decide) fun _ _ hr => Good.piece tbK_ok callK_ok hr cp10_0 (Good.lastV tbK_ok callK_ok hr rfl cl10)
theorem at11_ok : AtOk Tryz.prog tbK.sz tbK.lo 7 at11 := at_ok (c := bodyC7) Tryz.func7 rfl rfl Tryz.call7 (by decide) fun _ _ hr => Good.piece tbK_ok callK_ok hr cp11_0 (Good.lastV tbK_ok callK_ok hr rfl cl11)
theorem tbK_11_ok : TbOk Tryz.prog tbK_11 := tbOf_ok tys_ok fns_ok eqs_ok (by kernel_rfl) mths_ok
theorem tbK_11_hook : CallOk Tryz.prog tbK_11 tbK_11.hook := hkL_ok (List.forall_mem_cons.2 ⟨atsH_ok (List.forall_mem_cons.2 ⟨at0_ok, fun _ h => nomatch h⟩), hksK_ok⟩)
theorem tbK_11_call : CallOk Tryz.prog tbK_11 (callT tbK_11 60) := ev2_ok tbK_11_ok tbK_11_hook (fun _ N hc => drawV_ok (N := N) tbK_11_ok hc) 60
theorem tbK_12_ok : TbOk Tryz.prog tbK_12 := tbOf_ok tys_ok fns_ok eqs_ok (by kernel_rfl) mths_ok
theorem tbK_12_hook : CallOk Tryz.prog tbK_12 tbK_12.hook := hkL_ok (List.forall_mem_cons.2 ⟨atsH_ok (List.forall_mem_cons.2 ⟨at1_ok, fun _ h => nomatch h⟩), hksK_ok⟩)
theorem tbK_12_call : CallOk Tryz.prog tbK_12 (callT tbK_12 60) := ev2_ok tbK_12_ok tbK_12_hook (fun _ N hc => drawV_ok (N := N) tbK_12_ok hc) 60
theorem tbK_13_ok : TbOk Tryz.prog tbK_13 := tbOf_ok tys_ok fns_ok eqs_ok (by kernel_rfl) mths_ok
theorem tbK_13_hook : CallOk Tryz.prog tbK_13 tbK_13.hook := hkL_ok (List.forall_mem_cons.2 ⟨atsH_ok (List.forall_mem_cons.2 ⟨at2_ok, fun _ h => nomatch h⟩), hksK_ok⟩)
theorem tbK_13_call : CallOk Tryz.prog tbK_13 (callT tbK_13 60) := ev2_ok tbK_13_ok tbK_13_hook (fun _ N hc => drawV_ok (N := N) tbK_13_ok hc) 60
theorem tbK_14_ok : TbOk Tryz.prog tbK_14 := tbOf_ok tys_ok fns_ok eqs_ok (by kernel_rfl) mths_ok
theorem tbK_14_hook : CallOk Tryz.prog tbK_14 tbK_14.hook := hkL_ok (List.forall_mem_cons.2 ⟨atsH_ok (List.forall_mem_cons.2 ⟨at3_ok, fun _ h => nomatch h⟩), hksK_ok⟩)
theorem tbK_14_call : CallOk Tryz.prog tbK_14 (callT tbK_14 60) := ev2_ok tbK_14_ok tbK_14_hook (fun _ N hc => drawV_ok (N := N) tbK_14_ok hc) 60
theorem tbK_15_ok : TbOk Tryz.prog tbK_15 := tbOf_ok tys_ok fns_ok eqs_ok (by kernel_rfl) mths_ok
theorem tbK_15_hook : CallOk Tryz.prog tbK_15 tbK_15.hook := hkL_ok (List.forall_mem_cons.2 ⟨atsH_ok (List.forall_mem_cons.2 ⟨at4_ok, fun _ h => nomatch h⟩), hksK_ok⟩)
theorem tbK_15_call : CallOk Tryz.prog tbK_15 (callT tbK_15 60) := ev2_ok tbK_15_ok tbK_15_hook (fun _ N hc => drawV_ok (N := N) tbK_15_ok hc) 60
theorem tbK_16_ok : TbOk Tryz.prog tbK_16 := tbOf_ok tys_ok fns_ok eqs_ok (by kernel_rfl) mths_ok
theorem tbK_16_hook : CallOk Tryz.prog tbK_16 tbK_16.hook := hkL_ok (List.forall_mem_cons.2 ⟨atsH_ok (List.forall_mem_cons.2 ⟨at5_ok, fun _ h => nomatch h⟩), hksK_ok⟩)
theorem tbK_16_call : CallOk Tryz.prog tbK_16 (callT tbK_16 60) := ev2_ok tbK_16_ok tbK_16_hook (fun _ N hc => drawV_ok (N := N) tbK_16_ok hc) 60
theorem tbK_17_ok : TbOk Tryz.prog tbK_17 := tbOf_ok tys_ok fns_ok eqs_ok (by kernel_rfl) mths_ok
theorem tbK_17_hook : CallOk Tryz.prog tbK_17 tbK_17.hook := hkL_ok (List.forall_mem_cons.2 ⟨atsH_ok (List.forall_mem_cons.2 ⟨at6_ok, fun _ h => nomatch h⟩), hksK_ok⟩)
theorem tbK_17_call : CallOk Tryz.prog tbK_17 (callT tbK_17 60) := ev2_ok tbK_17_ok tbK_17_hook (fun _ N hc => drawV_ok (N := N) tbK_17_ok hc) 60
theorem tbK_18_ok : TbOk Tryz.prog tbK_18 := tbOf_ok tys_ok fns_ok eqs_ok (by kernel_rfl) mths_ok
theorem tbK_18_hook : CallOk Tryz.prog tbK_18 tbK_18.hook := hkL_ok (List.forall_mem_cons.2 ⟨atsH_ok (List.forall_mem_cons.2 ⟨at7_ok, fun _ h => nomatch h⟩), hksK_ok⟩)
theorem tbK_18_call : CallOk Tryz.prog tbK_18 (callT tbK_18 60) := ev2_ok tbK_18_ok tbK_18_hook (fun _ N hc => drawV_ok (N := N) tbK_18_ok hc) 60
theorem tbK_19_ok : TbOk Tryz.prog tbK_19 := tbOf_ok tys_ok fns_ok eqs_ok (by kernel_rfl) mths_ok
theorem tbK_19_hook : CallOk Tryz.prog tbK_19 tbK_19.hook := hkL_ok (List.forall_mem_cons.2 ⟨atsH_ok (List.forall_mem_cons.2 ⟨at8_ok, fun _ h => nomatch h⟩), hksK_ok⟩)
theorem tbK_19_call : CallOk Tryz.prog tbK_19 (callT tbK_19 60) := ev2_ok tbK_19_ok tbK_19_hook (fun _ N hc => drawV_ok (N := N) tbK_19_ok hc) 60
theorem tbK_20_ok : TbOk Tryz.prog tbK_20 := tbOf_ok tys_ok fns_ok eqs_ok (by kernel_rfl) mths_ok
theorem tbK_20_hook : CallOk Tryz.prog tbK_20 tbK_20.hook := hkL_ok (List.forall_mem_cons.2 ⟨atsH_ok (List.forall_mem_cons.2 ⟨at9_ok, fun _ h => nomatch h⟩), hksK_ok⟩)
theorem tbK_20_call : CallOk Tryz.prog tbK_20 (callT tbK_20 60) := ev2_ok tbK_20_ok tbK_20_hook (fun _ N hc => drawV_ok (N := N) tbK_20_ok hc) 60
theorem tbK_21_ok : TbOk Tryz.prog tbK_21 := tbOf_ok tys_ok fns_ok eqs_ok (by kernel_rfl) mths_ok
theorem tbK_21_hook : CallOk Tryz.prog tbK_21 tbK_21.hook := hkL_ok (List.forall_mem_cons.2 ⟨atsH_ok (List.forall_mem_cons.2 ⟨at10_ok, fun _ h => nomatch h⟩), hksK_ok⟩)
theorem tbK_21_call : CallOk Tryz.prog tbK_21 (callT tbK_21 60) := ev2_ok tbK_21_ok tbK_21_hook (fun _ N hc => drawV_ok (N := N) tbK_21_ok hc) 60
theorem tbK_22_ok : TbOk Tryz.prog tbK_22 := tbOf_ok tys_ok fns_ok eqs_ok (by kernel_rfl) mths_ok
theorem tbK_22_hook : CallOk Tryz.prog tbK_22 tbK_22.hook := hkL_ok (List.forall_mem_cons.2 ⟨atsH_ok (List.forall_mem_cons.2 ⟨at11_ok, fun _ h => nomatch h⟩), hksK_ok⟩)
theorem tbK_22_call : CallOk Tryz.prog tbK_22 (callT tbK_22 60) := ev2_ok tbK_22_ok tbK_22_hook (fun _ N hc => drawV_ok (N := N) tbK_22_ok hc) 60
theorem closed_true (w : World) : Calls Tryz.prog 3 #[] w fun r w' => r = .returned (.bool true) ∧ Same w w' := by
  have h0 := top_hr tbK.sz w
  have g := Good.last (fn := Tryz.f3) tbK_ok callK_ok rfl pcL (w0 := w)
  replace g := Good.piece tbK_ok callK_ok h0 pc27 g
  replace g := Good.piece tbK_ok callK_ok h0 pc26 g
  replace g := Good.piece tbK_ok callK_ok h0 pc25 g
  replace g := Good.piece tbK_ok callK_ok h0 pc24 g
  replace g := Good.piece tbK_ok callK_ok h0 pc23 g
  replace g := Good.cast (T2 := tbK) rfl rfl (Good.piece tbK_22_ok tbK_22_call h0 pc22 (Good.cast (T2 := tbK_22) rfl rfl g))
  replace g := Good.cast (T2 := tbK) rfl rfl (Good.piece tbK_21_ok tbK_21_call h0 pc21 (Good.cast (T2 := tbK_21) rfl rfl g))
  replace g := Good.cast (T2 := tbK) rfl rfl (Good.piece tbK_20_ok tbK_20_call h0 pc20 (Good.cast (T2 := tbK_20) rfl rfl g))
  replace g := Good.cast (T2 := tbK) rfl rfl (Good.piece tbK_19_ok tbK_19_call h0 pc19 (Good.cast (T2 := tbK_19) rfl rfl g))
  replace g := Good.cast (T2 := tbK) rfl rfl (Good.piece tbK_18_ok tbK_18_call h0 pc18 (Good.cast (T2 := tbK_18) rfl rfl g))
  replace g := Good.cast (T2 := tbK) rfl rfl (Good.piece tbK_17_ok tbK_17_call h0 pc17 (Good.cast (T2 := tbK_17) rfl rfl g))
  replace g := Good.cast (T2 := tbK) rfl rfl (Good.piece tbK_16_ok tbK_16_call h0 pc16 (Good.cast (T2 := tbK_16) rfl rfl g))
  replace g := Good.cast (T2 := tbK) rfl rfl (Good.piece tbK_15_ok tbK_15_call h0 pc15 (Good.cast (T2 := tbK_15) rfl rfl g))
  replace g := Good.cast (T2 := tbK) rfl rfl (Good.piece tbK_14_ok tbK_14_call h0 pc14 (Good.cast (T2 := tbK_14) rfl rfl g))
  replace g := Good.cast (T2 := tbK) rfl rfl (Good.piece tbK_13_ok tbK_13_call h0 pc13 (Good.cast (T2 := tbK_13) rfl rfl g))
  replace g := Good.cast (T2 := tbK) rfl rfl (Good.piece tbK_12_ok tbK_12_call h0 pc12 (Good.cast (T2 := tbK_12) rfl rfl g))
  replace g := Good.cast (T2 := tbK) rfl rfl (Good.piece tbK_11_ok tbK_11_call h0 pc11 (Good.cast (T2 := tbK_11) rfl rfl g))
  replace g := Good.piece tbK_ok callK_ok h0 pc10 g
  replace g := Good.piece tbK_ok callK_ok h0 pc9 g
  replace g := Good.piece tbK_ok callK_ok h0 pc8 g
  replace g := Good.piece tbK_ok callK_ok h0 pc7 g
  replace g := Good.piece tbK_ok callK_ok h0 pc6 g
  replace g := Good.piece tbK_ok callK_ok h0 pc5 g
  replace g := Good.piece tbK_ok callK_ok h0 pc4 g
  replace g := Good.piece tbK_ok callK_ok h0 pc3 g
  replace g := Good.piece tbK_ok callK_ok h0 pc2 g
  replace g := Good.piece tbK_ok callK_ok h0 pc1 g
  replace g := Good.piece tbK_ok callK_ok h0 pc0 g
  exact top_of_good (c := body0) Tryz.func3 rfl rfl g
end Go.Proofs.YtkbmmoobcikbaaaGreatDoor.Ev
