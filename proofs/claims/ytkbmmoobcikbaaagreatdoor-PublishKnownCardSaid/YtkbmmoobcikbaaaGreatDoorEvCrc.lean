/-
  CONTRACT of crc.Table: the table. No condition.
-/
import Derived.Test.YtkbmmoobcikbaaaGreatDoorEvHook
import Derived.Test.YtkbmmoobcikbaaaGreatDoorGEG
namespace Go.Proofs.YtkbmmoobcikbaaaGreatDoor.Ev
open Go Go.RowKit

def crcStep (n : Nat) : Nat := Nat.xor (n >>> 1) (if n % 2 = 1 then 2197175160 else 0)
def crcIter : Nat → Nat → Nat
  | 0, n => n
  | k + 1, n => crcStep (crcIter k n)
def crcCells (i : Nat) : Array Value := ((List.range 256).map fun j => Value.int .u32 (if j < i then ((crcIter 8 j : Nat) : Int) else 0)).toArray
theorem crcCells_size (i : Nat) : (crcCells i).size = 256 := by simp [crcCells]
theorem crcCells_at (i j : Nat) (_ : j < 256) {_ : j < (crcCells i).size} : (crcCells i)[j]'(by assumption) = Value.int .u32 (if j < i then ((crcIter 8 j : Nat) : Int) else 0) := by
  simp [crcCells]
theorem crcCells_set {i : Nat} (_ : i < 256) : (crcCells i).setIfInBounds i (.int .u32 ((crcIter 8 i : Nat) : Int)) = crcCells (i + 1) := by
  apply Array.ext
  · simp [crcCells]
  · intro j h1 h2
    have hj : j < 256 := by simpa [crcCells] using h2
    rw [Array.getElem_setIfInBounds (by simpa [crcCells] using hj), crcCells_at i j hj, crcCells_at (i + 1) j hj]
    by_cases e : i = j
    · subst e; simp
    · rw [if_neg e]
      have : (j < i + 1) = (j < i) := by rw [eq_iff_iff]; omega
      simp only [this]
theorem crcStep_lt {n : Nat} (h : n < 4294967296) : crcStep n < 4294967296 := by
  unfold crcStep
  refine Nat.xor_lt_two_pow (n := 32) ?_ ?_
  · rw [Nat.shiftRight_eq_div_pow]; omega
  · split <;> omega
theorem crcIter_lt : ∀ (k : Nat) {n : Nat}, n < 4294967296 → crcIter k n < 4294967296
  | 0, _, h => h
  | k + 1, _, h => crcStep_lt (crcIter_lt k h)
theorem crcCells_zero : crcCells 0 = Tryz.zeroCells310 := by kernel_rfl
theorem crcCells_one (i : Nat) : AllOne (crcCells i) := by
  unfold AllOne crcCells
  rw [Array.all_eq_true]
  intro k hk
  simp [Value.oneCell']
theorem wraps32 (n : Int) (h0 : 0 ≤ n) (h1 : n < 2 ^ 32) : IntKind.u32.wrap n = n := by
  have h1 : n < 4294967296 := h1
  simp [IntKind.wrap, IntKind.bits, IntKind.signed]
  omega
theorem and32 (a b : Nat) (ha : a < 4294967296) (hb : b < 4294967296) : bits BinOp.and IntKind.u32 (a : Int) (b : Int) = ((a &&& b : Nat) : Int) :=
  (bits_nat .u32 32 (by decide) wraps32 a b ha hb).1
theorem xor32 (a b : Nat) (ha : a < 4294967296) (hb : b < 4294967296) : bits BinOp.xor IntKind.u32 (a : Int) (b : Int) = ((a ^^^ b : Nat) : Int) := by
  have ha' : a % 2 ^ IntKind.u32.bits = a := Nat.mod_eq_of_lt ha
  have hb' : b % 2 ^ IntKind.u32.bits = b := Nat.mod_eq_of_lt hb
  simp only [bits, BitVec.ofInt_natCast, BitVec.toNat_xor, BitVec.toNat_ofNat, ha', hb']
  have := Nat.xor_lt_two_pow (n := 32) ha hb
  exact wraps32 _ (Int.natCast_nonneg _) (by exact_mod_cast this)
theorem crc_law {n : Nat} (h : n < 4294967296) : bits BinOp.xor IntKind.u32 ((n : Int) / 2) (bits BinOp.and IntKind.u32 2197175160 (-bits BinOp.and IntKind.u32 (n : Int) 1 % 4294967296)) = ((crcStep n : Nat) : Int) := by
  unfold crcStep
  have e1 : bits BinOp.and IntKind.u32 (n : Int) 1 = ((n % 2 : Nat) : Int) := by
    rw [show (1 : Int) = ((1 : Nat) : Int) from rfl, and32 n 1 h (by decide), Nat.and_one_is_mod]
  have e2 : (n : Int) / (2 : Int) = ((n >>> 1 : Nat) : Int) := by rw [Nat.shiftRight_eq_div_pow]; omega
  have e3 : n >>> 1 < 4294967296 := by rw [Nat.shiftRight_eq_div_pow]; omega
  rw [e1, e2]
  rcases Nat.mod_two_eq_zero_or_one n with hm | hm
  · rw [hm, if_neg (by decide), show (-((0 : Nat) : Int) % 4294967296) = ((0 : Nat) : Int) by decide, show (2197175160 : Int) = ((2197175160 : Nat) : Int) from rfl, and32 _ _ (by decide) (by decide), xor32 _ _ e3 (by decide)]
    rfl
  · rw [hm, if_pos rfl, show (-((1 : Nat) : Int) % 4294967296) = ((4294967295 : Nat) : Int) by decide, show (2197175160 : Int) = ((2197175160 : Nat) : Int) from rfl, and32 _ _ (by decide) (by decide), xor32 _ _ e3 (by decide)]
    rfl
theorem crcT : StructT Tryz.prog 310 256 := ⟨_, Tryz.underlying310, rfl, by kernel_rfl⟩
set_option maxHeartbeats 8000000 in
set_option maxRecDepth 1000000 in
theorem table_walk (W0 : World) : Calls Tryz.prog 189 #[] W0 fun r W' => r = .returned (.agg (crcCells 256)) ∧ Same W0 W' := by
  go_enter Tryz.func189, Tryz.ntmps189
  go_wp2
  go_loopw [4] (fun v w' => ∃ i : Nat, i ≤ 256 ∧ v = .int .i64 i ∧ w'.heap[W0.heap.size + 1]? = some (.cells (crcCells i) 310 (0, 0)) ∧ w'.heap[W0.heap.size]? = some (.cells (crcCells 0) 310 (0, 0)) ∧ Same W0 w') (fun v _ => 256 - (intOf v).toNat)
  case atStart =>
    refine ⟨0, by omega, rfl, ?_, ?_, ⟨rfl, rfl, rfl, by simp; omega, fun k hk => ?_⟩⟩
    · rw [crcCells_zero, show W0.heap.size + 1 = (W0.alloc (Obj.cells Tryz.zeroCells310 310)).heap.size by simp]; exact heap_alloc_new _ _
    · rw [crcCells_zero]; exact (heap_alloc_old _ _ (by simp)).trans (heap_alloc_new _ _)
    · exact (heap_alloc_old _ _ (by simp; omega)).trans (heap_alloc_old _ _ hk)
  case round =>
    obtain ⟨i, hi, rfl, h1, h0, hS⟩ := hrel
    by_cases hlt : i < 256
    · have H1 := Lib.hid h1
      have H0 := Lib.hid h0
      have HS := Lib.hid hS
      clear h1 h0 hS
      go_wp2
      go_loopw [3, 9] (fun t v w' => ∃ j : Nat, j ≤ 8 ∧ v = .int .i64 j ∧ t = .int .u32 ((crcIter j i : Nat) : Int) ∧ w' = wr) (fun _ v _ => 8 - (intOf v).toNat)
      case atStart => exact ⟨0, by omega, rfl, rfl, rfl⟩
      case round =>
        obtain ⟨j, hj, rfl, rfl, rfl⟩ := hrel
        by_cases hlj : j < 8
        · go_wp2
          case roundEnd =>
            refine ⟨⟨j + 1, by omega, by simp, ?_, trivial⟩, by simp [intOf]; omega⟩
            rw [crc_law (crcIter_lt j (by omega))]
            rfl
        · have : j = 8 := by omega
          subst this
          have hc := cellAt H1.out i _ (Array.getElem?_eq_getElem (by rw [crcCells_size]; exact hlt))
          have hf := freeAt H1.out i
          go_wp2
          case roundEnd =>
            refine ⟨⟨i + 1, by omega, by simp, ?_, ?_, ?_⟩, by simp [intOf]; omega⟩
            · rw [← crcCells_set hlt]; exact setAt H1.out
            · exact (Upd.own wr (W0.heap.size + 1) i _).at_ H0.out (by unfold At; omega)
            · have q := HS.out.size
              refine ⟨HS.out.os, HS.out.tape, HS.out.output, by simpa [World.setCell] using q, fun k hk => (?_ : _ = wr.heap[k]?).trans (HS.out.block k hk)⟩
              exact Below.heap_setCell _ _ _ _ (by show k ≠ W0.heap.size + 1; omega)
    · have : i = 256 := by omega
      subst this
      go_wp2_with (first | (refine wpList_load_blk rfl _ _ rfl rfl h1 (by rw [crcCells_size]; exact crcT) ?_) | (refine wpList_store_blk rfl _ _ _ rfl rfl rfl h0 (by rw [crcCells_size]; exact crcT) (by rw [crcCells_size, crcCells_size]) (crcCells_one _) ?_))
      refine bodyPost_blk rfl rfl rfl (show (wr.setRow W0.heap.size (crcCells 256)).heap[W0.heap.size]? = some (.cells (crcCells 256) 310 (0, 0)) from ?_) (by rw [crcCells_size]; exact crcT) ⟨rfl, hS.os, hS.tape, hS.output, by simpa using hS.size, fun k hk => (?_ : _ = wr.heap[k]?).trans (hS.block k hk)⟩
      · rw [setRow_heap _ _ _ _ _ _ h0]
      · exact setRow_other _ _ _ _ (by omega)
/-- The table, as numbers. -/
def crcTab : List Nat := [0, 4067132163, 3778769143, 324072436, 3348797215, 904991772, 648144872, 3570033899, 2329499855, 2024987596, 1809983544, 2575936315, 1296289744, 3207089363, 2893594407, 1578318884, 274646895, 3795141740, 4049975192, 51262619, 3619967088, 632279923, 922689671, 3298075524, 2592579488, 1760304291, 2075979607, 2312596564, 1562183871, 2943781820, 3156637768, 1313733451, 549293790, 3537243613, 3246849577, 871202090, 3878099393, 357341890, 102525238, 4101499445, 2858735121, 1477399826, 1264559846, 3107202533, 1845379342, 2677391885, 2361733625, 2125378298, 820201905, 3263744690, 3520608582, 598981189, 4151959214, 85089709, 373468761, 3827903834, 3124367742, 1213305469, 1526817161, 2842354314, 2107672161, 2412447074, 2627466902, 1861252501, 1098587580, 3004210879, 2688576843, 1378610760, 2262928035, 1955203488, 1742404180, 2511436119, 3416409459, 969524848, 714683780, 3639785095, 205050476, 4266873199, 3976438427, 526918040, 1361435347, 2739821008, 2954799652, 1114974503, 2529119692, 1691668175, 2005155131, 2247081528, 3690758684, 697762079, 986182379, 3366744552, 476452099, 3993867776, 4250756596, 255256311, 1640403810, 2477592673, 2164122517, 1922457750, 2791048317, 1412925310, 1197962378, 3037525897, 3944729517, 427051182, 170179418, 4165941337, 746937522, 3740196785, 3451792453, 1070968646, 1905808397, 2213795598, 2426610938, 1657317369, 3053634322, 1147748369, 1463399397, 2773627110, 4215344322, 153784257, 444234805, 3893493558, 1021025245, 3467647198, 3722505002, 797665321, 2197175160, 1889384571, 1674398607, 2443626636, 1164749927, 3070701412, 2757221520, 1446797203, 137323447, 4198817972, 3910406976, 461344835, 3484808360, 1037989803, 781091935, 3705997148, 2460548119, 1623424788, 1939049696, 2180517859, 1429367560, 2807687179, 3020495871, 1180866812, 410100952, 3927582683, 4182430767, 186734380, 3756733383, 763408580, 1053836080, 3434856499, 2722870694, 1344288421, 1131464017, 2971354706, 1708204729, 2545590714, 2229949006, 1988219213, 680717673, 3673779818, 3383336350, 1002577565, 4010310262, 493091189, 238226049, 4233660802, 2987750089, 1082061258, 1395524158, 2705686845, 1972364758, 2279892693, 2494862625, 1725896226, 952904198, 3399985413, 3656866545, 731699698, 4283874585, 222117402, 510512622, 3959836397, 3280807620, 837199303, 582374963, 3504198960, 68661723, 4135334616, 3844915500, 390545967, 1230274059, 3141532936, 2825850620, 1510247935, 2395924756, 2091215383, 1878366691, 2644384480, 3553878443, 565732008, 854102364, 3229815391, 340358836, 3861050807, 4117890627, 119113024, 1493875044, 2875275879, 3090270611, 1247431312, 2660249211, 1828433272, 2141937292, 2378227087, 3811616794, 291187481, 34330861, 4032846830, 615137029, 3603020806, 3314634738, 939183345, 1776939221, 2609017814, 2295496738, 2058945313, 2926798794, 1545135305, 1330124605, 3173225534, 4084100981, 17165430, 307568514, 3762199681, 888469610, 3332340585, 3587147933, 665062302, 2042050490, 2346497209, 2559330125, 1793573966, 3190661285, 1279665062, 1595330642, 2910671697]
noncomputable def u32s : List Nat → List AV
  | [] => []
  | n :: r => .int .u32 (.ofNat n) :: u32s r
noncomputable def u32v : List Nat → List Value
  | [] => []
  | n :: r => .int .u32 (.ofNat n) :: u32v r
theorem u32s_ok {l : Env} : ∀ ns : List Nat, VRs l (u32s ns) (u32v ns)
  | [] => .nil
  | _ :: r => .cons (.int _ _) (u32s_ok r)
theorem crcTab_ok : crcCells 256 = (u32v crcTab).toArray := by kernel_rfl
/-- crc.Table by hand. -/
noncomputable def crcH : HookF
  | [], H => some (.agg (u32s crcTab), H)
  | _, _ => none
theorem crc_ok {sz : TypeId → Nat} {lo : Nat} (hc : ∀ args w, (callFunc 189 args).run Tryz.prog w = .ok (.enter 189 args) w) : HookOk Tryz.prog sz lo 189 crcH := by
  intro us H v H' e l w xs hr hx
  unfold crcH at e
  split at e
  · cases e
    cases hx
    refine .inr ⟨hc _ _, Calls.mono (table_walk w) fun r w' => ?_⟩
    rintro ⟨rfl, hS⟩
    rw [crcTab_ok]
    exact ⟨_, rfl, l, .agg (u32s_ok _), Kp.same hr hS⟩
  · cases e
end Go.Proofs.YtkbmmoobcikbaaaGreatDoor.Ev
