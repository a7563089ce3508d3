/-
  CONTRACTS of op.Quote and the reference's Quote: of any text of less than 2^44 bytes.
-/
import Derived.Test.YtlhpcgmbbeihiaaDoorDBld
import Derived.Test.YtlhpcgmbbeihiaaDoorOPut
import Derived.Test.YtlhpcgmbbeihiaaDoorROPut
import Derived.Deep.RegionWith
import Derived.WalkMore
namespace Go.Proofs.YtlhpcgmbbeihiaaDoor
open Go.RowKit

def hexL : List UInt8 := [48, 49, 50, 51, 52, 53, 54, 55, 56, 57, 97, 98, 99, 100, 101, 102]
def plainB (c : UInt8) : Bool := decide (32 ≤ c.toNat) && decide (c.toNat ≤ 126) && decide (c.toNat ≠ 34) && decide (c.toNat ≠ 92)
/-- A byte, as it is quoted. -/
def quoteB (c : UInt8) : List UInt8 := if plainB c then [c] else [92, hexL.getD (c.toNat / 16) 0, hexL.getD (c.toNat % 16) 0]
def quoteAcc (s : List UInt8) (k : Nat) : List UInt8 := 34 :: ((s.take k).map quoteB).flatten
def quoteF (s : List UInt8) : List UInt8 := quoteAcc s s.length ++ [34]
theorem quoteB_len (c : UInt8) : (quoteB c).length ≤ 3 := by unfold quoteB; split <;> simp
theorem quoteAcc_len (s : List UInt8) (k : Nat) : (quoteAcc s k).length ≤ 1 + 3 * s.length := by
  have : ∀ l : List UInt8, ((l.map quoteB).flatten).length ≤ 3 * l.length := by
    intro l
    induction l with
    | nil => simp
    | cons c l ih => have := quoteB_len c; simp only [List.map_cons, List.flatten_cons, List.length_append, List.length_cons]; omega
  have h := this (s.take k)
  have h2 : (s.take k).length ≤ s.length := by rw [List.length_take]; omega
  unfold quoteAcc
  rw [List.length_cons]; omega
theorem quoteAcc_snoc {s : List UInt8} {k : Nat} (hk : k < s.length) : quoteAcc s (k + 1) = quoteAcc s k ++ quoteB s[k] := by
  unfold quoteAcc
  rw [List.take_succ_eq_append_getElem hk, List.map_append, List.flatten_append]; simp
theorem hex_at {k : Nat} (hk : k < 16) : hexL[k]? = some (hexL.getD k 0) := by
  rw [List.getD_eq_getElem?_getD, List.getElem?_eq_getElem (show k < hexL.length from hk)]; rfl
theorem index_str8 {P : Program} {T : TypeId} (hT : P.underlying T = some .string) {ps : List UInt8} {k : Nat} {c : UInt8} {m : Int} (hc : ps[k]? = some c) (hm : (c.toNat : Int) = m) (w : World) : (Instr.index T (str ps) (.int .u8 k)).run P w = .ok (.int .u8 m) w := by
  subst hm
  obtain ⟨hk, hck⟩ := List.getElem?_eq_some_iff.1 hc
  have hk' : k < (⟨ps.toArray⟩ : ByteArray).size := hk
  have hget : (⟨ps.toArray⟩ : ByteArray)[k]'hk' = c := hck
  rw [run_index_string _ _ _ _ _ hT, dif_pos ⟨by omega, by exact_mod_cast hk'⟩]
  congr 3
  simp only [Int.toNat_natCast]; rw [hget]
theorem and15 : ∀ m : Fin 256, bits BinOp.and IntKind.u8 ((m.val : Nat) : Int) 15 = ((m.val : Nat) : Int) % 16 := by decide +kernel
theorem plainB_cases {c : UInt8} {m : Int} (hm : m = c.toNat) : (plainB c = true ∧ 32 ≤ m ∧ m ≤ 126 ∧ ¬ m = 34 ∧ ¬ m = 92) ∨ (plainB c = false ∧ (m < 32 ∨ 126 < m ∨ m = 34 ∨ m = 92)) := by
  unfold plainB
  by_cases h : 32 ≤ c.toNat ∧ c.toNat ≤ 126 ∧ c.toNat ≠ 34 ∧ c.toNat ≠ 92
  · exact .inl ⟨by simp [h], by omega, by omega, by omega, by omega⟩
  · refine .inr ⟨?_, by omega⟩
    rw [Bool.eq_false_iff]
    intro hb
    simp only [Bool.and_eq_true, decide_eq_true_eq] at hb
    exact h ⟨hb.1.1.1, hb.1.1.2, hb.1.2, hb.2⟩

set_option maxRecDepth 100000 in
set_option maxHeartbeats 2000000 in
theorem rQuote_any (w : World) (s : List UInt8) (hs : s.length ≤ 17592186044416) :
    Calls Tryd.prog 30 #[str s] w fun e w' => e = .returned (str (quoteF s)) ∧ Ext w w' := by
  have hlit : (w.alloc (.cells #[.int .u8 34] 5)).ownsRow w.heap.size 5 1 (.slice (some ⟨w.heap.size, 0, none⟩) 1 1) (quoteAcc s 0).length ((quoteAcc s 0).map Go.Proofs.YtlhpcgmbbeihiaaDoor.u8) :=
    own_lit w #[.int .u8 34] 5 1 w.heap.size w.heap.size (by unfold maxLen; omega) rfl (Nat.le_refl _) rfl
  have HL := Lib.hid hlit
  clear hlit
  go_enter Tryd.func30, Tryd.ntmps30
  go_wp2
  go_loopw [4, 5] (fun v i wr => ∃ k : Nat, k ≤ s.length ∧ i = .int .i64 k ∧ Ext w wr ∧ wr.ownsRow w.heap.size 5 1 v (quoteAcc s k).length ((quoteAcc s k).map Go.Proofs.YtlhpcgmbbeihiaaDoor.u8)) (fun _ i _ => s.length - (intOf i).toNat)
  case atStart => exact ⟨0, Nat.zero_le _, rfl, (Upd.refl _ _).alloc _, HL.out⟩
  case round =>
    obtain ⟨k, hk, rfl, hx, hown⟩ := hrel
    have HX := Lib.hid hx
    have hus := hx.size
    have hql := quoteAcc_len s k
    clear hx
    by_cases hlt : k < s.length
    · obtain ⟨m, hm⟩ : ∃ m : Int, m = s[k].toNat := ⟨_, rfl⟩
      have hm0 : 0 ≤ m := by omega
      have hm1 : m < 256 := by have := UInt8.toNat_lt s[k]; omega
      have hidx := index_str (P := Tryd.prog) Tryd.underlying9 (m := m) (List.getElem?_eq_getElem hlt) hm.symm
      have hcs := plainB_cases hm
      have hsn := quoteAcc_snoc hlt
      have HM := Lib.hid hm
      have HSN := Lib.hid hsn
      clear hm hsn
      rcases hcs with ⟨hp, h1, h2, h3, h4⟩ | ⟨hp, hor⟩
      · have HP := Lib.hid hp
        have b3 : (m != 34) = true := by simpa using h3
        have b4 : (m != 92) = true := by simpa using h4
        clear hp h3 h4
        go_wp2_with (at_builtin; go_must (refine wpList_append_row rfl _ _ _ rfl Tryd.bytesT rfl (hown.alloc _) rfl (row_new _ _ _ 1 _ (by decide) (by simp)) rfl (by intro u hu; simp at hu; subst hu; rfl) ?c3 ?c4 ?c5 ?_))
        case c3 => unfold maxLen; omega
        case c4 => omega
        case c5 => first | omega | (simp; omega)
        intro v' w2 hown2 hg _
        have hx2 := (HX.out.alloc _).grown hg (fun j hj h => by have := (hown.lt j hj).1; omega)
        have HX2 := Lib.hid hx2
        have HO2 := Lib.hid hown2
        clear hx2 hg hown2
        go_wp2
        go_roundw
        case rel =>
          refine ⟨k + 1, by omega, by go_num, HX2.out, ?_⟩
          rw [HSN.out, quoteB, if_pos HP.out]
          exact own_part (l := quoteAcc s k) (t := [s[k]]) (by have := HO2.out; rw [HM.out] at this; exact this) rfl rfl
        case measure => simp [intOf]; omega
      · obtain ⟨M, hM⟩ : ∃ M : Nat, M = s[k].toNat := ⟨_, rfl⟩
        have hMm : m = (M : Int) := by rw [hM]; exact HM.out
        have HMM := Lib.hid hM
        clear hM
        subst hMm
        have hM1 : M < 256 := by omega
        obtain ⟨h1, hh1⟩ : ∃ h : UInt8, h = hexL.getD (M / 16) 0 := ⟨_, rfl⟩
        obtain ⟨h2, hh2⟩ : ∃ h : UInt8, h = hexL.getD (M % 16) 0 := ⟨_, rfl⟩
        have w1 : IntKind.u8.wrap ((M : Int) / 16) = ((M / 16 : Nat) : Int) := by rw [IntKind.wrap_u8]; omega
        have w2 : (M : Int).tmod 16 = ((M % 16 : Nat) : Int) := by rw [Int.tmod_eq_emod_of_nonneg (by omega)]; omega
        have hi1 : ∀ w, (Instr.index 9 (.string ⟨#[48, 49, 50, 51, 52, 53, 54, 55, 56, 57, 97, 98, 99, 100, 101, 102]⟩) (.int .u8 (IntKind.u8.wrap ((M : Int) / 16)))).run Tryd.prog w = .ok (.int .u8 (h1.toNat : Int)) w := fun w => by
          rw [w1]; exact index_str8 (P := Tryd.prog) Tryd.underlying9 (m := (h1.toNat : Int)) (hex_at (k := M / 16) (by omega)) (by rw [hh1]) w
        have hi2 : ∀ w, (Instr.index 9 (.string ⟨#[48, 49, 50, 51, 52, 53, 54, 55, 56, 57, 97, 98, 99, 100, 101, 102]⟩) (.int .u8 ((M : Int).tmod 16))).run Tryd.prog w = .ok (.int .u8 (h2.toNat : Int)) w := fun w => by
          rw [w2]; exact index_str8 (P := Tryd.prog) Tryd.underlying9 (m := (h2.toNat : Int)) (hex_at (k := M % 16) (by omega)) (by rw [hh2]) w
        clear w1 w2
        have hqb : quoteB s[k] = [92, h1, h2] := by rw [quoteB, hp, ← HMM.out, ← hh1, ← hh2]; rfl
        have HQB := Lib.hid hqb
        clear hp hqb hh1 hh2
        have q2 : (([92, h1, h2] : List UInt8).map Go.Proofs.YtlhpcgmbbeihiaaDoor.u8).length = 3 * 1 := rfl
        have q3 : 0 < 3 := by decide
        have q4 : (quoteAcc s k).length + 3 ≤ maxLen := by unfold maxLen; omega
        have q5 : ((quoteAcc s k).length + 3) * 1 ≤ 140737488355328 := by omega
        have hlit := (hown.alloc (.cells #[.int .u8 92, .int .u8 h1.toNat, .int .u8 h2.toNat] 5)).drew
        have hsrc := (row_new wr #[.int .u8 92, .int .u8 h1.toNat, .int .u8 h2.toNat] 5 3 wr.heap.size (by decide) rfl).upd (Upd.refl Nothing _).drew (fun _ _ e => e)
        have hbase : w.heap.size ≤ (wr.alloc (.cells #[.int .u8 92, .int .u8 h1.toNat, .int .u8 h2.toNat] 5)).drew.heap.size := Nat.le_trans hus (le_drew_alloc _ _)
        have hone : OneCells (#[.int .u8 92, .int .u8 h1.toNat, .int .u8 h2.toNat] : Array Value).toList := u8_one [92, h1, h2]
        have hor2 : (32 ≤ (M : Int) → ((M : Int) ≤ 126 ∧ ((M : Int) != 34) = true ∧ ((M : Int) != 92) = false) ∨ ((M : Int) ≤ 126 ∧ ((M : Int) != 34) = false) ∨ 126 < (M : Int)) := fun h32 => by
          rcases hor with h | h | h | h
          · omega
          · exact .inr (.inr h)
          · exact .inr (.inl ⟨by omega, by simp [h]⟩)
          · exact .inl ⟨by omega, by simp [h], by simp [h]⟩
        have HOR := Lib.hid hor2
        clear hor hor2
        by_cases h32 : 32 ≤ (M : Int)
        · rcases HOR.out h32 with ⟨a1, a2, a3⟩ | ⟨a1, a2⟩ | a1
          all_goals
            go_wp2_with fail
            go_region_law (refine step_append_row (by rfl) (.tmp 35) (.tmp 44) 26 (by rfl) Tryd.bytesT hlit hsrc (by rfl) (by rfl) q2 hone q3 q4 q5 hbase ?_; intro v6 w6 hown6 hg6)
            all_goals
              have hx6 := ((HX.out.alloc (.cells #[.int .u8 92, .int .u8 h1.toNat, .int .u8 h2.toNat] 5)).drew).grown hg6 (fun j hj h => by have := (hown.lt j hj).1; omega)
              have HX6 := Lib.hid hx6
              have HO6 := Lib.hid hown6
              clear hx6 hown6 hg6
              go_wp2
              go_roundw
              case rel => exact ⟨k + 1, by omega, by go_num, HX6.out, by rw [HSN.out, HQB.out]; exact own_part (l := quoteAcc s k) (t := [92, h1, h2]) HO6.out rfl rfl⟩
              case measure => simp [intOf]; omega
        · go_wp2_with fail
          go_region_law (refine step_append_row (by rfl) (.tmp 35) (.tmp 44) 26 (by rfl) Tryd.bytesT hlit hsrc (by rfl) (by rfl) q2 hone q3 q4 q5 hbase ?_; intro v6 w6 hown6 hg6)
          all_goals
            have hx6 := ((HX.out.alloc (.cells #[.int .u8 92, .int .u8 h1.toNat, .int .u8 h2.toNat] 5)).drew).grown hg6 (fun j hj h => by have := (hown.lt j hj).1; omega)
            have HX6 := Lib.hid hx6
            have HO6 := Lib.hid hown6
            clear hx6 hown6 hg6
            go_wp2
            go_roundw
            case rel => exact ⟨k + 1, by omega, by go_num, HX6.out, by rw [HSN.out, HQB.out]; exact own_part (l := quoteAcc s k) (t := [92, h1, h2]) HO6.out rfl rfl⟩
            case measure => simp [intOf]; omega
    · have hkl : k = s.length := by omega
      subst hkl
      go_wp2_with (at_builtin; go_must (refine wpList_append_row rfl _ _ _ rfl Tryd.bytesT rfl (hown.alloc _) rfl (row_new _ _ _ 1 _ (by decide) (by simp)) rfl (by intro u hu; simp at hu; subst hu; rfl) ?c3 ?c4 ?c5 ?_))
      case c3 => unfold maxLen; omega
      case c4 => omega
      case c5 => first | omega | (simp; omega)
      intro v' w2 hown2 hg _
      have hx2 := (HX.out.alloc _).grown hg (fun j hj h => by have := (hown.lt j hj).1; omega)
      have hown3 : w2.ownsRow w.heap.size 5 1 v' (quoteF s).length ((quoteF s).map Go.Proofs.YtlhpcgmbbeihiaaDoor.u8) := own_part (l := quoteAcc s s.length) (t := [34]) hown2 rfl rfl
      have hcv := row_string (P := Tryd.prog) (Row.of_owns hown3) Tryd.underlying26 Tryd.underlying5 Tryd.underlying9
      clear hown2 hown3 hg
      go_wp2
      go_ret
      exact ⟨rfl, hx2⟩

set_option maxRecDepth 100000 in
set_option maxHeartbeats 2000000 in
theorem oQuote_any (w : World) (s : List UInt8) (hs : s.length ≤ 17592186044416) :
    Calls Tryd.prog 29 #[str s] w fun e w' => e = .returned (str (quoteF s)) ∧ Ext w w' := by
  have hb0 : Lib.IsBuilder 107 5 w.heap.size w.heap.size [] (w.alloc (.cells #[.pointer none, .slice none 0 0] 107)) := .inl ⟨Nat.le_refl _, _, newAt _ _, World.ownsRow_nil _ _ _ _, fun e => by simp [Value.ownBlock] at e⟩
  have HB0 := Lib.hid hb0
  clear hb0
  go_enter Tryd.func29, Tryd.ntmps29
  go_wp2
  go_step3
  go_wp2_with (go_at_call 59; fail)
  refine (bld_byte w.heap.size w.heap.size [] 34 _ HB0.out (by simp) (le_alloc _ _)).mono ?_
  rintro e w1 ⟨rfl, hb1, hl1⟩
  have HX1 := Lib.hid (show Ext w w1 from ((Upd.refl _ w).alloc _).till hl1 (Nat.le_refl _))
  have HB1 := Lib.hid (show Lib.IsBuilder 107 5 w.heap.size w.heap.size ((quoteAcc s 0).map Go.Proofs.YtlhpcgmbbeihiaaDoor.u8) w1 from hb1)
  clear hl1 hb1
  go_wp2
  go_step3
  go_wp2
  go_loopw [9] (fun i wr => ∃ k : Nat, k ≤ s.length ∧ i = .int .i64 k ∧ Ext w wr ∧ Lib.IsBuilder 107 5 w.heap.size w.heap.size ((quoteAcc s k).map Go.Proofs.YtlhpcgmbbeihiaaDoor.u8) wr) (fun i _ => s.length - (intOf i).toNat)
  case atStart => exact ⟨0, Nat.zero_le _, rfl, HX1.out, HB1.out⟩
  case round =>
    obtain ⟨k, hk, rfl, hx, hb⟩ := hrel
    have HX := Lib.hid hx
    have HB := Lib.hid hb
    have hus := hx.size
    have hql := quoteAcc_len s k
    have hbl : w.heap.size < wr.heap.size := by
      rcases hb with ⟨-, v, hbk, -⟩ | ⟨-, v, hbk, -⟩
      · exact lt_of_heap hbk
      · exact lt_of_heap hbk
    clear hx hb
    by_cases hlt : k < s.length
    · obtain ⟨M, hM⟩ : ∃ M : Nat, M = s[k].toNat := ⟨_, rfl⟩
      have hM1 : M < 256 := by have := UInt8.toNat_lt s[k]; omega
      have hidx := index_str (P := Tryd.prog) Tryd.underlying9 (m := (M : Int)) (List.getElem?_eq_getElem hlt) (by rw [hM])
      have hcs := plainB_cases (c := s[k]) (m := (M : Int)) (by rw [hM])
      have hsn := quoteAcc_snoc hlt
      have HM := Lib.hid hM
      have HSN := Lib.hid hsn
      clear hM hsn
      rcases hcs with ⟨hp, a1, a2, a3, a4⟩ | ⟨hp, hor⟩
      · have HP := Lib.hid (show quoteB s[k] = [s[k]] from by rw [quoteB, if_pos hp])
        have b3 : ((M : Int) == 34) = false := by simpa using a3
        have b4 : ((M : Int) == 92) = false := by simpa using a4
        clear hp a3 a4
        go_wp2_with (go_at_call 59; fail)
        refine (bld_byte w.heap.size w.heap.size _ M _ HB.out (by simp; omega) hus).mono ?_
        rintro e w6 ⟨rfl, hb6, hl6⟩
        have hb6 : Lib.IsBuilder 107 5 w.heap.size w.heap.size ((quoteAcc s k).map Go.Proofs.YtlhpcgmbbeihiaaDoor.u8 ++ [s[k]].map Go.Proofs.YtlhpcgmbbeihiaaDoor.u8) w6 := by
          rw [HM.out] at hb6; exact hb6
        have HB6 := Lib.hid (show Lib.IsBuilder 107 5 w.heap.size w.heap.size ((quoteAcc s (k + 1)).map Go.Proofs.YtlhpcgmbbeihiaaDoor.u8) w6 from by rw [HSN.out, HP.out, List.map_append]; exact hb6)
        have HL6 := Lib.hid hl6
        clear hb6 hl6
        go_wp2
        first
          | refine ⟨⟨k + 1, by omega, by go_num, HX.out.till HL6.out (Nat.le_refl _), HB6.out⟩, ?measure⟩
          | (refine ⟨?_, ?measure⟩; repeat apply Exists.intro; refine ⟨⟨k + 1, by omega, by go_num, HX.out.till HL6.out (Nat.le_refl _), HB6.out⟩, rfl⟩)
        case measure => simp [intOf]; omega
      · obtain ⟨h1, hh1⟩ : ∃ h : UInt8, h = hexL.getD (M / 16) 0 := ⟨_, rfl⟩
        obtain ⟨h2, hh2⟩ : ∃ h : UInt8, h = hexL.getD (M % 16) 0 := ⟨_, rfl⟩
        have hqb : quoteB s[k] = [92, h1, h2] := by rw [quoteB, hp, ← HM.out, ← hh1, ← hh2]; rfl
        have HQB := Lib.hid hqb
        have g1 : ∀ w, (Instr.index 9 (.string ⟨#[48, 49, 50, 51, 52, 53, 54, 55, 56, 57, 97, 98, 99, 100, 101, 102]⟩) (.int .u8 ((M : Int) / 16))).run Tryd.prog w = .ok (.int .u8 (h1.toNat : Int)) w := fun w => by
          rw [show (M : Int) / 16 = ((M / 16 : Nat) : Int) from by omega]
          exact index_str8 (P := Tryd.prog) Tryd.underlying9 (m := (h1.toNat : Int)) (hex_at (k := M / 16) (by omega)) (by rw [hh1]) w
        have g2 : ∀ w, (Instr.index 9 (.string ⟨#[48, 49, 50, 51, 52, 53, 54, 55, 56, 57, 97, 98, 99, 100, 101, 102]⟩) (.int .u8 ((M : Int) % 16))).run Tryd.prog w = .ok (.int .u8 (h2.toNat : Int)) w := fun w => by
          rw [show (M : Int) % 16 = ((M % 16 : Nat) : Int) from by omega]
          exact index_str8 (P := Tryd.prog) Tryd.underlying9 (m := (h2.toNat : Int)) (hex_at (k := M % 16) (by omega)) (by rw [hh2]) w
        have g3 : ∀ w, (Instr.index 9 (.string ⟨#[48, 49, 50, 51, 52, 53, 54, 55, 56, 57, 97, 98, 99, 100, 101, 102]⟩) (.int .u8 (bits BinOp.and IntKind.u8 (M : Int) 15))).run Tryd.prog w = .ok (.int .u8 (h2.toNat : Int)) w := fun w => by
          rw [and15 ⟨M, hM1⟩]; exact g2 w
        have HBL := bld_upd HB.out ((Upd.refl Nothing wr).alloc (.cells #[.int .u8 92, .int .u8 h1.toNat, .int .u8 h2.toNat] 5)).drew (fun _ e => e.elim)
        have hsrc : Bytes (At wr.heap.size) (wr.alloc (.cells #[.int .u8 92, .int .u8 h1.toNat, .int .u8 h2.toNat] 5)).drew (.slice (some ⟨wr.heap.size, 0, none⟩) 3 3) [92, h1, h2] := (row_new wr #[.int .u8 92, .int .u8 h1.toNat, .int .u8 h2.toNat] 5 3 wr.heap.size (by decide) rfl).upd (Upd.refl Nothing _).drew (fun _ _ e => e)
        have hS : ∀ k, At wr.heap.size k → ¬ k = w.heap.size := fun k e h => by unfold At at e; omega
        have q3 : 0 < ([92, h1, h2] : List UInt8).length := by simp
        have q4 : ((quoteAcc s k).map Go.Proofs.YtlhpcgmbbeihiaaDoor.u8).length + ([92, h1, h2] : List UInt8).length ≤ 140737488355328 := by simp; omega
        have hbase : w.heap.size ≤ (wr.alloc (.cells #[.int .u8 92, .int .u8 h1.toNat, .int .u8 h2.toNat] 5)).drew.heap.size := Nat.le_trans hus (le_drew_alloc _ _)
        have HXL := Lib.hid (show Ext w (wr.alloc (.cells #[.int .u8 92, .int .u8 h1.toNat, .int .u8 h2.toNat] 5)).drew from (HX.out.alloc _).drew)
        have hor2 : (32 ≤ (M : Int) → ((M : Int) ≤ 126 ∧ ((M : Int) == 34) = false ∧ ((M : Int) == 92) = true) ∨ ((M : Int) ≤ 126 ∧ ((M : Int) == 34) = true) ∨ 126 < (M : Int)) := fun h32 => by
          rcases hor with h | h | h | h
          · omega
          · exact .inr (.inr h)
          · exact .inr (.inl ⟨by omega, by simp [h]⟩)
          · exact .inl ⟨by omega, by simp [h], by simp [h]⟩
        have HOR := Lib.hid hor2
        clear hp hqb hh1 hh2 hor hor2
        by_cases h32 : 32 ≤ (M : Int)
        · rcases HOR.out h32 with ⟨a1, a2, a3⟩ | ⟨a1, a2⟩ | a1
          all_goals
            go_wp2_with fail
            go_region_with (go_at_call 60; refine (bld_write w.heap.size w.heap.size _ _ _ [92, h1, h2] HBL hsrc hS q3 q4 hbase).mono ?_; rintro e w6 ⟨⟨r, rfl⟩, hb6, hl6⟩)
            all_goals
              have HB6 := Lib.hid (show Lib.IsBuilder 107 5 w.heap.size w.heap.size ((quoteAcc s (k + 1)).map Go.Proofs.YtlhpcgmbbeihiaaDoor.u8) w6 from by rw [HSN.out, HQB.out, List.map_append]; exact hb6)
              have HL6 := Lib.hid hl6
              clear hb6 hl6
              go_wp2
              first
                | refine ⟨⟨k + 1, by omega, by go_num, HXL.out.till HL6.out (Nat.le_refl _), HB6.out⟩, ?measure⟩
                | (refine ⟨?_, ?measure⟩; repeat apply Exists.intro; refine ⟨⟨k + 1, by omega, by go_num, HXL.out.till HL6.out (Nat.le_refl _), HB6.out⟩, rfl⟩)
              case measure => simp [intOf]; omega
        · go_wp2_with fail
          go_region_with (go_at_call 60; refine (bld_write w.heap.size w.heap.size _ _ _ [92, h1, h2] HBL hsrc hS q3 q4 hbase).mono ?_; rintro e w6 ⟨⟨r, rfl⟩, hb6, hl6⟩)
          all_goals
            have HB6 := Lib.hid (show Lib.IsBuilder 107 5 w.heap.size w.heap.size ((quoteAcc s (k + 1)).map Go.Proofs.YtlhpcgmbbeihiaaDoor.u8) w6 from by rw [HSN.out, HQB.out, List.map_append]; exact hb6)
            have HL6 := Lib.hid hl6
            clear hb6 hl6
            go_wp2
            first
              | refine ⟨⟨k + 1, by omega, by go_num, HXL.out.till HL6.out (Nat.le_refl _), HB6.out⟩, ?measure⟩
              | (refine ⟨?_, ?measure⟩; repeat apply Exists.intro; refine ⟨⟨k + 1, by omega, by go_num, HXL.out.till HL6.out (Nat.le_refl _), HB6.out⟩, rfl⟩)
            case measure => simp [intOf]; omega
    · have hkl : k = s.length := by omega
      subst hkl
      go_wp2_with (go_at_call 59; fail)
      refine (bld_byte w.heap.size w.heap.size _ 34 _ HB.out (by simp; omega) hus).mono ?_
      rintro e w6 ⟨rfl, hb6, hl6⟩
      have hx6 := HX.out.till hl6 (Nat.le_refl _)
      have hb7 : Lib.IsBuilder 107 5 w.heap.size w.heap.size ((quoteF s).map Go.Proofs.YtlhpcgmbbeihiaaDoor.u8) w6 := by
        rw [quoteF, List.map_append]; exact hb6
      have HX6 := Lib.hid hx6
      have HB7 := Lib.hid hb7
      have hs6 := hx6.size
      clear hx6 hb7 hb6 hl6
      go_wp2_with (go_at_call 61; fail)
      refine (bld_string w.heap.size w.heap.size _ _ HB7.out hs6).mono ?_
      rintro e w7 ⟨rfl, hl7⟩
      have HX7 := Lib.hid (HX6.out.till hl7 (Nat.le_refl _))
      clear hl7
      go_wp2
      try rw [Exit.noGoto_ret]
      go_ret
      exact ⟨rfl, HX7.out⟩
end Go.Proofs.YtlhpcgmbbeihiaaDoor
