/-
  CONTRACT of the law ViewKnown, by the other three laws' contracts. Condition: the library's variables lie as they are laid.
-/
import Derived.Test.YtfpioijfocmfcaaGreatDoorVTells
import Derived.Test.YtfpioijfocmfcaaGreatDoorYStays
import Derived.Test.YtfpioijfocmfcaaGreatDoorYOdd
import Derived.Deep.CutRange
import Derived.Deep.CutBlock
namespace Go.Proofs.YtfpioijfocmfcaaGreatDoor
open Go.RowKit

def ALLT : List (List UInt8) := [[115, 45, 49, 45, 49], [115, 45, 49, 45, 50], [115, 45, 49, 45, 51], [98, 45, 49, 45, 49], [98, 45, 49, 45, 50], [106, 45, 49, 45, 49, 45, 49, 45, 49], [116, 45, 49, 45, 49, 45, 49], [115, 45, 50, 45, 49], [120]]
def ALLC : Array Value := #[str [115, 45, 49, 45, 49], str [115, 45, 49, 45, 50], str [115, 45, 49, 45, 51], str [98, 45, 49, 45, 49], str [98, 45, 49, 45, 50], str [106, 45, 49, 45, 49, 45, 49, 45, 49], str [116, 45, 49, 45, 49, 45, 49], str [115, 45, 50, 45, 49], str [120]]
theorem allc_strs : ALLC.toList = strs ALLT := rfl
/-- A block's cells, from some place on, as a row. -/
theorem row_blk {S : Nat → Prop} {w : World} {b o m c : Nat} {cs : Array Value} {e : TypeId} {l : List Value} (h : w.heap[b]? = some (.cells cs e (0, 0))) (hm : m ≤ c) (hc : c ≤ maxLen) (hS : S b) (hl : ∀ j u, l[j]? = some u → cs[o + j]? = some u) : Row S w (.slice (some ⟨b, o, none⟩) m c) m l := by
  refine ⟨_, _, rfl, hm, hc, fun e => (by cases e), fun x e _ => by cases e; exact ⟨rfl, hS⟩, fun b' o' h' j u hj => ?_⟩
  cases h'
  exact cellAt h (o + j) u (hl j u hj)
theorem row_nil {S : Nat → Prop} (w : World) : Row S w (.slice none 0 0) 0 [] := ⟨_, _, rfl, Nat.le_refl _, Nat.zero_le _, fun _ => rfl, fun x e _ => (by cases e), fun b o h => (by cases h)⟩
/-- The world amid the law: two blocks lie as they were laid. -/
structure Kn (w : World) (ba bo : Nat) (wr : World) : Prop where
  all : wr.heap[ba]? = some (.cells ALLC 9 (0, 0))
  own : wr.heap[bo]? = some (.cells #[.int .u64 1, .int .u64 2, .int .u64 0] 61 (0, 0))
  ext : Ext w wr
theorem Kn.upd {S : Nat → Prop} {w w1 w2 : World} {ba bo : Nat} (h : Kn w ba bo w1) (hu : Upd S w1 w2) (hs : ∀ k, S k → w.heap.size ≤ k ∧ k ≠ ba ∧ k ≠ bo) : Kn w ba bo w2 :=
  ⟨hu.at_ h.all (fun e => (hs _ e).2.1 rfl), hu.at_ h.own (fun e => (hs _ e).2.2 rfl), h.ext.step hu (fun i hi e => by have := (hs _ e).1; omega)⟩
/-- A Keep that is laid in block bk. -/
structure Kq (w : World) (ba bo bk : Nat) (lv mv : Value) (ls : List (List UInt8)) (last : List Mk) (a c : Value) (need : List Mk) (q : Option Mk) (wx : World) : Prop where
  kn : Kn w ba bo wx
  blk : wx.heap[bk]? = some (.cells #[a, mv, c] 28 (0, 0))
  txt : Texts (Till bk) wx lv ls
  lst : MkRow (Till bk) wx mv last
  ned : MkRow (fun j => j ≠ bk ∧ j < wx.heap.size) wx a need
  own : OwnIs (fun j => j ≠ bk ∧ j < wx.heap.size) wx c q
theorem Kq.ext {w w1 w2 : World} {ba bo bk : Nat} {lv mv : Value} {ls : List (List UInt8)} {last : List Mk} {a c : Value} {need : List Mk} {q : Option Mk} (h : Kq w ba bo bk lv mv ls last a c need q w1) (hx : Ext w1 w2) : Kq w ba bo bk lv mv ls last a c need q w2 :=
  ⟨h.kn.upd hx (fun k e => e.elim), hx.at_ h.blk id, h.txt.ext hx, h.lst.ext hx, (h.ned.mono fun j hj => ⟨hj.1, Nat.lt_of_lt_of_le hj.2 hx.size⟩).ext hx, by
    have h2 := h.own.ext hx
    cases q with
    | none => exact h2
    | some q => obtain ⟨b, o, e, hs, hr⟩ := h2; exact ⟨b, o, e, ⟨hs.1, Nat.lt_of_lt_of_le hs.2 hx.size⟩, hr⟩⟩
theorem Kq.keep {w w1 : World} {ba bo bk : Nat} {lv mv : Value} {ls : List (List UInt8)} {last : List Mk} {a c : Value} {need : List Mk} {q : Option Mk} (h : Kq w ba bo bk lv mv ls last a c need q w1) : KeepIs (Till w1.heap.size) w1 a mv c ⟨need, last, q⟩ :=
  ⟨h.ned.mono fun _ hj => hj.2, h.lst.mono fun _ hj => Nat.lt_trans hj (lt_of_heap h.blk), by
    have h2 := h.own
    cases q with
    | none => exact h2
    | some q => obtain ⟨b, o, e, hs, hr⟩ := h2; exact ⟨b, o, e, hs.2, hr⟩⟩

theorem row_till {S : Nat → Prop} {w : World} {v : Value} {n : Nat} {cs : List Value} (h : Row S w v n cs) (hn : 0 < n → cs ≠ []) : Row (Till w.heap.size) w v n cs := by
  obtain ⟨a, c, rfl, h1, h2, h3, h4, h5⟩ := h
  refine ⟨a, c, rfl, h1, h2, h3, fun x e g => ⟨(h4 x e g).1, ?_⟩, h5⟩
  have hne : cs ≠ [] := g.elim hn id
  obtain ⟨b, o, sp⟩ := x
  obtain rfl : sp = none := (h4 _ e g).1
  cases cs with
  | nil => exact absurd rfl hne
  | cons u r =>
    have hc := h5 b o e 0 u rfl
    obtain ⟨c, ty, fr, hb, -⟩ := Sort.cells_of_cell? hc
    exact (Array.getElem?_eq_some_iff.1 hb).1
theorem strs_ne {l : List (List UInt8)} (h : 0 < l.length) : strs l ≠ [] := by
  cases l with
  | nil => simp at h
  | cons a r => simp [strs]
theorem Kq.own_set {w w1 : World} {ba bo bk : Nat} {lv mv : Value} {ls : List (List UInt8)} {last : List Mk} {a c : Value} {need : List Mk} {q : Option Mk} (h : Kq w ba bo bk lv mv ls last a c need q w1) (hq : ba ≠ bo ∧ w.heap.size ≤ ba ∧ w.heap.size ≤ bo) (hb : bo < bk ∧ ba < bk) :
    Kq w ba bo bk lv mv ls last a (.pointer (some ⟨bo, 0, none⟩)) need (some ⟨1, 2, 0⟩) (w1.setCell ⟨bk, 2, none⟩ (.pointer (some ⟨bo, 0, none⟩))) := by
  have hu := Upd.own w1 bk 2 (.pointer (some ⟨bo, 0, none⟩))
  have hk := h.kn.upd hu (fun k e => by unfold At at e; omega)
  refine ⟨hk, setAt h.blk, h.txt.upd hu (fun k e g => by unfold At at g; unfold Till at e; omega), h.lst.upd hu (fun k e g => by unfold At at g; unfold Till at e; omega), (h.ned.mono fun j hj => ⟨hj.1, Nat.lt_of_lt_of_le hj.2 hu.size⟩).upd hu (fun k e g => e.1 g), bo, 0, rfl, ⟨by omega, lt_of_heap hk.own⟩, fun j u hj => ?_⟩
  rw [Nat.zero_add]
  refine cellAt hk.own j u ?_
  rw [← hj]
  rcases j with _ | _ | _ | j <;> rfl
theorem Kq.need_set {w w1 w2 : World} {ba bo bk nb : Nat} {lv mv : Value} {ls : List (List UInt8)} {last : List Mk} {a c : Value} {need : List Mk} {q : Option Mk} (h : Kq w ba bo bk lv mv ls last a c need q w1) (hq : ba ≠ bo ∧ w.heap.size ≤ ba ∧ w.heap.size ≤ bo) (hb : bo < bk ∧ ba < bk)
    (hu : Upd (At bk) w1 w2) (h2 : w2.heap[bk]? = some (.cells #[.slice (some ⟨nb, 0, none⟩) 1 1, mv, c] 28 (0, 0))) (h3 : w2.heap[nb]? = some (.cells #[.int .u64 1, .int .u64 1, .int .u64 1] 61 (0, 0))) (hne : nb ≠ bk) :
    Kq w ba bo bk lv mv ls last (.slice (some ⟨nb, 0, none⟩) 1 1) c [⟨1, 1, 1⟩] q w2 := by
  refine ⟨h.kn.upd hu (fun k e => by unfold At at e; omega), h2, h.txt.upd hu (fun k e g => by unfold At at g; unfold Till at e; omega), h.lst.upd hu (fun k e g => by unfold At at g; unfold Till at e; omega), row_blk h3 (Nat.le_refl _) (by unfold maxLen; omega) ⟨hne, lt_of_heap h3⟩ (fun j u hj => ?_), ?_⟩
  · rw [Nat.zero_add, ← hj]
    rcases j with _ | _ | _ | j <;> rfl
  · have h4 := h.own
    cases q with
    | none => exact h4
    | some q =>
      obtain ⟨b, o, e, hs, hr⟩ := h4
      exact ⟨b, o, e, ⟨hs.1, Nat.lt_of_lt_of_le hs.2 hu.size⟩, fun j u hj => hu.cell (hr j u hj) hs.1⟩

set_option maxRecDepth 100000 in
set_option maxHeartbeats 16000000 in
theorem viewKnown_any (w : World) (hE : Env w) : Calls Tryz.prog 6 #[] w fun e w' => e = .returned (.bool true) ∧ Ext w w' := by
  have HE := Lib.hid hE
  clear hE
  have HT : Hid (∀ (S' : Nat → Prop) (w : World) (chain n : Nat) (a b c nw : Value) (k : Kp) (l : List (List UInt8)), KeepIs (Till w.heap.size) w a b c k → Texts S' w nw l → Env w → Calls Tryz.prog 4 #[.int .u64 chain, .int .u64 n, .agg #[a, b, c], nw] w fun e w' => e = .returned (.bool true) ∧ Ext w w') := Lib.hid fun S' w chain n a b c nw k l h3 h4 h5 => viewTells_any (S' := S') w chain n a b c nw k l h3 h4 h5
  have HST : Hid (∀ (S' : Nat → Prop) (w : World) (chain n : Nat) (a b c nw : Value) (k : Kp) (l : List (List UInt8)), chain < 18446744073709551616 → n < 18446744073709551616 → KeepIs (Till w.heap.size) w a b c k → Texts S' w nw l → Env w → Calls Tryz.prog 5 #[.int .u64 chain, .int .u64 n, .agg #[a, b, c], nw] w fun e w' => e = .returned (.bool true) ∧ Ext w w') := Lib.hid fun S' w chain n a b c nw k l h1 h2 h3 h4 h5 => viewStays_any (S' := S') w chain n a b c nw k l h1 h2 h3 h4 h5
  have HOD : Hid (∀ (S' : Nat → Prop) (w : World) (V : Vw) (a b c nw : Value) (k : Kp) (l : List (List UInt8)), KeepIs (Till w.heap.size) w a b c k → Texts S' w nw l → Env w → Calls Tryz.prog 3 #[.agg #[.int .u64 V.chain, .int .u64 V.floor, .int .u64 V.tail], .agg #[a, b, c], nw] w fun e w' => e = .returned (.bool true) ∧ Ext w w') := Lib.hid fun S' w V a b c nw k l h3 h4 h5 => viewOdd_any (S' := S') w a b c nw k V l h3 h4 h5
  obtain ⟨ba, hba⟩ : ∃ b, b = w.heap.size := ⟨_, rfl⟩
  obtain ⟨bo, hbo⟩ : ∃ b, b = w.heap.size + 1 := ⟨_, rfl⟩
  obtain ⟨w2, hw2⟩ : ∃ u, u = (w.alloc (.cells ALLC 9)).alloc (.cells #[.int .u64 1, .int .u64 2, .int .u64 0] 61) := ⟨_, rfl⟩
  have HK2 := Lib.hid (show Kn w ba bo w2 from ⟨by rw [hw2, hba]; exact (Below.heap_alloc _ _ _ (by simp)).trans (newAt _ _), by
    rw [hw2, hbo]; have := newAt (w.alloc (.cells ALLC 9)) (.cells #[.int .u64 1, .int .u64 2, .int .u64 0] 61); simpa using this, by rw [hw2]; exact ((Upd.refl _ _).alloc _).alloc _⟩)
  have HW2 := Lib.hid hw2
  have HBA := Lib.hid hba
  have HBO := Lib.hid hbo
  have HBQ := Lib.hid (show ba < w2.heap.size ∧ bo < w2.heap.size ∧ ba ≠ bo ∧ w.heap.size ≤ ba ∧ w.heap.size ≤ bo from ⟨lt_of_heap HK2.out.all, lt_of_heap HK2.out.own, by omega, by omega, by omega⟩)
  clear hw2 hba hbo
  go_enter Tryz.func6, Tryz.ntmps6
  go_wp2
  rw [show (w.alloc (.cells #[str [115, 45, 49, 45, 49], str [115, 45, 49, 45, 50], str [115, 45, 49, 45, 51], str [98, 45, 49, 45, 49], str [98, 45, 49, 45, 50], str [106, 45, 49, 45, 49, 45, 49, 45, 49], str [116, 45, 49, 45, 49, 45, 49], str [115, 45, 50, 45, 49], str [120]] 9)).alloc (.cells #[.int .u64 1, .int .u64 2, .int .u64 0] 61) = w2 from HW2.out.symm, ← HBO.out, ← HBA.out]
  go_loopw [3] (fun t wr => ∃ n : Nat, n ≤ 512 ∧ t = .int .i64 n ∧ Kn w ba bo wr) (fun t _ => 512 - (intOf t).toNat)
  case atStart => exact ⟨0, by omega, rfl, HK2.out⟩
  case round =>
    obtain ⟨n, hn, rfl, hk⟩ := hrel
    by_cases hlt : n < 512
    · obtain ⟨B, hB⟩ : ∃ B, B = wr.heap.size := ⟨_, rfl⟩
      have HB := Lib.hid hB
      have HAB := Lib.hid (show ba < B ∧ bo < B by rw [hB]; exact ⟨lt_of_heap hk.all, lt_of_heap hk.own⟩)
      have HKN := Lib.hid hk
      clear hB hk HK2
      have hltd : decide ((n : Int) < 512) = true := by simp; omega
      go_upto_block 2 with fail
      go_wp2_with fail
      clear hltd
      go_loopw [4, 5] (fun u t wr2 => ∃ (i : Nat) (ls : List (List UInt8)), i ≤ 9 ∧ t = .int .i64 i ∧ ls.length ≤ i ∧ Hid (∀ s ∈ ls, s ∈ ALLT) ∧ wr2.ownsRow B 9 1 u ls.length (strs ls) ∧ Kn w ba bo wr2 ∧ B ≤ wr2.heap.size) (fun _ t _ => 9 - (intOf t).toNat)
      case atStart => exact ⟨0, [], by omega, rfl, by simp, Lib.hid (fun s hs => by simp at hs), World.ownsRow_nil _ _ _ _, HKN.out, by have := HB.out; omega⟩
      case round =>
        obtain ⟨i, ls, hi, rfl, hls, HAL, hown, hk2, hB2⟩ := hrel
        obtain ⟨a3, n3, c3, rfl⟩ := ownsForm hown
        have HK2 := Lib.hid hk2
        have HOWN := Lib.hid hown
        by_cases hi9 : i < 9
        · have hc : wr.cell? ⟨ba, 8 - i, none⟩ = some (str (ALLT[8 - i]'(by show 8 - i < 9; omega))) := by
            refine cellAt hk2.all (8 - i) _ ?_
            have h := congrArg (fun l => l[8 - i]?) allc_strs
            simp only [Array.getElem?_toList] at h
            rw [h]
            unfold strs
            rw [List.getElem?_map, List.getElem?_eq_getElem (show 8 - i < ALLT.length by show 8 - i < 9; omega)]
            rfl
          have hm : (ALLT[8 - i]'(by show 8 - i < 9; omega)) ∈ ALLT := List.getElem_mem _
          generalize (ALLT[8 - i]'(by show 8 - i < 9; omega)) = s at hc hm
          have HM := Lib.hid hm
          clear hk2 hown hm
          go_wp2_with (at_builtin; go_must (refine wpList_append_row rfl _ _ _ rfl Tryz.textsT rfl (HOWN.out.alloc _) rfl (row_new _ _ _ 1 _ (by decide) (by simp)) rfl (strs_one [s]) ?c3 ?c4 ?c5 ?_))
          case c3 => unfold maxLen; omega
          case c4 => omega
          case c5 => have := hB2; first | omega | (simp; omega)
          intro v8 w8 hown8 hg _
          have hu8 : Upd (From B) wr w8 := ((Upd.refl _ _).alloc _).grown hg (fun j hj h => by have := (HOWN.out.lt j hj).1; unfold From; omega)
          have HK8 := Lib.hid (HK2.out.upd hu8 (fun k hk => by have h1 := HAB.out; have h2 := HBQ.out; unfold From at hk; omega))
          have HS8 := Lib.hid (Nat.le_trans hB2 hu8.size)
          have HO8 := Lib.hid (show w8.ownsRow B 9 1 v8 (ls ++ [s]).length (strs (ls ++ [s])) by
            rw [List.length_append, show strs (ls ++ [s]) = strs ls ++ [str s] by simp [strs]]; exact hown8)
          have HAL8 := Lib.hid (show ∀ x ∈ ls ++ [s], x ∈ ALLT from fun x hx => by
            rcases List.mem_append.1 hx with h | h
            · exact HAL.out x h
            · rw [List.mem_singleton.1 h]; exact HM.out)
          clear hu8 hown8 hg
          go_wp2
          go_roundw
          case rel => exact ⟨i + 1, ls ++ [s], by omega, by go_num, by simp; omega, HAL8, HO8.out, HK8.out, HS8.out⟩
          case measure => simp [intOf]; omega
          go_roundw
          case rel => exact ⟨i + 1, ls, by omega, by go_num, by omega, HAL, HOWN.out, HK2.out, hB2⟩
          case measure => simp [intOf]; omega
        · have HLS := Lib.hid hls
          clear hown hk2
          have HOWN2 := HOWN
          go_upto_region 12 with fail
          go_cut [6] from 32 to 40 (fun s6 wx => ∃ (bk : Nat) (mv : Value), s6 = .pointer (some ⟨bk, 0, none⟩) ∧ bo < bk ∧ ba < bk ∧ Kq w ba bo bk (.slice a3 n3 c3) mv ls [⟨1, n % 2, n % 3⟩] (.slice none 0 0) (.pointer none) [] none wx)
          case first =>
            have hcx := lt_of_heap HK2.out.all
            have hco := lt_of_heap HK2.out.own
            have e2 : ((n % 2 : Nat) : Int) = (n : Int) % 2 := by omega
            have e3 : ((n % 3 : Nat) : Int) = (n : Int) % 3 := by omega
            go_wp2_with fail
            go_meet
            case rel =>
              have hu : Upd Nothing wr ((wr.alloc (.cells #[.int .u64 1, .int .u64 ((n : Int) % 2), .int .u64 ((n : Int) % 3)] 61)).alloc (.cells #[.slice none 0 0, .slice (some ⟨wr.heap.size, 0, none⟩) 1 1, .pointer none] 28)) := ((Upd.refl _ _).alloc _).alloc _
              have h1 := (Below.heap_alloc (wr.alloc (.cells #[.int .u64 1, .int .u64 ((n : Int) % 2), .int .u64 ((n : Int) % 3)] 61)) (.cells #[.slice none 0 0, .slice (some ⟨wr.heap.size, 0, none⟩) 1 1, .pointer none] 28) wr.heap.size (by simp)).trans (newAt wr _)
              refine ⟨wr.heap.size + 1, .slice (some ⟨wr.heap.size, 0, none⟩) 1 1, by simp, by omega, by omega, HK2.out.upd hu (fun k e => e.elim), ?_, ?_, ?_, row_nil _, rfl⟩
              · have := newAt (wr.alloc (.cells #[.int .u64 1, .int .u64 ((n : Int) % 2), .int .u64 ((n : Int) % 3)] 61)) (.cells #[.slice none 0 0, .slice (some ⟨wr.heap.size, 0, none⟩) 1 1, .pointer none] 28)
                simpa using this
              · have hr := (Row.of_owns HOWN.out)
                have hr2 := (row_till hr strs_ne).mono (T := Till (wr.heap.size + 1)) (fun j hj => Nat.lt_succ_of_lt hj)
                exact Row.ext hr2 hu
              · refine row_blk h1 (Nat.le_refl _) (by unfold maxLen; omega) (Nat.lt_succ_self _) (fun j u hj => ?_)
                rw [Nat.zero_add, ← hj, show flatM [⟨1, n % 2, n % 3⟩] = [Value.int .u64 1, .int .u64 ((n : Int) % 2), .int .u64 ((n : Int) % 3)] by simp [flatM, encM]]
                rcases j with _ | _ | _ | j <;> rfl
          case rest =>
            obtain ⟨bk, mv, rfl, hbk1, hbk2, HKQ⟩ := hcut
            clear HK2 HOWN HOWN2 HAL
            go_upto_if 43 with fail
            go_cut [] from 32 to 89 (fun wx => ∃ (c : Value) (q : Option Mk), Kq w ba bo bk (.slice a3 n3 c3) mv ls [⟨1, n % 2, n % 3⟩] (.slice none 0 0) c [] q wx)
            case first =>
              have b0 := cellAt HKQ.blk 0 _ rfl
              have b1 := cellAt HKQ.blk 1 _ rfl
              have b2 := cellAt HKQ.blk 2 _ rfl
              have fr := freeAt HKQ.blk 2
              have bl := lt_of_heap HKQ.blk
              have HQ1 := Lib.hid HKQ
              have HBB := Lib.hid (And.intro hbk1 hbk2)
              clear HKQ
              by_cases h4 : n % 4 = 0
              · have g4 : ((n : Int) % 4 == 0) = true := by simp; omega
                clear h4
                go_wp2_with fail
                go_meet
                case rel => exact ⟨_, _, HQ1.out.own_set ⟨HBQ.out.2.2.1, HBQ.out.2.2.2.1, HBQ.out.2.2.2.2⟩ ⟨HBB.out.1, HBB.out.2⟩⟩
              · have g4 : ((n : Int) % 4 == 0) = false := by simp; omega
                clear h4
                go_wp2_with fail
                go_meet
                case rel => exact ⟨_, _, HQ1.out⟩
            case rest =>
              clear HKQ
              obtain ⟨c, q, HKQ⟩ := hcut
              go_upto_if 47 with fail
              go_cut [] from 32 to 89 (fun wx => ∃ (a c : Value) (need : List Mk) (q : Option Mk), Kq w ba bo bk (.slice a3 n3 c3) mv ls [⟨1, n % 2, n % 3⟩] a c need q wx)
              case first =>
                have b0 := cellAt HKQ.blk 0 _ rfl
                have b1 := cellAt HKQ.blk 1 _ rfl
                have b2 := cellAt HKQ.blk 2 _ rfl
                have fr := freeAt HKQ.blk 0
                have bl := lt_of_heap HKQ.blk
                have HQ1 := Lib.hid HKQ
                have HBB := Lib.hid (And.intro hbk1 hbk2)
                clear HKQ
                by_cases h7 : n % 7 = 0
                · have g7 : ((n : Int) % 7 == 0) = true := by simp; omega
                  clear h7
                  go_wp2_with fail
                  go_meet
                  case rel =>
                    refine ⟨_, _, _, _, HQ1.out.need_set (nb := wc.heap.size) ⟨HBQ.out.2.2.1, HBQ.out.2.2.2.1, HBQ.out.2.2.2.2⟩ ⟨HBB.out.1, HBB.out.2⟩ ((Upd.own _ _ _ _).alloc _) ?_ ?_ (by omega)⟩
                    · exact (Upd.refl Nothing _).alloc _ |>.at_ (setAt HQ1.out.blk) id
                    · have := newAt (wc.setCell ⟨bk, 0, none⟩ (.slice (some ⟨wc.heap.size, 0, none⟩) 1 1)) (.cells #[.int .u64 1, .int .u64 1, .int .u64 1] 61)
                      simpa [World.setCell] using this
                · have g7 : ((n : Int) % 7 == 0) = false := by simp; omega
                  clear h7
                  go_wp2_with fail
                  go_meet
                  case rel => exact ⟨_, _, _, _, HQ1.out⟩
              case rest =>
                clear HKQ
                obtain ⟨a, c', need, q', HKQ⟩ := hcut
                go_upto_region 17 with fail
                go_cut [89] from 32 to 89 (fun s89 wx => s89 = .bool false ∧ Kn w ba bo wx)
                case first =>
                  have HQ1 := Lib.hid HKQ
                  clear HKQ
                  by_cases h3 : n % 3 = 0
                  · by_cases h5 : n % 5 = 0
                    · have g3 : ((n : Int) % 3 == 0) = true := by simp; omega
                      have g5 : ((n : Int) % 5 == 0) = true := by simp; omega
                      clear h3 h5
                      have b0 := cellAt HQ1.out.blk 0 _ rfl
                      have b1 := cellAt HQ1.out.blk 1 _ rfl
                      have b2 := cellAt HQ1.out.blk 2 _ rfl
                      have bl := lt_of_heap HQ1.out.blk
                      have hcT := HT.out _ wc 1 (n % 4) a mv c' (.slice a3 n3 c3) ⟨need, [⟨1, n % 2, n % 3⟩], q'⟩ ls HQ1.out.keep HQ1.out.txt (HE.out.ext HQ1.out.kn.ext)
                      rw [show ((n % 4 : Nat) : Int) = (n : Int) % 4 by omega] at hcT
                      have HCT := Lib.hid hcT
                      clear hcT
                      go_wp2_with (go_at_call 4; fail)
                      refine HCT.out.mono ?_
                      rintro e w3 ⟨rfl, hx3⟩
                      have HQ2 := Lib.hid (HQ1.out.ext hx3)
                      clear hx3 b0 b1 b2 bl HCT
                      have b0 := cellAt HQ2.out.blk 0 _ rfl
                      have b1 := cellAt HQ2.out.blk 1 _ rfl
                      have b2 := cellAt HQ2.out.blk 2 _ rfl
                      have bl := lt_of_heap HQ2.out.blk
                      have hcS := HST.out _ w3 1 (n % 6) a mv c' (.slice a3 n3 c3) ⟨need, [⟨1, n % 2, n % 3⟩], q'⟩ ls (by omega) (by omega) HQ2.out.keep HQ2.out.txt (HE.out.ext HQ2.out.kn.ext)
                      rw [show ((n % 6 : Nat) : Int) = (n : Int) % 6 by omega] at hcS
                      have HCS := Lib.hid hcS
                      clear hcS
                      go_wp2_with (go_at_call 5; fail)
                      refine HCS.out.mono ?_
                      rintro e w4 ⟨rfl, hx4⟩
                      have HQ3 := Lib.hid (HQ2.out.ext hx4)
                      clear hx4 b0 b1 b2 bl HCS
                      have b0 := cellAt HQ3.out.blk 0 _ rfl
                      have b1 := cellAt HQ3.out.blk 1 _ rfl
                      have b2 := cellAt HQ3.out.blk 2 _ rfl
                      have bl := lt_of_heap HQ3.out.blk
                      have hcO := HOD.out _ w4 ⟨n % 3, n % 4, 0⟩ a mv c' (.slice a3 n3 c3) ⟨need, [⟨1, n % 2, n % 3⟩], q'⟩ ls HQ3.out.keep HQ3.out.txt (HE.out.ext HQ3.out.kn.ext)
                      simp only [show ((n % 4 : Nat) : Int) = (n : Int) % 4 by omega, show ((n % 3 : Nat) : Int) = (n : Int) % 3 by omega] at hcO
                      have HCO := Lib.hid hcO
                      clear hcO
                      go_wp2_with (go_at_call 3; fail)
                      refine HCO.out.mono ?_
                      rintro e w5 ⟨rfl, hx5⟩
                      have HQ4 := Lib.hid (HQ3.out.ext hx5)
                      clear hx5 b0 b1 b2 bl HCO
                      go_wp2_with fail
                      go_meet
                      case rel => exact ⟨by first | rfl | simp, HQ4.out.kn⟩
                    · have g3 : ((n : Int) % 3 == 0) = true := by simp; omega
                      have g5 : ((n : Int) % 5 == 0) = false := by simp; omega
                      clear h3 h5
                      have b0 := cellAt HQ1.out.blk 0 _ rfl
                      have b1 := cellAt HQ1.out.blk 1 _ rfl
                      have b2 := cellAt HQ1.out.blk 2 _ rfl
                      have bl := lt_of_heap HQ1.out.blk
                      have hcT := HT.out _ wc 1 (n % 4) a mv c' (.slice a3 n3 c3) ⟨need, [⟨1, n % 2, n % 3⟩], q'⟩ ls HQ1.out.keep HQ1.out.txt (HE.out.ext HQ1.out.kn.ext)
                      rw [show ((n % 4 : Nat) : Int) = (n : Int) % 4 by omega] at hcT
                      have HCT := Lib.hid hcT
                      clear hcT
                      go_wp2_with (go_at_call 4; fail)
                      refine HCT.out.mono ?_
                      rintro e w3 ⟨rfl, hx3⟩
                      have HQ2 := Lib.hid (HQ1.out.ext hx3)
                      clear hx3 b0 b1 b2 bl HCT
                      have b0 := cellAt HQ2.out.blk 0 _ rfl
                      have b1 := cellAt HQ2.out.blk 1 _ rfl
                      have b2 := cellAt HQ2.out.blk 2 _ rfl
                      have bl := lt_of_heap HQ2.out.blk
                      have hcS := HST.out _ w3 1 (n % 6) a mv c' (.slice a3 n3 c3) ⟨need, [⟨1, n % 2, n % 3⟩], q'⟩ ls (by omega) (by omega) HQ2.out.keep HQ2.out.txt (HE.out.ext HQ2.out.kn.ext)
                      rw [show ((n % 6 : Nat) : Int) = (n : Int) % 6 by omega] at hcS
                      have HCS := Lib.hid hcS
                      clear hcS
                      go_wp2_with (go_at_call 5; fail)
                      refine HCS.out.mono ?_
                      rintro e w4 ⟨rfl, hx4⟩
                      have HQ3 := Lib.hid (HQ2.out.ext hx4)
                      clear hx4 b0 b1 b2 bl HCS
                      have b0 := cellAt HQ3.out.blk 0 _ rfl
                      have b1 := cellAt HQ3.out.blk 1 _ rfl
                      have b2 := cellAt HQ3.out.blk 2 _ rfl
                      have bl := lt_of_heap HQ3.out.blk
                      go_wp2_with fail
                      go_meet
                      case rel => exact ⟨by first | rfl | simp, HQ3.out.kn⟩
                  · by_cases h5 : n % 5 = 0
                    · have g3 : ((n : Int) % 3 == 0) = false := by simp; omega
                      have g5 : ((n : Int) % 5 == 0) = true := by simp; omega
                      clear h3 h5
                      have b0 := cellAt HQ1.out.blk 0 _ rfl
                      have b1 := cellAt HQ1.out.blk 1 _ rfl
                      have b2 := cellAt HQ1.out.blk 2 _ rfl
                      have bl := lt_of_heap HQ1.out.blk
                      have hcT := HT.out _ wc 1 (n % 4) a mv c' (.slice a3 n3 c3) ⟨need, [⟨1, n % 2, n % 3⟩], q'⟩ ls HQ1.out.keep HQ1.out.txt (HE.out.ext HQ1.out.kn.ext)
                      rw [show ((n % 4 : Nat) : Int) = (n : Int) % 4 by omega] at hcT
                      have HCT := Lib.hid hcT
                      clear hcT
                      go_wp2_with (go_at_call 4; fail)
                      refine HCT.out.mono ?_
                      rintro e w3 ⟨rfl, hx3⟩
                      have HQ2 := Lib.hid (HQ1.out.ext hx3)
                      clear hx3 b0 b1 b2 bl HCT
                      have b0 := cellAt HQ2.out.blk 0 _ rfl
                      have b1 := cellAt HQ2.out.blk 1 _ rfl
                      have b2 := cellAt HQ2.out.blk 2 _ rfl
                      have bl := lt_of_heap HQ2.out.blk
                      have hcO := HOD.out _ w3 ⟨n % 3, n % 4, 0⟩ a mv c' (.slice a3 n3 c3) ⟨need, [⟨1, n % 2, n % 3⟩], q'⟩ ls HQ2.out.keep HQ2.out.txt (HE.out.ext HQ2.out.kn.ext)
                      simp only [show ((n % 4 : Nat) : Int) = (n : Int) % 4 by omega, show ((n % 3 : Nat) : Int) = (n : Int) % 3 by omega] at hcO
                      have HCO := Lib.hid hcO
                      clear hcO
                      go_wp2_with (go_at_call 3; fail)
                      refine HCO.out.mono ?_
                      rintro e w5 ⟨rfl, hx5⟩
                      have HQ4 := Lib.hid (HQ2.out.ext hx5)
                      clear hx5 b0 b1 b2 bl HCO
                      go_wp2_with fail
                      go_meet
                      case rel => exact ⟨by first | rfl | simp, HQ4.out.kn⟩
                    · have g3 : ((n : Int) % 3 == 0) = false := by simp; omega
                      have g5 : ((n : Int) % 5 == 0) = false := by simp; omega
                      clear h3 h5
                      have b0 := cellAt HQ1.out.blk 0 _ rfl
                      have b1 := cellAt HQ1.out.blk 1 _ rfl
                      have b2 := cellAt HQ1.out.blk 2 _ rfl
                      have bl := lt_of_heap HQ1.out.blk
                      have hcT := HT.out _ wc 1 (n % 4) a mv c' (.slice a3 n3 c3) ⟨need, [⟨1, n % 2, n % 3⟩], q'⟩ ls HQ1.out.keep HQ1.out.txt (HE.out.ext HQ1.out.kn.ext)
                      rw [show ((n % 4 : Nat) : Int) = (n : Int) % 4 by omega] at hcT
                      have HCT := Lib.hid hcT
                      clear hcT
                      go_wp2_with (go_at_call 4; fail)
                      refine HCT.out.mono ?_
                      rintro e w3 ⟨rfl, hx3⟩
                      have HQ2 := Lib.hid (HQ1.out.ext hx3)
                      clear hx3 b0 b1 b2 bl HCT
                      have b0 := cellAt HQ2.out.blk 0 _ rfl
                      have b1 := cellAt HQ2.out.blk 1 _ rfl
                      have b2 := cellAt HQ2.out.blk 2 _ rfl
                      have bl := lt_of_heap HQ2.out.blk
                      go_wp2_with fail
                      go_meet
                      case rel => exact ⟨by first | rfl | simp, HQ2.out.kn⟩
                case rest =>
                  obtain ⟨rfl, hkn⟩ := hcut
                  clear HKQ
                  go_wp2_with fail
                  go_roundw
                  case rel => exact ⟨n + 1, by omega, by go_num, hkn⟩
                  case measure => simp [intOf]; omega
    · have HN0 := Lib.hid hk
      clear hk HK2
      have HC1 := Lib.hid (show Calls Tryz.prog 23 #[.int .u64 0, .int .u64 18446744073709551615] wr (fun e w' => e = .returned (str (putF ⟨1, 0, 18446744073709551615, 0, 0, 0⟩)) ∧ Ext wr w') from ofSlot_any wr 0 18446744073709551615 (by decide) (by decide) (HE.out.ext HN0.out.ext).tab)
      go_wp2_with (go_at_call 23; fail)
      refine HC1.out.mono ?_
      rintro e w1 ⟨rfl, hx1⟩
      obtain ⟨s1, hs1⟩ : ∃ s, s = putF ⟨1, 0, 18446744073709551615, 0, 0, 0⟩ := ⟨_, rfl⟩
      rw [← hs1]
      have HN1 := Lib.hid (HN0.out.upd hx1 (fun k e => e.elim))
      clear hx1 hs1 HC1
      have HC2 := Lib.hid (show Calls Tryz.prog 24 #[.int .u64 0, .int .u64 18446744073709551614] w1 (fun e w' => e = .returned (str (putF ⟨2, 0, 18446744073709551614, 0, 0, 0⟩)) ∧ Ext w1 w') from ofBase_any w1 0 18446744073709551614 (by decide) (by decide) (HE.out.ext HN1.out.ext).tab)
      go_wp2_with (go_at_call 24; fail)
      refine HC2.out.mono ?_
      rintro e w2 ⟨rfl, hx2⟩
      obtain ⟨s2, hs2⟩ : ∃ s, s = putF ⟨2, 0, 18446744073709551614, 0, 0, 0⟩ := ⟨_, rfl⟩
      rw [← hs2]
      have HN2 := Lib.hid (HN1.out.upd hx2 (fun k e => e.elim))
      clear hx2 hs2 HC2
      have HC3 := Lib.hid (show Calls Tryz.prog 23 #[.int .u64 0, .int .u64 0] w2 (fun e w' => e = .returned (str (putF ⟨1, 0, 0, 0, 0, 0⟩)) ∧ Ext w2 w') from ofSlot_any w2 0 0 (by decide) (by decide) (HE.out.ext HN2.out.ext).tab)
      go_wp2_with (go_at_call 23; fail)
      refine HC3.out.mono ?_
      rintro e w3 ⟨rfl, hx3⟩
      obtain ⟨s3, hs3⟩ : ∃ s, s = putF ⟨1, 0, 0, 0, 0, 0⟩ := ⟨_, rfl⟩
      rw [← hs3]
      have HN3 := Lib.hid (HN2.out.upd hx3 (fun k e => e.elim))
      clear hx3 hs3 HC3
      have HC4 := Lib.hid (show Calls Tryz.prog 23 #[.int .u64 0, .int .u64 18446744073709551614] w3 (fun e w' => e = .returned (str (putF ⟨1, 0, 18446744073709551614, 0, 0, 0⟩)) ∧ Ext w3 w') from ofSlot_any w3 0 18446744073709551614 (by decide) (by decide) (HE.out.ext HN3.out.ext).tab)
      go_wp2_with (go_at_call 23; fail)
      refine HC4.out.mono ?_
      rintro e w4 ⟨rfl, hx4⟩
      obtain ⟨s4, hs4⟩ : ∃ s, s = putF ⟨1, 0, 18446744073709551614, 0, 0, 0⟩ := ⟨_, rfl⟩
      rw [← hs4]
      have HN4 := Lib.hid (HN3.out.upd hx4 (fun k e => e.elim))
      clear hx4 hs4 HC4
      go_upto_region 21 with fail
      obtain ⟨ge, hge⟩ : ∃ g, g = w4.heap.size := ⟨_, rfl⟩
      obtain ⟨w5, hw5⟩ : ∃ u, u = w4.alloc (.cells #[str s1, str s2, str s3, str s4, str [115, 45, 48, 45, 48], str [98, 45, 48, 45, 48], str [115, 45, 48, 45, 48, 49], str [115, 45, 48, 45, 49, 56, 52, 52, 54, 55, 52, 52, 48, 55, 51, 55, 48, 57, 53, 53, 49, 54, 49, 54]] 9) := ⟨_, rfl⟩
      have hx5 : Ext w4 w5 := by rw [hw5]; exact (Upd.refl _ _).alloc _
      have HG5 := Lib.hid (show w5.heap[ge]? = some (.cells #[str s1, str s2, str s3, str s4, str [115, 45, 48, 45, 48], str [98, 45, 48, 45, 48], str [115, 45, 48, 45, 48, 49], str [115, 45, 48, 45, 49, 56, 52, 52, 54, 55, 52, 52, 48, 55, 51, 55, 48, 57, 53, 53, 49, 54, 49, 54]] 9 (0, 0)) by rw [hw5, hge]; exact newAt _ _)
      have HN5 := Lib.hid (HN4.out.upd hx5 (fun k e => e.elim))
      rw [show w4.alloc (.cells #[str s1, str s2, str s3, str s4, str [115, 45, 48, 45, 48], str [98, 45, 48, 45, 48], str [115, 45, 48, 45, 48, 49], str [115, 45, 48, 45, 49, 56, 52, 52, 54, 55, 52, 52, 48, 55, 51, 55, 48, 57, 53, 53, 49, 54, 49, 54]] 9) = w5 from hw5.symm, ← hge]
      have ZK0 := Lib.hid (show ∀ wz : World, KeepIs (Till wz.heap.size) wz (.slice none 0 0) (.slice none 0 0) (.pointer none) ⟨[], [], none⟩ from fun wz => ⟨row_nil wz, row_nil wz, rfl⟩)
      have TX := Lib.hid (show ∀ wz : World, Ext w5 wz → Texts (fun _ => True) wz (.slice (some ⟨ge, 0, none⟩) 8 8) [s1, s2, s3, s4, [115, 45, 48, 45, 48], [98, 45, 48, 45, 48], [115, 45, 48, 45, 48, 49], [115, 45, 48, 45, 49, 56, 52, 52, 54, 55, 52, 52, 48, 55, 51, 55, 48, 57, 53, 53, 49, 54, 49, 54]] from fun wz hz => row_blk (hz.at_ HG5.out id) (Nat.le_refl _) (by unfold maxLen; omega) trivial (fun j u hj => by
        rw [Nat.zero_add]
        rcases j with _ | _ | _ | _ | _ | _ | _ | _ | j <;> first | exact hj | cases hj))
      have TX2 := Lib.hid (show ∀ wz : World, Ext w5 wz → Texts (fun _ => True) wz (.slice (some ⟨ge, 2, none⟩) 6 6) [s3, s4, [115, 45, 48, 45, 48], [98, 45, 48, 45, 48], [115, 45, 48, 45, 48, 49], [115, 45, 48, 45, 49, 56, 52, 52, 54, 55, 52, 52, 48, 55, 51, 55, 48, 57, 53, 53, 49, 54, 49, 54]] from fun wz hz => row_blk (hz.at_ HG5.out id) (Nat.le_refl _) (by unfold maxLen; omega) trivial (fun j u hj => by
        rcases j with _ | _ | _ | _ | _ | _ | j <;> first | exact hj | cases hj))
      have TX0 := Lib.hid (show ∀ wz : World, Texts (fun _ => True) wz (.slice none 0 0) [] from fun wz => row_nil wz)
      have OW := Lib.hid (show ∀ wz : World, Kn w ba bo wz → KeepIs (Till wz.heap.size) wz (.slice none 0 0) (.slice none 0 0) (.pointer (some ⟨bo, 0, none⟩)) ⟨[], [], some ⟨1, 2, 0⟩⟩ from fun wz hz => ⟨row_nil wz, row_nil wz, bo, 0, rfl, lt_of_heap hz.own, fun j u hj => by
        rw [Nat.zero_add]
        refine cellAt hz.own j u ?_
        rw [← hj]
        rcases j with _ | _ | _ | j <;> rfl⟩)
      clear hge hw5 hx5
      have HX5 := Lib.hid (Upd.refl Nothing w5)
      have HC := Lib.hid (show Calls Tryz.prog 4 #[.int .u64 0, .int .u64 18446744073709551615, .agg #[.slice none 0 0, .slice none 0 0, .pointer none], .slice (some ⟨ge, 0, none⟩) 8 8] w5 (fun e w' => e = .returned (.bool true) ∧ Ext w5 w') from HT.out _ w5 0 18446744073709551615 _ _ _ _ _ _ (ZK0.out w5) (TX.out w5 HX5.out) (HE.out.ext HN5.out.ext))
      go_wp2_with (go_at_call 4; fail)
      refine HC.out.mono ?_
      rintro e w6 ⟨rfl, hx6⟩
      have HN6 := Lib.hid (HN5.out.upd hx6 (fun k e => e.elim))
      have HX6 := Lib.hid (HX5.out.trans hx6)
      clear hx6 HC
      have HC := Lib.hid (show Calls Tryz.prog 5 #[.int .u64 0, .int .u64 5, .agg #[.slice none 0 0, .slice none 0 0, .pointer none], .slice (some ⟨ge, 0, none⟩) 8 8] w6 (fun e w' => e = .returned (.bool true) ∧ Ext w6 w') from HST.out _ w6 0 5 _ _ _ _ _ _ (by decide) (by decide) (ZK0.out w6) (TX.out w6 HX6.out) (HE.out.ext HN6.out.ext))
      go_wp2_with (go_at_call 5; fail)
      refine HC.out.mono ?_
      rintro e w7 ⟨rfl, hx7⟩
      have HN7 := Lib.hid (HN6.out.upd hx7 (fun k e => e.elim))
      have HX7 := Lib.hid (HX6.out.trans hx7)
      clear hx7 HC
      have HC := Lib.hid (show Calls Tryz.prog 4 #[.int .u64 0, .int .u64 0, .agg #[.slice none 0 0, .slice none 0 0, .pointer none], .slice (some ⟨ge, 2, none⟩) 6 6] w7 (fun e w' => e = .returned (.bool true) ∧ Ext w7 w') from HT.out _ w7 0 0 _ _ _ _ _ _ (ZK0.out w7) (TX2.out w7 HX7.out) (HE.out.ext HN7.out.ext))
      go_wp2_with (go_at_call 4; fail)
      refine HC.out.mono ?_
      rintro e w8 ⟨rfl, hx8⟩
      have HN8 := Lib.hid (HN7.out.upd hx8 (fun k e => e.elim))
      have HX8 := Lib.hid (HX7.out.trans hx8)
      clear hx8 HC
      have HC := Lib.hid (show Calls Tryz.prog 5 #[.int .u64 3, .int .u64 0, .agg #[.slice none 0 0, .slice none 0 0, .pointer none], .slice none 0 0] w8 (fun e w' => e = .returned (.bool true) ∧ Ext w8 w') from HST.out _ w8 3 0 _ _ _ _ _ _ (by decide) (by decide) (ZK0.out w8) (TX0.out w8) (HE.out.ext HN8.out.ext))
      go_wp2_with (go_at_call 5; fail)
      refine HC.out.mono ?_
      rintro e w9 ⟨rfl, hx9⟩
      have HN9 := Lib.hid (HN8.out.upd hx9 (fun k e => e.elim))
      have HX9 := Lib.hid (HX8.out.trans hx9)
      clear hx9 HC
      have HC := Lib.hid (show Calls Tryz.prog 3 #[.agg #[.int .u64 0, .int .u64 18446744073709551615, .int .u64 2], .agg #[.slice none 0 0, .slice none 0 0, .pointer (some ⟨bo, 0, none⟩)], .slice (some ⟨ge, 0, none⟩) 8 8] w9 (fun e w' => e = .returned (.bool true) ∧ Ext w9 w') from HOD.out _ w9 ⟨0, 18446744073709551615, 2⟩ _ _ _ _ _ _ (OW.out w9 HN9.out) (TX.out w9 HX9.out) (HE.out.ext HN9.out.ext))
      go_wp2_with (go_at_call 3; fail)
      refine HC.out.mono ?_
      rintro e w10 ⟨rfl, hx10⟩
      have HN10 := Lib.hid (HN9.out.upd hx10 (fun k e => e.elim))
      have HX10 := Lib.hid (HX9.out.trans hx10)
      clear hx10 HC
      go_wp2_with (go_at_call 8; fail)
      refine (works_any w10).mono ?_
      rintro e w11 ⟨rfl, hx11⟩
      have HN11 := Lib.hid (HN10.out.upd hx11 (fun k e => e.elim))
      go_wp2
      go_ret
      exact ⟨rfl, HN11.out.ext⟩
end Go.Proofs.YtfpioijfocmfcaaGreatDoor
