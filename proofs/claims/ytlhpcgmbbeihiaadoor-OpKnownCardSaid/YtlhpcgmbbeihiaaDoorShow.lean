/-
  CONTRACT of op.Show. Conditions: the library's table of powers of ten lies as it is laid; an answer of few bytes.
-/
import Derived.Test.YtlhpcgmbbeihiaaDoorQuote
import Derived.Test.YtlhpcgmbbeihiaaDoorNums
import Derived.Test.YtlhpcgmbbeihiaaDoorShelfJ
import Derived.Deep.CutRange
import Derived.Deep.RegionHeld3
import Derived.Lib.Join
namespace Go.Proofs.YtlhpcgmbbeihiaaDoor
open Go.RowKit

/-- An answer. -/
structure Ans where
  err : Int
  n : Int
  text : List UInt8
  names : List (List UInt8)
deriving DecidableEq
def ansCells (a : Ans) (v : Value) : Array Value := #[.int .i64 a.err, .int .u64 a.n, str a.text, v]
structure AnsIn (a : Ans) : Prop where
  e0 : -9223372036854775808 ≤ a.err
  e1 : a.err ≤ 9223372036854775807
  n0 : 0 ≤ a.n
  n1 : a.n < 18446744073709551616
/-- An answer of few bytes. -/
def AnsFew (a : Ans) : Prop := a.text.length ≤ 300 ∧ a.names.length ≤ 10 ∧ (∀ s ∈ a.names, s.length ≤ 100)
abbrev strs (l : List (List UInt8)) : List Value := l.map str
abbrev Texts (S : Nat → Prop) (w : World) (v : Value) (l : List (List UInt8)) : Prop := Row S w v l.length (strs l)
theorem strs_one (l : List (List UInt8)) : OneCells (strs l) := by intro u hu; obtain ⟨x, _, rfl⟩ := List.mem_map.1 hu; rfl
def showWords (a : Ans) (k : Nat) : List (List UInt8) := Lib.itoa a.err :: Lib.decDigits a.n.toNat :: quoteF a.text :: (a.names.take k).map quoteF
def showF (a : Ans) : List UInt8 := Lib.join (showWords a a.names.length) [32] ++ [10]
theorem Tryd.textsT : SliceT Tryd.prog 51 9 1 16 := sliceT_of Tryd.underlying51 (by kernel_rfl) (by decide)
theorem quoteF_len (s : List UInt8) : (quoteF s).length ≤ 2 + 3 * s.length := by
  have := quoteAcc_len s s.length
  rw [quoteF, List.length_append]; simp; omega
theorem itoa_len {n : Int} (h0 : -9223372036854775808 ≤ n) (h1 : n ≤ 9223372036854775807) : (Lib.itoa n).length ≤ 21 := by
  unfold Lib.itoa
  split
  · have := dec_len (u := n.natAbs) (by omega); simp; omega
  · have := dec_len (u := n.toNat) (by omega); omega
theorem join_len (xs : List (List UInt8)) (c : UInt8) (B : Nat) (h : ∀ x ∈ xs, x.length ≤ B) : (Lib.join xs [c]).length ≤ xs.length * (B + 1) := by
  cases xs with
  | nil => simp [Lib.join_nil]
  | cons x r =>
    rw [Lib.join_cons, List.length_append, Lib.joinTail]
    have h1 := h x (by simp)
    have h2 : ∀ l : List (List UInt8), (∀ y ∈ l, y.length ≤ B) → ((l.map ([c] ++ ·)).flatten).length ≤ l.length * (B + 1) := by
      intro l
      induction l with
      | nil => simp
      | cons y l ih =>
        intro hy
        have a1 := hy y (by simp)
        have a2 := ih fun z hz => hy z (by simp [hz])
        simp only [List.map_cons, List.flatten_cons, List.length_append, List.length_cons, List.length_nil, Nat.succ_mul] at a2 ⊢
        omega
    have h3 := h2 r fun y hy => h y (by simp [hy])
    rw [List.length_cons, Nat.succ_mul]; omega
theorem showWords_len {a : Ans} (hi : AnsIn a) (hf : AnsFew a) (k : Nat) : (showWords a k).length ≤ 13 ∧ ∀ x ∈ showWords a k, x.length ≤ 1000 := by
  obtain ⟨f1, f2, f3⟩ := hf
  refine ⟨by simp [showWords]; omega, fun x hx => ?_⟩
  unfold showWords at hx
  rcases List.mem_cons.1 hx with rfl | hx
  · have := itoa_len hi.e0 hi.e1; omega
  rcases List.mem_cons.1 hx with rfl | hx
  · have := dec_len (u := a.n.toNat) (by have := hi.n1; omega); omega
  rcases List.mem_cons.1 hx with rfl | hx
  · have := quoteF_len a.text; omega
  · obtain ⟨s, hs, rfl⟩ := List.mem_map.1 hx
    have h1 := f3 s (List.mem_of_mem_take hs)
    have := quoteF_len s; omega
theorem showWords_snoc {a : Ans} {k : Nat} (hk : k < a.names.length) : showWords a (k + 1) = showWords a k ++ [quoteF a.names[k]] := by
  unfold showWords
  rw [List.take_succ_eq_append_getElem hk, List.map_append]; simp
theorem texts_cell {l : List (List UInt8)} {w : World} {b o : Nat} (h : ∀ j u, (strs l)[j]? = some u → w.cell? ⟨b, o + j, none⟩ = some u) (k : Nat) (hk : k < l.length) :
    w.cell? ⟨b, o + k, none⟩ = some (str l[k]) := h k _ (by simp [hk])

set_option maxRecDepth 100000 in
set_option maxHeartbeats 4000000 in
theorem show_any {S : Nat → Prop} (w : World) (a : Ans) (v : Value) (h : Texts S w v a.names) (hi : AnsIn a) (hf : AnsFew a) (ht : Tab w) :
    Calls Tryd.prog 26 #[.agg (ansCells a v)] w fun e w' => e = .returned (str (showF a)) ∧ Ext w w' := by
  have hbx := newAt w (.cells (ansCells a v) 53)
  have hux : Ext w (w.alloc (.cells (ansCells a v) 53)) := (Upd.refl _ _).alloc _
  have HR := Lib.hid (h.ext hux)
  have HT := Lib.hid (tab_ext ht hux)
  obtain ⟨va, vc, rfl, -, -, -⟩ := h
  obtain ⟨N, hN⟩ : ∃ N : Nat, a.n = N := Int.eq_ofNat_of_zero_le hi.n0
  have hN64 : N < 18446744073709551616 := by have := hi.n1; omega
  have p0 : (w.alloc (.cells (ansCells a (.slice va a.names.length vc)) 53)).cell? ⟨w.heap.size, 0, none⟩ = some (.int .i64 a.err) := cellAt hbx 0 _ rfl
  have p1 : (w.alloc (.cells (ansCells a (.slice va a.names.length vc)) 53)).cell? ⟨w.heap.size, 1, none⟩ = some (.int .u64 N) := by rw [← hN]; exact cellAt hbx 1 _ rfl
  have p2 : (w.alloc (.cells (ansCells a (.slice va a.names.length vc)) 53)).cell? ⟨w.heap.size, 2, none⟩ = some (str a.text) := cellAt hbx 2 _ rfl
  have HN := Lib.hid hN
  obtain ⟨wb, hwb⟩ : ∃ wb, wb = w.alloc (.cells (ansCells a (.slice va a.names.length vc)) 53) := ⟨_, rfl⟩
  rw [← hwb] at hbx hux p0 p1 p2 HR HT
  have HBX := Lib.hid hbx
  have HUX := Lib.hid hux
  have HWB := Lib.hid hwb
  have hswb : w.heap.size < wb.heap.size := lt_of_heap hbx
  clear hbx hux hN hwb ht
  simp only [ansCells]
  go_enter Tryd.func26, Tryd.ntmps26
  go_wp2_with fail
  rw [show (w.alloc (.cells #[.int .i64 a.err, .int .u64 a.n, str a.text, .slice va a.names.length vc] 53)) = wb from HWB.out.symm]
  go_cut [3] from 6 to 15 (fun v3 wx => wx.ownsRow wb.heap.size 9 1 v3 3 (strs (showWords a 0)) ∧ Ext wb wx)
  case first =>
    have E := (Upd.refl Nothing wb).drew
    have hte : a.text.length ≤ 17592186044416 := by have := hf.1; omega
    have he0 := hi.e0
    have he1 := hi.e1
    go_region_held3 (fun w' => w'.cell? ⟨w.heap.size, 0, none⟩ = some (.int .i64 a.err) ∧ w'.cell? ⟨w.heap.size, 1, none⟩ = some (.int .u64 N) ∧ w'.cell? ⟨w.heap.size, 2, none⟩ = some (str a.text)) (first | go_keep | exact ⟨s0, s1, s2⟩)
      ((first
        | (go_at_call 54; refine (itoa_any _ a.err he0 he1 (tab_ext HT.out E)).mono ?_; rintro e wx ⟨rfl, hu⟩; have E := E.trans hu; have s0 := E.cell p0 (fun e => e); have s1 := E.cell p1 (fun e => e); have s2 := E.cell p2 (fun e => e))
        | (go_at_call 55; refine (fmtUint_any _ N hN64 (tab_ext HT.out E)).mono ?_; rintro e wx ⟨rfl, hu⟩; have E := E.trans hu; have s0 := E.cell p0 (fun e => e); have s1 := E.cell p1 (fun e => e); have s2 := E.cell p2 (fun e => e))
        | (go_at_call 29; refine (oQuote_any _ a.text hte).mono ?_; rintro e wx ⟨rfl, hu⟩; have E := E.trans hu; have s0 := E.cell p0 (fun e => e); have s1 := E.cell p1 (fun e => e); have s2 := E.cell p2 (fun e => e))))
    all_goals
      go_wp2_with fail
      go_meet
      case rel =>
        refine ⟨?_, E.alloc _⟩
        have h0 := own_lit wx #[str (Lib.itoa a.err), str (Lib.decDigits N), str (quoteF a.text)] 9 3 wb.heap.size wx.heap.size (by unfold maxLen; omega) rfl E.size rfl
        rw [show strs (showWords a 0) = [str (Lib.itoa a.err), str (Lib.decDigits N), str (quoteF a.text)] from by simp [showWords, HN.out]]
        exact h0
  case rest =>
    obtain ⟨hown, hx⟩ := hcut
    have HX := Lib.hid hx
    have HO := Lib.hid hown
    have p3 : wc.cell? ⟨w.heap.size, 3, none⟩ = some (.slice va a.names.length vc) := hx.cell (cellAt HBX.out 3 _ rfl) id
    have G := HR.out.addr
    have HG := Lib.hid G
    obtain ⟨f1, f2, f3⟩ := hf
    clear hx hown p0 p1 p2 G
    go_wp2
    go_loopw [3, 19] (fun v i wr => ∃ k : Nat, k ≤ a.names.length ∧ i = .int .i64 k ∧ Ext wb wr ∧ wr.ownsRow wb.heap.size 9 1 v (3 + k) (strs (showWords a k))) (fun _ i _ => a.names.length - (intOf i).toNat)
    case atStart => exact ⟨0, Nat.zero_le _, rfl, HX.out, HO.out⟩
    case round =>
      clear HO p3
      obtain ⟨k, hk, rfl, hx, hown⟩ := hrel
      have HX1 := Lib.hid hx
      by_cases hlt : k < a.names.length
      · obtain ⟨b1, o1, c1, e1, -, -, -, hq1⟩ := HG.out (by omega)
        cases e1
        have hc1 := hx.cell (texts_cell hq1 k hlt) id
        obtain ⟨s, hs⟩ : ∃ s, s = a.names[k] := ⟨_, rfl⟩
        rw [← hs] at hc1
        have hsl : s.length ≤ 17592186044416 := by have := f3 s (by rw [hs]; exact List.getElem_mem hlt); omega
        have HS := Lib.hid hs
        clear hx hq1 hs
        go_wp2_with (go_at_call 29; fail)
        refine (oQuote_any _ s hsl).mono ?_
        rintro e w5 ⟨rfl, hx5⟩
        have hown5 := hx5.ownsRow hown (fun _ _ e => e)
        have HX5 := Lib.hid (HX1.out.trans hx5)
        have hsz5 := HX5.out.size
        clear hx5 hown hc1
        obtain ⟨a1, n1, c2, rfl⟩ := ownsForm hown5
        go_wp2_with (at_builtin; go_must (refine wpList_append_row rfl _ _ _ rfl Tryd.textsT rfl (hown5.alloc _) rfl (row_new _ _ _ 1 _ (by decide) (by simp)) rfl (by intro u hu; simp at hu; subst hu; rfl) ?c3 ?c4 ?c5 ?_))
        case c3 => unfold maxLen; omega
        case c4 => omega
        case c5 => first | omega | (simp; omega)
        intro v' w6 hown6 hg _
        have hx6 := (HX5.out.alloc _).grown hg (fun j hj h => by have := (hown5.lt j hj).1; omega)
        have HX6 := Lib.hid hx6
        have HO6 := Lib.hid hown6
        clear hx6 hg hown6
        go_wp2
        go_roundw
        case rel =>
          refine ⟨k + 1, by omega, by go_num, HX6.out, ?_⟩
          rw [showWords_snoc hlt, ← HS.out, show strs (showWords a k ++ [quoteF s]) = strs (showWords a k) ++ [str (quoteF s)] from by simp]
          exact HO6.out
        case measure => simp [intOf]; omega
      · have hkl : k = a.names.length := by omega
        subst hkl
        have hlen : (showWords a a.names.length).length = 3 + a.names.length := by simp [showWords]; omega
        obtain ⟨g1, g2⟩ := showWords_len hi ⟨f1, f2, f3⟩ a.names.length
        have gj := join_len (showWords a a.names.length) 32 1000 g2
        have gj' : (Lib.join (showWords a a.names.length) [32]).length ≤ 13013 := Nat.le_trans gj (by have := Nat.mul_le_mul_right (1000 + 1) g1; omega)
        obtain ⟨b1, o1, c1, rfl, -, hn1, -, hq1⟩ := (Row.of_owns hown).addr (by omega)
        have hbk : b1 < wr.heap.size := by
          have := hq1 0 (str (Lib.itoa a.err)) (by simp [showWords])
          exact World.block_lt_of_cell? wr ⟨b1, o1 + 0, none⟩ this
        have hm : ((showWords a a.names.length).map (fun l => (⟨l.toArray⟩ : ByteArray))).map (·.data.toList) = showWords a a.names.length := by
          rw [List.map_map]
          conv => rhs; rw [← List.map_id (showWords a a.names.length)]
          exact List.map_congr_left fun l _ => rfl
        have hJ := Tryd.strings_Join b1 o1 c1 ((showWords a a.names.length).map (fun l => (⟨l.toArray⟩ : ByteArray))) ⟨#[32]⟩ wr
          (fun j x hj => by
            rw [List.getElem?_map] at hj
            obtain ⟨l, hl, rfl⟩ := Option.map_eq_some_iff.1 hj
            exact hq1 j (str l) (by rw [List.getElem?_map, hl]; rfl)) hbk (by rw [List.length_map]; omega) (by rw [List.length_map]; omega)
          (by rw [hm]; exact Nat.le_trans gj' (by omega))
        rw [hm, List.length_map, hlen] at hJ
        obtain ⟨J, hJl⟩ : ∃ J, J = Lib.join (showWords a a.names.length) [32] := ⟨_, rfl⟩
        rw [show (⟨#[32]⟩ : ByteArray).data.toList = [32] from rfl, ← hJl] at hJ
        rw [← hJl] at gj'
        have HJ := Lib.hid hJl
        have HJJ := Lib.hid hJ
        clear hJ hJl hm hq1 hown hlen g1 g2 gj
        go_wp2_with (go_at_call 56; fail)
        refine HJJ.out.mono ?_
        rintro e w5 ⟨rfl, hb5⟩
        go_wp2
        go_ret
        refine ⟨?_, ?_⟩
        · rw [showF, ← HJ.out]
          show Ending.returned (Value.string _) = _
          congr 2
          first | done | (apply ByteArray.ext; simp)
        · exact (HUX.out.trans HX1.out).trans ⟨hb5.os, hb5.tape, hb5.output, hb5.size, fun j hj _ => hb5.block j hj⟩
end Go.Proofs.YtlhpcgmbbeihiaaDoor
