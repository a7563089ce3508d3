/-
  CONTRACT of the law ScriptKnown (a closed statement): it hands back true.
-/
import Derived.Test.YtlhpcgmbbeihiaaWrites
import Derived.Test.YtlhpcgmbbeihiaaGFar
import Derived.Laws.OwnMore
import Derived.Great.BuildSlice
namespace Go.Proofs.Ytlhpcgmbbeihiaa
open Go.RowKit

theorem bytes_take {S : Nat → Prop} {w : World} {a : Option Addr} {n c : Nat} {l : List UInt8} (h : Bytes S w (.slice a n c) l) (m : Nat) (hm : m ≤ l.length) : Bytes S w (.slice a m c) (l.take m) := by
  obtain ⟨a', c', e, h1, h2, h3, h4, h5⟩ := h
  cases e
  have hl : (l.take m).length = m := by rw [List.length_take]; omega
  refine ⟨a, c, by rw [hl], by omega, h2, h3, fun x e g => h4 x e ?_, fun b o e j u hj => h5 b o e j u ?_⟩
  · rcases g with g | g
    · exact .inl (by omega)
    · refine .inr fun h0 => g ?_
      have : l = [] := by simpa using h0
      subst this; simp
  · have hjm : j < m := by have := (List.getElem?_eq_some_iff.1 hj).1; simp at this; omega
    rw [List.map_take, List.getElem?_take_of_lt hjm] at hj
    exact hj

theorem bytes_far {w : World} {B g : Nat} {l0 : List UInt8} (h : w.ownsRow B 5 1 (.slice (some ⟨g, 0, none⟩) 65540 65540) 65540 (l0.map u8)) (hl : l0.length = 65540) : Bytes (Till w.heap.size) w (.slice (some ⟨g, 0, none⟩) (l0.take 65536).length 65540) (l0.take 65536) := by
  have h1 : (l0.take 65536).length = 65536 := by rw [List.length_take, hl]; rfl
  rw [h1]
  have h2 : Bytes (Till w.heap.size) w (.slice (some ⟨g, 0, none⟩) 65540 65540) l0 := by
    have := (row_in h).mono (fun k hk => hk.2) (T := Till w.heap.size)
    show Row _ _ _ l0.length _
    rw [hl]
    exact this
  exact bytes_take h2 65536 (by rw [hl]; decide)
theorem longZ_at {w : World} {B g : Nat} (h : w.ownsRow B 5 1 (.slice (some ⟨g, 0, none⟩) 65540 65540) 65540 (longZ.map u8)) : w.cell? ⟨g, 65535, none⟩ = some (.int .u8 0) := by
  obtain ⟨b, o, c, hv, -, -, -, hcell⟩ := (Row.of_owns h).addr (by decide)
  cases hv
  have := hcell 65535 (.int .u8 0) (by rw [List.getElem?_map, longZ, List.getElem?_replicate, if_pos (by decide)]; rfl)
  rw [Nat.zero_add] at this; exact this
theorem readF_good (l : List UInt8) : ∃ n : Int, ∀ x ∈ (readF l).2, EvGood n x := ⟨_, eventsF_goodEv _ (by omega) (by omega) _ _⟩
theorem longE_good : ∃ n : Int, ∀ x ∈ longE, EvGood n x := by
  obtain ⟨n, h⟩ := readF_good longL
  rw [read_long] at h
  exact ⟨n, h⟩
theorem longE_wf : ∀ x ∈ longE, EvWf x := fun x hx => by
  obtain ⟨n, h⟩ := longE_good
  exact goodEv_wf (h x hx)
theorem longE_cap : evsum longE < 70368744160000 := by
  obtain ⟨n, h⟩ := longE_good
  have := goodEvs_cap longE h
  rw [longE_len] at this; omega
theorem longE_err : wErr (writeF ⟨1, 0, 16, 1⟩ longE) = 3 := by
  unfold wErr; rw [write_long.1, if_neg (by decide), if_pos write_long.2]
theorem evs_nil (S : Nat → Prop) (w : World) : EvsRow S w (.slice none 0 0) [] := ⟨[], rfl, Row.nil _ _, fun i cs e h => by simp at h⟩
/-- Bytes as they were met. -/
theorem u8s {cs : List Value} (h : ∀ u ∈ cs, ∃ n : Int, u = .int .u8 n ∧ 0 ≤ n ∧ n < 256) : ∃ l : List UInt8, cs = l.map u8 ∧ l.length = cs.length := by
  induction cs with
  | nil => exact ⟨[], rfl, rfl⟩
  | cons u cs ih =>
    obtain ⟨l, hl, hn⟩ := ih fun x hx => h x (by simp [hx])
    obtain ⟨n, rfl, h0, h1⟩ := h u (by simp)
    refine ⟨UInt8.ofNat n.toNat :: l, ?_, by simp [hn]⟩
    rw [hl, List.map_cons]
    congr 1
    show Value.int .u8 n = .int .u8 _
    congr 1
    rw [UInt8.toNat_ofNat', Nat.mod_eq_of_lt (by omega)]; omega

theorem own_u8 {w : World} {B n : Nat} {v : Value} {l : List UInt8} {news : List Value} (h : w.ownsRow B 5 1 v n (l.map u8 ++ news)) (hn : n = l.length + news.length) (hp : ∀ u ∈ news, ∃ n : Int, u = .int .u8 n ∧ 0 ≤ n ∧ n < 256) :
    ∃ l' : List UInt8, l'.length = l.length + news.length ∧ w.ownsRow B 5 1 v l'.length (l'.map u8) := by
  obtain ⟨m, rfl, hm⟩ := u8s hp
  rw [List.length_map] at hn hm ⊢
  exact ⟨l ++ m, by simp, own_more2 h hn⟩
/-- The row of bytes that a literal has just laid. -/
theorem lit_u8 (w : World) (cs : Array Value) (m n : Nat) (hm : m ≤ maxLen) (hn : n = w.heap.size) (hc : cs.size = m) (hp : ∀ u ∈ cs.toList, ∃ n : Int, u = .int .u8 n ∧ 0 ≤ n ∧ n < 256) :
    ∃ l : List UInt8, l.length = m ∧ Bytes (fun k => k < (w.alloc (.cells cs 5)).heap.size) (w.alloc (.cells cs 5)) (.slice (some ⟨n, 0, none⟩) m m) l := by
  obtain ⟨l, hl, hn2⟩ := u8s hp
  have hlm : l.length = m := by rw [hn2]; simpa using hc
  refine ⟨l, hlm, ?_⟩
  have h := row_new w cs 5 m n hm hn
  rw [hl] at h
  rw [← hlm] at h ⊢
  exact h.mono fun k hk => by unfold At at hk; rw [hk, hn]; simp

def KnownPost (w : World) (e : Ending) (w' : World) : Prop := e = .returned (.bool true) ∧ Ext w w'

abbrev KEv (x : Ev) : Prop := EvIn x
theorem EvsOwn.xt {B : Nat} {w w1 : World} {v : Value} {l : List Ev} (h : EvsOwn B w v l) (hu : Ext w w1) : EvsOwn B w1 v l := by
  obtain ⟨css, hl, hr, he⟩ := h
  exact ⟨css, hl, hu.ownsRow hr (fun _ _ e => e), fun i cs e h1 h2 => (he i cs e h1 h2).upd hu (fun _ _ e => e.elim)⟩
/-- A slice literal of structs. -/
theorem wp_buildStructs {P : Program} {o : Oper} {a : Act} {w : World} {K : Act → World → Prop} {Q : Exit → Act → World → Prop} (t e : TypeId) (len s bytes : Nat) (parts : Array (Nat × Operand)) (ho : o.op = .buildSlice t len parts) (T : SliceT P t e s bytes)
    (vs : List Value) (hlen : vs.length = len) (hpos : 0 < len) (hsmall : len * s ≤ 2 ^ 24) (h1 : ∀ v ∈ vs, v.cells.size = s) (hparts : (parts.map fun (i, x) => (i, a.eval x)).toList = (vs.zipIdx 0).map fun x => (x.2, x.1))
    (h : K (a.put o.dst (.slice (some ⟨w.heap.size, 0, none⟩) len len)) (w.alloc (.cells (vs.flatMap fun v => v.cells.toList).toArray e))) : o.wp P a w K Q := by
  obtain ⟨hu, ⟨i, z, hi, hz, h2, h3, h4⟩, hp⟩ := T
  subst h2
  have hpp : 0 < len * i.size := Nat.mul_pos hpos hp
  refine wp_buildSlice t e len parts ho _ i z hu hi hz (by omega) (by omega) ?_ h
  rw [hparts]
  exact Great.fill_whole hp vs _ h1 (by simp [hlen])
theorem evCells_len (e : Ev) (a b : Value) : (evCells e a b).toList.length = 14 := rfl
theorem evs_lit {w : World} {B : Nat} (hB : B ≤ w.heap.size) (ps : List (Ev × Value × Value)) (h : ∀ p ∈ ps, w.ownsRow B 46 3 p.2.1 p.1.op.edits.length (editCells p.1.op.edits) ∧ w.ownsRow B 4 1 p.2.2 p.1.keep.length (bools p.1.keep)) (hn : ps.length ≤ 1000) :
    EvsOwn B (w.alloc (.cells ((ps.map fun p => Value.agg (evCells p.1 p.2.1 p.2.2)).flatMap fun v => v.cells.toList).toArray 44)) (.slice (some ⟨w.heap.size, 0, none⟩) ps.length ps.length) (ps.map (·.1)) := by
  have hf : ∀ ps : List (Ev × Value × Value), ((ps.map fun p => Value.agg (evCells p.1 p.2.1 p.2.2)).flatMap fun v => v.cells.toList) = (ps.map fun p => (evCells p.1 p.2.1 p.2.2).toList).flatten := by
    intro ps
    induction ps with
    | nil => rfl
    | cons p ps ih => rw [List.map_cons, List.flatMap_cons, ih]; rfl
  have hl : ∀ ps : List (Ev × Value × Value), ((ps.map fun p => (evCells p.1 p.2.1 p.2.2).toList).flatten).length = ps.length * 14 := by
    intro ps
    induction ps with
    | nil => rfl
    | cons p ps ih => rw [List.map_cons, List.flatten_cons, List.length_append, ih, evCells_len, List.length_cons, Nat.succ_mul]; omega
  refine ⟨ps.map fun p => (evCells p.1 p.2.1 p.2.2).toList, by simp, ?_, fun i cs e h1 h2 => ?_⟩
  · have := World.ownsRow_lit (base := B) (e := 44) (size := 14) w ((ps.map fun p => Value.agg (evCells p.1 p.2.1 p.2.2)).flatMap fun v => v.cells.toList).toArray ps.length hB (by unfold maxLen; omega) (by rw [hf]; simpa using hl ps)
    rw [hf] at this ⊢
    simpa using this
  · rw [List.getElem?_map] at h1 h2
    obtain ⟨p, hp, rfl⟩ := Option.map_eq_some_iff.1 h1
    obtain ⟨p', hp', rfl⟩ := Option.map_eq_some_iff.1 h2
    rw [hp] at hp'; cases hp'
    obtain ⟨g1, g2⟩ := h p (List.mem_of_getElem? hp)
    have hx : Ext w (w.alloc (.cells ((ps.map fun p => Value.agg (evCells p.1 p.2.1 p.2.2)).flatMap fun v => v.cells.toList).toArray 44)) := (Upd.refl _ _).alloc _
    exact ⟨_, _, rfl, hx.ownsRow g1 (fun _ _ e => e), hx.ownsRow g2 (fun _ _ e => e)⟩
def kTexts : List (List UInt8) := [[], [97], [102], [103], [97, 98], [65], [97, 98, 99, 100, 101, 102, 103, 104, 105, 106, 107, 108, 109, 110, 111], [97, 98, 99, 100, 101, 102, 103, 104, 105, 106, 107, 108, 109, 110, 111, 112], [126]]
def textCells : Array Value := (kTexts.map str).toArray
theorem text_at (k : Nat) (hk : k < 9) : ∃ t : List UInt8, textCells[k]? = some (str t) ∧ t.length ≤ 16 := by
  have : k = 0 ∨ k = 1 ∨ k = 2 ∨ k = 3 ∨ k = 4 ∨ k = 5 ∨ k = 6 ∨ k = 7 ∨ k = 8 := by omega
  rcases this with rfl | rfl | rfl | rfl | rfl | rfl | rfl | rfl | rfl <;> exact ⟨_, rfl, by decide⟩
def badCells : Array Value := #[.int .i64 0, .int .u64 0, .int .i64 0, .int .i64 0, .int .i64 65, .int .u64 0, .int .i64 16, .int .i64 1, .int .i64 1, .int .u64 0, .int .i64 17, .int .i64 1, .int .i64 1, .int .u64 0, .int .i64 16, .int .i64 0, .int .i64 1, .int .u64 256, .int .i64 16, .int .i64 1, .int .i64 1, .int .u64 0, .int .i64 4112, .int .i64 1, .int .i64 (-1), .int .u64 0, .int .i64 (-16), .int .i64 (-1), .int .i64 64, .int .u64 255, .int .i64 4096, .int .i64 256]
def goodCells : Array Value := #[.int .i64 64, .int .u64 255, .int .i64 4096, .int .i64 256]
/-- The chapter's odd events, by the operations that lay them. -/
def evOf (i : Nat) : Ev :=
  match i with
  | 1 => ⟨7, 0, Oper'.zero 0, 0, 0, []⟩ | 2 => ⟨1, 63, Oper'.zero 0, 0, 0, []⟩ | 3 => ⟨1, 64, Oper'.zero 0, 0, 0, []⟩ | 4 => ⟨1, -1, Oper'.zero 0, 0, 0, []⟩
  | 5 => ⟨1, 0, Oper'.zero 0, 1, 0, []⟩ | 6 => ⟨3, 0, Oper'.zero 0, 255, 0, []⟩ | 7 => ⟨3, 0, Oper'.zero 0, 256, 0, []⟩
  | 9 => ⟨6, 0, Oper'.zero 0, 0, 0, List.replicate 8 false⟩ | 11 => ⟨6, 0, Oper'.zero 0, 0, 255, List.replicate 8 true⟩ | 13 => ⟨6, 0, Oper'.zero 0, 0, 0, List.replicate 9 false⟩
  | 15 => ⟨6, 0, Oper'.zero 0, 0, -1, List.replicate 8 false⟩ | 17 => ⟨6, 1, Oper'.zero 0, 0, 0, List.replicate 8 false⟩ | 18 => ⟨4, 5, Oper'.zero 0, 0, 0, []⟩
  | 20 => ⟨5, 5, Oper'.zero 0, 0, 0, List.replicate 1 false⟩ | 21 => ⟨2, 0, Oper'.zero 0, 0, 0, []⟩ | _ => ⟨0, 0, Oper'.zero 0, 0, 0, []⟩
def keepOf (i : Nat) : List Bool := match i with | 10 => List.replicate 8 true | 12 => List.replicate 9 false | 19 => List.replicate 1 false | _ => List.replicate 8 false
def evs16 : List Ev := [evOf 0, evOf 1, evOf 2, evOf 3, evOf 4, evOf 5, evOf 6, evOf 7, evOf 9, evOf 11, evOf 13, evOf 15, evOf 17, evOf 18, evOf 20, evOf 21]
def KPhi (B i : Nat) (v : Value) (w : World) : Prop :=
  if i = 8 ∨ i = 10 ∨ i = 12 ∨ i = 14 ∨ i = 16 ∨ i = 19 then w.ownsRow B 4 1 v (keepOf i).length (bools (keepOf i))
  else if i = 22 ∨ i = 23 then EvsOwn B w v evs16
  else ∃ vk, v = .agg (evCells (evOf i) nilS vk) ∧ w.ownsRow B 4 1 vk (evOf i).keep.length (bools (evOf i).keep)
theorem make_bools (w1 : World) (B n : Nat) (hB : B ≤ w1.heap.size) (hn : n ≤ 9) : ∃ w', (Instr.makeSlice 42 (.int .i64 (n : Int)) (.int .i64 (n : Int))).run Try.prog w1 = .ok (.slice (some ⟨w1.heap.size, 0, none⟩) n n) w' ∧
    w'.ownsRow B 4 1 (.slice (some ⟨w1.heap.size, 0, none⟩) n n) n (bools (List.replicate n false)) ∧ Ext w1 w' := by
  obtain ⟨i, z, hi, hz, h2, h3, h4⟩ := Try.boolsT.info
  have hz2 : z = .bool false := by
    have : (Try.prog.info? 4).bind (·.zero) = some (.bool false) := by kernel_rfl
    rw [hi] at this; simpa [hz] using this
  subst hz2
  obtain ⟨w', h5, h6, h7⟩ := run_makeSlice_full (P := Try.prog) w1 B 42 4 i (.bool false) 1 Try.boolsT.under hi hz h2 .i64 .i64 n (by omega) (by rw [h3]; omega) (by unfold maxLen; omega) hB
  refine ⟨w', h5, ?_, ⟨h7.os, h7.tape, h7.output, h7.size, fun k hk _ => h7.block k hk (by simp)⟩⟩
  have : (madeCells (Value.bool false).cells (n * 1)).toList = bools (List.replicate n false) := by
    rw [Nat.mul_one, show (Value.bool false).cells = #[Value.bool false] from rfl, toList_madeCells_one]; simp [bools]
  rwa [this] at h6
def kdst (i : Nat) : Tmp := if i = 23 then 10 else 134 + i
theorem KPhi.ext {B i : Nat} {v : Value} {w w' : World} (h : KPhi B i v w) (hu : Ext w w') : KPhi B i v w' := by
  unfold KPhi at h ⊢
  by_cases c1 : i = 8 ∨ i = 10 ∨ i = 12 ∨ i = 14 ∨ i = 16 ∨ i = 19
  · rw [if_pos c1] at h ⊢
    exact hu.ownsRow h (fun _ _ e => e)
  · rw [if_neg c1] at h ⊢
    by_cases c2 : i = 22 ∨ i = 23
    · rw [if_pos c2] at h ⊢
      obtain ⟨css, hl, hr, he⟩ := h
      exact ⟨css, hl, hu.ownsRow hr (fun _ _ e => e), fun i cs e h1 h2 => (he i cs e h1 h2).upd hu (fun _ _ e => e.elim)⟩
    · rw [if_neg c2] at h ⊢
      obtain ⟨vk, h1, h2⟩ := h
      exact ⟨vk, h1, hu.ownsRow h2 (fun _ _ e => e)⟩

theorem opin_zero : OpIn (Oper'.zero 0) := ⟨by decide, by intro e h; simp [Oper'.zero] at h, ⟨by decide, by decide, by decide, by decide⟩, by decide, by decide, by decide⟩
theorem evs16_in : ∀ x ∈ evs16, EvIn x := by
  intro x hx
  simp only [evs16, List.mem_cons, List.not_mem_nil, or_false] at hx
  rcases hx with rfl | rfl | rfl | rfl | rfl | rfl | rfl | rfl | rfl | rfl | rfl | rfl | rfl | rfl | rfl | rfl <;> exact ⟨by decide, opin_zero, by decide⟩
/-- The four events that each text makes. -/
def k30 (k : Nat) (t : List UInt8) (m : Nat) : Ev :=
  match m with
  | 0 => ⟨2, 0, ⟨2, 0, t, [], [], [], 0, 0, 0⟩, 0, 0, []⟩
  | 1 => ⟨2, 0, ⟨9, k, [], [], t, [], (k : Int) * 5, 0, 0⟩, 0, 0, []⟩
  | 2 => ⟨2, 0, ⟨10, 1, [], [], [], [⟨2, 0, t⟩, ⟨3, (k : Int) * 2, []⟩], 0, (k : Int) * 4, 0⟩, 0, 0, []⟩
  | _ => ⟨2, 0, ⟨6, 3, [], [], [], [], 0, 0, 254 + (k : Int)⟩, 0, 0, []⟩
def kNew (k : Nat) (t : List UInt8) : List Ev := [k30 k t 0, k30 k t 1, k30 k t 2, k30 k t 3]
theorem kNew_in (k : Nat) (hk : k < 9) (t : List UInt8) (ht : t.length ≤ 16) : ∀ x ∈ kNew k t, EvIn x := by
  intro x hx
  simp only [kNew, List.mem_cons, List.not_mem_nil, or_false] at hx
  have hm : t.length ≤ maxLen := by unfold maxLen; omega
  rcases hx with rfl | rfl | rfl | rfl
  · exact ⟨by simp [k30], ⟨by simp [k30], by simp [k30], ⟨by simp [k30], by simp [k30], by simp [k30], by simp [k30]⟩, hm, by simp [k30, maxLen], by simp [k30, maxLen]⟩, by simp [k30]⟩
  · exact ⟨by simp [k30], ⟨by simp [k30], by simp [k30], ⟨by simp [k30], by simp [k30]; omega, by simp [k30], by simp [k30]⟩, by simp [k30, maxLen], by simp [k30, maxLen], hm⟩, by simp [k30]⟩
  · refine ⟨by simp [k30], ⟨by simp [k30], ?_, ⟨by simp [k30], by simp [k30], by simp [k30]; omega, by simp [k30]⟩, by simp [k30, maxLen], by simp [k30, maxLen], by simp [k30, maxLen]⟩, by simp [k30]⟩
    intro e he
    simp only [k30, List.mem_cons, List.not_mem_nil, or_false] at he
    rcases he with rfl | rfl
    · exact ⟨⟨by simp, by simp, by simp, by simp⟩, hm⟩
    · exact ⟨⟨by simp, by simp, by dsimp only; omega, by dsimp only; omega⟩, by simp [maxLen]⟩
  · exact ⟨by simp [k30], ⟨by simp [k30], by simp [k30], ⟨by simp [k30], by simp [k30], by simp [k30], by simp [k30]; omega⟩, by simp [k30, maxLen], by simp [k30, maxLen], by simp [k30, maxLen]⟩, by simp [k30]⟩
def kval (ev tx : Value) (gt k : Nat) (t : List UInt8) (i : Nat) : Value :=
  match i with
  | 0 => ev
  | 1 => tx
  | 2 => .int .i64 k
  | 3 => .pointer (some ⟨gt, k, none⟩)
  | 4 => str t
  | 5 => .agg (opCells (k30 k t 0).op nilS)
  | 6 => .agg (evCells (k30 k t 0) nilS nilS)
  | 7 => .int .i64 k
  | 8 => .int .u64 k
  | 9 => .int .i64 k
  | 10 => .int .i64 ((k : Int) * 5)
  | 11 => .int .u64 ((k : Int) * 5)
  | 12 => tx
  | 13 => .int .i64 k
  | 14 => .pointer (some ⟨gt, k, none⟩)
  | 15 => str t
  | 16 => .agg (opCells (k30 k t 1).op nilS)
  | 17 => .agg (evCells (k30 k t 1) nilS nilS)
  | 18 => .int .i64 k
  | 19 => .int .i64 ((k : Int) * 4)
  | 20 => .int .u64 ((k : Int) * 4)
  | 21 => tx
  | 22 => .int .i64 k
  | 23 => .pointer (some ⟨gt, k, none⟩)
  | 24 => str t
  | 25 => .agg #[.int .u8 2, .int .i64 0, str t]
  | 26 => .int .i64 k
  | 27 => .int .i64 ((k : Int) * 2)
  | 28 => .agg #[.int .u8 3, .int .i64 ((k : Int) * 2), str []]
  | 32 => .int .i64 k
  | 33 => .int .i64 (254 + (k : Int))
  | 34 => .int .u64 (254 + (k : Int))
  | 35 => .agg (opCells (k30 k t 3).op nilS)
  | 36 => .agg (evCells (k30 k t 3) nilS nilS)
  | _ => undef
def KPsi (ev tx : Value) (gt k : Nat) (t : List UInt8) (B6 B : Nat) (l : List Ev) (i : Nat) (v : Value) (w : World) : Prop :=
  if i = 29 then w.ownsRow B6 46 3 v 2 (editCells (k30 k t 2).op.edits)
  else if i = 30 then ∃ ve, v = .agg (opCells (k30 k t 2).op ve) ∧ w.ownsRow B6 46 3 ve 2 (editCells (k30 k t 2).op.edits)
  else if i = 31 then ∃ ve, v = .agg (evCells (k30 k t 2) ve nilS) ∧ w.ownsRow B6 46 3 ve 2 (editCells (k30 k t 2).op.edits)
  else if i = 37 then EvsOwn B6 w v (kNew k t)
  else if i = 38 ∨ i = 39 then EvsOwn B w v (l ++ kNew k t)
  else v = kval ev tx gt k t i
theorem KPsi.upd {S : Nat → Prop} {ev tx : Value} {gt k : Nat} {t : List UInt8} {B6 B : Nat} {l : List Ev} {j : Nat} {v : Value} {w w' : World} (h : KPsi ev tx gt k t B6 B l j v w) (hu : Upd S w w') (hS : ∀ q, S q → q < B6) (he : j = 38 ∨ j = 39 → Ext w w') : KPsi ev tx gt k t B6 B l j v w' := by
  have own : ∀ {v : Value} {n : Nat} {cs : List Value}, w.ownsRow B6 46 3 v n cs → w'.ownsRow B6 46 3 v n cs := fun h => hu.ownsRow h fun k hk hs => by have := (h.lt k hk).1; have := hS k hs; omega
  unfold KPsi at h ⊢
  by_cases c1 : j = 29
  · rw [if_pos c1] at h ⊢; exact own h
  rw [if_neg c1] at h ⊢
  by_cases c2 : j = 30
  · rw [if_pos c2] at h ⊢; obtain ⟨ve, h1, h2⟩ := h; exact ⟨ve, h1, own h2⟩
  rw [if_neg c2] at h ⊢
  by_cases c3 : j = 31
  · rw [if_pos c3] at h ⊢; obtain ⟨ve, h1, h2⟩ := h; exact ⟨ve, h1, own h2⟩
  rw [if_neg c3] at h ⊢
  by_cases c4 : j = 37
  · rw [if_pos c4] at h ⊢
    obtain ⟨css, hl, hr, hev⟩ := h
    refine ⟨css, hl, hu.ownsRow hr fun k hk hs => (by have := (hr.lt k hk).1; have := hS k hs; omega), fun i cs e h1 h2 => ?_⟩
    obtain ⟨ve, vk, g1, g2, g3⟩ := hev i cs e h1 h2
    exact ⟨ve, vk, g1, own g2, hu.ownsRow g3 fun k hk hs => by have := (g3.lt k hk).1; have := hS k hs; omega⟩
  rw [if_neg c4] at h ⊢
  by_cases c5 : j = 38 ∨ j = 39
  · rw [if_pos c5] at h ⊢; exact h.xt (he c5)
  · rw [if_neg c5] at h ⊢; exact h
/-- Events behind events. -/
theorem EvsOwn.append {B B6 : Nat} {w w' : World} {v v' : Value} {l m : List Ev} {css cs2 : List (List Value)} (hB : B ≤ B6) (hl : css.length = l.length) (hl2 : cs2.length = m.length) (hv : w.ownsRow B 44 14 v l.length css.flatten)
    (h1 : ∀ (i : Nat) (cs : List Value) (e : Ev), css[i]? = some cs → l[i]? = some e → EvOwn B w cs e) (h2 : ∀ (i : Nat) (cs : List Value) (e : Ev), cs2[i]? = some cs → m[i]? = some e → EvOwn B6 w cs e)
    (hown : w'.ownsRow B 44 14 v' (l.length + m.length) (css.flatten ++ cs2.flatten)) (hg : w.grownBy w' v.ownBlock) : EvsOwn B w' v' (l ++ m) := by
  have hu := grownUpd hg
  have hS : ∀ k cur, v.ownBlock = some k → w.heap[k]? ≠ some (.cells cur 46 (0, 0)) ∧ w.heap[k]? ≠ some (.cells cur 4 (0, 0)) := fun k cur hk => by
    obtain ⟨c0, h0⟩ := owns_tag hv hk
    exact ⟨tag_ne h0 (by decide), tag_ne h0 (by decide)⟩
  refine ⟨css ++ cs2, by simp [hl, hl2], by rw [List.flatten_append, List.length_append]; exact hown, fun i cs x hi hx => ?_⟩
  by_cases hlt : i < l.length
  · rw [List.getElem?_append_left (by omega)] at hi
    rw [List.getElem?_append_left hlt] at hx
    exact (h1 i cs x hi hx).upd hu hS
  · rw [List.getElem?_append_right (by omega)] at hi hx
    rw [hl] at hi
    obtain ⟨ve, vk, g1, g2, g3⟩ := h2 _ cs x hi hx
    exact EvOwn.upd ⟨ve, vk, g1, g2.mono_base hB, g3.mono_base hB⟩ hu hS
theorem ev_ones {B : Nat} {w : World} {m : List Ev} {css : List (List Value)} (hl : css.length = m.length) (h : ∀ (i : Nat) (cs : List Value) (e : Ev), css[i]? = some cs → m[i]? = some e → EvOwn B w cs e) : ∀ u ∈ css.flatten, u.oneCell' = true := by
  intro u hu
  obtain ⟨cs, hcs, huc⟩ := List.mem_flatten.1 hu
  obtain ⟨i, hi, rfl⟩ := List.getElem_of_mem hcs
  obtain ⟨ve, vk, g1, g2, g3⟩ := h i css[i] (m[i]'(by omega)) (by simp [hi]) (by simp [show i < m.length by omega])
  obtain ⟨a, n, c, rfl⟩ := ownsForm g2
  obtain ⟨a', n', c', rfl⟩ := ownsForm g3
  rw [g1] at huc
  exact evCells_ones _ _ _ _ _ _ _ u huc
def kdst3 (i : Nat) : Tmp := if i = 39 then 10 else 164 + i
theorem kdst3_10 {j : Nat} (e : kdst3 j = 10) : j = 39 := by
  have e : (if j = 39 then (10 : Nat) else 164 + j) = 10 := e
  split at e <;> omega
theorem kdst3_11 {j : Nat} (e : kdst3 j = 11) : False := by
  have e : (if j = 39 then (10 : Nat) else 164 + j) = 11 := e
  split at e <;> omega
theorem kdst3_12 {j : Nat} (e : kdst3 j = 12) : False := by
  have e : (if j = 39 then (10 : Nat) else 164 + j) = 12 := e
  split at e <;> omega
/-- A part of a row of events. -/
theorem evs_sub {S : Nat → Prop} {w : World} {b o c : Nat} {l : List Ev} (h : EvsRow S w (.slice (some ⟨b, o, none⟩) l.length c) l) (i j : Nat) (hij : i + j ≤ l.length) (h0 : 0 < l.length) : EvsRow S w (.slice (some ⟨b, o + i * 14, none⟩) j (c - i)) ((l.drop i).take j) := by
  obtain ⟨css, hl, hr, he⟩ := h
  have h14 : ∀ cs ∈ css, cs.length = 14 := fun cs hc => by
    obtain ⟨q, hq, rfl⟩ := List.getElem_of_mem hc
    obtain ⟨ve, vk, hc2, -⟩ := he q css[q] (l[q]'(by omega)) (by simp [hq]) (by simp)
    rw [hc2]; rfl
  obtain ⟨b', o', c', hv, hS, hn, hm, hcell⟩ := hr.addr h0
  cases hv
  have hlen : ((l.drop i).take j).length = j := by simp; omega
  have hl2 : ((css.drop i).take j).length = j := by simp; omega
  have h14' : ∀ cs ∈ (css.drop i).take j, cs.length = 14 := fun cs hc => h14 cs (List.mem_of_mem_drop (List.mem_of_mem_take hc))
  refine ⟨(css.drop i).take j, by rw [hlen, hl2], ⟨some ⟨b, o + i * 14, none⟩, c - i, by rw [hlen], by rw [hlen]; omega, by omega, fun e => (by cases e), fun x e _ => by cases e; exact ⟨rfl, hS⟩, fun b1 o1 e q u hq => ?_⟩, fun q cs e h1 h2 => ?_⟩
  · cases e
    have hq14 : q < j * 14 := by
      have h1 := (List.getElem?_eq_some_iff.1 hq).1
      have h2 : ∀ m : List (List Value), (∀ c ∈ m, c.length = 14) → m.flatten.length = m.length * 14 := by
        intro m; induction m with
        | nil => intro _; simp
        | cons c r ih => intro hh; rw [List.flatten_cons, List.length_append, ih (fun d hd => hh d (by simp [hd])), hh c (by simp), List.length_cons, Nat.succ_mul]; omega
      rw [h2 _ h14', hl2] at h1; exact h1
    have ha : q / 14 < j := by omega
    have hr14 : q % 14 < 14 := Nat.mod_lt _ (by decide)
    have hdm : q / 14 * 14 + q % 14 = q := by omega
    rw [← hdm, flat_at h14' (by omega) hr14] at hq
    have hx : (((css.drop i).take j)[q / 14]'(by omega)) = css[i + q / 14]'(by omega) := by simp
    rw [hx] at hq
    have := hcell ((i + q / 14) * 14 + q % 14) u (by rw [flat_at h14 (by omega) hr14]; exact hq)
    rw [show o + i * 14 + q = o + ((i + q / 14) * 14 + q % 14) from by rw [Nat.add_mul]; omega]
    exact this
  · have hqj : q < j := by have := (List.getElem?_eq_some_iff.1 h1).1; omega
    rw [List.getElem?_take_of_lt hqj, List.getElem?_drop] at h1 h2
    exact he _ cs e h1 h2
/-- Two events laid anew, their rows as they lie. -/
theorem evs_pair {w : World} {S : Nat → Prop} (x y : Ev) (ve vk ue uk : Value) (h1 : Row S w ve x.op.edits.length (editCells x.op.edits)) (h2 : Row S w vk x.keep.length (bools x.keep)) (h3 : Row S w ue y.op.edits.length (editCells y.op.edits)) (h4 : Row S w uk y.keep.length (bools y.keep)) (hS : ∀ k, S k → k < w.heap.size) (cells : Array Value) (hc : cells.toList = (evCells x ve vk).toList ++ (evCells y ue uk).toList) :
    EvsRow (Till (w.alloc (.cells cells 44)).heap.size) (w.alloc (.cells cells 44)) (.slice (some ⟨w.heap.size, 0, none⟩) 2 2) [x, y] := by
  have hx : Ext w (w.alloc (.cells cells 44)) := (Upd.refl _ _).alloc _
  have hm : ∀ k, S k → Till (w.alloc (.cells cells 44)).heap.size k := fun k hk => Nat.lt_of_lt_of_le (hS k hk) hx.size
  refine ⟨[(evCells x ve vk).toList, (evCells y ue uk).toList], rfl, ?_, fun i cs e g1 g2 => ?_⟩
  · have := row_new w cells 44 2 w.heap.size (by decide) rfl
    rw [hc] at this
    refine (show Row (At w.heap.size) _ _ 2 _ from by simpa using this).mono fun k hk => ?_
    unfold At at hk; unfold Till; rw [hk]; simp
  · have hi : i = 0 ∨ i = 1 := by have := (List.getElem?_eq_some_iff.1 g1).1; simp at this; omega
    rcases hi with rfl | rfl
    · simp at g1 g2; subst g1; subst g2
      exact ⟨ve, vk, rfl, (h1.ext hx).mono hm, (h2.ext hx).mono hm⟩
    · simp at g1 g2; subst g1; subst g2
      exact ⟨ue, uk, rfl, (h3.ext hx).mono hm, (h4.ext hx).mono hm⟩
def badCfg (m : Nat) : Cfg := match m with | 1 => ⟨65, 0, 16, 1⟩ | 2 => ⟨1, 0, 17, 1⟩ | 3 => ⟨1, 0, 16, 0⟩ | 4 => ⟨1, 256, 16, 1⟩ | 5 => ⟨1, 0, 4112, 1⟩ | 6 => ⟨-1, 0, -16, -1⟩ | 7 => ⟨64, 255, 4096, 256⟩ | _ => ⟨0, 0, 0, 0⟩
theorem badCfg_at (m : Nat) (hm : m < 8) : (∀ j u, (cfgCells (badCfg m)).toList[j]? = some u → badCells[m * 4 + j]? = some u) ∧ CfgWf (badCfg m) ∧ 0 ≤ (badCfg m).slack := by
  have h4 : ∀ {cs : Array Value} {p : Nat → Prop}, cs.size = 4 → (∀ j u, cs.toList[j]? = some u → (j = 0 ∨ j = 1 ∨ j = 2 ∨ j = 3)) := fun h j u hj => by have := (List.getElem?_eq_some_iff.1 hj).1; simp at this; omega
  have : m = 0 ∨ m = 1 ∨ m = 2 ∨ m = 3 ∨ m = 4 ∨ m = 5 ∨ m = 6 ∨ m = 7 := by omega
  rcases this with rfl | rfl | rfl | rfl | rfl | rfl | rfl | rfl
  all_goals
    refine ⟨fun j u hj => ?_, by unfold CfgWf badCfg; decide, by decide⟩
    have hj4 := h4 (p := fun _ => True) rfl j u hj
    rcases hj4 with rfl | rfl | rfl | rfl <;> exact hj
def goodCfg : Cfg := ⟨64, 255, 4096, 256⟩
theorem tmp_some {b : Act} {t : Tmp} {v : Bool} (h : b.tmps.getD t undef = .bool v) : b.tmps[t]? = some (.bool v) := by
  cases hq : b.tmps[t]? with
  | none => simp [hq] at h; cases h
  | some x => simp [hq] at h; rw [h]
structure K34 where
  eb : Nat
  eo : Nat
  ec : Nat
  k : Nat
  g : Nat
  x2 : Ev
  v2 : Value
  u2 : Value
  xk : Ev
  vk : Value
  uk : Value
def kval4 (p : K34) (i : Nat) : Value :=
  match i with
  | 0 => .agg goodCells
  | 1 => .slice (some ⟨p.eb, p.eo, none⟩) 52 p.ec
  | 2 => .int .i64 p.k
  | 3 => .int .i64 p.k
  | 4 => .int .i64 ((p.k : Int) + 1)
  | 5 => .slice (some ⟨p.eb, p.eo + p.k * 14, none⟩) 1 (p.ec - p.k)
  | 6 => .int .i64 p.k
  | 7 => .int .u8 p.k
  | 8 => .bool true
  | 9 => .bool false
  | 10 => .bool false
  | 11 => .agg goodCells
  | 12 => .slice (some ⟨p.eb, p.eo, none⟩) 52 p.ec
  | 13 => .pointer (some ⟨p.eb, p.eo + 28, none⟩)
  | 14 => .agg (evCells p.x2 p.v2 p.u2)
  | 15 => .slice (some ⟨p.eb, p.eo, none⟩) 52 p.ec
  | 16 => .int .i64 p.k
  | 17 => .pointer (some ⟨p.eb, p.eo + p.k * 14, none⟩)
  | 18 => .agg (evCells p.xk p.vk p.uk)
  | 20 => .bool true
  | 21 => .bool false
  | 22 => .bool false
  | 23 => .bool false
  | 24 => .slice (some ⟨p.g + 1, 0, none⟩) 8 8
  | 25 => .int .i64 p.k
  | 26 => .int .i64 ((p.k % 8 : Nat) : Int)
  | 27 => .pointer (some ⟨p.g + 1, p.k % 8 * 4, none⟩)
  | 28 => .agg (cfgCells (badCfg (p.k % 8)))
  | 29 => .slice (some ⟨p.eb, p.eo, none⟩) 52 p.ec
  | 30 => .int .i64 p.k
  | 31 => .int .i64 ((p.k % 3 : Nat) : Int)
  | 32 => .slice (some ⟨p.eb, p.eo, none⟩) (p.k % 3) p.ec
  | 33 => .bool true
  | 34 => .bool false
  | 35 => .bool false
  | _ => undef
def KTau (p : K34) (i : Nat) (v : Value) (w : World) : Prop := if i = 19 then EvsRow (Till w.heap.size) w v [p.x2, p.xk] else v = kval4 p i
theorem KTau.ext {p : K34} {i : Nat} {v : Value} {w w' : World} (h : KTau p i v w) (hu : Ext w w') : KTau p i v w' := by
  unfold KTau at h ⊢
  by_cases c : i = 19
  · rw [if_pos c] at h ⊢; exact (h.ext hu).mono fun k hk => Nat.lt_of_lt_of_le hk hu.size
  · rw [if_neg c] at h ⊢; exact h
def kdst4 (i : Nat) : Tmp := 209 + i
theorem kdst4_ne {j t : Nat} (ht : t < 209) (e : kdst4 j = t) : False := by
  have e : 209 + j = t := e
  omega

set_option maxRecDepth 100000 in
set_option maxHeartbeats 8000000 in
theorem scriptKnown_any (w : World) : Calls Try.prog 6 #[] w (KnownPost w) := by
  go_enter Try.func6, Try.ntmps6
  go_wp2
  go_loopw [1] (fun c wr => ∃ k : Nat, k ≤ 256 ∧ c = .int .i64 k ∧ Ext w wr) (fun c _ => 256 - (intOf c).toNat)
  case atStart => exact ⟨0, by omega, rfl, Upd.refl _ _⟩
  case round =>
    obtain ⟨k, hk, rfl, hx⟩ := hrel
    have HX := Lib.hid hx
    clear hx
    by_cases hk2 : k < 256
    · have dk : decide ((k : Int) < 256) = true := by simp; omega
      go_wp2
      go_loopw [2] (fun v w2 => ∃ j : Nat, j ≤ 4 ∧ v = .int .i64 j ∧ Ext w w2) (fun v _ => 4 - (intOf v).toNat)
      case atStart => exact ⟨0, by omega, rfl, HX.out⟩
      case round =>
        obtain ⟨j, hj, rfl, hx⟩ := hrel
        have HX2 := Lib.hid hx
        have hsz := hx.size
        clear hx HX
        by_cases hj2 : j < 4
        · have dj : decide ((j : Int) < 4) = true := by simp; omega
          go_wp2
          obtain ⟨l0, hl0, hn0⟩ := u8s (cs := [.int .u8 (k : Int), .int .u8 (j : Int), .int .u8 (wrap64 ((k : Int) * j) % 256), .int .u8 3]) (by
            intro u hu; simp only [List.mem_cons, List.not_mem_nil, or_false] at hu
            rcases hu with rfl | rfl | rfl | rfl <;> exact ⟨_, rfl, by omega, by omega⟩)
          have ho0 := own_lit wr #[.int .u8 (k : Int), .int .u8 (j : Int), .int .u8 (wrap64 ((k : Int) * j) % 256), .int .u8 3] 5 4 w.heap.size wr.heap.size (by decide) rfl hsz rfl
          rw [show (#[.int .u8 (k : Int), .int .u8 (j : Int), .int .u8 (wrap64 ((k : Int) * j) % 256), .int .u8 3] : Array Value).toList = l0.map u8 from hl0] at ho0
          have HO0 := Lib.hid ho0
          have HX3 := Lib.hid (HX2.out.alloc (.cells #[.int .u8 (k : Int), .int .u8 (j : Int), .int .u8 (wrap64 ((k : Int) * j) % 256), .int .u8 3] 5))
          have hn4 : l0.length = 4 := hn0
          clear hl0 hn0 ho0 hsz
          go_loopw [3, 4] (fun b i w3 => ∃ (m : Nat) (l : List UInt8), m ≤ 8 ∧ i = .int .i64 m ∧ l.length = 4 + 5 * m ∧ Ext w w3 ∧ w3.ownsRow w.heap.size 5 1 b l.length (l.map u8)) (fun _ i _ => 8 - (intOf i).toNat)
          case atStart => exact ⟨0, l0, by omega, rfl, by omega, HX3.out, by rw [hn4]; exact HO0.out⟩
          case round =>
            obtain ⟨m, l, hm, rfl, hll, hx, hown⟩ := hrel
            have HX4 := Lib.hid hx
            have hsz := hx.size
            have HLL := Lib.hid hll
            have hll2 : l.length ≤ 44 := by omega
            obtain ⟨ba, bn, bc, rfl⟩ := ownsForm hown
            clear hx hll
            by_cases hm2 : m < 8
            · have dm : decide ((m : Int) < 8) = true := by simp; omega
              go_wp2_with (at_builtin; go_must (refine wpList_append_row rfl _ _ _ rfl Try.bytesT rfl (hown.alloc _) rfl (row_new _ _ _ 5 _ (by decide) (by simp)) rfl ?c1 ?c3 ?c4 ?c5 ?_))
              case c1 => intro u hu; simp at hu; rcases hu with rfl | rfl | rfl | rfl | rfl <;> rfl
              case c3 => unfold maxLen; omega
              case c4 => omega
              case c5 => simp; omega
              intro v' w5 hown5 hg _
              obtain ⟨l5, hl5, ho5⟩ := own_u8 hown5 (by simp) (by
                intro u hu; simp at hu
                rcases hu with rfl | rfl | rfl | rfl | rfl <;> exact ⟨_, rfl, by omega, by omega⟩)
              have HX5 := Lib.hid ((HX4.out.alloc _).grown hg (fun j hj h => by have := (hown.lt j hj).1; omega))
              have HO5 := Lib.hid ho5
              have HL5 := Lib.hid (show l5.length = 4 + 5 * (m + 1) by rw [hl5, HLL.out]; simp; omega)
              clear hl5 ho5 hown5 hg hown
              go_wp2
              go_roundw
              case rel => exact ⟨m + 1, l5, by omega, by go_num, HL5.out, HX5.out, HO5.out⟩
              case measure => simp [intOf]; omega
            · obtain ⟨_, bc', e3, hbn, hbm, -⟩ := Row.of_owns hown
              cases e3
              unfold maxLen at hbm
              have hl44 : 44 ≤ l.length := by rw [HLL.out]; omega
              have hbb := row_in hown
              have HBB := Lib.hid hbb
              clear hown hbb
              obtain ⟨q, hq⟩ : ∃ q : Nat, q = j + k % 9 := ⟨_, rfl⟩
              have hqi : (j : Int) + (k : Int) % 9 = (q : Int) := by omega
              have hq44 : q ≤ l.length := by omega
              have hq12 : q ≤ 11 := by omega
              have HQI := Lib.hid hqi
              clear hq hqi
              go_wp2_with (go_at_call 3; fail)
              refine (reads_any _ _ l HBB.out (fun k hk => hk.2)).mono ?_
              rintro e w6 ⟨rfl, hu6⟩
              have HU6 := Lib.hid hu6
              have HX6 := Lib.hid (HX4.out.trans hu6)
              clear hu6
              go_wp2_with (go_at_call 3; fail)
              rw [show j + k % 9 = q from by have := HQI.out; omega]
              refine (reads_any _ _ _ (bytes_take (HBB.out.ext HU6.out) q hq44) (fun k hk => Nat.lt_of_lt_of_le hk.2 HU6.out.size)).mono ?_
              rintro e w7 ⟨rfl, hu7⟩
              have HU7 := Lib.hid (HU6.out.trans hu7)
              have HX7 := Lib.hid (HX6.out.trans hu7)
              clear hu7
              by_cases hv : j = k % 4
              · have dv : ((j : Int) == (k : Int) % 4) = true := by simp; omega
                have HV := Lib.hid hv
                clear hv
                go_wp2_with (go_at_call 4; fail)
                refine (back_any _ _ l (HBB.out.ext HU7.out) (fun k hk => Nat.lt_of_lt_of_le hk.2 HU7.out.size)).mono ?_
                rintro e w8 ⟨rfl, hu8⟩
                have HX8 := Lib.hid (HX7.out.trans hu8)
                clear hu8
                go_wp2
                go_roundw
                case rel => exact ⟨j + 1, by omega, by go_num, HX8.out⟩
                case measure => simp [intOf]; omega
              · have dv : ((j : Int) == (k : Int) % 4) = false := by simp; omega
                have HV := Lib.hid hv
                clear hv
                go_wp2
                go_roundw
                case rel => exact ⟨j + 1, by omega, by go_num, HX7.out⟩
                case measure => simp [intOf]; omega
        · go_wp2
          go_roundw
          case rel => exact ⟨k + 1, by omega, by go_num, HX2.out⟩
          case measure => simp [intOf]; omega
    · go_wp2
      clear hk2 hk
      go_loopw [5] (fun c w1 => ∃ k : Nat, k ≤ 18 ∧ c = .int .i64 k ∧ Ext w w1) (fun c _ => 18 - (intOf c).toNat)
      case atStart => exact ⟨0, by omega, rfl, HX.out⟩
      case round =>
        obtain ⟨k2, hk, rfl, hx⟩ := hrel
        clear HX
        have HX := Lib.hid hx
        clear hx
        by_cases hk2 : k2 < 18
        · have dk : decide ((k2 : Int) < 18) = true := by simp; omega
          go_wp2
          go_loopw [6] (fun v w2 => ∃ j : Nat, j ≤ 6 ∧ v = .int .i64 j ∧ Ext w w2) (fun v _ => 6 - (intOf v).toNat)
          case atStart => exact ⟨0, by omega, rfl, HX.out⟩
          case round =>
            obtain ⟨j, hj, rfl, hx⟩ := hrel
            have HX2 := Lib.hid hx
            clear hx HX
            by_cases hj2 : j < 6
            · have dj : decide ((j : Int) < 6) = true := by simp; omega
              go_wp2_with (go_at_call 3; fail)
              obtain ⟨l, hl18, hb⟩ := lit_u8 wr #[.int .u8 63, .int .u8 1, .int .u8 2, .int .u8 3, .int .u8 195, .int .u8 40, .int .u8 (k2 : Int), .int .u8 ((j : Int) * 50), .int .u8 ((j : Int) * 51), .int .u8 (j : Int), .int .u8 (255 - (j : Int)), .int .u8 7, .int .u8 8, .int .u8 9, .int .u8 2, .int .u8 3, .int .u8 5, .int .u8 (j : Int)] 18 wr.heap.size (by decide) rfl rfl (by
                intro u hu; simp only [List.mem_cons, List.not_mem_nil, or_false] at hu
                rcases hu with rfl | rfl | rfl | rfl | rfl | rfl | rfl | rfl | rfl | rfl | rfl | rfl | rfl | rfl | rfl | rfl | rfl | rfl <;> exact ⟨_, rfl, by omega, by omega⟩)
              have HB := Lib.hid hb
              have hq : 7 + j ≤ l.length := by omega
              have hx3 := HX2.out.alloc (.cells #[.int .u8 63, .int .u8 1, .int .u8 2, .int .u8 3, .int .u8 195, .int .u8 40, .int .u8 (k2 : Int), .int .u8 ((j : Int) * 50), .int .u8 ((j : Int) * 51), .int .u8 (j : Int), .int .u8 (255 - (j : Int)), .int .u8 7, .int .u8 8, .int .u8 9, .int .u8 2, .int .u8 3, .int .u8 5, .int .u8 (j : Int)] 5)
              have HX3 := Lib.hid hx3
              clear hl18 hb hx3
              refine (reads_any _ _ l HB.out (fun k hk => hk)).mono ?_
              rintro e w6 ⟨rfl, hu6⟩
              have HU6 := Lib.hid hu6
              clear hu6
              go_wp2_with (go_at_call 4; fail)
              refine (back_any _ _ l (HB.out.ext HU6.out) (fun k hk => Nat.lt_of_lt_of_le hk HU6.out.size)).mono ?_
              rintro e w7 ⟨rfl, hu7⟩
              have HU7 := Lib.hid (HU6.out.trans hu7)
              clear hu7
              go_wp2_with (go_at_call 4; fail)
              refine (back_any _ _ _ (bytes_take (HB.out.ext HU7.out) (7 + j) hq) (fun k hk => Nat.lt_of_lt_of_le hk HU7.out.size)).mono ?_
              rintro e w8 ⟨rfl, hu8⟩
              have HX8 := Lib.hid (HX3.out.trans (HU7.out.trans hu8))
              clear hu8
              go_wp2
              go_roundw
              case rel => exact ⟨j + 1, by omega, by go_num, HX8.out⟩
              case measure => simp [intOf]; omega
            · go_wp2
              go_roundw
              case rel => exact ⟨k2 + 1, by omega, by go_num, HX2.out⟩
              case measure => simp [intOf]; omega
        · go_wp2
          clear hk2 hk
          obtain ⟨wc, hwc⟩ : ∃ wc, wc = (wr.alloc (.cells #[.int .i64 64, .int .u64 255, .int .i64 4096, .int .i64 256] 31)).alloc (.cells #[.int .i64 0, .int .u64 0, .int .i64 0, .int .i64 0, .int .i64 65, .int .u64 0, .int .i64 16, .int .i64 1, .int .i64 1, .int .u64 0, .int .i64 17, .int .i64 1, .int .i64 1, .int .u64 0, .int .i64 16, .int .i64 0, .int .i64 1, .int .u64 256, .int .i64 16, .int .i64 1, .int .i64 1, .int .u64 0, .int .i64 4112, .int .i64 1, .int .i64 (-1), .int .u64 0, .int .i64 (-16), .int .i64 (-1), .int .i64 64, .int .u64 255, .int .i64 4096, .int .i64 256] 31) := ⟨_, rfl⟩
          rw [← hwc]
          have hxc : Ext wr wc := by rw [hwc]; exact ((Upd.refl _ _).alloc _).alloc _
          have HGC := Lib.hid (show wc.heap[wr.heap.size]? = some (.cells goodCells 31 (0, 0)) from by rw [hwc]; exact ((Upd.refl Nothing _).alloc _).at_ (newAt _ _) id)
          have HBC := Lib.hid (show wc.heap[wr.heap.size + 1]? = some (.cells badCells 31 (0, 0)) from by rw [hwc]; have := newAt (wr.alloc (.cells goodCells 31)) (.cells badCells 31); rw [show (wr.alloc (.cells goodCells 31)).heap.size = wr.heap.size + 1 from by simp] at this; exact this)
          have HXC := Lib.hid (HX.out.trans hxc)
          have hB0 := (HX.out.trans hxc).size
          clear hwc hxc HX
          generalize wr.heap.size = g at HGC HBC ⊢
          refine wp_region_inv' Nothing (fun _ => Ext) 100 kdst (KPhi w.heap.size) 283 (by kernel_rfl) (by decide) (by decide) (by decide) rfl (by decide) (fun i w w' h => ⟨h, fun _ => h⟩) (fun i j v w w' _ _ _ _ h hu => h.ext hu) ?_ ?_
          · intro i o b w1 ho hx1 hd hk hE
            clear hk hE
            have hB1 : w.heap.size ≤ w1.heap.size := Nat.le_trans hB0 hx1.size
            have hi : i < 24 := (Array.getElem?_eq_some_iff.1 ho).1
            have hi24 : i = 0 ∨ i = 1 ∨ i = 2 ∨ i = 3 ∨ i = 4 ∨ i = 5 ∨ i = 6 ∨ i = 7 ∨ i = 8 ∨ i = 9 ∨ i = 10 ∨ i = 11 ∨ i = 12 ∨ i = 13 ∨ i = 14 ∨ i = 15 ∨ i = 16 ∨ i = 17 ∨ i = 18 ∨ i = 19 ∨ i = 20 ∨ i = 21 ∨ i = 22 ∨ i = 23 := by omega
            rcases hi24 with rfl | rfl | rfl | rfl | rfl | rfl | rfl | rfl | rfl | rfl | rfl | rfl | rfl | rfl | rfl | rfl | rfl | rfl | rfl | rfl | rfl | rfl | rfl | rfl
            all_goals (simp at ho; subst ho)
            case inl =>
              go_step
              exact ⟨_, rfl, ⟨nilS, rfl, World.ownsRow_nil _ _ _ _⟩, Upd.refl _ _⟩
            case inr.inl =>
              go_step
              exact ⟨_, rfl, ⟨nilS, rfl, World.ownsRow_nil _ _ _ _⟩, Upd.refl _ _⟩
            case inr.inr.inl =>
              go_step
              exact ⟨_, rfl, ⟨nilS, rfl, World.ownsRow_nil _ _ _ _⟩, Upd.refl _ _⟩
            case inr.inr.inr.inl =>
              go_step
              exact ⟨_, rfl, ⟨nilS, rfl, World.ownsRow_nil _ _ _ _⟩, Upd.refl _ _⟩
            case inr.inr.inr.inr.inl =>
              go_step
              exact ⟨_, rfl, ⟨nilS, rfl, World.ownsRow_nil _ _ _ _⟩, Upd.refl _ _⟩
            case inr.inr.inr.inr.inr.inl =>
              go_step
              exact ⟨_, rfl, ⟨nilS, rfl, World.ownsRow_nil _ _ _ _⟩, Upd.refl _ _⟩
            case inr.inr.inr.inr.inr.inr.inl =>
              go_step
              exact ⟨_, rfl, ⟨nilS, rfl, World.ownsRow_nil _ _ _ _⟩, Upd.refl _ _⟩
            case inr.inr.inr.inr.inr.inr.inr.inl =>
              go_step
              exact ⟨_, rfl, ⟨nilS, rfl, World.ownsRow_nil _ _ _ _⟩, Upd.refl _ _⟩
            case inr.inr.inr.inr.inr.inr.inr.inr.inr.inr.inr.inr.inr.inr.inr.inr.inr.inr.inl =>
              go_step
              exact ⟨_, rfl, ⟨nilS, rfl, World.ownsRow_nil _ _ _ _⟩, Upd.refl _ _⟩
            case inr.inr.inr.inr.inr.inr.inr.inr.inr.inr.inr.inr.inr.inr.inr.inr.inr.inr.inr.inr.inr.inl =>
              go_step
              exact ⟨_, rfl, ⟨nilS, rfl, World.ownsRow_nil _ _ _ _⟩, Upd.refl _ _⟩
            case inr.inr.inr.inr.inr.inr.inr.inr.inl =>
              obtain ⟨w2, hrun, hown, hu⟩ := make_bools w1 w.heap.size 8 hB1 (by decide)
              have hrun : Sem.run Try.prog (Instr.makeSlice 42 (.int .i64 8) (.int .i64 8)) w1 = .ok (.slice (some ⟨w1.heap.size, 0, none⟩) 8 8) w2 := hrun
              go_step
              first | exact ⟨_, rfl, hown⟩ | exact ⟨_, rfl, hown, hu⟩
            case inr.inr.inr.inr.inr.inr.inr.inr.inr.inr.inr.inr.inl =>
              obtain ⟨w2, hrun, hown, hu⟩ := make_bools w1 w.heap.size 9 hB1 (by decide)
              have hrun : Sem.run Try.prog (Instr.makeSlice 42 (.int .i64 9) (.int .i64 9)) w1 = .ok (.slice (some ⟨w1.heap.size, 0, none⟩) 9 9) w2 := hrun
              go_step
              first | exact ⟨_, rfl, hown⟩ | exact ⟨_, rfl, hown, hu⟩
            case inr.inr.inr.inr.inr.inr.inr.inr.inr.inr.inr.inr.inr.inr.inl =>
              obtain ⟨w2, hrun, hown, hu⟩ := make_bools w1 w.heap.size 8 hB1 (by decide)
              have hrun : Sem.run Try.prog (Instr.makeSlice 42 (.int .i64 8) (.int .i64 8)) w1 = .ok (.slice (some ⟨w1.heap.size, 0, none⟩) 8 8) w2 := hrun
              go_step
              first | exact ⟨_, rfl, hown⟩ | exact ⟨_, rfl, hown, hu⟩
            case inr.inr.inr.inr.inr.inr.inr.inr.inr.inr.inr.inr.inr.inr.inr.inr.inl =>
              obtain ⟨w2, hrun, hown, hu⟩ := make_bools w1 w.heap.size 8 hB1 (by decide)
              have hrun : Sem.run Try.prog (Instr.makeSlice 42 (.int .i64 8) (.int .i64 8)) w1 = .ok (.slice (some ⟨w1.heap.size, 0, none⟩) 8 8) w2 := hrun
              go_step
              first | exact ⟨_, rfl, hown⟩ | exact ⟨_, rfl, hown, hu⟩
            case inr.inr.inr.inr.inr.inr.inr.inr.inr.inr.inr.inr.inr.inr.inr.inr.inr.inr.inr.inl =>
              obtain ⟨w2, hrun, hown, hu⟩ := make_bools w1 w.heap.size 1 hB1 (by decide)
              have hrun : Sem.run Try.prog (Instr.makeSlice 42 (.int .i64 1) (.int .i64 1)) w1 = .ok (.slice (some ⟨w1.heap.size, 0, none⟩) 1 1) w2 := hrun
              go_step
              first | exact ⟨_, rfl, hown⟩ | exact ⟨_, rfl, hown, hu⟩
            case inr.inr.inr.inr.inr.inr.inr.inr.inr.inl =>
              have h8 := hd ⟨8, .data⟩ (by simp) rfl
              have h8 : w1.ownsRow w.heap.size 4 1 (b.tmps.getD 142 undef) _ _ := h8
              obtain ⟨va, vn, vc, hv0⟩ := ownsForm h8
              rw [hv0] at h8
              have HV := Lib.hid h8
              have hv : b.tmps[142]?.getD undef = .slice va vn vc := by simpa using hv0
              clear h8 hv0
              go_step
              exact ⟨_, rfl, ⟨.slice va vn vc, rfl, HV.out⟩, Upd.refl _ _⟩
            case inr.inr.inr.inr.inr.inr.inr.inr.inr.inr.inr.inl =>
              have h8 := hd ⟨10, .data⟩ (by simp) rfl
              have h8 : w1.ownsRow w.heap.size 4 1 (b.tmps.getD 144 undef) _ _ := h8
              obtain ⟨va, vn, vc, hv0⟩ := ownsForm h8
              rw [hv0] at h8
              have HV := Lib.hid h8
              have hv : b.tmps[144]?.getD undef = .slice va vn vc := by simpa using hv0
              clear h8 hv0
              go_step
              exact ⟨_, rfl, ⟨.slice va vn vc, rfl, HV.out⟩, Upd.refl _ _⟩
            case inr.inr.inr.inr.inr.inr.inr.inr.inr.inr.inr.inr.inr.inl =>
              have h8 := hd ⟨12, .data⟩ (by simp) rfl
              have h8 : w1.ownsRow w.heap.size 4 1 (b.tmps.getD 146 undef) _ _ := h8
              obtain ⟨va, vn, vc, hv0⟩ := ownsForm h8
              rw [hv0] at h8
              have HV := Lib.hid h8
              have hv : b.tmps[146]?.getD undef = .slice va vn vc := by simpa using hv0
              clear h8 hv0
              go_step
              exact ⟨_, rfl, ⟨.slice va vn vc, rfl, HV.out⟩, Upd.refl _ _⟩
            case inr.inr.inr.inr.inr.inr.inr.inr.inr.inr.inr.inr.inr.inr.inr.inl =>
              have h8 := hd ⟨14, .data⟩ (by simp) rfl
              have h8 : w1.ownsRow w.heap.size 4 1 (b.tmps.getD 148 undef) _ _ := h8
              obtain ⟨va, vn, vc, hv0⟩ := ownsForm h8
              rw [hv0] at h8
              have HV := Lib.hid h8
              have hv : b.tmps[148]?.getD undef = .slice va vn vc := by simpa using hv0
              clear h8 hv0
              go_step
              exact ⟨_, rfl, ⟨.slice va vn vc, rfl, HV.out⟩, Upd.refl _ _⟩
            case inr.inr.inr.inr.inr.inr.inr.inr.inr.inr.inr.inr.inr.inr.inr.inr.inr.inl =>
              have h8 := hd ⟨16, .data⟩ (by simp) rfl
              have h8 : w1.ownsRow w.heap.size 4 1 (b.tmps.getD 150 undef) _ _ := h8
              obtain ⟨va, vn, vc, hv0⟩ := ownsForm h8
              rw [hv0] at h8
              have HV := Lib.hid h8
              have hv : b.tmps[150]?.getD undef = .slice va vn vc := by simpa using hv0
              clear h8 hv0
              go_step
              exact ⟨_, rfl, ⟨.slice va vn vc, rfl, HV.out⟩, Upd.refl _ _⟩
            case inr.inr.inr.inr.inr.inr.inr.inr.inr.inr.inr.inr.inr.inr.inr.inr.inr.inr.inr.inr.inl =>
              have h8 := hd ⟨19, .data⟩ (by simp) rfl
              have h8 : w1.ownsRow w.heap.size 4 1 (b.tmps.getD 153 undef) _ _ := h8
              obtain ⟨va, vn, vc, hv0⟩ := ownsForm h8
              rw [hv0] at h8
              have HV := Lib.hid h8
              have hv : b.tmps[153]?.getD undef = .slice va vn vc := by simpa using hv0
              clear h8 hv0
              go_step
              exact ⟨_, rfl, ⟨.slice va vn vc, rfl, HV.out⟩, Upd.refl _ _⟩
            case inr.inr.inr.inr.inr.inr.inr.inr.inr.inr.inl =>
              go_step
              exact ⟨_, rfl, own_lit w1 _ _ 8 _ _ (by decide) rfl hB1 rfl, (Upd.refl _ _).alloc _⟩
            case inr.inr.inr.inr.inr.inr.inr.inr.inr.inr.inr.inr.inr.inr.inr.inr.inr.inr.inr.inr.inr.inr.inl =>
              obtain ⟨k0, e0, o0⟩ := (show KPhi w.heap.size 0 (b.tmps.getD 134 undef) w1 from hd ⟨0, .data⟩ (by simp) rfl)
              have e0 : b.tmps[134]?.getD undef = .agg (evCells (evOf 0) nilS k0) := by simpa using e0
              obtain ⟨k1, e1, o1⟩ := (show KPhi w.heap.size 1 (b.tmps.getD 135 undef) w1 from hd ⟨1, .data⟩ (by simp) rfl)
              have e1 : b.tmps[135]?.getD undef = .agg (evCells (evOf 1) nilS k1) := by simpa using e1
              obtain ⟨k2, e2, o2⟩ := (show KPhi w.heap.size 2 (b.tmps.getD 136 undef) w1 from hd ⟨2, .data⟩ (by simp) rfl)
              have e2 : b.tmps[136]?.getD undef = .agg (evCells (evOf 2) nilS k2) := by simpa using e2
              obtain ⟨k3, e3, o3⟩ := (show KPhi w.heap.size 3 (b.tmps.getD 137 undef) w1 from hd ⟨3, .data⟩ (by simp) rfl)
              have e3 : b.tmps[137]?.getD undef = .agg (evCells (evOf 3) nilS k3) := by simpa using e3
              obtain ⟨k4, e4, o4⟩ := (show KPhi w.heap.size 4 (b.tmps.getD 138 undef) w1 from hd ⟨4, .data⟩ (by simp) rfl)
              have e4 : b.tmps[138]?.getD undef = .agg (evCells (evOf 4) nilS k4) := by simpa using e4
              obtain ⟨k5, e5, o5⟩ := (show KPhi w.heap.size 5 (b.tmps.getD 139 undef) w1 from hd ⟨5, .data⟩ (by simp) rfl)
              have e5 : b.tmps[139]?.getD undef = .agg (evCells (evOf 5) nilS k5) := by simpa using e5
              obtain ⟨k6, e6, o6⟩ := (show KPhi w.heap.size 6 (b.tmps.getD 140 undef) w1 from hd ⟨6, .data⟩ (by simp) rfl)
              have e6 : b.tmps[140]?.getD undef = .agg (evCells (evOf 6) nilS k6) := by simpa using e6
              obtain ⟨k7, e7, o7⟩ := (show KPhi w.heap.size 7 (b.tmps.getD 141 undef) w1 from hd ⟨7, .data⟩ (by simp) rfl)
              have e7 : b.tmps[141]?.getD undef = .agg (evCells (evOf 7) nilS k7) := by simpa using e7
              obtain ⟨k9, e9, o9⟩ := (show KPhi w.heap.size 9 (b.tmps.getD 143 undef) w1 from hd ⟨9, .data⟩ (by simp) rfl)
              have e9 : b.tmps[143]?.getD undef = .agg (evCells (evOf 9) nilS k9) := by simpa using e9
              obtain ⟨k11, e11, o11⟩ := (show KPhi w.heap.size 11 (b.tmps.getD 145 undef) w1 from hd ⟨11, .data⟩ (by simp) rfl)
              have e11 : b.tmps[145]?.getD undef = .agg (evCells (evOf 11) nilS k11) := by simpa using e11
              obtain ⟨k13, e13, o13⟩ := (show KPhi w.heap.size 13 (b.tmps.getD 147 undef) w1 from hd ⟨13, .data⟩ (by simp) rfl)
              have e13 : b.tmps[147]?.getD undef = .agg (evCells (evOf 13) nilS k13) := by simpa using e13
              obtain ⟨k15, e15, o15⟩ := (show KPhi w.heap.size 15 (b.tmps.getD 149 undef) w1 from hd ⟨15, .data⟩ (by simp) rfl)
              have e15 : b.tmps[149]?.getD undef = .agg (evCells (evOf 15) nilS k15) := by simpa using e15
              obtain ⟨k17, e17, o17⟩ := (show KPhi w.heap.size 17 (b.tmps.getD 151 undef) w1 from hd ⟨17, .data⟩ (by simp) rfl)
              have e17 : b.tmps[151]?.getD undef = .agg (evCells (evOf 17) nilS k17) := by simpa using e17
              obtain ⟨k18, e18, o18⟩ := (show KPhi w.heap.size 18 (b.tmps.getD 152 undef) w1 from hd ⟨18, .data⟩ (by simp) rfl)
              have e18 : b.tmps[152]?.getD undef = .agg (evCells (evOf 18) nilS k18) := by simpa using e18
              obtain ⟨k20, e20, o20⟩ := (show KPhi w.heap.size 20 (b.tmps.getD 154 undef) w1 from hd ⟨20, .data⟩ (by simp) rfl)
              have e20 : b.tmps[154]?.getD undef = .agg (evCells (evOf 20) nilS k20) := by simpa using e20
              obtain ⟨k21, e21, o21⟩ := (show KPhi w.heap.size 21 (b.tmps.getD 155 undef) w1 from hd ⟨21, .data⟩ (by simp) rfl)
              have e21 : b.tmps[155]?.getD undef = .agg (evCells (evOf 21) nilS k21) := by simpa using e21
              refine wp_buildStructs 32 44 16 14 168 _ rfl Try.eventsT [.agg (evCells (evOf 0) nilS k0), .agg (evCells (evOf 1) nilS k1), .agg (evCells (evOf 2) nilS k2), .agg (evCells (evOf 3) nilS k3), .agg (evCells (evOf 4) nilS k4), .agg (evCells (evOf 5) nilS k5), .agg (evCells (evOf 6) nilS k6), .agg (evCells (evOf 7) nilS k7), .agg (evCells (evOf 9) nilS k9), .agg (evCells (evOf 11) nilS k11), .agg (evCells (evOf 13) nilS k13), .agg (evCells (evOf 15) nilS k15), .agg (evCells (evOf 17) nilS k17), .agg (evCells (evOf 18) nilS k18), .agg (evCells (evOf 20) nilS k20), .agg (evCells (evOf 21) nilS k21)] rfl (by decide) (by decide) ?_ ?_ ?_
              · intro v hv
                simp only [List.mem_cons, List.not_mem_nil, or_false] at hv
                rcases hv with rfl | rfl | rfl | rfl | rfl | rfl | rfl | rfl | rfl | rfl | rfl | rfl | rfl | rfl | rfl | rfl <;> rfl
              · simp [Act.eval, e0, e1, e2, e3, e4, e5, e6, e7, e9, e11, e13, e15, e17, e18, e20, e21]
              · refine ⟨_, rfl, ?_, (Upd.refl _ _).alloc _⟩
                exact evs_lit hB1 [(evOf 0, nilS, k0), (evOf 1, nilS, k1), (evOf 2, nilS, k2), (evOf 3, nilS, k3), (evOf 4, nilS, k4), (evOf 5, nilS, k5), (evOf 6, nilS, k6), (evOf 7, nilS, k7), (evOf 9, nilS, k9), (evOf 11, nilS, k11), (evOf 13, nilS, k13), (evOf 15, nilS, k15), (evOf 17, nilS, k17), (evOf 18, nilS, k18), (evOf 20, nilS, k20), (evOf 21, nilS, k21)] (by
                  intro p hp
                  simp only [List.mem_cons, List.not_mem_nil, or_false] at hp
                  rcases hp with rfl | rfl | rfl | rfl | rfl | rfl | rfl | rfl | rfl | rfl | rfl | rfl | rfl | rfl | rfl | rfl
                  · exact ⟨World.ownsRow_nil _ _ _ _, o0⟩
                  · exact ⟨World.ownsRow_nil _ _ _ _, o1⟩
                  · exact ⟨World.ownsRow_nil _ _ _ _, o2⟩
                  · exact ⟨World.ownsRow_nil _ _ _ _, o3⟩
                  · exact ⟨World.ownsRow_nil _ _ _ _, o4⟩
                  · exact ⟨World.ownsRow_nil _ _ _ _, o5⟩
                  · exact ⟨World.ownsRow_nil _ _ _ _, o6⟩
                  · exact ⟨World.ownsRow_nil _ _ _ _, o7⟩
                  · exact ⟨World.ownsRow_nil _ _ _ _, o9⟩
                  · exact ⟨World.ownsRow_nil _ _ _ _, o11⟩
                  · exact ⟨World.ownsRow_nil _ _ _ _, o13⟩
                  · exact ⟨World.ownsRow_nil _ _ _ _, o15⟩
                  · exact ⟨World.ownsRow_nil _ _ _ _, o17⟩
                  · exact ⟨World.ownsRow_nil _ _ _ _, o18⟩
                  · exact ⟨World.ownsRow_nil _ _ _ _, o20⟩
                  · exact ⟨World.ownsRow_nil _ _ _ _, o21⟩) (by simp)
            case inr.inr.inr.inr.inr.inr.inr.inr.inr.inr.inr.inr.inr.inr.inr.inr.inr.inr.inr.inr.inr.inr.inr =>
              have h22 := Lib.hid (show EvsOwn w.heap.size w1 (b.tmps.getD 156 undef) evs16 from hd ⟨22, .data⟩ (by simp) rfl)
              have h23 : EvsOwn w.heap.size w1 (b.tmps[156]?.getD undef) evs16 := by simpa using h22.out
              have H23 := Lib.hid h23
              clear h23
              go_step
              exact ⟨_, rfl, H23.out, Upd.refl _ _⟩
          · intro v w1 hx1 hp
            have h23 : EvsOwn w.heap.size w1 (v 23) evs16 := hp 23 (by decide)
            have HEV := Lib.hid h23
            have HX1 := Lib.hid (HXC.out.trans hx1)
            have HG1 := Lib.hid (hx1.at_ HGC.out id)
            have HB1 := Lib.hid (hx1.at_ HBC.out id)
            obtain ⟨css, -, hown, -⟩ := h23
            obtain ⟨ea, en, ec, hv⟩ := ownsForm hown
            rw [hv] at HEV
            clear hown hp hx1 HGC HBC HXC hB0
            simp only [List.size_toArray, List.length_cons, List.length_nil, Nat.reduceAdd, fillAll, kdst]
            go_simp
            clear hv css
            go_wp2
            obtain ⟨wt, hwt⟩ : ∃ wt, wt = w1.alloc (.cells #[.string ⟨#[]⟩, .string ⟨#[97]⟩, .string ⟨#[102]⟩, .string ⟨#[103]⟩, .string ⟨#[97, 98]⟩, .string ⟨#[65]⟩, .string ⟨#[97, 98, 99, 100, 101, 102, 103, 104, 105, 106, 107, 108, 109, 110, 111]⟩, .string ⟨#[97, 98, 99, 100, 101, 102, 103, 104, 105, 106, 107, 108, 109, 110, 111, 112]⟩, .string ⟨#[126]⟩] 9) := ⟨_, rfl⟩
            rw [← hwt]
            have hxt : Ext w1 wt := by rw [hwt]; exact (Upd.refl _ _).alloc _
            have HTT := Lib.hid (show wt.heap[w1.heap.size]? = some (.cells textCells 9 (0, 0)) from by rw [hwt]; exact newAt _ _)
            have HGT := Lib.hid (hxt.at_ HG1.out id)
            have HBT := Lib.hid (hxt.at_ HB1.out id)
            have HXT := Lib.hid (HX1.out.trans hxt)
            have HET := Lib.hid (HEV.out.xt hxt)
            clear hxt hwt HX1 HG1 HB1 HEV
            generalize w1.heap.size = gt at HTT ⊢
            go_loopw [10, 12] (fun ev i wr => ∃ (k : Nat) (l : List Ev), k ≤ 9 ∧ i = .int .i64 k ∧ l.length = 16 + 4 * k ∧ (∀ x ∈ l, KEv x) ∧ Ext w wr ∧ wr.heap[g]? = some (.cells goodCells 31 (0, 0)) ∧ wr.heap[g + 1]? = some (.cells badCells 31 (0, 0)) ∧ wr.heap[gt]? = some (.cells textCells 9 (0, 0)) ∧ EvsOwn w.heap.size wr ev l)
              (fun _ i _ => 9 - (intOf i).toNat)
            case atStart => exact ⟨0, evs16, by omega, rfl, rfl, evs16_in, HXT.out, HGT.out, HBT.out, HTT.out, HET.out⟩
            case round =>
              obtain ⟨k6, l, hk6, rfl, hll, hin, hx, hgo, hba, htx, hev⟩ := hrel
              have HLL := Lib.hid hll
              have HIN := Lib.hid hin
              have HX := Lib.hid hx
              have HGO := Lib.hid hgo
              have HBA := Lib.hid hba
              have HTX := Lib.hid htx
              have HEV := Lib.hid hev
              clear hll hin hx hgo hba hev HTT HGT HBT HXT HET
              by_cases hk9 : k6 < 9
              · obtain ⟨t, ht, htl⟩ := text_at k6 hk9
                have xt := cellAt htx k6 (str t) ht
                have HT := Lib.hid ht
                obtain ⟨css, hcl, hown, hcs⟩ := HEV.out
                obtain ⟨ea, en, ec, rfl⟩ := ownsForm hown
                have HOWN := Lib.hid hown
                clear ht htx hcl hown hcs
                have hk0 : (0 : Int) ≤ (k6 : Int) := by omega
                have hk1 : (k6 : Int) < 9 := by omega
                have hlt6 : ∀ q, (Value.slice ea en ec).ownBlock = some q → q < wr.heap.size := fun q hq => (HOWN.out.lt q hq).2
                have hS : ∀ q, (Value.slice ea en ec).ownBlock = some q → ¬ q = gt := fun q hq e => by subst e; obtain ⟨cur, hc⟩ := owns_tag HOWN.out hq; exact tag_ne HTX.out (by decide) hc
                have HS := Lib.hid hS
                have HLT6 := Lib.hid hlt6
                clear hS hlt6
                have dk6 : decide ((k6 : Int) < 9) = true := by simp; omega
                go_wp2
                trace_state
                refine wp_region_inv' (fun q => (Value.slice ea en ec).ownBlock = some q) (fun i w w' => if i = 38 then Upd (fun q => (Value.slice ea en ec).ownBlock = some q) w w' else Ext w w') 38 kdst3 (KPsi (.slice ea en ec) (.slice (some ⟨gt, 0, none⟩) 9 9) gt k6 t wr.heap.size w.heap.size l) 283 (by kernel_rfl) (by decide) (by decide) (by decide) rfl (by decide) ?_ ?_ ?_ ?_
                · intro i w w' h
                  by_cases c : i = 38
                  · rw [if_pos c] at h; exact ⟨h, fun e => absurd c e⟩
                  · rw [if_neg c] at h; exact ⟨h.mono fun _ _ e => e.elim, fun _ => h⟩
                · intro i j v w1 w2 hi hj hne hanc hp hr
                  have hu : Upd (fun q => (Value.slice ea en ec).ownBlock = some q) w1 w2 := by
                    by_cases c : i = 38
                    · rw [if_pos c] at hr; exact hr
                    · rw [if_neg c] at hr; exact hr.mono fun _ _ e => e.elim
                  refine hp.upd hu HLT6.out fun hj2 => ?_
                  by_cases c : i = 38
                  · exfalso
                    subst c
                    rcases hj2 with rfl | rfl
                    · exact hne rfl
                    · exact absurd hanc (by decide)
                  · rw [if_neg c] at hr; exact hr
                · intro i o b w1 ho hx1 hd hk hE
                  have hi : i < 40 := (Array.getElem?_eq_some_iff.1 ho).1
                  have hi40 : i = 0 ∨ i = 1 ∨ i = 2 ∨ i = 3 ∨ i = 4 ∨ i = 5 ∨ i = 6 ∨ i = 7 ∨ i = 8 ∨ i = 9 ∨ i = 10 ∨ i = 11 ∨ i = 12 ∨ i = 13 ∨ i = 14 ∨ i = 15 ∨ i = 16 ∨ i = 17 ∨ i = 18 ∨ i = 19 ∨ i = 20 ∨ i = 21 ∨ i = 22 ∨ i = 23 ∨ i = 24 ∨ i = 25 ∨ i = 26 ∨ i = 27 ∨ i = 28 ∨ i = 29 ∨ i = 30 ∨ i = 31 ∨ i = 32 ∨ i = 33 ∨ i = 34 ∨ i = 35 ∨ i = 36 ∨ i = 37 ∨ i = 38 ∨ i = 39 := by omega
                  have xt1 := hx1.cell xt (fun e => HS.out gt e rfl)
                  have hB1 := hx1.size
                  rcases hi40 with rfl | rfl | rfl | rfl | rfl | rfl | rfl | rfl | rfl | rfl | rfl | rfl | rfl | rfl | rfl | rfl | rfl | rfl | rfl | rfl | rfl | rfl | rfl | rfl | rfl | rfl | rfl | rfl | rfl | rfl | rfl | rfl | rfl | rfl | rfl | rfl | rfl | rfl | rfl | rfl
                  all_goals (simp at ho; subst ho)
                  case inl =>
                    have e0 : b.tmps[10]?.getD undef = .slice ea en ec := by
                      have := hk 10 (by
                      intro j oj hj e
                      obtain rfl := kdst3_10 e
                      simp at hj; subst hj
                      exact .inr ⟨⟨0, .phase⟩, by simp, rfl, rfl⟩)
                      simpa using this
                    clear hd hk
                    go_step
                    exact ⟨_, rfl, rfl, Upd.refl _ _⟩
                  case inr.inl =>
                    have e0 : b.tmps[11]?.getD undef = .slice (some ⟨gt, 0, none⟩) 9 9 := by
                      have := hk 11 (fun j oj _ e => (kdst3_11 e).elim)
                      simpa using this
                    clear hd hk
                    go_step
                    exact ⟨_, rfl, rfl, Upd.refl _ _⟩
                  case inr.inr.inl =>
                    have e0 : b.tmps[12]?.getD undef = .int .i64 (k6 : Int) := by
                      have := hk 12 (fun j oj _ e => (kdst3_12 e).elim)
                      simpa using this
                    clear hd hk
                    go_step
                    exact ⟨_, rfl, rfl, Upd.refl _ _⟩
                  case inr.inr.inr.inl =>
                    have e1 : b.tmps[165]?.getD undef = .slice (some ⟨gt, 0, none⟩) 9 9 := by have := (show b.tmps.getD 165 undef = .slice (some ⟨gt, 0, none⟩) 9 9 from hd ⟨1, .data⟩ (by simp) rfl); simpa using this
                    have e2 : b.tmps[166]?.getD undef = .int .i64 (k6 : Int) := by have := (show b.tmps.getD 166 undef = .int .i64 (k6 : Int) from hd ⟨2, .data⟩ (by simp) rfl); simpa using this
                    clear hd hk
                    go_step
                    exact ⟨_, rfl, rfl, Upd.refl _ _⟩
                  case inr.inr.inr.inr.inl =>
                    have e3 : b.tmps[167]?.getD undef = .pointer (some ⟨gt, k6, none⟩) := by have := (show b.tmps.getD 167 undef = .pointer (some ⟨gt, k6, none⟩) from hd ⟨3, .data⟩ (by simp) rfl); simpa using this
                    clear hd hk
                    go_step
                    exact ⟨_, rfl, rfl, Upd.refl _ _⟩
                  case inr.inr.inr.inr.inr.inl =>
                    have e4 : b.tmps[168]?.getD undef = str t := by have := (show b.tmps.getD 168 undef = str t from hd ⟨4, .data⟩ (by simp) rfl); simpa using this
                    clear hd hk
                    go_step
                    exact ⟨_, rfl, rfl, Upd.refl _ _⟩
                  case inr.inr.inr.inr.inr.inr.inl =>
                    have e5 : b.tmps[169]?.getD undef = .agg (opCells (k30 k6 t 0).op nilS) := by have := (show b.tmps.getD 169 undef = .agg (opCells (k30 k6 t 0).op nilS) from hd ⟨5, .data⟩ (by simp) rfl); simpa using this
                    simp only [opCells, k30] at e5
                    clear hd hk
                    go_step
                    exact ⟨_, rfl, rfl, Upd.refl _ _⟩
                  case inr.inr.inr.inr.inr.inr.inr.inl =>
                    have e0 : b.tmps[12]?.getD undef = .int .i64 (k6 : Int) := by
                      have := hk 12 (fun j oj _ e => (kdst3_12 e).elim)
                      simpa using this
                    clear hd hk
                    go_step
                    exact ⟨_, rfl, rfl, Upd.refl _ _⟩
                  case inr.inr.inr.inr.inr.inr.inr.inr.inl =>
                    have e7 : b.tmps[171]?.getD undef = .int .i64 (k6 : Int) := by have := (show b.tmps.getD 171 undef = .int .i64 (k6 : Int) from hd ⟨7, .data⟩ (by simp) rfl); simpa using this
                    clear hd hk
                    go_step
                    exact ⟨_, rfl, rfl, Upd.refl _ _⟩
                  case inr.inr.inr.inr.inr.inr.inr.inr.inr.inl =>
                    have e0 : b.tmps[12]?.getD undef = .int .i64 (k6 : Int) := by
                      have := hk 12 (fun j oj _ e => (kdst3_12 e).elim)
                      simpa using this
                    clear hd hk
                    go_step
                    exact ⟨_, rfl, rfl, Upd.refl _ _⟩
                  case inr.inr.inr.inr.inr.inr.inr.inr.inr.inr.inl =>
                    have e9 : b.tmps[173]?.getD undef = .int .i64 (k6 : Int) := by have := (show b.tmps.getD 173 undef = .int .i64 (k6 : Int) from hd ⟨9, .data⟩ (by simp) rfl); simpa using this
                    clear hd hk
                    go_step
                    exact ⟨_, rfl, rfl, Upd.refl _ _⟩
                  case inr.inr.inr.inr.inr.inr.inr.inr.inr.inr.inr.inl =>
                    have e10 : b.tmps[174]?.getD undef = .int .i64 ((k6 : Int) * 5) := by have := (show b.tmps.getD 174 undef = .int .i64 ((k6 : Int) * 5) from hd ⟨10, .data⟩ (by simp) rfl); simpa using this
                    clear hd hk
                    go_step
                    exact ⟨_, rfl, rfl, Upd.refl _ _⟩
                  case inr.inr.inr.inr.inr.inr.inr.inr.inr.inr.inr.inr.inl =>
                    have e0 : b.tmps[11]?.getD undef = .slice (some ⟨gt, 0, none⟩) 9 9 := by
                      have := hk 11 (fun j oj _ e => (kdst3_11 e).elim)
                      simpa using this
                    clear hd hk
                    go_step
                    exact ⟨_, rfl, rfl, Upd.refl _ _⟩
                  case inr.inr.inr.inr.inr.inr.inr.inr.inr.inr.inr.inr.inr.inl =>
                    have e0 : b.tmps[12]?.getD undef = .int .i64 (k6 : Int) := by
                      have := hk 12 (fun j oj _ e => (kdst3_12 e).elim)
                      simpa using this
                    clear hd hk
                    go_step
                    exact ⟨_, rfl, rfl, Upd.refl _ _⟩
                  case inr.inr.inr.inr.inr.inr.inr.inr.inr.inr.inr.inr.inr.inr.inl =>
                    have e12 : b.tmps[176]?.getD undef = .slice (some ⟨gt, 0, none⟩) 9 9 := by have := (show b.tmps.getD 176 undef = .slice (some ⟨gt, 0, none⟩) 9 9 from hd ⟨12, .data⟩ (by simp) rfl); simpa using this
                    have e13 : b.tmps[177]?.getD undef = .int .i64 (k6 : Int) := by have := (show b.tmps.getD 177 undef = .int .i64 (k6 : Int) from hd ⟨13, .data⟩ (by simp) rfl); simpa using this
                    clear hd hk
                    go_step
                    exact ⟨_, rfl, rfl, Upd.refl _ _⟩
                  case inr.inr.inr.inr.inr.inr.inr.inr.inr.inr.inr.inr.inr.inr.inr.inl =>
                    have e14 : b.tmps[178]?.getD undef = .pointer (some ⟨gt, k6, none⟩) := by have := (show b.tmps.getD 178 undef = .pointer (some ⟨gt, k6, none⟩) from hd ⟨14, .data⟩ (by simp) rfl); simpa using this
                    clear hd hk
                    go_step
                    exact ⟨_, rfl, rfl, Upd.refl _ _⟩
                  case inr.inr.inr.inr.inr.inr.inr.inr.inr.inr.inr.inr.inr.inr.inr.inr.inl =>
                    have e8 : b.tmps[172]?.getD undef = .int .u64 (k6 : Int) := by have := (show b.tmps.getD 172 undef = .int .u64 (k6 : Int) from hd ⟨8, .data⟩ (by simp) rfl); simpa using this
                    have e11 : b.tmps[175]?.getD undef = .int .u64 ((k6 : Int) * 5) := by have := (show b.tmps.getD 175 undef = .int .u64 ((k6 : Int) * 5) from hd ⟨11, .data⟩ (by simp) rfl); simpa using this
                    have e15 : b.tmps[179]?.getD undef = str t := by have := (show b.tmps.getD 179 undef = str t from hd ⟨15, .data⟩ (by simp) rfl); simpa using this
                    clear hd hk
                    go_step
                    exact ⟨_, rfl, rfl, Upd.refl _ _⟩
                  case inr.inr.inr.inr.inr.inr.inr.inr.inr.inr.inr.inr.inr.inr.inr.inr.inr.inl =>
                    have e16 : b.tmps[180]?.getD undef = .agg (opCells (k30 k6 t 1).op nilS) := by have := (show b.tmps.getD 180 undef = .agg (opCells (k30 k6 t 1).op nilS) from hd ⟨16, .data⟩ (by simp) rfl); simpa using this
                    simp only [opCells, k30] at e16
                    clear hd hk
                    go_step
                    exact ⟨_, rfl, rfl, Upd.refl _ _⟩
                  case inr.inr.inr.inr.inr.inr.inr.inr.inr.inr.inr.inr.inr.inr.inr.inr.inr.inr.inl =>
                    have e0 : b.tmps[12]?.getD undef = .int .i64 (k6 : Int) := by
                      have := hk 12 (fun j oj _ e => (kdst3_12 e).elim)
                      simpa using this
                    clear hd hk
                    go_step
                    exact ⟨_, rfl, rfl, Upd.refl _ _⟩
                  case inr.inr.inr.inr.inr.inr.inr.inr.inr.inr.inr.inr.inr.inr.inr.inr.inr.inr.inr.inl =>
                    have e18 : b.tmps[182]?.getD undef = .int .i64 (k6 : Int) := by have := (show b.tmps.getD 182 undef = .int .i64 (k6 : Int) from hd ⟨18, .data⟩ (by simp) rfl); simpa using this
                    clear hd hk
                    go_step
                    exact ⟨_, rfl, rfl, Upd.refl _ _⟩
                  case inr.inr.inr.inr.inr.inr.inr.inr.inr.inr.inr.inr.inr.inr.inr.inr.inr.inr.inr.inr.inl =>
                    have e19 : b.tmps[183]?.getD undef = .int .i64 ((k6 : Int) * 4) := by have := (show b.tmps.getD 183 undef = .int .i64 ((k6 : Int) * 4) from hd ⟨19, .data⟩ (by simp) rfl); simpa using this
                    clear hd hk
                    go_step
                    exact ⟨_, rfl, rfl, Upd.refl _ _⟩
                  case inr.inr.inr.inr.inr.inr.inr.inr.inr.inr.inr.inr.inr.inr.inr.inr.inr.inr.inr.inr.inr.inl =>
                    have e0 : b.tmps[11]?.getD undef = .slice (some ⟨gt, 0, none⟩) 9 9 := by
                      have := hk 11 (fun j oj _ e => (kdst3_11 e).elim)
                      simpa using this
                    clear hd hk
                    go_step
                    exact ⟨_, rfl, rfl, Upd.refl _ _⟩
                  case inr.inr.inr.inr.inr.inr.inr.inr.inr.inr.inr.inr.inr.inr.inr.inr.inr.inr.inr.inr.inr.inr.inl =>
                    have e0 : b.tmps[12]?.getD undef = .int .i64 (k6 : Int) := by
                      have := hk 12 (fun j oj _ e => (kdst3_12 e).elim)
                      simpa using this
                    clear hd hk
                    go_step
                    exact ⟨_, rfl, rfl, Upd.refl _ _⟩
                  case inr.inr.inr.inr.inr.inr.inr.inr.inr.inr.inr.inr.inr.inr.inr.inr.inr.inr.inr.inr.inr.inr.inr.inl =>
                    have e21 : b.tmps[185]?.getD undef = .slice (some ⟨gt, 0, none⟩) 9 9 := by have := (show b.tmps.getD 185 undef = .slice (some ⟨gt, 0, none⟩) 9 9 from hd ⟨21, .data⟩ (by simp) rfl); simpa using this
                    have e22 : b.tmps[186]?.getD undef = .int .i64 (k6 : Int) := by have := (show b.tmps.getD 186 undef = .int .i64 (k6 : Int) from hd ⟨22, .data⟩ (by simp) rfl); simpa using this
                    clear hd hk
                    go_step
                    exact ⟨_, rfl, rfl, Upd.refl _ _⟩
                  case inr.inr.inr.inr.inr.inr.inr.inr.inr.inr.inr.inr.inr.inr.inr.inr.inr.inr.inr.inr.inr.inr.inr.inr.inl =>
                    have e23 : b.tmps[187]?.getD undef = .pointer (some ⟨gt, k6, none⟩) := by have := (show b.tmps.getD 187 undef = .pointer (some ⟨gt, k6, none⟩) from hd ⟨23, .data⟩ (by simp) rfl); simpa using this
                    clear hd hk
                    go_step
                    exact ⟨_, rfl, rfl, Upd.refl _ _⟩
                  case inr.inr.inr.inr.inr.inr.inr.inr.inr.inr.inr.inr.inr.inr.inr.inr.inr.inr.inr.inr.inr.inr.inr.inr.inr.inl =>
                    have e24 : b.tmps[188]?.getD undef = str t := by have := (show b.tmps.getD 188 undef = str t from hd ⟨24, .data⟩ (by simp) rfl); simpa using this
                    clear hd hk
                    go_step
                    exact ⟨_, rfl, rfl, Upd.refl _ _⟩
                  case inr.inr.inr.inr.inr.inr.inr.inr.inr.inr.inr.inr.inr.inr.inr.inr.inr.inr.inr.inr.inr.inr.inr.inr.inr.inr.inl =>
                    have e0 : b.tmps[12]?.getD undef = .int .i64 (k6 : Int) := by
                      have := hk 12 (fun j oj _ e => (kdst3_12 e).elim)
                      simpa using this
                    clear hd hk
                    go_step
                    exact ⟨_, rfl, rfl, Upd.refl _ _⟩
                  case inr.inr.inr.inr.inr.inr.inr.inr.inr.inr.inr.inr.inr.inr.inr.inr.inr.inr.inr.inr.inr.inr.inr.inr.inr.inr.inr.inl =>
                    have e26 : b.tmps[190]?.getD undef = .int .i64 (k6 : Int) := by have := (show b.tmps.getD 190 undef = .int .i64 (k6 : Int) from hd ⟨26, .data⟩ (by simp) rfl); simpa using this
                    clear hd hk
                    go_step
                    exact ⟨_, rfl, rfl, Upd.refl _ _⟩
                  case inr.inr.inr.inr.inr.inr.inr.inr.inr.inr.inr.inr.inr.inr.inr.inr.inr.inr.inr.inr.inr.inr.inr.inr.inr.inr.inr.inr.inl =>
                    have e27 : b.tmps[191]?.getD undef = .int .i64 ((k6 : Int) * 2) := by have := (show b.tmps.getD 191 undef = .int .i64 ((k6 : Int) * 2) from hd ⟨27, .data⟩ (by simp) rfl); simpa using this
                    clear hd hk
                    go_step
                    exact ⟨_, rfl, rfl, Upd.refl _ _⟩
                  case inr.inr.inr.inr.inr.inr.inr.inr.inr.inr.inr.inr.inr.inr.inr.inr.inr.inr.inr.inr.inr.inr.inr.inr.inr.inr.inr.inr.inr.inl =>
                    have e25 : b.tmps[189]?.getD undef = .agg #[.int .u8 2, .int .i64 0, str t] := by have := (show b.tmps.getD 189 undef = .agg #[.int .u8 2, .int .i64 0, str t] from hd ⟨25, .data⟩ (by simp) rfl); simpa using this
                    have e28 : b.tmps[192]?.getD undef = .agg #[.int .u8 3, .int .i64 ((k6 : Int) * 2), str []] := by have := (show b.tmps.getD 192 undef = .agg #[.int .u8 3, .int .i64 ((k6 : Int) * 2), str []] from hd ⟨28, .data⟩ (by simp) rfl); simpa using this
                    refine wp_buildStructs 39 46 2 3 32 _ rfl Try.editsT [.agg #[.int .u8 2, .int .i64 0, str t], .agg #[.int .u8 3, .int .i64 ((k6 : Int) * 2), str []]] rfl (by decide) (by decide) ?_ ?_ ?_
                    · intro v hv
                      simp only [List.mem_cons, List.not_mem_nil, or_false] at hv
                      rcases hv with rfl | rfl <;> rfl
                    · simp [Act.eval, e25, e28]
                    · refine ⟨_, rfl, ?_, (Upd.refl _ _).alloc _⟩
                      exact World.ownsRow_lit (base := wr.heap.size) (e := 46) (size := 3) w1 _ 2 hB1 (by decide) rfl
                  case inr.inr.inr.inr.inr.inr.inr.inr.inr.inr.inr.inr.inr.inr.inr.inr.inr.inr.inr.inr.inr.inr.inr.inr.inr.inr.inr.inr.inr.inr.inl =>
                    have e20 : b.tmps[184]?.getD undef = .int .u64 ((k6 : Int) * 4) := by have := (show b.tmps.getD 184 undef = .int .u64 ((k6 : Int) * 4) from hd ⟨20, .data⟩ (by simp) rfl); simpa using this
                    have h29 : w1.ownsRow wr.heap.size 46 3 (b.tmps.getD 193 undef) 2 (editCells (k30 k6 t 2).op.edits) := hd ⟨29, .data⟩ (by simp) rfl
                    obtain ⟨va, vn, vc, hv0⟩ := ownsForm h29
                    rw [hv0] at h29
                    have H29 := Lib.hid h29
                    have hv : b.tmps[193]?.getD undef = .slice va vn vc := by simpa using hv0
                    clear hd hk h29 hv0
                    go_step
                    exact ⟨_, rfl, ⟨.slice va vn vc, rfl, H29.out⟩, Upd.refl _ _⟩
                  case inr.inr.inr.inr.inr.inr.inr.inr.inr.inr.inr.inr.inr.inr.inr.inr.inr.inr.inr.inr.inr.inr.inr.inr.inr.inr.inr.inr.inr.inr.inr.inl =>
                    obtain ⟨ve, e30, h30⟩ : ∃ ve, b.tmps.getD 194 undef = .agg (opCells (k30 k6 t 2).op ve) ∧ w1.ownsRow wr.heap.size 46 3 ve 2 (editCells (k30 k6 t 2).op.edits) := hd ⟨30, .data⟩ (by simp) rfl
                    have e30 : b.tmps[194]?.getD undef = .agg (opCells (k30 k6 t 2).op ve) := by simpa using e30
                    simp only [opCells, k30] at e30
                    have H30 := Lib.hid h30
                    clear hd hk h30
                    go_step
                    exact ⟨_, rfl, ⟨ve, rfl, H30.out⟩, Upd.refl _ _⟩
                  case inr.inr.inr.inr.inr.inr.inr.inr.inr.inr.inr.inr.inr.inr.inr.inr.inr.inr.inr.inr.inr.inr.inr.inr.inr.inr.inr.inr.inr.inr.inr.inr.inl =>
                    have e0 : b.tmps[12]?.getD undef = .int .i64 (k6 : Int) := by
                      have := hk 12 (fun j oj _ e => (kdst3_12 e).elim)
                      simpa using this
                    clear hd hk
                    go_step
                    exact ⟨_, rfl, rfl, Upd.refl _ _⟩
                  case inr.inr.inr.inr.inr.inr.inr.inr.inr.inr.inr.inr.inr.inr.inr.inr.inr.inr.inr.inr.inr.inr.inr.inr.inr.inr.inr.inr.inr.inr.inr.inr.inr.inl =>
                    have e32 : b.tmps[196]?.getD undef = .int .i64 (k6 : Int) := by have := (show b.tmps.getD 196 undef = .int .i64 (k6 : Int) from hd ⟨32, .data⟩ (by simp) rfl); simpa using this
                    clear hd hk
                    go_step
                    exact ⟨_, rfl, rfl, Upd.refl _ _⟩
                  case inr.inr.inr.inr.inr.inr.inr.inr.inr.inr.inr.inr.inr.inr.inr.inr.inr.inr.inr.inr.inr.inr.inr.inr.inr.inr.inr.inr.inr.inr.inr.inr.inr.inr.inl =>
                    have e33 : b.tmps[197]?.getD undef = .int .i64 (254 + (k6 : Int)) := by have := (show b.tmps.getD 197 undef = .int .i64 (254 + (k6 : Int)) from hd ⟨33, .data⟩ (by simp) rfl); simpa using this
                    clear hd hk
                    go_step
                    exact ⟨_, rfl, rfl, Upd.refl _ _⟩
                  case inr.inr.inr.inr.inr.inr.inr.inr.inr.inr.inr.inr.inr.inr.inr.inr.inr.inr.inr.inr.inr.inr.inr.inr.inr.inr.inr.inr.inr.inr.inr.inr.inr.inr.inr.inl =>
                    have e34 : b.tmps[198]?.getD undef = .int .u64 (254 + (k6 : Int)) := by have := (show b.tmps.getD 198 undef = .int .u64 (254 + (k6 : Int)) from hd ⟨34, .data⟩ (by simp) rfl); simpa using this
                    clear hd hk
                    go_step
                    exact ⟨_, rfl, rfl, Upd.refl _ _⟩
                  case inr.inr.inr.inr.inr.inr.inr.inr.inr.inr.inr.inr.inr.inr.inr.inr.inr.inr.inr.inr.inr.inr.inr.inr.inr.inr.inr.inr.inr.inr.inr.inr.inr.inr.inr.inr.inl =>
                    have e35 : b.tmps[199]?.getD undef = .agg (opCells (k30 k6 t 3).op nilS) := by have := (show b.tmps.getD 199 undef = .agg (opCells (k30 k6 t 3).op nilS) from hd ⟨35, .data⟩ (by simp) rfl); simpa using this
                    simp only [opCells, k30] at e35
                    clear hd hk
                    go_step
                    exact ⟨_, rfl, rfl, Upd.refl _ _⟩
                  case inr.inr.inr.inr.inr.inr.inr.inr.inr.inr.inr.inr.inr.inr.inr.inr.inr.inr.inr.inr.inr.inr.inr.inr.inr.inr.inr.inr.inr.inr.inr.inr.inr.inr.inr.inr.inr.inl =>
                    have e6 : b.tmps[170]?.getD undef = .agg (evCells (k30 k6 t 0) nilS nilS) := by have := (show b.tmps.getD 170 undef = .agg (evCells (k30 k6 t 0) nilS nilS) from hd ⟨6, .data⟩ (by simp) rfl); simpa using this
                    have e17 : b.tmps[181]?.getD undef = .agg (evCells (k30 k6 t 1) nilS nilS) := by have := (show b.tmps.getD 181 undef = .agg (evCells (k30 k6 t 1) nilS nilS) from hd ⟨17, .data⟩ (by simp) rfl); simpa using this
                    have e36 : b.tmps[200]?.getD undef = .agg (evCells (k30 k6 t 3) nilS nilS) := by have := (show b.tmps.getD 200 undef = .agg (evCells (k30 k6 t 3) nilS nilS) from hd ⟨36, .data⟩ (by simp) rfl); simpa using this
                    obtain ⟨ve, e31, h31⟩ : ∃ ve, b.tmps.getD 195 undef = .agg (evCells (k30 k6 t 2) ve nilS) ∧ w1.ownsRow wr.heap.size 46 3 ve 2 (editCells (k30 k6 t 2).op.edits) := hd ⟨31, .data⟩ (by simp) rfl
                    have e31 : b.tmps[195]?.getD undef = .agg (evCells (k30 k6 t 2) ve nilS) := by simpa using e31
                    refine wp_buildStructs 32 44 4 14 168 _ rfl Try.eventsT [.agg (evCells (k30 k6 t 0) nilS nilS), .agg (evCells (k30 k6 t 1) nilS nilS), .agg (evCells (k30 k6 t 2) ve nilS), .agg (evCells (k30 k6 t 3) nilS nilS)] rfl (by decide) (by decide) ?_ ?_ ?_
                    · intro v hv
                      simp only [List.mem_cons, List.not_mem_nil, or_false] at hv
                      rcases hv with rfl | rfl | rfl | rfl <;> rfl
                    · simp [Act.eval, e6, e17, e31, e36]
                    · refine ⟨_, rfl, ?_, (Upd.refl _ _).alloc _⟩
                      exact evs_lit hB1 [(k30 k6 t 0, nilS, nilS), (k30 k6 t 1, nilS, nilS), (k30 k6 t 2, ve, nilS), (k30 k6 t 3, nilS, nilS)] (by
                        intro p hp
                        simp only [List.mem_cons, List.not_mem_nil, or_false] at hp
                        rcases hp with rfl | rfl | rfl | rfl
                        · exact ⟨World.ownsRow_nil _ _ _ _, World.ownsRow_nil _ _ _ _⟩
                        · exact ⟨World.ownsRow_nil _ _ _ _, World.ownsRow_nil _ _ _ _⟩
                        · exact ⟨h31, World.ownsRow_nil _ _ _ _⟩
                        · exact ⟨World.ownsRow_nil _ _ _ _, World.ownsRow_nil _ _ _ _⟩) (by simp)
                  case inr.inr.inr.inr.inr.inr.inr.inr.inr.inr.inr.inr.inr.inr.inr.inr.inr.inr.inr.inr.inr.inr.inr.inr.inr.inr.inr.inr.inr.inr.inr.inr.inr.inr.inr.inr.inr.inr.inl =>
                    have e0 : b.eval (.tmp 164) = .slice ea en ec := by
                      have := (show b.tmps.getD 164 undef = .slice ea en ec from hd ⟨0, .data⟩ (by simp) rfl)
                      simpa [Act.eval] using this
                    have h37 : EvsOwn wr.heap.size w1 (b.tmps.getD 201 undef) (kNew k6 t) := hd ⟨37, .data⟩ (by simp) rfl
                    obtain ⟨css, hcl, hown, hcs⟩ := HEV.out.xt (hE rfl)
                    obtain ⟨cs2, hcl2, hown2, hcs2⟩ := h37
                    obtain ⟨gb, go, gc, hgv, -, -, -, hgc⟩ := (Row.of_owns hown2).addr (show 0 < 4 by decide)
                    have hgv : b.tmps.getD 201 undef = .slice (some ⟨gb, go, none⟩) 4 gc := hgv
                    have e37 : b.eval (.tmp 201) = .slice (some ⟨gb, go, none⟩) 4 gc := by
                      simpa [Act.eval] using hgv
                    obtain ⟨hu0, ⟨ii, zz, hi0, hz0, hz2, hz3, hz4⟩, hp0⟩ := Try.eventsT
                    have hll := HLL.out
                    refine wp_append_own (w := w1) (.tmp 164) (.tmp 201) 32 rfl w.heap.size 44 ii zz 14 168 hu0 hi0 hz0 hz2 hz3 hz4 hp0 _ l.length css.flatten e0 hown ⟨gb, go, none⟩ 4 gc cs2.flatten e37 (by have := hown2.1; simpa [kNew] using this)
                      (fun j u hj => by have := hgc j u hj; rw [show (⟨gb, go, none⟩ : Addr).add j = ⟨gb, go + j, none⟩ from by unfold Addr.add; split <;> simp_all]; exact this) (ev_ones hcl2 hcs2) (by unfold maxLen; omega) (by omega) (Nat.le_trans HX.out.size hB1) ?_
                    intro v' w2 hown3 hg _
                    exact ⟨v', rfl, EvsOwn.append HX.out.size hcl hcl2 hown hcs hcs2 hown3 hg, grownUpd hg⟩
                  case inr.inr.inr.inr.inr.inr.inr.inr.inr.inr.inr.inr.inr.inr.inr.inr.inr.inr.inr.inr.inr.inr.inr.inr.inr.inr.inr.inr.inr.inr.inr.inr.inr.inr.inr.inr.inr.inr.inr =>
                    have h38 : EvsOwn w.heap.size w1 (b.tmps.getD 202 undef) (l ++ kNew k6 t) := hd ⟨38, .data⟩ (by simp) rfl
                    have h39 : EvsOwn w.heap.size w1 (b.tmps[202]?.getD undef) (l ++ kNew k6 t) := by simpa using h38
                    have H39 := Lib.hid h39
                    clear hd hk h38 h39
                    go_step
                    exact ⟨_, rfl, H39.out, Upd.refl _ _⟩
                · intro v w1 hx1 hp
                  have h39 : EvsOwn w.heap.size w1 (v 39) (l ++ kNew k6 t) := hp 39 (by decide)
                  have HE1 := Lib.hid h39
                  have hsg : ∀ q, (Value.slice ea en ec).ownBlock = some q → w.heap.size ≤ q := fun q hq => (HOWN.out.lt q hq).1
                  have HX1 := Lib.hid (HX.out.step hx1 fun i hi e => by have := hsg i e; omega)
                  have htag : ∀ q cs T, wr.heap[q]? = some (.cells cs T (0, 0)) → T ≠ 44 → ¬ (Value.slice ea en ec).ownBlock = some q := fun q cs T hq hT e => by obtain ⟨cur, hc⟩ := owns_tag HOWN.out e; exact tag_ne hq hT hc
                  have HG1 := Lib.hid (hx1.at_ HGO.out (htag _ _ _ HGO.out (by decide)))
                  have HB1 := Lib.hid (hx1.at_ HBA.out (htag _ _ _ HBA.out (by decide)))
                  have HT1 := Lib.hid (hx1.at_ HTX.out (htag _ _ _ HTX.out (by decide)))
                  obtain ⟨css, -, hown, -⟩ := h39
                  obtain ⟨ea', en', ec', hv⟩ := ownsForm hown
                  rw [hv] at HE1
                  clear hown hp hx1 hsg htag xt
                  simp only [List.size_toArray, List.length_cons, List.length_nil, Nat.reduceAdd, fillAll, kdst3]
                  go_simp
                  clear hv css
                  go_wp2
                  go_roundw
                  case rel => exact ⟨k6 + 1, l ++ kNew k6 t, by omega, by go_num, by rw [List.length_append, HLL.out]; simp [kNew]; omega, fun x hx => (List.mem_append.1 hx).elim (HIN.out x) (kNew_in k6 hk9 t htl x), HX1.out, HG1.out, HB1.out, HT1.out, HE1.out⟩
                  case measure => simp [intOf]; omega
              · have hll : l.length = 52 := by rw [HLL.out]; omega
                clear HLL
                obtain ⟨css, hcl, hown, hcs⟩ := HEV.out
                rw [hll] at hown
                obtain ⟨eb, eo, ec, hev, -, hec, hem, -⟩ := (Row.of_owns hown).addr (by decide)
                obtain ⟨u10', hu10⟩ : ∃ u, u = Value.slice (some ⟨eb, eo, none⟩) 52 ec := ⟨_, rfl⟩
                rw [hev] at HEV
                have HR := Lib.hid (EvsRow.till HEV.out)
                unfold maxLen at hem
                subst hev
                clear hcl hown hcs hu10 u10' css
                go_wp2
                obtain ⟨wz, hwz⟩ : ∃ x, x = wr := ⟨_, rfl⟩
                subst hwz
                have hlen52 := hll
                have HL52 := Lib.hid hll
                clear hll hlen52 hk9 hk6
                go_loopw [13] (fun i w7 => ∃ k7 : Nat, k7 ≤ 52 ∧ i = .int .i64 k7 ∧ Ext wz w7) (fun i _ => 52 - (intOf i).toNat)
                case atStart => exact ⟨0, by omega, rfl, Upd.refl _ _⟩
                case round =>
                  obtain ⟨k7, hk7, rfl, hx7⟩ := hrel
                  have HX7 := Lib.hid hx7
                  clear hx7
                  by_cases hk52 : k7 < 52
                  · have dk7 : decide ((k7 : Int) < 52) = true := by simp; omega
                    have HAT := HR.out.at_.2.2
                    obtain ⟨b2, o2, c2, v2, u2, q2, -, r2, s2, t2⟩ := HAT 2 (by rw [HL52.out]; decide)
                    obtain ⟨bk, ok, ck, vk, uk, qk, -, rk, sk, tk⟩ := HAT k7 (by rw [HL52.out]; exact hk52)
                    rw [HL52.out] at q2 qk
                    cases q2; cases qk
                    obtain ⟨x2, hx2⟩ : ∃ x, x = l[2]'(by rw [HL52.out]; decide) := ⟨_, rfl⟩
                    obtain ⟨xk, hxk⟩ : ∃ x, x = l[k7]'(by rw [HL52.out]; exact hk52) := ⟨_, rfl⟩
                    rw [← hx2] at r2 s2 t2
                    rw [← hxk] at rk sk tk
                    have hin2 : EvIn x2 := by rw [hx2]; exact HIN.out _ (List.getElem_mem _)
                    have hink : EvIn xk := by rw [hxk]; exact HIN.out _ (List.getElem_mem _)
                    obtain ⟨m8, hm8⟩ : ∃ m : Nat, m = k7 % 8 := ⟨_, rfl⟩
                    obtain ⟨m3, hm3⟩ : ∃ m : Nat, m = k7 % 3 := ⟨_, rfl⟩
                    have hm8i : (k7 : Int) % 8 = (m8 : Int) := by omega
                    have hm3i : (k7 : Int) % 3 = (m3 : Int) := by omega
                    have hm8l : m8 < 8 := by omega
                    have hm3l : m3 < 3 := by omega
                    obtain ⟨hbc, hbw, hbs⟩ := badCfg_at m8 hm8l
                    have HM8 := Lib.hid hm8
                    have HM3 := Lib.hid hm3
                    have HBC := Lib.hid hbc
                    have hek : [xk] = (l.drop k7).take 1 := by
                      rw [List.drop_eq_getElem_cons (by rw [HL52.out]; exact hk52), ← hxk]; rfl
                    have HEK := Lib.hid hek
                    have R2 := Lib.hid r2
                    have RK := Lib.hid rk
                    have S2 := Lib.hid s2
                    have T2 := Lib.hid t2
                    have SK := Lib.hid sk
                    have TK := Lib.hid tk
                    have kp0 : (0 : Int) ≤ (k7 : Int) := by omega
                    have kp1 : (k7 : Int) < 52 := by omega
                    clear HAT r2 s2 t2 rk sk tk hx2 hxk hm8 hm3 hbc hek
                    go_wp2
                    refine wp_region_invG Nothing (fun _ => Ext) 100 kdst4 (KTau ⟨eb, eo, ec, k7, g, x2, v2, u2, xk, vk, uk⟩) 283 (by kernel_rfl) (by decide) (by decide) rfl (by decide) (fun i w w' h => ⟨h, fun _ => h⟩) (fun i j v w w' _ _ _ _ h hu => h.ext hu) ?_ ?_
                    · intro i o b w1 ho hx1 hd hk hE
                      have hi : i < 36 := (Array.getElem?_eq_some_iff.1 ho).1
                      have hi36 : i = 0 ∨ i = 1 ∨ i = 2 ∨ i = 3 ∨ i = 4 ∨ i = 5 ∨ i = 6 ∨ i = 7 ∨ i = 8 ∨ i = 9 ∨ i = 10 ∨ i = 11 ∨ i = 12 ∨ i = 13 ∨ i = 14 ∨ i = 15 ∨ i = 16 ∨ i = 17 ∨ i = 18 ∨ i = 19 ∨ i = 20 ∨ i = 21 ∨ i = 22 ∨ i = 23 ∨ i = 24 ∨ i = 25 ∨ i = 26 ∨ i = 27 ∨ i = 28 ∨ i = 29 ∨ i = 30 ∨ i = 31 ∨ i = 32 ∨ i = 33 ∨ i = 34 ∨ i = 35 := by omega
                      clear hE
                      have HW1 := Lib.hid (HX7.out.trans hx1)
                      clear hx1
                      rcases hi36 with rfl | rfl | rfl | rfl | rfl | rfl | rfl | rfl | rfl | rfl | rfl | rfl | rfl | rfl | rfl | rfl | rfl | rfl | rfl | rfl | rfl | rfl | rfl | rfl | rfl | rfl | rfl | rfl | rfl | rfl | rfl | rfl | rfl | rfl | rfl | rfl
                      all_goals (simp at ho; subst ho)
                      case inl =>
                        refine ⟨by simp [Region.wanted], ?_⟩
                        have e0 : b.eval (.tmp 8) = .pointer (some ⟨g, 0, none⟩) := by
                          have := hk 8 (fun j oj _ e => (kdst4_ne (by decide) e).elim)
                          simpa [Act.eval] using this
                        have hg1 := HW1.out.at_ HGO.out id
                        exact wp_load_mid (w := w1) 31 (.tmp 8) rfl g 0 e0 goodCells.toList _ (fun j u hj => by have := cellAt hg1 j u (by simpa using hj); simpa using this) Try.underlying31 rfl (by kernel_rfl) ⟨_, rfl, rfl, Upd.refl _ _⟩
                      case inr.inl =>
                        refine ⟨by simp [Region.wanted], ?_⟩
                        have e0 : b.tmps[10]?.getD undef = .slice (some ⟨eb, eo, none⟩) 52 ec := by
                          have := hk 10 (fun j oj _ e => (kdst4_ne (by decide) e).elim)
                          simpa using this
                        clear hd hk
                        go_step
                        exact ⟨_, rfl, rfl, Upd.refl _ _⟩
                      case inr.inr.inl =>
                        refine ⟨by simp [Region.wanted], ?_⟩
                        have e0 : b.tmps[13]?.getD undef = .int .i64 (k7 : Int) := by
                          have := hk 13 (fun j oj _ e => (kdst4_ne (by decide) e).elim)
                          simpa using this
                        clear hd hk
                        go_step
                        exact ⟨_, rfl, rfl, Upd.refl _ _⟩
                      case inr.inr.inr.inl =>
                        refine ⟨by simp [Region.wanted], ?_⟩
                        have e0 : b.tmps[13]?.getD undef = .int .i64 (k7 : Int) := by
                          have := hk 13 (fun j oj _ e => (kdst4_ne (by decide) e).elim)
                          simpa using this
                        clear hd hk
                        go_step
                        exact ⟨_, rfl, rfl, Upd.refl _ _⟩
                      case inr.inr.inr.inr.inl =>
                        refine ⟨by simp [Region.wanted], ?_⟩
                        have e3 : b.tmps[212]?.getD undef = .int .i64 (k7 : Int) := by have := (show b.tmps.getD 212 undef = .int .i64 (k7 : Int) from hd ⟨3, .data⟩ (by simp) rfl); simpa using this
                        clear hd hk
                        go_step
                        exact ⟨_, rfl, rfl, Upd.refl _ _⟩
                      case inr.inr.inr.inr.inr.inl =>
                        refine ⟨by simp [Region.wanted], ?_⟩
                        have e1 : b.tmps[210]?.getD undef = .slice (some ⟨eb, eo, none⟩) 52 ec := by have := (show b.tmps.getD 210 undef = .slice (some ⟨eb, eo, none⟩) 52 ec from hd ⟨1, .data⟩ (by simp) rfl); simpa using this
                        have e2 : b.tmps[211]?.getD undef = .int .i64 (k7 : Int) := by have := (show b.tmps.getD 211 undef = .int .i64 (k7 : Int) from hd ⟨2, .data⟩ (by simp) rfl); simpa using this
                        have e4 : b.tmps[213]?.getD undef = .int .i64 ((k7 : Int) + 1) := by have := (show b.tmps.getD 213 undef = .int .i64 ((k7 : Int) + 1) from hd ⟨4, .data⟩ (by simp) rfl); simpa using this
                        clear hd hk
                        go_step
                        simp only [show (0 : Int) ≤ (k7 : Int) + 1 from by omega, show (k7 : Int) + 1 ≤ (ec : Int) from by omega, show ¬ ec = k7 from by omega, and_self, if_true, if_false]
                        exact ⟨_, rfl, rfl, Upd.refl _ _⟩
                      case inr.inr.inr.inr.inr.inr.inl =>
                        refine ⟨by simp [Region.wanted], ?_⟩
                        have e0 : b.tmps[13]?.getD undef = .int .i64 (k7 : Int) := by
                          have := hk 13 (fun j oj _ e => (kdst4_ne (by decide) e).elim)
                          simpa using this
                        clear hd hk
                        go_step
                        exact ⟨_, rfl, rfl, Upd.refl _ _⟩
                      case inr.inr.inr.inr.inr.inr.inr.inl =>
                        refine ⟨by simp [Region.wanted], ?_⟩
                        have e6 : b.tmps[215]?.getD undef = .int .i64 (k7 : Int) := by have := (show b.tmps.getD 215 undef = .int .i64 (k7 : Int) from hd ⟨6, .data⟩ (by simp) rfl); simpa using this
                        clear hd hk
                        go_step
                        exact ⟨_, rfl, rfl, Upd.refl _ _⟩
                      case inr.inr.inr.inr.inr.inr.inr.inr.inl =>
                        refine ⟨by simp [Region.wanted], ?_⟩
                        have e0 : b.tmps[209]?.getD undef = .agg goodCells := by have := (show b.tmps.getD 209 undef = .agg goodCells from hd ⟨0, .data⟩ (by simp) rfl); simpa using this
                        have e5 : b.tmps[214]?.getD undef = .slice (some ⟨eb, eo + k7 * 14, none⟩) 1 (ec - k7) := by have := (show b.tmps.getD 214 undef = .slice (some ⟨eb, eo + k7 * 14, none⟩) 1 (ec - k7) from hd ⟨5, .data⟩ (by simp) rfl); simpa using this
                        have e7 : b.tmps[216]?.getD undef = .int .u8 (k7 : Int) := by have := (show b.tmps.getD 216 undef = .int .u8 (k7 : Int) from hd ⟨7, .data⟩ (by simp) rfl); simpa using this
                        simp only [goodCells] at e0
                        clear hd hk
                        go_step
                        refine (writes_any w1 goodCfg _ [xk] (k7 : Int) (by rw [HEK.out]; exact (evs_sub (show EvsRow (Till wz.heap.size) w1 (.slice (some ⟨eb, eo, none⟩) l.length ec) l from by rw [HL52.out]; exact HR.out.ext HW1.out) k7 1 (by rw [HL52.out]; omega) (by rw [HL52.out]; omega)).mono fun q hq => Nat.lt_of_lt_of_le hq HW1.out.size) (fun x hx => by simp at hx; subst hx; exact hink) (by unfold CfgWf goodCfg; decide) (by decide) (by omega) (by omega)).mono ?_
                        rintro e w2 ⟨rfl, hu⟩
                        exact ⟨_, rfl, rfl, hu⟩
                      case inr.inr.inr.inr.inr.inr.inr.inr.inr.inl =>
                        refine ⟨by simp [Region.wanted], ?_⟩
                        have e8 : b.tmps[217]?.getD undef = .bool true := by have := (show b.tmps.getD 217 undef = .bool true from hd ⟨8, .data⟩ (by simp) rfl); simpa using this
                        clear hd hk
                        go_step
                        exact ⟨_, rfl, rfl, Upd.refl _ _⟩
                      case inr.inr.inr.inr.inr.inr.inr.inr.inr.inr.inl =>
                        refine ⟨by simp [Region.wanted], ?_⟩
                        have e9 : b.tmps[218]?.getD undef = .bool false := by have := (show b.tmps.getD 218 undef = .bool false from hd ⟨9, .data⟩ (by simp) rfl); simpa using this
                        clear hd hk
                        go_step
                        exact ⟨_, rfl, rfl, Upd.refl _ _⟩
                      case inr.inr.inr.inr.inr.inr.inr.inr.inr.inr.inr.inl =>
                        refine ⟨by
                          have := tmp_some (show b.tmps.getD 219 undef = .bool false from hd ⟨10, .guard⟩ (by simp) rfl)
                          simp [Region.wanted, yielded, this], ?_⟩
                        have e0 : b.eval (.tmp 8) = .pointer (some ⟨g, 0, none⟩) := by
                          have := hk 8 (fun j oj _ e => (kdst4_ne (by decide) e).elim)
                          simpa [Act.eval] using this
                        have hg1 := HW1.out.at_ HGO.out id
                        exact wp_load_mid (w := w1) 31 (.tmp 8) rfl g 0 e0 goodCells.toList _ (fun j u hj => by have := cellAt hg1 j u (by simpa using hj); simpa using this) Try.underlying31 rfl (by kernel_rfl) ⟨_, rfl, rfl, Upd.refl _ _⟩
                      case inr.inr.inr.inr.inr.inr.inr.inr.inr.inr.inr.inr.inl =>
                        refine ⟨by
                          have := tmp_some (show b.tmps.getD 219 undef = .bool false from hd ⟨10, .guard⟩ (by simp) rfl)
                          simp [Region.wanted, yielded, this], ?_⟩
                        have e0 : b.tmps[10]?.getD undef = .slice (some ⟨eb, eo, none⟩) 52 ec := by
                          have := hk 10 (fun j oj _ e => (kdst4_ne (by decide) e).elim)
                          simpa using this
                        clear hd hk
                        go_step
                        exact ⟨_, rfl, rfl, Upd.refl _ _⟩
                      case inr.inr.inr.inr.inr.inr.inr.inr.inr.inr.inr.inr.inr.inl =>
                        refine ⟨by
                          have := tmp_some (show b.tmps.getD 219 undef = .bool false from hd ⟨10, .guard⟩ (by simp) rfl)
                          simp [Region.wanted, yielded, this], ?_⟩
                        have e12 : b.tmps[221]?.getD undef = .slice (some ⟨eb, eo, none⟩) 52 ec := by have := (show b.tmps.getD 221 undef = .slice (some ⟨eb, eo, none⟩) 52 ec from hd ⟨12, .data⟩ (by simp) rfl); simpa using this
                        clear hd hk
                        go_step
                        exact ⟨_, rfl, rfl, Upd.refl _ _⟩
                      case inr.inr.inr.inr.inr.inr.inr.inr.inr.inr.inr.inr.inr.inr.inl =>
                        refine ⟨by
                          have := tmp_some (show b.tmps.getD 219 undef = .bool false from hd ⟨10, .guard⟩ (by simp) rfl)
                          simp [Region.wanted, yielded, this], ?_⟩
                        have e13 : b.eval (.tmp 222) = .pointer (some ⟨eb, eo + 28, none⟩) := by have := (show b.tmps.getD 222 undef = .pointer (some ⟨eb, eo + 28, none⟩) from hd ⟨13, .data⟩ (by simp) rfl); simpa [Act.eval] using this
                        exact wp_load_mid (w := w1) 44 (.tmp 222) rfl eb (eo + 2 * 14) e13 (evCells x2 v2 u2).toList _ (fun j u hj => HW1.out.cell (R2.out j u hj) id) Try.underlying44 rfl (by kernel_rfl) ⟨_, rfl, rfl, Upd.refl _ _⟩
                      case inr.inr.inr.inr.inr.inr.inr.inr.inr.inr.inr.inr.inr.inr.inr.inl =>
                        refine ⟨by
                          have := tmp_some (show b.tmps.getD 219 undef = .bool false from hd ⟨10, .guard⟩ (by simp) rfl)
                          simp [Region.wanted, yielded, this], ?_⟩
                        have e0 : b.tmps[10]?.getD undef = .slice (some ⟨eb, eo, none⟩) 52 ec := by
                          have := hk 10 (fun j oj _ e => (kdst4_ne (by decide) e).elim)
                          simpa using this
                        clear hd hk
                        go_step
                        exact ⟨_, rfl, rfl, Upd.refl _ _⟩
                      case inr.inr.inr.inr.inr.inr.inr.inr.inr.inr.inr.inr.inr.inr.inr.inr.inl =>
                        refine ⟨by
                          have := tmp_some (show b.tmps.getD 219 undef = .bool false from hd ⟨10, .guard⟩ (by simp) rfl)
                          simp [Region.wanted, yielded, this], ?_⟩
                        have e0 : b.tmps[13]?.getD undef = .int .i64 (k7 : Int) := by
                          have := hk 13 (fun j oj _ e => (kdst4_ne (by decide) e).elim)
                          simpa using this
                        clear hd hk
                        go_step
                        exact ⟨_, rfl, rfl, Upd.refl _ _⟩
                      case inr.inr.inr.inr.inr.inr.inr.inr.inr.inr.inr.inr.inr.inr.inr.inr.inr.inl =>
                        refine ⟨by
                          have := tmp_some (show b.tmps.getD 219 undef = .bool false from hd ⟨10, .guard⟩ (by simp) rfl)
                          simp [Region.wanted, yielded, this], ?_⟩
                        have e15 : b.tmps[224]?.getD undef = .slice (some ⟨eb, eo, none⟩) 52 ec := by have := (show b.tmps.getD 224 undef = .slice (some ⟨eb, eo, none⟩) 52 ec from hd ⟨15, .data⟩ (by simp) rfl); simpa using this
                        have e16 : b.tmps[225]?.getD undef = .int .i64 (k7 : Int) := by have := (show b.tmps.getD 225 undef = .int .i64 (k7 : Int) from hd ⟨16, .data⟩ (by simp) rfl); simpa using this
                        clear hd hk
                        go_step
                        exact ⟨_, rfl, rfl, Upd.refl _ _⟩
                      case inr.inr.inr.inr.inr.inr.inr.inr.inr.inr.inr.inr.inr.inr.inr.inr.inr.inr.inl =>
                        refine ⟨by
                          have := tmp_some (show b.tmps.getD 219 undef = .bool false from hd ⟨10, .guard⟩ (by simp) rfl)
                          simp [Region.wanted, yielded, this], ?_⟩
                        have e17 : b.eval (.tmp 226) = .pointer (some ⟨eb, eo + k7 * 14, none⟩) := by have := (show b.tmps.getD 226 undef = .pointer (some ⟨eb, eo + k7 * 14, none⟩) from hd ⟨17, .data⟩ (by simp) rfl); simpa [Act.eval] using this
                        exact wp_load_mid (w := w1) 44 (.tmp 226) rfl eb (eo + k7 * 14) e17 (evCells xk vk uk).toList _ (fun j u hj => HW1.out.cell (RK.out j u hj) id) Try.underlying44 rfl (by kernel_rfl) ⟨_, rfl, rfl, Upd.refl _ _⟩
                      case inr.inr.inr.inr.inr.inr.inr.inr.inr.inr.inr.inr.inr.inr.inr.inr.inr.inr.inr.inl =>
                        refine ⟨by
                          have := tmp_some (show b.tmps.getD 219 undef = .bool false from hd ⟨10, .guard⟩ (by simp) rfl)
                          simp [Region.wanted, yielded, this], ?_⟩
                        have e14 : b.tmps[223]?.getD undef = .agg (evCells x2 v2 u2) := by have := (show b.tmps.getD 223 undef = .agg (evCells x2 v2 u2) from hd ⟨14, .data⟩ (by simp) rfl); simpa using this
                        have e18 : b.tmps[227]?.getD undef = .agg (evCells xk vk uk) := by have := (show b.tmps.getD 227 undef = .agg (evCells xk vk uk) from hd ⟨18, .data⟩ (by simp) rfl); simpa using this
                        refine wp_buildStructs 32 44 2 14 168 _ rfl Try.eventsT [.agg (evCells x2 v2 u2), .agg (evCells xk vk uk)] rfl (by decide) (by decide) ?_ ?_ ?_
                        · intro v hv
                          simp only [List.mem_cons, List.not_mem_nil, or_false] at hv
                          rcases hv with rfl | rfl <;> rfl
                        · simp [Act.eval, e14, e18]
                        · exact ⟨_, rfl, evs_pair x2 xk v2 u2 vk uk (S2.out.ext HW1.out) (T2.out.ext HW1.out) (SK.out.ext HW1.out) (TK.out.ext HW1.out) (fun q hq => Nat.lt_of_lt_of_le hq HW1.out.size) _ rfl, (Upd.refl _ _).alloc _⟩
                      case inr.inr.inr.inr.inr.inr.inr.inr.inr.inr.inr.inr.inr.inr.inr.inr.inr.inr.inr.inr.inl =>
                        refine ⟨by
                          have := tmp_some (show b.tmps.getD 219 undef = .bool false from hd ⟨10, .guard⟩ (by simp) rfl)
                          simp [Region.wanted, yielded, this], ?_⟩
                        have e11 : b.tmps[220]?.getD undef = .agg goodCells := by have := (show b.tmps.getD 220 undef = .agg goodCells from hd ⟨11, .data⟩ (by simp) rfl); simpa using this
                        have h19 : EvsRow (Till w1.heap.size) w1 (b.tmps.getD 228 undef) [x2, xk] := hd ⟨19, .data⟩ (by simp) rfl
                        obtain ⟨na, nc, hnv, -, -⟩ := h19.at_.2.1
                        rw [hnv] at h19
                        have H19 := Lib.hid h19
                        have e19 : b.tmps[228]?.getD undef = .slice na 2 nc := by simpa using hnv
                        simp only [goodCells] at e11
                        clear hd hk h19 hnv
                        go_step
                        refine (writes_any w1 goodCfg _ [x2, xk] 0 H19.out (fun x hx => by simp at hx; rcases hx with rfl | rfl <;> first | exact hin2 | exact hink) (by unfold CfgWf goodCfg; decide) (by decide) (by decide) (by decide)).mono ?_
                        rintro e w2 ⟨rfl, hu⟩
                        exact ⟨_, rfl, rfl, hu⟩
                      case inr.inr.inr.inr.inr.inr.inr.inr.inr.inr.inr.inr.inr.inr.inr.inr.inr.inr.inr.inr.inr.inl =>
                        refine ⟨by
                          have := tmp_some (show b.tmps.getD 219 undef = .bool false from hd ⟨10, .guard⟩ (by simp) rfl)
                          simp [Region.wanted, yielded, this], ?_⟩
                        have e20 : b.tmps[229]?.getD undef = .bool true := by have := (show b.tmps.getD 229 undef = .bool true from hd ⟨20, .data⟩ (by simp) rfl); simpa using this
                        clear hd hk
                        go_step
                        exact ⟨_, rfl, rfl, Upd.refl _ _⟩
                      case inr.inr.inr.inr.inr.inr.inr.inr.inr.inr.inr.inr.inr.inr.inr.inr.inr.inr.inr.inr.inr.inr.inl =>
                        refine ⟨by simp [Region.wanted], ?_⟩
                        have e10 : b.tmps[219]?.getD undef = .bool false := by have := (show b.tmps.getD 219 undef = .bool false from hd ⟨10, .data⟩ (by simp) rfl); simpa using this
                        have e21 : b.tmps[230]?.getD undef = .bool false := by have := (show b.tmps.getD 230 undef = .bool false from hd ⟨21, .data⟩ (by simp) rfl); simpa using this
                        clear hd hk
                        go_step
                        exact ⟨_, rfl, rfl, Upd.refl _ _⟩
                      case inr.inr.inr.inr.inr.inr.inr.inr.inr.inr.inr.inr.inr.inr.inr.inr.inr.inr.inr.inr.inr.inr.inr.inl =>
                        refine ⟨by simp [Region.wanted], ?_⟩
                        have e22 : b.tmps[231]?.getD undef = .bool false := by have := (show b.tmps.getD 231 undef = .bool false from hd ⟨22, .data⟩ (by simp) rfl); simpa using this
                        clear hd hk
                        go_step
                        exact ⟨_, rfl, rfl, Upd.refl _ _⟩
                      case inr.inr.inr.inr.inr.inr.inr.inr.inr.inr.inr.inr.inr.inr.inr.inr.inr.inr.inr.inr.inr.inr.inr.inr.inl =>
                        refine ⟨by
                          have := tmp_some (show b.tmps.getD 232 undef = .bool false from hd ⟨23, .guard⟩ (by simp) rfl)
                          simp [Region.wanted, yielded, this], ?_⟩
                        have e0 : b.tmps[9]?.getD undef = .slice (some ⟨g + 1, 0, none⟩) 8 8 := by
                          have := hk 9 (fun j oj _ e => (kdst4_ne (by decide) e).elim)
                          simpa using this
                        clear hd hk
                        go_step
                        exact ⟨_, rfl, rfl, Upd.refl _ _⟩
                      case inr.inr.inr.inr.inr.inr.inr.inr.inr.inr.inr.inr.inr.inr.inr.inr.inr.inr.inr.inr.inr.inr.inr.inr.inr.inl =>
                        refine ⟨by
                          have := tmp_some (show b.tmps.getD 232 undef = .bool false from hd ⟨23, .guard⟩ (by simp) rfl)
                          simp [Region.wanted, yielded, this], ?_⟩
                        have e0 : b.tmps[13]?.getD undef = .int .i64 (k7 : Int) := by
                          have := hk 13 (fun j oj _ e => (kdst4_ne (by decide) e).elim)
                          simpa using this
                        clear hd hk
                        go_step
                        exact ⟨_, rfl, rfl, Upd.refl _ _⟩
                      case inr.inr.inr.inr.inr.inr.inr.inr.inr.inr.inr.inr.inr.inr.inr.inr.inr.inr.inr.inr.inr.inr.inr.inr.inr.inr.inl =>
                        refine ⟨by
                          have := tmp_some (show b.tmps.getD 232 undef = .bool false from hd ⟨23, .guard⟩ (by simp) rfl)
                          simp [Region.wanted, yielded, this], ?_⟩
                        have e25 : b.tmps[234]?.getD undef = .int .i64 (k7 : Int) := by have := (show b.tmps.getD 234 undef = .int .i64 (k7 : Int) from hd ⟨25, .data⟩ (by simp) rfl); simpa using this
                        clear hd hk
                        go_step
                        exact ⟨_, rfl, rfl, Upd.refl _ _⟩
                      case inr.inr.inr.inr.inr.inr.inr.inr.inr.inr.inr.inr.inr.inr.inr.inr.inr.inr.inr.inr.inr.inr.inr.inr.inr.inr.inr.inl =>
                        refine ⟨by
                          have := tmp_some (show b.tmps.getD 232 undef = .bool false from hd ⟨23, .guard⟩ (by simp) rfl)
                          simp [Region.wanted, yielded, this], ?_⟩
                        have e24 : b.tmps[233]?.getD undef = .slice (some ⟨g + 1, 0, none⟩) 8 8 := by have := (show b.tmps.getD 233 undef = .slice (some ⟨g + 1, 0, none⟩) 8 8 from hd ⟨24, .data⟩ (by simp) rfl); simpa using this
                        have e26 : b.tmps[235]?.getD undef = .int .i64 (m8 : Int) := by have := (show b.tmps.getD 235 undef = .int .i64 (m8 : Int) from by have := hd ⟨26, .data⟩ (by simp) rfl; rw [HM8.out]; exact this); simpa using this
                        clear hd hk
                        go_step
                        simp only [show (m8 : Int) < 8 from by omega, if_true]
                        exact ⟨_, rfl, by rw [HM8.out]; rfl, Upd.refl _ _⟩
                      case inr.inr.inr.inr.inr.inr.inr.inr.inr.inr.inr.inr.inr.inr.inr.inr.inr.inr.inr.inr.inr.inr.inr.inr.inr.inr.inr.inr.inl =>
                        refine ⟨by
                          have := tmp_some (show b.tmps.getD 232 undef = .bool false from hd ⟨23, .guard⟩ (by simp) rfl)
                          simp [Region.wanted, yielded, this], ?_⟩
                        have e27 : b.eval (.tmp 236) = .pointer (some ⟨g + 1, m8 * 4, none⟩) := by have := (show b.tmps.getD 236 undef = .pointer (some ⟨g + 1, m8 * 4, none⟩) from by have := hd ⟨27, .data⟩ (by simp) rfl; rw [HM8.out]; exact this); simpa [Act.eval] using this
                        have hb1 := HW1.out.at_ HBA.out id
                        exact wp_load_mid (w := w1) 31 (.tmp 236) rfl (g + 1) (m8 * 4) e27 (cfgCells (badCfg m8)).toList _ (fun j u hj => cellAt hb1 (m8 * 4 + j) u (HBC.out j u hj)) Try.underlying31 rfl (by kernel_rfl) ⟨_, rfl, by rw [HM8.out]; rfl, Upd.refl _ _⟩
                      case inr.inr.inr.inr.inr.inr.inr.inr.inr.inr.inr.inr.inr.inr.inr.inr.inr.inr.inr.inr.inr.inr.inr.inr.inr.inr.inr.inr.inr.inl =>
                        refine ⟨by
                          have := tmp_some (show b.tmps.getD 232 undef = .bool false from hd ⟨23, .guard⟩ (by simp) rfl)
                          simp [Region.wanted, yielded, this], ?_⟩
                        have e0 : b.tmps[10]?.getD undef = .slice (some ⟨eb, eo, none⟩) 52 ec := by
                          have := hk 10 (fun j oj _ e => (kdst4_ne (by decide) e).elim)
                          simpa using this
                        clear hd hk
                        go_step
                        exact ⟨_, rfl, rfl, Upd.refl _ _⟩
                      case inr.inr.inr.inr.inr.inr.inr.inr.inr.inr.inr.inr.inr.inr.inr.inr.inr.inr.inr.inr.inr.inr.inr.inr.inr.inr.inr.inr.inr.inr.inl =>
                        refine ⟨by
                          have := tmp_some (show b.tmps.getD 232 undef = .bool false from hd ⟨23, .guard⟩ (by simp) rfl)
                          simp [Region.wanted, yielded, this], ?_⟩
                        have e0 : b.tmps[13]?.getD undef = .int .i64 (k7 : Int) := by
                          have := hk 13 (fun j oj _ e => (kdst4_ne (by decide) e).elim)
                          simpa using this
                        clear hd hk
                        go_step
                        exact ⟨_, rfl, rfl, Upd.refl _ _⟩
                      case inr.inr.inr.inr.inr.inr.inr.inr.inr.inr.inr.inr.inr.inr.inr.inr.inr.inr.inr.inr.inr.inr.inr.inr.inr.inr.inr.inr.inr.inr.inr.inl =>
                        refine ⟨by
                          have := tmp_some (show b.tmps.getD 232 undef = .bool false from hd ⟨23, .guard⟩ (by simp) rfl)
                          simp [Region.wanted, yielded, this], ?_⟩
                        have e30 : b.tmps[239]?.getD undef = .int .i64 (k7 : Int) := by have := (show b.tmps.getD 239 undef = .int .i64 (k7 : Int) from hd ⟨30, .data⟩ (by simp) rfl); simpa using this
                        clear hd hk
                        go_step
                        exact ⟨_, rfl, rfl, Upd.refl _ _⟩
                      case inr.inr.inr.inr.inr.inr.inr.inr.inr.inr.inr.inr.inr.inr.inr.inr.inr.inr.inr.inr.inr.inr.inr.inr.inr.inr.inr.inr.inr.inr.inr.inr.inl =>
                        refine ⟨by
                          have := tmp_some (show b.tmps.getD 232 undef = .bool false from hd ⟨23, .guard⟩ (by simp) rfl)
                          simp [Region.wanted, yielded, this], ?_⟩
                        have e29 : b.tmps[238]?.getD undef = .slice (some ⟨eb, eo, none⟩) 52 ec := by have := (show b.tmps.getD 238 undef = .slice (some ⟨eb, eo, none⟩) 52 ec from hd ⟨29, .data⟩ (by simp) rfl); simpa using this
                        have e31 : b.tmps[240]?.getD undef = .int .i64 (m3 : Int) := by have := (show b.tmps.getD 240 undef = .int .i64 (m3 : Int) from by have := hd ⟨31, .data⟩ (by simp) rfl; rw [HM3.out]; exact this); simpa using this
                        clear hd hk
                        go_step
                        simp only [show m3 ≤ ec from by omega, if_true]
                        exact ⟨_, rfl, by rw [HM3.out]; rfl, Upd.refl _ _⟩
                      case inr.inr.inr.inr.inr.inr.inr.inr.inr.inr.inr.inr.inr.inr.inr.inr.inr.inr.inr.inr.inr.inr.inr.inr.inr.inr.inr.inr.inr.inr.inr.inr.inr.inl =>
                        refine ⟨by
                          have := tmp_some (show b.tmps.getD 232 undef = .bool false from hd ⟨23, .guard⟩ (by simp) rfl)
                          simp [Region.wanted, yielded, this], ?_⟩
                        have e28 : b.tmps[237]?.getD undef = .agg (cfgCells (badCfg m8)) := by have := (show b.tmps.getD 237 undef = .agg (cfgCells (badCfg m8)) from by have := hd ⟨28, .data⟩ (by simp) rfl; rw [HM8.out]; exact this); simpa using this
                        have e32 : b.tmps[241]?.getD undef = .slice (some ⟨eb, eo, none⟩) m3 ec := by have := (show b.tmps.getD 241 undef = .slice (some ⟨eb, eo, none⟩) m3 ec from by have := hd ⟨32, .data⟩ (by simp) rfl; rw [HM3.out]; exact this); simpa using this
                        simp only [cfgCells] at e28
                        clear hd hk
                        go_step
                        refine (writes_any w1 (badCfg m8) _ ((l.drop 0).take m3) 1 (by have := evs_sub (show EvsRow (Till wz.heap.size) w1 (.slice (some ⟨eb, eo, none⟩) l.length ec) l from by rw [HL52.out]; exact HR.out.ext HW1.out) 0 m3 (by rw [HL52.out]; omega) (by rw [HL52.out]; omega); simp only [Nat.zero_mul, Nat.add_zero, Nat.sub_zero] at this; exact this.mono fun q hq => Nat.lt_of_lt_of_le hq HW1.out.size) (fun x hx => HIN.out x (List.mem_of_mem_drop (List.mem_of_mem_take hx))) hbw hbs (by decide) (by decide)).mono ?_
                        rintro e w2 ⟨rfl, hu⟩
                        exact ⟨_, rfl, rfl, hu⟩
                      case inr.inr.inr.inr.inr.inr.inr.inr.inr.inr.inr.inr.inr.inr.inr.inr.inr.inr.inr.inr.inr.inr.inr.inr.inr.inr.inr.inr.inr.inr.inr.inr.inr.inr.inl =>
                        refine ⟨by
                          have := tmp_some (show b.tmps.getD 232 undef = .bool false from hd ⟨23, .guard⟩ (by simp) rfl)
                          simp [Region.wanted, yielded, this], ?_⟩
                        have e33 : b.tmps[242]?.getD undef = .bool true := by have := (show b.tmps.getD 242 undef = .bool true from hd ⟨33, .data⟩ (by simp) rfl); simpa using this
                        clear hd hk
                        go_step
                        exact ⟨_, rfl, rfl, Upd.refl _ _⟩
                      case inr.inr.inr.inr.inr.inr.inr.inr.inr.inr.inr.inr.inr.inr.inr.inr.inr.inr.inr.inr.inr.inr.inr.inr.inr.inr.inr.inr.inr.inr.inr.inr.inr.inr.inr =>
                        refine ⟨by simp [Region.wanted], ?_⟩
                        have e23 : b.tmps[232]?.getD undef = .bool false := by have := (show b.tmps.getD 232 undef = .bool false from hd ⟨23, .data⟩ (by simp) rfl); simpa using this
                        have e34 : b.tmps[243]?.getD undef = .bool false := by have := (show b.tmps.getD 243 undef = .bool false from hd ⟨34, .data⟩ (by simp) rfl); simpa using this
                        clear hd hk
                        go_step
                        exact ⟨_, rfl, rfl, Upd.refl _ _⟩
                    · intro v w1 hx1 hp
                      have h35 : v 35 = .bool false := hp 35 (by decide)
                      have HX8 := Lib.hid (HX7.out.trans hx1)
                      clear hp hx1
                      simp only [List.size_toArray, List.length_cons, List.length_nil, Nat.reduceAdd, fillAll, kdst4]
                      go_simp
                      go_wp2
                      go_roundw
                      case rel => exact ⟨k7 + 1, by omega, by go_num, HX8.out⟩
                      case measure => simp [intOf]; omega
                  · have hk52' : k7 = 52 := by omega
                    clear hk52 hk7
                    go_wp2
                    obtain ⟨wm, hrun, hown, hxm⟩ := long_made wr
                    obtain ⟨gl, hgl⟩ : ∃ g, g = wr.heap.size := ⟨_, rfl⟩
                    rw [← hgl] at hrun hown
                    rw [hrun]
                    have hgl' := lt_of_heap (HX7.out.at_ HGO.out id)
                    rw [← hgl] at hgl'
                    have HXM := Lib.hid (HX7.out.trans hxm)
                    have HOW := Lib.hid hown
                    have hgm : gl < wm.heap.size := hown.lt gl rfl |>.2
                    have HWZ := Lib.hid (show wz.heap.size ≤ gl from by rw [hgl]; exact HX7.out.size)
                    clear hrun hxm hgl hown
                    go_wp2_with (go_at_call 10; fail)
                    refine (read_far wm _ 65540 65540 (longZ.take 65536) (bytes_far HOW.out longZ_len) (by decide) (by rw [longZ_take]; decide) (by decide) (by rw [longZ_take]; rfl) (by rw [longZ_take]; decide) (fun k hk => hk)).mono ?_
                    rintro e w8 ⟨v8, rfl, ho8, hx8⟩
                    rw [read_longZ] at ho8 ⊢
                    obtain ⟨-, ⟨a8, c8, hv8, -, -⟩, -⟩ := (EvsRow.of_owns ho8).at_
                    rw [zerosE_len] at hv8
                    subst hv8
                    clear ho8
                    have HO8 := Lib.hid (hx8.ownsT HOW.out (fun k cur hk => hk.elim))
                    have HX8 := Lib.hid (HXM.out.trans hx8)
                    have hg8 : gl < w8.heap.size := Nat.lt_of_lt_of_le hgm hx8.size
                    clear hx8 HXM HOW hgm HX7
                    have hfz : w8.frozen? ⟨gl, 65535, none⟩ = false := HO8.out.frozenAt 65535
                    have hcz := longZ_at HO8.out
                    rw [show cfgCells ⟨1, 0, 16, 1⟩ = #[.int .i64 1, .int .u64 0, .int .i64 16, .int .i64 1] from rfl]
                    go_wp2_with (go_at_call 10; fail)
                    obtain ⟨hst, hgs⟩ := HO8.out.stored 65535 (.int .u8 195)
                    have hx9 : Ext wz ((w8.setCell ⟨gl, 65535, none⟩ (.int .u8 195)).alloc (.cells #[.int .i64 1, .int .u64 0, .int .i64 16, .int .i64 1] 31)) :=
                      (HX8.out.step (grownUpd hgs) (fun i hi e => by cases e; have := HWZ.out; omega)).alloc _
                    rw [show (.int .u8 195 : Value) = u8 195 from rfl, ← List.map_set, ← longS] at hst
                    have hst9 := hst.alloc (.cells #[.int .i64 1, .int .u64 0, .int .i64 16, .int .i64 1] 31)
                    obtain ⟨w9, hw9⟩ : ∃ x, x = (w8.setCell ⟨gl, 65535, none⟩ (u8 195)).alloc (.cells #[.int .i64 1, .int .u64 0, .int .i64 16, .int .i64 1] 31) := ⟨_, rfl⟩
                    rw [← hw9] at hst9
                    rw [show (w8.setCell ⟨gl, 65535, none⟩ (.int .u8 195)).alloc (.cells #[.int .i64 1, .int .u64 0, .int .i64 16, .int .i64 1] 31) = w9 from hw9.symm] at hx9 ⊢
                    clear hw9 hst hgs hfz hcz HO8 HX8 hg8
                    have HX9 := Lib.hid hx9
                    clear hx9
                    refine (read_far w9 _ 65540 65540 (longS.take 65536) (bytes_far hst9 longS_len) (by decide) (by rw [longS_take, longL_len]; decide) (by decide) (by rw [longS_take, longL_len]; rfl) (by rw [longS_take, longL_len]; decide) (fun k hk => hk)).mono ?_
                    rintro e wa ⟨va, rfl, hoa, hxa⟩
                    rw [longS_take, read_long] at hoa ⊢
                    obtain ⟨-, ⟨aa, ca, hva, -, -⟩, -⟩ := (EvsRow.of_owns hoa).at_
                    rw [longE_len] at hva
                    subst hva
                    have HOA := Lib.hid hoa
                    have HXA := Lib.hid (HX9.out.trans hxa)
                    clear hxa hoa hst9 HX9
                    rw [show cfgCells ⟨1, 0, 16, 1⟩ = #[.int .i64 1, .int .u64 0, .int .i64 16, .int .i64 1] from rfl]
                    go_wp2_with (go_at_call 17; fail)
                    have hub : Ext wa (wa.alloc (.cells #[.int .i64 1, .int .u64 0, .int .i64 16, .int .i64 1] 31)) := (Upd.refl _ _).alloc _
                    refine (write_any _ ⟨1, 0, 16, 1⟩ _ longE (EvsRow.till (HOA.out.ext hub)) longE_wf (by unfold CfgWf; decide) longE_cap).mono ?_
                    rintro e wd ⟨hwr, hxd⟩
                    obtain ⟨vb, rfl, -⟩ := hwr.uni
                    rw [longE_err]
                    have hxd' := (HXA.out.trans hub).trans hxd
                    have HXD := Lib.hid hxd'
                    have hgd : wd.heap[g]? = some (.cells (cfgCells goodCfg) 31 (0, 0)) := hxd'.at_ HGO.out id
                    clear hxd hxd' hub hwr HOA HXA
                    have q0 : wd.cell? ⟨g, 0, none⟩ = some (.int .i64 64) := (cfg_parts' hgd).1
                    have q1 : wd.cell? ⟨g, 1, none⟩ = some (.int .u64 255) := (cfg_parts' hgd).2.1
                    have q2 : wd.cell? ⟨g, 2, none⟩ = some (.int .i64 4096) := (cfg_parts' hgd).2.2.1
                    have q3 : wd.cell? ⟨g, 3, none⟩ = some (.int .i64 256) := (cfg_parts' hgd).2.2.2
                    clear hgd
                    go_wp2_with (go_at_call 5; fail)
                    refine (writes_any wd goodCfg _ [] 255 (evs_nil _ _) (fun x hx => by simp at hx) (by unfold CfgWf goodCfg; decide) (by decide) (by decide) (by decide)).mono ?_
                    rintro e we ⟨rfl, hxe⟩
                    have HXE := Lib.hid (HXD.out.trans hxe)
                    clear hxe HXD q0 q1 q2 q3
                    go_wp2_with (go_at_call 7; fail)
                    refine (works_any we).mono ?_
                    rintro e wf ⟨rfl, hxf⟩
                    have HXF := Lib.hid (HX.out.trans (HXE.out.trans hxf))
                    clear hxf HXE
                    go_wp2
                    go_ret
                    exact ⟨rfl, HXF.out⟩
end Go.Proofs.Ytlhpcgmbbeihiaa
