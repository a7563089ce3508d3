/-
  CONTRACT of the law OpKnown, a closed statement: it holds. Condition: the library's table of powers of ten lies as it is laid.
-/
import Derived.Test.YtlhpcgmbbeihiaaDoorShows
import Derived.Test.YtlhpcgmbbeihiaaDoorBackLaw
import Derived.Test.YtlhpcgmbbeihiaaDoorBytesLaw
import Derived.Deep.CutRange
namespace Go.Proofs.YtlhpcgmbbeihiaaDoor
open Go.RowKit

def kEdit : Edit := ⟨1, 1, []⟩
def kFull (k : Int) : Oper' := ⟨k, 1, [97], [98], [99], [kEdit], 2, 3, 4⟩
theorem kEdit_wf : WfEdit kEdit := ⟨by decide, by decide, by decide, by decide⟩
theorem kFull_wf {k : Int} (h0 : 0 ≤ k) (h1 : k ≤ 255) : WfOp (kFull k) := by
  refine ⟨h0, h1, ?_, ?_, ?_, ?_, ?_⟩
  · show U64 1; exact ⟨by decide, by decide⟩
  · show U64 2; exact ⟨by decide, by decide⟩
  · show U64 3; exact ⟨by decide, by decide⟩
  · show U64 4; exact ⟨by decide, by decide⟩
  · intro e he
    simp only [kFull, List.mem_singleton] at he
    subst he
    exact kEdit_wf
theorem kZero_wf {k : Int} (h0 : 0 ≤ k) (h1 : k ≤ 255) : WfOp (Oper'.zero k) := by
  refine ⟨h0, h1, ?_, ?_, ?_, ?_, fun e he => by cases he⟩
  all_goals (show U64 0; exact ⟨by decide, by decide⟩)
theorem edit_row (w : World) (e : Edit) (n : Nat) (hn : n = w.heap.size) : Row (At n) (w.alloc (.cells #[.int .u8 e.kind, .int .i64 e.n, str e.text] 64)) (.slice (some ⟨n, 0, none⟩) 1 1) 1 (editCells [e]) := by
  have := row_new w #[.int .u8 e.kind, .int .i64 e.n, str e.text] 64 1 n (by decide) hn
  exact this
set_option maxHeartbeats 400000 in
theorem full_any (w : World) (k : Nat) :
    Calls Tryd.prog 31 #[.int .u8 k] w fun e w' => ∃ g, e = .returned (.agg (opCells (kFull k) (.slice (some ⟨g, 0, none⟩) 1 1))) ∧ Row (At g) w' (.slice (some ⟨g, 0, none⟩) 1 1) 1 (editCells [kEdit]) ∧ Ext w w' ∧ g < w'.heap.size := by
  go_enter Tryd.func31, Tryd.ntmps31
  go_wp2
  refine bodyPost_ret (v := .agg (opCells (kFull k) (.slice (some ⟨w.heap.size + 1, 0, none⟩) 1 1))) (by simp [results, Tryd.results31, go_sem, opCells, kFull]) rfl ⟨_, rfl, ?_, ((Upd.refl _ _).alloc _).alloc _, by simp⟩
  exact edit_row _ kEdit _ (by simp)
/-- Within the round: f's box, and o's box, which holds some operation. -/
structure KB (w wx : World) (gf go ga : Nat) (k : Int) : Prop where
  ext : Ext w wx
  fresh : w.heap.size ≤ go
  ne : ¬ gf = go
  f : wx.heap[gf]? = some (.cells (opCells (kFull k) (.slice (some ⟨ga, 0, none⟩) 1 1)) 25 (0, 0))
  row : Row (fun j => ¬ j = go) wx (.slice (some ⟨ga, 0, none⟩) 1 1) 1 (editCells [kEdit])
  o : ∃ (x : Oper') (a : Option Addr) (n c : Nat), wx.heap[go]? = some (.cells (opCells x (.slice a n c)) 25 (0, 0)) ∧ Row (fun j => ¬ j = go) wx (.slice a n c) x.edits.length (editCells x.edits) ∧ WfOp x
theorem KB.set {w wx : World} {gf go ga : Nat} {k : Int} (h : KB w wx gf go ga k) {x x' : Oper'} {v : Value} {a : Option Addr} {n c : Nat} (ho : wx.heap[go]? = some (.cells (opCells x v) 25 (0, 0))) (j : Nat) (u : Value)
    (hs : (opCells x v).setIfInBounds j u = opCells x' (.slice a n c)) (hr : Row (fun j => ¬ j = go) wx (.slice a n c) x'.edits.length (editCells x'.edits)) (hw : WfOp x') : KB w (wx.setCell ⟨go, j, none⟩ u) gf go ga k := by
  have hu := Upd.own wx go j u
  refine ⟨h.ext.setCell (p := ⟨go, j, none⟩) (fun hlt => by have := h.fresh; dsimp only at hlt; omega) u, h.fresh, h.ne, hu.at_ h.f (fun e => h.ne e), h.row.upd hu (fun _ h1 h2 => h1 h2), x', a, n, c, ?_, hr.upd hu (fun _ h1 h2 => h1 h2), hw⟩
  rw [← hs]; exact setAt ho
theorem two_bytes (w : World) (k m n : Nat) (hk : k < 256) (hm : m < 256) (hn : n = w.heap.size) : Bytes (At n) (w.alloc (.cells #[.int .u8 (k : Int), .int .u8 (m : Int)] 5)) (.slice (some ⟨n, 0, none⟩) 2 2) [UInt8.ofNat k, UInt8.ofNat m] := by
  have := row_new w #[.int .u8 (k : Int), .int .u8 (m : Int)] 5 2 n (by decide) hn
  rw [show (#[.int .u8 (k : Int), .int .u8 (m : Int)] : Array Value).toList = [UInt8.ofNat k, UInt8.ofNat m].map Go.Proofs.YtlhpcgmbbeihiaaDoor.u8 from by
    simp only [List.map_cons, List.map_nil, Go.Proofs.YtlhpcgmbbeihiaaDoor.u8]
    rw [ofNat_toNat hk, ofNat_toNat hm]] at this
  exact this
theorem wpList_unguard {P : Program} {w : World} {ops : Array Oper} {rest : List Oper} {o : Oper} {a : Act} {Q : Exit → Act → World → Prop} (hw : Region.wanted o (yielded ops a.tmps) = true) (h : wpList P ops Q ({ o with guard := none } :: rest) a w) : wpList P ops Q (o :: rest) a w := by
  have h : (if Region.wanted { o with guard := none } (yielded ops a.tmps) = true then _ else _) := h
  rw [if_pos (by simp [Region.wanted])] at h
  show (if _ then _ else _)
  rw [if_pos hw]
  exact h
def kOp : Oper' := ⟨10, 300, [], [], [], [⟨2, 0, [120]⟩, ⟨3, 2, []⟩], 1, 2, 0⟩
theorem kOp_right : opRight kOp = true := by decide
theorem vput2 : vput 2 = [2] := by rw [vput]; simp
theorem vput300 : vput 300 = [172, 2] := by rw [vput, dif_neg (by decide)]; simp [vput2]
theorem vput5 : vput 5 = [5] := by rw [vput]; simp
theorem kOp_put : opPut kOp = [10, 172, 2, 0, 0, 0, 5, 2, 1, 120, 3, 2, 1, 2, 0] := by
  simp [opPut, opBody, opTail, kOp, vtext, vput0, vput1, vput2, vput5, vput300, editsPut, editPut]
theorem kOp_wf : WfOp kOp := by
  refine ⟨by decide, by decide, ⟨by decide, by decide⟩, ⟨by decide, by decide⟩, ⟨by decide, by decide⟩, ⟨by decide, by decide⟩, ?_⟩
  intro e he
  simp only [kOp, List.mem_cons, List.not_mem_nil, or_false] at he
  rcases he with rfl | rfl <;> exact ⟨by decide, by decide, by decide, by decide⟩
def kOp0 : Oper' := ⟨10, 0, [], [], [], [⟨0, 0, []⟩], 0, 0, 0⟩
theorem kOp0_wf : WfOp kOp0 := by
  refine ⟨by decide, by decide, ⟨by decide, by decide⟩, ⟨by decide, by decide⟩, ⟨by decide, by decide⟩, ⟨by decide, by decide⟩, ?_⟩
  intro e he
  rw [List.mem_singleton.1 he]
  exact ⟨by decide, by decide, by decide, by decide⟩
theorem two_edits (w : World) (n : Nat) (hn : n = w.heap.size) : Row (At n) (w.alloc (.cells #[.int .u8 2, .int .i64 0, .string ⟨#[120]⟩, .int .u8 3, .int .i64 2, .string ⟨#[]⟩] 64)) (.slice (some ⟨n, 0, none⟩) 2 2) 2 (editCells kOp.edits) :=
  row_new w #[.int .u8 2, .int .i64 0, .string ⟨#[120]⟩, .int .u8 3, .int .i64 2, .string ⟨#[]⟩] 64 2 n (by decide) hn
/-- chartroomkit.Own, the result the caller's own. -/
theorem own2_any {S : Nat → Prop} (w : World) (v : Value) (l : List UInt8) (h : Bytes S w v l) (hb : l.length ≤ 140737488355328) :
    Calls Tryd.prog 10 #[v] w fun e w' => ∃ v', e = .returned v' ∧ w'.ownsRow w.heap.size 5 1 v' l.length (l.map u8) ∧ Ext w w' := by
  have hm : l.length ≤ maxLen := by unfold maxLen; omega
  go_enter Tryd.func10, Tryd.ntmps10
  go_wp2_with (at_builtin; refine wpList_append_row rfl _ _ _ rfl Tryd.bytesT rfl (World.ownsRow_nil _ w.heap.size _ _) rfl h (by simp) (u8_one l) (by omega) (by omega) (Nat.le_refl _) ?_)
  intro v' w1 hown hg _
  go_wp2
  go_ret
  exact ⟨_, rfl, by simpa using hown, (Upd.refl _ _).grown hg fun k e => by simp [Value.ownBlock] at e⟩
theorem xor3 : ∀ m : Fin 256, bits BinOp.xor IntKind.u8 ((m.val : Nat) : Int) 3 = (((UInt8.ofNat m.val ^^^ 3).toNat : Nat) : Int) := by decide +kernel
theorem xor_byte (c : UInt8) : bits BinOp.xor IntKind.u8 (c.toNat : Int) 3 = (((c ^^^ 3).toNat : Nat) : Int) := by
  have := xor3 ⟨c.toNat, c.toNat_lt⟩
  simpa using this
/-- A cell of an owned row turned. -/
theorem owns_set {w : World} {B e g n cap : Nat} {xs : List Value} (h : w.ownsRow B e 1 (.slice (some ⟨g, 0, none⟩) n cap) n xs) {k : Nat} (_ : k < n) (y : Value) :
    (w.setCell ⟨g, k, none⟩ y).ownsRow B e 1 (.slice (some ⟨g, 0, none⟩) n cap) n (xs.set k y) ∧ w.frozen? ⟨g, k, none⟩ = false ∧ B ≤ g ∧ g < w.heap.size := by
  obtain ⟨h1, ⟨h2, -⟩ | ⟨g', cap', cur, e1, h3, h4, h5, h6, h7, h8⟩⟩ := h
  · cases h2
  · cases e1
    refine ⟨⟨by simp at h1 ⊢; omega, .inr ⟨g, cap, cur.setIfInBounds k y, rfl, h3, setAt h4, h5, h6, by simp; omega, ?_⟩⟩, freeAt h4 _, h3, lt_of_heap h4⟩
    rw [Array.toList_setIfInBounds, List.take_set, h8]
theorem one_byte (w : World) (k n : Nat) (hk : k < 256) (hn : n = w.heap.size) : Bytes (At n) (w.alloc (.cells #[.int .u8 (k : Int)] 5)) (.slice (some ⟨n, 0, none⟩) 1 1) [UInt8.ofNat k] := by
  have := row_new w #[.int .u8 (k : Int)] 5 1 n (by decide) hn
  rw [show (#[.int .u8 (k : Int)] : Array Value).toList = [UInt8.ofNat k].map Go.Proofs.YtlhpcgmbbeihiaaDoor.u8 from by
    simp only [List.map_cons, List.map_nil, Go.Proofs.YtlhpcgmbbeihiaaDoor.u8]
    rw [ofNat_toNat hk]] at this
  exact this
theorem three_bytes (w : World) (k n : Nat) (hk : k < 256) (hn : n = w.heap.size) : Bytes (At n) (w.alloc (.cells #[.int .u8 (k : Int), .int .u8 97, .int .u8 (k : Int)] 5)) (.slice (some ⟨n, 0, none⟩) 3 3) [UInt8.ofNat k, 97, UInt8.ofNat k] := by
  have := row_new w #[.int .u8 (k : Int), .int .u8 97, .int .u8 (k : Int)] 5 3 n (by decide) hn
  rw [show (#[.int .u8 (k : Int), .int .u8 97, .int .u8 (k : Int)] : Array Value).toList = [UInt8.ofNat k, 97, UInt8.ofNat k].map Go.Proofs.YtlhpcgmbbeihiaaDoor.u8 from by
    simp only [List.map_cons, List.map_nil, Go.Proofs.YtlhpcgmbbeihiaaDoor.u8]
    rw [ofNat_toNat hk]; rfl] at this
  exact this
set_option maxRecDepth 100000 in
set_option maxHeartbeats 8000000 in
theorem opKnown_any (w : World) (ht : Tab w) : Calls Tryd.prog 7 #[] w fun e w' => e = .returned (.bool true) ∧ Ext w w' := by
  have HT := Lib.hid ht
  clear ht
  go_enter Tryd.func7, Tryd.ntmps7
  go_wp2
  go_loopw [1] (fun k wr => ∃ n : Nat, n ≤ 20 ∧ k = .int .u8 n ∧ Ext w wr) (fun k _ => 20 - (intOf k).toNat)
  case atStart => exact ⟨0, by decide, rfl, Upd.refl _ _⟩
  case round =>
    obtain ⟨n, hn, rfl, hx⟩ := hrel
    obtain ⟨w0, hw0⟩ : ∃ x, x = wr := ⟨_, rfl⟩
    subst hw0
    have HX0 := Lib.hid hx
    clear hx
    by_cases hlt : n < 20
    · have hd20 : decide ((n : Int) < 20) = true := by simp; omega
      go_wp2
      go_loopw [2] (fun i wr => ∃ m : Nat, m ≤ 256 ∧ i = .int .i64 m ∧ Ext w wr) (fun i _ => 256 - (intOf i).toNat)
      case atStart => exact ⟨0, by decide, rfl, HX0.out⟩
      case round =>
        obtain ⟨m, hm, rfl, hx⟩ := hrel
        have HX1 := Lib.hid hx
        clear hx
        by_cases hml : m < 256
        · go_wp2_with (go_at_call 31; fail)
          refine (full_any wr n).mono ?_
          rintro e w1 ⟨ga, rfl, hrow, hx1, hga⟩
          have HW1 := Lib.hid (HX1.out.trans hx1)
          have hb1 : ((w1.alloc (.cells (opCells (kFull n) (.slice (some ⟨ga, 0, none⟩) 1 1)) 25)).alloc (.cells (opCells (Oper'.zero n) nilS) 25)).heap[w1.heap.size]? = some (.cells (opCells (kFull n) (.slice (some ⟨ga, 0, none⟩) 1 1)) 25 (0, 0)) :=
            ((Upd.refl Nothing _).alloc _).at_ (newAt _ _) id
          have hb2 := newAt (w1.alloc (.cells (opCells (kFull n) (.slice (some ⟨ga, 0, none⟩) 1 1)) 25)) (.cells (opCells (Oper'.zero n) nilS) 25)
          have hx2 : Ext w1 ((w1.alloc (.cells (opCells (kFull n) (.slice (some ⟨ga, 0, none⟩) 1 1)) 25)).alloc (.cells (opCells (Oper'.zero n) nilS) 25)) := ((Upd.refl _ _).alloc _).alloc _
          obtain ⟨w2, hw2⟩ : ∃ u, u = (w1.alloc (.cells (opCells (kFull n) (.slice (some ⟨ga, 0, none⟩) 1 1)) 25)).alloc (.cells (opCells (Oper'.zero n) nilS) 25) := ⟨_, rfl⟩
          obtain ⟨gf, hgf⟩ : ∃ g, g = w1.heap.size := ⟨_, rfl⟩
          obtain ⟨go, hgo⟩ : ∃ g, g = w1.heap.size + 1 := ⟨_, rfl⟩
          rw [← hw2, ← hgf] at hb1
          rw [← hw2, show (w1.alloc (.cells (opCells (kFull n) (.slice (some ⟨ga, 0, none⟩) 1 1)) 25)).heap.size = go from by rw [hgo]; simp] at hb2
          rw [← hw2] at hx2
          have hsz := HW1.out.size
          have hkb : KB w w2 gf go ga n := ⟨HW1.out.trans hx2, by omega, by omega, hb1, (hrow.ext hx2).mono (fun j hj e => by unfold At at hj; omega), Oper'.zero n, none, 0, 0, hb2, Row.nil _ _, kZero_wf (by omega) (by omega)⟩
          have HW2 := Lib.hid hw2
          have HGF := Lib.hid hgf
          have HGO := Lib.hid hgo
          have HKB := Lib.hid hkb
          clear hkb hsz hx2 hb1 hb2 hw2 hgf hgo hrow hx1 hga
          rw [show opCells (kFull n) (.slice (some ⟨ga, 0, none⟩) 1 1) = #[.int .u8 (n : Int), .int .u64 1, .string ⟨#[97]⟩, .string ⟨#[98]⟩, .string ⟨#[99]⟩, .slice (some ⟨ga, 0, none⟩) 1 1, .int .u64 2, .int .u64 3, .int .u64 4] from rfl]
          go_upto_region 9 with (fail)
          rw [show (w1.alloc (.cells #[.int .u8 (n : Int), .int .u64 1, .string ⟨#[97]⟩, .string ⟨#[98]⟩, .string ⟨#[99]⟩, .slice (some ⟨ga, 0, none⟩) 1 1, .int .u64 2, .int .u64 3, .int .u64 4] 25)).alloc (.cells #[.int .u8 (n : Int), .int .u64 0, .string ⟨#[]⟩, .string ⟨#[]⟩, .string ⟨#[]⟩, .slice none 0 0, .int .u64 0, .int .u64 0, .int .u64 0] 25) = w2 from HW2.out.symm, show w1.heap.size + 1 = go from HGO.out.symm, show w1.heap.size = gf from HGF.out.symm]
          go_upto_if 25 with (fail)
          go_cut [] from 26 to 28 (fun wx => KB w wx gf go ga n)
          case first =>
            obtain ⟨x, xa, xn, xc, ho, hr, hwf⟩ := HKB.out.o
            have hkf := HKB.out.f
            have c1 : World.cell? _ ⟨gf, 1, none⟩ = some (.int .u64 1) := cellAt hkf 1 _ rfl
            have c2 : World.cell? _ ⟨go, 1, none⟩ = some (.int .u64 x.doc) := cellAt ho 1 _ rfl
            have fz := freeAt ho 1
            have hlt := lt_of_heap ho
            have HO := Lib.hid ho
            have HWF := Lib.hid hwf
            clear ho hwf hkf
            go_wp2_with fail
            all_goals go_meet
            all_goals first | exact HKB.out | (have hwf := HWF.out; exact HKB.out.set (x' := ⟨x.kind, 1, x.name, x.«to», x.text, x.edits, x.epoch, x.version, x.dur⟩) HO.out 1 _ rfl hr ⟨hwf.k0, hwf.k1, (⟨by decide, by decide⟩ : U64 1), hwf.epoch, hwf.version, hwf.dur, hwf.edits⟩)
          case rest =>
            have HKB := Lib.hid hcut
            clear hcut
            go_upto_if 32 with (fail)
            go_cut [] from 33 to 35 (fun wx => KB w wx gf go ga n)
            case first =>
              obtain ⟨x, xa, xn, xc, ho, hr, hwf⟩ := HKB.out.o
              have hkf := HKB.out.f
              have c1 : World.cell? _ ⟨gf, 2, none⟩ = some (str [97]) := cellAt hkf 2 _ rfl
              have c2 : World.cell? _ ⟨go, 2, none⟩ = some (str x.name) := cellAt ho 2 _ rfl
              have fz := freeAt ho 2
              have hlt := lt_of_heap ho
              have HO := Lib.hid ho
              have HWF := Lib.hid hwf
              clear ho hwf hkf
              go_wp2_with fail
              all_goals go_meet
              all_goals first | exact HKB.out | (have hwf := HWF.out; exact HKB.out.set (x' := ⟨x.kind, x.doc, [97], x.«to», x.text, x.edits, x.epoch, x.version, x.dur⟩) HO.out 2 _ rfl hr ⟨hwf.k0, hwf.k1, hwf.doc, hwf.epoch, hwf.version, hwf.dur, hwf.edits⟩)
            case rest =>
              have HKB := Lib.hid hcut
              clear hcut
              go_upto_if 39 with (fail)
              go_cut [] from 40 to 42 (fun wx => KB w wx gf go ga n)
              case first =>
                obtain ⟨x, xa, xn, xc, ho, hr, hwf⟩ := HKB.out.o
                have hkf := HKB.out.f
                have c1 : World.cell? _ ⟨gf, 3, none⟩ = some (str [98]) := cellAt hkf 3 _ rfl
                have c2 : World.cell? _ ⟨go, 3, none⟩ = some (str x.to) := cellAt ho 3 _ rfl
                have fz := freeAt ho 3
                have hlt := lt_of_heap ho
                have HO := Lib.hid ho
                have HWF := Lib.hid hwf
                clear ho hwf hkf
                go_wp2_with fail
                all_goals go_meet
                all_goals first | exact HKB.out | (have hwf := HWF.out; exact HKB.out.set (x' := ⟨x.kind, x.doc, x.name, [98], x.text, x.edits, x.epoch, x.version, x.dur⟩) HO.out 3 _ rfl hr ⟨hwf.k0, hwf.k1, hwf.doc, hwf.epoch, hwf.version, hwf.dur, hwf.edits⟩)
              case rest =>
                have HKB := Lib.hid hcut
                clear hcut
                go_upto_if 46 with (fail)
                go_cut [] from 47 to 49 (fun wx => KB w wx gf go ga n)
                case first =>
                  obtain ⟨x, xa, xn, xc, ho, hr, hwf⟩ := HKB.out.o
                  have hkf := HKB.out.f
                  have c1 : World.cell? _ ⟨gf, 4, none⟩ = some (str [99]) := cellAt hkf 4 _ rfl
                  have c2 : World.cell? _ ⟨go, 4, none⟩ = some (str x.text) := cellAt ho 4 _ rfl
                  have fz := freeAt ho 4
                  have hlt := lt_of_heap ho
                  have HO := Lib.hid ho
                  have HWF := Lib.hid hwf
                  clear ho hwf hkf
                  go_wp2_with fail
                  all_goals go_meet
                  all_goals first | exact HKB.out | (have hwf := HWF.out; exact HKB.out.set (x' := ⟨x.kind, x.doc, x.name, x.«to», [99], x.edits, x.epoch, x.version, x.dur⟩) HO.out 4 _ rfl hr ⟨hwf.k0, hwf.k1, hwf.doc, hwf.epoch, hwf.version, hwf.dur, hwf.edits⟩)
                case rest =>
                  have HKB := Lib.hid hcut
                  clear hcut
                  go_upto_if 53 with (fail)
                  go_cut [] from 54 to 56 (fun wx => KB w wx gf go ga n)
                  case first =>
                    obtain ⟨x, xa, xn, xc, ho, hr, hwf⟩ := HKB.out.o
                    have hkf := HKB.out.f
                    have c1 : World.cell? _ ⟨gf, 5, none⟩ = some (.slice (some ⟨ga, 0, none⟩) 1 1) := cellAt hkf 5 _ rfl
                    have c2 : World.cell? _ ⟨go, 5, none⟩ = some (.slice xa xn xc) := cellAt ho 5 _ rfl
                    have fz := freeAt ho 5
                    have hlt := lt_of_heap ho
                    have HO := Lib.hid ho
                    have HWF := Lib.hid hwf
                    clear ho hwf hkf
                    go_wp2_with fail
                    all_goals go_meet
                    all_goals first | exact HKB.out | (have hwf := HWF.out; exact HKB.out.set (x' := ⟨x.kind, x.doc, x.name, x.«to», x.text, [kEdit], x.epoch, x.version, x.dur⟩) HO.out 5 _ rfl HKB.out.row ⟨hwf.k0, hwf.k1, hwf.doc, hwf.epoch, hwf.version, hwf.dur, fun e he => by rw [List.mem_singleton.1 he]; exact kEdit_wf⟩)
                  case rest =>
                    have HKB := Lib.hid hcut
                    clear hcut
                    go_upto_if 60 with (fail)
                    go_cut [] from 61 to 63 (fun wx => KB w wx gf go ga n)
                    case first =>
                      obtain ⟨x, xa, xn, xc, ho, hr, hwf⟩ := HKB.out.o
                      have hkf := HKB.out.f
                      have c1 : World.cell? _ ⟨gf, 6, none⟩ = some (.int .u64 2) := cellAt hkf 6 _ rfl
                      have c2 : World.cell? _ ⟨go, 6, none⟩ = some (.int .u64 x.epoch) := cellAt ho 6 _ rfl
                      have fz := freeAt ho 6
                      have hlt := lt_of_heap ho
                      have HO := Lib.hid ho
                      have HWF := Lib.hid hwf
                      clear ho hwf hkf
                      go_wp2_with fail
                      all_goals go_meet
                      all_goals first | exact HKB.out | (have hwf := HWF.out; exact HKB.out.set (x' := ⟨x.kind, x.doc, x.name, x.«to», x.text, x.edits, 2, x.version, x.dur⟩) HO.out 6 _ rfl hr ⟨hwf.k0, hwf.k1, hwf.doc, (⟨by decide, by decide⟩ : U64 2), hwf.version, hwf.dur, hwf.edits⟩)
                    case rest =>
                      have HKB := Lib.hid hcut
                      clear hcut
                      go_upto_if 67 with (fail)
                      go_cut [] from 68 to 70 (fun wx => KB w wx gf go ga n)
                      case first =>
                        obtain ⟨x, xa, xn, xc, ho, hr, hwf⟩ := HKB.out.o
                        have hkf := HKB.out.f
                        have c1 : World.cell? _ ⟨gf, 7, none⟩ = some (.int .u64 3) := cellAt hkf 7 _ rfl
                        have c2 : World.cell? _ ⟨go, 7, none⟩ = some (.int .u64 x.version) := cellAt ho 7 _ rfl
                        have fz := freeAt ho 7
                        have hlt := lt_of_heap ho
                        have HO := Lib.hid ho
                        have HWF := Lib.hid hwf
                        clear ho hwf hkf
                        go_wp2_with fail
                        all_goals go_meet
                        all_goals first | exact HKB.out | (have hwf := HWF.out; exact HKB.out.set (x' := ⟨x.kind, x.doc, x.name, x.«to», x.text, x.edits, x.epoch, 3, x.dur⟩) HO.out 7 _ rfl hr ⟨hwf.k0, hwf.k1, hwf.doc, hwf.epoch, (⟨by decide, by decide⟩ : U64 3), hwf.dur, hwf.edits⟩)
                      case rest =>
                        have HKB := Lib.hid hcut
                        clear hcut
                        go_upto_if 73 with (fail)
                        go_cut [] from 74 to 76 (fun wx => KB w wx gf go ga n)
                        case first =>
                          obtain ⟨x, xa, xn, xc, ho, hr, hwf⟩ := HKB.out.o
                          have hkf := HKB.out.f
                          have c1 : World.cell? _ ⟨gf, 8, none⟩ = some (.int .u64 4) := cellAt hkf 8 _ rfl
                          have c2 : World.cell? _ ⟨go, 8, none⟩ = some (.int .u64 x.dur) := cellAt ho 8 _ rfl
                          have fz := freeAt ho 8
                          have hlt := lt_of_heap ho
                          have HO := Lib.hid ho
                          have HWF := Lib.hid hwf
                          clear ho hwf hkf
                          go_wp2_with fail
                          all_goals go_meet
                          all_goals first | exact HKB.out | (have hwf := HWF.out; exact HKB.out.set (x' := ⟨x.kind, x.doc, x.name, x.«to», x.text, x.edits, x.epoch, x.version, 4⟩) HO.out 8 _ rfl hr ⟨hwf.k0, hwf.k1, hwf.doc, hwf.epoch, hwf.version, (⟨by decide, by decide⟩ : U64 4), hwf.edits⟩)
                        case rest =>
                          have HKB := Lib.hid hcut
                          clear hcut
                          obtain ⟨x, xa, xn, xc, ho, hr, hwf⟩ := HKB.out.o
                          have HO := Lib.hid ho
                          have HR := Lib.hid hr
                          have HWF := Lib.hid hwf
                          have HF := Lib.hid HKB.out.f
                          have HXC := Lib.hid HKB.out.ext
                          have HFR := Lib.hid HKB.out.row
                          clear ho hr hwf
                          go_wp2_with (first | (refine wpList_load_blk rfl _ _ rfl rfl HO.out (Tryd.opT x _) ?_) | (refine wpList_load_blk rfl _ _ rfl rfl HF.out (Tryd.opT (kFull n) _) ?_) | (go_at_call 5; fail))
                          refine (tells_any _ x (kFull n) _ _ HR.out HFR.out HWF.out (tab_ext HT.out HXC.out)).mono ?_
                          rintro e w3 ⟨rfl, hx3⟩
                          have HX3 := Lib.hid (HXC.out.trans hx3)
                          have HO3 := Lib.hid (hx3.at_ HO.out id)
                          have HR3 := Lib.hid (HR.out.ext hx3)
                          have hn256 : n < 256 := by omega
                          have hbt := two_bytes w3 n m w3.heap.size hn256 hml rfl
                          have HBT := Lib.hid hbt
                          have HXA := Lib.hid ((Upd.refl Nothing w3).alloc (.cells #[.int .u8 (n : Int), .int .u8 (m : Int)] 5))
                          clear hx3 hbt
                          go_wp2_with (first | (refine wpList_load_blk_g rfl _ _ rfl rfl HO3.out (Tryd.opT x _) ?_) | (go_at_call 3; fail))
                          refine (bytesLaw_any _ x _ _ [UInt8.ofNat n, UInt8.ofNat m] (HR3.out.ext HXA.out) HBT.out HWF.out (tab_ext HT.out (HX3.out.trans HXA.out))).mono ?_
                          rintro e w4 ⟨rfl, hx4⟩
                          have HX4 := Lib.hid ((HX3.out.trans HXA.out).trans hx4)
                          have HO4 := Lib.hid ((HXA.out.trans hx4).at_ HO3.out id)
                          have HR4 := Lib.hid (HR3.out.ext (HXA.out.trans hx4))
                          clear hx4
                          by_cases h8 : ((m : Int) % 8 == 1) = true
                          · go_wp2_with (first | (refine wpList_load_blk_g rfl _ _ rfl rfl HO4.out (Tryd.opT x _) ?_) | (go_at_call 4; fail))
                            refine (backLaw_any _ x _ _ [] HR4.out (Row.nil Nothing _) HWF.out (tab_ext HT.out HX4.out)).mono ?_
                            rintro e w5 ⟨rfl, hx5⟩
                            have HX5 := Lib.hid (HX4.out.trans hx5)
                            clear hx5
                            go_wp2
                            go_roundw
                            case rel => exact ⟨m + 1, by omega, by go_num, HX5.out⟩
                            case measure => simp [intOf]; omega
                          · have h8' : ((m : Int) % 8 == 1) = false := by simpa using h8
                            clear h8
                            go_wp2
                            go_roundw
                            case rel => exact ⟨m + 1, by omega, by go_num, HX4.out⟩
                            case measure => simp [intOf]; omega
        · go_wp2
          go_roundw
          case rel => exact ⟨n + 1, by omega, by go_num, HX1.out⟩
          case measure => simp [intOf]; omega
    · have hX := HX0.out
      have he := two_edits w0 w0.heap.size rfl
      have hx1 : Ext w0 (w0.alloc (.cells #[.int .u8 2, .int .i64 0, .string ⟨#[120]⟩, .int .u8 3, .int .i64 2, .string ⟨#[]⟩] 64)) := (Upd.refl _ _).alloc _
      have HE := Lib.hid he
      have HX1 := Lib.hid (hX.trans hx1)
      clear hX he hx1
      go_wp2_with (go_at_call 11; fail)
      refine (oPut_any _ kOp _ HE.out kOp_wf (by rw [kOp_put]; decide)).mono ?_
      rintro e w1 ⟨v1, rfl, ho1, -, hx1⟩
      replace ho1 := ho1 kOp_right
      rw [if_pos kOp_right]
      obtain ⟨L, hL⟩ : ∃ L, L = opPut kOp := ⟨_, rfl⟩
      have hL15 : L.length = 15 := by rw [hL, kOp_put]; rfl
      rw [← hL, hL15] at ho1
      have HB1 := Lib.hid (show Bytes _ w1 v1 L by have := Row.of_owns ho1; rwa [← hL15] at this)
      obtain ⟨g1, cap, rfl⟩ := slice_some ho1 (by decide)
      obtain ⟨-, hcap⟩ : True ∧ 15 ≤ cap := by
        obtain ⟨-, ⟨h2, -⟩ | ⟨g', cap', cur, e1, -, -, h5, -⟩⟩ := ho1
        · cases h2
        · cases e1; exact ⟨trivial, h5⟩
      have hcm : cap ≤ maxLen := by
        obtain ⟨-, ⟨h2, -⟩ | ⟨g', cap', cur, e1, -, -, -, h6, -⟩⟩ := ho1
        · cases h2
        · cases e1; exact h6
      unfold maxLen at hcm
      have HX2 := Lib.hid (HX1.out.trans hx1)
      have HL := Lib.hid hL15
      clear hx1 ho1 hL hL15
      go_wp2
      go_loopw [7] (fun t wr => ∃ k : Nat, k ≤ 16 ∧ t = .int .i64 k ∧ Ext w1 wr) (fun t _ => 16 - (intOf t).toNat)
      case atStart => exact ⟨0, by decide, rfl, Upd.refl _ _⟩
      case round =>
        obtain ⟨k, hk, rfl, hx⟩ := hrel
        obtain ⟨w2, hw2⟩ : ∃ x, x = wr := ⟨_, rfl⟩
        subst hw2
        have HXK := Lib.hid hx
        have HX3 := Lib.hid (HX2.out.trans hx)
        clear hx
        by_cases hlk : k ≤ 15
        · go_wp2_with (go_at_call 10; fail)
          refine (own2_any _ _ L (HB1.out.ext HXK.out) (by have := HL.out; omega)).mono ?_
          rintro e w3 ⟨v3, rfl, ho3, hx3⟩
          rw [HL.out] at ho3
          obtain ⟨g3, c3, rfl⟩ := slice_some ho3 (by decide)
          have HO3 := Lib.hid ho3
          have HX4 := Lib.hid hx3
          clear ho3 hx3
          go_upto_if 126 with (fail)
          go_cut [] from 127 to 134 (fun wx => ∃ l : List UInt8, l.length = 15 ∧ wx.ownsRow w2.heap.size 5 1 (.slice (some ⟨g3, 0, none⟩) 15 c3) 15 (l.map Go.Proofs.YtlhpcgmbbeihiaaDoor.u8) ∧ Ext w2 wx)
          case first =>
            by_cases hl15 : k < 15
            · have hkL : k < L.length := by have := HL.out; omega
              obtain ⟨c, hc⟩ : ∃ c, c = L[k] := ⟨_, rfl⟩
              obtain ⟨hs1, hs2, hs3, hs4⟩ := owns_set HO3.out hl15 (Go.Proofs.YtlhpcgmbbeihiaaDoor.u8 (c ^^^ 3))
              obtain ⟨b1, o1, c1, e1, -, -, -, hq1⟩ := (Row.of_owns HO3.out).addr (by decide)
              cases e1
              have hcell := bytes_cell hq1 k hkL
              rw [← hc, Nat.zero_add] at hcell
              have hxb := xor_byte c
              have HS1 := Lib.hid hs1
              have HC := Lib.hid hc
              clear hs1 hq1 hc
              go_wp2_with fail
              go_meet
              case rel =>
                refine ⟨L.set k (c ^^^ 3), by rw [List.length_set]; exact HL.out, ?_, HX4.out.setCell (p := ⟨g3, k, none⟩) (fun hlt => by dsimp only at hlt; omega) _⟩
                rw [List.map_set]
                exact HS1.out
            · go_wp2_with fail
              go_meet
              case rel => exact ⟨L, HL.out, HO3.out, HX4.out⟩
          case rest =>
            obtain ⟨l, hl, ho, hx⟩ := hcut
            have HLL := Lib.hid hl
            have HO4 := Lib.hid (show Bytes (From w2.heap.size) wc (.slice (some ⟨g3, 0, none⟩) 15 c3) l by show Row (From w2.heap.size) wc _ l.length _; rw [hl]; exact Row.of_owns ho)
            have HXC := Lib.hid (HX3.out.trans hx)
            have HKC := Lib.hid (HXK.out.trans hx)
            have HB4 := Lib.hid (HB1.out.ext (HXK.out.trans hx))
            have hbs : Bytes (fun _ => True) wc (.slice (some ⟨g1, 0, none⟩) k cap) (L.take k) := by
              obtain ⟨b1, o1, c1, e1, -, h5, h6, hq1⟩ := HB4.out.addr (by have := HL.out; omega)
              simp only [Value.slice.injEq, Option.some.injEq, Addr.mk.injEq] at e1
              obtain ⟨⟨rfl, rfl, -⟩, -, rfl⟩ := e1
              have := Row.slice (S := fun _ => True) hq1 trivial h6 h5 (q := 0) (n := k) (by have := HL.out; omega)
              simpa using this
            have HBS := Lib.hid hbs
            clear hl ho hx hbs
            go_wp2_with (go_at_call 3; fail)
            refine (bytesLaw_any _ (Oper'.zero 0) nilS _ (L.take k) (Row.nil Nothing _) HBS.out wf_zero (tab_ext HT.out HXC.out)).mono ?_
            rintro e w5 ⟨rfl, hx5⟩
            have HX5 := Lib.hid (HXC.out.trans hx5)
            have HK5 := Lib.hid (HKC.out.trans hx5)
            have HO5 := Lib.hid (HO4.out.ext hx5)
            have HB5 := Lib.hid (HB4.out.ext hx5)
            clear hx5
            go_wp2_with (go_at_call 3; fail)
            refine (bytesLaw_any _ (Oper'.zero 0) nilS _ l (Row.nil Nothing _) HO5.out wf_zero (tab_ext HT.out HX5.out)).mono ?_
            rintro e w6 ⟨rfl, hx6⟩
            have HX6 := Lib.hid (HX5.out.trans hx6)
            have HK6 := Lib.hid (HK5.out.trans hx6)
            have HO6 := Lib.hid (HO5.out.ext hx6)
            have HB6 := Lib.hid (HB5.out.ext hx6)
            clear hx6
            go_wp2_with (go_at_call 4; fail)
            refine (backLaw_any _ (Oper'.zero 0) nilS _ l (Row.nil Nothing _) HO6.out wf_zero (tab_ext HT.out HX6.out)).mono ?_
            rintro e w7 ⟨rfl, hx7⟩
            have HX7 := Lib.hid (HX6.out.trans hx7)
            have HK7 := Lib.hid (HK6.out.trans hx7)
            have HB7 := Lib.hid (HB6.out.ext hx7)
            clear hx7
            go_wp2_with (go_at_call 10; fail)
            refine (own2_any _ _ L HB7.out (by have := HL.out; omega)).mono ?_
            rintro e w8 ⟨v8, rfl, ho8, hx8⟩
            rw [HL.out] at ho8
            have hle8 := hx8.size
            have HX8 := Lib.hid (HX7.out.trans hx8)
            have HK8 := Lib.hid (HK7.out.trans hx8)
            have hone := one_byte w8 k w8.heap.size (by omega) rfl
            obtain ⟨a8, n8, c8, rfl⟩ := ownsForm ho8
            have HON := Lib.hid hone
            clear hx8 hone
            go_wp2_with (at_builtin; go_must (refine wpList_unguard rfl (wpList_append_row rfl _ _ _ rfl Tryd.bytesT rfl (ho8.alloc _) rfl HON.out (by simp) (u8_one _) ?c3 ?c4 ?c5 ?_)))
            case c3 => rw [List.length_singleton]; unfold maxLen; omega
            case c4 => rw [List.length_singleton]; omega
            case c5 => simp; omega
            intro v9 w9 ho9 hg9 _
            have hx9 := (HX8.out.alloc (.cells #[.int .u8 (k : Int)] 5)).grown hg9 (fun j hj h => by have := (ho8.lt j hj).1; have := HX7.out.size; omega)
            have HX9 := Lib.hid hx9
            have HK9 := Lib.hid ((HK8.out.alloc (.cells #[.int .u8 (k : Int)] 5)).grown hg9 (fun j hj h => by have := (ho8.lt j hj).1; have := HK7.out.size; omega))
            have HO9 := Lib.hid (show Bytes (From w7.heap.size) w9 v9 (L ++ [UInt8.ofNat k]) by
              show Row (From w7.heap.size) w9 v9 (L ++ [UInt8.ofNat k]).length ((L ++ [UInt8.ofNat k]).map Go.Proofs.YtlhpcgmbbeihiaaDoor.u8)
              rw [List.length_append, HL.out, List.map_append]
              exact Row.of_owns ho9)
            clear ho8 ho9 hg9 hx9
            go_wp2_with (go_at_call 3; fail)
            refine (bytesLaw_any _ (Oper'.zero 0) nilS _ (L ++ [UInt8.ofNat k]) (Row.nil Nothing _) HO9.out wf_zero (tab_ext HT.out HX9.out)).mono ?_
            rintro e w10 ⟨rfl, hx10⟩
            have HXF := Lib.hid (HK9.out.trans hx10)
            clear hx10
            go_wp2
            go_roundw
            case rel => exact ⟨k + 1, by omega, by go_num, HXF.out⟩
            case measure => simp [intOf]; omega
        · have hdk : decide ((k : Int) ≤ 15) = false := by simp; omega
          go_wp2
          go_loopw [9] (fun t wr => ∃ c : Nat, c ≤ 256 ∧ t = .int .i64 c ∧ Ext w wr) (fun t _ => 256 - (intOf t).toNat)
          case atStart => exact ⟨0, by decide, rfl, HX3.out⟩
          case round =>
            obtain ⟨c, hc, rfl, hx⟩ := hrel
            have HX4 := Lib.hid hx
            clear hx
            by_cases hcl : c < 256
            · have hb3 := three_bytes wr c wr.heap.size hcl rfl
              obtain ⟨s, hs⟩ : ∃ s : List UInt8, s = [UInt8.ofNat c, 97, UInt8.ofNat c] := ⟨_, rfl⟩
              rw [← hs] at hb3
              have hs3 : s.length = 3 := by rw [hs]; rfl
              have hb3' : Bytes (At wr.heap.size) (wr.alloc (.cells #[.int .u8 (c : Int), .int .u8 97, .int .u8 (c : Int)] 5)) (.slice (some ⟨wr.heap.size, 0, none⟩) 3 3) s := hb3
              have hcv := row_string (P := Tryd.prog) hb3' Tryd.underlying26 Tryd.underlying5 Tryd.underlying9
              have HS3 := Lib.hid hs3
              obtain ⟨wb, hwb⟩ : ∃ u, u = wr.alloc (.cells #[.int .u8 (c : Int), .int .u8 97, .int .u8 (c : Int)] 5) := ⟨_, rfl⟩
              have HXB := Lib.hid (show Ext w wb by rw [hwb]; exact HX4.out.alloc _)
              have HWB := Lib.hid hwb
              clear hb3 hb3' hs hs3 hwb
              go_upto_region 42 with (fail)
              rw [show wr.alloc (.cells #[.int .u8 (c : Int), .int .u8 97, .int .u8 (c : Int)] 5) = wb from HWB.out.symm]
              have hr1 := row_new wb #[str s] 9 1 wb.heap.size (by decide) rfl
              have hx1 : Ext wb (wb.alloc (.cells #[str s] 9)) := (Upd.refl _ _).alloc _
              have hr2 := row_new (wb.alloc (.cells #[str s] 9)) #[.int .i64 0, .int .u64 0, str s, nilS, .int .i64 0, .int .u64 0, str [], .slice (some ⟨wb.heap.size, 0, none⟩) 1 1, .int .i64 (-(c : Int)), .int .u64 (c : Int), str [], nilS] 53 3 (wb.heap.size + 1) (by decide) (by simp)
              have hx2 : Ext (wb.alloc (.cells #[str s] 9)) ((wb.alloc (.cells #[str s] 9)).alloc (.cells #[.int .i64 0, .int .u64 0, str s, nilS, .int .i64 0, .int .u64 0, str [], .slice (some ⟨wb.heap.size, 0, none⟩) 1 1, .int .i64 (-(c : Int)), .int .u64 (c : Int), str [], nilS] 53)) := (Upd.refl _ _).alloc _
              have HR1 := Lib.hid (hr1.ext hx2)
              have HR2 := Lib.hid hr2
              have HXC := Lib.hid ((HXB.out.trans hx1).trans hx2)
              clear hr1 hr2 hx1 hx2 hcv
              go_wp2_with (go_at_call 6; fail)
              refine (shows_any (S2 := fun _ => True) _ [(⟨0, 0, s, []⟩, nilS), (⟨0, 0, [], [s]⟩, .slice (some ⟨wb.heap.size, 0, none⟩) 1 1), (⟨-(c : Int), c, [], []⟩, nilS)] _ s HR2.out ?hn ?hi (tab_ext HT.out HXC.out)).mono ?_
              case hn =>
                intro p hp
                simp only [List.mem_cons, List.not_mem_nil, or_false] at hp
                rcases hp with rfl | rfl | rfl
                · exact Row.nil (fun _ => True) _
                · exact HR1.out.mono (fun _ _ => trivial)
                · exact Row.nil (fun _ => True) _
              case hi =>
                intro p hp
                simp only [List.mem_cons, List.not_mem_nil, or_false] at hp
                rcases hp with rfl | rfl | rfl
                · exact ⟨by dsimp only; omega, by dsimp only; omega, by dsimp only; omega, by dsimp only; omega⟩
                · exact ⟨by dsimp only; omega, by dsimp only; omega, by dsimp only; omega, by dsimp only; omega⟩
                · exact ⟨by dsimp only; omega, by dsimp only; omega, by dsimp only; omega, by dsimp only; omega⟩
              rintro e w9 ⟨rfl, hx9⟩
              have HX9 := Lib.hid (HXC.out.trans hx9)
              clear hx9
              go_wp2
              go_roundw
              case rel => exact ⟨c + 1, by omega, by go_num, HX9.out⟩
              case measure => simp [intOf]; omega
            · go_wp2_with (go_at_call 6; fail)
              refine (shows_any (S2 := Nothing) _ [] nilS [] (Row.nil Nothing _) (fun p hp => (by cases hp)) (fun p hp => (by cases hp)) (tab_ext HT.out HX4.out)).mono ?_
              rintro e w5 ⟨rfl, hx5⟩
              have HX5 := Lib.hid (HX4.out.trans hx5)
              have h1 := row_new w5 #[str [], str []] 9 2 w5.heap.size (by decide) rfl
              have x1 : Ext w5 (w5.alloc (.cells #[str [], str []] 9)) := (Upd.refl _ _).alloc _
              have h2 := row_new (w5.alloc (.cells #[str [], str []] 9)) #[str []] 9 1 (w5.heap.size + 1) (by decide) (by simp)
              have x2 : Ext (w5.alloc (.cells #[str [], str []] 9)) ((w5.alloc (.cells #[str [], str []] 9)).alloc (.cells #[str []] 9)) := (Upd.refl _ _).alloc _
              have h3 := row_new ((w5.alloc (.cells #[str [], str []] 9)).alloc (.cells #[str []] 9)) #[.int .i64 0, .int .u64 0, str [], .slice (some ⟨w5.heap.size, 0, none⟩) 2 2, .int .i64 0, .int .u64 0, str [], .slice (some ⟨w5.heap.size + 1, 0, none⟩) 1 1, .int .i64 0, .int .u64 18446744073709551615, str [], nilS] 53 3 (w5.heap.size + 2) (by decide) (by simp)
              have x3 : Ext ((w5.alloc (.cells #[str [], str []] 9)).alloc (.cells #[str []] 9)) (((w5.alloc (.cells #[str [], str []] 9)).alloc (.cells #[str []] 9)).alloc (.cells #[.int .i64 0, .int .u64 0, str [], .slice (some ⟨w5.heap.size, 0, none⟩) 2 2, .int .i64 0, .int .u64 0, str [], .slice (some ⟨w5.heap.size + 1, 0, none⟩) 1 1, .int .i64 0, .int .u64 18446744073709551615, str [], nilS] 53)) := (Upd.refl _ _).alloc _
              have H1 := Lib.hid ((h1.ext x2).ext x3)
              have H2 := Lib.hid (h2.ext x3)
              have H3 := Lib.hid h3
              have HXD := Lib.hid (((HX5.out.trans x1).trans x2).trans x3)
              clear h1 h2 h3 x1 x2 x3 hx5
              go_wp2_with (go_at_call 6; fail)
              refine (shows_any (S2 := fun _ => True) _ [(⟨0, 0, [], [[], []]⟩, .slice (some ⟨w5.heap.size, 0, none⟩) 2 2), (⟨0, 0, [], [[]]⟩, .slice (some ⟨w5.heap.size + 1, 0, none⟩) 1 1), (⟨0, 18446744073709551615, [], []⟩, nilS)] _ [] H3.out ?hn2 ?hi2 (tab_ext HT.out HXD.out)).mono ?_
              case hn2 =>
                intro p hp
                simp only [List.mem_cons, List.not_mem_nil, or_false] at hp
                rcases hp with rfl | rfl | rfl
                · exact H1.out.mono (fun _ _ => trivial)
                · exact H2.out.mono (fun _ _ => trivial)
                · exact Row.nil (fun _ => True) _
              case hi2 =>
                intro p hp
                simp only [List.mem_cons, List.not_mem_nil, or_false] at hp
                rcases hp with rfl | rfl | rfl <;> exact ⟨by dsimp only; omega, by dsimp only; omega, by dsimp only; omega, by dsimp only; omega⟩
              rintro e w6 ⟨rfl, hx6⟩
              have he6 := edit_row w6 ⟨0, 0, []⟩ w6.heap.size rfl
              have HE6 := Lib.hid he6
              have HX6 := Lib.hid ((HXD.out.trans hx6).alloc (.cells #[.int .u8 0, .int .i64 0, str []] 64))
              clear hx6 he6
              go_wp2_with (go_at_call 4; fail)
              refine (backLaw_any _ kOp0 _ nilS [] HE6.out (Row.nil Nothing _) kOp0_wf (tab_ext HT.out HX6.out)).mono ?_
              rintro e w7 ⟨rfl, hx7⟩
              have HX7 := Lib.hid (HX6.out.trans hx7)
              clear hx7
              go_wp2_with (go_at_call 9; fail)
              refine (works_any _ (tab_ext HT.out HX7.out)).mono ?_
              rintro e w8 ⟨rfl, hx8⟩
              have HX8 := Lib.hid (HX7.out.trans hx8)
              clear hx8
              go_wp2
              go_ret
              exact ⟨rfl, HX8.out⟩
end Go.Proofs.YtlhpcgmbbeihiaaDoor
