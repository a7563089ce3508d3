/-
  CONTRACT of delta's take: one edit of any bytes.
-/
import Derived.Test.YtlhpcgmbbeihiaaDoorMC
import Derived.Test.YtlhpcgmbbeihiaaDoorDRight
namespace Go.Proofs.YtlhpcgmbbeihiaaDoor
open Go.RowKit

theorem results_cell_tmps {fn : Func} {p u v : Tmp} {ty : TypeId} (h : fn.results = #[.cell p ty, .tmp u, .tmp v]) (tmps : Array Value) (P : Program) (w : World) :
    (results fn tmps).run P w =
      ((asAddr (tmps.getD p undef)).run P w).andThen fun a w₁ => ((loadVar ty a).run P w₁).andThen fun x w₂ => .ok (.tuple #[x, tmps.getD u undef, tmps.getD v undef]) w₂ := by
  simp only [results, h]
  simp [Sem.run_bind, Result.andThen]
theorem bodyPost_blk3 {P : Program} {w : World} {a : Act} {fn : Func} {R : Ending → World → Prop} {p u v : Tmp} {ty : TypeId} (hr : fn.results = #[.cell p ty, .tmp u, .tmp v]) (hd : a.defers = []) {g : Nat} (hp : a.tmps.getD p undef = .pointer (some ⟨g, 0, none⟩)) {t : TypeId} {cs : Array Value} {fr : Nat × Nat}
    (hg : w.heap[g]? = some (.cells cs t fr)) (T : StructT P ty cs.size) (h : R (.returned (.tuple #[.agg cs, a.tmps.getD u undef, a.tmps.getD v undef])) w) : bodyPost P fn R .ret a w := by
  obtain ⟨d, h1, h2, h3⟩ := T
  refine bodyPost_ret_by ?_ hd h
  rw [results_cell_tmps hr, hp]
  have hl := run_loadVar_row (P := P) w g t ty cs fr d hg h1 (by cases d <;> simp_all) h3
  simp [asAddr, Result.andThen, hl]
def editLit (x : Edit) : Array Value := #[.int .u8 x.kind, .int .i64 x.n, str x.text]
theorem Tryd.editT (x : Edit) : StructT Tryd.prog 64 (editLit x).size := ⟨_, Tryd.underlying64, rfl, by kernel_rfl⟩

theorem editLit_one (x : Edit) : AllOne (editLit x) := by simp [AllOne, editLit, Value.oneCell']
theorem zero_cells (k n : Int) (s : List UInt8) {w : World} {b : Nat} {T : TypeId} (h : w.heap[b]? = some (.cells #[.int .u8 k, .int .i64 n, str s] T (0, 0))) : w.cell? ⟨b, 0, none⟩ = some (.int .u8 k) ∧ w.cell? ⟨b, 1, none⟩ = some (.int .i64 n) ∧ w.cell? ⟨b, 2, none⟩ = some (str s) ∧ (∀ j, w.frozen? ⟨b, j, none⟩ = false) ∧ b < w.heap.size :=
  ⟨cellAt h 0 _ rfl, cellAt h 1 _ rfl, cellAt h 2 _ rfl, fun j => freeAt h j, lt_of_heap h⟩

def DTakePost (w : World) (l : List UInt8) (p : Nat) (e : Ending) (w' : World) : Prop := ∃ (x : Edit) (n : Int), e = .returned (.tuple #[.agg (editLit x), .int .i64 n, .int .i64 (editP (l.drop p)).1]) ∧ ((editP (l.drop p)).1 = 0 → x = (editP (l.drop p)).2.1 ∧ n = ((p + (editP (l.drop p)).2.2 : Nat) : Int)) ∧ Ext w w'
theorem dtake_bad {w w' : World} {l : List UInt8} {p : Nat} {x : Edit} {n E : Int} (hQ : editP (l.drop p) = (E, Edit.zero, 0)) (h : E ≠ 0) (hx : Ext w w') : DTakePost w l p (.returned (.tuple #[.agg (editLit x), .int .i64 n, .int .i64 E])) w' :=
  ⟨x, n, by rw [hQ], fun e => by rw [hQ] at e; exact absurd e h, hx⟩
theorem dtake_ok {w w' : World} {l : List UInt8} {p k : Nat} {x y : Edit} {n : Int} (hQ : editP (l.drop p) = (0, y, k)) (hn : n = (p : Int) + k) (hxy : x = y) (hx : Ext w w') : DTakePost w l p (.returned (.tuple #[.agg (editLit x), .int .i64 n, .int .i64 0])) w' :=
  ⟨x, n, by rw [hQ], fun e => by rw [hQ]; exact ⟨hxy, by dsimp only; omega⟩, hx⟩

set_option maxRecDepth 100000 in
set_option maxHeartbeats 1000000 in
theorem dTake_any {S : Nat → Prop} (w : World) (v : Value) (l : List UInt8) (h : Bytes S w v l) (p : Nat) (hp : p < l.length) (hl : l.length ≤ 70368744177664) :
    Calls Tryd.prog 65 #[v, .int .i64 p] w (DTakePost w l p) := by
  have g := h.addr
  have H := Lib.hid h
  obtain ⟨a, c, rfl, hn, hm, -⟩ := h
  obtain ⟨b1, o1, c1', e1, -, hnc, hcm, hc1⟩ := g (by omega)
  cases e1
  obtain ⟨m, hm'⟩ : ∃ m : Nat, m = l[p].toNat := ⟨_, rfl⟩
  have hm1 : m < 256 := by have := UInt8.toNat_lt l[p]; omega
  have hhd : hd (l.drop p) = m := by rw [List.drop_eq_getElem_cons hp, hd_cons, hm']
  have hd1 : (l.drop p).drop 1 = l.drop (p + 1) := by rw [List.drop_drop]
  have HHD := Lib.hid hhd
  have HD1 := Lib.hid hd1
  have hcell := bytes_cell hc1 p hp
  rw [← hm'] at hcell
  have hcl : (w.alloc (.cells #[.int .u8 0, .int .i64 0, .string ⟨#[]⟩] 64)).cell? ⟨b1, o1 + p, none⟩ = some (.int .u8 m) := ((Upd.refl Nothing w).alloc _).cell hcell id
  obtain ⟨wa, hwa⟩ : ∃ wa, wa = w.alloc (.cells #[.int .u8 m, .int .i64 0, .string ⟨#[]⟩] 64) := ⟨_, rfl⟩
  have hba : wa.heap[w.heap.size]? = some (.cells #[.int .u8 m, .int .i64 0, str []] 64 (0, 0)) := by rw [hwa]; exact newAt _ _
  have hxa : Ext w wa := by rw [hwa]; exact (Upd.refl _ _).alloc _
  have HBA := Lib.hid hba
  have HXA := Lib.hid hxa
  have HWA := Lib.hid hwa
  clear hc1 hm' hhd hd1 g hba hxa hwa
  go_enter Tryd.func65, Tryd.ntmps65
  by_cases h2 : m = 2
  · have hk2 : ((m : Int) == 2) = true := by simp; omega
    have H2 := Lib.hid h2
    clear h2
    go_wp2_with (go_at_call 64; fail)
    rw [← HWA.out, show (p : Int) + 1 = ((p + 1 : Nat) : Int) from by omega]
    refine (vTakeText_any wa _ l (H.out.ext HXA.out) (p + 1) (by omega) hl).mono ?_
    rintro e w1 ⟨rfl, hx⟩
    have HB1 := Lib.hid (hx.at_ HBA.out id)
    have HX1 := Lib.hid (HXA.out.trans hx)
    clear hx
    have hQ : editP (l.drop p) = if (textF (l.drop (p + 1))).1 = 0 then (if (textF (l.drop (p + 1))).2.1 = [] then (2, Edit.zero, 0) else (0, ⟨2, 0, (textF (l.drop (p + 1))).2.1⟩, 1 + (textF (l.drop (p + 1))).2.2)) else ((textF (l.drop (p + 1))).1, Edit.zero, 0) := by
      rw [editP, HHD.out, HD1.out, if_pos H2.out]
    obtain ⟨E, hE⟩ : ∃ E, E = (textF (l.drop (p + 1))).1 := ⟨_, rfl⟩
    obtain ⟨s, hs⟩ : ∃ s, s = (textF (l.drop (p + 1))).2.1 := ⟨_, rfl⟩
    obtain ⟨K, hK⟩ : ∃ K, K = (textF (l.drop (p + 1))).2.2 := ⟨_, rfl⟩
    rw [← hE, ← hs, ← hK] at hQ ⊢
    have HQ := Lib.hid hQ
    clear hQ hE hs hK
    have hb2 : (w1.setCell ⟨w.heap.size, 2, none⟩ (str s)).heap[w.heap.size]? = some (.cells #[.int .u8 m, .int .i64 0, str s] 64 (0, 0)) := setAt HB1.out
    have hx2 : Ext w (w1.setCell ⟨w.heap.size, 2, none⟩ (str s)) := HX1.out.setCell (p := ⟨w.heap.size, 2, none⟩) (fun h => absurd h (Nat.lt_irrefl w.heap.size)) _
    have HB2 := Lib.hid hb2
    have HX2 := Lib.hid hx2
    obtain ⟨z0, z1, z2, z3, z4⟩ := zero_cells _ _ _ HB1.out
    have z3 := z3 2
    obtain ⟨y0, y1, y2, -, y4⟩ := zero_cells _ _ _ HB2.out
    clear hb2 hx2
    by_cases h0 : E = 0
    · subst h0
      go_wp2_with (go_at_call 70; fail)
      refine (editRight_any _ ⟨m, 0, s⟩).mono ?_
      rintro e w3 ⟨rfl, hx3⟩
      have hb3 := hx3.at_ HB2.out id
      have HX3 := Lib.hid (HX2.out.trans hx3)
      clear hx3 y0 y1 y2 y4 z0 z1 z2 z3 z4
      have hr : editRight ⟨m, 0, s⟩ = !s.isEmpty := by
        unfold editRight
        have := H2.out
        dsimp only
        rw [if_neg (by omega), if_pos (by omega)]; simp
      rw [hr]
      by_cases hs : s = []
      · have HQ2 := Lib.hid (show editP (l.drop p) = (2, Edit.zero, 0) from by rw [HQ.out]; simp [hs])
        rw [show (!s.isEmpty) = false from by rw [hs]; rfl]
        have HS := Lib.hid hs
        clear hs hr
        go_wp2_with (first | (refine wpList_load_blk rfl _ _ rfl rfl hb3 (Tryd.editT ⟨m, 0, s⟩) ?_) | (refine wpList_store_blk rfl _ _ _ rfl rfl (cells := editLit ⟨m, 0, s⟩) rfl hb3 (Tryd.editT ⟨m, 0, s⟩) rfl (editLit_one ⟨m, 0, s⟩) ?_))
        try simp only [Exit.inBlock, Exit.then]
        refine bodyPost_blk3 rfl rfl rfl (setRow_heap _ _ _ _ _ _ hb3) (Tryd.editT ⟨m, 0, s⟩) ?_
        exact dtake_bad HQ2.out (by decide) (HX3.out.step (Upd.row _ _ _) (fun i hi e => by unfold At at e; omega))
      · have HQ2 := Lib.hid (show editP (l.drop p) = (0, ⟨2, 0, s⟩, 1 + K) from by rw [HQ.out]; simp [hs])
        rw [show (!s.isEmpty) = true from by cases s <;> simp_all]
        have HS := Lib.hid hs
        clear hs hr
        go_wp2_with (first | (refine wpList_load_blk rfl _ _ rfl rfl hb3 (Tryd.editT ⟨m, 0, s⟩) ?_) | (refine wpList_store_blk rfl _ _ _ rfl rfl (cells := editLit ⟨m, 0, s⟩) rfl hb3 (Tryd.editT ⟨m, 0, s⟩) rfl (editLit_one ⟨m, 0, s⟩) ?_))
        try simp only [Exit.inBlock, Exit.then]
        refine bodyPost_blk3 rfl rfl rfl (setRow_heap _ _ _ _ _ _ hb3) (Tryd.editT ⟨m, 0, s⟩) ?_
        exact dtake_ok HQ2.out (by omega) (by rw [H2.out]; rfl) (HX3.out.step (Upd.row _ _ _) (fun i hi e => by unfold At at e; omega))
    · have hb0 : (E == 0) = false := by simpa using h0
      have HQ2 := Lib.hid (show editP (l.drop p) = (E, Edit.zero, 0) from by rw [HQ.out, if_neg h0])
      have H0 := Lib.hid h0
      clear h0 y0 y1 y2 y4
      have hb2 := HB2.out
      go_wp2_with (first | (refine wpList_load_blk rfl _ _ rfl rfl hb2 (Tryd.editT ⟨m, 0, s⟩) ?_) | (refine wpList_store_blk rfl _ _ _ rfl rfl (cells := editLit ⟨m, 0, s⟩) rfl hb2 (Tryd.editT ⟨m, 0, s⟩) rfl (editLit_one ⟨m, 0, s⟩) ?_))
      try simp only [Exit.inBlock, Exit.then]
      refine bodyPost_blk3 rfl rfl rfl (setRow_heap _ _ _ _ _ _ hb2) (Tryd.editT ⟨m, 0, s⟩) ?_
      exact dtake_bad HQ2.out (H0.out) (HX2.out.step (Upd.row _ _ _) (fun i hi e => by unfold At at e; omega))
  · by_cases h13 : m = 1 ∨ m = 3
    · have hkk : ((m : Int) == 1) = true ∨ (((m : Int) == 1) = false ∧ ((m : Int) == 3) = true) := by
        rcases h13 with h | h
        · exact .inl (by simp [h])
        · exact .inr ⟨by simp [h], by simp [h]⟩
      have hk2 : ((m : Int) == 2) = false := by simp; omega
      have hQ : editP (l.drop p) = if (numF (l.drop (p + 1))).1 = 0 then (if (numF (l.drop (p + 1))).2.1 = 0 ∨ 2147483647 < (numF (l.drop (p + 1))).2.1 then (2, Edit.zero, 0) else (0, ⟨m, (numF (l.drop (p + 1))).2.1, []⟩, 1 + (numF (l.drop (p + 1))).2.2)) else ((numF (l.drop (p + 1))).1, Edit.zero, 0) := by
        rw [editP, HHD.out, HD1.out, if_neg h2, if_pos h13]
      have hok := fun h => (numF_ok (l := l.drop (p + 1)) h).1
      obtain ⟨E, hE⟩ : ∃ E, E = (numF (l.drop (p + 1))).1 := ⟨_, rfl⟩
      obtain ⟨N, hN⟩ : ∃ N, N = (numF (l.drop (p + 1))).2.1 := ⟨_, rfl⟩
      obtain ⟨K, hK⟩ : ∃ K, K = (numF (l.drop (p + 1))).2.2 := ⟨_, rfl⟩
      rw [← hE, ← hN, ← hK] at hQ
      rw [← hE, ← hN] at hok
      have hbad : E ≠ 0 → N = 0 := fun h => by rw [hN, numF_bad (by rw [← hE]; exact h)]
      have HENK := Lib.hid (And.intro hE (And.intro hN hK))
      have HQ := Lib.hid hQ
      have HM13 := Lib.hid h13
      clear hQ hE hN hK h2 h13
      rcases hkk with hk1 | ⟨hk1, hk3⟩
      all_goals
        go_wp2_with (go_at_call 63; fail)
        rw [← HWA.out, show (p : Int) + 1 = ((p + 1 : Nat) : Int) from by omega]
        refine (vTake_any wa _ l (H.out.ext HXA.out) (p + 1) (by omega)).mono ?_
        rintro e w1 ⟨rfl, hx⟩
        rw [← HENK.out.1, ← HENK.out.2.1, ← HENK.out.2.2]
        have HB1 := Lib.hid (hx.at_ HBA.out id)
        have HX1 := Lib.hid (HXA.out.trans hx)
        clear hx
        obtain ⟨z0, z1, z2, z3, z4⟩ := zero_cells _ _ _ HB1.out
        have z3 := z3 1
        by_cases h0 : E = 0
        · have hN64 := hok h0
          subst h0
          have hb1 := HB1.out
          by_cases hbig : 2147483647 < N
          · have hbi : (2147483647 : Int) < N := by omega
            have HQ2 := Lib.hid (show editP (l.drop p) = (2, Edit.zero, 0) from by rw [HQ.out]; simp; omega)
            clear z0 z1 z2 z3
            go_wp2_with (first | (refine wpList_load_blk rfl _ _ rfl rfl hb1 (Tryd.editT ⟨m, 0, []⟩) ?_) | (refine wpList_store_blk rfl _ _ _ rfl rfl (cells := editLit Edit.zero) rfl hb1 (Tryd.editT Edit.zero) rfl (editLit_one Edit.zero) ?_))
            try simp only [Exit.inBlock, Exit.then]
            refine bodyPost_blk3 rfl rfl rfl (setRow_heap _ _ _ _ _ _ hb1) (Tryd.editT Edit.zero) ?_
            exact dtake_bad HQ2.out (by decide) (HX1.out.step (Upd.row _ _ _) (fun i hi e => by unfold At at e; omega))
          · have hbi : ¬ (2147483647 : Int) < N := by omega
            have hb2 : (w1.setCell ⟨w.heap.size, 1, none⟩ (.int .i64 N)).heap[w.heap.size]? = some (.cells #[.int .u8 m, .int .i64 N, str []] 64 (0, 0)) := setAt HB1.out
            have hx2 : Ext w (w1.setCell ⟨w.heap.size, 1, none⟩ (.int .i64 N)) := HX1.out.setCell (p := ⟨w.heap.size, 1, none⟩) (fun h => absurd h (Nat.lt_irrefl w.heap.size)) _
            have HB2 := Lib.hid hb2
            have HX2 := Lib.hid hx2
            obtain ⟨y0, y1, y2, -, y4⟩ := zero_cells _ _ _ HB2.out
            clear hb2 hx2
            go_wp2_with (go_at_call 70; fail)
            refine (editRight_any _ ⟨m, N, []⟩).mono ?_
            rintro e w3 ⟨rfl, hx3⟩
            have hb3 := hx3.at_ HB2.out id
            have HX3 := Lib.hid (HX2.out.trans hx3)
            clear hx3 y0 y1 y2 y4 z0 z1 z2 z3 z4
            have hr : editRight ⟨m, N, []⟩ = decide (0 < N) := by
              unfold editRight
              have := HM13.out
              dsimp only
              rw [if_pos (by omega), show decide ((N : Int) ≤ 2147483647) = true from by simp; omega]; simp
            rw [hr]
            by_cases hs : N = 0
            · have HQ2 := Lib.hid (show editP (l.drop p) = (2, Edit.zero, 0) from by rw [HQ.out]; simp [hs])
              rw [show decide (0 < N) = false from by simp [hs]]
              have HS := Lib.hid hs
              clear hs hr
              go_wp2_with (first | (refine wpList_load_blk rfl _ _ rfl rfl hb3 (Tryd.editT ⟨m, N, []⟩) ?_) | (refine wpList_store_blk rfl _ _ _ rfl rfl (cells := editLit ⟨m, N, []⟩) rfl hb3 (Tryd.editT ⟨m, N, []⟩) rfl (editLit_one ⟨m, N, []⟩) ?_))
              try simp only [Exit.inBlock, Exit.then]
              refine bodyPost_blk3 rfl rfl rfl (setRow_heap _ _ _ _ _ _ hb3) (Tryd.editT ⟨m, N, []⟩) ?_
              exact dtake_bad HQ2.out (by decide) (HX3.out.step (Upd.row _ _ _) (fun i hi e => by unfold At at e; omega))
            · have HQ2 := Lib.hid (show editP (l.drop p) = (0, ⟨m, N, []⟩, 1 + K) from by rw [HQ.out]; simp; omega)
              rw [show decide (0 < N) = true from by simp; omega]
              have HS := Lib.hid hs
              clear hs hr
              go_wp2_with (first | (refine wpList_load_blk rfl _ _ rfl rfl hb3 (Tryd.editT ⟨m, N, []⟩) ?_) | (refine wpList_store_blk rfl _ _ _ rfl rfl (cells := editLit ⟨m, N, []⟩) rfl hb3 (Tryd.editT ⟨m, N, []⟩) rfl (editLit_one ⟨m, N, []⟩) ?_))
              try simp only [Exit.inBlock, Exit.then]
              refine bodyPost_blk3 rfl rfl rfl (setRow_heap _ _ _ _ _ _ hb3) (Tryd.editT ⟨m, N, []⟩) ?_
              exact dtake_ok HQ2.out (by omega) (rfl) (HX3.out.step (Upd.row _ _ _) (fun i hi e => by unfold At at e; omega))
        · have hb0 : (E == 0) = false := by simpa using h0
          have HQ2 := Lib.hid (show editP (l.drop p) = (E, Edit.zero, 0) from by rw [HQ.out, if_neg h0])
          have hN0 := hbad h0
          subst hN0
          have H0 := Lib.hid h0
          clear h0
          have hb2 : (w1.setCell ⟨w.heap.size, 1, none⟩ (.int .i64 0)).heap[w.heap.size]? = some (.cells #[.int .u8 m, .int .i64 0, str []] 64 (0, 0)) := setAt HB1.out
          have HX2 := Lib.hid (show Ext w (w1.setCell ⟨w.heap.size, 1, none⟩ (.int .i64 0)) from HX1.out.setCell (p := ⟨w.heap.size, 1, none⟩) (fun h => absurd h (Nat.lt_irrefl w.heap.size)) _)
          go_wp2_with (first | (refine wpList_load_blk rfl _ _ rfl rfl hb2 (Tryd.editT ⟨m, 0, []⟩) ?_) | (refine wpList_store_blk rfl _ _ _ rfl rfl (cells := editLit ⟨m, 0, []⟩) rfl hb2 (Tryd.editT ⟨m, 0, []⟩) rfl (editLit_one ⟨m, 0, []⟩) ?_))
          try simp only [Exit.inBlock, Exit.then]
          refine bodyPost_blk3 rfl rfl rfl (setRow_heap _ _ _ _ _ _ hb2) (Tryd.editT ⟨m, 0, []⟩) ?_
          exact dtake_bad HQ2.out (H0.out) (HX2.out.step (Upd.row _ _ _) (fun i hi e => by unfold At at e; omega))
    · have hk1 : ((m : Int) == 1) = false := by simp; omega
      have hk2 : ((m : Int) == 2) = false := by simp; omega
      have hk3 : ((m : Int) == 3) = false := by simp; omega
      have HQ2 := Lib.hid (show editP (l.drop p) = (60, Edit.zero, 0) from by rw [editP, HHD.out, if_neg h2, if_neg h13])
      clear h2 h13
      have hba := HBA.out
      rw [HWA.out] at hba
      go_wp2_with (first | (refine wpList_load_blk rfl _ _ rfl rfl hba (Tryd.editT ⟨m, 0, []⟩) ?_) | (refine wpList_store_blk rfl _ _ _ rfl rfl (cells := editLit ⟨m, 0, []⟩) rfl hba (Tryd.editT ⟨m, 0, []⟩) rfl (editLit_one ⟨m, 0, []⟩) ?_))
      try simp only [Exit.inBlock, Exit.then]
      refine bodyPost_blk3 rfl rfl rfl (setRow_heap _ _ _ _ _ _ hba) (Tryd.editT ⟨m, 0, []⟩) ?_
      have HXA2 := HXA.out
      rw [HWA.out] at HXA2
      exact dtake_bad HQ2.out (by decide) (HXA2.step (Upd.row _ _ _) (fun i hi e => by unfold At at e; omega))
end Go.Proofs.YtlhpcgmbbeihiaaDoor
