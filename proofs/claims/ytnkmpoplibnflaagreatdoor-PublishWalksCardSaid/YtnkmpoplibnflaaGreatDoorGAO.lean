/-
  state.whole. Condition: fewer than 60000 bytes.
  varint.TakeAll.
  The contracts of numbers, texts, triples in the plain's words; rows of triples.
  state.lives.
  What the readings of numbers and texts answer, in one form.
-/
import Derived.Test.YtnkmpoplibnflaaGreatDoorGAN
import Derived.Test.YtnkmpoplibnflaaGreatDoorGAH
import Derived.Deep.RegionLaw
set_option maxRecDepth 100000
set_option maxHeartbeats 16000000
namespace Go.Proofs.YtnkmpoplibnflaaGreatDoor.Wk
open Go Go.Proofs.YtnkmpoplibnflaaGreatDoor Go.RowKit
def WholePost (w : World) (l : List UInt8) (e : Ending) (w' : World) : Prop := ∃ (ok : Bool) (body : List UInt8) (v : Value), e = .returned (.tuple #[v, .bool ok]) /\ Bytes (fun _ => True) w' v body /\ Ext w w' /\ body.length <= l.length ∧
 (ok = true -> l = frameF 12 body \/ (l = [] /\ body = [])) /\ (∀ b', l = frameF 12 b' -> ok = true /\ body = b')
theorem whole_bad {w w' : World} {l : List UInt8} {fs : List Fr} {p : Nat} (h1 : Pre l fs p) (h2 : takeFr (l.drop p) = none) (hl : l.length <= 60000) (hb : ∀ b', fs ≠ [(12, b')]) (hx : Ext w w') : WholePost w l (.returned (.tuple #[.slice none 0 0, .bool false])) w' :=
 ⟨false, [], _, rfl, Row.nil _ _, hx, by simp, fun h => (by cases h), fun b' e => by
  subst e
  rw [frameF_len] at hl
  obtain ⟨rfl, -⟩ := h1.all (by omega) h2
  exact absurd rfl (hb b')⟩
theorem whole_any {S : Nat -> Prop} (w : World) (v : Value) (l : List UInt8) (h : Bytes S w v l) (hl : l.length <= 60000) :
  Calls Tryz.prog 128 #[v] w (WholePost w l) := by
 have hcon := fall_any w v l h (by omega)
 obtain ⟨a, c, rfl, hn, hm, -⟩ := h
 go_enter Tryz.func128, Tryz.ntmps128
 go_wp2_with (go_at_call 144; fail)
 refine hcon.mono ?_
 rintro e w1 ⟨fs, p, vf, rfl, hP, hT, hR, hx⟩
 have hpl := hP.le
 have hpp : p <= l.length := hpl.1
 have HP := zq hP
 have HT := zq hT
 have HR := zq hR
 have HX := zq hx
 obtain ⟨vs, r1, r2, r3⟩ := hR
 have HR2 := zq r2
 have HR3 := zq r3
 have HR1 := zq r1
 obtain ⟨af, cf, rfl, fn1, fm1, -⟩ := r2
 unfold maxLen at fm1
 have hfl : fs.length <= 60000 := by omega
 obtain ⟨FL, hF1, hF2, hFE⟩ : ∃ FL, FL <= fs.length /\ fs.length <= FL /\ FL = fs.length := ⟨_, Nat.le_refl _, Nat.le_refl _, rfl⟩
 obtain ⟨LL, hL1, hL2, hLE⟩ : ∃ LL, LL <= l.length /\ l.length <= LL /\ LL = l.length := ⟨_, Nat.le_refl _, Nat.le_refl _, rfl⟩
 rw [<- hFE, <- hLE]
 have HFE := zq hFE
 clear hP hT hx r1 r3 hpl hcon hFE hLE
 go_wp2
 go_loopw [6, 16] (fun t x wr => ∃ i : Nat, i <= FL /\ x = .int .i64 (i : Int) /\ Hid (Ext w wr) /\ Hid (Ext w1 wr) /\ (i = 0 -> t = .slice none 0 0) /\ (0 < i -> ∃ b, Hid (fs = [(12, b)]) /\ Hid (Bytes (fun _ => True) wr t b))) (fun _ x _ => FL - (intOf x).toNat)
 case atStart => exact ⟨0, by omega, rfl, HX, zq uZ, fun _ => rfl, fun h => (by omega)⟩
 case round =>
  obtain ⟨i, hi, rfl, HXr, HX1, h0, h1⟩ := hrel
  by_cases hlt : i < FL
  ·have hi0 : i = 0 := by
    rcases Nat.eq_zero_or_pos i with h | h
    ·exact h
    ·obtain ⟨b, e, -⟩ := h1 h
     have e := e.out
     rw [e] at hF1
     simp at hF1; omega
   subst hi0
   have ht := h0 rfl
   subst ht
   clear h0 h1 hi
   have hf0 : 0 < fs.length := by omega
   obtain ⟨b1, o1, c1, e1, -, -, -, hq1⟩ := HR2.out.addr hf0
   cases e1
   obtain ⟨k, bd, hkb⟩ : ∃ k bd, fs[0] = (k, bd) := ⟨_, _, rfl⟩
   have hv0 : 0 < vs.length := by rw [HR1.out]; exact hf0
   obtain ⟨q1, q2⟩ := frCells_at HR1.out 0 hf0 hv0
   have hbd := HR3.out 0 hf0 hv0
   rw [hkb] at q1 hbd
   have hbdl : bd.length <= 60000 := by
    have h1 := HP.out.le.2.2
    have : fs = fs[0] :: fs.drop 1 := by rw [<- List.drop_eq_getElem_cons hf0]; rfl
    rw [this, hkb] at h1
    simp at h1; omega
   obtain ⟨ab, cb, hvb, hb1, hb2, -⟩ := id hbd
   have hvb : vs[0] = .slice ab bd.length cb := hvb
   rw [hvb] at q2 hbd
   have c0 := HX1.out.cell (hq1 _ _ q1) id
   have c1 := HX1.out.cell (hq1 _ _ q2) id
   have c0 : wr.cell? ⟨b1, o1, none⟩ = some (b8 k) := by simpa using c0
   have c1 : wr.cell? ⟨b1, o1 + 1, none⟩ = some (.slice ab bd.length cb) := by simpa using c1
   have HBD := zq (hbd.ext HX1.out)
   have HKB := zq hkb
   clear q1 q2 hq1 hkb hbd hvb
   have C0 := zq c0
   have C1 := zq c1
   obtain ⟨gb, hgb⟩ : ∃ gb, gb = wr.heap.size := ⟨_, rfl⟩
   have hnb : (wr.alloc (.cells frZ 258)).heap[gb]? = some (.cells frZ 258 (0, 0)) := by rw [hgb]; exact newAt _ _
   obtain ⟨w3, hw3⟩ : ∃ u, u = (wr.alloc (.cells frZ 258)).setRow gb (frV k (.slice ab bd.length cb)) := ⟨_, rfl⟩
   have hx23 : Ext wr w3 := by rw [hw3]; exact (uZ.alloc _).step (T := At gb) (Upd.row _ gb _) (fun k hk e => by have e : k = gb := e; omega)
   have hg3 : w3.heap[gb]? = some (.cells (frV k (.slice ab bd.length cb)) 258 (0, 0)) := by rw [hw3]; exact setRow_heap _ _ _ _ _ _ hnb
   have HX23 := zq hx23
   have HW3 := zq hw3
   have HGB := zq hgb
   have d0 : w3.cell? ⟨gb, 0, none⟩ = some (b8 k) := cZ hg3 0 _ rfl
   have d1 : w3.cell? ⟨gb, 1, none⟩ = some (.slice ab bd.length cb) := cZ hg3 1 _ rfl
   have D0 := zq d0
   have D1 := zq d1
   clear hw3 hx23 hg3 hgb d0 d1
   go_upto_region 6 with (refine wpList_store_blk rfl _ _ _ rfl rfl (cells := frV k (.slice ab bd.length cb)) rfl (g := wr.heap.size) (newAt wr (.cells frZ 258)) (Tryz.frT (.int .u8 0) (.slice none 0 0)) rfl (frs_one k ab bd.length cb) ?_)
   rw [show wr.heap.size = gb from HGB.out.symm]
   rw [show (wr.alloc (.cells frZ 258)).setRow gb (frV k (.slice ab bd.length cb)) = w3 from HW3.out.symm]
   have d0 := D0.out
   have d1 := D1.out
   clear c0 c1
   by_cases hk : k = 12
   case neg =>
    have hbk : ((k.toNat : Int) != 12) = true := by
     have : k.toNat ≠ 12 := fun e => hk (UInt8.toNat_inj.1 e)
     simp; omega
    have HB := zq (whole_bad HP.out HT.out hl (fun b' e => by
     have e2 := HKB.out
     simp only [e, List.getElem_cons_zero, Prod.mk.injEq] at e2
     exact hk e2.1.symm) (HXr.out.trans HX23.out))
    clear hk
    go_wp2
    go_ret2
    exact HB.out
   have hbk : ((k.toNat : Int) != 12) = false := by rw [hk]; rfl
   by_cases h2 : 1 < FL
   ·have hbk2 : ((bd.length : Int) != 65535) = true := by simp; omega
    have h2i : (0 : Int) + 1 < (FL : Int) := by omega
    have HB := zq (whole_bad HP.out HT.out hl (fun b' e => by
     rw [e] at hF1
     simp at hF1; omega) (HXr.out.trans HX23.out))
    clear hk h2
    go_wp2
    go_ret2
    exact HB.out
   ·have h2i : ¬ ((0 : Int) + 1 < (FL : Int)) := by omega
    have HE := zq (show fs = [(12, bd)] by
     have : fs.length = 1 := by omega
     match fs, this with
     | [x], _ =>
      have e2 := HKB.out
      simp only [List.getElem_cons_zero] at e2
      rw [e2, hk])
    have hbd3 := HBD.out.ext HX23.out
    clear hk h2
    go_wp2_with (at_builtin; go_must (refine wpList_append_row rfl _ _ _ rfl Tryz.bytesT rfl (World.ownsRow_nil _ w3.heap.size _ _) rfl hbd3 (by simp) (u8_one _) ?c3 ?c4 (Nat.le_refl _) ?_))
    case c3 => unfold maxLen; omega
    case c4 => omega
    intro v' w4 hown hg _
    have hx34 : Ext w3 w4 := uZ.grown hg (fun j hj => by simp [Value.ownBlock] at hj)
    have hr4 := Row.of_owns hown
    go_wp2
    go_roundw
    case rel => exact ⟨1, by omega, by go_num, zq ((HXr.out.trans HX23.out).trans hx34), zq ((HX1.out.trans HX23.out).trans hx34), fun h => (by omega), fun _ => ⟨bd, HE, zq (hr4.mono (fun _ _ => trivial))⟩⟩
    case measure => simp [intOf]; omega
  ·have hiF : i = FL := by omega
   by_cases hi0 : i = 0
   ·subst hi0
    have ht := h0 rfl
    subst ht
    have hfe : fs = [] := List.eq_nil_of_length_eq_zero (by omega)
    have HFS := zq hfe
    have hp0 := HP.out
    rw [hfe] at hp0
    have hp0 : p = 0 := by
     obtain ⟨fs', e⟩ : ∃ fs' : List Fr, fs' = [] := ⟨_, rfl⟩
     rw [<- e] at hp0
     cases hp0 with
     | nil => rfl
     | snoc h3 h4 => simp at e
    have HP0 := zq hp0
    clear h0 h1 hfe hp0
    by_cases hle : LL = 0
    ·have hb : ((p : Int) == (LL : Int)) = true := by have := HP0.out; simp; omega
     have HLE := zq hle
     clear hle
     go_wp2
     go_ret2
     refine ⟨true, [], _, rfl, Row.nil _ _, HXr.out, by simp, fun _ => .inr ⟨List.eq_nil_of_length_eq_zero (by have := HLE.out; omega), rfl⟩, fun b' e => ?_⟩
     have := HLE.out
     rw [e, frameF_len] at hL2
     omega
    ·have hb : ((p : Int) == (LL : Int)) = false := by have := HP0.out; simp; omega
     have HLE := zq hle
     clear hle
     have HB := zq (whole_bad HP.out HT.out hl (fun b' e => by rw [HFS.out] at e; cases e) HXr.out)
     go_wp2
     go_ret2
     exact HB.out
   ·obtain ⟨b, he, hbr⟩ := h1 (by omega)
    have hpre := HP.out
    rw [he.out] at hpre
    have HPRE := zq hpre
    have hbl := hpre.le.2.2
    simp at hbl
    clear h0 h1 hpre hi0
    by_cases hle : p = LL
    ·have hb : ((p : Int) == (LL : Int)) = true := by simp; omega
     have HLE := zq hle
     clear hle
     go_wp2
     go_ret2
     have hlf : l = frameF 12 b := HPRE.out.single (by have := HLE.out; omega)
     refine ⟨true, b, _, rfl, hbr.out, HXr.out, by omega, fun _ => .inl hlf, fun b' e => ⟨rfl, ?_⟩⟩
     have h3 := HP.out
     have h4 := HT.out
     rw [e] at h3 h4
     have hl2 := hl
     rw [e, frameF_len] at hl2
     obtain ⟨h5, -⟩ := h3.all (by omega) h4
     rw [he.out] at h5
     simp at h5
     exact h5
    ·have hb : ((p : Int) == (LL : Int)) = false := by simp; omega
     have HLE := zq hle
     clear hle
     go_wp2
     go_ret2
     refine ⟨false, b, _, rfl, hbr.out, HXr.out, by omega, fun h => (by cases h), fun b' e => ?_⟩
     have h3 := HP.out
     have h4 := HT.out
     rw [e] at h3 h4
     have hl2 := hl
     rw [e, frameF_len] at hl2
     obtain ⟨-, h5⟩ := h3.all (by omega) h4
     have := HLE.out
     rw [<- e] at h5
     omega
end Go.Proofs.YtnkmpoplibnflaaGreatDoor.Wk
set_option maxRecDepth 100000
set_option maxHeartbeats 16000000
namespace Go.Proofs.YtnkmpoplibnflaaGreatDoor.Wk
open Go.Proofs.YtnkmpoplibnflaaGreatDoor Go.RowKit
theorem vTakeAll_any {S : Nat -> Prop} (w : World) (v : Value) (l : List UInt8) (h : Bytes S w v l) (p many : Nat) (hp : p <= l.length) (hl : l.length <= 70368744177664) (hmany : many <= 100) :
  Calls Tryz.prog 129 #[v, .int .i64 p, .int .i64 many] w fun e w' => ∃ v, Ext w w' ∧
   (((numsP l many p).1 = 0 /\ (numsP l many p).2.2 <= l.length /\ (numsP l many p).2.1.length = many /\ e = .returned (.tuple #[v, .int .i64 ((numsP l many p).2.2 : Nat), .int .i64 0]) /\ w'.ownsRow w.heap.size 22 1 v many ((numsP l many p).2.1.map u64v)) ∨
    ((numsP l many p).1 ≠ 0 /\ e = .returned (.tuple #[nilS, .int .i64 p, .int .i64 (numsP l many p).1]))) := by
 have g := h.addr
 have H := zq h
 obtain ⟨a, c, rfl, hn, hm, -⟩ := h
 have G := zq g
 clear g
 obtain ⟨R, hR⟩ : ∃ R, R = numsP l many p := ⟨_, rfl⟩
 rw [<- hR]
 have HR := zq hR
 clear hR
 go_enter Tryz.func129, Tryz.ntmps129
 go_wp2
 go_loopw [6, 7, 14] (fun v q i wr => ∃ (j b : Nat) (dn : List Nat), j <= many /\ b <= l.length /\ dn.length = j /\ i = .int .i64 (j : Int) /\ q = .int .i64 (b : Int) /\ R = numsJoin dn (numsP l (many - j) b) /\ Ext w wr /\ wr.ownsRow w.heap.size 22 1 v dn.length (dn.map u64v)) (fun _ _ i _ => many - (intOf i).toNat)
 case atStart =>
  refine ⟨0, p, [], by omega, hp, rfl, rfl, rfl, ?_, uZ, World.ownsRow_nil _ _ _ _⟩
  rw [HR.out, numsJoin]
  split
  ·rename_i h; simp only [List.nil_append, Nat.sub_zero] at h ⊢
   exact (show ∀ q : Int × List Nat × Nat, q.1 = 0 -> q = (0, q.2.1, q.2.2) from by rintro ⟨x, y, z⟩ h; simp at h; subst h; rfl) _ h
  ·rename_i h
   simp only [Nat.sub_zero] at h ⊢
   cases many with
   | zero => exact absurd rfl h
   | succ m =>
    rw [numsP] at h ⊢
    split
    ·rename_i h1
     rw [if_pos h1] at h
     split
     ·rename_i h2; rw [if_pos h2] at h; exact absurd rfl h
     ·rfl
    ·rfl
 case round =>
  obtain ⟨j, b, dn, hj, hb, hdn, rfl, rfl, hr, hx, hown⟩ := hrel
  have HX := zq hx
  have hus := hx.size
  have HRJ := zq hr
  clear hx hr
  by_cases hlt : j < many
  ·go_wp2_with (go_at_call 145; fail)
   refine (vTake_any _ _ l (H.out.ext HX.out) b hb).mono ?_
   rintro e w2 ⟨rfl, hx2⟩
   have hown1 := hx2.ownsRow hown (fun _ _ e => e)
   have hsz2 := hx2.size
   have HX2 := zq (HX.out.trans hx2)
   clear hown hx2
   have hstep := HRJ.out
   rw [show many - j = (many - (j + 1)) + 1 from by omega] at hstep
   by_cases h0 : (numF (l.drop b)).1 = 0
   ·rw [numsJoin_step h0] at hstep
    obtain ⟨n1, n2, n3, n4⟩ := numF_ok h0
    rw [List.length_drop] at n4
    clear n2 n3
    obtain ⟨N, hN⟩ : ∃ N, N = (numF (l.drop b)).2.1 := ⟨_, rfl⟩
    obtain ⟨q, hq⟩ : ∃ q, q = b + (numF (l.drop b)).2.2 := ⟨_, rfl⟩
    rw [<- hN, <- hq] at hstep
    have hql : q <= l.length := by omega
    rw [h0, <- hN, <- hq]
    rw [<- hN] at n1
    have HS := zq hstep
    clear hstep hN hq n4 h0
    go_wp2_with (at_builtin; go_must (refine wpList_append_row rfl _ _ _ rfl Tryz.u64sT rfl (hown1.alloc _) rfl (row_new _ _ _ 1 _ (by decide) (by simp)) rfl (by intro u hu; simp at hu; subst hu; rfl) ?c3 ?c4 ?c5 ?_))
    case c3 => unfold maxLen; omega
    case c4 => omega
    case c5 => first | omega | (simp; omega)
    intro v' w3 hown3 hg _
    have hx3 := (HX2.out.alloc _).grown hg (fun j hj h => by have := (hown1.lt j hj).1; omega)
    have HX3 := zq hx3
    clear hx3 hg
    go_wp2
    go_roundw
    case rel => exact ⟨j + 1, q, dn ++ [N], by omega, hql, by simp [hdn], by go_num, rfl, HS.out, HX3.out, by rw [List.length_append, List.map_append, List.length_singleton, hdn]; exact hown3⟩
    case measure => simp [intOf]; omega
   ·rw [numsJoin_bad h0] at hstep
    obtain ⟨E, hE⟩ : ∃ E, E = (numF (l.drop b)).1 := ⟨_, rfl⟩
    rw [<- hE] at h0 hstep ⊢
    have hb : (E != 0) = true := by simpa using h0
    have HS := zq hstep
    have HE := zq h0
    clear hE hstep h0 hown1
    go_wp2
    go_ret3
    exact ⟨nilS, HX2.out, .inr ⟨by rw [HS.out]; exact HE.out, by rw [HS.out]; rfl⟩⟩
  ·have hjm : j = many := by omega
   subst hjm
   go_wp2
   go_ret3
   have := HRJ.out
   rw [Nat.sub_self, numsP, numsJoin, if_pos rfl] at this
   rw [this]
   dsimp only
   rw [List.append_nil]
   rw [hdn] at hown
   refine ⟨?v, HX.out, .inl ⟨rfl, hb, hdn, ?d, ?e⟩⟩
   case e => exact hown
   case d => rfl
end Go.Proofs.YtnkmpoplibnflaaGreatDoor.Wk
set_option maxRecDepth 100000
set_option maxHeartbeats 16000000
namespace Go.Proofs.YtnkmpoplibnflaaGreatDoor.Wk
open Go Go.Proofs.YtnkmpoplibnflaaGreatDoor Go.RowKit
theorem numF_O {l : List UInt8} {p : Nat} : (∀ n q, numO l p = some (n, q) -> (numF (l.drop p)).1 = 0 /\ (numF (l.drop p)).2.1 = n /\ p + (numF (l.drop p)).2.2 = q) /\ (numO l p = none -> (numF (l.drop p)).1 ≠ 0) := by
 unfold numO
 by_cases h : (numF (l.drop p)).1 = 0
 ·rw [if_pos h]
  exact ⟨fun n q e => by simp only [Option.some.injEq, Prod.mk.injEq] at e; exact ⟨h, e.1, e.2⟩, fun e => (by cases e)⟩
 ·rw [if_neg h]
  exact ⟨fun n q e => (by cases e), fun _ => h⟩
theorem textF_O {l : List UInt8} {p : Nat} : (∀ n q, textO l p = some (n, q) -> (textF (l.drop p)).1 = 0 /\ (textF (l.drop p)).2.1 = n /\ p + (textF (l.drop p)).2.2 = q) /\ (textO l p = none -> (textF (l.drop p)).1 ≠ 0) := by
 unfold textO
 by_cases h : (textF (l.drop p)).1 = 0
 ·rw [if_pos h]
  exact ⟨fun n q e => by simp only [Option.some.injEq, Prod.mk.injEq] at e; exact ⟨h, e.1, e.2⟩, fun e => (by cases e)⟩
 ·rw [if_neg h]
  exact ⟨fun n q e => (by cases e), fun _ => h⟩
theorem numsP_O {l : List UInt8} : ∀ {k p : Nat}, (∀ ns q, manyO (numO l) k p = some (ns, q) -> (numsP l k p) = (0, ns, q)) /\ (manyO (numO l) k p = none -> (numsP l k p).1 ≠ 0)
 | 0, p => ⟨fun ns q e => by simp only [manyO, Option.some.injEq, Prod.mk.injEq] at e; obtain ⟨rfl, rfl⟩ := e; rfl, fun e => (by cases e)⟩
 | k + 1, p => by
  have ho := numF_O (l := l) (p := p)
  cases h : numO l p with
  | none =>
   have := ho.2 h
   rw [manyO_bad h]
   exact ⟨fun ns q e => (by cases e), fun _ => by rw [numsP, if_neg this]; exact this⟩
  | some r =>
   obtain ⟨n, q⟩ := r
   obtain ⟨h0, h1, h2⟩ := ho.1 n q h
   have ih := numsP_O (l := l) (k := k) (p := q)
   rw [manyO_step h]
   rw [numsP, if_pos h0, h2, h1]
   cases hm : manyO (numO l) k q with
   | none =>
    have := ih.2 hm
    exact ⟨fun ns q e => (by cases e), fun _ => by rw [if_neg this]; exact this⟩
   | some r =>
    obtain ⟨ns, q2⟩ := r
    have := ih.1 ns q2 hm
    refine ⟨fun ns' q' e => ?_, fun e => (by cases e)⟩
    simp only [Option.map_some, Option.some.injEq, Prod.mk.injEq] at e
    obtain ⟨rfl, rfl⟩ := e
    rw [this]; rfl
def NumPost (w : World) (l : List UInt8) (p : Nat) (e : Ending) (w' : World) : Prop := Ext w w' /\ (∀ n q, numO l p = some (n, q) -> e = .returned (.tuple #[.int .u64 (n : Int), .int .i64 (q : Int), .int .i64 0])) /\ (numO l p = none -> ∃ (E : Int) (a b : Nat), E ≠ 0 /\ e = .returned (.tuple #[.int .u64 (a : Int), .int .i64 (b : Int), .int .i64 E]))
def TextPost (w : World) (l : List UInt8) (p : Nat) (e : Ending) (w' : World) : Prop := Ext w w' /\ (∀ n q, textO l p = some (n, q) -> e = .returned (.tuple #[str n, .int .i64 (q : Int), .int .i64 0])) /\ (textO l p = none -> ∃ (E : Int) (a : List UInt8) (b : Nat), E ≠ 0 /\ e = .returned (.tuple #[str a, .int .i64 (b : Int), .int .i64 E]))
theorem numPost_of {w w' : World} {l : List UInt8} {p : Nat} {e : Ending} (h : e = .returned (.tuple #[.int .u64 ((numF (l.drop p)).2.1 : Nat), .int .i64 ((p + (numF (l.drop p)).2.2 : Nat) : Int), .int .i64 (numF (l.drop p)).1]) /\ Ext w w') : NumPost w l p e w' := by
 obtain ⟨rfl, hx⟩ := h
 refine ⟨hx, fun n q hn => ?_, fun hn => ⟨_, _, _, numF_O.2 hn, rfl⟩⟩
 obtain ⟨h0, h1, h2⟩ := numF_O.1 n q hn
 rw [h0, h1, h2]
theorem textPost_of {w w' : World} {l : List UInt8} {p : Nat} {e : Ending} (h : e = .returned (.tuple #[str (textF (l.drop p)).2.1, .int .i64 ((p + (textF (l.drop p)).2.2 : Nat) : Int), .int .i64 (textF (l.drop p)).1]) /\ Ext w w') : TextPost w l p e w' := by
 obtain ⟨rfl, hx⟩ := h
 refine ⟨hx, fun n q hn => ?_, fun hn => ⟨_, _, _, textF_O.2 hn, rfl⟩⟩
 obtain ⟨h0, h1, h2⟩ := textF_O.1 n q hn
 rw [h0, h1, h2]
theorem vNum_any {S : Nat -> Prop} (w : World) (v : Value) (l : List UInt8) (h : Bytes S w v l) (p : Nat) (hp : p <= l.length) : Calls Tryz.prog 145 #[v, .int .i64 p] w (NumPost w l p) :=
 (vTake_any w v l h p hp).mono fun _ _ => numPost_of
theorem rNum_any {S : Nat -> Prop} (w : World) (v : Value) (l : List UInt8) (h : Bytes S w v l) (p : Nat) (hp : p <= l.length) (hl : l.length <= 70368744177664) : Calls Tryz.prog 90 #[v, .int .i64 p] w (NumPost w l p) :=
 (rTake_any w v l h p hp hl).mono fun _ _ => numPost_of
theorem vTxt_any {S : Nat -> Prop} (w : World) (v : Value) (l : List UInt8) (h : Bytes S w v l) (p : Nat) (hp : p <= l.length) (hl : l.length <= 70368744177664) : Calls Tryz.prog 146 #[v, .int .i64 p] w (TextPost w l p) :=
 (vTakeText_any w v l h p hp hl).mono fun _ _ => textPost_of
theorem rTxt_any {S : Nat -> Prop} (w : World) (v : Value) (l : List UInt8) (h : Bytes S w v l) (p : Nat) (hp : p <= l.length) (hl : l.length <= 70368744177664) : Calls Tryz.prog 92 #[v, .int .i64 p] w (TextPost w l p) :=
 (rTakeText_any w v l h p hp hl).mono fun _ _ => textPost_of
def NumsPost (w : World) (l : List UInt8) (k p : Nat) (e : Ending) (w' : World) : Prop := Ext w w' ∧
 (∀ ns q, manyO (numO l) k p = some (ns, q) -> q <= l.length /\ ns.length = k /\ ∃ v, e = .returned (.tuple #[v, .int .i64 (q : Int), .int .i64 0]) /\ w'.ownsRow w.heap.size 22 1 v k (ns.map u64v)) ∧
 (manyO (numO l) k p = none -> ∃ E : Int, E ≠ 0 /\ e = .returned (.tuple #[nilS, .int .i64 (p : Int), .int .i64 E]))
theorem numsPost_of {w w' : World} {l : List UInt8} {k p : Nat} {e : Ending} (h : ∃ v, Ext w w' ∧
   (((numsP l k p).1 = 0 /\ (numsP l k p).2.2 <= l.length /\ (numsP l k p).2.1.length = k /\ e = .returned (.tuple #[v, .int .i64 ((numsP l k p).2.2 : Nat), .int .i64 0]) /\ w'.ownsRow w.heap.size 22 1 v k ((numsP l k p).2.1.map u64v)) ∨
    ((numsP l k p).1 ≠ 0 /\ e = .returned (.tuple #[nilS, .int .i64 p, .int .i64 (numsP l k p).1])))) : NumsPost w l k p e w' := by
 obtain ⟨v, hx, h⟩ := h
 refine ⟨hx, fun ns q hn => ?_, fun hn => ?_⟩
 ·have hq := numsP_O.1 ns q hn
  rw [hq] at h
  rcases h with ⟨-, h2, h3, h4, h5⟩ | ⟨h1, -⟩
  ·exact ⟨h2, h3, v, h4, h5⟩
  ·exact absurd rfl h1
 ·have hq := numsP_O.2 hn
  rcases h with ⟨h1, -⟩ | ⟨-, h2⟩
  ·exact absurd h1 hq
  ·exact ⟨_, hq, h2⟩
theorem vNums_any {S : Nat -> Prop} (w : World) (v : Value) (l : List UInt8) (h : Bytes S w v l) (p k : Nat) (hp : p <= l.length) (hl : l.length <= 70368744177664) (hk : k <= 100) : Calls Tryz.prog 129 #[v, .int .i64 p, .int .i64 k] w (NumsPost w l k p) :=
 (vTakeAll_any w v l h p k hp hl hk).mono fun _ _ => numsPost_of
theorem rNums_any {S : Nat -> Prop} (w : World) (v : Value) (l : List UInt8) (h : Bytes S w v l) (p k : Nat) (hp : p <= l.length) (hl : l.length <= 70368744177664) (hk : k <= 100) : Calls Tryz.prog 69 #[v, .int .i64 p, .int .i64 k] w (NumsPost w l k p) :=
 (rTakeAll_any w v l h p k hp hl hk).mono fun _ _ => numsPost_of
def TripPost (w : World) (l : List UInt8) (p : Nat) (e : Ending) (w' : World) : Prop := Ext w w' ∧
 (∀ (x y z q : Nat), tripO l p = some ((x, y, z), q) -> q <= l.length /\ p < q /\ x < 18446744073709551616 /\ y < 18446744073709551616 /\ z < 18446744073709551616 /\ ∃ b c, e = .returned (.tuple #[.slice (some ⟨b, 0, none⟩) 3 c, .int .i64 (q : Int), .int .i64 0]) /\ 3 <= c /\ w'.cell? ⟨b, 0, none⟩ = some (.int .u64 (x : Int)) /\ w'.cell? ⟨b, 1, none⟩ = some (.int .u64 (y : Int)) /\ w'.cell? ⟨b, 2, none⟩ = some (.int .u64 (z : Int))) ∧
 (tripO l p = none -> ∃ E : Int, E ≠ 0 /\ e = .returned (.tuple #[nilS, .int .i64 (p : Int), .int .i64 E]))
theorem tripPost_of {w w' : World} {l : List UInt8} {p : Nat} {e : Ending} (hp : p <= l.length) (h : NumsPost w l 3 p e w') : TripPost w l p e w' := by
 obtain ⟨hx, h1, h2⟩ := h
 refine ⟨hx, fun x y z q ht => ?_, fun ht => h2 (tripO_none ht)⟩
 have hm := tripO_ok ht
 obtain ⟨h3, -, v, rfl, hown⟩ := h1 _ _ hm
 have hlt := manyO_all (P := fun n => n < 18446744073709551616) num_lt hm
 obtain ⟨-, h5, -⟩ := (trip_reads l).ok hp ht
 obtain ⟨g, cap, rfl, -, -⟩ := hown.form (by omega)
 have hr := hown.cellAt (g := g) (cap := cap)
 have hc : 3 <= cap := by
  obtain ⟨-, ⟨h, -⟩ | ⟨g', cap', cur, e1, -, -, h6, -⟩⟩ := hown
  ·cases h
  ·cases e1; exact h6
 exact ⟨h3, h5, hlt _ (by simp), hlt _ (by simp), hlt _ (by simp), g, cap, rfl, hc, hr 0 (by omega), hr 1 (by omega), hr 2 (by omega)⟩
theorem vTrip_any {S : Nat -> Prop} (w : World) (v : Value) (l : List UInt8) (h : Bytes S w v l) (p : Nat) (hp : p <= l.length) (hl : l.length <= 70368744177664) : Calls Tryz.prog 129 #[v, .int .i64 p, .int .i64 3] w (TripPost w l p) :=
 (vNums_any w v l h p 3 hp hl (by omega)).mono fun _ _ => tripPost_of hp
theorem rTrip_any {S : Nat -> Prop} (w : World) (v : Value) (l : List UInt8) (h : Bytes S w v l) (p : Nat) (hp : p <= l.length) (hl : l.length <= 70368744177664) : Calls Tryz.prog 69 #[v, .int .i64 p, .int .i64 3] w (TripPost w l p) :=
 (rNums_any w v l h p 3 hp hl (by omega)).mono fun _ _ => tripPost_of hp
def cellsT (t : Tr) : List Value := [.int .u64 (t.1 : Int), .int .u64 (t.2.1 : Int), .int .u64 (t.2.2 : Int)]
def flatT (ts : List Tr) : List Value := (ts.map cellsT).flatten
theorem flatT_snoc (ts : List Tr) (t : Tr) : flatT (ts ++ [t]) = flatT ts ++ cellsT t := by simp [flatT]
theorem flatT_at : ∀ {ts : List Tr} (k : Nat) (hk : k < ts.length), (flatT ts)[k * 3]? = some (.int .u64 (ts[k].1 : Int)) /\ (flatT ts)[k * 3 + 1]? = some (.int .u64 (ts[k].2.1 : Int)) /\ (flatT ts)[k * 3 + 2]? = some (.int .u64 (ts[k].2.2 : Int))
 | [], k, h => by simp at h
 | t :: ts, 0, _ => by simp [flatT, cellsT]
 | t :: ts, k + 1, h => by
  have := flatT_at (ts := ts) k (by simpa using h)
  have hl : (cellsT t).length = 3 := rfl
  simp only [flatT, List.map_cons, List.flatten_cons] at this ⊢
  rw [show (k + 1) * 3 = 3 + k * 3 by omega, List.getElem?_append_right (by omega), List.getElem?_append_right (by omega), List.getElem?_append_right (by omega)]
  simp only [hl]
  rw [show 3 + k * 3 - 3 = k * 3 by omega, show 3 + k * 3 + 1 - 3 = k * 3 + 1 by omega, show 3 + k * 3 + 2 - 3 = k * 3 + 2 by omega]
  exact this
end Go.Proofs.YtnkmpoplibnflaaGreatDoor.Wk
set_option maxRecDepth 100000
set_option maxHeartbeats 16000000
namespace Go.Proofs.YtnkmpoplibnflaaGreatDoor.Wk
open Go Go.Proofs.YtnkmpoplibnflaaGreatDoor Go.RowKit
theorem ownsFormN {w : World} {base e size n : Nat} {v : Value} {xs : List Value} (h : w.ownsRow base e size v n xs) : ∃ a c, v = .slice a n c := by
 rcases h.2 with ⟨rfl, rfl⟩ | ⟨g, cap, cur, rfl, _⟩ <;> exact ⟨_, _, rfl⟩
theorem le_drew_alloc (w : World) (o : Obj) : w.heap.size <= (w.alloc o).drew.heap.size := by show w.heap.size <= (w.alloc o).heap.size; simp
section
variable {P : Program} {w : World}
theorem step_append_row {ops : Array Oper} {o : Oper} {a : Act} {K : Act -> World -> Prop} {Q : Exit -> Act -> World -> Prop} {E : Prop} (hgd : o.guard = none) (s x : Operand) (t : TypeId)
  (ho : o.op = .call { callee := .builtin .append, args := #[s, x], argTypes := #[t, t] })
  {base e size bytes : Nat} (T : SliceT P t e size bytes) {v : Value} {n : Nat} {xs : List Value} (hown : w.ownsRow base e size v n xs)
  {S : Nat -> Prop} {src : Value} {m : Nat} {news : List Value} (hsrc : Row S w src m news) (hs : a.eval s = v) (hx : a.eval x = src) (hl : news.length = m * size) (h1 : OneCells news) (hm : 0 < m)
  (h63 : n + m <= maxLen) (hbytes : (n + m) * bytes <= 140737488355328) (hbase : base <= w.heap.size)
  (h : ∀ v' w', w'.ownsRow base e size v' (n + m) (xs ++ news) -> w.grownBy w' v.ownBlock -> K (a.put o.dst v') w') :
  if Region.wanted o (yielded ops a.tmps) = true then Oper.wp P o a w K Q else E := by
 obtain ⟨hu, ⟨i, z, hi, hz, h2, h3, h4⟩, hp⟩ := T
 obtain ⟨b, of, c, rfl, -, g1, g2, g5⟩ := hsrc.addr hm
 exact step_append_lies w hgd s x t ho base e i z size bytes hu hi hz h2 h3 h4 hp v n xs hs hown ⟨b, of, none⟩ m c news hx hl
  (fun j u hj => by
   have := g5 j u hj
   rw [show (⟨b, of, none⟩ : Addr).add j = ⟨b, of + j, none⟩ from by unfold Addr.add; split <;> simp_all]; exact this) h1 hm h63 hbytes hbase _ rfl (fun g cap w' h1 h2 _ _ => h _ w' h1 h2)
end
theorem cellsT_one (t : Tr) : OneCells (cellsT t) := by intro u hu; simp [cellsT] at hu; rcases hu with rfl | rfl | rfl <;> rfl
theorem Tryz.whoT : SliceT Tryz.prog 212 233 3 24 := sliceT_of Tryz.underlying212 (by kernel_rfl) (by decide)
def TripsPost (w : World) (l : List UInt8) (k p : Nat) (e : Ending) (w' : World) : Prop := Ext w w' ∧
 (∀ ts q, manyO (tripO l) k p = some (ts, q) -> q <= l.length /\ ∃ v, e = .returned (.tuple #[v, .int .i64 (q : Int), .int .i64 0]) /\ Row (From w.heap.size) w' v ts.length (flatT ts)) ∧
 (manyO (tripO l) k p = none -> ∃ (E : Int) (a : Nat), E ≠ 0 /\ e = .returned (.tuple #[.slice none 0 0, .int .i64 (a : Int), .int .i64 E]))
theorem lives_any {S : Nat -> Prop} (w : World) (v : Value) (l : List UInt8) (h : Bytes S w v l) (p k : Nat) (hp : p <= l.length) (hl : l.length <= 1000000) (hk : k < 18446744073709551616) :
  Calls Tryz.prog 130 #[v, .int .i64 p, .int .u64 k] w (TripsPost w l k p) := by
 have H := zq h
 obtain ⟨a, c, rfl, hn, hm, -⟩ := h
 go_enter Tryz.func130, Tryz.ntmps130
 go_wp2
 go_loopw [1, 2, 6] (fun x n r wr => ∃ (a m : Nat) (dn : List Tr), x = .int .i64 (a : Int) /\ n = .int .u64 (m : Int) /\ a <= l.length /\ m < 18446744073709551616 /\ dn.length <= a /\ Hid (manyO (tripO l) k p = joinO dn (manyO (tripO l) m a)) /\ wr.ownsRow w.heap.size 233 3 r dn.length (flatT dn) /\ Ext w wr) (fun _ n _ _ => (intOf n).toNat)
 case atStart => exact ⟨p, k, [], rfl, rfl, hp, hk, by simp, zq (joinO_nil _).symm, World.ownsRow_nil _ _ _ _, uZ⟩
 case round =>
  obtain ⟨a, m, dn, rfl, rfl, ha, hm64, hdn, HJ, hown, hx⟩ := hrel
  obtain ⟨a6, c6, rfl⟩ := ownsFormN hown
  have HOWN := zq hown
  have HX := zq hx
  have hxs := hx.size
  clear hown hx
  by_cases hm0 : m = 0
  ·have hg : ¬ (0 : Int) < (m : Int) := by omega
   have hE : manyO (tripO l) k p = some (dn, a) := by rw [HJ.out, hm0, joinO_done]
   have HE := zq hE
   clear hm0 hE
   go_wp2
   go_ret3
   refine ⟨HX.out, fun ts q e => ?_, fun e => (by rw [HE.out] at e; cases e)⟩
   rw [HE.out] at e
   simp only [Option.some.injEq, Prod.mk.injEq] at e
   obtain ⟨rfl, rfl⟩ := e
   exact ⟨ha, _, rfl, Row.of_owns HOWN.out⟩
  obtain ⟨m', hm'⟩ : ∃ m', m = m' + 1 := ⟨m - 1, by omega⟩
  subst hm'
  have hg : (0 : Int) < ((m' + 1 : Nat) : Int) := by omega
  go_wp2_with (go_at_call 129; fail)
  refine (vTrip_any _ _ l (H.out.ext HX.out) a ha (by omega)).mono ?_
  rintro e w2 ⟨hx2, hs, hnn⟩
  have HX2 := zq (HX.out.trans hx2)
  have HOWN2 := zq (hx2.ownsRow HOWN.out (fun _ _ e => e))
  have hxs2 := hx2.size
  clear hx2
  cases ht : tripO l a with
  | none =>
   obtain ⟨E, hE, rfl⟩ := hnn ht
   have hb : (E != 0) = true := by simpa using hE
   have HB := zq (show manyO (tripO l) k p = none by rw [HJ.out, joinO_bad ht])
   have HE := zq hE
   clear hs hnn hE ht
   go_wp2
   go_ret3
   exact ⟨HX2.out, fun ts q e => (by rw [HB.out] at e; cases e), fun _ => ⟨E, a, HE.out, rfl⟩⟩
  | some r =>
   obtain ⟨⟨x, y, z⟩, q⟩ := r
   obtain ⟨hq, haq, hx64, hy64, hz64, b, cc, rfl, hcc, d0, d1, d2⟩ := hs x y z q ht
   have HJ2 := zq (show manyO (tripO l) k p = joinO (dn ++ [(x, y, z)]) (manyO (tripO l) m' q) by rw [HJ.out, joinO_step ht])
   have hlit := (HOWN2.out.alloc (.cells #[.int .u64 (x : Int), .int .u64 (y : Int), .int .u64 (z : Int)] 233)).drew
   have hsrc := (row_new w2 #[.int .u64 (x : Int), .int .u64 (y : Int), .int .u64 (z : Int)] 233 1 w2.heap.size (by decide) rfl).upd (Upd.refl Nothing _).drew (fun _ _ e => e)
   have hbase : w.heap.size <= (w2.alloc (.cells #[.int .u64 (x : Int), .int .u64 (y : Int), .int .u64 (z : Int)] 233)).drew.heap.size := Nat.le_trans (by omega) (le_drew_alloc _ _)
   have hone : OneCells (#[.int .u64 (x : Int), .int .u64 (y : Int), .int .u64 (z : Int)] : Array Value).toList := cellsT_one (x, y, z)
   have q4 : dn.length + 1 <= maxLen := by unfold maxLen; omega
   have q5 : (dn.length + 1) * 24 <= 140737488355328 := by omega
   have hdn2 : dn.length + 1 <= q := by omega
   clear hs hnn ht
   go_wp2_with fail
   go_region_law (refine step_append_row (by rfl) (.tmp 27) (.tmp 38) 212 (by rfl) Tryz.whoT hlit hsrc (by rfl) (by rfl) (by rfl) hone (by decide) q4 q5 hbase ?_; intro v6 w6 hown6 hg6)
   all_goals
    have hx6 := ((HX2.out.alloc (.cells #[.int .u64 (x : Int), .int .u64 (y : Int), .int .u64 (z : Int)] 233)).drew).grown hg6 (fun j hj h => by have := (HOWN.out.lt j hj).1; omega)
    have HX6 := zq hx6
    have HO6 := zq hown6
    clear hx6 hown6 hg6
    go_wp2
    go_roundw
    case rel =>
     refine ⟨q, m', dn ++ [(x, y, z)], rfl, by go_num, hq, by omega, by simp; omega, HJ2, ?_, HX6.out⟩
     rw [flatT_snoc, List.length_append]
     exact HO6.out
    case measure => simp [intOf]
end Go.Proofs.YtnkmpoplibnflaaGreatDoor.Wk
set_option maxRecDepth 100000
set_option maxHeartbeats 16000000
namespace Go.Proofs.YtnkmpoplibnflaaGreatDoor.Wk
open Go Go.Proofs.YtnkmpoplibnflaaGreatDoor Go.RowKit
theorem numO_le {l : List UInt8} {p n q : Nat} (hp : p <= l.length) (h : numO l p = some (n, q)) : p < q /\ q <= l.length /\ n < 18446744073709551616 := ⟨((num_reads l).ok hp h).2.1, ((num_reads l).ok hp h).2.2, num_lt h⟩
theorem textO_le {l : List UInt8} {p : Nat} {s : List UInt8} {q : Nat} (hp : p <= l.length) (h : textO l p = some (s, q)) : p < q /\ q <= l.length /\ s.length <= l.length := ⟨((text_reads l).ok hp h).2.1, ((text_reads l).ok hp h).2.2, text_len hp h⟩
theorem NumPost.form {w w' : World} {l : List UInt8} {p : Nat} {e : Ending} (h : NumPost w l p e w') :
  ∃ (M a : Nat) (E : Int), e = .returned (.tuple #[.int .u64 (M : Int), .int .i64 (a : Int), .int .i64 E]) /\ (E = 0 -> numO l p = some (M, a)) /\ (E ≠ 0 -> numO l p = none) /\ Ext w w' := by
 obtain ⟨hx, h1, h2⟩ := h
 cases ho : numO l p with
 | none =>
  obtain ⟨E, a, b, hE, he⟩ := h2 ho
  exact ⟨a, b, E, he, fun h => absurd h hE, fun _ => rfl, hx⟩
 | some r =>
  obtain ⟨n, q⟩ := r
  exact ⟨n, q, 0, h1 n q ho, fun _ => rfl, fun h => absurd rfl h, hx⟩
theorem TextPost.form {w w' : World} {l : List UInt8} {p : Nat} {e : Ending} (h : TextPost w l p e w') :
  ∃ (s : List UInt8) (a : Nat) (E : Int), e = .returned (.tuple #[str s, .int .i64 (a : Int), .int .i64 E]) /\ (E = 0 -> textO l p = some (s, a)) /\ (E ≠ 0 -> textO l p = none) /\ Ext w w' := by
 obtain ⟨hx, h1, h2⟩ := h
 cases ho : textO l p with
 | none =>
  obtain ⟨E, a, b, hE, he⟩ := h2 ho
  exact ⟨a, b, E, he, fun h => absurd h hE, fun _ => rfl, hx⟩
 | some r =>
  obtain ⟨n, q⟩ := r
  exact ⟨n, q, 0, h1 n q ho, fun _ => rfl, fun h => absurd rfl h, hx⟩
theorem entO_of {l : List UInt8} {p q r n : Nat} {s : List UInt8} (h1 : textO l p = some (s, q)) (h2 : numO l q = some (n, r)) : entO l p = some ((s, n), r) := by simp [entO, h1, h2]
theorem entO_no1 {l : List UInt8} {p : Nat} (h1 : textO l p = none) : entO l p = none := by simp [entO, h1]
theorem entO_no2 {l : List UInt8} {p q : Nat} {s : List UInt8} (h1 : textO l p = some (s, q)) (h2 : numO l q = none) : entO l p = none := by simp [entO, h1, h2]
theorem verO_of {l : List UInt8} {p q r n : Nat} {s : List UInt8} (h1 : numO l p = some (n, q)) (h2 : textO l q = some (s, r)) : verO l p = some ((n, s), r) := by simp [verO, h1, h2]
theorem verO_no1 {l : List UInt8} {p : Nat} (h1 : numO l p = none) : verO l p = none := by simp [verO, h1]
theorem verO_no2 {l : List UInt8} {p q n : Nat} (h1 : numO l p = some (n, q)) (h2 : textO l q = none) : verO l p = none := by simp [verO, h1, h2]
theorem catO_no {l : List UInt8} (h : numO l 0 = none) : catO l = none := by simp [catO, h]
theorem catO_bad {l : List UInt8} {M p : Nat} (h : numO l 0 = some (M, p)) (hm : manyO (entO l) M p = none) : catO l = none := by simp [catO, h, hm]
theorem catO_is {l : List UInt8} {M p q : Nat} {es : List Ent} (h : numO l 0 = some (M, p)) (hm : manyO (entO l) M p = some (es, q)) : catO l = if q = l.length /\ catRight es = true then some es else none := by simp [catO, h, hm]
theorem versO_no {l : List UInt8} (h : numO l 0 = none) : versO l = none := by simp [versO, h]
theorem versO_bad {l : List UInt8} {M p : Nat} (h : numO l 0 = some (M, p)) (hm : manyO (verO l) M p = none) : versO l = none := by simp [versO, h, hm]
theorem versO_is {l : List UInt8} {M p q : Nat} {es : List Ver} (h : numO l 0 = some (M, p)) (hm : manyO (verO l) M p = some (es, q)) : versO l = if q = l.length /\ verRight es = true then some es else none := by simp [versO, h, hm]
theorem joinO_bad' {α : Type} {f : Nat -> Option (α × Nat)} {k p : Nat} {dn : List α} {r : Option (List α × Nat)} (hj : r = joinO dn (manyO f k p)) (hk : 0 < k) (h : f p = none) : r = none := by
 obtain ⟨k', rfl⟩ : ∃ k', k = k' + 1 := ⟨k - 1, by omega⟩
 rw [hj, joinO_bad h]
theorem joinO_step' {α : Type} {f : Nat -> Option (α × Nat)} {M k p q : Nat} {x : α} {dn : List α} {r : Option (List α × Nat)} (hj : r = joinO dn (manyO f (M - k) p)) (hk : k < M) (h : f p = some (x, q)) : r = joinO (dn ++ [x]) (manyO f (M - (k + 1)) q) := by
 rw [hj, show M - k = (M - (k + 1)) + 1 by omega, joinO_step h]
theorem joinO_end {α : Type} {f : Nat -> Option (α × Nat)} {M k p : Nat} {dn : List α} {r : Option (List α × Nat)} (hj : r = joinO dn (manyO f (M - k) p)) (hk : ¬ k < M) : r = some (dn, p) := by
 rw [hj, show M - k = 0 by omega, joinO_done]
end Go.Proofs.YtnkmpoplibnflaaGreatDoor.Wk
