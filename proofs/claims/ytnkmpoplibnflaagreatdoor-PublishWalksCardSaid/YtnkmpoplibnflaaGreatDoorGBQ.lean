/-
  CONTRACTS of the law's FewResults, SpoilResult. No condition but sizes.
  WHAT THE LAW OF PUBLICATIONS CARRIES THROUGH ITS ROUNDS. Conditions: sizes.
-/
import Derived.Test.YtnkmpoplibnflaaGreatDoorWRWk
import Derived.Test.YtnkmpoplibnflaaGreatDoorGBO
set_option maxRecDepth 100000
set_option maxHeartbeats 16000000
namespace Go.Proofs.YtnkmpoplibnflaaGreatDoor.Wk
open Go Go.Proofs.YtnkmpoplibnflaaGreatDoor Go.RowKit
theorem owns_cell {w : World} {base e g c n i : Nat} {xs : List Value} (h : w.ownsRow base e 1 (.slice (some ⟨g, 0, none⟩) n c) n xs) (hi : i < n) : (∃ u, w.cell? ⟨g, i, none⟩ = some u) /\ w.frozen? ⟨g, i, none⟩ = false /\ g < w.heap.size := by
 rcases h.2 with ⟨hc, -⟩ | ⟨g', cap, cur, hv, hb, hg, h3, h4, h5, h6⟩
 ·cases hc
 ·cases hv
  exact ⟨⟨cur[i]'(by omega), cZ hg i _ (by simp)⟩, freeAt hg i, lZ hg⟩
theorem owns_set {w : World} {base e g c n i : Nat} {xs : List Value} (h : w.ownsRow base e 1 (.slice (some ⟨g, 0, none⟩) n c) n xs) (u : Value) : ∃ xs', (w.setCell ⟨g, i, none⟩ u).ownsRow base e 1 (.slice (some ⟨g, 0, none⟩) n c) n xs' := by
 rcases h.2 with ⟨hc, -⟩ | ⟨g', cap, cur, hv, hb, hg, h3, h4, h5, h6⟩
 ·cases hc
 ·cases hv
  refine ⟨(cur.setIfInBounds i u).toList.take (n * 1), ⟨?_, .inr ⟨g, c, _, rfl, hb, setAt hg, h3, h4, by simpa using h5, rfl⟩⟩⟩
  simp; omega
theorem owns_form {w : World} {base e n : Nat} {v : Value} {xs : List Value} (h : w.ownsRow base e 1 v n xs) (h0 : 0 < n) : ∃ g c, v = .slice (some ⟨g, 0, none⟩) n c := by
 rcases h.2 with ⟨rfl, hx⟩ | ⟨g', cap, cur, rfl, -⟩
 ·have := h.1; rw [hx] at this; simp at this; omega
 ·exact ⟨_, _, rfl⟩
theorem spoil_any (w : World) (e : Int) (nv bv : Value) (nl bl base : Nat) (xs ys : List Value) (h1 : w.ownsRow base 9 1 nv nl xs) (h2 : w.ownsRow base 5 1 bv bl ys) (hl1 : nl <= 1000) (hl2 : bl <= 1000) (hnf : ∃ a c, nv = .slice a nl c) (hbf : ∃ a c, bv = .slice a bl c) :
  Calls Tryz.prog 16 #[.agg #[.int .i64 e, nv, bv]] w fun r w' => r = .returned (.tuple #[]) /\ Upd (fun k => nv.ownBlock = some k \/ bv.ownBlock = some k) w w' := by
 obtain ⟨na, nc, rfl⟩ := hnf
 obtain ⟨ba, bc, rfl⟩ := hbf
 obtain ⟨w1, hw1⟩ : ∃ u, u = w.alloc (.cells #[.int .i64 e, .slice na nl nc, .slice ba bl bc] 47) := ⟨_, rfl⟩
 have hx1 : Ext w w1 := by rw [hw1]; exact uZ.alloc _
 have ha : w1.heap[w.heap.size]? = some (.cells #[.int .i64 e, .slice na nl nc, .slice ba bl bc] 47 (0, 0)) := by rw [hw1]; exact newAt _ _
 obtain ⟨SS, hSS⟩ : ∃ q : Nat -> Prop, q = fun k => (Value.slice na nl nc).ownBlock = some k \/ (Value.slice ba bl bc).ownBlock = some k := ⟨_, rfl⟩
 have HSS := zq hSS
 have HNB := zq (show ¬ SS w.heap.size by rw [hSS]; rintro (h | h); exact absurd (h1.lt _ h).2 (Nat.lt_irrefl _); exact absurd (h2.lt _ h).2 (Nat.lt_irrefl _))
 have HX1 := zq (show Upd SS w w1 from hx1.mono (fun _ _ e => e.elim))
 have HW1 := zq hw1
 have HA := zq ha
 have H1 := zq (hx1.ownsRow h1 (fun _ _ e => e))
 have H2 := zq (hx1.ownsRow h2 (fun _ _ e => e))
 have HD := zq (show ∀ (w' : World) (xs' ys' : List Value), w'.ownsRow base 9 1 (.slice na nl nc) nl xs' -> w'.ownsRow base 5 1 (.slice ba bl bc) bl ys' -> ∀ k, (Value.slice na nl nc).ownBlock = some k -> (Value.slice ba bl bc).ownBlock = some k -> False from fun _ _ _ g1 g2 k e1 e2 => by
  obtain ⟨c1, q1⟩ := owns_tag g1 e1
  obtain ⟨c2, q2⟩ := owns_tag g2 e2
  rw [q1] at q2
  simp at q2)
 rw [<- hSS]
 clear hx1 hw1 ha h1 h2 hSS
 go_enter Tryz.func16, Tryz.ntmps16
 go_upto_region 1 with fail
 rw [show w.alloc (.cells #[.int .i64 e, .slice na nl nc, .slice ba bl bc] 47) = w1 from HW1.out.symm]
 clear HW1
 go_wp2
 go_loopw [2] (fun t wr => ∃ n : Nat, n <= nl /\ t = .int .i64 n /\ Hid (Upd SS w wr /\ wr.heap[w.heap.size]? = some (.cells #[.int .i64 e, .slice na nl nc, .slice ba bl bc] 47 (0, 0)) /\ (∃ xs', wr.ownsRow base 9 1 (.slice na nl nc) nl xs') /\ ∃ ys', wr.ownsRow base 5 1 (.slice ba bl bc) bl ys')) (fun t _ => nl - (intOf t).toNat)
 case atStart => exact ⟨0, Nat.zero_le _, rfl, zq ⟨HX1.out, HA.out, ⟨_, H1.out⟩, ⟨_, H2.out⟩⟩⟩
 case round =>
  obtain ⟨n, hn, rfl, HR⟩ := hrel
  have q1 := cZ HR.out.2.1 1 (.slice na nl nc) rfl
  have ql := lZ HR.out.2.1
  by_cases hlt : n < nl
  ·obtain ⟨hu, ha, ⟨xs', h1⟩, ⟨ys', h2⟩⟩ := HR.out
   obtain ⟨g, c, he⟩ := owns_form h1 (by omega)
   cases he
   obtain ⟨⟨u, hc⟩, hf, hg⟩ := owns_cell h1 hlt
   have HH1 := zq h1
   have HH2 := zq h2
   clear h1 h2
   go_wp2
   go_roundw
   case rel =>
    have hug : Upd (At g) wr (wr.setCell ⟨g, n, none⟩ (.string ⟨#[63]⟩)) := Upd.own _ _ _ _
    have hgS : SS g := by rw [HSS.out]; exact .inl rfl
    obtain ⟨xs2, hx2⟩ := owns_set (i := n) HH1.out (.string ⟨#[63]⟩)
    exact ⟨n + 1, by omega, by go_num, zq ⟨hu.trans (hug.mono (fun k _ e => by have e : k = g := e; rw [e]; exact hgS)), hug.at_ ha (fun e => HNB.out (by have e : w.heap.size = g := e; rw [e]; exact hgS)), ⟨xs2, hx2⟩, ⟨ys', hug.ownsRow HH2.out (fun k hk e => by have e : k = g := e; subst e; exact HD.out _ _ _ HH1.out HH2.out k rfl hk)⟩⟩⟩
   case measure => simp [intOf]; omega
  ·go_wp2
   clear q1 ql
   go_loopw [3] (fun t wr => ∃ n : Nat, n <= bl /\ t = .int .i64 n /\ Hid (Upd SS w wr /\ wr.heap[w.heap.size]? = some (.cells #[.int .i64 e, .slice na nl nc, .slice ba bl bc] 47 (0, 0)) /\ (∃ xs', wr.ownsRow base 9 1 (.slice na nl nc) nl xs') /\ ∃ ys', wr.ownsRow base 5 1 (.slice ba bl bc) bl ys')) (fun t _ => bl - (intOf t).toNat)
   case atStart => exact ⟨0, Nat.zero_le _, rfl, HR⟩
   case round =>
    clear HR
    obtain ⟨n, hn, rfl, HR⟩ := hrel
    have q1 := cZ HR.out.2.1 2 (.slice ba bl bc) rfl
    have ql := lZ HR.out.2.1
    by_cases hlt : n < bl
    ·obtain ⟨hu, ha, ⟨xs', h1⟩, ⟨ys', h2⟩⟩ := HR.out
     obtain ⟨g, c, he⟩ := owns_form h2 (by omega)
     cases he
     obtain ⟨⟨u, hc⟩, hf, hg⟩ := owns_cell h2 hlt
     have HH1 := zq h1
     have HH2 := zq h2
     clear h1 h2
     go_wp2
     go_roundw
     case rel =>
      have hug : Upd (At g) wr (wr.setCell ⟨g, n, none⟩ (.int .u8 99)) := Upd.own _ _ _ _
      have hgS : SS g := by rw [HSS.out]; exact .inr rfl
      obtain ⟨ys2, hy2⟩ := owns_set (i := n) HH2.out (.int .u8 99)
      exact ⟨n + 1, by omega, by go_num, zq ⟨hu.trans (hug.mono (fun k _ e => by have e : k = g := e; rw [e]; exact hgS)), hug.at_ ha (fun e => HNB.out (by have e : w.heap.size = g := e; rw [e]; exact hgS)), ⟨xs', hug.ownsRow HH1.out (fun k hk e => by have e : k = g := e; subst e; exact HD.out _ _ _ HH1.out HH2.out k hk rfl)⟩, ⟨ys2, hy2⟩⟩⟩
     case measure => simp [intOf]; omega
    ·go_wp2
     go_end0
     exact ⟨rfl, HR.out.1⟩
def FewPost (w : World) (L : List Res) (e : Ending) (w' : World) : Prop := ∃ b, e = .returned (.bool b) /\ (b = true -> L.length <= 40 /\ ∀ r ∈ L, r.Ok) /\ Ext w w'
theorem few_any {S : Nat -> Prop} (w : World) (v : Value) (L : List Res) (h : ResIs S w v L) :
  Calls Tryz.prog 4 #[v] w (FewPost w L) := by
 obtain ⟨xs, rfl, hrow, hrows⟩ := h
 have HROW := zq hrow
 have HROWS := zq hrows
 obtain ⟨sa, sc, rfl, hsl, hsm, -⟩ := hrow
 unfold maxLen at hsm
 clear hrows
 go_enter Tryz.func4, Tryz.ntmps4
 go_wp2
 go_loopw [3] (fun t wr => ∃ n : Nat, n <= xs.length /\ t = .int .i64 n /\ Hid (∀ j (hj : j < xs.length), j < n -> xs[j].1.Ok) /\ wr = w) (fun t _ => xs.length - (intOf t).toNat)
 case atStart => exact ⟨0, Nat.zero_le _, rfl, zq (fun j _ h => absurd h (Nat.not_lt_zero _)), rfl⟩
 case round =>
  obtain ⟨n, hn, rfl, HOK, rfl⟩ := hrel
  by_cases hlt : n < xs.length
  ·obtain ⟨bb, oo, cq, e1, -, -, -, hq1⟩ := HROW.out.addr (by omega)
   cases e1
   obtain ⟨hnm, hby⟩ := HROWS.out xs[n] (List.getElem_mem hlt)
   have hd1 := hq1 _ _ (flatR_at hlt (j := 1) (by decide))
   have hd2 := hq1 _ _ (flatR_at hlt (j := 2) (by decide))
   have hsame : ∀ j (hj : j < xs.length), j < n + 1 -> (xs[n].1.Ok) -> xs[j].1.Ok := fun j hj hjn h => by
    rcases Nat.lt_or_ge j n with g | g
    ·exact HOK.out j hj g
    ·have e : j = n := by omega
     subst e; exact h
   obtain ⟨⟨r, nv, bv⟩, hxm⟩ : ∃ y, y = xs[n] := ⟨_, rfl⟩
   rw [<- hxm] at hnm hby hd1 hd2 hsame
   simp only at hnm hby hsame
   have HSAME := zq hsame
   have HNM := zq hnm
   obtain ⟨na, nc, rfl, hnc, hnm2, -⟩ := hnm
   obtain ⟨ba, bc, rfl, hbc, hbm2, -⟩ := hby
   unfold maxLen at hnm2 hbm2
   obtain ⟨nl, hnl⟩ : ∃ k : Nat, k = r.names.length := ⟨_, rfl⟩
   obtain ⟨bl, hbl⟩ : ∃ k : Nat, k = r.bytes.length := ⟨_, rfl⟩
   have d1 : wr.cell? ⟨bb, oo + n * 3 + 1, none⟩ = some (.slice na nl nc) := by rw [hnl]; exact hd1
   have d2 : wr.cell? ⟨bb, oo + n * 3 + 2, none⟩ = some (.slice ba bl bc) := by rw [hbl]; exact hd2
   have HNL := zq hnl
   have HBL := zq hbl
   rw [<- hnl] at hnc
   rw [<- hbl] at hbc
   clear hd1 hd2 hq1 hxm hsame hnl hbl
   by_cases h30 : 30 < nl
   ·have hi1 : (30 : Int) < (nl : Int) := by omega
    clear h30
    go_wp2
    go_ret
    exact ⟨false, rfl, fun h => (by cases h), uZ⟩
   ·have hi1 : ¬ (30 : Int) < (nl : Int) := by omega
    by_cases h700 : 700 < bl
    ·have hi2 : (700 : Int) < (bl : Int) := by omega
     clear h30 h700
     go_wp2
     go_ret
     exact ⟨false, rfl, fun h => (by cases h), uZ⟩
    ·have hi2 : ¬ (700 : Int) < (bl : Int) := by omega
     have H37 := zq (And.intro h30 h700)
     clear h30 h700
     go_upto_region 6 with fail
     clear hi1 hi2
     go_wp2
     obtain ⟨w0, hw0⟩ : ∃ x, x = wr := ⟨_, rfl⟩
     subst hw0
     go_loopw [4] (fun t wq => ∃ k : Nat, k <= nl /\ t = .int .i64 k /\ Hid (∀ j (hj : j < r.names.length), j < k -> r.names[j].length <= 60) /\ wq = w0) (fun t _ => nl - (intOf t).toNat)
     case atStart => exact ⟨0, Nat.zero_le _, rfl, zq (fun j _ h => absurd h (Nat.not_lt_zero _)), rfl⟩
     case round =>
      obtain ⟨k, hk, rfl, HK, rfl⟩ := hrel
      by_cases hkl : k < nl
      ·have hkl2 : k < r.names.length := by rw [<- HNL.out]; exact hkl
       obtain ⟨b2, o2, c2, e2, -, -, -, hq2⟩ := HNM.out.addr (by omega)
       cases e2
       have hs := texts_cell hq2 k hkl2
       obtain ⟨s, hss⟩ : ∃ s, s = r.names[k] := ⟨_, rfl⟩
       rw [<- hss] at hs
       have HS := zq hss
       clear hss hq2
       by_cases h60 : 60 < s.length
       ·have hi3 : (60 : Int) < (s.length : Int) := by omega
        clear h60
        go_wp2
        go_ret
        exact ⟨false, rfl, fun h => (by cases h), uZ⟩
       ·have hi3 : ¬ (60 : Int) < (s.length : Int) := by omega
        have H60 := zq h60
        clear h60
        go_wp2
        go_roundw
        case rel =>
         refine ⟨k + 1, by omega, by go_num, zq (fun j hj hjk => ?_), by first | rfl | trivial⟩
         rcases Nat.lt_or_ge j k with g | g
         ·exact HK.out j hj g
         ·have e : j = k := by omega
          subst e; rw [<- HS.out]; exact Nat.le_of_not_lt H60.out
        case measure => simp [intOf]; omega
      ·go_wp2
       go_roundw
       case rel =>
        refine ⟨n + 1, by omega, by go_num, zq (fun j hj hjn => HSAME.out j hj hjn ⟨?_, fun s hs => ?_, ?_⟩), by first | rfl | trivial⟩
        ·rw [<- HNL.out]; exact Nat.le_of_not_lt H37.out.1
        ·obtain ⟨q, hq, rfl⟩ := List.getElem_of_mem hs
         exact HK.out q hq (by have := HNL.out; omega)
        ·rw [<- HBL.out]; exact Nat.le_of_not_lt H37.out.2
       case measure => simp [intOf]; omega
  ·by_cases h40 : xs.length <= 40
   ·have hi : (xs.length : Int) <= 40 := by omega
    have H40 := zq h40
    clear h40
    go_wp2
    go_ret
    refine ⟨true, rfl, fun _ => ⟨by rw [List.length_map]; exact H40.out, fun r hr => ?_⟩, uZ⟩
    obtain ⟨x, hx, rfl⟩ := List.mem_map.1 hr
    obtain ⟨j, hj, rfl⟩ := List.getElem_of_mem hx
    exact HOK.out j hj (by omega)
   ·have hi : ¬ (xs.length : Int) <= 40 := by omega
    clear h40
    go_wp2
    go_ret
    exact ⟨false, rfl, fun h => (by cases h), uZ⟩
end Go.Proofs.YtnkmpoplibnflaaGreatDoor.Wk
set_option maxRecDepth 100000
set_option maxHeartbeats 16000000
namespace Go.Proofs.YtnkmpoplibnflaaGreatDoor.Wk
open Go Go.Proofs.YtnkmpoplibnflaaGreatDoor Go.RowKit
theorem mnext_all {w : World} {B : Nat} {c : Cfg} {x : Spot} {ln : Bool} (h : IsMac w B c x ln) (hc : c.Ok) :
  Calls Tryz.prog 9 #[.pointer (some ⟨B, 0, none⟩)] w fun e w' => ∃ v', e = .returned (.tuple #[.agg #[.int .u8 (kP x : Int), str (nmP c x), str (ttP c x), v'], .bool (!decide (x.step = 10))]) /\ w'.ownsRow w.heap.size 5 1 v' (byP c x).length ((byP c x).map u8) /\ Ext w w' := by
 obtain ⟨bv, k, nm, tt, cb, fn, hm, hb, hln, hsix, hall⟩ := h
 by_cases h10 : x.step = 10
 ·rw [decide_eq_true h10] at hm ⊢
  refine (mnext_done hm).mono ?_
  rintro e w' ⟨rfl, hx⟩
  obtain ⟨st, xe, f⟩ := x
  simp only at h10; subst h10
  exact ⟨.slice none 0 0, rfl, World.ownsRow_nil _ _ _ _, hx⟩
 ·obtain ⟨hn, rfl, rfl, rfl, hcb, hfn⟩ := hall h10
  rw [decide_eq_false h10] at hm ⊢
  have hby : (byP c x).length <= 300 := by
   unfold byP; split
   ·exact hc.bytes
   ·simp
  exact (mnext_go hm hcb hby).mono fun e w' ⟨v', h1, h2, h3⟩ => ⟨v', h1, h2, h3⟩
theorem mfeed_all {S : Nat -> Prop} (w : World) (B : Nat) (c : Cfg) (hok : c.Ok) (x : Spot) (hx : x.Ok c) (ln : Bool) (h : IsMac w B c x ln) (r : Res) (hr : r.Ok) (na ba : Option Addr) (nc bc : Nat)
  (h1 : Texts S w (.slice na r.names.length nc) r.names) (h2 : Bytes S w (.slice ba r.bytes.length bc) r.bytes) (hE : Env w) :
  Calls Tryz.prog 15 #[.pointer (some ⟨B, 0, none⟩), .agg #[.int .i64 r.err, .slice na r.names.length nc, .slice ba r.bytes.length bc]] w fun e w' => e = .returned (.tuple #[]) /\ Upd (At B) w w' /\ IsMac w' B c (goP c (x, ln) r).1 (goP c (x, ln) r).2 := by
 by_cases h10 : x.step < 10
 ·rw [show goP c (x, ln) r = (thenP c x r, ln || (decide (x.step = 4) && decide (r.err = 0))) from if_pos h10]
  exact mstep_any w B c hok x h10 ln h r hr na ba nc bc h1 h2 hE
 ·rw [show goP c (x, ln) r = (x, ln) from if_neg h10]
  have h' := h
  obtain ⟨bv, k, nm, tt, cb, fn, hm, -⟩ := h
  have hs : x.step = 10 := by have := hx.hi; omega
  rw [decide_eq_true hs] at hm
  refine (mfeed_done hm r.err na ba r.names.length nc r.bytes.length bc).mono ?_
  rintro e w' ⟨rfl, hu⟩
  exact ⟨rfl, hu.mono (fun _ _ e => e.elim), h'.ext hu⟩
theorem IsMac.upd2 {S : Nat -> Prop} {w w' : World} {B : Nat} {c : Cfg} {x : Spot} {ln : Bool} (h : IsMac w B c x ln) (hu : Upd S w w')
  (hS : ∀ k, S k -> B < k /\ ∃ cur e, w.heap[k]? = some (.cells cur e (0, 0)) /\ e ≠ 31 /\ e ≠ 22 /\ e ≠ 36) : IsMac w' B c x ln := by
 have hB : ¬ S B := fun h => Nat.lt_irrefl _ (hS B h).1
 have hat : ∀ {k : Nat} {cs : Array Value} {e : TypeId}, w.heap[k]? = some (.cells cs e (0, 0)) -> (e = 31 \/ e = 22 \/ e = 36) -> w'.heap[k]? = some (.cells cs e (0, 0)) := fun {k cs e} hk he => hu.at_ hk (fun hs => by
  obtain ⟨-, cur, e', h1, h2, h3, h4⟩ := hS k hs
  rw [hk] at h1
  simp only [Option.some.injEq, Obj.cells.injEq] at h1
  obtain ⟨-, rfl, -⟩ := h1
  rcases he with h | h | h
  ·exact h2 h
  ·exact h3 h
  ·exact h4 h)
 obtain ⟨bv, k, nm, tt, cb, fn, hm, hb, hln, hsix, hall⟩ := h
 refine ⟨bv, k, nm, tt, cb, fn, hu.at_ hm hB, hb.upd hu (fun k hk hs => by have hk : k < B := hk; have := (hS k hs).1; omega), hln, hsix, fun hn => ?_⟩
 obtain ⟨g1, g2, g3, g4, g5, g6⟩ := hall hn
 refine ⟨g1, g2, g3, g4, g5.upd hu (fun k hk hs => by have hk : k < B := hk; have := (hS k hs).1; omega), ?_⟩
 obtain ⟨st, e, f⟩ := x
 unfold FnIs at g6 ⊢
 match st, g6 with
 | 0, h => exact h
 | 1, h => exact h
 | 2, h => exact h
 | 3, h => exact h
 | 4, h => exact h
 | 5, h => exact h
 | 6, ⟨bm, bf, h1, h2, h3, h4⟩ => exact ⟨bm, bf, h1, ⟨h2.1, hat h2.2 (.inl rfl)⟩, h3, hat h4 (.inr (.inl rfl))⟩
 | 7, ⟨bm, h1, h2⟩ => exact ⟨bm, h1, h2.1, hat h2.2 (.inl rfl)⟩
 | 8, ⟨bm, h1, h2⟩ => exact ⟨bm, h1, h2.1, hat h2.2 (.inl rfl)⟩
 | 9, ⟨be, bm, h1, h2, h3, h4, h5⟩ => exact ⟨be, bm, h1, h2, h3, hat h4 (.inr (.inr rfl)), hat h5 (.inl rfl)⟩
 | _ + 10, h => exact h
def FedIs (base : Nat) (w : World) (v : Value) (L : List Res) : Prop := ∃ xs : List ResV, xs.map (·.1) = L /\ w.ownsRow base 50 3 v xs.length (flatR xs) ∧
 ∀ x ∈ xs, w.ownsRow base 9 1 x.2.1 x.1.names.length (strs x.1.names) /\ w.ownsRow base 5 1 x.2.2 x.1.bytes.length (x.1.bytes.map u8)
theorem FedIs.res {base : Nat} {w : World} {v : Value} {L : List Res} (h : FedIs base w v L) : ResIs (fun _ => True) w v L := by
 obtain ⟨xs, h1, h2, h3⟩ := h
 exact ⟨xs, h1, (Row.of_owns h2).mono (fun _ _ => trivial), fun x hx => ⟨(Row.of_owns (h3 x hx).1).mono (fun _ _ => trivial), (Row.of_owns (h3 x hx).2).mono (fun _ _ => trivial)⟩⟩
theorem FedIs.upd {S : Nat -> Prop} {base : Nat} {w w' : World} {v : Value} {L : List Res} (h : FedIs base w v L) (hu : Upd S w w')
  (hS : ∀ k cur e, S k -> w.heap[k]? = some (.cells cur e (0, 0)) -> e ≠ 50 /\ e ≠ 9 /\ e ≠ 5) : FedIs base w' v L := by
 obtain ⟨xs, h1, h2, h3⟩ := h
 exact ⟨xs, h1, hu.ownsT h2 (fun k cur hs hk => (hS k cur _ hs hk).1 rfl), fun x hx => ⟨hu.ownsT (h3 x hx).1 (fun k cur hs hk => (hS k cur _ hs hk).2.1 rfl), hu.ownsT (h3 x hx).2 (fun k cur hs hk => (hS k cur _ hs hk).2.2 rfl)⟩⟩
theorem FedIs.ext {base : Nat} {w w' : World} {v : Value} {L : List Res} (h : FedIs base w v L) (hu : Ext w w') : FedIs base w' v L := h.upd hu (fun _ _ _ e => e.elim)
theorem FedIs.form {base : Nat} {w : World} {v : Value} {L : List Res} (h : FedIs base w v L) : ∃ a c, v = .slice a L.length c := by
 obtain ⟨xs, rfl, h2, -⟩ := h
 obtain ⟨a, m, c, rfl⟩ := ownsForm h2
 rcases h2.2 with ⟨he, hf⟩ | ⟨g, cap, cur, he, -⟩
 ·cases he
  have : xs = [] := by
   cases xs with
   | nil => rfl
   | cons y ys => simp [flatR] at hf
  subst this; exact ⟨_, _, rfl⟩
 ·cases he; rw [List.length_map]; exact ⟨_, _, rfl⟩
theorem fed_nil (base : Nat) (w : World) : FedIs base w (.slice none 0 0) [] := ⟨[], rfl, World.ownsRow_nil _ _ _ _, by simp⟩
theorem Tryz.rresT : SliceT Tryz.prog 33 50 3 56 := sliceT_of Tryz.underlying33 (by kernel_rfl) (by decide)
theorem FedIs.snoc {base : Nat} {w w' : World} {v v' : Value} {L : List Res} {r : Res} {nv bv : Value} (h : FedIs base w v L) (hn : w.ownsRow base 9 1 nv r.names.length (strs r.names)) (hb : w.ownsRow base 5 1 bv r.bytes.length (r.bytes.map u8))
  (hg : w.grownBy w' v.ownBlock) (ho : ∀ xs : List Value, ∀ n, w.ownsRow base 50 3 v n xs -> w'.ownsRow base 50 3 v' (n + 1) (xs ++ [.int .i64 r.err, nv, bv])) : FedIs base w' v' (L ++ [r]) := by
 obtain ⟨xs, rfl, h2, h3⟩ := h
 have hu := grownUpd hg
 have hT : ∀ {e : TypeId}, e ≠ 50 -> ∀ k cur, v.ownBlock = some k -> w.heap[k]? ≠ some (.cells cur e (0, 0)) := fun he k cur hk hc => by
  obtain ⟨cur', hc'⟩ := owns_tag h2 hk
  rw [hc] at hc'
  simp only [Option.some.injEq, Obj.cells.injEq] at hc'
  exact he hc'.2.1
 refine ⟨xs ++ [(r, nv, bv)], by simp, ?_, fun x hx => ?_⟩
 ·have := ho _ _ h2
  rw [List.length_append, show flatR (xs ++ [(r, nv, bv)]) = flatR xs ++ [.int .i64 r.err, nv, bv] by simp [flatR]]
  exact this
 ·rcases List.mem_append.1 hx with hx | hx
  ·exact ⟨hu.ownsT (h3 x hx).1 (hT (by decide)), hu.ownsT (h3 x hx).2 (hT (by decide))⟩
  ·obtain rfl := List.mem_singleton.1 hx
   exact ⟨hu.ownsT hn (hT (by decide)), hu.ownsT hb (hT (by decide))⟩
structure Inv (W wr : World) (base B g5 : Nat) (c : Cfg) (va : Option Addr) (vc : Nat) (L : List Res) (n : Nat) (fed : Value) : Prop where
 mac : IsMac wr B c (runP c (L.take n)).1 (runP c (L.take n)).2
 fed : FedIs base wr fed (L.take n)
 cfg : wr.heap[g5]? = some (.cells (cfgC c (.slice va c.bytes.length vc)) 29 (0, 0))
 row : wr.ownsRow W.heap.size 5 1 (.slice va c.bytes.length vc) c.bytes.length (c.bytes.map u8)
 size : base <= wr.heap.size
end Go.Proofs.YtnkmpoplibnflaaGreatDoor.Wk
