/-
  Contracts: equality of rows, of slices of rows, of carriers, of descriptions of loops. Printed by gen_eqs.py.
-/
import Derived.Test.YtgmppfhokfifgaaGreatGmm
namespace Go.Proofs.YtgmppfhokfifgaaGreat
set_option maxRecDepth 10000
open Go.RowKit

set_option maxHeartbeats 400000 in
/-- l00Same of slices that read as xs and ys. -/
theorem l00Same_any (v1 v2 : Value) (xs ys : List Int) (B1 B2 : Nat) (w : World) (h1 : Sl w B1 v1 xs) (h2 : Sl w B2 v2 ys) :
    Calls Tryz.prog 23 #[v1, v2] w fun e w' => e = .returned (.bool (decide (xs = ys))) ∧ ∃ n, w' = w.drewN n := by
  obtain ⟨A1, c1, rfl, hl1, hm1, _, hc1⟩ := h1
  obtain ⟨A2, c2, rfl, hl2, hm2, _, hc2⟩ := h2
  unfold maxLen at hm1 hm2
  by_cases hlen : xs.length = ys.length
  · have hb : ((xs.length : Int) != (ys.length : Int)) = false := by rw [hlen]; simp
    have HL := Lib.hid hlen
    have HC1 := Lib.hid hc1
    have HC2 := Lib.hid hc2
    clear hlen hc1 hc2
    go_enter Tryz.func23, Tryz.ntmps23
    go_wp2
    go_loopw [5] (fun i wr => ∃ k : Nat, k ≤ xs.length ∧ i = .int .i64 k ∧ (∀ j, j < k → gi xs j = gi ys j) ∧ ∃ n, wr = w.drewN n) (fun i _ => xs.length - (intOf i).toNat)
    case atStart => exact ⟨0, Nat.zero_le _, rfl, fun j h => absurd h (Nat.not_lt_zero _), 0, rfl⟩
    case round =>
      obtain ⟨k, hk, rfl, heq, n, rfl⟩ := hrel
      by_cases hlt : k < xs.length
      · obtain ⟨b1, o1, rfl, hb1, hcell1⟩ := HC1.out (by omega)
        obtain ⟨b2, o2, rfl, hb2, hcell2⟩ := HC2.out (by have := HL.out; omega)
        have hlt2 : k < ys.length := by have := HL.out; omega
        have q1 := hcell1 k hlt
        have q2 := hcell2 k hlt2
        clear hcell1 hcell2
        have HE := Lib.hid heq
        clear heq
        by_cases hx : gi xs k = gi ys k
        · have hxb : (gi xs k != gi ys k) = false := by simp [hx]
          have HX := Lib.hid hx
          clear hx
          go_wp2
          go_quiet (fail)
          go_wp2
          go_roundw
          case rel =>
            refine ⟨k + 1, by omega, by go_num, fun j hj => ?_, _, rfl⟩
            by_cases hjk : j < k
            · exact HE.out j hjk
            · obtain rfl : j = k := by omega
              exact HX.out
          case measure => simp [intOf]; omega
        · have hxb : (gi xs k != gi ys k) = true := by simp [hx]
          have hne : ¬ xs = ys := fun e => hx (by rw [e])
          have hnb : decide (xs = ys) = false := by simp [hne]
          have HNB := Lib.hid hnb
          clear hx hne hnb
          go_wp2
          go_quiet (fail)
          go_wp2
          go_ret
          exact ⟨ret_bool HNB.out.symm, quiet_end _ _ _⟩
      · have HE := Lib.hid heq
        clear heq
        go_wp2
        go_ret
        have hxy : xs = ys := gi_ext HL.out fun j hj => HE.out j (by omega)
        exact ⟨ret_bool (by simp [hxy]), _, rfl⟩
  · have hb : ((xs.length : Int) != (ys.length : Int)) = true := by simp; omega
    have hne : decide (xs = ys) = false := by simp; exact fun e => hlen (by rw [e])
    have HNB := Lib.hid hne
    clear hlen hne hc1 hc2
    go_enter Tryz.func23, Tryz.ntmps23
    go_wp2
    go_ret
    exact ⟨ret_bool HNB.out.symm, 0, rfl⟩

theorem l00Same_is {v1 v2 : Value} {xs ys : List Int} {B1 B2 : Nat} {w : World} {T : Bool} (hT : decide (xs = ys) = T) (h1 : Sl w B1 v1 xs) (h2 : Sl w B2 v2 ys) :
    Calls Tryz.prog 23 #[v1, v2] w fun e w' => e = .returned (.bool T) ∧ ∃ n, w' = w.drewN n := by rw [← hT]; exact l00Same_any _ _ _ _ _ _ _ h1 h2
theorem l00Same_b {v1 v2 : Value} {xs ys : List Int} {B1 B2 : Nat} {w : World} {T : Bool} (hT : decide (xs = ys) = T) (h1 : Sl w B1 v1 xs) (h2 : Sl w B2 v2 ys) :
    Calls Tryz.prog 23 #[v1, v2] w fun e w' => e = .returned (.bool T) ∧ Below w.heap.size w w' :=
  (l00Same_is hT h1 h2).mono fun _ _ ⟨h, n, hw⟩ => ⟨h, by rw [hw]; exact drewN_below w _ n⟩
theorem l00Same_qq {v1 v2 : Value} {xs ys : List Int} {B1 B2 : Nat} {w : World} {T : Bool} (hT : decide (xs = ys) = T) (h1 : Sl w B1 v1 xs) (h2 : Sl w B2 v2 ys) (n x : Nat) :
    Calls Tryz.prog 23 #[v1, v2] (w.drewN (n + x)) fun e w'' => e = .returned (.bool T) ∧ ∃ m, w'' = w.drewN (n + m) :=
  (l00Same_is hT (h1.drewN _) (h2.drewN _)).mono fun e w' ⟨he, m, hw⟩ => ⟨he, x + m, by rw [hw, drewN_two, Nat.add_assoc]⟩
set_option maxHeartbeats 800000 in
theorem l07Same_any {v1 v2 : Value} {xss yss : List (List Int)} {B1 B2 : Nat} {w : World} (h1 : SlS w B1 v1 xss) (h2 : SlS w B2 v2 yss) :
    Calls Tryz.prog 22 #[v1, v2] w fun e w' => e = .returned (.bool (decide (xss = yss))) ∧ ∃ n, w' = w.drewN n := by
  obtain ⟨A1, c1, rfl, hl1, hm1, _, hc1⟩ := h1
  obtain ⟨A2, c2, rfl, hl2, hm2, _, hc2⟩ := h2
  unfold maxLen at hm1 hm2
  by_cases hlen : xss.length = yss.length
  · have hb : ((xss.length : Int) != (yss.length : Int)) = false := by rw [hlen]; simp
    have HL := Lib.hid hlen
    have HC1 := Lib.hid hc1
    have HC2 := Lib.hid hc2
    clear hlen hc1 hc2
    go_enter Tryz.func22, Tryz.ntmps22
    go_wp2
    go_loopw [5] (fun i wr => ∃ k : Nat, k ≤ xss.length ∧ i = .int .i64 k ∧ (∀ j, j < k → gl xss j = gl yss j) ∧ ∃ n, wr = w.drewN n) (fun i _ => xss.length - (intOf i).toNat)
    case atStart => exact ⟨0, Nat.zero_le _, rfl, fun j h => absurd h (Nat.not_lt_zero _), 0, rfl⟩
    case round =>
      obtain ⟨k, hk, rfl, heq, n, rfl⟩ := hrel
      have HE := Lib.hid heq
      clear heq
      by_cases hlt : k < xss.length
      · obtain ⟨b1, o1, rfl, hb1, hcell1⟩ := HC1.out (by omega)
        obtain ⟨b2, o2, rfl, hb2, hcell2⟩ := HC2.out (by have := HL.out; omega)
        have hlt2 : k < yss.length := by have := HL.out; omega
        obtain ⟨u1, q1, s1⟩ := hcell1 k hlt
        obtain ⟨u2, q2, s2⟩ := hcell2 k hlt2
        obtain ⟨Au1, cu1, rfl, -⟩ := id s1
        obtain ⟨Au2, cu2, rfl, -⟩ := id s2
        clear hcell1 hcell2
        by_cases hx : gl xss k = gl yss k
        · have HX := Lib.hid (show ∀ j, j < k + 1 → gl xss j = gl yss j from fun j hj => by
            by_cases hjk : j < k
            · exact HE.out j hjk
            · obtain rfl : j = k := by omega
              exact hx)
          have hxb : decide (gl xss k = gl yss k) = true := by simp [hx]
          clear hx
          generalize gl xss k = xk at *
          generalize gl yss k = yk at *
          go_wp2_with fail
          go_quiet (first | (go_at_call 23; exact l00Same_qq hxb s1 s2 _ _))
          go_wp2
          go_roundw
          case rel => exact ⟨k + 1, by omega, by go_num, HX.out, _, rfl⟩
          case measure => simp [intOf]; omega
        · have hxb : decide (gl xss k = gl yss k) = false := by simp [hx]
          have HNB := Lib.hid (show decide (xss = yss) = false by simp; exact fun e => hx (by rw [e]))
          clear hx
          go_wp2_with fail
          go_quiet (first | (go_at_call 23; exact l00Same_qq hxb s1 s2 _ _))
          go_wp2
          go_ret
          exact ⟨ret_bool HNB.out.symm, quiet_end _ _ _⟩
      · go_wp2
        go_ret
        have hxy : xss = yss := gl_ext HL.out fun j hj => HE.out j (by omega)
        exact ⟨ret_bool (by simp [hxy]), _, rfl⟩
  · have hb : ((xss.length : Int) != (yss.length : Int)) = true := by simp; omega
    have HNB := Lib.hid (show decide (xss = yss) = false by simp; exact fun e => hlen (by rw [e]))
    clear hlen hc1 hc2
    go_enter Tryz.func22, Tryz.ntmps22
    go_wp2
    go_ret
    exact ⟨ret_bool HNB.out.symm, 0, rfl⟩
theorem l07Same_b {v1 v2 : Value} {xss yss : List (List Int)} {B1 B2 : Nat} {w : World} {T : Bool} (hT : decide (xss = yss) = T) (h1 : SlS w B1 v1 xss) (h2 : SlS w B2 v2 yss) :
    Calls Tryz.prog 22 #[v1, v2] w fun e w' => e = .returned (.bool T) ∧ Below w.heap.size w w' :=
  (l07Same_any h1 h2).mono fun _ _ ⟨h, n, hw⟩ => ⟨by rw [h, hT], by rw [hw]; exact drewN_below w _ n⟩
end Go.Proofs.YtgmppfhokfifgaaGreat
/-
  Contracts: equality of carriers and of descriptions of loops. Printed by gen_sm.py.
-/
namespace Go.Proofs.YtgmppfhokfifgaaGreat
set_option maxRecDepth 10000
open Go.RowKit

theorem gc_ext {D E : List (Bool × Int)} (hl : D.length = E.length) (h : ∀ j, j < D.length → gc D j = gc E j) : D = E := by
  apply List.ext_getElem hl
  intro i h1 h2
  have := h i h1
  rwa [gc_eq h1, gc_eq h2] at this
def five (o p : List Int) : Prop := gi o 0 = gi p 0 ∧ gi o 1 = gi p 1 ∧ gi o 2 = gi p 2 ∧ gi o 3 = gi p 3 ∧ gi o 4 = gi p 4
theorem inf_eq {o p : List Int} (h1 : 5 ≤ o.length) (h2 : 5 ≤ p.length) : o = p ↔ (gi o 0 = gi p 0 ∧ gi o 1 = gi p 1 ∧ gi o 2 = gi p 2 ∧ gi o 3 = gi p 3 ∧ gi o 4 = gi p 4 ∧ o.drop 5 = p.drop 5) := by
  constructor
  · rintro rfl
    exact ⟨rfl, rfl, rfl, rfl, rfl, rfl⟩
  · rintro ⟨e0, e1, e2, e3, e4, e5⟩
    rw [← list5 h1, ← list5 h2, e0, e1, e2, e3, e4, e5]
end Go.Proofs.YtgmppfhokfifgaaGreat
/-
  Contracts: SameMachine of the program. Printed by gen_sm2.py.
-/
namespace Go.Proofs.YtgmppfhokfifgaaGreat
set_option maxRecDepth 10000
open Go.RowKit

def sameM (m q : Mac) : Bool := decide (m.wd = q.wd) && decide (m.rk = q.rk) && decide (m.fr = q.fr) && decide (m.bk = q.bk) && decide (m.cr = q.cr) && decide (m.lp = q.lp) && decide (m.dr = q.dr)
end Go.Proofs.YtgmppfhokfifgaaGreat
/-
  Contracts: SameMachine of the reference. Printed by gen_sm2.py.
-/
namespace Go.Proofs.YtgmppfhokfifgaaGreat
set_option maxRecDepth 10000
open Go.RowKit

theorem quiet_below {B : Nat} {w w1 : World} {n : Nat} (h : Below B w w1) (m : Nat) : Below B w ((w1.drewN n).drewN m) := below_drewN (below_drewN h n) m
set_option maxRecDepth 100000 in
set_option maxHeartbeats 6400000 in
theorem spec_SameMachine_any {f b c l d f2 b2 c2 l2 d2 : Value} {m q : Mac} {B1 B2 : Nat} {w : World} (h1 : SlM w B1 f b c l d m) (h2 : SlM w B2 f2 b2 c2 l2 d2 q) (hB1 : B1 ≤ w.heap.size) (hB2 : B2 ≤ w.heap.size) (h5 : Five m.lp) (k5 : Five q.lp) :
    Calls Tryz.prog 9 #[.agg #[.int .i64 m.wd, .int .i64 m.rk, f, b, c, l, d], .agg #[.int .i64 q.wd, .int .i64 q.rk, f2, b2, c2, l2, d2]] w fun e w' => e = .returned (.bool (sameM m q)) ∧ Below w.heap.size w w' := by
  obtain ⟨Af, kf, rfl, -⟩ := id h1.fr
  obtain ⟨Ab, kb, rfl, -⟩ := id h1.bk
  obtain ⟨Ac, kc, rfl, -⟩ := id h1.cr.cells
  obtain ⟨Al, kl, rfl, -⟩ := id h1.lp.cells
  obtain ⟨Ad, kd, rfl, -⟩ := id h1.dr
  obtain ⟨Af2, kf2, rfl, -⟩ := id h2.fr
  obtain ⟨Ab2, kb2, rfl, -⟩ := id h2.bk
  obtain ⟨Ac2, kc2, rfl, -⟩ := id h2.cr.cells
  obtain ⟨Al2, kl2, rfl, -⟩ := id h2.lp.cells
  obtain ⟨Ad2, kd2, rfl, -⟩ := id h2.dr
  have hx1 : ((w.alloc (.cells #[.int .i64 m.wd, .int .i64 m.rk, .slice Af m.fr.length kf, .slice Ab m.bk.length kb, .slice Ac m.cr.length kc, .slice Al m.lp.length kl, .slice Ad m.dr.length kd] 31)).alloc (.cells #[.int .i64 q.wd, .int .i64 q.rk, .slice Af2 q.fr.length kf2, .slice Ab2 q.bk.length kb2, .slice Ac2 q.cr.length kc2, .slice Al2 q.lp.length kl2, .slice Ad2 q.dr.length kd2] 31)).heap[w.heap.size]? = some (.cells #[.int .i64 m.wd, .int .i64 m.rk, .slice Af m.fr.length kf, .slice Ab m.bk.length kb, .slice Ac m.cr.length kc, .slice Al m.lp.length kl, .slice Ad m.dr.length kd] 31) := keep_fwd (al1 _ _) (alloc_at_ _ _)
  have hx2 : ((w.alloc (.cells #[.int .i64 m.wd, .int .i64 m.rk, .slice Af m.fr.length kf, .slice Ab m.bk.length kb, .slice Ac m.cr.length kc, .slice Al m.lp.length kl, .slice Ad m.dr.length kd] 31)).alloc (.cells #[.int .i64 q.wd, .int .i64 q.rk, .slice Af2 q.fr.length kf2, .slice Ab2 q.bk.length kb2, .slice Ac2 q.cr.length kc2, .slice Al2 q.lp.length kl2, .slice Ad2 q.dr.length kd2] 31)).heap[w.heap.size + 1]? = some (.cells #[.int .i64 q.wd, .int .i64 q.rk, .slice Af2 q.fr.length kf2, .slice Ab2 q.bk.length kb2, .slice Ac2 q.cr.length kc2, .slice Al2 q.lp.length kl2, .slice Ad2 q.dr.length kd2] 31) := by have := alloc_at_ (w.alloc (.cells #[.int .i64 m.wd, .int .i64 m.rk, .slice Af m.fr.length kf, .slice Ab m.bk.length kb, .slice Ac m.cr.length kc, .slice Al m.lp.length kl, .slice Ad m.dr.length kd] 31)) (.cells #[.int .i64 q.wd, .int .i64 q.rk, .slice Af2 q.fr.length kf2, .slice Ab2 q.bk.length kb2, .slice Ac2 q.cr.length kc2, .slice Al2 q.lp.length kl2, .slice Ad2 q.dr.length kd2] 31); rw [World.size_alloc] at this; exact this
  have hb0 : Below w.heap.size w ((w.alloc (.cells #[.int .i64 m.wd, .int .i64 m.rk, .slice Af m.fr.length kf, .slice Ab m.bk.length kb, .slice Ac m.cr.length kc, .slice Al m.lp.length kl, .slice Ad m.dr.length kd] 31)).alloc (.cells #[.int .i64 q.wd, .int .i64 q.rk, .slice Af2 q.fr.length kf2, .slice Ab2 q.bk.length kb2, .slice Ac2 q.cr.length kc2, .slice Al2 q.lp.length kl2, .slice Ad2 q.dr.length kd2] 31)) := al2 _ _ _
  have hw0 : w.heap.size ≤ ((w.alloc (.cells #[.int .i64 m.wd, .int .i64 m.rk, .slice Af m.fr.length kf, .slice Ab m.bk.length kb, .slice Ac m.cr.length kc, .slice Al m.lp.length kl, .slice Ad m.dr.length kd] 31)).alloc (.cells #[.int .i64 q.wd, .int .i64 q.rk, .slice Af2 q.fr.length kf2, .slice Ab2 q.bk.length kb2, .slice Ac2 q.cr.length kc2, .slice Al2 q.lp.length kl2, .slice Ad2 q.dr.length kd2] 31)).heap.size := hb0.size
  have g1 := h1.below hb0 hB1
  have g2 := h2.below hb0 hB2
  have X1 := Lib.hid hx1
  have X2 := Lib.hid hx2
  have HB := Lib.hid hb0
  have G1 := Lib.hid g1
  have G2 := Lib.hid g2
  have HW := Lib.hid hw0
  have H5 := Lib.hid h5
  have K5 := Lib.hid k5
  clear hx1 hx2 hb0 g1 g2 hw0 h1 h2 h5 k5
  by_cases e_wd : m.wd = q.wd
  · have t_wd : (m.wd != q.wd) = false := by simp [e_wd]
    have E_wd := Lib.hid e_wd
    clear e_wd
    by_cases e_rk : m.rk = q.rk
    · have t_rk : (m.rk != q.rk) = false := by simp [e_rk]
      have E_rk := Lib.hid e_rk
      clear e_rk
      cases hT_fr : decide (m.fr = q.fr)
      · have HT : Hid (sameM m q = false) := Lib.hid (by simp only [sameM, hT_fr]; simp)
        go_enter Tryz.func9, Tryz.ntmps9
        go_wp2_with fail
        refine (l07Same_b hT_fr G1.out.fr G2.out.fr).mono ?_
        rintro e w1 ⟨rfl, hq⟩
        have x1 := keep_fwd hq X1.out
        have x2 := keep_fwd hq X2.out
        have hb := HB.out.trans (hq.mono HW.out)
        have g1 := G1.out.below hq (Nat.le_trans hB1 HW.out)
        have g2 := G2.out.below hq (Nat.le_trans hB2 HW.out)
        have hz := Nat.le_trans HW.out hq.size
        clear hq X1 X2 HB G1 G2 HW
        obtain ⟨⟨-, -, -, p3_1, -, -, -⟩, -, lx1⟩ := box7 x1
        obtain ⟨⟨-, -, -, r3_1, -, -, -⟩, -, lx2⟩ := box7 x2
        have X1 := Lib.hid x1
        have X2 := Lib.hid x2
        have HB := Lib.hid hb
        have G1 := Lib.hid g1
        have G2 := Lib.hid g2
        clear x1 x2 hb g1 g2 lx1 lx2
        go_wp2_with fail
        go_ret
        exact ⟨ret_bool HT.out.symm, HB.out⟩
      · skip
        cases hT_bk : decide (m.bk = q.bk)
        · have HT : Hid (sameM m q = false) := Lib.hid (by simp only [sameM, hT_bk]; simp)
          go_enter Tryz.func9, Tryz.ntmps9
          go_wp2_with fail
          refine (l07Same_b hT_fr G1.out.fr G2.out.fr).mono ?_
          rintro e w1 ⟨rfl, hq⟩
          have x1 := keep_fwd hq X1.out
          have x2 := keep_fwd hq X2.out
          have hb := HB.out.trans (hq.mono HW.out)
          have g1 := G1.out.below hq (Nat.le_trans hB1 HW.out)
          have g2 := G2.out.below hq (Nat.le_trans hB2 HW.out)
          have hz := Nat.le_trans HW.out hq.size
          clear hq X1 X2 HB G1 G2 HW
          obtain ⟨⟨-, -, -, p3_1, -, -, -⟩, -, lx1⟩ := box7 x1
          obtain ⟨⟨-, -, -, r3_1, -, -, -⟩, -, lx2⟩ := box7 x2
          have X1 := Lib.hid x1
          have X2 := Lib.hid x2
          have HB := Lib.hid hb
          have G1 := Lib.hid g1
          have G2 := Lib.hid g2
          clear x1 x2 hb g1 g2 lx1 lx2
          go_wp2_with fail
          refine (l07Same_b hT_bk G1.out.bk G2.out.bk).mono ?_
          rintro e w2 ⟨rfl, hq⟩
          have x1 := keep_fwd hq X1.out
          have x2 := keep_fwd hq X2.out
          have hb := HB.out.trans (hq.mono hz)
          have g1 := G1.out.below hq (Nat.le_trans hB1 hz)
          have g2 := G2.out.below hq (Nat.le_trans hB2 hz)
          have hz2 := Nat.le_trans hz hq.size
          clear hq X1 X2 HB G1 G2 hz
          have hz := hz2
          clear hz2
          obtain ⟨⟨-, -, -, -, p4_2, p5_2, p6_2⟩, -, lx1⟩ := box7 x1
          obtain ⟨⟨-, -, -, -, r4_2, r5_2, r6_2⟩, -, lx2⟩ := box7 x2
          have X1 := Lib.hid x1
          have X2 := Lib.hid x2
          have HB := Lib.hid hb
          have G1 := Lib.hid g1
          have G2 := Lib.hid g2
          clear x1 x2 hb g1 g2 lx1 lx2
          clear p3_1 r3_1
          go_wp2_with fail
          go_ret
          exact ⟨ret_bool HT.out.symm, HB.out⟩
        · skip
          by_cases n_cr : m.cr.length = q.cr.length
          · have t_cr : ((m.cr.length : Int) != (q.cr.length : Int)) = false := by rw [n_cr]; simp
            have N_cr := Lib.hid n_cr
            clear n_cr
            by_cases n_lp : m.lp.length = q.lp.length
            · have t_lp : ((m.lp.length : Int) != (q.lp.length : Int)) = false := by rw [n_lp]; simp
              have N_lp := Lib.hid n_lp
              clear n_lp
              cases hT_dr : decide (m.dr = q.dr)
              · have HT : Hid (sameM m q = false) := Lib.hid (by simp only [sameM, hT_dr]; simp)
                go_enter Tryz.func9, Tryz.ntmps9
                go_wp2_with fail
                refine (l07Same_b hT_fr G1.out.fr G2.out.fr).mono ?_
                rintro e w1 ⟨rfl, hq⟩
                have x1 := keep_fwd hq X1.out
                have x2 := keep_fwd hq X2.out
                have hb := HB.out.trans (hq.mono HW.out)
                have g1 := G1.out.below hq (Nat.le_trans hB1 HW.out)
                have g2 := G2.out.below hq (Nat.le_trans hB2 HW.out)
                have hz := Nat.le_trans HW.out hq.size
                clear hq X1 X2 HB G1 G2 HW
                obtain ⟨⟨-, -, -, p3_1, -, -, -⟩, -, lx1⟩ := box7 x1
                obtain ⟨⟨-, -, -, r3_1, -, -, -⟩, -, lx2⟩ := box7 x2
                have X1 := Lib.hid x1
                have X2 := Lib.hid x2
                have HB := Lib.hid hb
                have G1 := Lib.hid g1
                have G2 := Lib.hid g2
                clear x1 x2 hb g1 g2 lx1 lx2
                go_wp2_with fail
                refine (l07Same_b hT_bk G1.out.bk G2.out.bk).mono ?_
                rintro e w2 ⟨rfl, hq⟩
                have x1 := keep_fwd hq X1.out
                have x2 := keep_fwd hq X2.out
                have hb := HB.out.trans (hq.mono hz)
                have g1 := G1.out.below hq (Nat.le_trans hB1 hz)
                have g2 := G2.out.below hq (Nat.le_trans hB2 hz)
                have hz2 := Nat.le_trans hz hq.size
                clear hq X1 X2 HB G1 G2 hz
                have hz := hz2
                clear hz2
                obtain ⟨⟨-, -, -, -, p4_2, p5_2, p6_2⟩, -, lx1⟩ := box7 x1
                obtain ⟨⟨-, -, -, -, r4_2, r5_2, r6_2⟩, -, lx2⟩ := box7 x2
                have X1 := Lib.hid x1
                have X2 := Lib.hid x2
                have HB := Lib.hid hb
                have G1 := Lib.hid g1
                have G2 := Lib.hid g2
                clear x1 x2 hb g1 g2 lx1 lx2
                clear p3_1 r3_1
                go_wp2_with fail
                refine (l00Same_b hT_dr G1.out.dr G2.out.dr).mono ?_
                rintro e w3 ⟨rfl, hq⟩
                have x1 := keep_fwd hq X1.out
                have x2 := keep_fwd hq X2.out
                have hb := HB.out.trans (hq.mono hz)
                have g1 := G1.out.below hq (Nat.le_trans hB1 hz)
                have g2 := G2.out.below hq (Nat.le_trans hB2 hz)
                have hz2 := Nat.le_trans hz hq.size
                clear hq X1 X2 HB G1 G2 hz
                have hz := hz2
                clear hz2
                obtain ⟨⟨-, -, -, -, p4_3, p5_3, -⟩, -, lx1⟩ := box7 x1
                obtain ⟨⟨-, -, -, -, r4_3, r5_3, -⟩, -, lx2⟩ := box7 x2
                have X1 := Lib.hid x1
                have X2 := Lib.hid x2
                have HB := Lib.hid hb
                have G1 := Lib.hid g1
                have G2 := Lib.hid g2
                clear x1 x2 hb g1 g2 lx1 lx2
                clear p4_2 r4_2 p5_2 r5_2 p6_2 r6_2
                go_wp2_with fail
                go_ret
                exact ⟨ret_bool HT.out.symm, HB.out⟩
              · have HN1 := N_cr
                have HN2 := N_lp
                have HE0 := Lib.hid (And.intro E_wd.out (And.intro E_rk.out (And.intro hT_fr (And.intro hT_bk hT_dr))))
                go_enter Tryz.func9, Tryz.ntmps9
                go_wp2_with fail
                refine (l07Same_b hT_fr G1.out.fr G2.out.fr).mono ?_
                rintro e w1 ⟨rfl, hq⟩
                have x1 := keep_fwd hq X1.out
                have x2 := keep_fwd hq X2.out
                have hb := HB.out.trans (hq.mono HW.out)
                have g1 := G1.out.below hq (Nat.le_trans hB1 HW.out)
                have g2 := G2.out.below hq (Nat.le_trans hB2 HW.out)
                have hz := Nat.le_trans HW.out hq.size
                clear hq X1 X2 HB G1 G2 HW
                obtain ⟨⟨-, -, -, p3_1, -, -, -⟩, -, lx1⟩ := box7 x1
                obtain ⟨⟨-, -, -, r3_1, -, -, -⟩, -, lx2⟩ := box7 x2
                have X1 := Lib.hid x1
                have X2 := Lib.hid x2
                have HB := Lib.hid hb
                have G1 := Lib.hid g1
                have G2 := Lib.hid g2
                clear x1 x2 hb g1 g2 lx1 lx2
                go_wp2_with fail
                refine (l07Same_b hT_bk G1.out.bk G2.out.bk).mono ?_
                rintro e w2 ⟨rfl, hq⟩
                have x1 := keep_fwd hq X1.out
                have x2 := keep_fwd hq X2.out
                have hb := HB.out.trans (hq.mono hz)
                have g1 := G1.out.below hq (Nat.le_trans hB1 hz)
                have g2 := G2.out.below hq (Nat.le_trans hB2 hz)
                have hz2 := Nat.le_trans hz hq.size
                clear hq X1 X2 HB G1 G2 hz
                have hz := hz2
                clear hz2
                obtain ⟨⟨-, -, -, -, p4_2, p5_2, p6_2⟩, -, lx1⟩ := box7 x1
                obtain ⟨⟨-, -, -, -, r4_2, r5_2, r6_2⟩, -, lx2⟩ := box7 x2
                have X1 := Lib.hid x1
                have X2 := Lib.hid x2
                have HB := Lib.hid hb
                have G1 := Lib.hid g1
                have G2 := Lib.hid g2
                clear x1 x2 hb g1 g2 lx1 lx2
                clear p3_1 r3_1
                go_wp2_with fail
                refine (l00Same_b hT_dr G1.out.dr G2.out.dr).mono ?_
                rintro e w3 ⟨rfl, hq⟩
                have x1 := keep_fwd hq X1.out
                have x2 := keep_fwd hq X2.out
                have hb := HB.out.trans (hq.mono hz)
                have g1 := G1.out.below hq (Nat.le_trans hB1 hz)
                have g2 := G2.out.below hq (Nat.le_trans hB2 hz)
                have hz2 := Nat.le_trans hz hq.size
                clear hq X1 X2 HB G1 G2 hz
                have hz := hz2
                clear hz2
                obtain ⟨⟨-, -, -, -, p4_3, p5_3, -⟩, -, lx1⟩ := box7 x1
                obtain ⟨⟨-, -, -, -, r4_3, r5_3, -⟩, -, lx2⟩ := box7 x2
                have X1 := Lib.hid x1
                have X2 := Lib.hid x2
                have HB := Lib.hid hb
                have G1 := Lib.hid g1
                have G2 := Lib.hid g2
                clear x1 x2 hb g1 g2 lx1 lx2
                clear p4_2 r4_2 p5_2 r5_2 p6_2 r6_2
                clear hT_fr hT_bk hT_dr
                go_wp2_with fail
                go_loopw [5] (fun i wr => ∃ k : Nat, k ≤ m.cr.length ∧ i = .int .i64 k ∧ (∀ j, j < k → gc m.cr j = gc q.cr j) ∧ ∃ n, wr = w3.drewN n) (fun i _ => m.cr.length - (intOf i).toNat)
                case atStart => exact ⟨0, Nat.zero_le _, rfl, fun j h => absurd h (Nat.not_lt_zero _), 0, rfl⟩
                case round =>
                  obtain ⟨k, hk, rfl, heq, n, rfl⟩ := hrel
                  have HE := Lib.hid heq
                  clear heq
                  by_cases hlt : k < m.cr.length
                  · obtain ⟨Ax, kx, ex, hlx, hmx, hcx⟩ := SlK.cells G1.out.cr
                    obtain ⟨Ay, ky, ey, hly, hmy, hcy⟩ := SlK.cells G2.out.cr
                    simp only [Value.slice.injEq] at ex ey
                    obtain ⟨rfl, -, rfl⟩ := ex
                    obtain ⟨rfl, -, rfl⟩ := ey
                    have hlt2 : k < q.cr.length := by have := HN1.out; omega
                    obtain ⟨b1, o1, rfl, hb1, hcell1⟩ := hcx (by omega)
                    obtain ⟨b2, o2, rfl, hb2, hcell2⟩ := hcy (by omega)
                    obtain ⟨p0, p1⟩ := hcell1 k hlt
                    obtain ⟨q0, q1⟩ := hcell2 k hlt2
                    clear hcell1 hcell2 hcx hcy
                    by_cases hx : gc m.cr k = gc q.cr k
                    · have HX := Lib.hid (show ∀ j, j < k + 1 → gc m.cr j = gc q.cr j from fun j hj => by
                          by_cases hjk : j < k
                          · exact HE.out j hjk
                          · obtain rfl : j = k := by omega
                            exact hx)
                      rw [← hx] at q0 q1
                      clear hx
                      generalize (gc m.cr k).1 = x1 at *
                      generalize (gc m.cr k).2 = x2 at *
                      have t1 : (x1 != x1) = false := by simp
                      have t2 : (x1 == x1) = true := by simp
                      go_wp2_with fail
                      go_quiet (fail)
                      go_wp2
                      go_roundw
                      case rel => exact ⟨k + 1, by omega, by go_num, HX.out, _, rfl⟩
                      case measure => simp [intOf]; omega
                    · have HT : Hid (sameM m q = false) := Lib.hid (by have : ¬ m.cr = q.cr := fun e => hx (by rw [e]); simp [sameM, this])
                      have hx2 : ¬ ((gc m.cr k).1 = (gc q.cr k).1 ∧ (gc m.cr k).2 = (gc q.cr k).2) := fun e => hx (Prod.ext e.1 e.2)
                      clear hx
                      generalize (gc m.cr k).1 = x1 at *
                      generalize (gc m.cr k).2 = x2 at *
                      generalize (gc q.cr k).1 = y1 at *
                      generalize (gc q.cr k).2 = y2 at *
                      by_cases e1 : x1 = y1
                      · subst e1
                        have e2 : ¬ x2 = y2 := fun e => hx2 ⟨rfl, e⟩
                        have t1 : (x1 != x1) = false := by simp
                        have t2 : (x1 == x1) = true := by simp
                        have t3 : (x2 != y2) = true := by simp [e2]
                        have t4 : (x2 == y2) = false := by simp [e2]
                        clear hx2
                        go_wp2_with fail
                        go_quiet (fail)
                        go_wp2
                        go_ret
                        exact ⟨ret_bool HT.out.symm, quiet_below HB.out _⟩
                      · have t3 : (x1 != y1) = true := by simp [e1]
                        have t4 : (x1 == y1) = false := by simp [e1]
                        clear hx2
                        go_wp2_with fail
                        go_quiet (fail)
                        go_wp2
                        go_ret
                        exact ⟨ret_bool HT.out.symm, quiet_below HB.out _⟩
                  · have HC := Lib.hid (gc_ext HN1.out fun j hj => HE.out j (by omega))
                    obtain ⟨WW, hWW⟩ : ∃ x, x = w3.drewN n := ⟨_, rfl⟩
                    have HBW : Hid (Below w.heap.size w WW) := Lib.hid (by rw [hWW]; exact HB.out.trans ((drewN_below w3 w3.heap.size n).mono hz))
                    have hzw : w3.heap.size ≤ WW.heap.size := by rw [hWW]; exact (drewN_below w3 w3.heap.size n).size
                    have X1w : Hid (WW.heap[w.heap.size]? = some (.cells #[.int .i64 m.wd, .int .i64 m.rk, .slice Af m.fr.length kf, .slice Ab m.bk.length kb, .slice Ac m.cr.length kc, .slice Al m.lp.length kl, .slice Ad m.dr.length kd] 31)) := Lib.hid (by rw [hWW]; exact X1.out)
                    have X2w : Hid (WW.heap[w.heap.size + 1]? = some (.cells #[.int .i64 q.wd, .int .i64 q.rk, .slice Af2 q.fr.length kf2, .slice Ab2 q.bk.length kb2, .slice Ac2 q.cr.length kc2, .slice Al2 q.lp.length kl2, .slice Ad2 q.dr.length kd2] 31)) := Lib.hid (by rw [hWW]; exact X2.out)
                    have G1w : Hid (SlM WW B1 _ _ _ _ _ m) := Lib.hid (by rw [hWW]; exact G1.out.below (drewN_below w3 _ n) (Nat.le_trans hB1 hz))
                    have G2w : Hid (SlM WW B2 _ _ _ _ _ q) := Lib.hid (by rw [hWW]; exact G2.out.below (drewN_below w3 _ n) (Nat.le_trans hB2 hz))
                    rw [← hWW]
                    clear X1 X2 G1 G2 HB HE hWW p4_3 p5_3 r4_3 r5_3
                    obtain ⟨⟨-, -, -, -, p4, p5, -⟩, -, lx1⟩ := box7 X1w.out
                    obtain ⟨⟨-, -, -, -, r4, r5, -⟩, -, lx2⟩ := box7 X2w.out
                    go_wp2_with fail
                    go_loopw [6] (fun i wr => ∃ k : Nat, k ≤ m.lp.length ∧ i = .int .i64 k ∧ (∀ j, j < k → gl m.lp j = gl q.lp j) ∧ Below WW.heap.size WW wr) (fun i _ => m.lp.length - (intOf i).toNat)
                    case atStart => exact ⟨0, Nat.zero_le _, rfl, fun j h => absurd h (Nat.not_lt_zero _), Below.refl _ _⟩
                    case round =>
                      obtain ⟨k, hk, rfl, heq, hb⟩ := hrel
                      have HE := Lib.hid heq
                      clear heq p4 p5 r4 r5
                      have x1 := keep_fwd hb X1w.out
                      have x2 := keep_fwd hb X2w.out
                      obtain ⟨⟨-, -, -, -, -, p5, -⟩, -, ly1⟩ := box7 x1
                      obtain ⟨⟨-, -, -, -, -, r5, -⟩, -, ly2⟩ := box7 x2
                      clear x1 x2 ly1 ly2
                      have hzr := hb.size
                      have hB1w : B1 ≤ WW.heap.size := by omega
                      have hB2w : B2 ≤ WW.heap.size := by omega
                      have g1 := G1w.out.below hb hB1w
                      have g2 := G2w.out.below hb hB2w
                      by_cases hlt : k < m.lp.length
                      · obtain ⟨Ax, kx, ex, hlx, hmx, hcx⟩ := SlF.cells g1.lp
                        obtain ⟨Ay, ky, ey, hly, hmy, hcy⟩ := SlF.cells g2.lp
                        simp only [Value.slice.injEq] at ex ey
                        obtain ⟨rfl, -, rfl⟩ := ex
                        obtain ⟨rfl, -, rfl⟩ := ey
                        have hlt2 : k < q.lp.length := by have := HN2.out; omega
                        obtain ⟨b1, o1, rfl, hb1, hcell1⟩ := hcx (by omega)
                        obtain ⟨b2, o2, rfl, hb2, hcell2⟩ := hcy (by omega)
                        obtain ⟨hn, u1, pc5, s1⟩ := hcell1 k hlt
                        obtain ⟨hm, u2, rc5, s2⟩ := hcell2 k hlt2
                        obtain ⟨pc0, pc1, pc2, pc3, pc4⟩ := five_of hn
                        obtain ⟨rc0, rc1, rc2, rc3, rc4⟩ := five_of hm
                        obtain ⟨Au, cu, rfl, -⟩ := id s1
                        obtain ⟨Av, cv, rfl, -⟩ := id s2
                        have hbw1 : b1 < wr.heap.size := by omega
                        have hbw2 : b2 < wr.heap.size := by omega
                        have hg1 : w.heap.size < wr.heap.size := by omega
                        have hg2 : w.heap.size + 1 < wr.heap.size := by omega
                        clear hcell1 hcell2 hn hm hcx hcy g1 g2
                        have HIF := Lib.hid (inf_eq (H5.out _ (gl_mem hlt)) (K5.out _ (gl_mem hlt2)))
                        have HST : Hid (gl m.lp k = gl q.lp k → ∀ j, j < k + 1 → gl m.lp j = gl q.lp j) := Lib.hid fun hx j hj => by
                            by_cases hjk : j < k
                            · exact HE.out j hjk
                            · obtain rfl : j = k := by omega
                              exact hx
                        have HNO : Hid (¬ gl m.lp k = gl q.lp k → sameM m q = false) := Lib.hid fun hx => by
                            have : ¬ m.lp = q.lp := fun e => hx (by rw [e])
                            simp [sameM, this]
                        generalize hgm : gl m.lp k = o at *
                        generalize hgq : gl q.lp k = p at *
                        generalize hx0 : gi o 0 = x0 at *
                        generalize hx1 : gi o 1 = x1 at *
                        generalize hx2 : gi o 2 = x2 at *
                        generalize hx3 : gi o 3 = x3 at *
                        generalize hx4 : gi o 4 = x4 at *
                        generalize hy0 : gi p 0 = y0 at *
                        generalize hy1 : gi p 1 = y1 at *
                        generalize hy2 : gi p 2 = y2 at *
                        generalize hy3 : gi p 3 = y3 at *
                        generalize hy4 : gi p 4 = y4 at *
                        generalize hps : o.drop 5 = ps at *
                        generalize hqs : p.drop 5 = qs at *
                        clear hgm hgq hx0 hy0 hx1 hy1 hx2 hy2 hx3 hy3 hx4 hy4 hps hqs
                        by_cases e0 : x0 = y0
                        · have t0 : (x0 != y0) = false := by simp [e0]
                          by_cases e1 : x1 = y1
                          · have t1 : (x1 != y1) = false := by simp [e1]
                            by_cases e2 : x2 = y2
                            · have t2 : (x2 != y2) = false := by simp [e2]
                              by_cases e3 : x3 = y3
                              · have t3 : (x3 != y3) = false := by simp [e3]
                                by_cases e4 : x4 = y4
                                · have t4 : (x4 != y4) = false := by simp [e4]
                                  cases hE : decide (ps = qs)
                                  · have HT : Hid (sameM m q = false) := Lib.hid (HNO.out fun e => by have := (HIF.out.1 e).2.2.2.2.2; simp [this] at hE)
                                    have HBr := Lib.hid hb
                                    clear hb
                                    go_wp2_with fail
                                    refine (l00Same_b hE (s1.below (al2 wr _ _) (by omega)) (s2.below (al2 wr _ _) (by omega))).mono ?_
                                    rintro e w9 ⟨rfl, hq⟩
                                    have HB2 := Lib.hid (HBr.out.trans (((al2 wr _ _).trans (hq.mono (by simp; omega))).mono hzr))
                                    clear hq HBr
                                    go_wp2_with fail
                                    go_ret
                                    exact ⟨ret_bool HT.out.symm, HBW.out.trans (HB2.out.mono HBW.out.size)⟩
                                  · have HX := Lib.hid (HST.out (HIF.out.2 ⟨e0, e1, e2, e3, e4, by simpa using hE⟩))
                                    have HBr := Lib.hid hb
                                    clear hb
                                    go_wp2_with fail
                                    refine (l00Same_b hE (s1.below (al2 wr _ _) (by omega)) (s2.below (al2 wr _ _) (by omega))).mono ?_
                                    rintro e w9 ⟨rfl, hq⟩
                                    have HB2 := Lib.hid (HBr.out.trans (((al2 wr _ _).trans (hq.mono (by simp; omega))).mono hzr))
                                    clear hq HBr
                                    go_wp2_with fail
                                    go_roundw
                                    case rel => exact ⟨k + 1, by omega, by go_num, HX.out, HB2.out⟩
                                    case measure => simp [intOf]; omega
                                · have HT : Hid (sameM m q = false) := Lib.hid (HNO.out fun e => e4 (HIF.out.1 e).2.2.2.2.1)
                                  have t4 : (x4 != y4) = true := by simp [e4]
                                  have HBr := Lib.hid hb
                                  clear hb
                                  go_wp2_with fail
                                  go_ret
                                  exact ⟨ret_bool HT.out.symm, HBW.out.trans ((HBr.out.trans ((al2 wr _ _).mono hzr)).mono HBW.out.size)⟩
                              · have HT : Hid (sameM m q = false) := Lib.hid (HNO.out fun e => e3 (HIF.out.1 e).2.2.2.1)
                                have t3 : (x3 != y3) = true := by simp [e3]
                                have HBr := Lib.hid hb
                                clear hb
                                go_wp2_with fail
                                go_ret
                                exact ⟨ret_bool HT.out.symm, HBW.out.trans ((HBr.out.trans ((al2 wr _ _).mono hzr)).mono HBW.out.size)⟩
                            · have HT : Hid (sameM m q = false) := Lib.hid (HNO.out fun e => e2 (HIF.out.1 e).2.2.1)
                              have t2 : (x2 != y2) = true := by simp [e2]
                              have HBr := Lib.hid hb
                              clear hb
                              go_wp2_with fail
                              go_ret
                              exact ⟨ret_bool HT.out.symm, HBW.out.trans ((HBr.out.trans ((al2 wr _ _).mono hzr)).mono HBW.out.size)⟩
                          · have HT : Hid (sameM m q = false) := Lib.hid (HNO.out fun e => e1 (HIF.out.1 e).2.1)
                            have t1 : (x1 != y1) = true := by simp [e1]
                            have HBr := Lib.hid hb
                            clear hb
                            go_wp2_with fail
                            go_ret
                            exact ⟨ret_bool HT.out.symm, HBW.out.trans ((HBr.out.trans ((al2 wr _ _).mono hzr)).mono HBW.out.size)⟩
                        · have HT : Hid (sameM m q = false) := Lib.hid (HNO.out fun e => e0 (HIF.out.1 e).1)
                          have t0 : (x0 != y0) = true := by simp [e0]
                          have HBr := Lib.hid hb
                          clear hb
                          go_wp2_with fail
                          go_ret
                          exact ⟨ret_bool HT.out.symm, HBW.out.trans ((HBr.out.trans ((al2 wr _ _).mono hzr)).mono HBW.out.size)⟩
                      · have HL := Lib.hid (gl_ext HN2.out fun j hj => HE.out j (by omega))
                        have HT : Hid (sameM m q = true) := Lib.hid (by simp only [sameM, HE0.out.1, HE0.out.2.1, HE0.out.2.2.1, HE0.out.2.2.2.1, HE0.out.2.2.2.2, HC.out, HL.out]; simp)
                        have HB2 := Lib.hid (HBW.out.trans (hb.mono HBW.out.size))
                        clear g1 g2
                        go_wp2_with fail
                        go_ret
                        exact ⟨ret_bool HT.out.symm, HB2.out⟩
            · have t_lp : ((m.lp.length : Int) != (q.lp.length : Int)) = true := by simp; omega
              have HT : Hid (sameM m q = false) := Lib.hid (by have : ¬ m.lp = q.lp := fun e => n_lp (by rw [e]); simp [sameM, this])
              go_enter Tryz.func9, Tryz.ntmps9
              go_wp2_with fail
              refine (l07Same_b hT_fr G1.out.fr G2.out.fr).mono ?_
              rintro e w1 ⟨rfl, hq⟩
              have x1 := keep_fwd hq X1.out
              have x2 := keep_fwd hq X2.out
              have hb := HB.out.trans (hq.mono HW.out)
              have g1 := G1.out.below hq (Nat.le_trans hB1 HW.out)
              have g2 := G2.out.below hq (Nat.le_trans hB2 HW.out)
              have hz := Nat.le_trans HW.out hq.size
              clear hq X1 X2 HB G1 G2 HW
              obtain ⟨⟨-, -, -, p3_1, -, -, -⟩, -, lx1⟩ := box7 x1
              obtain ⟨⟨-, -, -, r3_1, -, -, -⟩, -, lx2⟩ := box7 x2
              have X1 := Lib.hid x1
              have X2 := Lib.hid x2
              have HB := Lib.hid hb
              have G1 := Lib.hid g1
              have G2 := Lib.hid g2
              clear x1 x2 hb g1 g2 lx1 lx2
              go_wp2_with fail
              refine (l07Same_b hT_bk G1.out.bk G2.out.bk).mono ?_
              rintro e w2 ⟨rfl, hq⟩
              have x1 := keep_fwd hq X1.out
              have x2 := keep_fwd hq X2.out
              have hb := HB.out.trans (hq.mono hz)
              have g1 := G1.out.below hq (Nat.le_trans hB1 hz)
              have g2 := G2.out.below hq (Nat.le_trans hB2 hz)
              have hz2 := Nat.le_trans hz hq.size
              clear hq X1 X2 HB G1 G2 hz
              have hz := hz2
              clear hz2
              obtain ⟨⟨-, -, -, -, p4_2, p5_2, p6_2⟩, -, lx1⟩ := box7 x1
              obtain ⟨⟨-, -, -, -, r4_2, r5_2, r6_2⟩, -, lx2⟩ := box7 x2
              have X1 := Lib.hid x1
              have X2 := Lib.hid x2
              have HB := Lib.hid hb
              have G1 := Lib.hid g1
              have G2 := Lib.hid g2
              clear x1 x2 hb g1 g2 lx1 lx2
              clear p3_1 r3_1
              go_wp2_with fail
              go_ret
              exact ⟨ret_bool HT.out.symm, HB.out⟩
          · have t_cr : ((m.cr.length : Int) != (q.cr.length : Int)) = true := by simp; omega
            have HT : Hid (sameM m q = false) := Lib.hid (by have : ¬ m.cr = q.cr := fun e => n_cr (by rw [e]); simp [sameM, this])
            go_enter Tryz.func9, Tryz.ntmps9
            go_wp2_with fail
            refine (l07Same_b hT_fr G1.out.fr G2.out.fr).mono ?_
            rintro e w1 ⟨rfl, hq⟩
            have x1 := keep_fwd hq X1.out
            have x2 := keep_fwd hq X2.out
            have hb := HB.out.trans (hq.mono HW.out)
            have g1 := G1.out.below hq (Nat.le_trans hB1 HW.out)
            have g2 := G2.out.below hq (Nat.le_trans hB2 HW.out)
            have hz := Nat.le_trans HW.out hq.size
            clear hq X1 X2 HB G1 G2 HW
            obtain ⟨⟨-, -, -, p3_1, -, -, -⟩, -, lx1⟩ := box7 x1
            obtain ⟨⟨-, -, -, r3_1, -, -, -⟩, -, lx2⟩ := box7 x2
            have X1 := Lib.hid x1
            have X2 := Lib.hid x2
            have HB := Lib.hid hb
            have G1 := Lib.hid g1
            have G2 := Lib.hid g2
            clear x1 x2 hb g1 g2 lx1 lx2
            go_wp2_with fail
            refine (l07Same_b hT_bk G1.out.bk G2.out.bk).mono ?_
            rintro e w2 ⟨rfl, hq⟩
            have x1 := keep_fwd hq X1.out
            have x2 := keep_fwd hq X2.out
            have hb := HB.out.trans (hq.mono hz)
            have g1 := G1.out.below hq (Nat.le_trans hB1 hz)
            have g2 := G2.out.below hq (Nat.le_trans hB2 hz)
            have hz2 := Nat.le_trans hz hq.size
            clear hq X1 X2 HB G1 G2 hz
            have hz := hz2
            clear hz2
            obtain ⟨⟨-, -, -, -, p4_2, p5_2, p6_2⟩, -, lx1⟩ := box7 x1
            obtain ⟨⟨-, -, -, -, r4_2, r5_2, r6_2⟩, -, lx2⟩ := box7 x2
            have X1 := Lib.hid x1
            have X2 := Lib.hid x2
            have HB := Lib.hid hb
            have G1 := Lib.hid g1
            have G2 := Lib.hid g2
            clear x1 x2 hb g1 g2 lx1 lx2
            clear p3_1 r3_1
            go_wp2_with fail
            go_ret
            exact ⟨ret_bool HT.out.symm, HB.out⟩
    · have t_rk : (m.rk != q.rk) = true := by simp [e_rk]
      have HT : Hid (sameM m q = false) := Lib.hid (by simp [sameM, e_rk])
      go_enter Tryz.func9, Tryz.ntmps9
      go_wp2_with fail
      go_ret
      exact ⟨ret_bool HT.out.symm, HB.out⟩
  · have t_wd : (m.wd != q.wd) = true := by simp [e_wd]
    have HT : Hid (sameM m q = false) := Lib.hid (by simp [sameM, e_wd])
    go_enter Tryz.func9, Tryz.ntmps9
    go_wp2_with fail
    go_ret
    exact ⟨ret_bool HT.out.symm, HB.out⟩
end Go.Proofs.YtgmppfhokfifgaaGreat
