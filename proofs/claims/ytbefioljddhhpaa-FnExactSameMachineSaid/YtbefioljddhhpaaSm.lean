/-
  Contracts: SameMachine of the program. Printed by gen_sm2.py.
-/
import Derived.Test.YtbefioljddhhpaaEqs2
namespace Go.Proofs.Ytbefioljddhhpaa
set_option maxRecDepth 10000
open Go.RowKit

def sameM (m q : Mac) : Bool := decide (m.wd = q.wd) && decide (m.rk = q.rk) && decide (m.fr = q.fr) && decide (m.bk = q.bk) && decide (m.cr = q.cr) && decide (m.lp = q.lp) && decide (m.dr = q.dr)
set_option maxRecDepth 100000 in
set_option maxHeartbeats 6400000 in
theorem impl_SameMachine_any {f b c l d f2 b2 c2 l2 d2 : Value} {m q : Mac} {B1 B2 : Nat} {w : World} (h1 : SlM w B1 f b c l d m) (h2 : SlM w B2 f2 b2 c2 l2 d2 q) (hB1 : B1 ≤ w.heap.size) (hB2 : B2 ≤ w.heap.size) (h5 : Five m.lp) (k5 : Five q.lp) :
    Calls Try.prog 20 #[.agg #[.int .i64 m.wd, .int .i64 m.rk, f, b, c, l, d], .agg #[.int .i64 q.wd, .int .i64 q.rk, f2, b2, c2, l2, d2]] w fun e w' => e = .returned (.bool (sameM m q)) ∧ Below w.heap.size w w' := by
  obtain ⟨Af, kf, rfl, -⟩ := id h1.fr
  obtain ⟨Ab, kb, rfl, -⟩ := id h1.bk
  obtain ⟨Ac, kc, rfl, -⟩ := id h1.cr.cells
  obtain ⟨Al, kl, rfl, -⟩ := id h1.lp.cells
  obtain ⟨Ad, kd, rfl, -⟩ := id h1.dr
  obtain ⟨Af2, kf2, rfl, -⟩ := id h2.fr
  obtain ⟨Ab2, kb2, rfl, -⟩ := id h2.bk
  obtain ⟨Ac2, kc2, rfl, -⟩ := id h2.cr.cells
  obtain ⟨Al2, kl2, rfl, -⟩ := id h2.lp.cells
  obtain ⟨Ad2, kd2, rfl, -⟩ := id h2.dr
  have hx1 : ((w.alloc (.cells #[.int .i64 m.wd, .int .i64 m.rk, .slice Af m.fr.length kf, .slice Ab m.bk.length kb, .slice Ac m.cr.length kc, .slice Al m.lp.length kl, .slice Ad m.dr.length kd] 27)).alloc (.cells #[.int .i64 q.wd, .int .i64 q.rk, .slice Af2 q.fr.length kf2, .slice Ab2 q.bk.length kb2, .slice Ac2 q.cr.length kc2, .slice Al2 q.lp.length kl2, .slice Ad2 q.dr.length kd2] 27)).heap[w.heap.size]? = some (.cells #[.int .i64 m.wd, .int .i64 m.rk, .slice Af m.fr.length kf, .slice Ab m.bk.length kb, .slice Ac m.cr.length kc, .slice Al m.lp.length kl, .slice Ad m.dr.length kd] 27) := keep_fwd (al1 _ _) (alloc_at_ _ _)
  have hx2 : ((w.alloc (.cells #[.int .i64 m.wd, .int .i64 m.rk, .slice Af m.fr.length kf, .slice Ab m.bk.length kb, .slice Ac m.cr.length kc, .slice Al m.lp.length kl, .slice Ad m.dr.length kd] 27)).alloc (.cells #[.int .i64 q.wd, .int .i64 q.rk, .slice Af2 q.fr.length kf2, .slice Ab2 q.bk.length kb2, .slice Ac2 q.cr.length kc2, .slice Al2 q.lp.length kl2, .slice Ad2 q.dr.length kd2] 27)).heap[w.heap.size + 1]? = some (.cells #[.int .i64 q.wd, .int .i64 q.rk, .slice Af2 q.fr.length kf2, .slice Ab2 q.bk.length kb2, .slice Ac2 q.cr.length kc2, .slice Al2 q.lp.length kl2, .slice Ad2 q.dr.length kd2] 27) := by have := alloc_at_ (w.alloc (.cells #[.int .i64 m.wd, .int .i64 m.rk, .slice Af m.fr.length kf, .slice Ab m.bk.length kb, .slice Ac m.cr.length kc, .slice Al m.lp.length kl, .slice Ad m.dr.length kd] 27)) (.cells #[.int .i64 q.wd, .int .i64 q.rk, .slice Af2 q.fr.length kf2, .slice Ab2 q.bk.length kb2, .slice Ac2 q.cr.length kc2, .slice Al2 q.lp.length kl2, .slice Ad2 q.dr.length kd2] 27); rw [World.size_alloc] at this; exact this
  have hb0 : Below w.heap.size w ((w.alloc (.cells #[.int .i64 m.wd, .int .i64 m.rk, .slice Af m.fr.length kf, .slice Ab m.bk.length kb, .slice Ac m.cr.length kc, .slice Al m.lp.length kl, .slice Ad m.dr.length kd] 27)).alloc (.cells #[.int .i64 q.wd, .int .i64 q.rk, .slice Af2 q.fr.length kf2, .slice Ab2 q.bk.length kb2, .slice Ac2 q.cr.length kc2, .slice Al2 q.lp.length kl2, .slice Ad2 q.dr.length kd2] 27)) := al2 _ _ _
  have hw0 : w.heap.size ≤ ((w.alloc (.cells #[.int .i64 m.wd, .int .i64 m.rk, .slice Af m.fr.length kf, .slice Ab m.bk.length kb, .slice Ac m.cr.length kc, .slice Al m.lp.length kl, .slice Ad m.dr.length kd] 27)).alloc (.cells #[.int .i64 q.wd, .int .i64 q.rk, .slice Af2 q.fr.length kf2, .slice Ab2 q.bk.length kb2, .slice Ac2 q.cr.length kc2, .slice Al2 q.lp.length kl2, .slice Ad2 q.dr.length kd2] 27)).heap.size := hb0.size
  have g1 := h1.below hb0 hB1
  have g2 := h2.below hb0 hB2
  have X1 := Lib.hid hx1
  have X2 := Lib.hid hx2
  have HB := Lib.hid hb0
  have G1 := Lib.hid g1
  have G2 := Lib.hid g2
  have HW := Lib.hid hw0
  have H5 := Lib.hid h5
  have K5 := Lib.hid k5
  clear hx1 hx2 hb0 g1 g2 hw0 h1 h2 h5 k5
  by_cases e_wd : m.wd = q.wd
  · have t_wd : (m.wd == q.wd) = true := by simp [e_wd]
    have E_wd := Lib.hid e_wd
    clear e_wd
    by_cases e_rk : m.rk = q.rk
    · have t_rk : (m.rk == q.rk) = true := by simp [e_rk]
      have E_rk := Lib.hid e_rk
      clear e_rk
      cases hT_fr : decide (m.fr = q.fr)
      · have HT : Hid (sameM m q = false) := Lib.hid (by simp only [sameM, hT_fr]; simp)
        go_enter Try.func20, Try.ntmps20
        go_wp2_with fail
        refine (sameLists_is hT_fr G1.out.fr G2.out.fr).mono ?_
        rintro e w1 ⟨rfl, hq⟩
        have x1 := keep_fwd hq X1.out
        have x2 := keep_fwd hq X2.out
        have hb := HB.out.trans (hq.mono HW.out)
        have g1 := G1.out.below hq (Nat.le_trans hB1 HW.out)
        have g2 := G2.out.below hq (Nat.le_trans hB2 HW.out)
        have hz := Nat.le_trans HW.out hq.size
        clear hq X1 X2 HB G1 G2 HW
        obtain ⟨⟨-, -, -, p3_1, -, -, -⟩, -, lx1⟩ := box7 x1
        obtain ⟨⟨-, -, -, r3_1, -, -, -⟩, -, lx2⟩ := box7 x2
        have X1 := Lib.hid x1
        have X2 := Lib.hid x2
        have HB := Lib.hid hb
        have G1 := Lib.hid g1
        have G2 := Lib.hid g2
        clear x1 x2 hb g1 g2 lx1 lx2
        go_wp2_with fail
        go_ret
        exact ⟨ret_bool HT.out.symm, HB.out⟩
      · skip
        cases hT_bk : decide (m.bk = q.bk)
        · have HT : Hid (sameM m q = false) := Lib.hid (by simp only [sameM, hT_bk]; simp)
          go_enter Try.func20, Try.ntmps20
          go_wp2_with fail
          refine (sameLists_is hT_fr G1.out.fr G2.out.fr).mono ?_
          rintro e w1 ⟨rfl, hq⟩
          have x1 := keep_fwd hq X1.out
          have x2 := keep_fwd hq X2.out
          have hb := HB.out.trans (hq.mono HW.out)
          have g1 := G1.out.below hq (Nat.le_trans hB1 HW.out)
          have g2 := G2.out.below hq (Nat.le_trans hB2 HW.out)
          have hz := Nat.le_trans HW.out hq.size
          clear hq X1 X2 HB G1 G2 HW
          obtain ⟨⟨-, -, -, p3_1, -, -, -⟩, -, lx1⟩ := box7 x1
          obtain ⟨⟨-, -, -, r3_1, -, -, -⟩, -, lx2⟩ := box7 x2
          have X1 := Lib.hid x1
          have X2 := Lib.hid x2
          have HB := Lib.hid hb
          have G1 := Lib.hid g1
          have G2 := Lib.hid g2
          clear x1 x2 hb g1 g2 lx1 lx2
          go_wp2_with fail
          refine (sameLists_is hT_bk G1.out.bk G2.out.bk).mono ?_
          rintro e w2 ⟨rfl, hq⟩
          have x1 := keep_fwd hq X1.out
          have x2 := keep_fwd hq X2.out
          have hb := HB.out.trans (hq.mono hz)
          have g1 := G1.out.below hq (Nat.le_trans hB1 hz)
          have g2 := G2.out.below hq (Nat.le_trans hB2 hz)
          have hz2 := Nat.le_trans hz hq.size
          clear hq X1 X2 HB G1 G2 hz
          have hz := hz2
          clear hz2
          obtain ⟨⟨-, -, -, -, p4_2, -, -⟩, -, lx1⟩ := box7 x1
          obtain ⟨⟨-, -, -, -, r4_2, -, -⟩, -, lx2⟩ := box7 x2
          have X1 := Lib.hid x1
          have X2 := Lib.hid x2
          have HB := Lib.hid hb
          have G1 := Lib.hid g1
          have G2 := Lib.hid g2
          clear x1 x2 hb g1 g2 lx1 lx2
          clear p3_1 r3_1
          go_wp2_with fail
          go_ret
          exact ⟨ret_bool HT.out.symm, HB.out⟩
        · skip
          cases hT_cr : decide (m.cr = q.cr)
          · have HT : Hid (sameM m q = false) := Lib.hid (by simp only [sameM, hT_cr]; simp)
            go_enter Try.func20, Try.ntmps20
            go_wp2_with fail
            refine (sameLists_is hT_fr G1.out.fr G2.out.fr).mono ?_
            rintro e w1 ⟨rfl, hq⟩
            have x1 := keep_fwd hq X1.out
            have x2 := keep_fwd hq X2.out
            have hb := HB.out.trans (hq.mono HW.out)
            have g1 := G1.out.below hq (Nat.le_trans hB1 HW.out)
            have g2 := G2.out.below hq (Nat.le_trans hB2 HW.out)
            have hz := Nat.le_trans HW.out hq.size
            clear hq X1 X2 HB G1 G2 HW
            obtain ⟨⟨-, -, -, p3_1, -, -, -⟩, -, lx1⟩ := box7 x1
            obtain ⟨⟨-, -, -, r3_1, -, -, -⟩, -, lx2⟩ := box7 x2
            have X1 := Lib.hid x1
            have X2 := Lib.hid x2
            have HB := Lib.hid hb
            have G1 := Lib.hid g1
            have G2 := Lib.hid g2
            clear x1 x2 hb g1 g2 lx1 lx2
            go_wp2_with fail
            refine (sameLists_is hT_bk G1.out.bk G2.out.bk).mono ?_
            rintro e w2 ⟨rfl, hq⟩
            have x1 := keep_fwd hq X1.out
            have x2 := keep_fwd hq X2.out
            have hb := HB.out.trans (hq.mono hz)
            have g1 := G1.out.below hq (Nat.le_trans hB1 hz)
            have g2 := G2.out.below hq (Nat.le_trans hB2 hz)
            have hz2 := Nat.le_trans hz hq.size
            clear hq X1 X2 HB G1 G2 hz
            have hz := hz2
            clear hz2
            obtain ⟨⟨-, -, -, -, p4_2, -, -⟩, -, lx1⟩ := box7 x1
            obtain ⟨⟨-, -, -, -, r4_2, -, -⟩, -, lx2⟩ := box7 x2
            have X1 := Lib.hid x1
            have X2 := Lib.hid x2
            have HB := Lib.hid hb
            have G1 := Lib.hid g1
            have G2 := Lib.hid g2
            clear x1 x2 hb g1 g2 lx1 lx2
            clear p3_1 r3_1
            go_wp2_with fail
            refine (equalCars_is hT_cr G1.out.cr G2.out.cr).mono ?_
            rintro e w3 ⟨rfl, hq⟩
            have x1 := keep_fwd hq X1.out
            have x2 := keep_fwd hq X2.out
            have hb := HB.out.trans (hq.mono hz)
            have g1 := G1.out.below hq (Nat.le_trans hB1 hz)
            have g2 := G2.out.below hq (Nat.le_trans hB2 hz)
            have hz2 := Nat.le_trans hz hq.size
            clear hq X1 X2 HB G1 G2 hz
            have hz := hz2
            clear hz2
            obtain ⟨⟨-, -, -, -, -, -, p6_3⟩, -, lx1⟩ := box7 x1
            obtain ⟨⟨-, -, -, -, -, -, r6_3⟩, -, lx2⟩ := box7 x2
            have X1 := Lib.hid x1
            have X2 := Lib.hid x2
            have HB := Lib.hid hb
            have G1 := Lib.hid g1
            have G2 := Lib.hid g2
            clear x1 x2 hb g1 g2 lx1 lx2
            clear p4_2 r4_2
            go_wp2_with fail
            go_ret
            exact ⟨ret_bool HT.out.symm, HB.out⟩
          · skip
            cases hT_dr : decide (m.dr = q.dr)
            · have HT : Hid (sameM m q = false) := Lib.hid (by simp only [sameM, hT_dr]; simp)
              go_enter Try.func20, Try.ntmps20
              go_wp2_with fail
              refine (sameLists_is hT_fr G1.out.fr G2.out.fr).mono ?_
              rintro e w1 ⟨rfl, hq⟩
              have x1 := keep_fwd hq X1.out
              have x2 := keep_fwd hq X2.out
              have hb := HB.out.trans (hq.mono HW.out)
              have g1 := G1.out.below hq (Nat.le_trans hB1 HW.out)
              have g2 := G2.out.below hq (Nat.le_trans hB2 HW.out)
              have hz := Nat.le_trans HW.out hq.size
              clear hq X1 X2 HB G1 G2 HW
              obtain ⟨⟨-, -, -, p3_1, -, -, -⟩, -, lx1⟩ := box7 x1
              obtain ⟨⟨-, -, -, r3_1, -, -, -⟩, -, lx2⟩ := box7 x2
              have X1 := Lib.hid x1
              have X2 := Lib.hid x2
              have HB := Lib.hid hb
              have G1 := Lib.hid g1
              have G2 := Lib.hid g2
              clear x1 x2 hb g1 g2 lx1 lx2
              go_wp2_with fail
              refine (sameLists_is hT_bk G1.out.bk G2.out.bk).mono ?_
              rintro e w2 ⟨rfl, hq⟩
              have x1 := keep_fwd hq X1.out
              have x2 := keep_fwd hq X2.out
              have hb := HB.out.trans (hq.mono hz)
              have g1 := G1.out.below hq (Nat.le_trans hB1 hz)
              have g2 := G2.out.below hq (Nat.le_trans hB2 hz)
              have hz2 := Nat.le_trans hz hq.size
              clear hq X1 X2 HB G1 G2 hz
              have hz := hz2
              clear hz2
              obtain ⟨⟨-, -, -, -, p4_2, -, -⟩, -, lx1⟩ := box7 x1
              obtain ⟨⟨-, -, -, -, r4_2, -, -⟩, -, lx2⟩ := box7 x2
              have X1 := Lib.hid x1
              have X2 := Lib.hid x2
              have HB := Lib.hid hb
              have G1 := Lib.hid g1
              have G2 := Lib.hid g2
              clear x1 x2 hb g1 g2 lx1 lx2
              clear p3_1 r3_1
              go_wp2_with fail
              refine (equalCars_is hT_cr G1.out.cr G2.out.cr).mono ?_
              rintro e w3 ⟨rfl, hq⟩
              have x1 := keep_fwd hq X1.out
              have x2 := keep_fwd hq X2.out
              have hb := HB.out.trans (hq.mono hz)
              have g1 := G1.out.below hq (Nat.le_trans hB1 hz)
              have g2 := G2.out.below hq (Nat.le_trans hB2 hz)
              have hz2 := Nat.le_trans hz hq.size
              clear hq X1 X2 HB G1 G2 hz
              have hz := hz2
              clear hz2
              obtain ⟨⟨-, -, -, -, -, -, p6_3⟩, -, lx1⟩ := box7 x1
              obtain ⟨⟨-, -, -, -, -, -, r6_3⟩, -, lx2⟩ := box7 x2
              have X1 := Lib.hid x1
              have X2 := Lib.hid x2
              have HB := Lib.hid hb
              have G1 := Lib.hid g1
              have G2 := Lib.hid g2
              clear x1 x2 hb g1 g2 lx1 lx2
              clear p4_2 r4_2
              go_wp2_with fail
              refine (equalInts_is hT_dr G1.out.dr G2.out.dr).mono ?_
              rintro e w4 ⟨rfl, hq⟩
              have x1 := keep_fwd hq X1.out
              have x2 := keep_fwd hq X2.out
              have hb := HB.out.trans (hq.mono hz)
              have g1 := G1.out.below hq (Nat.le_trans hB1 hz)
              have g2 := G2.out.below hq (Nat.le_trans hB2 hz)
              have hz2 := Nat.le_trans hz hq.size
              clear hq X1 X2 HB G1 G2 hz
              have hz := hz2
              clear hz2
              obtain ⟨⟨-, -, -, -, -, p5_4, -⟩, -, lx1⟩ := box7 x1
              obtain ⟨⟨-, -, -, -, -, r5_4, -⟩, -, lx2⟩ := box7 x2
              have X1 := Lib.hid x1
              have X2 := Lib.hid x2
              have HB := Lib.hid hb
              have G1 := Lib.hid g1
              have G2 := Lib.hid g2
              clear x1 x2 hb g1 g2 lx1 lx2
              clear p6_3 r6_3
              go_wp2_with fail
              go_ret
              exact ⟨ret_bool HT.out.symm, HB.out⟩
            · skip
              cases hT_lp : decide (m.lp = q.lp)
              · have HT : Hid (sameM m q = false) := Lib.hid (by simp only [sameM, hT_lp]; simp)
                go_enter Try.func20, Try.ntmps20
                go_wp2_with fail
                refine (sameLists_is hT_fr G1.out.fr G2.out.fr).mono ?_
                rintro e w1 ⟨rfl, hq⟩
                have x1 := keep_fwd hq X1.out
                have x2 := keep_fwd hq X2.out
                have hb := HB.out.trans (hq.mono HW.out)
                have g1 := G1.out.below hq (Nat.le_trans hB1 HW.out)
                have g2 := G2.out.below hq (Nat.le_trans hB2 HW.out)
                have hz := Nat.le_trans HW.out hq.size
                clear hq X1 X2 HB G1 G2 HW
                obtain ⟨⟨-, -, -, p3_1, -, -, -⟩, -, lx1⟩ := box7 x1
                obtain ⟨⟨-, -, -, r3_1, -, -, -⟩, -, lx2⟩ := box7 x2
                have X1 := Lib.hid x1
                have X2 := Lib.hid x2
                have HB := Lib.hid hb
                have G1 := Lib.hid g1
                have G2 := Lib.hid g2
                clear x1 x2 hb g1 g2 lx1 lx2
                go_wp2_with fail
                refine (sameLists_is hT_bk G1.out.bk G2.out.bk).mono ?_
                rintro e w2 ⟨rfl, hq⟩
                have x1 := keep_fwd hq X1.out
                have x2 := keep_fwd hq X2.out
                have hb := HB.out.trans (hq.mono hz)
                have g1 := G1.out.below hq (Nat.le_trans hB1 hz)
                have g2 := G2.out.below hq (Nat.le_trans hB2 hz)
                have hz2 := Nat.le_trans hz hq.size
                clear hq X1 X2 HB G1 G2 hz
                have hz := hz2
                clear hz2
                obtain ⟨⟨-, -, -, -, p4_2, -, -⟩, -, lx1⟩ := box7 x1
                obtain ⟨⟨-, -, -, -, r4_2, -, -⟩, -, lx2⟩ := box7 x2
                have X1 := Lib.hid x1
                have X2 := Lib.hid x2
                have HB := Lib.hid hb
                have G1 := Lib.hid g1
                have G2 := Lib.hid g2
                clear x1 x2 hb g1 g2 lx1 lx2
                clear p3_1 r3_1
                go_wp2_with fail
                refine (equalCars_is hT_cr G1.out.cr G2.out.cr).mono ?_
                rintro e w3 ⟨rfl, hq⟩
                have x1 := keep_fwd hq X1.out
                have x2 := keep_fwd hq X2.out
                have hb := HB.out.trans (hq.mono hz)
                have g1 := G1.out.below hq (Nat.le_trans hB1 hz)
                have g2 := G2.out.below hq (Nat.le_trans hB2 hz)
                have hz2 := Nat.le_trans hz hq.size
                clear hq X1 X2 HB G1 G2 hz
                have hz := hz2
                clear hz2
                obtain ⟨⟨-, -, -, -, -, -, p6_3⟩, -, lx1⟩ := box7 x1
                obtain ⟨⟨-, -, -, -, -, -, r6_3⟩, -, lx2⟩ := box7 x2
                have X1 := Lib.hid x1
                have X2 := Lib.hid x2
                have HB := Lib.hid hb
                have G1 := Lib.hid g1
                have G2 := Lib.hid g2
                clear x1 x2 hb g1 g2 lx1 lx2
                clear p4_2 r4_2
                go_wp2_with fail
                refine (equalInts_is hT_dr G1.out.dr G2.out.dr).mono ?_
                rintro e w4 ⟨rfl, hq⟩
                have x1 := keep_fwd hq X1.out
                have x2 := keep_fwd hq X2.out
                have hb := HB.out.trans (hq.mono hz)
                have g1 := G1.out.below hq (Nat.le_trans hB1 hz)
                have g2 := G2.out.below hq (Nat.le_trans hB2 hz)
                have hz2 := Nat.le_trans hz hq.size
                clear hq X1 X2 HB G1 G2 hz
                have hz := hz2
                clear hz2
                obtain ⟨⟨-, -, -, -, -, p5_4, -⟩, -, lx1⟩ := box7 x1
                obtain ⟨⟨-, -, -, -, -, r5_4, -⟩, -, lx2⟩ := box7 x2
                have X1 := Lib.hid x1
                have X2 := Lib.hid x2
                have HB := Lib.hid hb
                have G1 := Lib.hid g1
                have G2 := Lib.hid g2
                clear x1 x2 hb g1 g2 lx1 lx2
                clear p6_3 r6_3
                go_wp2_with fail
                refine (equalInfs_is hT_lp G1.out.lp G2.out.lp (Nat.le_trans hB1 hz) (Nat.le_trans hB2 hz) H5.out K5.out).mono ?_
                rintro e w5 ⟨rfl, hq⟩
                have x1 := keep_fwd hq X1.out
                have x2 := keep_fwd hq X2.out
                have hb := HB.out.trans (hq.mono hz)
                have g1 := G1.out.below hq (Nat.le_trans hB1 hz)
                have g2 := G2.out.below hq (Nat.le_trans hB2 hz)
                have hz2 := Nat.le_trans hz hq.size
                clear hq X1 X2 HB G1 G2 hz
                have hz := hz2
                clear hz2
                obtain ⟨⟨-, -, -, -, -, -, -⟩, -, lx1⟩ := box7 x1
                obtain ⟨⟨-, -, -, -, -, -, -⟩, -, lx2⟩ := box7 x2
                have X1 := Lib.hid x1
                have X2 := Lib.hid x2
                have HB := Lib.hid hb
                have G1 := Lib.hid g1
                have G2 := Lib.hid g2
                clear x1 x2 hb g1 g2 lx1 lx2
                clear p5_4 r5_4
                go_wp2_with fail
                go_ret
                exact ⟨ret_bool HT.out.symm, HB.out⟩
              · have HT : Hid (sameM m q = true) := Lib.hid (by simp only [sameM, E_wd.out, E_rk.out, hT_fr, hT_bk, hT_cr, hT_dr, hT_lp]; simp)
                go_enter Try.func20, Try.ntmps20
                go_wp2_with fail
                refine (sameLists_is hT_fr G1.out.fr G2.out.fr).mono ?_
                rintro e w1 ⟨rfl, hq⟩
                have x1 := keep_fwd hq X1.out
                have x2 := keep_fwd hq X2.out
                have hb := HB.out.trans (hq.mono HW.out)
                have g1 := G1.out.below hq (Nat.le_trans hB1 HW.out)
                have g2 := G2.out.below hq (Nat.le_trans hB2 HW.out)
                have hz := Nat.le_trans HW.out hq.size
                clear hq X1 X2 HB G1 G2 HW
                obtain ⟨⟨-, -, -, p3_1, -, -, -⟩, -, lx1⟩ := box7 x1
                obtain ⟨⟨-, -, -, r3_1, -, -, -⟩, -, lx2⟩ := box7 x2
                have X1 := Lib.hid x1
                have X2 := Lib.hid x2
                have HB := Lib.hid hb
                have G1 := Lib.hid g1
                have G2 := Lib.hid g2
                clear x1 x2 hb g1 g2 lx1 lx2
                go_wp2_with fail
                refine (sameLists_is hT_bk G1.out.bk G2.out.bk).mono ?_
                rintro e w2 ⟨rfl, hq⟩
                have x1 := keep_fwd hq X1.out
                have x2 := keep_fwd hq X2.out
                have hb := HB.out.trans (hq.mono hz)
                have g1 := G1.out.below hq (Nat.le_trans hB1 hz)
                have g2 := G2.out.below hq (Nat.le_trans hB2 hz)
                have hz2 := Nat.le_trans hz hq.size
                clear hq X1 X2 HB G1 G2 hz
                have hz := hz2
                clear hz2
                obtain ⟨⟨-, -, -, -, p4_2, -, -⟩, -, lx1⟩ := box7 x1
                obtain ⟨⟨-, -, -, -, r4_2, -, -⟩, -, lx2⟩ := box7 x2
                have X1 := Lib.hid x1
                have X2 := Lib.hid x2
                have HB := Lib.hid hb
                have G1 := Lib.hid g1
                have G2 := Lib.hid g2
                clear x1 x2 hb g1 g2 lx1 lx2
                clear p3_1 r3_1
                go_wp2_with fail
                refine (equalCars_is hT_cr G1.out.cr G2.out.cr).mono ?_
                rintro e w3 ⟨rfl, hq⟩
                have x1 := keep_fwd hq X1.out
                have x2 := keep_fwd hq X2.out
                have hb := HB.out.trans (hq.mono hz)
                have g1 := G1.out.below hq (Nat.le_trans hB1 hz)
                have g2 := G2.out.below hq (Nat.le_trans hB2 hz)
                have hz2 := Nat.le_trans hz hq.size
                clear hq X1 X2 HB G1 G2 hz
                have hz := hz2
                clear hz2
                obtain ⟨⟨-, -, -, -, -, -, p6_3⟩, -, lx1⟩ := box7 x1
                obtain ⟨⟨-, -, -, -, -, -, r6_3⟩, -, lx2⟩ := box7 x2
                have X1 := Lib.hid x1
                have X2 := Lib.hid x2
                have HB := Lib.hid hb
                have G1 := Lib.hid g1
                have G2 := Lib.hid g2
                clear x1 x2 hb g1 g2 lx1 lx2
                clear p4_2 r4_2
                go_wp2_with fail
                refine (equalInts_is hT_dr G1.out.dr G2.out.dr).mono ?_
                rintro e w4 ⟨rfl, hq⟩
                have x1 := keep_fwd hq X1.out
                have x2 := keep_fwd hq X2.out
                have hb := HB.out.trans (hq.mono hz)
                have g1 := G1.out.below hq (Nat.le_trans hB1 hz)
                have g2 := G2.out.below hq (Nat.le_trans hB2 hz)
                have hz2 := Nat.le_trans hz hq.size
                clear hq X1 X2 HB G1 G2 hz
                have hz := hz2
                clear hz2
                obtain ⟨⟨-, -, -, -, -, p5_4, -⟩, -, lx1⟩ := box7 x1
                obtain ⟨⟨-, -, -, -, -, r5_4, -⟩, -, lx2⟩ := box7 x2
                have X1 := Lib.hid x1
                have X2 := Lib.hid x2
                have HB := Lib.hid hb
                have G1 := Lib.hid g1
                have G2 := Lib.hid g2
                clear x1 x2 hb g1 g2 lx1 lx2
                clear p6_3 r6_3
                go_wp2_with fail
                refine (equalInfs_is hT_lp G1.out.lp G2.out.lp (Nat.le_trans hB1 hz) (Nat.le_trans hB2 hz) H5.out K5.out).mono ?_
                rintro e w5 ⟨rfl, hq⟩
                have x1 := keep_fwd hq X1.out
                have x2 := keep_fwd hq X2.out
                have hb := HB.out.trans (hq.mono hz)
                have g1 := G1.out.below hq (Nat.le_trans hB1 hz)
                have g2 := G2.out.below hq (Nat.le_trans hB2 hz)
                have hz2 := Nat.le_trans hz hq.size
                clear hq X1 X2 HB G1 G2 hz
                have hz := hz2
                clear hz2
                obtain ⟨⟨-, -, -, -, -, -, -⟩, -, lx1⟩ := box7 x1
                obtain ⟨⟨-, -, -, -, -, -, -⟩, -, lx2⟩ := box7 x2
                have X1 := Lib.hid x1
                have X2 := Lib.hid x2
                have HB := Lib.hid hb
                have G1 := Lib.hid g1
                have G2 := Lib.hid g2
                clear x1 x2 hb g1 g2 lx1 lx2
                clear p5_4 r5_4
                go_wp2_with fail
                go_ret
                exact ⟨ret_bool HT.out.symm, HB.out⟩
    · have t_rk : (m.rk == q.rk) = false := by simp [e_rk]
      have HT : Hid (sameM m q = false) := Lib.hid (by simp [sameM, e_rk])
      go_enter Try.func20, Try.ntmps20
      go_wp2_with fail
      go_ret
      exact ⟨ret_bool HT.out.symm, HB.out⟩
  · have t_wd : (m.wd == q.wd) = false := by simp [e_wd]
    have HT : Hid (sameM m q = false) := Lib.hid (by simp [sameM, e_wd])
    go_enter Try.func20, Try.ntmps20
    go_wp2_with fail
    go_ret
    exact ⟨ret_bool HT.out.symm, HB.out⟩
end Go.Proofs.Ytbefioljddhhpaa
