/-
  Contracts: the laws' eqMachine, heldMachine, szMachine, markMachine. Printed by gen_mac.py.
-/
import Derived.Test.YtbefioljddhhpaaGreatGmm
namespace Go.Proofs.YtbefioljddhhpaaGreat
set_option maxRecDepth 10000
open Go.RowKit

set_option maxHeartbeats 3200000 in
theorem eqMac_yes {f b c l d f2 b2 c2 l2 d2 : Value} {m : Mac} {B1 B2 : Nat} {w : World} (h1 : SlM w B1 f b c l d m) (h2 : SlM w B2 f2 b2 c2 l2 d2 m) (hB1 : B1 ≤ w.heap.size) (hB2 : B2 ≤ w.heap.size) :
    Calls Tryz.prog 9 #[.agg #[.int .i64 m.wd, .int .i64 m.rk, f, b, c, l, d], .agg #[.int .i64 m.wd, .int .i64 m.rk, f2, b2, c2, l2, d2]] w fun e w' => e = .returned (.bool true) ∧ Below w.heap.size w w' := by
  obtain ⟨Af, kf, rfl, -⟩ := id (h1.fr)
  obtain ⟨Ab, kb, rfl, -⟩ := id (h1.bk)
  obtain ⟨Ac, kc, rfl, -⟩ := id (h1.cr.cells)
  obtain ⟨Al, kl, rfl, -⟩ := id (h1.lp.cells)
  obtain ⟨Ad, kd, rfl, -⟩ := id (h1.dr)
  obtain ⟨Af2, kf2, rfl, -⟩ := id (h2.fr)
  obtain ⟨Ab2, kb2, rfl, -⟩ := id (h2.bk)
  obtain ⟨Ac2, kc2, rfl, -⟩ := id (h2.cr.cells)
  obtain ⟨Al2, kl2, rfl, -⟩ := id (h2.lp.cells)
  obtain ⟨Ad2, kd2, rfl, -⟩ := id (h2.dr)
  have hx1 : ((w.alloc (.cells #[.int .i64 m.wd, .int .i64 m.rk, .slice Af m.fr.length kf, .slice Ab m.bk.length kb, .slice Ac m.cr.length kc, .slice Al m.lp.length kl, .slice Ad m.dr.length kd] 36)).alloc (.cells #[.int .i64 m.wd, .int .i64 m.rk, .slice Af2 m.fr.length kf2, .slice Ab2 m.bk.length kb2, .slice Ac2 m.cr.length kc2, .slice Al2 m.lp.length kl2, .slice Ad2 m.dr.length kd2] 36)).heap[w.heap.size]? = some (.cells #[.int .i64 m.wd, .int .i64 m.rk, .slice Af m.fr.length kf, .slice Ab m.bk.length kb, .slice Ac m.cr.length kc, .slice Al m.lp.length kl, .slice Ad m.dr.length kd] 36) := keep_fwd (al1 _ _) (alloc_at_ _ _)
  have hx2 : ((w.alloc (.cells #[.int .i64 m.wd, .int .i64 m.rk, .slice Af m.fr.length kf, .slice Ab m.bk.length kb, .slice Ac m.cr.length kc, .slice Al m.lp.length kl, .slice Ad m.dr.length kd] 36)).alloc (.cells #[.int .i64 m.wd, .int .i64 m.rk, .slice Af2 m.fr.length kf2, .slice Ab2 m.bk.length kb2, .slice Ac2 m.cr.length kc2, .slice Al2 m.lp.length kl2, .slice Ad2 m.dr.length kd2] 36)).heap[w.heap.size + 1]? = some (.cells #[.int .i64 m.wd, .int .i64 m.rk, .slice Af2 m.fr.length kf2, .slice Ab2 m.bk.length kb2, .slice Ac2 m.cr.length kc2, .slice Al2 m.lp.length kl2, .slice Ad2 m.dr.length kd2] 36) := by have := alloc_at_ (w.alloc (.cells #[.int .i64 m.wd, .int .i64 m.rk, .slice Af m.fr.length kf, .slice Ab m.bk.length kb, .slice Ac m.cr.length kc, .slice Al m.lp.length kl, .slice Ad m.dr.length kd] 36)) (.cells #[.int .i64 m.wd, .int .i64 m.rk, .slice Af2 m.fr.length kf2, .slice Ab2 m.bk.length kb2, .slice Ac2 m.cr.length kc2, .slice Al2 m.lp.length kl2, .slice Ad2 m.dr.length kd2] 36); rw [World.size_alloc] at this; exact this
  have hb0 : Below w.heap.size w ((w.alloc (.cells #[.int .i64 m.wd, .int .i64 m.rk, .slice Af m.fr.length kf, .slice Ab m.bk.length kb, .slice Ac m.cr.length kc, .slice Al m.lp.length kl, .slice Ad m.dr.length kd] 36)).alloc (.cells #[.int .i64 m.wd, .int .i64 m.rk, .slice Af2 m.fr.length kf2, .slice Ab2 m.bk.length kb2, .slice Ac2 m.cr.length kc2, .slice Al2 m.lp.length kl2, .slice Ad2 m.dr.length kd2] 36)) := al2 _ _ _
  have hw0 : w.heap.size ≤ ((w.alloc (.cells #[.int .i64 m.wd, .int .i64 m.rk, .slice Af m.fr.length kf, .slice Ab m.bk.length kb, .slice Ac m.cr.length kc, .slice Al m.lp.length kl, .slice Ad m.dr.length kd] 36)).alloc (.cells #[.int .i64 m.wd, .int .i64 m.rk, .slice Af2 m.fr.length kf2, .slice Ab2 m.bk.length kb2, .slice Ac2 m.cr.length kc2, .slice Al2 m.lp.length kl2, .slice Ad2 m.dr.length kd2] 36)).heap.size := hb0.size
  have g1 := h1.below hb0 hB1
  have g2 := h2.below hb0 hB2
  have X1 := Lib.hid hx1
  have X2 := Lib.hid hx2
  have HB := Lib.hid hb0
  have G1 := Lib.hid g1
  have G2 := Lib.hid g2
  have HW := Lib.hid hw0
  clear hx1 hx2 hb0 g1 g2 hw0 h1 h2
  go_enter Tryz.func9, Tryz.ntmps9
  go_wp2_with fail
  refine (eqSS_yes G1.out.fr G2.out.fr).mono ?_
  rintro e w1 ⟨rfl, hq⟩
  have x1 := keep_fwd hq X1.out
  have x2 := keep_fwd hq X2.out
  have hb := HB.out.trans (hq.mono HW.out)
  have g1 := G1.out.below hq (Nat.le_trans hB1 HW.out)
  have g2 := G2.out.below hq (Nat.le_trans hB2 HW.out)
  have hz := Nat.le_trans HW.out hq.size
  clear hq X1 X2 HB G1 G2 HW
  obtain ⟨⟨-, -, -, p3, -, -, -⟩, -, -⟩ := box7 x1
  obtain ⟨⟨-, -, -, q3, -, -, -⟩, -, -⟩ := box7 x2
  have X1 := Lib.hid x1
  have X2 := Lib.hid x2
  have HB := Lib.hid hb
  have G1 := Lib.hid g1
  have G2 := Lib.hid g2
  clear x1 x2 hb g1 g2
  go_wp2_with fail
  refine (eqSS_yes G1.out.bk G2.out.bk).mono ?_
  rintro e w2 ⟨rfl, hq⟩
  have x1 := keep_fwd hq X1.out
  have x2 := keep_fwd hq X2.out
  have hb := HB.out.trans (hq.mono hz)
  have g1 := G1.out.below hq (Nat.le_trans hB1 hz)
  have g2 := G2.out.below hq (Nat.le_trans hB2 hz)
  have hz := Nat.le_trans hz hq.size
  clear hq X1 X2 HB G1 G2
  obtain ⟨⟨-, -, -, -, p4, -, -⟩, -, -⟩ := box7 x1
  obtain ⟨⟨-, -, -, -, q4, -, -⟩, -, -⟩ := box7 x2
  have X1 := Lib.hid x1
  have X2 := Lib.hid x2
  have HB := Lib.hid hb
  have G1 := Lib.hid g1
  have G2 := Lib.hid g2
  clear x1 x2 hb g1 g2
  go_wp2_with fail
  refine (eqCars_yes G1.out.cr G2.out.cr (Nat.le_trans hB1 hz) (Nat.le_trans hB2 hz)).mono ?_
  rintro e w3 ⟨rfl, hq⟩
  have x1 := keep_fwd hq X1.out
  have x2 := keep_fwd hq X2.out
  have hb := HB.out.trans (hq.mono hz)
  have g1 := G1.out.below hq (Nat.le_trans hB1 hz)
  have g2 := G2.out.below hq (Nat.le_trans hB2 hz)
  have hz := Nat.le_trans hz hq.size
  clear hq X1 X2 HB G1 G2
  obtain ⟨⟨-, -, -, -, -, p5, -⟩, -, -⟩ := box7 x1
  obtain ⟨⟨-, -, -, -, -, q5, -⟩, -, -⟩ := box7 x2
  have X1 := Lib.hid x1
  have X2 := Lib.hid x2
  have HB := Lib.hid hb
  have G1 := Lib.hid g1
  have G2 := Lib.hid g2
  clear x1 x2 hb g1 g2
  go_wp2_with fail
  refine (eqInfs_yes G1.out.lp G2.out.lp (Nat.le_trans hB1 hz) (Nat.le_trans hB2 hz)).mono ?_
  rintro e w4 ⟨rfl, hq⟩
  have x1 := keep_fwd hq X1.out
  have x2 := keep_fwd hq X2.out
  have hb := HB.out.trans (hq.mono hz)
  have g1 := G1.out.below hq (Nat.le_trans hB1 hz)
  have g2 := G2.out.below hq (Nat.le_trans hB2 hz)
  have hz := Nat.le_trans hz hq.size
  clear hq X1 X2 HB G1 G2
  obtain ⟨⟨-, -, -, -, -, -, p6⟩, -, -⟩ := box7 x1
  obtain ⟨⟨-, -, -, -, -, -, q6⟩, -, -⟩ := box7 x2
  have X1 := Lib.hid x1
  have X2 := Lib.hid x2
  have HB := Lib.hid hb
  have G1 := Lib.hid g1
  have G2 := Lib.hid g2
  clear x1 x2 hb g1 g2
  go_wp2_with fail
  refine (eqInts_yes G1.out.dr G2.out.dr rfl).mono ?_
  rintro e w5 ⟨rfl, hq⟩
  have HB2 := Lib.hid (HB.out.trans (hq.mono hz))
  clear hq
  go_wp2_with fail
  go_ret
  exact ⟨rfl, HB2.out⟩
theorem Mac.mark_sl {w : World} {B : Nat} {f b c l d : Value} {m : Mac} {k : Int} (h : SlM w B f b c l d (m.mark k)) : SlS w B f (markSS k m.fr) ∧ SlS w B b (markSS (k + lenSS m.fr) m.bk) ∧ SlK w B c (markK (k + lenSS m.fr + lenSS m.bk) m.cr.length) ∧ SlF w B l (markSS (k + lenSS m.fr + lenSS m.bk + 2 * m.cr.length) m.lp) ∧ Sl w B d (countFrom (k + lenSS m.fr + lenSS m.bk + 2 * m.cr.length + lenSS m.lp) m.dr.length) :=
  ⟨h.fr, h.bk, h.cr, h.lp, h.dr⟩
theorem Mac.mark_lens (k : Int) (m : Mac) : (m.mark k).fr.length = m.fr.length ∧ (m.mark k).bk.length = m.bk.length ∧ (m.mark k).cr.length = m.cr.length ∧ (m.mark k).lp.length = m.lp.length ∧ (m.mark k).dr.length = m.dr.length :=
  ⟨markSS_len _ _, markSS_len _ _, markK_len _ _, markSS_len _ _, countFrom_len _ _⟩
/-- The readings of a marked machine, kept together. -/
structure MkM (w : World) (B : Nat) (f b c l d : Value) (m : Mac) (k x1 x2 x3 x4 : Int) : Prop where
  fr : SlS w B f (markSS k m.fr)
  bk : SlS w B b (markSS x1 m.bk)
  cr : SlK w B c (markK x2 m.cr.length)
  lp : SlF w B l (markSS x3 m.lp)
  dr : Sl w B d (countFrom x4 m.dr.length)
theorem MkM.below {w w' : World} {B B' : Nat} {f b c l d : Value} {m : Mac} {k x1 x2 x3 x4 : Int} (h : MkM w B f b c l d m k x1 x2 x3 x4) (hb : Below B' w w') (hB : B ≤ B') : MkM w' B f b c l d m k x1 x2 x3 x4 :=
  ⟨h.fr.below hb hB, h.bk.below hb hB, SlC.below h.cr hb hB, SlC.below h.lp hb hB, h.dr.below hb hB⟩
set_option maxHeartbeats 3200000 in
theorem heldMac_any {f b c l d : Value} {m : Mac} {B : Nat} {k : Int} {w : World} (h : SlM w B f b c l d (m.mark k)) (hB : B ≤ w.heap.size) (h5 : Five m.lp) (hsz : m.marks ≤ 8000000) (hcr : m.cr.length ≤ 1048576) (hc0 : 0 ≤ k) (hc1 : k ≤ 100000000) :
    Calls Tryz.prog 11 #[.agg #[.int .i64 m.wd, .int .i64 m.rk, f, b, c, l, d], .int .i64 k] w fun e w' => e = .returned (.int .i64 (k + m.marks)) ∧ Below w.heap.size w w' := by
  obtain ⟨n1, n2, n3, n4, n5⟩ := m.mark_lens k
  obtain ⟨Af, kf, ef, -⟩ := id (h.fr)
  obtain ⟨Ab, kb, eb, -⟩ := id (h.bk)
  obtain ⟨Ac, kc, ec, -⟩ := id (h.cr.cells)
  obtain ⟨Al, kl, el, -⟩ := id (h.lp.cells)
  obtain ⟨Ad, kd, ed, -⟩ := id (h.dr)
  rw [n1] at ef
  rw [n2] at eb
  rw [n3] at ec
  rw [n4] at el
  rw [n5] at ed
  subst ef eb ec el ed
  unfold Mac.marks at hsz ⊢
  clear n1 n2 n3 n4 n5
  obtain ⟨x1, hx1⟩ : ∃ x : Int, x = k + lenSS m.fr := ⟨_, rfl⟩
  obtain ⟨x2, hx2⟩ : ∃ x : Int, x = x1 + lenSS m.bk := ⟨_, rfl⟩
  obtain ⟨x3, hx3⟩ : ∃ x : Int, x = x2 + 2 * m.cr.length := ⟨_, rfl⟩
  obtain ⟨x4, hx4⟩ : ∃ x : Int, x = x3 + lenSS m.lp := ⟨_, rfl⟩
  have y1 : 0 ≤ x1 ∧ x1 ≤ 200000000 := by omega
  have y2 : 0 ≤ x2 ∧ x2 ≤ 200000000 := by omega
  have y3 : 0 ≤ x3 ∧ x3 ≤ 200000000 := by omega
  have y4 : 0 ≤ x4 ∧ x4 ≤ 200000000 := by omega
  have y5 : 0 ≤ x4 + (m.dr.length : Int) := by omega
  have z1 : lenSS m.fr ≤ 8000000 ∧ lenSS m.bk ≤ 8000000 ∧ m.cr.length ≤ 1048576 ∧ lenSS m.lp ≤ 8000000 ∧ m.dr.length ≤ 8000000 := by omega
  have HR := Lib.hid (show x4 + (m.dr.length : Int) = k + ((lenSS m.fr + lenSS m.bk + 2 * m.cr.length + lenSS m.lp + m.dr.length : Nat) : Int) by push_cast; omega)
  obtain ⟨y1a, y1b⟩ := y1
  obtain ⟨y2a, y2b⟩ := y2
  obtain ⟨y3a, y3b⟩ := y3
  obtain ⟨y4a, y4b⟩ := y4
  obtain ⟨za, zb, zc, zd, ze⟩ := z1
  have HX1 := Lib.hid hx1
  have HX2 := Lib.hid hx2
  have HX3 := Lib.hid hx3
  have HX4 := Lib.hid hx4
  have h : MkM w B (.slice Af m.fr.length kf) (.slice Ab m.bk.length kb) (.slice Ac m.cr.length kc) (.slice Al m.lp.length kl) (.slice Ad m.dr.length kd) m k x1 x2 x3 x4 := by
    subst hx4 hx3 hx2 hx1
    obtain ⟨a1, a2, a3, a4, a5⟩ := Mac.mark_sl h
    exact ⟨a1, a2, a3, a4, a5⟩
  clear hx1 hx2 hx3 hx4
  have hg := h.below (al1 w (.cells #[.int .i64 m.wd, .int .i64 m.rk, .slice Af m.fr.length kf, .slice Ab m.bk.length kb, .slice Ac m.cr.length kc, .slice Al m.lp.length kl, .slice Ad m.dr.length kd] 36)) hB
  have G := Lib.hid hg
  have hB1 : B ≤ (w.alloc (.cells #[.int .i64 m.wd, .int .i64 m.rk, .slice Af m.fr.length kf, .slice Ab m.bk.length kb, .slice Ac m.cr.length kc, .slice Al m.lp.length kl, .slice Ad m.dr.length kd] 36)).heap.size := by simp; omega
  clear hg h
  go_enter Tryz.func11, Tryz.ntmps11
  go_wp2_with fail
  refine (heldSS_any (c := k) G.out.fr (by omega) (by omega) (by omega)).mono ?_
  rintro e w1 ⟨rfl, hq⟩
  have hx := alloc_fwd hq
  have hb := (al1 w (.cells #[.int .i64 m.wd, .int .i64 m.rk, .slice Af m.fr.length kf, .slice Ab m.bk.length kb, .slice Ac m.cr.length kc, .slice Al m.lp.length kl, .slice Ad m.dr.length kd] 36)).trans (hq.mono (by simp))
  have hg := G.out.below hq hB1
  have hB2 := Nat.le_trans hB1 hq.size
  have hz : w.heap.size ≤ w1.heap.size := hb.size
  clear hq G
  obtain ⟨⟨-, -, -, p3, -, -, -⟩, -, -⟩ := box7 hx
  have X := Lib.hid hx
  have HB := Lib.hid hb
  have G := Lib.hid hg
  clear hx hb hg
  rw [← HX1.out]
  go_wp2_with fail
  refine (heldSS_any (c := x1) G.out.bk (by omega) (by omega) (by omega)).mono ?_
  rintro e w2 ⟨rfl, hq⟩
  have hx := keep_fwd hq X.out
  have hb := HB.out.trans (hq.mono hz)
  have hg := G.out.below hq hB2
  have hB2 := Nat.le_trans hB2 hq.size
  have hz : w.heap.size ≤ w2.heap.size := hb.size
  clear hq X HB G
  obtain ⟨⟨-, -, -, -, p4, -, -⟩, -, -⟩ := box7 hx
  have X := Lib.hid hx
  have HB := Lib.hid hb
  have G := Lib.hid hg
  clear hx hb hg
  rw [← HX2.out]
  go_wp2_with fail
  refine (heldCars_any (c := x2) G.out.cr (by omega) (by omega) (by omega)).mono ?_
  rintro e w3 ⟨rfl, hq⟩
  have hx := keep_fwd hq X.out
  have hb := HB.out.trans (hq.mono hz)
  have hg := G.out.below hq hB2
  have hB2 := Nat.le_trans hB2 hq.size
  have hz : w.heap.size ≤ w3.heap.size := hb.size
  clear hq X HB G
  obtain ⟨⟨-, -, -, -, -, p5, -⟩, -, -⟩ := box7 hx
  have X := Lib.hid hx
  have HB := Lib.hid hb
  have G := Lib.hid hg
  clear hx hb hg
  rw [← HX3.out]
  go_wp2_with fail
  refine (heldInfs_any (c := x3) G.out.lp h5 (by omega) (by omega) (by omega)).mono ?_
  rintro e w4 ⟨rfl, hq⟩
  have hx := keep_fwd hq X.out
  have hb := HB.out.trans (hq.mono hz)
  have hg := G.out.below hq hB2
  have hB2 := Nat.le_trans hB2 hq.size
  have hz : w.heap.size ≤ w4.heap.size := hb.size
  clear hq X HB G
  obtain ⟨⟨-, -, -, -, -, -, p6⟩, -, -⟩ := box7 hx
  have X := Lib.hid hx
  have HB := Lib.hid hb
  have G := Lib.hid hg
  clear hx hb hg
  rw [← HX4.out]
  go_wp2_with fail
  refine (heldInts_quiet (c := x4) G.out.dr (by omega) (by omega) (by omega)).mono ?_
  rintro e w5 ⟨rfl, hq⟩
  have hx := keep_fwd hq X.out
  have hb := HB.out.trans (hq.mono hz)
  have hg := G.out.below hq hB2
  have hB2 := Nat.le_trans hB2 hq.size
  have hz : w.heap.size ≤ w5.heap.size := hb.size
  clear hq X HB G
  have X := Lib.hid hx
  have HB := Lib.hid hb
  have G := Lib.hid hg
  clear hx hb hg
  go_wp2_with fail
  go_ret
  exact ⟨ret_int HR.out, HB.out⟩
theorem szInts_no {v : Value} {xs : List Int} {B : Nat} {left : Int} {w : World} (h : Sl w B v xs) (h1 : left ≤ 1048576) (h0 : 0 ≤ left) (hc : left < (xs.length : Int)) :
    Calls Tryz.prog 15 #[v, .int .i64 left] w fun e w' => e = .returned (.int .i64 (-1)) ∧ Below w.heap.size w w' :=
  (szInts_any h h1 h0).mono fun _ _ ⟨he, hw⟩ => ⟨by rw [he, if_pos hc], by rw [← hw]; exact Below.refl _ _⟩
theorem szInts_yes {v : Value} {xs : List Int} {B : Nat} {left : Int} {w : World} (h : Sl w B v xs) (h1 : left ≤ 1048576) (h0 : 0 ≤ left) (hc : ¬ left < (xs.length : Int)) :
    Calls Tryz.prog 15 #[v, .int .i64 left] w fun e w' => e = .returned (.int .i64 (left - xs.length)) ∧ Below w.heap.size w w' :=
  (szInts_any h h1 h0).mono fun _ _ ⟨he, hw⟩ => ⟨by rw [he, if_neg hc], by rw [← hw]; exact Below.refl _ _⟩
theorem szInfs_no {v : Value} {L : List (List Int)} {B : Nat} {left : Int} {w : World} (h : SlF w B v L) (hB : B ≤ w.heap.size) (h1 : left ≤ 1048576) (h0 : 0 ≤ left) (hc : left < ((L.length + lenSS (prs L) : Nat) : Int)) :
    Calls Tryz.prog 14 #[v, .int .i64 left] w fun e w' => e = .returned (.int .i64 (-1)) ∧ Below w.heap.size w w' :=
  szInfs_any h hB h1 h0 (Lib.hid fun _ => rfl) (Lib.hid fun hn => absurd hc hn)
theorem szInfs_yes {v : Value} {L : List (List Int)} {B : Nat} {left : Int} {w : World} (h : SlF w B v L) (hB : B ≤ w.heap.size) (h1 : left ≤ 1048576) (h0 : 0 ≤ left) (hc : ¬ left < ((L.length + lenSS (prs L) : Nat) : Int)) :
    Calls Tryz.prog 14 #[v, .int .i64 left] w fun e w' => e = .returned (.int .i64 (left - ((L.length + lenSS (prs L) : Nat) : Int))) ∧ Below w.heap.size w w' :=
  szInfs_any h hB h1 h0 (Lib.hid fun hn => absurd hn hc) (Lib.hid fun _ => rfl)
set_option maxHeartbeats 3200000 in
theorem szMac_no0 {f b c l d : Value} {m : Mac} {B : Nat} {left : Int} {w : World} (h : SlM w B f b c l d m) (hB : B ≤ w.heap.size) (h1 : left ≤ 1048576) (h0 : 0 ≤ left) (hc : 0 ≤ left ∧ left < ((m.fr.length + lenSS m.fr : Nat) : Int)) :
    Calls Tryz.prog 4 #[.agg #[.int .i64 m.wd, .int .i64 m.rk, f, b, c, l, d], .int .i64 left] w fun e w' => e = .returned (.int .i64 (-1)) ∧ Below w.heap.size w w' := by
  obtain ⟨Af, kf, rfl, -⟩ := id (h.fr)
  obtain ⟨Ab, kb, rfl, -⟩ := id (h.bk)
  obtain ⟨Ac, kc, rfl, -⟩ := id (h.cr.cells)
  obtain ⟨Al, kl, rfl, -⟩ := id (h.lp.cells)
  obtain ⟨Ad, kd, rfl, -⟩ := id (h.dr)
  obtain ⟨s0, hs0⟩ : ∃ s : Int, s = ((m.fr.length + lenSS m.fr : Nat) : Int) := ⟨_, rfl⟩
  obtain ⟨y1, hy1⟩ : ∃ y : Int, y = left - s0 := ⟨_, rfl⟩
  have hp0 : 0 ≤ s0 := by omega
  have hno : left < s0 := by omega
  have HS0 := Lib.hid hs0
  have HY1 := Lib.hid hy1
  clear hs0 hy1 hc
  have hg := h.below (al1 w (.cells #[.int .i64 m.wd, .int .i64 m.rk, .slice Af m.fr.length kf, .slice Ab m.bk.length kb, .slice Ac m.cr.length kc, .slice Al m.lp.length kl, .slice Ad m.dr.length kd] 27)) hB
  have G := Lib.hid hg
  have hB1 : B ≤ (w.alloc (.cells #[.int .i64 m.wd, .int .i64 m.rk, .slice Af m.fr.length kf, .slice Ab m.bk.length kb, .slice Ac m.cr.length kc, .slice Al m.lp.length kl, .slice Ad m.dr.length kd] 27)).heap.size := by simp; omega
  clear hg h
  go_enter Tryz.func4, Tryz.ntmps4
  go_wp2_with fail
  refine (szSS_no (left := left) G.out.fr (by omega) (by omega) (by rw [← HS0.out]; exact hno)).mono ?_
  rintro e w1 ⟨rfl, hq⟩
  have hx := alloc_fwd hq
  have hb := (al1 w (.cells #[.int .i64 m.wd, .int .i64 m.rk, .slice Af m.fr.length kf, .slice Ab m.bk.length kb, .slice Ac m.cr.length kc, .slice Al m.lp.length kl, .slice Ad m.dr.length kd] 27)).trans (hq.mono (by simp))
  have hg := G.out.below hq hB1
  have hB2 := Nat.le_trans hB1 hq.size
  have hz : w.heap.size ≤ w1.heap.size := hb.size
  clear hq G
  obtain ⟨⟨-, -, -, p3, -, -, -⟩, -, -⟩ := box7 hx
  have X := Lib.hid hx
  have HB := Lib.hid hb
  have G := Lib.hid hg
  clear hx hb hg
  go_wp2_with fail
  go_ret
  exact ⟨rfl, HB.out⟩
set_option maxHeartbeats 3200000 in
theorem szMac_no1 {f b c l d : Value} {m : Mac} {B : Nat} {left : Int} {w : World} (h : SlM w B f b c l d m) (hB : B ≤ w.heap.size) (h1 : left ≤ 1048576) (h0 : 0 ≤ left) (hc : ((m.fr.length + lenSS m.fr : Nat) : Int) ≤ left ∧ left < ((m.fr.length + lenSS m.fr : Nat) : Int) + ((m.bk.length + lenSS m.bk : Nat) : Int)) :
    Calls Tryz.prog 4 #[.agg #[.int .i64 m.wd, .int .i64 m.rk, f, b, c, l, d], .int .i64 left] w fun e w' => e = .returned (.int .i64 (-1)) ∧ Below w.heap.size w w' := by
  obtain ⟨Af, kf, rfl, -⟩ := id (h.fr)
  obtain ⟨Ab, kb, rfl, -⟩ := id (h.bk)
  obtain ⟨Ac, kc, rfl, -⟩ := id (h.cr.cells)
  obtain ⟨Al, kl, rfl, -⟩ := id (h.lp.cells)
  obtain ⟨Ad, kd, rfl, -⟩ := id (h.dr)
  obtain ⟨s0, hs0⟩ : ∃ s : Int, s = ((m.fr.length + lenSS m.fr : Nat) : Int) := ⟨_, rfl⟩
  obtain ⟨y1, hy1⟩ : ∃ y : Int, y = left - s0 := ⟨_, rfl⟩
  have hp0 : 0 ≤ s0 := by omega
  obtain ⟨s1, hs1⟩ : ∃ s : Int, s = ((m.bk.length + lenSS m.bk : Nat) : Int) := ⟨_, rfl⟩
  obtain ⟨y2, hy2⟩ : ∃ y : Int, y = y1 - s1 := ⟨_, rfl⟩
  have hp1 : 0 ≤ s1 := by omega
  have hn1 : 0 ≤ y1 ∧ y1 ≤ 1048576 := by omega
  obtain ⟨hn1a, hn1b⟩ := hn1
  have hf0 : ¬ left < s0 := by omega
  have hno : y1 < s1 := by omega
  have HS0 := Lib.hid hs0
  have HY1 := Lib.hid hy1
  have HS1 := Lib.hid hs1
  have HY2 := Lib.hid hy2
  clear hs0 hy1 hs1 hy2 hc
  have hg := h.below (al1 w (.cells #[.int .i64 m.wd, .int .i64 m.rk, .slice Af m.fr.length kf, .slice Ab m.bk.length kb, .slice Ac m.cr.length kc, .slice Al m.lp.length kl, .slice Ad m.dr.length kd] 27)) hB
  have G := Lib.hid hg
  have hB1 : B ≤ (w.alloc (.cells #[.int .i64 m.wd, .int .i64 m.rk, .slice Af m.fr.length kf, .slice Ab m.bk.length kb, .slice Ac m.cr.length kc, .slice Al m.lp.length kl, .slice Ad m.dr.length kd] 27)).heap.size := by simp; omega
  clear hg h
  go_enter Tryz.func4, Tryz.ntmps4
  go_wp2_with fail
  refine (szSS_yes (left := left) G.out.fr (by omega) (by omega) (by rw [← HS0.out]; first | exact hf0 | exact Int.not_lt.2 hf0)).mono ?_
  rintro e w1 ⟨rfl, hq⟩
  have hx := alloc_fwd hq
  have hb := (al1 w (.cells #[.int .i64 m.wd, .int .i64 m.rk, .slice Af m.fr.length kf, .slice Ab m.bk.length kb, .slice Ac m.cr.length kc, .slice Al m.lp.length kl, .slice Ad m.dr.length kd] 27)).trans (hq.mono (by simp))
  have hg := G.out.below hq hB1
  have hB2 := Nat.le_trans hB1 hq.size
  have hz : w.heap.size ≤ w1.heap.size := hb.size
  clear hq G
  obtain ⟨⟨-, -, -, p3, -, -, -⟩, -, -⟩ := box7 hx
  have X := Lib.hid hx
  have HB := Lib.hid hb
  have G := Lib.hid hg
  clear hx hb hg
  rw [← HS0.out, ← HY1.out]
  go_wp2_with fail
  refine (szSS_no (left := y1) G.out.bk (by omega) (by omega) (by rw [← HS1.out]; exact hno)).mono ?_
  rintro e w2 ⟨rfl, hq⟩
  have hx := keep_fwd hq X.out
  have hb := HB.out.trans (hq.mono hz)
  have hg := G.out.below hq hB2
  have hB2 := Nat.le_trans hB2 hq.size
  have hz : w.heap.size ≤ w2.heap.size := hb.size
  clear hq X HB G
  obtain ⟨⟨-, -, -, -, p4, -, -⟩, -, -⟩ := box7 hx
  have X := Lib.hid hx
  have HB := Lib.hid hb
  have G := Lib.hid hg
  clear hx hb hg
  go_wp2_with fail
  go_ret
  exact ⟨rfl, HB.out⟩
set_option maxHeartbeats 3200000 in
theorem szMac_no2 {f b c l d : Value} {m : Mac} {B : Nat} {left : Int} {w : World} (h : SlM w B f b c l d m) (hB : B ≤ w.heap.size) (h1 : left ≤ 1048576) (h0 : 0 ≤ left) (hc : ((m.fr.length + lenSS m.fr : Nat) : Int) + ((m.bk.length + lenSS m.bk : Nat) : Int) ≤ left ∧ left < ((m.fr.length + lenSS m.fr : Nat) : Int) + ((m.bk.length + lenSS m.bk : Nat) : Int) + (m.cr.length : Int)) :
    Calls Tryz.prog 4 #[.agg #[.int .i64 m.wd, .int .i64 m.rk, f, b, c, l, d], .int .i64 left] w fun e w' => e = .returned (.int .i64 (-1)) ∧ Below w.heap.size w w' := by
  obtain ⟨Af, kf, rfl, -⟩ := id (h.fr)
  obtain ⟨Ab, kb, rfl, -⟩ := id (h.bk)
  obtain ⟨Ac, kc, rfl, -⟩ := id (h.cr.cells)
  obtain ⟨Al, kl, rfl, -⟩ := id (h.lp.cells)
  obtain ⟨Ad, kd, rfl, -⟩ := id (h.dr)
  obtain ⟨s0, hs0⟩ : ∃ s : Int, s = ((m.fr.length + lenSS m.fr : Nat) : Int) := ⟨_, rfl⟩
  obtain ⟨y1, hy1⟩ : ∃ y : Int, y = left - s0 := ⟨_, rfl⟩
  have hp0 : 0 ≤ s0 := by omega
  obtain ⟨s1, hs1⟩ : ∃ s : Int, s = ((m.bk.length + lenSS m.bk : Nat) : Int) := ⟨_, rfl⟩
  obtain ⟨y2, hy2⟩ : ∃ y : Int, y = y1 - s1 := ⟨_, rfl⟩
  have hp1 : 0 ≤ s1 := by omega
  obtain ⟨s2, hs2⟩ : ∃ s : Int, s = (m.cr.length : Int) := ⟨_, rfl⟩
  obtain ⟨y3, hy3⟩ : ∃ y : Int, y = y2 - s2 := ⟨_, rfl⟩
  have hp2 : 0 ≤ s2 := by omega
  have hn1 : 0 ≤ y1 ∧ y1 ≤ 1048576 := by omega
  obtain ⟨hn1a, hn1b⟩ := hn1
  have hf0 : ¬ left < s0 := by omega
  have hn2 : 0 ≤ y2 ∧ y2 ≤ 1048576 := by omega
  obtain ⟨hn2a, hn2b⟩ := hn2
  have hf1 : ¬ y1 < s1 := by omega
  have hno : y2 < s2 := by omega
  have HS0 := Lib.hid hs0
  have HY1 := Lib.hid hy1
  have HS1 := Lib.hid hs1
  have HY2 := Lib.hid hy2
  have HS2 := Lib.hid hs2
  have HY3 := Lib.hid hy3
  clear hs0 hy1 hs1 hy2 hs2 hy3 hc
  have hg := h.below (al1 w (.cells #[.int .i64 m.wd, .int .i64 m.rk, .slice Af m.fr.length kf, .slice Ab m.bk.length kb, .slice Ac m.cr.length kc, .slice Al m.lp.length kl, .slice Ad m.dr.length kd] 27)) hB
  have G := Lib.hid hg
  have hB1 : B ≤ (w.alloc (.cells #[.int .i64 m.wd, .int .i64 m.rk, .slice Af m.fr.length kf, .slice Ab m.bk.length kb, .slice Ac m.cr.length kc, .slice Al m.lp.length kl, .slice Ad m.dr.length kd] 27)).heap.size := by simp; omega
  clear hg h
  go_enter Tryz.func4, Tryz.ntmps4
  go_wp2_with fail
  refine (szSS_yes (left := left) G.out.fr (by omega) (by omega) (by rw [← HS0.out]; first | exact hf0 | exact Int.not_lt.2 hf0)).mono ?_
  rintro e w1 ⟨rfl, hq⟩
  have hx := alloc_fwd hq
  have hb := (al1 w (.cells #[.int .i64 m.wd, .int .i64 m.rk, .slice Af m.fr.length kf, .slice Ab m.bk.length kb, .slice Ac m.cr.length kc, .slice Al m.lp.length kl, .slice Ad m.dr.length kd] 27)).trans (hq.mono (by simp))
  have hg := G.out.below hq hB1
  have hB2 := Nat.le_trans hB1 hq.size
  have hz : w.heap.size ≤ w1.heap.size := hb.size
  clear hq G
  obtain ⟨⟨-, -, -, p3, -, -, -⟩, -, -⟩ := box7 hx
  have X := Lib.hid hx
  have HB := Lib.hid hb
  have G := Lib.hid hg
  clear hx hb hg
  rw [← HS0.out, ← HY1.out]
  go_wp2_with fail
  refine (szSS_yes (left := y1) G.out.bk (by omega) (by omega) (by rw [← HS1.out]; first | exact hf1 | exact Int.not_lt.2 hf1)).mono ?_
  rintro e w2 ⟨rfl, hq⟩
  have hx := keep_fwd hq X.out
  have hb := HB.out.trans (hq.mono hz)
  have hg := G.out.below hq hB2
  have hB2 := Nat.le_trans hB2 hq.size
  have hz : w.heap.size ≤ w2.heap.size := hb.size
  clear hq X HB G
  obtain ⟨⟨-, -, -, -, p4, -, -⟩, -, -⟩ := box7 hx
  have X := Lib.hid hx
  have HB := Lib.hid hb
  have G := Lib.hid hg
  clear hx hb hg
  rw [← HS1.out, ← HY2.out]
  go_wp2_with fail
  refine (szCars_no (left := y2) G.out.cr (by omega) (by omega) (by rw [← HS2.out]; exact hno)).mono ?_
  rintro e w3 ⟨rfl, hq⟩
  have hx := keep_fwd hq X.out
  have hb := HB.out.trans (hq.mono hz)
  have hg := G.out.below hq hB2
  have hB2 := Nat.le_trans hB2 hq.size
  have hz : w.heap.size ≤ w3.heap.size := hb.size
  clear hq X HB G
  obtain ⟨⟨-, -, -, -, -, p5, -⟩, -, -⟩ := box7 hx
  have X := Lib.hid hx
  have HB := Lib.hid hb
  have G := Lib.hid hg
  clear hx hb hg
  go_wp2_with fail
  go_ret
  exact ⟨rfl, HB.out⟩
set_option maxHeartbeats 3200000 in
theorem szMac_no3 {f b c l d : Value} {m : Mac} {B : Nat} {left : Int} {w : World} (h : SlM w B f b c l d m) (hB : B ≤ w.heap.size) (h1 : left ≤ 1048576) (h0 : 0 ≤ left) (hc : ((m.fr.length + lenSS m.fr : Nat) : Int) + ((m.bk.length + lenSS m.bk : Nat) : Int) + (m.cr.length : Int) ≤ left ∧ left < ((m.fr.length + lenSS m.fr : Nat) : Int) + ((m.bk.length + lenSS m.bk : Nat) : Int) + (m.cr.length : Int) + ((m.lp.length + lenSS (prs m.lp) : Nat) : Int)) :
    Calls Tryz.prog 4 #[.agg #[.int .i64 m.wd, .int .i64 m.rk, f, b, c, l, d], .int .i64 left] w fun e w' => e = .returned (.int .i64 (-1)) ∧ Below w.heap.size w w' := by
  obtain ⟨Af, kf, rfl, -⟩ := id (h.fr)
  obtain ⟨Ab, kb, rfl, -⟩ := id (h.bk)
  obtain ⟨Ac, kc, rfl, -⟩ := id (h.cr.cells)
  obtain ⟨Al, kl, rfl, -⟩ := id (h.lp.cells)
  obtain ⟨Ad, kd, rfl, -⟩ := id (h.dr)
  obtain ⟨s0, hs0⟩ : ∃ s : Int, s = ((m.fr.length + lenSS m.fr : Nat) : Int) := ⟨_, rfl⟩
  obtain ⟨y1, hy1⟩ : ∃ y : Int, y = left - s0 := ⟨_, rfl⟩
  have hp0 : 0 ≤ s0 := by omega
  obtain ⟨s1, hs1⟩ : ∃ s : Int, s = ((m.bk.length + lenSS m.bk : Nat) : Int) := ⟨_, rfl⟩
  obtain ⟨y2, hy2⟩ : ∃ y : Int, y = y1 - s1 := ⟨_, rfl⟩
  have hp1 : 0 ≤ s1 := by omega
  obtain ⟨s2, hs2⟩ : ∃ s : Int, s = (m.cr.length : Int) := ⟨_, rfl⟩
  obtain ⟨y3, hy3⟩ : ∃ y : Int, y = y2 - s2 := ⟨_, rfl⟩
  have hp2 : 0 ≤ s2 := by omega
  obtain ⟨s3, hs3⟩ : ∃ s : Int, s = ((m.lp.length + lenSS (prs m.lp) : Nat) : Int) := ⟨_, rfl⟩
  obtain ⟨y4, hy4⟩ : ∃ y : Int, y = y3 - s3 := ⟨_, rfl⟩
  have hp3 : 0 ≤ s3 := by omega
  have hn1 : 0 ≤ y1 ∧ y1 ≤ 1048576 := by omega
  obtain ⟨hn1a, hn1b⟩ := hn1
  have hf0 : ¬ left < s0 := by omega
  have hn2 : 0 ≤ y2 ∧ y2 ≤ 1048576 := by omega
  obtain ⟨hn2a, hn2b⟩ := hn2
  have hf1 : ¬ y1 < s1 := by omega
  have hn3 : 0 ≤ y3 ∧ y3 ≤ 1048576 := by omega
  obtain ⟨hn3a, hn3b⟩ := hn3
  have hf2 : ¬ y2 < s2 := by omega
  have hno : y3 < s3 := by omega
  have HS0 := Lib.hid hs0
  have HY1 := Lib.hid hy1
  have HS1 := Lib.hid hs1
  have HY2 := Lib.hid hy2
  have HS2 := Lib.hid hs2
  have HY3 := Lib.hid hy3
  have HS3 := Lib.hid hs3
  have HY4 := Lib.hid hy4
  clear hs0 hy1 hs1 hy2 hs2 hy3 hs3 hy4 hc
  have hg := h.below (al1 w (.cells #[.int .i64 m.wd, .int .i64 m.rk, .slice Af m.fr.length kf, .slice Ab m.bk.length kb, .slice Ac m.cr.length kc, .slice Al m.lp.length kl, .slice Ad m.dr.length kd] 27)) hB
  have G := Lib.hid hg
  have hB1 : B ≤ (w.alloc (.cells #[.int .i64 m.wd, .int .i64 m.rk, .slice Af m.fr.length kf, .slice Ab m.bk.length kb, .slice Ac m.cr.length kc, .slice Al m.lp.length kl, .slice Ad m.dr.length kd] 27)).heap.size := by simp; omega
  clear hg h
  go_enter Tryz.func4, Tryz.ntmps4
  go_wp2_with fail
  refine (szSS_yes (left := left) G.out.fr (by omega) (by omega) (by rw [← HS0.out]; first | exact hf0 | exact Int.not_lt.2 hf0)).mono ?_
  rintro e w1 ⟨rfl, hq⟩
  have hx := alloc_fwd hq
  have hb := (al1 w (.cells #[.int .i64 m.wd, .int .i64 m.rk, .slice Af m.fr.length kf, .slice Ab m.bk.length kb, .slice Ac m.cr.length kc, .slice Al m.lp.length kl, .slice Ad m.dr.length kd] 27)).trans (hq.mono (by simp))
  have hg := G.out.below hq hB1
  have hB2 := Nat.le_trans hB1 hq.size
  have hz : w.heap.size ≤ w1.heap.size := hb.size
  clear hq G
  obtain ⟨⟨-, -, -, p3, -, -, -⟩, -, -⟩ := box7 hx
  have X := Lib.hid hx
  have HB := Lib.hid hb
  have G := Lib.hid hg
  clear hx hb hg
  rw [← HS0.out, ← HY1.out]
  go_wp2_with fail
  refine (szSS_yes (left := y1) G.out.bk (by omega) (by omega) (by rw [← HS1.out]; first | exact hf1 | exact Int.not_lt.2 hf1)).mono ?_
  rintro e w2 ⟨rfl, hq⟩
  have hx := keep_fwd hq X.out
  have hb := HB.out.trans (hq.mono hz)
  have hg := G.out.below hq hB2
  have hB2 := Nat.le_trans hB2 hq.size
  have hz : w.heap.size ≤ w2.heap.size := hb.size
  clear hq X HB G
  obtain ⟨⟨-, -, -, -, p4, -, -⟩, -, -⟩ := box7 hx
  have X := Lib.hid hx
  have HB := Lib.hid hb
  have G := Lib.hid hg
  clear hx hb hg
  rw [← HS1.out, ← HY2.out]
  go_wp2_with fail
  refine (szCars_yes (left := y2) G.out.cr (by omega) (by omega) (by rw [← HS2.out]; first | exact hf2 | exact Int.not_lt.2 hf2)).mono ?_
  rintro e w3 ⟨rfl, hq⟩
  have hx := keep_fwd hq X.out
  have hb := HB.out.trans (hq.mono hz)
  have hg := G.out.below hq hB2
  have hB2 := Nat.le_trans hB2 hq.size
  have hz : w.heap.size ≤ w3.heap.size := hb.size
  clear hq X HB G
  obtain ⟨⟨-, -, -, -, -, p5, -⟩, -, -⟩ := box7 hx
  have X := Lib.hid hx
  have HB := Lib.hid hb
  have G := Lib.hid hg
  clear hx hb hg
  rw [← HS2.out, ← HY3.out]
  go_wp2_with fail
  refine (szInfs_no (left := y3) G.out.lp (by first | exact hB2 | exact hB1) (by omega) (by omega) (by rw [← HS3.out]; exact hno)).mono ?_
  rintro e w4 ⟨rfl, hq⟩
  have hx := keep_fwd hq X.out
  have hb := HB.out.trans (hq.mono hz)
  have hg := G.out.below hq hB2
  have hB2 := Nat.le_trans hB2 hq.size
  have hz : w.heap.size ≤ w4.heap.size := hb.size
  clear hq X HB G
  obtain ⟨⟨-, -, -, -, -, -, p6⟩, -, -⟩ := box7 hx
  have X := Lib.hid hx
  have HB := Lib.hid hb
  have G := Lib.hid hg
  clear hx hb hg
  go_wp2_with fail
  go_ret
  exact ⟨rfl, HB.out⟩
set_option maxHeartbeats 3200000 in
theorem szMac_no4 {f b c l d : Value} {m : Mac} {B : Nat} {left : Int} {w : World} (h : SlM w B f b c l d m) (hB : B ≤ w.heap.size) (h1 : left ≤ 1048576) (h0 : 0 ≤ left) (hc : ((m.fr.length + lenSS m.fr : Nat) : Int) + ((m.bk.length + lenSS m.bk : Nat) : Int) + (m.cr.length : Int) + ((m.lp.length + lenSS (prs m.lp) : Nat) : Int) ≤ left ∧ left < ((m.fr.length + lenSS m.fr : Nat) : Int) + ((m.bk.length + lenSS m.bk : Nat) : Int) + (m.cr.length : Int) + ((m.lp.length + lenSS (prs m.lp) : Nat) : Int) + (m.dr.length : Int)) :
    Calls Tryz.prog 4 #[.agg #[.int .i64 m.wd, .int .i64 m.rk, f, b, c, l, d], .int .i64 left] w fun e w' => e = .returned (.int .i64 (-1)) ∧ Below w.heap.size w w' := by
  obtain ⟨Af, kf, rfl, -⟩ := id (h.fr)
  obtain ⟨Ab, kb, rfl, -⟩ := id (h.bk)
  obtain ⟨Ac, kc, rfl, -⟩ := id (h.cr.cells)
  obtain ⟨Al, kl, rfl, -⟩ := id (h.lp.cells)
  obtain ⟨Ad, kd, rfl, -⟩ := id (h.dr)
  obtain ⟨s0, hs0⟩ : ∃ s : Int, s = ((m.fr.length + lenSS m.fr : Nat) : Int) := ⟨_, rfl⟩
  obtain ⟨y1, hy1⟩ : ∃ y : Int, y = left - s0 := ⟨_, rfl⟩
  have hp0 : 0 ≤ s0 := by omega
  obtain ⟨s1, hs1⟩ : ∃ s : Int, s = ((m.bk.length + lenSS m.bk : Nat) : Int) := ⟨_, rfl⟩
  obtain ⟨y2, hy2⟩ : ∃ y : Int, y = y1 - s1 := ⟨_, rfl⟩
  have hp1 : 0 ≤ s1 := by omega
  obtain ⟨s2, hs2⟩ : ∃ s : Int, s = (m.cr.length : Int) := ⟨_, rfl⟩
  obtain ⟨y3, hy3⟩ : ∃ y : Int, y = y2 - s2 := ⟨_, rfl⟩
  have hp2 : 0 ≤ s2 := by omega
  obtain ⟨s3, hs3⟩ : ∃ s : Int, s = ((m.lp.length + lenSS (prs m.lp) : Nat) : Int) := ⟨_, rfl⟩
  obtain ⟨y4, hy4⟩ : ∃ y : Int, y = y3 - s3 := ⟨_, rfl⟩
  have hp3 : 0 ≤ s3 := by omega
  obtain ⟨s4, hs4⟩ : ∃ s : Int, s = (m.dr.length : Int) := ⟨_, rfl⟩
  obtain ⟨y5, hy5⟩ : ∃ y : Int, y = y4 - s4 := ⟨_, rfl⟩
  have hp4 : 0 ≤ s4 := by omega
  have hn1 : 0 ≤ y1 ∧ y1 ≤ 1048576 := by omega
  obtain ⟨hn1a, hn1b⟩ := hn1
  have hf0 : ¬ left < s0 := by omega
  have hn2 : 0 ≤ y2 ∧ y2 ≤ 1048576 := by omega
  obtain ⟨hn2a, hn2b⟩ := hn2
  have hf1 : ¬ y1 < s1 := by omega
  have hn3 : 0 ≤ y3 ∧ y3 ≤ 1048576 := by omega
  obtain ⟨hn3a, hn3b⟩ := hn3
  have hf2 : ¬ y2 < s2 := by omega
  have hn4 : 0 ≤ y4 ∧ y4 ≤ 1048576 := by omega
  obtain ⟨hn4a, hn4b⟩ := hn4
  have hf3 : ¬ y3 < s3 := by omega
  have hno : y4 < s4 := by omega
  have HS0 := Lib.hid hs0
  have HY1 := Lib.hid hy1
  have HS1 := Lib.hid hs1
  have HY2 := Lib.hid hy2
  have HS2 := Lib.hid hs2
  have HY3 := Lib.hid hy3
  have HS3 := Lib.hid hs3
  have HY4 := Lib.hid hy4
  have HS4 := Lib.hid hs4
  have HY5 := Lib.hid hy5
  clear hs0 hy1 hs1 hy2 hs2 hy3 hs3 hy4 hs4 hy5 hc
  have hg := h.below (al1 w (.cells #[.int .i64 m.wd, .int .i64 m.rk, .slice Af m.fr.length kf, .slice Ab m.bk.length kb, .slice Ac m.cr.length kc, .slice Al m.lp.length kl, .slice Ad m.dr.length kd] 27)) hB
  have G := Lib.hid hg
  have hB1 : B ≤ (w.alloc (.cells #[.int .i64 m.wd, .int .i64 m.rk, .slice Af m.fr.length kf, .slice Ab m.bk.length kb, .slice Ac m.cr.length kc, .slice Al m.lp.length kl, .slice Ad m.dr.length kd] 27)).heap.size := by simp; omega
  clear hg h
  go_enter Tryz.func4, Tryz.ntmps4
  go_wp2_with fail
  refine (szSS_yes (left := left) G.out.fr (by omega) (by omega) (by rw [← HS0.out]; first | exact hf0 | exact Int.not_lt.2 hf0)).mono ?_
  rintro e w1 ⟨rfl, hq⟩
  have hx := alloc_fwd hq
  have hb := (al1 w (.cells #[.int .i64 m.wd, .int .i64 m.rk, .slice Af m.fr.length kf, .slice Ab m.bk.length kb, .slice Ac m.cr.length kc, .slice Al m.lp.length kl, .slice Ad m.dr.length kd] 27)).trans (hq.mono (by simp))
  have hg := G.out.below hq hB1
  have hB2 := Nat.le_trans hB1 hq.size
  have hz : w.heap.size ≤ w1.heap.size := hb.size
  clear hq G
  obtain ⟨⟨-, -, -, p3, -, -, -⟩, -, -⟩ := box7 hx
  have X := Lib.hid hx
  have HB := Lib.hid hb
  have G := Lib.hid hg
  clear hx hb hg
  rw [← HS0.out, ← HY1.out]
  go_wp2_with fail
  refine (szSS_yes (left := y1) G.out.bk (by omega) (by omega) (by rw [← HS1.out]; first | exact hf1 | exact Int.not_lt.2 hf1)).mono ?_
  rintro e w2 ⟨rfl, hq⟩
  have hx := keep_fwd hq X.out
  have hb := HB.out.trans (hq.mono hz)
  have hg := G.out.below hq hB2
  have hB2 := Nat.le_trans hB2 hq.size
  have hz : w.heap.size ≤ w2.heap.size := hb.size
  clear hq X HB G
  obtain ⟨⟨-, -, -, -, p4, -, -⟩, -, -⟩ := box7 hx
  have X := Lib.hid hx
  have HB := Lib.hid hb
  have G := Lib.hid hg
  clear hx hb hg
  rw [← HS1.out, ← HY2.out]
  go_wp2_with fail
  refine (szCars_yes (left := y2) G.out.cr (by omega) (by omega) (by rw [← HS2.out]; first | exact hf2 | exact Int.not_lt.2 hf2)).mono ?_
  rintro e w3 ⟨rfl, hq⟩
  have hx := keep_fwd hq X.out
  have hb := HB.out.trans (hq.mono hz)
  have hg := G.out.below hq hB2
  have hB2 := Nat.le_trans hB2 hq.size
  have hz : w.heap.size ≤ w3.heap.size := hb.size
  clear hq X HB G
  obtain ⟨⟨-, -, -, -, -, p5, -⟩, -, -⟩ := box7 hx
  have X := Lib.hid hx
  have HB := Lib.hid hb
  have G := Lib.hid hg
  clear hx hb hg
  rw [← HS2.out, ← HY3.out]
  go_wp2_with fail
  refine (szInfs_yes (left := y3) G.out.lp (by first | exact hB2 | exact hB1) (by omega) (by omega) (by rw [← HS3.out]; first | exact hf3 | exact Int.not_lt.2 hf3)).mono ?_
  rintro e w4 ⟨rfl, hq⟩
  have hx := keep_fwd hq X.out
  have hb := HB.out.trans (hq.mono hz)
  have hg := G.out.below hq hB2
  have hB2 := Nat.le_trans hB2 hq.size
  have hz : w.heap.size ≤ w4.heap.size := hb.size
  clear hq X HB G
  obtain ⟨⟨-, -, -, -, -, -, p6⟩, -, -⟩ := box7 hx
  have X := Lib.hid hx
  have HB := Lib.hid hb
  have G := Lib.hid hg
  clear hx hb hg
  rw [← HS3.out, ← HY4.out]
  go_wp2_with fail
  refine (szInts_no (left := y4) G.out.dr (by omega) (by omega) (by rw [← HS4.out]; exact hno)).mono ?_
  rintro e w5 ⟨rfl, hq⟩
  have hx := keep_fwd hq X.out
  have hb := HB.out.trans (hq.mono hz)
  have hg := G.out.below hq hB2
  have hB2 := Nat.le_trans hB2 hq.size
  have hz : w.heap.size ≤ w5.heap.size := hb.size
  clear hq X HB G
  have X := Lib.hid hx
  have HB := Lib.hid hb
  have G := Lib.hid hg
  clear hx hb hg
  go_wp2_with fail
  go_ret
  exact ⟨rfl, HB.out⟩
set_option maxHeartbeats 3200000 in
theorem szMac_yes0 {f b c l d : Value} {m : Mac} {B : Nat} {left : Int} {w : World} (h : SlM w B f b c l d m) (hB : B ≤ w.heap.size) (h1 : left ≤ 1048576) (h0 : 0 ≤ left) (hc : ((m.fr.length + lenSS m.fr : Nat) : Int) + ((m.bk.length + lenSS m.bk : Nat) : Int) + (m.cr.length : Int) + ((m.lp.length + lenSS (prs m.lp) : Nat) : Int) + (m.dr.length : Int) ≤ left) :
    Calls Tryz.prog 4 #[.agg #[.int .i64 m.wd, .int .i64 m.rk, f, b, c, l, d], .int .i64 left] w fun e w' => e = .returned (.int .i64 (left - m.size)) ∧ Below w.heap.size w w' := by
  obtain ⟨Af, kf, rfl, -⟩ := id (h.fr)
  obtain ⟨Ab, kb, rfl, -⟩ := id (h.bk)
  obtain ⟨Ac, kc, rfl, -⟩ := id (h.cr.cells)
  obtain ⟨Al, kl, rfl, -⟩ := id (h.lp.cells)
  obtain ⟨Ad, kd, rfl, -⟩ := id (h.dr)
  obtain ⟨s0, hs0⟩ : ∃ s : Int, s = ((m.fr.length + lenSS m.fr : Nat) : Int) := ⟨_, rfl⟩
  obtain ⟨y1, hy1⟩ : ∃ y : Int, y = left - s0 := ⟨_, rfl⟩
  have hp0 : 0 ≤ s0 := by omega
  obtain ⟨s1, hs1⟩ : ∃ s : Int, s = ((m.bk.length + lenSS m.bk : Nat) : Int) := ⟨_, rfl⟩
  obtain ⟨y2, hy2⟩ : ∃ y : Int, y = y1 - s1 := ⟨_, rfl⟩
  have hp1 : 0 ≤ s1 := by omega
  obtain ⟨s2, hs2⟩ : ∃ s : Int, s = (m.cr.length : Int) := ⟨_, rfl⟩
  obtain ⟨y3, hy3⟩ : ∃ y : Int, y = y2 - s2 := ⟨_, rfl⟩
  have hp2 : 0 ≤ s2 := by omega
  obtain ⟨s3, hs3⟩ : ∃ s : Int, s = ((m.lp.length + lenSS (prs m.lp) : Nat) : Int) := ⟨_, rfl⟩
  obtain ⟨y4, hy4⟩ : ∃ y : Int, y = y3 - s3 := ⟨_, rfl⟩
  have hp3 : 0 ≤ s3 := by omega
  obtain ⟨s4, hs4⟩ : ∃ s : Int, s = (m.dr.length : Int) := ⟨_, rfl⟩
  obtain ⟨y5, hy5⟩ : ∃ y : Int, y = y4 - s4 := ⟨_, rfl⟩
  have hp4 : 0 ≤ s4 := by omega
  have hn1 : 0 ≤ y1 ∧ y1 ≤ 1048576 := by omega
  obtain ⟨hn1a, hn1b⟩ := hn1
  have hf0 : ¬ left < s0 := by omega
  have hn2 : 0 ≤ y2 ∧ y2 ≤ 1048576 := by omega
  obtain ⟨hn2a, hn2b⟩ := hn2
  have hf1 : ¬ y1 < s1 := by omega
  have hn3 : 0 ≤ y3 ∧ y3 ≤ 1048576 := by omega
  obtain ⟨hn3a, hn3b⟩ := hn3
  have hf2 : ¬ y2 < s2 := by omega
  have hn4 : 0 ≤ y4 ∧ y4 ≤ 1048576 := by omega
  obtain ⟨hn4a, hn4b⟩ := hn4
  have hf3 : ¬ y3 < s3 := by omega
  have hn5 : 0 ≤ y5 ∧ y5 ≤ 1048576 := by omega
  obtain ⟨hn5a, hn5b⟩ := hn5
  have hf4 : ¬ y4 < s4 := by omega
  have HR := Lib.hid (show y5 = left - m.size by unfold Mac.size; push_cast; omega)
  have HS0 := Lib.hid hs0
  have HY1 := Lib.hid hy1
  have HS1 := Lib.hid hs1
  have HY2 := Lib.hid hy2
  have HS2 := Lib.hid hs2
  have HY3 := Lib.hid hy3
  have HS3 := Lib.hid hs3
  have HY4 := Lib.hid hy4
  have HS4 := Lib.hid hs4
  have HY5 := Lib.hid hy5
  clear hs0 hy1 hs1 hy2 hs2 hy3 hs3 hy4 hs4 hy5 hc
  have hg := h.below (al1 w (.cells #[.int .i64 m.wd, .int .i64 m.rk, .slice Af m.fr.length kf, .slice Ab m.bk.length kb, .slice Ac m.cr.length kc, .slice Al m.lp.length kl, .slice Ad m.dr.length kd] 27)) hB
  have G := Lib.hid hg
  have hB1 : B ≤ (w.alloc (.cells #[.int .i64 m.wd, .int .i64 m.rk, .slice Af m.fr.length kf, .slice Ab m.bk.length kb, .slice Ac m.cr.length kc, .slice Al m.lp.length kl, .slice Ad m.dr.length kd] 27)).heap.size := by simp; omega
  clear hg h
  go_enter Tryz.func4, Tryz.ntmps4
  go_wp2_with fail
  refine (szSS_yes (left := left) G.out.fr (by omega) (by omega) (by rw [← HS0.out]; first | exact hf0 | exact Int.not_lt.2 hf0)).mono ?_
  rintro e w1 ⟨rfl, hq⟩
  have hx := alloc_fwd hq
  have hb := (al1 w (.cells #[.int .i64 m.wd, .int .i64 m.rk, .slice Af m.fr.length kf, .slice Ab m.bk.length kb, .slice Ac m.cr.length kc, .slice Al m.lp.length kl, .slice Ad m.dr.length kd] 27)).trans (hq.mono (by simp))
  have hg := G.out.below hq hB1
  have hB2 := Nat.le_trans hB1 hq.size
  have hz : w.heap.size ≤ w1.heap.size := hb.size
  clear hq G
  obtain ⟨⟨-, -, -, p3, -, -, -⟩, -, -⟩ := box7 hx
  have X := Lib.hid hx
  have HB := Lib.hid hb
  have G := Lib.hid hg
  clear hx hb hg
  rw [← HS0.out, ← HY1.out]
  go_wp2_with fail
  refine (szSS_yes (left := y1) G.out.bk (by omega) (by omega) (by rw [← HS1.out]; first | exact hf1 | exact Int.not_lt.2 hf1)).mono ?_
  rintro e w2 ⟨rfl, hq⟩
  have hx := keep_fwd hq X.out
  have hb := HB.out.trans (hq.mono hz)
  have hg := G.out.below hq hB2
  have hB2 := Nat.le_trans hB2 hq.size
  have hz : w.heap.size ≤ w2.heap.size := hb.size
  clear hq X HB G
  obtain ⟨⟨-, -, -, -, p4, -, -⟩, -, -⟩ := box7 hx
  have X := Lib.hid hx
  have HB := Lib.hid hb
  have G := Lib.hid hg
  clear hx hb hg
  rw [← HS1.out, ← HY2.out]
  go_wp2_with fail
  refine (szCars_yes (left := y2) G.out.cr (by omega) (by omega) (by rw [← HS2.out]; first | exact hf2 | exact Int.not_lt.2 hf2)).mono ?_
  rintro e w3 ⟨rfl, hq⟩
  have hx := keep_fwd hq X.out
  have hb := HB.out.trans (hq.mono hz)
  have hg := G.out.below hq hB2
  have hB2 := Nat.le_trans hB2 hq.size
  have hz : w.heap.size ≤ w3.heap.size := hb.size
  clear hq X HB G
  obtain ⟨⟨-, -, -, -, -, p5, -⟩, -, -⟩ := box7 hx
  have X := Lib.hid hx
  have HB := Lib.hid hb
  have G := Lib.hid hg
  clear hx hb hg
  rw [← HS2.out, ← HY3.out]
  go_wp2_with fail
  refine (szInfs_yes (left := y3) G.out.lp (by first | exact hB2 | exact hB1) (by omega) (by omega) (by rw [← HS3.out]; first | exact hf3 | exact Int.not_lt.2 hf3)).mono ?_
  rintro e w4 ⟨rfl, hq⟩
  have hx := keep_fwd hq X.out
  have hb := HB.out.trans (hq.mono hz)
  have hg := G.out.below hq hB2
  have hB2 := Nat.le_trans hB2 hq.size
  have hz : w.heap.size ≤ w4.heap.size := hb.size
  clear hq X HB G
  obtain ⟨⟨-, -, -, -, -, -, p6⟩, -, -⟩ := box7 hx
  have X := Lib.hid hx
  have HB := Lib.hid hb
  have G := Lib.hid hg
  clear hx hb hg
  rw [← HS3.out, ← HY4.out]
  go_wp2_with fail
  refine (szInts_yes (left := y4) G.out.dr (by omega) (by omega) (by rw [← HS4.out]; first | exact hf4 | exact Int.not_lt.2 hf4)).mono ?_
  rintro e w5 ⟨rfl, hq⟩
  have hx := keep_fwd hq X.out
  have hb := HB.out.trans (hq.mono hz)
  have hg := G.out.below hq hB2
  have hB2 := Nat.le_trans hB2 hq.size
  have hz : w.heap.size ≤ w5.heap.size := hb.size
  clear hq X HB G
  have X := Lib.hid hx
  have HB := Lib.hid hb
  have G := Lib.hid hg
  clear hx hb hg
  rw [← HS4.out, ← HY5.out]
  go_wp2_with fail
  go_ret
  exact ⟨ret_int HR.out, HB.out⟩
theorem szMac_yes {f b c l d : Value} {m : Mac} {B : Nat} {left : Int} {w : World} (h : SlM w B f b c l d m) (hB : B ≤ w.heap.size) (h1 : left ≤ 1048576) (h0 : 0 ≤ left) (hc : ¬ left < (m.size : Int)) :
    Calls Tryz.prog 4 #[.agg #[.int .i64 m.wd, .int .i64 m.rk, f, b, c, l, d], .int .i64 left] w fun e w' => e = .returned (.int .i64 (left - m.size)) ∧ Below w.heap.size w w' :=
  szMac_yes0 h hB h1 h0 (by unfold Mac.size at hc; push_cast at hc ⊢; omega)
theorem szMac_no {f b c l d : Value} {m : Mac} {B : Nat} {left : Int} {w : World} (h : SlM w B f b c l d m) (hB : B ≤ w.heap.size) (h1 : left ≤ 1048576) (h0 : 0 ≤ left) (hc : left < (m.size : Int)) :
    Calls Tryz.prog 4 #[.agg #[.int .i64 m.wd, .int .i64 m.rk, f, b, c, l, d], .int .i64 left] w fun e w' => e = .returned (.int .i64 (-1)) ∧ Below w.heap.size w w' := by
  unfold Mac.size at hc
  by_cases c0 : left < ((m.fr.length + lenSS m.fr : Nat) : Int)
  · exact szMac_no0 h hB h1 h0 ⟨by omega, c0⟩
  by_cases c1 : left < ((m.fr.length + lenSS m.fr : Nat) : Int) + ((m.bk.length + lenSS m.bk : Nat) : Int)
  · exact szMac_no1 h hB h1 h0 ⟨by omega, c1⟩
  by_cases c2 : left < ((m.fr.length + lenSS m.fr : Nat) : Int) + ((m.bk.length + lenSS m.bk : Nat) : Int) + (m.cr.length : Int)
  · exact szMac_no2 h hB h1 h0 ⟨by omega, c2⟩
  by_cases c3 : left < ((m.fr.length + lenSS m.fr : Nat) : Int) + ((m.bk.length + lenSS m.bk : Nat) : Int) + (m.cr.length : Int) + ((m.lp.length + lenSS (prs m.lp) : Nat) : Int)
  · exact szMac_no3 h hB h1 h0 ⟨by omega, c3⟩
  · exact szMac_no4 h hB h1 h0 ⟨by omega, by push_cast at hc ⊢; omega⟩
end Go.Proofs.YtbefioljddhhpaaGreat
/-
  Contracts: the laws' markMachine, toMachine. Printed by gen_mac3.py.
-/
namespace Go.Proofs.YtbefioljddhhpaaGreat
set_option maxRecDepth 10000
open Go.RowKit

theorem owc_len {e : TypeId} {z : Nat} {w : World} {S : Nat → Prop} {v : Value} {n n2 : Nat} {cs : List Cl} (h : OwC e z w S v n cs) (hn : n2 = n) : OwC e z w S v n2 cs := by rw [hn]; exact h
set_option maxHeartbeats 3200000 in
theorem markMac_any {f b c l d : Value} {m : Mac} {S : Nat → Prop} {k : Int} {w : World} (h : OwM w S f b c l d m) (hS : ∀ j, S j → j < w.heap.size) (h5 : Five m.lp) (hsz : m.marks ≤ 8000000) (hcr : m.cr.length ≤ 1048576) (hc0 : 0 ≤ k) (hc1 : k ≤ 100000000) :
    Calls Tryz.prog 10 #[.agg #[.int .i64 m.wd, .int .i64 m.rk, f, b, c, l, d], .int .i64 k] w fun e w' => e = .returned (.int .i64 (k + m.marks)) ∧ OwM w' S f b c l d (m.mark k) ∧ ChgS S w w' := by
  obtain ⟨tag, hp⟩ := h
  have hs := OwM.sl ⟨tag, hp⟩ hS
  obtain ⟨a1, a2, a3, a4, a5⟩ := hp
  obtain ⟨Af, kf, rfl, -⟩ := id (hs.fr)
  obtain ⟨Ab, kb, rfl, -⟩ := id (hs.bk)
  obtain ⟨Ac, kc, rfl, -⟩ := id (hs.cr.cells)
  obtain ⟨Al, kl, rfl, -⟩ := id (hs.lp.cells)
  obtain ⟨Ad, kd, rfl, -⟩ := id (hs.dr)
  have kk : ∀ j, S j → (w.alloc (.cells #[.int .i64 m.wd, .int .i64 m.rk, .slice Af m.fr.length kf, .slice Ab m.bk.length kb, .slice Ac m.cr.length kc, .slice Al m.lp.length kl, .slice Ad m.dr.length kd] 36)).heap[j]? = w.heap[j]? := fun j hj => (al1 w (.cells #[.int .i64 m.wd, .int .i64 m.rk, .slice Af m.fr.length kf, .slice Ab m.bk.length kb, .slice Ac m.cr.length kc, .slice Al m.lp.length kl, .slice Ad m.dr.length kd] 36)).block j (hS j hj)
  have b1 := a1.keep fun j q => kk j q.1
  have b2 := a2.keep fun j q => kk j q.1
  have b3 := a3.keep fun j q => kk j q.1
  have b4 := a4.keep fun j q => kk j q.1
  have b5 := (rw_ _ _).keep a5 fun j q => kk j q.1
  have hC : ChgS S w (w.alloc (.cells #[.int .i64 m.wd, .int .i64 m.rk, .slice Af m.fr.length kf, .slice Ab m.bk.length kb, .slice Ac m.cr.length kc, .slice Al m.lp.length kl, .slice Ad m.dr.length kd] 36)) := ChgS.of_below (al1 _ _)
  have hs1 : ∀ j, S j → j < (w.alloc (.cells #[.int .i64 m.wd, .int .i64 m.rk, .slice Af m.fr.length kf, .slice Ab m.bk.length kb, .slice Ac m.cr.length kc, .slice Al m.lp.length kl, .slice Ad m.dr.length kd] 36)).heap.size := fun j hj => Nat.lt_of_lt_of_le (hS j hj) hC.size
  unfold Mac.marks at hsz ⊢
  obtain ⟨x1, hx1⟩ : ∃ x : Int, x = k + lenSS m.fr := ⟨_, rfl⟩
  obtain ⟨x2, hx2⟩ : ∃ x : Int, x = x1 + lenSS m.bk := ⟨_, rfl⟩
  obtain ⟨x3, hx3⟩ : ∃ x : Int, x = x2 + 2 * m.cr.length := ⟨_, rfl⟩
  obtain ⟨x4, hx4⟩ : ∃ x : Int, x = x3 + lenSS m.lp := ⟨_, rfl⟩
  have y1 : 0 ≤ x1 ∧ x1 ≤ 200000000 := by omega
  obtain ⟨y1a, y1b⟩ := y1
  have y2 : 0 ≤ x2 ∧ x2 ≤ 200000000 := by omega
  obtain ⟨y2a, y2b⟩ := y2
  have y3 : 0 ≤ x3 ∧ x3 ≤ 200000000 := by omega
  obtain ⟨y3a, y3b⟩ := y3
  have y4 : 0 ≤ x4 ∧ x4 ≤ 200000000 := by omega
  obtain ⟨y4a, y4b⟩ := y4
  have z1 : lenSS m.fr ≤ 8000000 ∧ lenSS m.bk ≤ 8000000 ∧ lenSS m.lp ≤ 8000000 ∧ m.dr.length ≤ 8000000 := by omega
  obtain ⟨za, zb, zd, ze⟩ := z1
  have HR := Lib.hid (show x4 + (m.dr.length : Int) = k + ((lenSS m.fr + lenSS m.bk + 2 * m.cr.length + lenSS m.lp + m.dr.length : Nat) : Int) by push_cast; omega)
  have HM : Hid (m.mark k = ⟨m.wd, m.rk, markSS k m.fr, markSS x1 m.bk, markK x2 m.cr.length, markSS x3 m.lp, countFrom x4 m.dr.length⟩) := Lib.hid (by subst hx4 hx3 hx2 hx1; rfl)
  have HX1 := Lib.hid hx1
  have HX2 := Lib.hid hx2
  have HX3 := Lib.hid hx3
  have HX4 := Lib.hid hx4
  have H1 := Lib.hid b1
  have H2 := Lib.hid b2
  have H3 := Lib.hid b3
  have H4 := Lib.hid b4
  have H5 := Lib.hid b5
  have HC := Lib.hid hC
  have HS := Lib.hid hs1
  have HS0 := Lib.hid hS
  clear hx1 hx2 hx3 hx4 b1 b2 b3 b4 b5 hC hs1 a1 a2 a3 a4 a5 kk hs hS
  go_enter Tryz.func10, Tryz.ntmps10
  go_wp2_with fail
  refine (markSS_any (c := k) H1.out (fun j q => HS.out j q.1) (by omega) (by omega) (by omega)).mono ?_
  rintro e w1 ⟨rfl, hn, hch0⟩
  have hch := hch0
  have kk : ∀ j, S j → tag j ≠ 0 → w1.heap[j]? = (w.alloc (.cells #[.int .i64 m.wd, .int .i64 m.rk, .slice Af m.fr.length kf, .slice Ab m.bk.length kb, .slice Ac m.cr.length kc, .slice Al m.lp.length kl, .slice Ad m.dr.length kd] 36)).heap[j]? := fun j hj ht => hch.block j (HS.out j hj) fun q => ht q.2
  have b1 := hn
  have b2 := H2.out.keep (fun j q => kk j q.1 (by rw [q.2]; decide))
  have b3 := H3.out.keep (fun j q => kk j q.1 (by rw [q.2]; decide))
  have b4 := H4.out.keep (fun j q => kk j q.1 (by rw [q.2]; decide))
  have b5 := (rw_ _ _).keep H5.out (fun j q => kk j q.1 (by rw [q.2]; decide))
  have hx := (hch.block w.heap.size (by simp) fun q => Nat.lt_irrefl _ (HS0.out _ q.1)).trans (alloc_at_ w (.cells #[.int .i64 m.wd, .int .i64 m.rk, .slice Af m.fr.length kf, .slice Ab m.bk.length kb, .slice Ac m.cr.length kc, .slice Al m.lp.length kl, .slice Ad m.dr.length kd] 36))
  have hC := HC.out.trans (hch.mono fun j q => q.1)
  have hs1 : ∀ j, S j → j < w1.heap.size := fun j hj => Nat.lt_of_lt_of_le (HS.out j hj) hch.size
  obtain ⟨⟨-, -, -, p3, -, -, -⟩, -, hlt2⟩ := box7 hx
  clear HC HS
  clear H1 H2 H3 H4 H5 hch hch0 hn kk
  have hlt := hlt2
  clear hlt2
  have X := Lib.hid hx
  have HC := Lib.hid hC
  have HS := Lib.hid hs1
  have H1 := Lib.hid b1
  have H2 := Lib.hid b2
  have H3 := Lib.hid b3
  have H4 := Lib.hid b4
  have H5 := Lib.hid b5
  clear hx hC hs1 b1 b2 b3 b4 b5
  rw [← HX1.out]
  go_wp2_with fail
  refine (markSS_any (c := x1) H2.out (fun j q => HS.out j q.1) (by omega) (by omega) (by omega)).mono ?_
  rintro e w2 ⟨rfl, hn, hch0⟩
  have hch := hch0
  have kk : ∀ j, S j → tag j ≠ 1 → w2.heap[j]? = w1.heap[j]? := fun j hj ht => hch.block j (HS.out j hj) fun q => ht q.2
  have b1 := H1.out.keep (fun j q => kk j q.1 (by rw [q.2]; decide))
  have b2 := hn
  have b3 := H3.out.keep (fun j q => kk j q.1 (by rw [q.2]; decide))
  have b4 := H4.out.keep (fun j q => kk j q.1 (by rw [q.2]; decide))
  have b5 := (rw_ _ _).keep H5.out (fun j q => kk j q.1 (by rw [q.2]; decide))
  have hx := (hch.block w.heap.size hlt fun q => Nat.lt_irrefl _ (HS0.out _ q.1)).trans X.out
  have hC := HC.out.trans (hch.mono fun j q => q.1)
  have hs1 : ∀ j, S j → j < w2.heap.size := fun j hj => Nat.lt_of_lt_of_le (HS.out j hj) hch.size
  obtain ⟨⟨-, -, -, -, p4, -, -⟩, -, hlt2⟩ := box7 hx
  clear HC HS X
  clear H1 H2 H3 H4 H5 hch hch0 hn kk hlt
  have hlt := hlt2
  clear hlt2
  have X := Lib.hid hx
  have HC := Lib.hid hC
  have HS := Lib.hid hs1
  have H1 := Lib.hid b1
  have H2 := Lib.hid b2
  have H3 := Lib.hid b3
  have H4 := Lib.hid b4
  have H5 := Lib.hid b5
  clear hx hC hs1 b1 b2 b3 b4 b5
  rw [← HX2.out]
  go_wp2_with fail
  refine (markCars_any (c := x2) H3.out (fun j q => HS.out j q.1) (by omega) (by omega) (by omega)).mono ?_
  rintro e w3 ⟨rfl, hn, hch0⟩
  have hch := hch0
  have kk : ∀ j, S j → tag j ≠ 2 → w3.heap[j]? = w2.heap[j]? := fun j hj ht => hch.block j (HS.out j hj) fun q => ht q.2
  have b1 := H1.out.keep (fun j q => kk j q.1 (by rw [q.2]; decide))
  have b2 := H2.out.keep (fun j q => kk j q.1 (by rw [q.2]; decide))
  have b3 := hn
  have b4 := H4.out.keep (fun j q => kk j q.1 (by rw [q.2]; decide))
  have b5 := (rw_ _ _).keep H5.out (fun j q => kk j q.1 (by rw [q.2]; decide))
  have hx := (hch.block w.heap.size hlt fun q => Nat.lt_irrefl _ (HS0.out _ q.1)).trans X.out
  have hC := HC.out.trans (hch.mono fun j q => q.1)
  have hs1 : ∀ j, S j → j < w3.heap.size := fun j hj => Nat.lt_of_lt_of_le (HS.out j hj) hch.size
  obtain ⟨⟨-, -, -, -, -, p5, -⟩, -, hlt2⟩ := box7 hx
  clear HC HS X
  clear H1 H2 H3 H4 H5 hch hch0 hn kk hlt
  have hlt := hlt2
  clear hlt2
  have X := Lib.hid hx
  have HC := Lib.hid hC
  have HS := Lib.hid hs1
  have H1 := Lib.hid b1
  have H2 := Lib.hid b2
  have H3 := Lib.hid b3
  have H4 := Lib.hid b4
  have H5 := Lib.hid b5
  clear hx hC hs1 b1 b2 b3 b4 b5
  rw [← HX3.out]
  go_wp2_with fail
  refine (markInfs_any (c := x3) H4.out (fun j q => HS.out j q.1) h5 (by omega) (by omega) (by omega)).mono ?_
  rintro e w4 ⟨rfl, hn, hch0⟩
  have hch := hch0
  have kk : ∀ j, S j → tag j ≠ 3 → w4.heap[j]? = w3.heap[j]? := fun j hj ht => hch.block j (HS.out j hj) fun q => ht q.2
  have b1 := H1.out.keep (fun j q => kk j q.1 (by rw [q.2]; decide))
  have b2 := H2.out.keep (fun j q => kk j q.1 (by rw [q.2]; decide))
  have b3 := H3.out.keep (fun j q => kk j q.1 (by rw [q.2]; decide))
  have b4 := hn
  have b5 := (rw_ _ _).keep H5.out (fun j q => kk j q.1 (by rw [q.2]; decide))
  have hx := (hch.block w.heap.size hlt fun q => Nat.lt_irrefl _ (HS0.out _ q.1)).trans X.out
  have hC := HC.out.trans (hch.mono fun j q => q.1)
  have hs1 : ∀ j, S j → j < w4.heap.size := fun j hj => Nat.lt_of_lt_of_le (HS.out j hj) hch.size
  obtain ⟨⟨-, -, -, -, -, -, p6⟩, -, hlt2⟩ := box7 hx
  clear HC HS X
  clear H1 H2 H3 H4 H5 hch hch0 hn kk hlt
  have hlt := hlt2
  clear hlt2
  have X := Lib.hid hx
  have HC := Lib.hid hC
  have HS := Lib.hid hs1
  have H1 := Lib.hid b1
  have H2 := Lib.hid b2
  have H3 := Lib.hid b3
  have H4 := Lib.hid b4
  have H5 := Lib.hid b5
  clear hx hC hs1 b1 b2 b3 b4 b5
  rw [← HX4.out]
  obtain ⟨a5, b5, ho, hab, hss⟩ := ow_of_rw H5.out
  have HO := Lib.hid ho
  have HSS := Lib.hid hss
  clear ho hab hss
  go_wp2_with fail
  refine (markInts_any _ _ a5 b5 x4 _ HO.out (by omega) (by omega) (by omega)).mono ?_
  rintro e w5 ⟨rfl, hn, hch0⟩
  have hn := rw_mono (rw_of_ow hn) fun j q => HSS.out j q.1 q.2
  have hch : ChgS (fun j => S j ∧ tag j = 4) w4 w5 := (ChgS.of_chg hch0).mono fun j q => HSS.out j q.1 q.2
  have kk : ∀ j, S j → tag j ≠ 4 → w5.heap[j]? = w4.heap[j]? := fun j hj ht => hch.block j (HS.out j hj) fun q => ht q.2
  have b1 := H1.out.keep (fun j q => kk j q.1 (by rw [q.2]; decide))
  have b2 := H2.out.keep (fun j q => kk j q.1 (by rw [q.2]; decide))
  have b3 := H3.out.keep (fun j q => kk j q.1 (by rw [q.2]; decide))
  have b4 := H4.out.keep (fun j q => kk j q.1 (by rw [q.2]; decide))
  have b5 := hn
  have hx := (hch.block w.heap.size hlt fun q => Nat.lt_irrefl _ (HS0.out _ q.1)).trans X.out
  have hC := HC.out.trans (hch.mono fun j q => q.1)
  have hs1 : ∀ j, S j → j < w5.heap.size := fun j hj => Nat.lt_of_lt_of_le (HS.out j hj) hch.size
  clear HC HS X
  clear H1 H2 H3 H4 H5 hch hch0 hn kk hlt
  have X := Lib.hid hx
  have HC := Lib.hid hC
  have HS := Lib.hid hs1
  have H1 := Lib.hid b1
  have H2 := Lib.hid b2
  have H3 := Lib.hid b3
  have H4 := Lib.hid b4
  have H5 := Lib.hid b5
  clear hx hC hs1 b1 b2 b3 b4 b5
  go_wp2_with fail
  go_ret
  refine ⟨ret_int HR.out, ?_, HC.out⟩
  rw [HM.out]
  exact ⟨tag, H1.out, H2.out, owc_len H3.out (markK_len _ _), owc_len H4.out (markSS_len _ _), H5.out⟩
set_option maxHeartbeats 6400000 in
theorem toMac_any {f b c l d : Value} {m : Mac} {B : Nat} {w : World} (h : SlM w B f b c l d m) (hB : B ≤ w.heap.size) (h5 : Five m.lp) (hsz : m.size ≤ 1048576) :
    Calls Tryz.prog 6 #[.agg #[.int .i64 m.wd, .int .i64 m.rk, f, b, c, l, d]] w fun e w' => ∃ f' b' c' l' d', e = .returned (.agg #[.int .i64 m.wd, .int .i64 m.rk, f', b', c', l', d']) ∧ Hs w' w.heap.size [mac_ f' b' c' l' d' m] ∧ Below w.heap.size w w' := by
  obtain ⟨Af, kf, rfl, -⟩ := id (h.fr)
  obtain ⟨Ab, kb, rfl, -⟩ := id (h.bk)
  obtain ⟨Ac, kc, rfl, -⟩ := id (h.cr.cells)
  obtain ⟨Al, kl, rfl, -⟩ := id (h.lp.cells)
  obtain ⟨Ad, kd, rfl, -⟩ := id (h.dr)
  have e1 : (w.alloc (.cells #[.int .i64 m.wd, .int .i64 m.rk, .slice Af m.fr.length kf, .slice Ab m.bk.length kb, .slice Ac m.cr.length kc, .slice Al m.lp.length kl, .slice Ad m.dr.length kd] 27)).heap.size = w.heap.size + 1 := by simp
  have e2 : ((w.alloc (.cells #[.int .i64 m.wd, .int .i64 m.rk, .slice Af m.fr.length kf, .slice Ab m.bk.length kb, .slice Ac m.cr.length kc, .slice Al m.lp.length kl, .slice Ad m.dr.length kd] 27)).alloc (.cells #[.int .i64 0, .int .i64 0, .slice none 0 0, .slice none 0 0, .slice none 0 0, .slice none 0 0, .slice none 0 0] 36)).heap.size = w.heap.size + 1 + 1 := by simp
  have e3 : (((w.alloc (.cells #[.int .i64 m.wd, .int .i64 m.rk, .slice Af m.fr.length kf, .slice Ab m.bk.length kb, .slice Ac m.cr.length kc, .slice Al m.lp.length kl, .slice Ad m.dr.length kd] 27)).alloc (.cells #[.int .i64 0, .int .i64 0, .slice none 0 0, .slice none 0 0, .slice none 0 0, .slice none 0 0, .slice none 0 0] 36)).alloc (.cells #[.int .i64 m.wd, .int .i64 m.rk, .slice none 0 0, .slice none 0 0, .slice none 0 0, .slice none 0 0, .slice none 0 0] 36)).heap.size = w.heap.size + 1 + 1 + 1 := by simp
  have hS : Hs (((w.alloc (.cells #[.int .i64 m.wd, .int .i64 m.rk, .slice Af m.fr.length kf, .slice Ab m.bk.length kb, .slice Ac m.cr.length kc, .slice Al m.lp.length kl, .slice Ad m.dr.length kd] 27)).alloc (.cells #[.int .i64 0, .int .i64 0, .slice none 0 0, .slice none 0 0, .slice none 0 0, .slice none 0 0, .slice none 0 0] 36)).alloc (.cells #[.int .i64 m.wd, .int .i64 m.rk, .slice none 0 0, .slice none 0 0, .slice none 0 0, .slice none 0 0, .slice none 0 0] 36)) w.heap.size [bx_ (w.heap.size) #[.int .i64 m.wd, .int .i64 m.rk, .slice Af m.fr.length kf, .slice Ab m.bk.length kb, .slice Ac m.cr.length kc, .slice Al m.lp.length kl, .slice Ad m.dr.length kd] 27, bx_ (w.heap.size + 1) #[.int .i64 0, .int .i64 0, .slice none 0 0, .slice none 0 0, .slice none 0 0, .slice none 0 0, .slice none 0 0] 36, bx_ (w.heap.size + 1 + 1) #[.int .i64 m.wd, .int .i64 m.rk, .slice none 0 0, .slice none 0 0, .slice none 0 0, .slice none 0 0, .slice none 0 0] 36] := by
    have q1 := (hs_bx w #[.int .i64 m.wd, .int .i64 m.rk, .slice Af m.fr.length kf, .slice Ab m.bk.length kb, .slice Ac m.cr.length kc, .slice Al m.lp.length kl, .slice Ad m.dr.length kd] 27).join (al1 (w.alloc (.cells #[.int .i64 m.wd, .int .i64 m.rk, .slice Af m.fr.length kf, .slice Ab m.bk.length kb, .slice Ac m.cr.length kc, .slice Al m.lp.length kl, .slice Ad m.dr.length kd] 27)) (.cells #[.int .i64 0, .int .i64 0, .slice none 0 0, .slice none 0 0, .slice none 0 0, .slice none 0 0, .slice none 0 0] 36)) (hs_bx (w.alloc (.cells #[.int .i64 m.wd, .int .i64 m.rk, .slice Af m.fr.length kf, .slice Ab m.bk.length kb, .slice Ac m.cr.length kc, .slice Al m.lp.length kl, .slice Ad m.dr.length kd] 27)) #[.int .i64 0, .int .i64 0, .slice none 0 0, .slice none 0 0, .slice none 0 0, .slice none 0 0, .slice none 0 0] 36)
    rw [e1] at q1
    have q2 := q1.join (al1 ((w.alloc (.cells #[.int .i64 m.wd, .int .i64 m.rk, .slice Af m.fr.length kf, .slice Ab m.bk.length kb, .slice Ac m.cr.length kc, .slice Al m.lp.length kl, .slice Ad m.dr.length kd] 27)).alloc (.cells #[.int .i64 0, .int .i64 0, .slice none 0 0, .slice none 0 0, .slice none 0 0, .slice none 0 0, .slice none 0 0] 36)) (.cells #[.int .i64 m.wd, .int .i64 m.rk, .slice none 0 0, .slice none 0 0, .slice none 0 0, .slice none 0 0, .slice none 0 0] 36)) (hs_bx ((w.alloc (.cells #[.int .i64 m.wd, .int .i64 m.rk, .slice Af m.fr.length kf, .slice Ab m.bk.length kb, .slice Ac m.cr.length kc, .slice Al m.lp.length kl, .slice Ad m.dr.length kd] 27)).alloc (.cells #[.int .i64 0, .int .i64 0, .slice none 0 0, .slice none 0 0, .slice none 0 0, .slice none 0 0, .slice none 0 0] 36)) #[.int .i64 m.wd, .int .i64 m.rk, .slice none 0 0, .slice none 0 0, .slice none 0 0, .slice none 0 0, .slice none 0 0] 36)
    rw [e2] at q2
    exact q2
  have hb : Below w.heap.size w (((w.alloc (.cells #[.int .i64 m.wd, .int .i64 m.rk, .slice Af m.fr.length kf, .slice Ab m.bk.length kb, .slice Ac m.cr.length kc, .slice Al m.lp.length kl, .slice Ad m.dr.length kd] 27)).alloc (.cells #[.int .i64 0, .int .i64 0, .slice none 0 0, .slice none 0 0, .slice none 0 0, .slice none 0 0, .slice none 0 0] 36)).alloc (.cells #[.int .i64 m.wd, .int .i64 m.rk, .slice none 0 0, .slice none 0 0, .slice none 0 0, .slice none 0 0, .slice none 0 0] 36)) := (al1 w (.cells #[.int .i64 m.wd, .int .i64 m.rk, .slice Af m.fr.length kf, .slice Ab m.bk.length kb, .slice Ac m.cr.length kc, .slice Al m.lp.length kl, .slice Ad m.dr.length kd] 27)).trans (((al1 (w.alloc (.cells #[.int .i64 m.wd, .int .i64 m.rk, .slice Af m.fr.length kf, .slice Ab m.bk.length kb, .slice Ac m.cr.length kc, .slice Al m.lp.length kl, .slice Ad m.dr.length kd] 27)) (.cells #[.int .i64 0, .int .i64 0, .slice none 0 0, .slice none 0 0, .slice none 0 0, .slice none 0 0, .slice none 0 0] 36)).trans ((al1 ((w.alloc (.cells #[.int .i64 m.wd, .int .i64 m.rk, .slice Af m.fr.length kf, .slice Ab m.bk.length kb, .slice Ac m.cr.length kc, .slice Al m.lp.length kl, .slice Ad m.dr.length kd] 27)).alloc (.cells #[.int .i64 0, .int .i64 0, .slice none 0 0, .slice none 0 0, .slice none 0 0, .slice none 0 0, .slice none 0 0] 36)) (.cells #[.int .i64 m.wd, .int .i64 m.rk, .slice none 0 0, .slice none 0 0, .slice none 0 0, .slice none 0 0, .slice none 0 0] 36)).mono (by simp))).mono (by simp))
  unfold Mac.size at hsz
  have z1 : m.fr.length + lenSS m.fr ≤ 1048576 ∧ m.bk.length + lenSS m.bk ≤ 1048576 ∧ m.cr.length ≤ 1048576 ∧ m.lp.length + lenSS (prs m.lp) ≤ 1048576 ∧ m.dr.length ≤ 1048576 := by omega
  obtain ⟨z1, z2, z3, z4, z5⟩ := z1
  have h0 := Lib.hid h
  have hg := h.below hb hB
  have hBz : B ≤ (((w.alloc (.cells #[.int .i64 m.wd, .int .i64 m.rk, .slice Af m.fr.length kf, .slice Ab m.bk.length kb, .slice Ac m.cr.length kc, .slice Al m.lp.length kl, .slice Ad m.dr.length kd] 27)).alloc (.cells #[.int .i64 0, .int .i64 0, .slice none 0 0, .slice none 0 0, .slice none 0 0, .slice none 0 0, .slice none 0 0] 36)).alloc (.cells #[.int .i64 m.wd, .int .i64 m.rk, .slice none 0 0, .slice none 0 0, .slice none 0 0, .slice none 0 0, .slice none 0 0] 36)).heap.size := Nat.le_trans hB hb.size
  have hz : w.heap.size ≤ (((w.alloc (.cells #[.int .i64 m.wd, .int .i64 m.rk, .slice Af m.fr.length kf, .slice Ab m.bk.length kb, .slice Ac m.cr.length kc, .slice Al m.lp.length kl, .slice Ad m.dr.length kd] 27)).alloc (.cells #[.int .i64 0, .int .i64 0, .slice none 0 0, .slice none 0 0, .slice none 0 0, .slice none 0 0, .slice none 0 0] 36)).alloc (.cells #[.int .i64 m.wd, .int .i64 m.rk, .slice none 0 0, .slice none 0 0, .slice none 0 0, .slice none 0 0, .slice none 0 0] 36)).heap.size := hb.size
  have HS := Lib.hid hS
  have HB := Lib.hid hb
  have G := Lib.hid hg
  have HZ := Lib.hid hz
  have HBZ := Lib.hid hBz
  clear hS hb hg hBz hz e1 e2 e3 h
  go_enter Tryz.func6, Tryz.ntmps6
  go_wp2_with fail
  refine (toSS_any G.out.fr HBZ.out (by omega)).mono ?_
  rintro e w1 ⟨rv, rfl, ho, hq⟩
  obtain ⟨Rf, rf, rfl, -⟩ := id (ho.sl (B := w1.heap.size) fun j q => q.2)
  have hS := HS.out.join hq (hs_ows ho hq)
  have hb := HB.out.trans (hq.mono HZ.out)
  clear HS HB HZ HBZ hq ho
  obtain ⟨kx, -, -, -⟩ := Hs.bx [] [bx_ (w.heap.size + 1) #[.int .i64 0, .int .i64 0, .slice none 0 0, .slice none 0 0, .slice none 0 0, .slice none 0 0, .slice none 0 0] 36, bx_ (w.heap.size + 1 + 1) #[.int .i64 m.wd, .int .i64 m.rk, .slice none 0 0, .slice none 0 0, .slice none 0 0, .slice none 0 0, .slice none 0 0] 36, rws_ (.slice Rf m.fr.length rf) m.fr] hS
  obtain ⟨kz, fz, lz, -⟩ := Hs.bx [bx_ (w.heap.size) #[.int .i64 m.wd, .int .i64 m.rk, .slice Af m.fr.length kf, .slice Ab m.bk.length kb, .slice Ac m.cr.length kc, .slice Al m.lp.length kl, .slice Ad m.dr.length kd] 27, bx_ (w.heap.size + 1) #[.int .i64 0, .int .i64 0, .slice none 0 0, .slice none 0 0, .slice none 0 0, .slice none 0 0, .slice none 0 0] 36] [rws_ (.slice Rf m.fr.length rf) m.fr] hS
  have p0 : w1.cell? ⟨w.heap.size, 3, none⟩ = some (.slice Ab m.bk.length kb) := kx 3
  have q0 : w1.cell? ⟨w.heap.size + 1 + 1, 2, none⟩ = some (.slice none 0 0) := kz 2
  have f0 : w1.frozen? ⟨w.heap.size + 1 + 1, 2, none⟩ = false := fz 2
  have hS2 : Hs (w1.setCell ⟨w.heap.size + 1 + 1, 2, none⟩ (.slice Rf m.fr.length rf)) w.heap.size [bx_ (w.heap.size) #[.int .i64 m.wd, .int .i64 m.rk, .slice Af m.fr.length kf, .slice Ab m.bk.length kb, .slice Ac m.cr.length kc, .slice Al m.lp.length kl, .slice Ad m.dr.length kd] 27, bx_ (w.heap.size + 1) #[.int .i64 0, .int .i64 0, .slice none 0 0, .slice none 0 0, .slice none 0 0, .slice none 0 0, .slice none 0 0] 36, bx_ (w.heap.size + 1 + 1) #[.int .i64 m.wd, .int .i64 m.rk, .slice Rf m.fr.length rf, .slice none 0 0, .slice none 0 0, .slice none 0 0, .slice none 0 0] 36, rws_ (.slice Rf m.fr.length rf) m.fr] := Hs.setBx [bx_ (w.heap.size) #[.int .i64 m.wd, .int .i64 m.rk, .slice Af m.fr.length kf, .slice Ab m.bk.length kb, .slice Ac m.cr.length kc, .slice Al m.lp.length kl, .slice Ad m.dr.length kd] 27, bx_ (w.heap.size + 1) #[.int .i64 0, .int .i64 0, .slice none 0 0, .slice none 0 0, .slice none 0 0, .slice none 0 0, .slice none 0 0] 36] [rws_ (.slice Rf m.fr.length rf) m.fr] hS 2 (.slice Rf m.fr.length rf)
  have hb2 : Below w.heap.size w (w1.setCell ⟨w.heap.size + 1 + 1, 2, none⟩ (.slice Rf m.fr.length rf)) := setB (by simp only; omega) hb
  have hz2 : w.heap.size ≤ (w1.setCell ⟨w.heap.size + 1 + 1, 2, none⟩ (.slice Rf m.fr.length rf)).heap.size := hb2.size
  have hbz2 : B ≤ (w1.setCell ⟨w.heap.size + 1 + 1, 2, none⟩ (.slice Rf m.fr.length rf)).heap.size := Nat.le_trans hB hz2
  have hg2 : SlM (w1.setCell ⟨w.heap.size + 1 + 1, 2, none⟩ (.slice Rf m.fr.length rf)) B (.slice Af m.fr.length kf) (.slice Ab m.bk.length kb) (.slice Ac m.cr.length kc) (.slice Al m.lp.length kl) (.slice Ad m.dr.length kd) m := SlM.below (w := w) h0.out hb2 hB
  clear hS hb kx kz fz lz G
  have HS := Lib.hid hS2
  have HB := Lib.hid hb2
  have HZ := Lib.hid hz2
  have HBZ := Lib.hid hbz2
  have G := Lib.hid hg2
  clear hS2 hb2 hz2 hbz2 hg2
  go_wp2_with fail
  refine (toSS_any G.out.bk HBZ.out (by omega)).mono ?_
  rintro e w2 ⟨rv, rfl, ho, hq⟩
  obtain ⟨Rb, rb, rfl, -⟩ := id (ho.sl (B := w2.heap.size) fun j q => q.2)
  have hS := HS.out.join hq (hs_ows ho hq)
  have hb := HB.out.trans (hq.mono HZ.out)
  clear HS HB HZ HBZ hq ho
  obtain ⟨kx, -, -, -⟩ := Hs.bx [] [bx_ (w.heap.size + 1) #[.int .i64 0, .int .i64 0, .slice none 0 0, .slice none 0 0, .slice none 0 0, .slice none 0 0, .slice none 0 0] 36, bx_ (w.heap.size + 1 + 1) #[.int .i64 m.wd, .int .i64 m.rk, .slice Rf m.fr.length rf, .slice none 0 0, .slice none 0 0, .slice none 0 0, .slice none 0 0] 36, rws_ (.slice Rf m.fr.length rf) m.fr, rws_ (.slice Rb m.bk.length rb) m.bk] hS
  obtain ⟨kz, fz, lz, -⟩ := Hs.bx [bx_ (w.heap.size) #[.int .i64 m.wd, .int .i64 m.rk, .slice Af m.fr.length kf, .slice Ab m.bk.length kb, .slice Ac m.cr.length kc, .slice Al m.lp.length kl, .slice Ad m.dr.length kd] 27, bx_ (w.heap.size + 1) #[.int .i64 0, .int .i64 0, .slice none 0 0, .slice none 0 0, .slice none 0 0, .slice none 0 0, .slice none 0 0] 36] [rws_ (.slice Rf m.fr.length rf) m.fr, rws_ (.slice Rb m.bk.length rb) m.bk] hS
  have p1 : w2.cell? ⟨w.heap.size, 4, none⟩ = some (.slice Ac m.cr.length kc) := kx 4
  have q1 : w2.cell? ⟨w.heap.size + 1 + 1, 3, none⟩ = some (.slice none 0 0) := kz 3
  have f1 : w2.frozen? ⟨w.heap.size + 1 + 1, 3, none⟩ = false := fz 3
  have hS2 : Hs (w2.setCell ⟨w.heap.size + 1 + 1, 3, none⟩ (.slice Rb m.bk.length rb)) w.heap.size [bx_ (w.heap.size) #[.int .i64 m.wd, .int .i64 m.rk, .slice Af m.fr.length kf, .slice Ab m.bk.length kb, .slice Ac m.cr.length kc, .slice Al m.lp.length kl, .slice Ad m.dr.length kd] 27, bx_ (w.heap.size + 1) #[.int .i64 0, .int .i64 0, .slice none 0 0, .slice none 0 0, .slice none 0 0, .slice none 0 0, .slice none 0 0] 36, bx_ (w.heap.size + 1 + 1) #[.int .i64 m.wd, .int .i64 m.rk, .slice Rf m.fr.length rf, .slice Rb m.bk.length rb, .slice none 0 0, .slice none 0 0, .slice none 0 0] 36, rws_ (.slice Rf m.fr.length rf) m.fr, rws_ (.slice Rb m.bk.length rb) m.bk] := Hs.setBx [bx_ (w.heap.size) #[.int .i64 m.wd, .int .i64 m.rk, .slice Af m.fr.length kf, .slice Ab m.bk.length kb, .slice Ac m.cr.length kc, .slice Al m.lp.length kl, .slice Ad m.dr.length kd] 27, bx_ (w.heap.size + 1) #[.int .i64 0, .int .i64 0, .slice none 0 0, .slice none 0 0, .slice none 0 0, .slice none 0 0, .slice none 0 0] 36] [rws_ (.slice Rf m.fr.length rf) m.fr, rws_ (.slice Rb m.bk.length rb) m.bk] hS 3 (.slice Rb m.bk.length rb)
  have hb2 : Below w.heap.size w (w2.setCell ⟨w.heap.size + 1 + 1, 3, none⟩ (.slice Rb m.bk.length rb)) := setB (by simp only; omega) hb
  have hz2 : w.heap.size ≤ (w2.setCell ⟨w.heap.size + 1 + 1, 3, none⟩ (.slice Rb m.bk.length rb)).heap.size := hb2.size
  have hbz2 : B ≤ (w2.setCell ⟨w.heap.size + 1 + 1, 3, none⟩ (.slice Rb m.bk.length rb)).heap.size := Nat.le_trans hB hz2
  have hg2 : SlM (w2.setCell ⟨w.heap.size + 1 + 1, 3, none⟩ (.slice Rb m.bk.length rb)) B (.slice Af m.fr.length kf) (.slice Ab m.bk.length kb) (.slice Ac m.cr.length kc) (.slice Al m.lp.length kl) (.slice Ad m.dr.length kd) m := SlM.below (w := w) h0.out hb2 hB
  clear hS hb kx kz fz lz G
  have HS := Lib.hid hS2
  have HB := Lib.hid hb2
  have HZ := Lib.hid hz2
  have HBZ := Lib.hid hbz2
  have G := Lib.hid hg2
  clear hS2 hb2 hz2 hbz2 hg2
  go_wp2_with fail
  refine (toCars_any G.out.cr HBZ.out (by omega)).mono ?_
  rintro e w3 ⟨rv, rfl, ho, hq⟩
  obtain ⟨Rc, rc, rfl, -⟩ := id (SlK.cells (ho.sl (B := w3.heap.size) fun j q => q.2))
  have hS := HS.out.join hq (hs_owc ho hq)
  have hb := HB.out.trans (hq.mono HZ.out)
  clear HS HB HZ HBZ hq ho
  obtain ⟨kx, -, -, -⟩ := Hs.bx [] [bx_ (w.heap.size + 1) #[.int .i64 0, .int .i64 0, .slice none 0 0, .slice none 0 0, .slice none 0 0, .slice none 0 0, .slice none 0 0] 36, bx_ (w.heap.size + 1 + 1) #[.int .i64 m.wd, .int .i64 m.rk, .slice Rf m.fr.length rf, .slice Rb m.bk.length rb, .slice none 0 0, .slice none 0 0, .slice none 0 0] 36, rws_ (.slice Rf m.fr.length rf) m.fr, rws_ (.slice Rb m.bk.length rb) m.bk, rc_ 78 2 (.slice Rc m.cr.length rc) m.cr.length (carC m.cr)] hS
  obtain ⟨kz, fz, lz, -⟩ := Hs.bx [bx_ (w.heap.size) #[.int .i64 m.wd, .int .i64 m.rk, .slice Af m.fr.length kf, .slice Ab m.bk.length kb, .slice Ac m.cr.length kc, .slice Al m.lp.length kl, .slice Ad m.dr.length kd] 27, bx_ (w.heap.size + 1) #[.int .i64 0, .int .i64 0, .slice none 0 0, .slice none 0 0, .slice none 0 0, .slice none 0 0, .slice none 0 0] 36] [rws_ (.slice Rf m.fr.length rf) m.fr, rws_ (.slice Rb m.bk.length rb) m.bk, rc_ 78 2 (.slice Rc m.cr.length rc) m.cr.length (carC m.cr)] hS
  have p2 : w3.cell? ⟨w.heap.size, 5, none⟩ = some (.slice Al m.lp.length kl) := kx 5
  have q2 : w3.cell? ⟨w.heap.size + 1 + 1, 4, none⟩ = some (.slice none 0 0) := kz 4
  have f2 : w3.frozen? ⟨w.heap.size + 1 + 1, 4, none⟩ = false := fz 4
  have hS2 : Hs (w3.setCell ⟨w.heap.size + 1 + 1, 4, none⟩ (.slice Rc m.cr.length rc)) w.heap.size [bx_ (w.heap.size) #[.int .i64 m.wd, .int .i64 m.rk, .slice Af m.fr.length kf, .slice Ab m.bk.length kb, .slice Ac m.cr.length kc, .slice Al m.lp.length kl, .slice Ad m.dr.length kd] 27, bx_ (w.heap.size + 1) #[.int .i64 0, .int .i64 0, .slice none 0 0, .slice none 0 0, .slice none 0 0, .slice none 0 0, .slice none 0 0] 36, bx_ (w.heap.size + 1 + 1) #[.int .i64 m.wd, .int .i64 m.rk, .slice Rf m.fr.length rf, .slice Rb m.bk.length rb, .slice Rc m.cr.length rc, .slice none 0 0, .slice none 0 0] 36, rws_ (.slice Rf m.fr.length rf) m.fr, rws_ (.slice Rb m.bk.length rb) m.bk, rc_ 78 2 (.slice Rc m.cr.length rc) m.cr.length (carC m.cr)] := Hs.setBx [bx_ (w.heap.size) #[.int .i64 m.wd, .int .i64 m.rk, .slice Af m.fr.length kf, .slice Ab m.bk.length kb, .slice Ac m.cr.length kc, .slice Al m.lp.length kl, .slice Ad m.dr.length kd] 27, bx_ (w.heap.size + 1) #[.int .i64 0, .int .i64 0, .slice none 0 0, .slice none 0 0, .slice none 0 0, .slice none 0 0, .slice none 0 0] 36] [rws_ (.slice Rf m.fr.length rf) m.fr, rws_ (.slice Rb m.bk.length rb) m.bk, rc_ 78 2 (.slice Rc m.cr.length rc) m.cr.length (carC m.cr)] hS 4 (.slice Rc m.cr.length rc)
  have hb2 : Below w.heap.size w (w3.setCell ⟨w.heap.size + 1 + 1, 4, none⟩ (.slice Rc m.cr.length rc)) := setB (by simp only; omega) hb
  have hz2 : w.heap.size ≤ (w3.setCell ⟨w.heap.size + 1 + 1, 4, none⟩ (.slice Rc m.cr.length rc)).heap.size := hb2.size
  have hbz2 : B ≤ (w3.setCell ⟨w.heap.size + 1 + 1, 4, none⟩ (.slice Rc m.cr.length rc)).heap.size := Nat.le_trans hB hz2
  have hg2 : SlM (w3.setCell ⟨w.heap.size + 1 + 1, 4, none⟩ (.slice Rc m.cr.length rc)) B (.slice Af m.fr.length kf) (.slice Ab m.bk.length kb) (.slice Ac m.cr.length kc) (.slice Al m.lp.length kl) (.slice Ad m.dr.length kd) m := SlM.below (w := w) h0.out hb2 hB
  clear hS hb kx kz fz lz G
  have HS := Lib.hid hS2
  have HB := Lib.hid hb2
  have HZ := Lib.hid hz2
  have HBZ := Lib.hid hbz2
  have G := Lib.hid hg2
  clear hS2 hb2 hz2 hbz2 hg2
  go_wp2_with fail
  refine (toInfs_any G.out.lp HBZ.out h5 (by omega)).mono ?_
  rintro e w4 ⟨rv, rfl, ho, hq⟩
  obtain ⟨Rl, rl, rfl, -⟩ := id (SlF.cells (ho.sl (B := w4.heap.size) fun j q => q.2))
  have hS := HS.out.join hq (hs_owc ho hq)
  have hb := HB.out.trans (hq.mono HZ.out)
  clear HS HB HZ HBZ hq ho
  obtain ⟨kx, -, -, -⟩ := Hs.bx [] [bx_ (w.heap.size + 1) #[.int .i64 0, .int .i64 0, .slice none 0 0, .slice none 0 0, .slice none 0 0, .slice none 0 0, .slice none 0 0] 36, bx_ (w.heap.size + 1 + 1) #[.int .i64 m.wd, .int .i64 m.rk, .slice Rf m.fr.length rf, .slice Rb m.bk.length rb, .slice Rc m.cr.length rc, .slice none 0 0, .slice none 0 0] 36, rws_ (.slice Rf m.fr.length rf) m.fr, rws_ (.slice Rb m.bk.length rb) m.bk, rc_ 78 2 (.slice Rc m.cr.length rc) m.cr.length (carC m.cr), rc_ 81 6 (.slice Rl m.lp.length rl) m.lp.length (infC m.lp)] hS
  obtain ⟨kz, fz, lz, -⟩ := Hs.bx [bx_ (w.heap.size) #[.int .i64 m.wd, .int .i64 m.rk, .slice Af m.fr.length kf, .slice Ab m.bk.length kb, .slice Ac m.cr.length kc, .slice Al m.lp.length kl, .slice Ad m.dr.length kd] 27, bx_ (w.heap.size + 1) #[.int .i64 0, .int .i64 0, .slice none 0 0, .slice none 0 0, .slice none 0 0, .slice none 0 0, .slice none 0 0] 36] [rws_ (.slice Rf m.fr.length rf) m.fr, rws_ (.slice Rb m.bk.length rb) m.bk, rc_ 78 2 (.slice Rc m.cr.length rc) m.cr.length (carC m.cr), rc_ 81 6 (.slice Rl m.lp.length rl) m.lp.length (infC m.lp)] hS
  have p3 : w4.cell? ⟨w.heap.size, 6, none⟩ = some (.slice Ad m.dr.length kd) := kx 6
  have q3 : w4.cell? ⟨w.heap.size + 1 + 1, 5, none⟩ = some (.slice none 0 0) := kz 5
  have f3 : w4.frozen? ⟨w.heap.size + 1 + 1, 5, none⟩ = false := fz 5
  have hS2 : Hs (w4.setCell ⟨w.heap.size + 1 + 1, 5, none⟩ (.slice Rl m.lp.length rl)) w.heap.size [bx_ (w.heap.size) #[.int .i64 m.wd, .int .i64 m.rk, .slice Af m.fr.length kf, .slice Ab m.bk.length kb, .slice Ac m.cr.length kc, .slice Al m.lp.length kl, .slice Ad m.dr.length kd] 27, bx_ (w.heap.size + 1) #[.int .i64 0, .int .i64 0, .slice none 0 0, .slice none 0 0, .slice none 0 0, .slice none 0 0, .slice none 0 0] 36, bx_ (w.heap.size + 1 + 1) #[.int .i64 m.wd, .int .i64 m.rk, .slice Rf m.fr.length rf, .slice Rb m.bk.length rb, .slice Rc m.cr.length rc, .slice Rl m.lp.length rl, .slice none 0 0] 36, rws_ (.slice Rf m.fr.length rf) m.fr, rws_ (.slice Rb m.bk.length rb) m.bk, rc_ 78 2 (.slice Rc m.cr.length rc) m.cr.length (carC m.cr), rc_ 81 6 (.slice Rl m.lp.length rl) m.lp.length (infC m.lp)] := Hs.setBx [bx_ (w.heap.size) #[.int .i64 m.wd, .int .i64 m.rk, .slice Af m.fr.length kf, .slice Ab m.bk.length kb, .slice Ac m.cr.length kc, .slice Al m.lp.length kl, .slice Ad m.dr.length kd] 27, bx_ (w.heap.size + 1) #[.int .i64 0, .int .i64 0, .slice none 0 0, .slice none 0 0, .slice none 0 0, .slice none 0 0, .slice none 0 0] 36] [rws_ (.slice Rf m.fr.length rf) m.fr, rws_ (.slice Rb m.bk.length rb) m.bk, rc_ 78 2 (.slice Rc m.cr.length rc) m.cr.length (carC m.cr), rc_ 81 6 (.slice Rl m.lp.length rl) m.lp.length (infC m.lp)] hS 5 (.slice Rl m.lp.length rl)
  have hb2 : Below w.heap.size w (w4.setCell ⟨w.heap.size + 1 + 1, 5, none⟩ (.slice Rl m.lp.length rl)) := setB (by simp only; omega) hb
  have hz2 : w.heap.size ≤ (w4.setCell ⟨w.heap.size + 1 + 1, 5, none⟩ (.slice Rl m.lp.length rl)).heap.size := hb2.size
  have hbz2 : B ≤ (w4.setCell ⟨w.heap.size + 1 + 1, 5, none⟩ (.slice Rl m.lp.length rl)).heap.size := Nat.le_trans hB hz2
  have hg2 : SlM (w4.setCell ⟨w.heap.size + 1 + 1, 5, none⟩ (.slice Rl m.lp.length rl)) B (.slice Af m.fr.length kf) (.slice Ab m.bk.length kb) (.slice Ac m.cr.length kc) (.slice Al m.lp.length kl) (.slice Ad m.dr.length kd) m := SlM.below (w := w) h0.out hb2 hB
  clear hS hb kx kz fz lz G
  have HS := Lib.hid hS2
  have HB := Lib.hid hb2
  have HZ := Lib.hid hz2
  have HBZ := Lib.hid hbz2
  have G := Lib.hid hg2
  clear hS2 hb2 hz2 hbz2 hg2
  go_wp2_with fail
  refine (toInts_any _ _ _ _ G.out.dr HBZ.out (by omega)).mono ?_
  rintro e w5 ⟨rv, rfl, ho, hq⟩
  obtain ⟨Rd, rd, rfl, -⟩ := id (ho.sl (B := w5.heap.size) (Nat.le_refl _))
  have hS := HS.out.join hq (hs_ow ho hq)
  have hb := HB.out.trans (hq.mono HZ.out)
  clear HS HB HZ HBZ hq ho
  obtain ⟨kx, -, -, -⟩ := Hs.bx [] [bx_ (w.heap.size + 1) #[.int .i64 0, .int .i64 0, .slice none 0 0, .slice none 0 0, .slice none 0 0, .slice none 0 0, .slice none 0 0] 36, bx_ (w.heap.size + 1 + 1) #[.int .i64 m.wd, .int .i64 m.rk, .slice Rf m.fr.length rf, .slice Rb m.bk.length rb, .slice Rc m.cr.length rc, .slice Rl m.lp.length rl, .slice none 0 0] 36, rws_ (.slice Rf m.fr.length rf) m.fr, rws_ (.slice Rb m.bk.length rb) m.bk, rc_ 78 2 (.slice Rc m.cr.length rc) m.cr.length (carC m.cr), rc_ 81 6 (.slice Rl m.lp.length rl) m.lp.length (infC m.lp), rw_ (.slice Rd m.dr.length rd) m.dr] hS
  obtain ⟨kz, fz, lz, -⟩ := Hs.bx [bx_ (w.heap.size) #[.int .i64 m.wd, .int .i64 m.rk, .slice Af m.fr.length kf, .slice Ab m.bk.length kb, .slice Ac m.cr.length kc, .slice Al m.lp.length kl, .slice Ad m.dr.length kd] 27, bx_ (w.heap.size + 1) #[.int .i64 0, .int .i64 0, .slice none 0 0, .slice none 0 0, .slice none 0 0, .slice none 0 0, .slice none 0 0] 36] [rws_ (.slice Rf m.fr.length rf) m.fr, rws_ (.slice Rb m.bk.length rb) m.bk, rc_ 78 2 (.slice Rc m.cr.length rc) m.cr.length (carC m.cr), rc_ 81 6 (.slice Rl m.lp.length rl) m.lp.length (infC m.lp), rw_ (.slice Rd m.dr.length rd) m.dr] hS
  have q4 : w5.cell? ⟨w.heap.size + 1 + 1, 6, none⟩ = some (.slice none 0 0) := kz 6
  have f4 : w5.frozen? ⟨w.heap.size + 1 + 1, 6, none⟩ = false := fz 6
  obtain ⟨ky, fy, ly, -⟩ := Hs.bx [bx_ (w.heap.size) #[.int .i64 m.wd, .int .i64 m.rk, .slice Af m.fr.length kf, .slice Ab m.bk.length kb, .slice Ac m.cr.length kc, .slice Al m.lp.length kl, .slice Ad m.dr.length kd] 27] [bx_ (w.heap.size + 1 + 1) #[.int .i64 m.wd, .int .i64 m.rk, .slice Rf m.fr.length rf, .slice Rb m.bk.length rb, .slice Rc m.cr.length rc, .slice Rl m.lp.length rl, .slice none 0 0] 36, rws_ (.slice Rf m.fr.length rf) m.fr, rws_ (.slice Rb m.bk.length rb) m.bk, rc_ 78 2 (.slice Rc m.cr.length rc) m.cr.length (carC m.cr), rc_ 81 6 (.slice Rl m.lp.length rl) m.lp.length (infC m.lp), rw_ (.slice Rd m.dr.length rd) m.dr] hS
  have u0 : w5.cell? ⟨w.heap.size + 1 + 1, 0, none⟩ = some (.int .i64 m.wd) := kz 0
  have v0 : w5.cell? ⟨w.heap.size + 1, 0, none⟩ = some (.int .i64 0) := ky 0
  have t0 : w5.frozen? ⟨w.heap.size + 1, 0, none⟩ = false := fy 0
  have u1 : w5.cell? ⟨w.heap.size + 1 + 1, 1, none⟩ = some (.int .i64 m.rk) := kz 1
  have v1 : w5.cell? ⟨w.heap.size + 1, 1, none⟩ = some (.int .i64 0) := ky 1
  have t1 : w5.frozen? ⟨w.heap.size + 1, 1, none⟩ = false := fy 1
  have u2 : w5.cell? ⟨w.heap.size + 1 + 1, 2, none⟩ = some (.slice Rf m.fr.length rf) := kz 2
  have v2 : w5.cell? ⟨w.heap.size + 1, 2, none⟩ = some (.slice none 0 0) := ky 2
  have t2 : w5.frozen? ⟨w.heap.size + 1, 2, none⟩ = false := fy 2
  have u3 : w5.cell? ⟨w.heap.size + 1 + 1, 3, none⟩ = some (.slice Rb m.bk.length rb) := kz 3
  have v3 : w5.cell? ⟨w.heap.size + 1, 3, none⟩ = some (.slice none 0 0) := ky 3
  have t3 : w5.frozen? ⟨w.heap.size + 1, 3, none⟩ = false := fy 3
  have u4 : w5.cell? ⟨w.heap.size + 1 + 1, 4, none⟩ = some (.slice Rc m.cr.length rc) := kz 4
  have v4 : w5.cell? ⟨w.heap.size + 1, 4, none⟩ = some (.slice none 0 0) := ky 4
  have t4 : w5.frozen? ⟨w.heap.size + 1, 4, none⟩ = false := fy 4
  have u5 : w5.cell? ⟨w.heap.size + 1 + 1, 5, none⟩ = some (.slice Rl m.lp.length rl) := kz 5
  have v5 : w5.cell? ⟨w.heap.size + 1, 5, none⟩ = some (.slice none 0 0) := ky 5
  have t5 : w5.frozen? ⟨w.heap.size + 1, 5, none⟩ = false := fy 5
  have v6 : w5.cell? ⟨w.heap.size + 1, 6, none⟩ = some (.slice none 0 0) := ky 6
  have t6 : w5.frozen? ⟨w.heap.size + 1, 6, none⟩ = false := fy 6
  clear ky fy
  have hS2 : Hs (w5.setCell ⟨w.heap.size + 1 + 1, 6, none⟩ (.slice Rd m.dr.length rd)) w.heap.size [bx_ (w.heap.size) #[.int .i64 m.wd, .int .i64 m.rk, .slice Af m.fr.length kf, .slice Ab m.bk.length kb, .slice Ac m.cr.length kc, .slice Al m.lp.length kl, .slice Ad m.dr.length kd] 27, bx_ (w.heap.size + 1) #[.int .i64 0, .int .i64 0, .slice none 0 0, .slice none 0 0, .slice none 0 0, .slice none 0 0, .slice none 0 0] 36, bx_ (w.heap.size + 1 + 1) #[.int .i64 m.wd, .int .i64 m.rk, .slice Rf m.fr.length rf, .slice Rb m.bk.length rb, .slice Rc m.cr.length rc, .slice Rl m.lp.length rl, .slice Rd m.dr.length rd] 36, rws_ (.slice Rf m.fr.length rf) m.fr, rws_ (.slice Rb m.bk.length rb) m.bk, rc_ 78 2 (.slice Rc m.cr.length rc) m.cr.length (carC m.cr), rc_ 81 6 (.slice Rl m.lp.length rl) m.lp.length (infC m.lp), rw_ (.slice Rd m.dr.length rd) m.dr] := Hs.setBx [bx_ (w.heap.size) #[.int .i64 m.wd, .int .i64 m.rk, .slice Af m.fr.length kf, .slice Ab m.bk.length kb, .slice Ac m.cr.length kc, .slice Al m.lp.length kl, .slice Ad m.dr.length kd] 27, bx_ (w.heap.size + 1) #[.int .i64 0, .int .i64 0, .slice none 0 0, .slice none 0 0, .slice none 0 0, .slice none 0 0, .slice none 0 0] 36] [rws_ (.slice Rf m.fr.length rf) m.fr, rws_ (.slice Rb m.bk.length rb) m.bk, rc_ 78 2 (.slice Rc m.cr.length rc) m.cr.length (carC m.cr), rc_ 81 6 (.slice Rl m.lp.length rl) m.lp.length (infC m.lp), rw_ (.slice Rd m.dr.length rd) m.dr] hS 6 (.slice Rd m.dr.length rd)
  have hb2 : Below w.heap.size w (w5.setCell ⟨w.heap.size + 1 + 1, 6, none⟩ (.slice Rd m.dr.length rd)) := setB (by simp only; omega) hb
  have hz2 : w.heap.size ≤ (w5.setCell ⟨w.heap.size + 1 + 1, 6, none⟩ (.slice Rd m.dr.length rd)).heap.size := hb2.size
  have hbz2 : B ≤ (w5.setCell ⟨w.heap.size + 1 + 1, 6, none⟩ (.slice Rd m.dr.length rd)).heap.size := Nat.le_trans hB hz2
  clear hS hb kx kz fz lz G
  have HS := Lib.hid hS2
  have HB := Lib.hid hb2
  have HZ := Lib.hid hz2
  have HBZ := Lib.hid hbz2
  clear hS2 hb2 hz2 hbz2
  clear HZ HBZ
  have hS := HS.out
  have hb := HB.out
  clear HS HB
  have hS : Hs ((w5.setCell ⟨w.heap.size + 1 + 1, 6, none⟩ (.slice Rd m.dr.length rd)).setCell ⟨w.heap.size + 1, 0, none⟩ (.int .i64 m.wd)) w.heap.size [bx_ (w.heap.size) #[.int .i64 m.wd, .int .i64 m.rk, .slice Af m.fr.length kf, .slice Ab m.bk.length kb, .slice Ac m.cr.length kc, .slice Al m.lp.length kl, .slice Ad m.dr.length kd] 27, bx_ (w.heap.size + 1) #[.int .i64 m.wd, .int .i64 0, .slice none 0 0, .slice none 0 0, .slice none 0 0, .slice none 0 0, .slice none 0 0] 36, bx_ (w.heap.size + 1 + 1) #[.int .i64 m.wd, .int .i64 m.rk, .slice Rf m.fr.length rf, .slice Rb m.bk.length rb, .slice Rc m.cr.length rc, .slice Rl m.lp.length rl, .slice Rd m.dr.length rd] 36, rws_ (.slice Rf m.fr.length rf) m.fr, rws_ (.slice Rb m.bk.length rb) m.bk, rc_ 78 2 (.slice Rc m.cr.length rc) m.cr.length (carC m.cr), rc_ 81 6 (.slice Rl m.lp.length rl) m.lp.length (infC m.lp), rw_ (.slice Rd m.dr.length rd) m.dr] := Hs.setBx [bx_ (w.heap.size) #[.int .i64 m.wd, .int .i64 m.rk, .slice Af m.fr.length kf, .slice Ab m.bk.length kb, .slice Ac m.cr.length kc, .slice Al m.lp.length kl, .slice Ad m.dr.length kd] 27] [bx_ (w.heap.size + 1 + 1) #[.int .i64 m.wd, .int .i64 m.rk, .slice Rf m.fr.length rf, .slice Rb m.bk.length rb, .slice Rc m.cr.length rc, .slice Rl m.lp.length rl, .slice Rd m.dr.length rd] 36, rws_ (.slice Rf m.fr.length rf) m.fr, rws_ (.slice Rb m.bk.length rb) m.bk, rc_ 78 2 (.slice Rc m.cr.length rc) m.cr.length (carC m.cr), rc_ 81 6 (.slice Rl m.lp.length rl) m.lp.length (infC m.lp), rw_ (.slice Rd m.dr.length rd) m.dr] hS 0 (.int .i64 m.wd)
  have hb : Below w.heap.size w ((w5.setCell ⟨w.heap.size + 1 + 1, 6, none⟩ (.slice Rd m.dr.length rd)).setCell ⟨w.heap.size + 1, 0, none⟩ (.int .i64 m.wd)) := setB (by simp only; omega) hb
  have hS : Hs (((w5.setCell ⟨w.heap.size + 1 + 1, 6, none⟩ (.slice Rd m.dr.length rd)).setCell ⟨w.heap.size + 1, 0, none⟩ (.int .i64 m.wd)).setCell ⟨w.heap.size + 1, 1, none⟩ (.int .i64 m.rk)) w.heap.size [bx_ (w.heap.size) #[.int .i64 m.wd, .int .i64 m.rk, .slice Af m.fr.length kf, .slice Ab m.bk.length kb, .slice Ac m.cr.length kc, .slice Al m.lp.length kl, .slice Ad m.dr.length kd] 27, bx_ (w.heap.size + 1) #[.int .i64 m.wd, .int .i64 m.rk, .slice none 0 0, .slice none 0 0, .slice none 0 0, .slice none 0 0, .slice none 0 0] 36, bx_ (w.heap.size + 1 + 1) #[.int .i64 m.wd, .int .i64 m.rk, .slice Rf m.fr.length rf, .slice Rb m.bk.length rb, .slice Rc m.cr.length rc, .slice Rl m.lp.length rl, .slice Rd m.dr.length rd] 36, rws_ (.slice Rf m.fr.length rf) m.fr, rws_ (.slice Rb m.bk.length rb) m.bk, rc_ 78 2 (.slice Rc m.cr.length rc) m.cr.length (carC m.cr), rc_ 81 6 (.slice Rl m.lp.length rl) m.lp.length (infC m.lp), rw_ (.slice Rd m.dr.length rd) m.dr] := Hs.setBx [bx_ (w.heap.size) #[.int .i64 m.wd, .int .i64 m.rk, .slice Af m.fr.length kf, .slice Ab m.bk.length kb, .slice Ac m.cr.length kc, .slice Al m.lp.length kl, .slice Ad m.dr.length kd] 27] [bx_ (w.heap.size + 1 + 1) #[.int .i64 m.wd, .int .i64 m.rk, .slice Rf m.fr.length rf, .slice Rb m.bk.length rb, .slice Rc m.cr.length rc, .slice Rl m.lp.length rl, .slice Rd m.dr.length rd] 36, rws_ (.slice Rf m.fr.length rf) m.fr, rws_ (.slice Rb m.bk.length rb) m.bk, rc_ 78 2 (.slice Rc m.cr.length rc) m.cr.length (carC m.cr), rc_ 81 6 (.slice Rl m.lp.length rl) m.lp.length (infC m.lp), rw_ (.slice Rd m.dr.length rd) m.dr] hS 1 (.int .i64 m.rk)
  have hb : Below w.heap.size w (((w5.setCell ⟨w.heap.size + 1 + 1, 6, none⟩ (.slice Rd m.dr.length rd)).setCell ⟨w.heap.size + 1, 0, none⟩ (.int .i64 m.wd)).setCell ⟨w.heap.size + 1, 1, none⟩ (.int .i64 m.rk)) := setB (by simp only; omega) hb
  have hS : Hs ((((w5.setCell ⟨w.heap.size + 1 + 1, 6, none⟩ (.slice Rd m.dr.length rd)).setCell ⟨w.heap.size + 1, 0, none⟩ (.int .i64 m.wd)).setCell ⟨w.heap.size + 1, 1, none⟩ (.int .i64 m.rk)).setCell ⟨w.heap.size + 1, 2, none⟩ (.slice Rf m.fr.length rf)) w.heap.size [bx_ (w.heap.size) #[.int .i64 m.wd, .int .i64 m.rk, .slice Af m.fr.length kf, .slice Ab m.bk.length kb, .slice Ac m.cr.length kc, .slice Al m.lp.length kl, .slice Ad m.dr.length kd] 27, bx_ (w.heap.size + 1) #[.int .i64 m.wd, .int .i64 m.rk, .slice Rf m.fr.length rf, .slice none 0 0, .slice none 0 0, .slice none 0 0, .slice none 0 0] 36, bx_ (w.heap.size + 1 + 1) #[.int .i64 m.wd, .int .i64 m.rk, .slice Rf m.fr.length rf, .slice Rb m.bk.length rb, .slice Rc m.cr.length rc, .slice Rl m.lp.length rl, .slice Rd m.dr.length rd] 36, rws_ (.slice Rf m.fr.length rf) m.fr, rws_ (.slice Rb m.bk.length rb) m.bk, rc_ 78 2 (.slice Rc m.cr.length rc) m.cr.length (carC m.cr), rc_ 81 6 (.slice Rl m.lp.length rl) m.lp.length (infC m.lp), rw_ (.slice Rd m.dr.length rd) m.dr] := Hs.setBx [bx_ (w.heap.size) #[.int .i64 m.wd, .int .i64 m.rk, .slice Af m.fr.length kf, .slice Ab m.bk.length kb, .slice Ac m.cr.length kc, .slice Al m.lp.length kl, .slice Ad m.dr.length kd] 27] [bx_ (w.heap.size + 1 + 1) #[.int .i64 m.wd, .int .i64 m.rk, .slice Rf m.fr.length rf, .slice Rb m.bk.length rb, .slice Rc m.cr.length rc, .slice Rl m.lp.length rl, .slice Rd m.dr.length rd] 36, rws_ (.slice Rf m.fr.length rf) m.fr, rws_ (.slice Rb m.bk.length rb) m.bk, rc_ 78 2 (.slice Rc m.cr.length rc) m.cr.length (carC m.cr), rc_ 81 6 (.slice Rl m.lp.length rl) m.lp.length (infC m.lp), rw_ (.slice Rd m.dr.length rd) m.dr] hS 2 (.slice Rf m.fr.length rf)
  have hb : Below w.heap.size w ((((w5.setCell ⟨w.heap.size + 1 + 1, 6, none⟩ (.slice Rd m.dr.length rd)).setCell ⟨w.heap.size + 1, 0, none⟩ (.int .i64 m.wd)).setCell ⟨w.heap.size + 1, 1, none⟩ (.int .i64 m.rk)).setCell ⟨w.heap.size + 1, 2, none⟩ (.slice Rf m.fr.length rf)) := setB (by simp only; omega) hb
  have hS : Hs (((((w5.setCell ⟨w.heap.size + 1 + 1, 6, none⟩ (.slice Rd m.dr.length rd)).setCell ⟨w.heap.size + 1, 0, none⟩ (.int .i64 m.wd)).setCell ⟨w.heap.size + 1, 1, none⟩ (.int .i64 m.rk)).setCell ⟨w.heap.size + 1, 2, none⟩ (.slice Rf m.fr.length rf)).setCell ⟨w.heap.size + 1, 3, none⟩ (.slice Rb m.bk.length rb)) w.heap.size [bx_ (w.heap.size) #[.int .i64 m.wd, .int .i64 m.rk, .slice Af m.fr.length kf, .slice Ab m.bk.length kb, .slice Ac m.cr.length kc, .slice Al m.lp.length kl, .slice Ad m.dr.length kd] 27, bx_ (w.heap.size + 1) #[.int .i64 m.wd, .int .i64 m.rk, .slice Rf m.fr.length rf, .slice Rb m.bk.length rb, .slice none 0 0, .slice none 0 0, .slice none 0 0] 36, bx_ (w.heap.size + 1 + 1) #[.int .i64 m.wd, .int .i64 m.rk, .slice Rf m.fr.length rf, .slice Rb m.bk.length rb, .slice Rc m.cr.length rc, .slice Rl m.lp.length rl, .slice Rd m.dr.length rd] 36, rws_ (.slice Rf m.fr.length rf) m.fr, rws_ (.slice Rb m.bk.length rb) m.bk, rc_ 78 2 (.slice Rc m.cr.length rc) m.cr.length (carC m.cr), rc_ 81 6 (.slice Rl m.lp.length rl) m.lp.length (infC m.lp), rw_ (.slice Rd m.dr.length rd) m.dr] := Hs.setBx [bx_ (w.heap.size) #[.int .i64 m.wd, .int .i64 m.rk, .slice Af m.fr.length kf, .slice Ab m.bk.length kb, .slice Ac m.cr.length kc, .slice Al m.lp.length kl, .slice Ad m.dr.length kd] 27] [bx_ (w.heap.size + 1 + 1) #[.int .i64 m.wd, .int .i64 m.rk, .slice Rf m.fr.length rf, .slice Rb m.bk.length rb, .slice Rc m.cr.length rc, .slice Rl m.lp.length rl, .slice Rd m.dr.length rd] 36, rws_ (.slice Rf m.fr.length rf) m.fr, rws_ (.slice Rb m.bk.length rb) m.bk, rc_ 78 2 (.slice Rc m.cr.length rc) m.cr.length (carC m.cr), rc_ 81 6 (.slice Rl m.lp.length rl) m.lp.length (infC m.lp), rw_ (.slice Rd m.dr.length rd) m.dr] hS 3 (.slice Rb m.bk.length rb)
  have hb : Below w.heap.size w (((((w5.setCell ⟨w.heap.size + 1 + 1, 6, none⟩ (.slice Rd m.dr.length rd)).setCell ⟨w.heap.size + 1, 0, none⟩ (.int .i64 m.wd)).setCell ⟨w.heap.size + 1, 1, none⟩ (.int .i64 m.rk)).setCell ⟨w.heap.size + 1, 2, none⟩ (.slice Rf m.fr.length rf)).setCell ⟨w.heap.size + 1, 3, none⟩ (.slice Rb m.bk.length rb)) := setB (by simp only; omega) hb
  have hS : Hs ((((((w5.setCell ⟨w.heap.size + 1 + 1, 6, none⟩ (.slice Rd m.dr.length rd)).setCell ⟨w.heap.size + 1, 0, none⟩ (.int .i64 m.wd)).setCell ⟨w.heap.size + 1, 1, none⟩ (.int .i64 m.rk)).setCell ⟨w.heap.size + 1, 2, none⟩ (.slice Rf m.fr.length rf)).setCell ⟨w.heap.size + 1, 3, none⟩ (.slice Rb m.bk.length rb)).setCell ⟨w.heap.size + 1, 4, none⟩ (.slice Rc m.cr.length rc)) w.heap.size [bx_ (w.heap.size) #[.int .i64 m.wd, .int .i64 m.rk, .slice Af m.fr.length kf, .slice Ab m.bk.length kb, .slice Ac m.cr.length kc, .slice Al m.lp.length kl, .slice Ad m.dr.length kd] 27, bx_ (w.heap.size + 1) #[.int .i64 m.wd, .int .i64 m.rk, .slice Rf m.fr.length rf, .slice Rb m.bk.length rb, .slice Rc m.cr.length rc, .slice none 0 0, .slice none 0 0] 36, bx_ (w.heap.size + 1 + 1) #[.int .i64 m.wd, .int .i64 m.rk, .slice Rf m.fr.length rf, .slice Rb m.bk.length rb, .slice Rc m.cr.length rc, .slice Rl m.lp.length rl, .slice Rd m.dr.length rd] 36, rws_ (.slice Rf m.fr.length rf) m.fr, rws_ (.slice Rb m.bk.length rb) m.bk, rc_ 78 2 (.slice Rc m.cr.length rc) m.cr.length (carC m.cr), rc_ 81 6 (.slice Rl m.lp.length rl) m.lp.length (infC m.lp), rw_ (.slice Rd m.dr.length rd) m.dr] := Hs.setBx [bx_ (w.heap.size) #[.int .i64 m.wd, .int .i64 m.rk, .slice Af m.fr.length kf, .slice Ab m.bk.length kb, .slice Ac m.cr.length kc, .slice Al m.lp.length kl, .slice Ad m.dr.length kd] 27] [bx_ (w.heap.size + 1 + 1) #[.int .i64 m.wd, .int .i64 m.rk, .slice Rf m.fr.length rf, .slice Rb m.bk.length rb, .slice Rc m.cr.length rc, .slice Rl m.lp.length rl, .slice Rd m.dr.length rd] 36, rws_ (.slice Rf m.fr.length rf) m.fr, rws_ (.slice Rb m.bk.length rb) m.bk, rc_ 78 2 (.slice Rc m.cr.length rc) m.cr.length (carC m.cr), rc_ 81 6 (.slice Rl m.lp.length rl) m.lp.length (infC m.lp), rw_ (.slice Rd m.dr.length rd) m.dr] hS 4 (.slice Rc m.cr.length rc)
  have hb : Below w.heap.size w ((((((w5.setCell ⟨w.heap.size + 1 + 1, 6, none⟩ (.slice Rd m.dr.length rd)).setCell ⟨w.heap.size + 1, 0, none⟩ (.int .i64 m.wd)).setCell ⟨w.heap.size + 1, 1, none⟩ (.int .i64 m.rk)).setCell ⟨w.heap.size + 1, 2, none⟩ (.slice Rf m.fr.length rf)).setCell ⟨w.heap.size + 1, 3, none⟩ (.slice Rb m.bk.length rb)).setCell ⟨w.heap.size + 1, 4, none⟩ (.slice Rc m.cr.length rc)) := setB (by simp only; omega) hb
  have hS : Hs (((((((w5.setCell ⟨w.heap.size + 1 + 1, 6, none⟩ (.slice Rd m.dr.length rd)).setCell ⟨w.heap.size + 1, 0, none⟩ (.int .i64 m.wd)).setCell ⟨w.heap.size + 1, 1, none⟩ (.int .i64 m.rk)).setCell ⟨w.heap.size + 1, 2, none⟩ (.slice Rf m.fr.length rf)).setCell ⟨w.heap.size + 1, 3, none⟩ (.slice Rb m.bk.length rb)).setCell ⟨w.heap.size + 1, 4, none⟩ (.slice Rc m.cr.length rc)).setCell ⟨w.heap.size + 1, 5, none⟩ (.slice Rl m.lp.length rl)) w.heap.size [bx_ (w.heap.size) #[.int .i64 m.wd, .int .i64 m.rk, .slice Af m.fr.length kf, .slice Ab m.bk.length kb, .slice Ac m.cr.length kc, .slice Al m.lp.length kl, .slice Ad m.dr.length kd] 27, bx_ (w.heap.size + 1) #[.int .i64 m.wd, .int .i64 m.rk, .slice Rf m.fr.length rf, .slice Rb m.bk.length rb, .slice Rc m.cr.length rc, .slice Rl m.lp.length rl, .slice none 0 0] 36, bx_ (w.heap.size + 1 + 1) #[.int .i64 m.wd, .int .i64 m.rk, .slice Rf m.fr.length rf, .slice Rb m.bk.length rb, .slice Rc m.cr.length rc, .slice Rl m.lp.length rl, .slice Rd m.dr.length rd] 36, rws_ (.slice Rf m.fr.length rf) m.fr, rws_ (.slice Rb m.bk.length rb) m.bk, rc_ 78 2 (.slice Rc m.cr.length rc) m.cr.length (carC m.cr), rc_ 81 6 (.slice Rl m.lp.length rl) m.lp.length (infC m.lp), rw_ (.slice Rd m.dr.length rd) m.dr] := Hs.setBx [bx_ (w.heap.size) #[.int .i64 m.wd, .int .i64 m.rk, .slice Af m.fr.length kf, .slice Ab m.bk.length kb, .slice Ac m.cr.length kc, .slice Al m.lp.length kl, .slice Ad m.dr.length kd] 27] [bx_ (w.heap.size + 1 + 1) #[.int .i64 m.wd, .int .i64 m.rk, .slice Rf m.fr.length rf, .slice Rb m.bk.length rb, .slice Rc m.cr.length rc, .slice Rl m.lp.length rl, .slice Rd m.dr.length rd] 36, rws_ (.slice Rf m.fr.length rf) m.fr, rws_ (.slice Rb m.bk.length rb) m.bk, rc_ 78 2 (.slice Rc m.cr.length rc) m.cr.length (carC m.cr), rc_ 81 6 (.slice Rl m.lp.length rl) m.lp.length (infC m.lp), rw_ (.slice Rd m.dr.length rd) m.dr] hS 5 (.slice Rl m.lp.length rl)
  have hb : Below w.heap.size w (((((((w5.setCell ⟨w.heap.size + 1 + 1, 6, none⟩ (.slice Rd m.dr.length rd)).setCell ⟨w.heap.size + 1, 0, none⟩ (.int .i64 m.wd)).setCell ⟨w.heap.size + 1, 1, none⟩ (.int .i64 m.rk)).setCell ⟨w.heap.size + 1, 2, none⟩ (.slice Rf m.fr.length rf)).setCell ⟨w.heap.size + 1, 3, none⟩ (.slice Rb m.bk.length rb)).setCell ⟨w.heap.size + 1, 4, none⟩ (.slice Rc m.cr.length rc)).setCell ⟨w.heap.size + 1, 5, none⟩ (.slice Rl m.lp.length rl)) := setB (by simp only; omega) hb
  have hS : Hs ((((((((w5.setCell ⟨w.heap.size + 1 + 1, 6, none⟩ (.slice Rd m.dr.length rd)).setCell ⟨w.heap.size + 1, 0, none⟩ (.int .i64 m.wd)).setCell ⟨w.heap.size + 1, 1, none⟩ (.int .i64 m.rk)).setCell ⟨w.heap.size + 1, 2, none⟩ (.slice Rf m.fr.length rf)).setCell ⟨w.heap.size + 1, 3, none⟩ (.slice Rb m.bk.length rb)).setCell ⟨w.heap.size + 1, 4, none⟩ (.slice Rc m.cr.length rc)).setCell ⟨w.heap.size + 1, 5, none⟩ (.slice Rl m.lp.length rl)).setCell ⟨w.heap.size + 1, 6, none⟩ (.slice Rd m.dr.length rd)) w.heap.size [bx_ (w.heap.size) #[.int .i64 m.wd, .int .i64 m.rk, .slice Af m.fr.length kf, .slice Ab m.bk.length kb, .slice Ac m.cr.length kc, .slice Al m.lp.length kl, .slice Ad m.dr.length kd] 27, bx_ (w.heap.size + 1) #[.int .i64 m.wd, .int .i64 m.rk, .slice Rf m.fr.length rf, .slice Rb m.bk.length rb, .slice Rc m.cr.length rc, .slice Rl m.lp.length rl, .slice Rd m.dr.length rd] 36, bx_ (w.heap.size + 1 + 1) #[.int .i64 m.wd, .int .i64 m.rk, .slice Rf m.fr.length rf, .slice Rb m.bk.length rb, .slice Rc m.cr.length rc, .slice Rl m.lp.length rl, .slice Rd m.dr.length rd] 36, rws_ (.slice Rf m.fr.length rf) m.fr, rws_ (.slice Rb m.bk.length rb) m.bk, rc_ 78 2 (.slice Rc m.cr.length rc) m.cr.length (carC m.cr), rc_ 81 6 (.slice Rl m.lp.length rl) m.lp.length (infC m.lp), rw_ (.slice Rd m.dr.length rd) m.dr] := Hs.setBx [bx_ (w.heap.size) #[.int .i64 m.wd, .int .i64 m.rk, .slice Af m.fr.length kf, .slice Ab m.bk.length kb, .slice Ac m.cr.length kc, .slice Al m.lp.length kl, .slice Ad m.dr.length kd] 27] [bx_ (w.heap.size + 1 + 1) #[.int .i64 m.wd, .int .i64 m.rk, .slice Rf m.fr.length rf, .slice Rb m.bk.length rb, .slice Rc m.cr.length rc, .slice Rl m.lp.length rl, .slice Rd m.dr.length rd] 36, rws_ (.slice Rf m.fr.length rf) m.fr, rws_ (.slice Rb m.bk.length rb) m.bk, rc_ 78 2 (.slice Rc m.cr.length rc) m.cr.length (carC m.cr), rc_ 81 6 (.slice Rl m.lp.length rl) m.lp.length (infC m.lp), rw_ (.slice Rd m.dr.length rd) m.dr] hS 6 (.slice Rd m.dr.length rd)
  have hb : Below w.heap.size w ((((((((w5.setCell ⟨w.heap.size + 1 + 1, 6, none⟩ (.slice Rd m.dr.length rd)).setCell ⟨w.heap.size + 1, 0, none⟩ (.int .i64 m.wd)).setCell ⟨w.heap.size + 1, 1, none⟩ (.int .i64 m.rk)).setCell ⟨w.heap.size + 1, 2, none⟩ (.slice Rf m.fr.length rf)).setCell ⟨w.heap.size + 1, 3, none⟩ (.slice Rb m.bk.length rb)).setCell ⟨w.heap.size + 1, 4, none⟩ (.slice Rc m.cr.length rc)).setCell ⟨w.heap.size + 1, 5, none⟩ (.slice Rl m.lp.length rl)).setCell ⟨w.heap.size + 1, 6, none⟩ (.slice Rd m.dr.length rd)) := setB (by simp only; omega) hb
  obtain ⟨ky, -, -, -⟩ := Hs.bx [bx_ (w.heap.size) #[.int .i64 m.wd, .int .i64 m.rk, .slice Af m.fr.length kf, .slice Ab m.bk.length kb, .slice Ac m.cr.length kc, .slice Al m.lp.length kl, .slice Ad m.dr.length kd] 27] [bx_ (w.heap.size + 1 + 1) #[.int .i64 m.wd, .int .i64 m.rk, .slice Rf m.fr.length rf, .slice Rb m.bk.length rb, .slice Rc m.cr.length rc, .slice Rl m.lp.length rl, .slice Rd m.dr.length rd] 36, rws_ (.slice Rf m.fr.length rf) m.fr, rws_ (.slice Rb m.bk.length rb) m.bk, rc_ 78 2 (.slice Rc m.cr.length rc) m.cr.length (carC m.cr), rc_ 81 6 (.slice Rl m.lp.length rl) m.lp.length (infC m.lp), rw_ (.slice Rd m.dr.length rd) m.dr] hS
  have n0 : ((((((((w5.setCell ⟨w.heap.size + 1 + 1, 6, none⟩ (.slice Rd m.dr.length rd)).setCell ⟨w.heap.size + 1, 0, none⟩ (.int .i64 m.wd)).setCell ⟨w.heap.size + 1, 1, none⟩ (.int .i64 m.rk)).setCell ⟨w.heap.size + 1, 2, none⟩ (.slice Rf m.fr.length rf)).setCell ⟨w.heap.size + 1, 3, none⟩ (.slice Rb m.bk.length rb)).setCell ⟨w.heap.size + 1, 4, none⟩ (.slice Rc m.cr.length rc)).setCell ⟨w.heap.size + 1, 5, none⟩ (.slice Rl m.lp.length rl)).setCell ⟨w.heap.size + 1, 6, none⟩ (.slice Rd m.dr.length rd)).cell? ⟨w.heap.size + 1, 0, none⟩ = some (.int .i64 m.wd) := ky 0
  have n1 : ((((((((w5.setCell ⟨w.heap.size + 1 + 1, 6, none⟩ (.slice Rd m.dr.length rd)).setCell ⟨w.heap.size + 1, 0, none⟩ (.int .i64 m.wd)).setCell ⟨w.heap.size + 1, 1, none⟩ (.int .i64 m.rk)).setCell ⟨w.heap.size + 1, 2, none⟩ (.slice Rf m.fr.length rf)).setCell ⟨w.heap.size + 1, 3, none⟩ (.slice Rb m.bk.length rb)).setCell ⟨w.heap.size + 1, 4, none⟩ (.slice Rc m.cr.length rc)).setCell ⟨w.heap.size + 1, 5, none⟩ (.slice Rl m.lp.length rl)).setCell ⟨w.heap.size + 1, 6, none⟩ (.slice Rd m.dr.length rd)).cell? ⟨w.heap.size + 1, 1, none⟩ = some (.int .i64 m.rk) := ky 1
  have n2 : ((((((((w5.setCell ⟨w.heap.size + 1 + 1, 6, none⟩ (.slice Rd m.dr.length rd)).setCell ⟨w.heap.size + 1, 0, none⟩ (.int .i64 m.wd)).setCell ⟨w.heap.size + 1, 1, none⟩ (.int .i64 m.rk)).setCell ⟨w.heap.size + 1, 2, none⟩ (.slice Rf m.fr.length rf)).setCell ⟨w.heap.size + 1, 3, none⟩ (.slice Rb m.bk.length rb)).setCell ⟨w.heap.size + 1, 4, none⟩ (.slice Rc m.cr.length rc)).setCell ⟨w.heap.size + 1, 5, none⟩ (.slice Rl m.lp.length rl)).setCell ⟨w.heap.size + 1, 6, none⟩ (.slice Rd m.dr.length rd)).cell? ⟨w.heap.size + 1, 2, none⟩ = some (.slice Rf m.fr.length rf) := ky 2
  have n3 : ((((((((w5.setCell ⟨w.heap.size + 1 + 1, 6, none⟩ (.slice Rd m.dr.length rd)).setCell ⟨w.heap.size + 1, 0, none⟩ (.int .i64 m.wd)).setCell ⟨w.heap.size + 1, 1, none⟩ (.int .i64 m.rk)).setCell ⟨w.heap.size + 1, 2, none⟩ (.slice Rf m.fr.length rf)).setCell ⟨w.heap.size + 1, 3, none⟩ (.slice Rb m.bk.length rb)).setCell ⟨w.heap.size + 1, 4, none⟩ (.slice Rc m.cr.length rc)).setCell ⟨w.heap.size + 1, 5, none⟩ (.slice Rl m.lp.length rl)).setCell ⟨w.heap.size + 1, 6, none⟩ (.slice Rd m.dr.length rd)).cell? ⟨w.heap.size + 1, 3, none⟩ = some (.slice Rb m.bk.length rb) := ky 3
  have n4 : ((((((((w5.setCell ⟨w.heap.size + 1 + 1, 6, none⟩ (.slice Rd m.dr.length rd)).setCell ⟨w.heap.size + 1, 0, none⟩ (.int .i64 m.wd)).setCell ⟨w.heap.size + 1, 1, none⟩ (.int .i64 m.rk)).setCell ⟨w.heap.size + 1, 2, none⟩ (.slice Rf m.fr.length rf)).setCell ⟨w.heap.size + 1, 3, none⟩ (.slice Rb m.bk.length rb)).setCell ⟨w.heap.size + 1, 4, none⟩ (.slice Rc m.cr.length rc)).setCell ⟨w.heap.size + 1, 5, none⟩ (.slice Rl m.lp.length rl)).setCell ⟨w.heap.size + 1, 6, none⟩ (.slice Rd m.dr.length rd)).cell? ⟨w.heap.size + 1, 4, none⟩ = some (.slice Rc m.cr.length rc) := ky 4
  have n5 : ((((((((w5.setCell ⟨w.heap.size + 1 + 1, 6, none⟩ (.slice Rd m.dr.length rd)).setCell ⟨w.heap.size + 1, 0, none⟩ (.int .i64 m.wd)).setCell ⟨w.heap.size + 1, 1, none⟩ (.int .i64 m.rk)).setCell ⟨w.heap.size + 1, 2, none⟩ (.slice Rf m.fr.length rf)).setCell ⟨w.heap.size + 1, 3, none⟩ (.slice Rb m.bk.length rb)).setCell ⟨w.heap.size + 1, 4, none⟩ (.slice Rc m.cr.length rc)).setCell ⟨w.heap.size + 1, 5, none⟩ (.slice Rl m.lp.length rl)).setCell ⟨w.heap.size + 1, 6, none⟩ (.slice Rd m.dr.length rd)).cell? ⟨w.heap.size + 1, 5, none⟩ = some (.slice Rl m.lp.length rl) := ky 5
  have n6 : ((((((((w5.setCell ⟨w.heap.size + 1 + 1, 6, none⟩ (.slice Rd m.dr.length rd)).setCell ⟨w.heap.size + 1, 0, none⟩ (.int .i64 m.wd)).setCell ⟨w.heap.size + 1, 1, none⟩ (.int .i64 m.rk)).setCell ⟨w.heap.size + 1, 2, none⟩ (.slice Rf m.fr.length rf)).setCell ⟨w.heap.size + 1, 3, none⟩ (.slice Rb m.bk.length rb)).setCell ⟨w.heap.size + 1, 4, none⟩ (.slice Rc m.cr.length rc)).setCell ⟨w.heap.size + 1, 5, none⟩ (.slice Rl m.lp.length rl)).setCell ⟨w.heap.size + 1, 6, none⟩ (.slice Rd m.dr.length rd)).cell? ⟨w.heap.size + 1, 6, none⟩ = some (.slice Rd m.dr.length rd) := ky 6
  have HS := Lib.hid (Hs.mac (m := m) (Hs.drop [] _ _ (Hs.drop [] _ _ (Hs.drop [] _ _ hS))))
  have HB := Lib.hid hb
  have HN := Lib.hid (And.intro n0 (And.intro n1 (And.intro n2 (And.intro n3 (And.intro n4 (And.intro n5 n6))))))
  clear hS hb ky n0 n1 n2 n3 n4 n5 n6
  go_wp2_with fail
  obtain ⟨n0, n1, n2, n3, n4, n5, n6⟩ := HN.out
  refine bodyPost_ret (v := .agg #[.int .i64 m.wd, .int .i64 m.rk, .slice Rf m.fr.length rf, .slice Rb m.bk.length rb, .slice Rc m.cr.length rc, .slice Rl m.lp.length rl, .slice Rd m.dr.length rd]) (by simp [results, Tryz.results6, go_sem, n0, n1, n2, n3, n4, n5, n6]) rfl ?_
  exact ⟨_, _, _, _, _, rfl, HS.out, HB.out⟩
end Go.Proofs.YtbefioljddhhpaaGreat
