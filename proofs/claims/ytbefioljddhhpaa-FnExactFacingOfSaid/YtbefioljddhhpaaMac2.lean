/-
  Contracts: the laws' eqMachine, heldMachine, szMachine, markMachine. Printed by gen_mac.py.
-/
import Derived.Test.YtbefioljddhhpaaMac
namespace Go.Proofs.Ytbefioljddhhpaa
set_option maxRecDepth 10000
open Go.RowKit

set_option maxHeartbeats 3200000 in
theorem eqMac_yes {f b c l d f2 b2 c2 l2 d2 : Value} {m : Mac} {B1 B2 : Nat} {w : World} (h1 : SlM w B1 f b c l d m) (h2 : SlM w B2 f2 b2 c2 l2 d2 m) (hB1 : B1 ≤ w.heap.size) (hB2 : B2 ≤ w.heap.size) :
    Calls Try.prog 14 #[.agg #[.int .i64 m.wd, .int .i64 m.rk, f, b, c, l, d], .agg #[.int .i64 m.wd, .int .i64 m.rk, f2, b2, c2, l2, d2]] w fun e w' => e = .returned (.bool true) ∧ Below w.heap.size w w' := by
  obtain ⟨Af, kf, rfl, -⟩ := id (h1.fr)
  obtain ⟨Ab, kb, rfl, -⟩ := id (h1.bk)
  obtain ⟨Ac, kc, rfl, -⟩ := id (h1.cr.cells)
  obtain ⟨Al, kl, rfl, -⟩ := id (h1.lp.cells)
  obtain ⟨Ad, kd, rfl, -⟩ := id (h1.dr)
  obtain ⟨Af2, kf2, rfl, -⟩ := id (h2.fr)
  obtain ⟨Ab2, kb2, rfl, -⟩ := id (h2.bk)
  obtain ⟨Ac2, kc2, rfl, -⟩ := id (h2.cr.cells)
  obtain ⟨Al2, kl2, rfl, -⟩ := id (h2.lp.cells)
  obtain ⟨Ad2, kd2, rfl, -⟩ := id (h2.dr)
  have hx1 : ((w.alloc (.cells #[.int .i64 m.wd, .int .i64 m.rk, .slice Af m.fr.length kf, .slice Ab m.bk.length kb, .slice Ac m.cr.length kc, .slice Al m.lp.length kl, .slice Ad m.dr.length kd] 27)).alloc (.cells #[.int .i64 m.wd, .int .i64 m.rk, .slice Af2 m.fr.length kf2, .slice Ab2 m.bk.length kb2, .slice Ac2 m.cr.length kc2, .slice Al2 m.lp.length kl2, .slice Ad2 m.dr.length kd2] 27)).heap[w.heap.size]? = some (.cells #[.int .i64 m.wd, .int .i64 m.rk, .slice Af m.fr.length kf, .slice Ab m.bk.length kb, .slice Ac m.cr.length kc, .slice Al m.lp.length kl, .slice Ad m.dr.length kd] 27) := keep_fwd (al1 _ _) (alloc_at_ _ _)
  have hx2 : ((w.alloc (.cells #[.int .i64 m.wd, .int .i64 m.rk, .slice Af m.fr.length kf, .slice Ab m.bk.length kb, .slice Ac m.cr.length kc, .slice Al m.lp.length kl, .slice Ad m.dr.length kd] 27)).alloc (.cells #[.int .i64 m.wd, .int .i64 m.rk, .slice Af2 m.fr.length kf2, .slice Ab2 m.bk.length kb2, .slice Ac2 m.cr.length kc2, .slice Al2 m.lp.length kl2, .slice Ad2 m.dr.length kd2] 27)).heap[w.heap.size + 1]? = some (.cells #[.int .i64 m.wd, .int .i64 m.rk, .slice Af2 m.fr.length kf2, .slice Ab2 m.bk.length kb2, .slice Ac2 m.cr.length kc2, .slice Al2 m.lp.length kl2, .slice Ad2 m.dr.length kd2] 27) := by have := alloc_at_ (w.alloc (.cells #[.int .i64 m.wd, .int .i64 m.rk, .slice Af m.fr.length kf, .slice Ab m.bk.length kb, .slice Ac m.cr.length kc, .slice Al m.lp.length kl, .slice Ad m.dr.length kd] 27)) (.cells #[.int .i64 m.wd, .int .i64 m.rk, .slice Af2 m.fr.length kf2, .slice Ab2 m.bk.length kb2, .slice Ac2 m.cr.length kc2, .slice Al2 m.lp.length kl2, .slice Ad2 m.dr.length kd2] 27); rw [World.size_alloc] at this; exact this
  have hb0 : Below w.heap.size w ((w.alloc (.cells #[.int .i64 m.wd, .int .i64 m.rk, .slice Af m.fr.length kf, .slice Ab m.bk.length kb, .slice Ac m.cr.length kc, .slice Al m.lp.length kl, .slice Ad m.dr.length kd] 27)).alloc (.cells #[.int .i64 m.wd, .int .i64 m.rk, .slice Af2 m.fr.length kf2, .slice Ab2 m.bk.length kb2, .slice Ac2 m.cr.length kc2, .slice Al2 m.lp.length kl2, .slice Ad2 m.dr.length kd2] 27)) := al2 _ _ _
  have hw0 : w.heap.size ≤ ((w.alloc (.cells #[.int .i64 m.wd, .int .i64 m.rk, .slice Af m.fr.length kf, .slice Ab m.bk.length kb, .slice Ac m.cr.length kc, .slice Al m.lp.length kl, .slice Ad m.dr.length kd] 27)).alloc (.cells #[.int .i64 m.wd, .int .i64 m.rk, .slice Af2 m.fr.length kf2, .slice Ab2 m.bk.length kb2, .slice Ac2 m.cr.length kc2, .slice Al2 m.lp.length kl2, .slice Ad2 m.dr.length kd2] 27)).heap.size := hb0.size
  have g1 := h1.below hb0 hB1
  have g2 := h2.below hb0 hB2
  have X1 := Lib.hid hx1
  have X2 := Lib.hid hx2
  have HB := Lib.hid hb0
  have G1 := Lib.hid g1
  have G2 := Lib.hid g2
  have HW := Lib.hid hw0
  clear hx1 hx2 hb0 g1 g2 hw0 h1 h2
  go_enter Try.func14, Try.ntmps14
  go_wp2_with fail
  refine (eqSS_yes G1.out.fr G2.out.fr).mono ?_
  rintro e w1 ⟨rfl, hq⟩
  have x1 := keep_fwd hq X1.out
  have x2 := keep_fwd hq X2.out
  have hb := HB.out.trans (hq.mono HW.out)
  have g1 := G1.out.below hq (Nat.le_trans hB1 HW.out)
  have g2 := G2.out.below hq (Nat.le_trans hB2 HW.out)
  have hz := Nat.le_trans HW.out hq.size
  clear hq X1 X2 HB G1 G2 HW
  obtain ⟨⟨-, -, -, p3, -, -, -⟩, -, -⟩ := box7 x1
  obtain ⟨⟨-, -, -, q3, -, -, -⟩, -, -⟩ := box7 x2
  have X1 := Lib.hid x1
  have X2 := Lib.hid x2
  have HB := Lib.hid hb
  have G1 := Lib.hid g1
  have G2 := Lib.hid g2
  clear x1 x2 hb g1 g2
  go_wp2_with fail
  refine (eqSS_yes G1.out.bk G2.out.bk).mono ?_
  rintro e w2 ⟨rfl, hq⟩
  have x1 := keep_fwd hq X1.out
  have x2 := keep_fwd hq X2.out
  have hb := HB.out.trans (hq.mono hz)
  have g1 := G1.out.below hq (Nat.le_trans hB1 hz)
  have g2 := G2.out.below hq (Nat.le_trans hB2 hz)
  have hz := Nat.le_trans hz hq.size
  clear hq X1 X2 HB G1 G2
  obtain ⟨⟨-, -, -, -, p4, -, -⟩, -, -⟩ := box7 x1
  obtain ⟨⟨-, -, -, -, q4, -, -⟩, -, -⟩ := box7 x2
  have X1 := Lib.hid x1
  have X2 := Lib.hid x2
  have HB := Lib.hid hb
  have G1 := Lib.hid g1
  have G2 := Lib.hid g2
  clear x1 x2 hb g1 g2
  go_wp2_with fail
  refine (eqCars_yes G1.out.cr G2.out.cr (Nat.le_trans hB1 hz) (Nat.le_trans hB2 hz)).mono ?_
  rintro e w3 ⟨rfl, hq⟩
  have x1 := keep_fwd hq X1.out
  have x2 := keep_fwd hq X2.out
  have hb := HB.out.trans (hq.mono hz)
  have g1 := G1.out.below hq (Nat.le_trans hB1 hz)
  have g2 := G2.out.below hq (Nat.le_trans hB2 hz)
  have hz := Nat.le_trans hz hq.size
  clear hq X1 X2 HB G1 G2
  obtain ⟨⟨-, -, -, -, -, p5, -⟩, -, -⟩ := box7 x1
  obtain ⟨⟨-, -, -, -, -, q5, -⟩, -, -⟩ := box7 x2
  have X1 := Lib.hid x1
  have X2 := Lib.hid x2
  have HB := Lib.hid hb
  have G1 := Lib.hid g1
  have G2 := Lib.hid g2
  clear x1 x2 hb g1 g2
  go_wp2_with fail
  refine (eqInfs_yes G1.out.lp G2.out.lp (Nat.le_trans hB1 hz) (Nat.le_trans hB2 hz)).mono ?_
  rintro e w4 ⟨rfl, hq⟩
  have x1 := keep_fwd hq X1.out
  have x2 := keep_fwd hq X2.out
  have hb := HB.out.trans (hq.mono hz)
  have g1 := G1.out.below hq (Nat.le_trans hB1 hz)
  have g2 := G2.out.below hq (Nat.le_trans hB2 hz)
  have hz := Nat.le_trans hz hq.size
  clear hq X1 X2 HB G1 G2
  obtain ⟨⟨-, -, -, -, -, -, p6⟩, -, -⟩ := box7 x1
  obtain ⟨⟨-, -, -, -, -, -, q6⟩, -, -⟩ := box7 x2
  have X1 := Lib.hid x1
  have X2 := Lib.hid x2
  have HB := Lib.hid hb
  have G1 := Lib.hid g1
  have G2 := Lib.hid g2
  clear x1 x2 hb g1 g2
  go_wp2_with fail
  refine (eqInts_yes G1.out.dr G2.out.dr rfl).mono ?_
  rintro e w5 ⟨rfl, hq⟩
  have HB2 := Lib.hid (HB.out.trans (hq.mono hz))
  clear hq
  go_wp2_with fail
  go_ret
  exact ⟨rfl, HB2.out⟩
theorem Mac.mark_sl {w : World} {B : Nat} {f b c l d : Value} {m : Mac} {k : Int} (h : SlM w B f b c l d (m.mark k)) : SlS w B f (markSS k m.fr) ∧ SlS w B b (markSS (k + lenSS m.fr) m.bk) ∧ SlK w B c (markK (k + lenSS m.fr + lenSS m.bk) m.cr.length) ∧ SlF w B l (markSS (k + lenSS m.fr + lenSS m.bk + 2 * m.cr.length) m.lp) ∧ Sl w B d (countFrom (k + lenSS m.fr + lenSS m.bk + 2 * m.cr.length + lenSS m.lp) m.dr.length) :=
  ⟨h.fr, h.bk, h.cr, h.lp, h.dr⟩
theorem Mac.mark_lens (k : Int) (m : Mac) : (m.mark k).fr.length = m.fr.length ∧ (m.mark k).bk.length = m.bk.length ∧ (m.mark k).cr.length = m.cr.length ∧ (m.mark k).lp.length = m.lp.length ∧ (m.mark k).dr.length = m.dr.length :=
  ⟨markSS_len _ _, markSS_len _ _, markK_len _ _, markSS_len _ _, countFrom_len _ _⟩
/-- The readings of a marked machine, kept together. -/
structure MkM (w : World) (B : Nat) (f b c l d : Value) (m : Mac) (k x1 x2 x3 x4 : Int) : Prop where
  fr : SlS w B f (markSS k m.fr)
  bk : SlS w B b (markSS x1 m.bk)
  cr : SlK w B c (markK x2 m.cr.length)
  lp : SlF w B l (markSS x3 m.lp)
  dr : Sl w B d (countFrom x4 m.dr.length)
theorem MkM.below {w w' : World} {B B' : Nat} {f b c l d : Value} {m : Mac} {k x1 x2 x3 x4 : Int} (h : MkM w B f b c l d m k x1 x2 x3 x4) (hb : Below B' w w') (hB : B ≤ B') : MkM w' B f b c l d m k x1 x2 x3 x4 :=
  ⟨h.fr.below hb hB, h.bk.below hb hB, SlC.below h.cr hb hB, SlC.below h.lp hb hB, h.dr.below hb hB⟩
set_option maxHeartbeats 3200000 in
theorem heldMac_any {f b c l d : Value} {m : Mac} {B : Nat} {k : Int} {w : World} (h : SlM w B f b c l d (m.mark k)) (hB : B ≤ w.heap.size) (h5 : Five m.lp) (hsz : m.marks ≤ 8000000) (hcr : m.cr.length ≤ 1048576) (hc0 : 0 ≤ k) (hc1 : k ≤ 100000000) :
    Calls Try.prog 16 #[.agg #[.int .i64 m.wd, .int .i64 m.rk, f, b, c, l, d], .int .i64 k] w fun e w' => e = .returned (.int .i64 (k + m.marks)) ∧ Below w.heap.size w w' := by
  obtain ⟨n1, n2, n3, n4, n5⟩ := m.mark_lens k
  obtain ⟨Af, kf, ef, -⟩ := id (h.fr)
  obtain ⟨Ab, kb, eb, -⟩ := id (h.bk)
  obtain ⟨Ac, kc, ec, -⟩ := id (h.cr.cells)
  obtain ⟨Al, kl, el, -⟩ := id (h.lp.cells)
  obtain ⟨Ad, kd, ed, -⟩ := id (h.dr)
  rw [n1] at ef
  rw [n2] at eb
  rw [n3] at ec
  rw [n4] at el
  rw [n5] at ed
  subst ef eb ec el ed
  unfold Mac.marks at hsz ⊢
  clear n1 n2 n3 n4 n5
  obtain ⟨x1, hx1⟩ : ∃ x : Int, x = k + lenSS m.fr := ⟨_, rfl⟩
  obtain ⟨x2, hx2⟩ : ∃ x : Int, x = x1 + lenSS m.bk := ⟨_, rfl⟩
  obtain ⟨x3, hx3⟩ : ∃ x : Int, x = x2 + 2 * m.cr.length := ⟨_, rfl⟩
  obtain ⟨x4, hx4⟩ : ∃ x : Int, x = x3 + lenSS m.lp := ⟨_, rfl⟩
  have y1 : 0 ≤ x1 ∧ x1 ≤ 200000000 := by omega
  have y2 : 0 ≤ x2 ∧ x2 ≤ 200000000 := by omega
  have y3 : 0 ≤ x3 ∧ x3 ≤ 200000000 := by omega
  have y4 : 0 ≤ x4 ∧ x4 ≤ 200000000 := by omega
  have y5 : 0 ≤ x4 + (m.dr.length : Int) := by omega
  have z1 : lenSS m.fr ≤ 8000000 ∧ lenSS m.bk ≤ 8000000 ∧ m.cr.length ≤ 1048576 ∧ lenSS m.lp ≤ 8000000 ∧ m.dr.length ≤ 8000000 := by omega
  have HR := Lib.hid (show x4 + (m.dr.length : Int) = k + ((lenSS m.fr + lenSS m.bk + 2 * m.cr.length + lenSS m.lp + m.dr.length : Nat) : Int) by push_cast; omega)
  obtain ⟨y1a, y1b⟩ := y1
  obtain ⟨y2a, y2b⟩ := y2
  obtain ⟨y3a, y3b⟩ := y3
  obtain ⟨y4a, y4b⟩ := y4
  obtain ⟨za, zb, zc, zd, ze⟩ := z1
  have HX1 := Lib.hid hx1
  have HX2 := Lib.hid hx2
  have HX3 := Lib.hid hx3
  have HX4 := Lib.hid hx4
  have h : MkM w B (.slice Af m.fr.length kf) (.slice Ab m.bk.length kb) (.slice Ac m.cr.length kc) (.slice Al m.lp.length kl) (.slice Ad m.dr.length kd) m k x1 x2 x3 x4 := by
    subst hx4 hx3 hx2 hx1
    obtain ⟨a1, a2, a3, a4, a5⟩ := Mac.mark_sl h
    exact ⟨a1, a2, a3, a4, a5⟩
  clear hx1 hx2 hx3 hx4
  have hg := h.below (al1 w (.cells #[.int .i64 m.wd, .int .i64 m.rk, .slice Af m.fr.length kf, .slice Ab m.bk.length kb, .slice Ac m.cr.length kc, .slice Al m.lp.length kl, .slice Ad m.dr.length kd] 27)) hB
  have G := Lib.hid hg
  have hB1 : B ≤ (w.alloc (.cells #[.int .i64 m.wd, .int .i64 m.rk, .slice Af m.fr.length kf, .slice Ab m.bk.length kb, .slice Ac m.cr.length kc, .slice Al m.lp.length kl, .slice Ad m.dr.length kd] 27)).heap.size := by simp; omega
  clear hg h
  go_enter Try.func16, Try.ntmps16
  go_wp2_with fail
  refine (heldSS_any (c := k) G.out.fr (by omega) (by omega) (by omega)).mono ?_
  rintro e w1 ⟨rfl, hq⟩
  have hx := alloc_fwd hq
  have hb := (al1 w (.cells #[.int .i64 m.wd, .int .i64 m.rk, .slice Af m.fr.length kf, .slice Ab m.bk.length kb, .slice Ac m.cr.length kc, .slice Al m.lp.length kl, .slice Ad m.dr.length kd] 27)).trans (hq.mono (by simp))
  have hg := G.out.below hq hB1
  have hB2 := Nat.le_trans hB1 hq.size
  have hz : w.heap.size ≤ w1.heap.size := hb.size
  clear hq G
  obtain ⟨⟨-, -, -, p3, -, -, -⟩, -, -⟩ := box7 hx
  have X := Lib.hid hx
  have HB := Lib.hid hb
  have G := Lib.hid hg
  clear hx hb hg
  rw [← HX1.out]
  go_wp2_with fail
  refine (heldSS_any (c := x1) G.out.bk (by omega) (by omega) (by omega)).mono ?_
  rintro e w2 ⟨rfl, hq⟩
  have hx := keep_fwd hq X.out
  have hb := HB.out.trans (hq.mono hz)
  have hg := G.out.below hq hB2
  have hB2 := Nat.le_trans hB2 hq.size
  have hz : w.heap.size ≤ w2.heap.size := hb.size
  clear hq X HB G
  obtain ⟨⟨-, -, -, -, p4, -, -⟩, -, -⟩ := box7 hx
  have X := Lib.hid hx
  have HB := Lib.hid hb
  have G := Lib.hid hg
  clear hx hb hg
  rw [← HX2.out]
  go_wp2_with fail
  refine (heldCars_any (c := x2) G.out.cr (by omega) (by omega) (by omega)).mono ?_
  rintro e w3 ⟨rfl, hq⟩
  have hx := keep_fwd hq X.out
  have hb := HB.out.trans (hq.mono hz)
  have hg := G.out.below hq hB2
  have hB2 := Nat.le_trans hB2 hq.size
  have hz : w.heap.size ≤ w3.heap.size := hb.size
  clear hq X HB G
  obtain ⟨⟨-, -, -, -, -, p5, -⟩, -, -⟩ := box7 hx
  have X := Lib.hid hx
  have HB := Lib.hid hb
  have G := Lib.hid hg
  clear hx hb hg
  rw [← HX3.out]
  go_wp2_with fail
  refine (heldInfs_any (c := x3) G.out.lp h5 (by omega) (by omega) (by omega)).mono ?_
  rintro e w4 ⟨rfl, hq⟩
  have hx := keep_fwd hq X.out
  have hb := HB.out.trans (hq.mono hz)
  have hg := G.out.below hq hB2
  have hB2 := Nat.le_trans hB2 hq.size
  have hz : w.heap.size ≤ w4.heap.size := hb.size
  clear hq X HB G
  obtain ⟨⟨-, -, -, -, -, -, p6⟩, -, -⟩ := box7 hx
  have X := Lib.hid hx
  have HB := Lib.hid hb
  have G := Lib.hid hg
  clear hx hb hg
  rw [← HX4.out]
  go_wp2_with fail
  refine (heldInts_quiet (c := x4) G.out.dr (by omega) (by omega) (by omega)).mono ?_
  rintro e w5 ⟨rfl, hq⟩
  have hx := keep_fwd hq X.out
  have hb := HB.out.trans (hq.mono hz)
  have hg := G.out.below hq hB2
  have hB2 := Nat.le_trans hB2 hq.size
  have hz : w.heap.size ≤ w5.heap.size := hb.size
  clear hq X HB G
  have X := Lib.hid hx
  have HB := Lib.hid hb
  have G := Lib.hid hg
  clear hx hb hg
  go_wp2_with fail
  go_ret
  exact ⟨ret_int HR.out, HB.out⟩
theorem szInts_no {v : Value} {xs : List Int} {B : Nat} {left : Int} {w : World} (h : Sl w B v xs) (h1 : left ≤ 1048576) (h0 : 0 ≤ left) (hc : left < (xs.length : Int)) :
    Calls Try.prog 60 #[v, .int .i64 left] w fun e w' => e = .returned (.int .i64 (-1)) ∧ Below w.heap.size w w' :=
  (szInts_any h h1 h0).mono fun _ _ ⟨he, hw⟩ => ⟨by rw [he, if_pos hc], by rw [← hw]; exact Below.refl _ _⟩
theorem szInts_yes {v : Value} {xs : List Int} {B : Nat} {left : Int} {w : World} (h : Sl w B v xs) (h1 : left ≤ 1048576) (h0 : 0 ≤ left) (hc : ¬ left < (xs.length : Int)) :
    Calls Try.prog 60 #[v, .int .i64 left] w fun e w' => e = .returned (.int .i64 (left - xs.length)) ∧ Below w.heap.size w w' :=
  (szInts_any h h1 h0).mono fun _ _ ⟨he, hw⟩ => ⟨by rw [he, if_neg hc], by rw [← hw]; exact Below.refl _ _⟩
theorem szInfs_no {v : Value} {L : List (List Int)} {B : Nat} {left : Int} {w : World} (h : SlF w B v L) (hB : B ≤ w.heap.size) (h1 : left ≤ 1048576) (h0 : 0 ≤ left) (hc : left < ((L.length + lenSS (prs L) : Nat) : Int)) :
    Calls Try.prog 59 #[v, .int .i64 left] w fun e w' => e = .returned (.int .i64 (-1)) ∧ Below w.heap.size w w' :=
  szInfs_any h hB h1 h0 (Lib.hid fun _ => rfl) (Lib.hid fun hn => absurd hc hn)
theorem szInfs_yes {v : Value} {L : List (List Int)} {B : Nat} {left : Int} {w : World} (h : SlF w B v L) (hB : B ≤ w.heap.size) (h1 : left ≤ 1048576) (h0 : 0 ≤ left) (hc : ¬ left < ((L.length + lenSS (prs L) : Nat) : Int)) :
    Calls Try.prog 59 #[v, .int .i64 left] w fun e w' => e = .returned (.int .i64 (left - ((L.length + lenSS (prs L) : Nat) : Int))) ∧ Below w.heap.size w w' :=
  szInfs_any h hB h1 h0 (Lib.hid fun hn => absurd hn hc) (Lib.hid fun _ => rfl)
set_option maxHeartbeats 3200000 in
theorem szMac_no0 {f b c l d : Value} {m : Mac} {B : Nat} {left : Int} {w : World} (h : SlM w B f b c l d m) (hB : B ≤ w.heap.size) (h1 : left ≤ 1048576) (h0 : 0 ≤ left) (hc : 0 ≤ left ∧ left < ((m.fr.length + lenSS m.fr : Nat) : Int)) :
    Calls Try.prog 17 #[.agg #[.int .i64 m.wd, .int .i64 m.rk, f, b, c, l, d], .int .i64 left] w fun e w' => e = .returned (.int .i64 (-1)) ∧ Below w.heap.size w w' := by
  obtain ⟨Af, kf, rfl, -⟩ := id (h.fr)
  obtain ⟨Ab, kb, rfl, -⟩ := id (h.bk)
  obtain ⟨Ac, kc, rfl, -⟩ := id (h.cr.cells)
  obtain ⟨Al, kl, rfl, -⟩ := id (h.lp.cells)
  obtain ⟨Ad, kd, rfl, -⟩ := id (h.dr)
  obtain ⟨s0, hs0⟩ : ∃ s : Int, s = ((m.fr.length + lenSS m.fr : Nat) : Int) := ⟨_, rfl⟩
  obtain ⟨y1, hy1⟩ : ∃ y : Int, y = left - s0 := ⟨_, rfl⟩
  have hp0 : 0 ≤ s0 := by omega
  have hno : left < s0 := by omega
  have HS0 := Lib.hid hs0
  have HY1 := Lib.hid hy1
  clear hs0 hy1 hc
  have hg := h.below (al1 w (.cells #[.int .i64 m.wd, .int .i64 m.rk, .slice Af m.fr.length kf, .slice Ab m.bk.length kb, .slice Ac m.cr.length kc, .slice Al m.lp.length kl, .slice Ad m.dr.length kd] 36)) hB
  have G := Lib.hid hg
  have hB1 : B ≤ (w.alloc (.cells #[.int .i64 m.wd, .int .i64 m.rk, .slice Af m.fr.length kf, .slice Ab m.bk.length kb, .slice Ac m.cr.length kc, .slice Al m.lp.length kl, .slice Ad m.dr.length kd] 36)).heap.size := by simp; omega
  clear hg h
  go_enter Try.func17, Try.ntmps17
  go_wp2_with fail
  refine (szSS_no (left := left) G.out.fr (by omega) (by omega) (by rw [← HS0.out]; exact hno)).mono ?_
  rintro e w1 ⟨rfl, hq⟩
  have hx := alloc_fwd hq
  have hb := (al1 w (.cells #[.int .i64 m.wd, .int .i64 m.rk, .slice Af m.fr.length kf, .slice Ab m.bk.length kb, .slice Ac m.cr.length kc, .slice Al m.lp.length kl, .slice Ad m.dr.length kd] 36)).trans (hq.mono (by simp))
  have hg := G.out.below hq hB1
  have hB2 := Nat.le_trans hB1 hq.size
  have hz : w.heap.size ≤ w1.heap.size := hb.size
  clear hq G
  obtain ⟨⟨-, -, -, p3, -, -, -⟩, -, -⟩ := box7 hx
  have X := Lib.hid hx
  have HB := Lib.hid hb
  have G := Lib.hid hg
  clear hx hb hg
  go_wp2_with fail
  go_ret
  exact ⟨rfl, HB.out⟩
set_option maxHeartbeats 3200000 in
theorem szMac_no1 {f b c l d : Value} {m : Mac} {B : Nat} {left : Int} {w : World} (h : SlM w B f b c l d m) (hB : B ≤ w.heap.size) (h1 : left ≤ 1048576) (h0 : 0 ≤ left) (hc : ((m.fr.length + lenSS m.fr : Nat) : Int) ≤ left ∧ left < ((m.fr.length + lenSS m.fr : Nat) : Int) + ((m.bk.length + lenSS m.bk : Nat) : Int)) :
    Calls Try.prog 17 #[.agg #[.int .i64 m.wd, .int .i64 m.rk, f, b, c, l, d], .int .i64 left] w fun e w' => e = .returned (.int .i64 (-1)) ∧ Below w.heap.size w w' := by
  obtain ⟨Af, kf, rfl, -⟩ := id (h.fr)
  obtain ⟨Ab, kb, rfl, -⟩ := id (h.bk)
  obtain ⟨Ac, kc, rfl, -⟩ := id (h.cr.cells)
  obtain ⟨Al, kl, rfl, -⟩ := id (h.lp.cells)
  obtain ⟨Ad, kd, rfl, -⟩ := id (h.dr)
  obtain ⟨s0, hs0⟩ : ∃ s : Int, s = ((m.fr.length + lenSS m.fr : Nat) : Int) := ⟨_, rfl⟩
  obtain ⟨y1, hy1⟩ : ∃ y : Int, y = left - s0 := ⟨_, rfl⟩
  have hp0 : 0 ≤ s0 := by omega
  obtain ⟨s1, hs1⟩ : ∃ s : Int, s = ((m.bk.length + lenSS m.bk : Nat) : Int) := ⟨_, rfl⟩
  obtain ⟨y2, hy2⟩ : ∃ y : Int, y = y1 - s1 := ⟨_, rfl⟩
  have hp1 : 0 ≤ s1 := by omega
  have hn1 : 0 ≤ y1 ∧ y1 ≤ 1048576 := by omega
  obtain ⟨hn1a, hn1b⟩ := hn1
  have hf0 : ¬ left < s0 := by omega
  have hno : y1 < s1 := by omega
  have HS0 := Lib.hid hs0
  have HY1 := Lib.hid hy1
  have HS1 := Lib.hid hs1
  have HY2 := Lib.hid hy2
  clear hs0 hy1 hs1 hy2 hc
  have hg := h.below (al1 w (.cells #[.int .i64 m.wd, .int .i64 m.rk, .slice Af m.fr.length kf, .slice Ab m.bk.length kb, .slice Ac m.cr.length kc, .slice Al m.lp.length kl, .slice Ad m.dr.length kd] 36)) hB
  have G := Lib.hid hg
  have hB1 : B ≤ (w.alloc (.cells #[.int .i64 m.wd, .int .i64 m.rk, .slice Af m.fr.length kf, .slice Ab m.bk.length kb, .slice Ac m.cr.length kc, .slice Al m.lp.length kl, .slice Ad m.dr.length kd] 36)).heap.size := by simp; omega
  clear hg h
  go_enter Try.func17, Try.ntmps17
  go_wp2_with fail
  refine (szSS_yes (left := left) G.out.fr (by omega) (by omega) (by rw [← HS0.out]; first | exact hf0 | exact Int.not_lt.2 hf0)).mono ?_
  rintro e w1 ⟨rfl, hq⟩
  have hx := alloc_fwd hq
  have hb := (al1 w (.cells #[.int .i64 m.wd, .int .i64 m.rk, .slice Af m.fr.length kf, .slice Ab m.bk.length kb, .slice Ac m.cr.length kc, .slice Al m.lp.length kl, .slice Ad m.dr.length kd] 36)).trans (hq.mono (by simp))
  have hg := G.out.below hq hB1
  have hB2 := Nat.le_trans hB1 hq.size
  have hz : w.heap.size ≤ w1.heap.size := hb.size
  clear hq G
  obtain ⟨⟨-, -, -, p3, -, -, -⟩, -, -⟩ := box7 hx
  have X := Lib.hid hx
  have HB := Lib.hid hb
  have G := Lib.hid hg
  clear hx hb hg
  rw [← HS0.out, ← HY1.out]
  go_wp2_with fail
  refine (szSS_no (left := y1) G.out.bk (by omega) (by omega) (by rw [← HS1.out]; exact hno)).mono ?_
  rintro e w2 ⟨rfl, hq⟩
  have hx := keep_fwd hq X.out
  have hb := HB.out.trans (hq.mono hz)
  have hg := G.out.below hq hB2
  have hB2 := Nat.le_trans hB2 hq.size
  have hz : w.heap.size ≤ w2.heap.size := hb.size
  clear hq X HB G
  obtain ⟨⟨-, -, -, -, p4, -, -⟩, -, -⟩ := box7 hx
  have X := Lib.hid hx
  have HB := Lib.hid hb
  have G := Lib.hid hg
  clear hx hb hg
  go_wp2_with fail
  go_ret
  exact ⟨rfl, HB.out⟩
set_option maxHeartbeats 3200000 in
theorem szMac_no2 {f b c l d : Value} {m : Mac} {B : Nat} {left : Int} {w : World} (h : SlM w B f b c l d m) (hB : B ≤ w.heap.size) (h1 : left ≤ 1048576) (h0 : 0 ≤ left) (hc : ((m.fr.length + lenSS m.fr : Nat) : Int) + ((m.bk.length + lenSS m.bk : Nat) : Int) ≤ left ∧ left < ((m.fr.length + lenSS m.fr : Nat) : Int) + ((m.bk.length + lenSS m.bk : Nat) : Int) + (m.cr.length : Int)) :
    Calls Try.prog 17 #[.agg #[.int .i64 m.wd, .int .i64 m.rk, f, b, c, l, d], .int .i64 left] w fun e w' => e = .returned (.int .i64 (-1)) ∧ Below w.heap.size w w' := by
  obtain ⟨Af, kf, rfl, -⟩ := id (h.fr)
  obtain ⟨Ab, kb, rfl, -⟩ := id (h.bk)
  obtain ⟨Ac, kc, rfl, -⟩ := id (h.cr.cells)
  obtain ⟨Al, kl, rfl, -⟩ := id (h.lp.cells)
  obtain ⟨Ad, kd, rfl, -⟩ := id (h.dr)
  obtain ⟨s0, hs0⟩ : ∃ s : Int, s = ((m.fr.length + lenSS m.fr : Nat) : Int) := ⟨_, rfl⟩
  obtain ⟨y1, hy1⟩ : ∃ y : Int, y = left - s0 := ⟨_, rfl⟩
  have hp0 : 0 ≤ s0 := by omega
  obtain ⟨s1, hs1⟩ : ∃ s : Int, s = ((m.bk.length + lenSS m.bk : Nat) : Int) := ⟨_, rfl⟩
  obtain ⟨y2, hy2⟩ : ∃ y : Int, y = y1 - s1 := ⟨_, rfl⟩
  have hp1 : 0 ≤ s1 := by omega
  obtain ⟨s2, hs2⟩ : ∃ s : Int, s = (m.cr.length : Int) := ⟨_, rfl⟩
  obtain ⟨y3, hy3⟩ : ∃ y : Int, y = y2 - s2 := ⟨_, rfl⟩
  have hp2 : 0 ≤ s2 := by omega
  have hn1 : 0 ≤ y1 ∧ y1 ≤ 1048576 := by omega
  obtain ⟨hn1a, hn1b⟩ := hn1
  have hf0 : ¬ left < s0 := by omega
  have hn2 : 0 ≤ y2 ∧ y2 ≤ 1048576 := by omega
  obtain ⟨hn2a, hn2b⟩ := hn2
  have hf1 : ¬ y1 < s1 := by omega
  have hno : y2 < s2 := by omega
  have HS0 := Lib.hid hs0
  have HY1 := Lib.hid hy1
  have HS1 := Lib.hid hs1
  have HY2 := Lib.hid hy2
  have HS2 := Lib.hid hs2
  have HY3 := Lib.hid hy3
  clear hs0 hy1 hs1 hy2 hs2 hy3 hc
  have hg := h.below (al1 w (.cells #[.int .i64 m.wd, .int .i64 m.rk, .slice Af m.fr.length kf, .slice Ab m.bk.length kb, .slice Ac m.cr.length kc, .slice Al m.lp.length kl, .slice Ad m.dr.length kd] 36)) hB
  have G := Lib.hid hg
  have hB1 : B ≤ (w.alloc (.cells #[.int .i64 m.wd, .int .i64 m.rk, .slice Af m.fr.length kf, .slice Ab m.bk.length kb, .slice Ac m.cr.length kc, .slice Al m.lp.length kl, .slice Ad m.dr.length kd] 36)).heap.size := by simp; omega
  clear hg h
  go_enter Try.func17, Try.ntmps17
  go_wp2_with fail
  refine (szSS_yes (left := left) G.out.fr (by omega) (by omega) (by rw [← HS0.out]; first | exact hf0 | exact Int.not_lt.2 hf0)).mono ?_
  rintro e w1 ⟨rfl, hq⟩
  have hx := alloc_fwd hq
  have hb := (al1 w (.cells #[.int .i64 m.wd, .int .i64 m.rk, .slice Af m.fr.length kf, .slice Ab m.bk.length kb, .slice Ac m.cr.length kc, .slice Al m.lp.length kl, .slice Ad m.dr.length kd] 36)).trans (hq.mono (by simp))
  have hg := G.out.below hq hB1
  have hB2 := Nat.le_trans hB1 hq.size
  have hz : w.heap.size ≤ w1.heap.size := hb.size
  clear hq G
  obtain ⟨⟨-, -, -, p3, -, -, -⟩, -, -⟩ := box7 hx
  have X := Lib.hid hx
  have HB := Lib.hid hb
  have G := Lib.hid hg
  clear hx hb hg
  rw [← HS0.out, ← HY1.out]
  go_wp2_with fail
  refine (szSS_yes (left := y1) G.out.bk (by omega) (by omega) (by rw [← HS1.out]; first | exact hf1 | exact Int.not_lt.2 hf1)).mono ?_
  rintro e w2 ⟨rfl, hq⟩
  have hx := keep_fwd hq X.out
  have hb := HB.out.trans (hq.mono hz)
  have hg := G.out.below hq hB2
  have hB2 := Nat.le_trans hB2 hq.size
  have hz : w.heap.size ≤ w2.heap.size := hb.size
  clear hq X HB G
  obtain ⟨⟨-, -, -, -, p4, -, -⟩, -, -⟩ := box7 hx
  have X := Lib.hid hx
  have HB := Lib.hid hb
  have G := Lib.hid hg
  clear hx hb hg
  rw [← HS1.out, ← HY2.out]
  go_wp2_with fail
  refine (szCars_no (left := y2) G.out.cr (by omega) (by omega) (by rw [← HS2.out]; exact hno)).mono ?_
  rintro e w3 ⟨rfl, hq⟩
  have hx := keep_fwd hq X.out
  have hb := HB.out.trans (hq.mono hz)
  have hg := G.out.below hq hB2
  have hB2 := Nat.le_trans hB2 hq.size
  have hz : w.heap.size ≤ w3.heap.size := hb.size
  clear hq X HB G
  obtain ⟨⟨-, -, -, -, -, p5, -⟩, -, -⟩ := box7 hx
  have X := Lib.hid hx
  have HB := Lib.hid hb
  have G := Lib.hid hg
  clear hx hb hg
  go_wp2_with fail
  go_ret
  exact ⟨rfl, HB.out⟩
set_option maxHeartbeats 3200000 in
theorem szMac_no3 {f b c l d : Value} {m : Mac} {B : Nat} {left : Int} {w : World} (h : SlM w B f b c l d m) (hB : B ≤ w.heap.size) (h1 : left ≤ 1048576) (h0 : 0 ≤ left) (hc : ((m.fr.length + lenSS m.fr : Nat) : Int) + ((m.bk.length + lenSS m.bk : Nat) : Int) + (m.cr.length : Int) ≤ left ∧ left < ((m.fr.length + lenSS m.fr : Nat) : Int) + ((m.bk.length + lenSS m.bk : Nat) : Int) + (m.cr.length : Int) + ((m.lp.length + lenSS (prs m.lp) : Nat) : Int)) :
    Calls Try.prog 17 #[.agg #[.int .i64 m.wd, .int .i64 m.rk, f, b, c, l, d], .int .i64 left] w fun e w' => e = .returned (.int .i64 (-1)) ∧ Below w.heap.size w w' := by
  obtain ⟨Af, kf, rfl, -⟩ := id (h.fr)
  obtain ⟨Ab, kb, rfl, -⟩ := id (h.bk)
  obtain ⟨Ac, kc, rfl, -⟩ := id (h.cr.cells)
  obtain ⟨Al, kl, rfl, -⟩ := id (h.lp.cells)
  obtain ⟨Ad, kd, rfl, -⟩ := id (h.dr)
  obtain ⟨s0, hs0⟩ : ∃ s : Int, s = ((m.fr.length + lenSS m.fr : Nat) : Int) := ⟨_, rfl⟩
  obtain ⟨y1, hy1⟩ : ∃ y : Int, y = left - s0 := ⟨_, rfl⟩
  have hp0 : 0 ≤ s0 := by omega
  obtain ⟨s1, hs1⟩ : ∃ s : Int, s = ((m.bk.length + lenSS m.bk : Nat) : Int) := ⟨_, rfl⟩
  obtain ⟨y2, hy2⟩ : ∃ y : Int, y = y1 - s1 := ⟨_, rfl⟩
  have hp1 : 0 ≤ s1 := by omega
  obtain ⟨s2, hs2⟩ : ∃ s : Int, s = (m.cr.length : Int) := ⟨_, rfl⟩
  obtain ⟨y3, hy3⟩ : ∃ y : Int, y = y2 - s2 := ⟨_, rfl⟩
  have hp2 : 0 ≤ s2 := by omega
  obtain ⟨s3, hs3⟩ : ∃ s : Int, s = ((m.lp.length + lenSS (prs m.lp) : Nat) : Int) := ⟨_, rfl⟩
  obtain ⟨y4, hy4⟩ : ∃ y : Int, y = y3 - s3 := ⟨_, rfl⟩
  have hp3 : 0 ≤ s3 := by omega
  have hn1 : 0 ≤ y1 ∧ y1 ≤ 1048576 := by omega
  obtain ⟨hn1a, hn1b⟩ := hn1
  have hf0 : ¬ left < s0 := by omega
  have hn2 : 0 ≤ y2 ∧ y2 ≤ 1048576 := by omega
  obtain ⟨hn2a, hn2b⟩ := hn2
  have hf1 : ¬ y1 < s1 := by omega
  have hn3 : 0 ≤ y3 ∧ y3 ≤ 1048576 := by omega
  obtain ⟨hn3a, hn3b⟩ := hn3
  have hf2 : ¬ y2 < s2 := by omega
  have hno : y3 < s3 := by omega
  have HS0 := Lib.hid hs0
  have HY1 := Lib.hid hy1
  have HS1 := Lib.hid hs1
  have HY2 := Lib.hid hy2
  have HS2 := Lib.hid hs2
  have HY3 := Lib.hid hy3
  have HS3 := Lib.hid hs3
  have HY4 := Lib.hid hy4
  clear hs0 hy1 hs1 hy2 hs2 hy3 hs3 hy4 hc
  have hg := h.below (al1 w (.cells #[.int .i64 m.wd, .int .i64 m.rk, .slice Af m.fr.length kf, .slice Ab m.bk.length kb, .slice Ac m.cr.length kc, .slice Al m.lp.length kl, .slice Ad m.dr.length kd] 36)) hB
  have G := Lib.hid hg
  have hB1 : B ≤ (w.alloc (.cells #[.int .i64 m.wd, .int .i64 m.rk, .slice Af m.fr.length kf, .slice Ab m.bk.length kb, .slice Ac m.cr.length kc, .slice Al m.lp.length kl, .slice Ad m.dr.length kd] 36)).heap.size := by simp; omega
  clear hg h
  go_enter Try.func17, Try.ntmps17
  go_wp2_with fail
  refine (szSS_yes (left := left) G.out.fr (by omega) (by omega) (by rw [← HS0.out]; first | exact hf0 | exact Int.not_lt.2 hf0)).mono ?_
  rintro e w1 ⟨rfl, hq⟩
  have hx := alloc_fwd hq
  have hb := (al1 w (.cells #[.int .i64 m.wd, .int .i64 m.rk, .slice Af m.fr.length kf, .slice Ab m.bk.length kb, .slice Ac m.cr.length kc, .slice Al m.lp.length kl, .slice Ad m.dr.length kd] 36)).trans (hq.mono (by simp))
  have hg := G.out.below hq hB1
  have hB2 := Nat.le_trans hB1 hq.size
  have hz : w.heap.size ≤ w1.heap.size := hb.size
  clear hq G
  obtain ⟨⟨-, -, -, p3, -, -, -⟩, -, -⟩ := box7 hx
  have X := Lib.hid hx
  have HB := Lib.hid hb
  have G := Lib.hid hg
  clear hx hb hg
  rw [← HS0.out, ← HY1.out]
  go_wp2_with fail
  refine (szSS_yes (left := y1) G.out.bk (by omega) (by omega) (by rw [← HS1.out]; first | exact hf1 | exact Int.not_lt.2 hf1)).mono ?_
  rintro e w2 ⟨rfl, hq⟩
  have hx := keep_fwd hq X.out
  have hb := HB.out.trans (hq.mono hz)
  have hg := G.out.below hq hB2
  have hB2 := Nat.le_trans hB2 hq.size
  have hz : w.heap.size ≤ w2.heap.size := hb.size
  clear hq X HB G
  obtain ⟨⟨-, -, -, -, p4, -, -⟩, -, -⟩ := box7 hx
  have X := Lib.hid hx
  have HB := Lib.hid hb
  have G := Lib.hid hg
  clear hx hb hg
  rw [← HS1.out, ← HY2.out]
  go_wp2_with fail
  refine (szCars_yes (left := y2) G.out.cr (by omega) (by omega) (by rw [← HS2.out]; first | exact hf2 | exact Int.not_lt.2 hf2)).mono ?_
  rintro e w3 ⟨rfl, hq⟩
  have hx := keep_fwd hq X.out
  have hb := HB.out.trans (hq.mono hz)
  have hg := G.out.below hq hB2
  have hB2 := Nat.le_trans hB2 hq.size
  have hz : w.heap.size ≤ w3.heap.size := hb.size
  clear hq X HB G
  obtain ⟨⟨-, -, -, -, -, p5, -⟩, -, -⟩ := box7 hx
  have X := Lib.hid hx
  have HB := Lib.hid hb
  have G := Lib.hid hg
  clear hx hb hg
  rw [← HS2.out, ← HY3.out]
  go_wp2_with fail
  refine (szInfs_no (left := y3) G.out.lp (by first | exact hB2 | exact hB1) (by omega) (by omega) (by rw [← HS3.out]; exact hno)).mono ?_
  rintro e w4 ⟨rfl, hq⟩
  have hx := keep_fwd hq X.out
  have hb := HB.out.trans (hq.mono hz)
  have hg := G.out.below hq hB2
  have hB2 := Nat.le_trans hB2 hq.size
  have hz : w.heap.size ≤ w4.heap.size := hb.size
  clear hq X HB G
  obtain ⟨⟨-, -, -, -, -, -, p6⟩, -, -⟩ := box7 hx
  have X := Lib.hid hx
  have HB := Lib.hid hb
  have G := Lib.hid hg
  clear hx hb hg
  go_wp2_with fail
  go_ret
  exact ⟨rfl, HB.out⟩
set_option maxHeartbeats 3200000 in
theorem szMac_no4 {f b c l d : Value} {m : Mac} {B : Nat} {left : Int} {w : World} (h : SlM w B f b c l d m) (hB : B ≤ w.heap.size) (h1 : left ≤ 1048576) (h0 : 0 ≤ left) (hc : ((m.fr.length + lenSS m.fr : Nat) : Int) + ((m.bk.length + lenSS m.bk : Nat) : Int) + (m.cr.length : Int) + ((m.lp.length + lenSS (prs m.lp) : Nat) : Int) ≤ left ∧ left < ((m.fr.length + lenSS m.fr : Nat) : Int) + ((m.bk.length + lenSS m.bk : Nat) : Int) + (m.cr.length : Int) + ((m.lp.length + lenSS (prs m.lp) : Nat) : Int) + (m.dr.length : Int)) :
    Calls Try.prog 17 #[.agg #[.int .i64 m.wd, .int .i64 m.rk, f, b, c, l, d], .int .i64 left] w fun e w' => e = .returned (.int .i64 (-1)) ∧ Below w.heap.size w w' := by
  obtain ⟨Af, kf, rfl, -⟩ := id (h.fr)
  obtain ⟨Ab, kb, rfl, -⟩ := id (h.bk)
  obtain ⟨Ac, kc, rfl, -⟩ := id (h.cr.cells)
  obtain ⟨Al, kl, rfl, -⟩ := id (h.lp.cells)
  obtain ⟨Ad, kd, rfl, -⟩ := id (h.dr)
  obtain ⟨s0, hs0⟩ : ∃ s : Int, s = ((m.fr.length + lenSS m.fr : Nat) : Int) := ⟨_, rfl⟩
  obtain ⟨y1, hy1⟩ : ∃ y : Int, y = left - s0 := ⟨_, rfl⟩
  have hp0 : 0 ≤ s0 := by omega
  obtain ⟨s1, hs1⟩ : ∃ s : Int, s = ((m.bk.length + lenSS m.bk : Nat) : Int) := ⟨_, rfl⟩
  obtain ⟨y2, hy2⟩ : ∃ y : Int, y = y1 - s1 := ⟨_, rfl⟩
  have hp1 : 0 ≤ s1 := by omega
  obtain ⟨s2, hs2⟩ : ∃ s : Int, s = (m.cr.length : Int) := ⟨_, rfl⟩
  obtain ⟨y3, hy3⟩ : ∃ y : Int, y = y2 - s2 := ⟨_, rfl⟩
  have hp2 : 0 ≤ s2 := by omega
  obtain ⟨s3, hs3⟩ : ∃ s : Int, s = ((m.lp.length + lenSS (prs m.lp) : Nat) : Int) := ⟨_, rfl⟩
  obtain ⟨y4, hy4⟩ : ∃ y : Int, y = y3 - s3 := ⟨_, rfl⟩
  have hp3 : 0 ≤ s3 := by omega
  obtain ⟨s4, hs4⟩ : ∃ s : Int, s = (m.dr.length : Int) := ⟨_, rfl⟩
  obtain ⟨y5, hy5⟩ : ∃ y : Int, y = y4 - s4 := ⟨_, rfl⟩
  have hp4 : 0 ≤ s4 := by omega
  have hn1 : 0 ≤ y1 ∧ y1 ≤ 1048576 := by omega
  obtain ⟨hn1a, hn1b⟩ := hn1
  have hf0 : ¬ left < s0 := by omega
  have hn2 : 0 ≤ y2 ∧ y2 ≤ 1048576 := by omega
  obtain ⟨hn2a, hn2b⟩ := hn2
  have hf1 : ¬ y1 < s1 := by omega
  have hn3 : 0 ≤ y3 ∧ y3 ≤ 1048576 := by omega
  obtain ⟨hn3a, hn3b⟩ := hn3
  have hf2 : ¬ y2 < s2 := by omega
  have hn4 : 0 ≤ y4 ∧ y4 ≤ 1048576 := by omega
  obtain ⟨hn4a, hn4b⟩ := hn4
  have hf3 : ¬ y3 < s3 := by omega
  have hno : y4 < s4 := by omega
  have HS0 := Lib.hid hs0
  have HY1 := Lib.hid hy1
  have HS1 := Lib.hid hs1
  have HY2 := Lib.hid hy2
  have HS2 := Lib.hid hs2
  have HY3 := Lib.hid hy3
  have HS3 := Lib.hid hs3
  have HY4 := Lib.hid hy4
  have HS4 := Lib.hid hs4
  have HY5 := Lib.hid hy5
  clear hs0 hy1 hs1 hy2 hs2 hy3 hs3 hy4 hs4 hy5 hc
  have hg := h.below (al1 w (.cells #[.int .i64 m.wd, .int .i64 m.rk, .slice Af m.fr.length kf, .slice Ab m.bk.length kb, .slice Ac m.cr.length kc, .slice Al m.lp.length kl, .slice Ad m.dr.length kd] 36)) hB
  have G := Lib.hid hg
  have hB1 : B ≤ (w.alloc (.cells #[.int .i64 m.wd, .int .i64 m.rk, .slice Af m.fr.length kf, .slice Ab m.bk.length kb, .slice Ac m.cr.length kc, .slice Al m.lp.length kl, .slice Ad m.dr.length kd] 36)).heap.size := by simp; omega
  clear hg h
  go_enter Try.func17, Try.ntmps17
  go_wp2_with fail
  refine (szSS_yes (left := left) G.out.fr (by omega) (by omega) (by rw [← HS0.out]; first | exact hf0 | exact Int.not_lt.2 hf0)).mono ?_
  rintro e w1 ⟨rfl, hq⟩
  have hx := alloc_fwd hq
  have hb := (al1 w (.cells #[.int .i64 m.wd, .int .i64 m.rk, .slice Af m.fr.length kf, .slice Ab m.bk.length kb, .slice Ac m.cr.length kc, .slice Al m.lp.length kl, .slice Ad m.dr.length kd] 36)).trans (hq.mono (by simp))
  have hg := G.out.below hq hB1
  have hB2 := Nat.le_trans hB1 hq.size
  have hz : w.heap.size ≤ w1.heap.size := hb.size
  clear hq G
  obtain ⟨⟨-, -, -, p3, -, -, -⟩, -, -⟩ := box7 hx
  have X := Lib.hid hx
  have HB := Lib.hid hb
  have G := Lib.hid hg
  clear hx hb hg
  rw [← HS0.out, ← HY1.out]
  go_wp2_with fail
  refine (szSS_yes (left := y1) G.out.bk (by omega) (by omega) (by rw [← HS1.out]; first | exact hf1 | exact Int.not_lt.2 hf1)).mono ?_
  rintro e w2 ⟨rfl, hq⟩
  have hx := keep_fwd hq X.out
  have hb := HB.out.trans (hq.mono hz)
  have hg := G.out.below hq hB2
  have hB2 := Nat.le_trans hB2 hq.size
  have hz : w.heap.size ≤ w2.heap.size := hb.size
  clear hq X HB G
  obtain ⟨⟨-, -, -, -, p4, -, -⟩, -, -⟩ := box7 hx
  have X := Lib.hid hx
  have HB := Lib.hid hb
  have G := Lib.hid hg
  clear hx hb hg
  rw [← HS1.out, ← HY2.out]
  go_wp2_with fail
  refine (szCars_yes (left := y2) G.out.cr (by omega) (by omega) (by rw [← HS2.out]; first | exact hf2 | exact Int.not_lt.2 hf2)).mono ?_
  rintro e w3 ⟨rfl, hq⟩
  have hx := keep_fwd hq X.out
  have hb := HB.out.trans (hq.mono hz)
  have hg := G.out.below hq hB2
  have hB2 := Nat.le_trans hB2 hq.size
  have hz : w.heap.size ≤ w3.heap.size := hb.size
  clear hq X HB G
  obtain ⟨⟨-, -, -, -, -, p5, -⟩, -, -⟩ := box7 hx
  have X := Lib.hid hx
  have HB := Lib.hid hb
  have G := Lib.hid hg
  clear hx hb hg
  rw [← HS2.out, ← HY3.out]
  go_wp2_with fail
  refine (szInfs_yes (left := y3) G.out.lp (by first | exact hB2 | exact hB1) (by omega) (by omega) (by rw [← HS3.out]; first | exact hf3 | exact Int.not_lt.2 hf3)).mono ?_
  rintro e w4 ⟨rfl, hq⟩
  have hx := keep_fwd hq X.out
  have hb := HB.out.trans (hq.mono hz)
  have hg := G.out.below hq hB2
  have hB2 := Nat.le_trans hB2 hq.size
  have hz : w.heap.size ≤ w4.heap.size := hb.size
  clear hq X HB G
  obtain ⟨⟨-, -, -, -, -, -, p6⟩, -, -⟩ := box7 hx
  have X := Lib.hid hx
  have HB := Lib.hid hb
  have G := Lib.hid hg
  clear hx hb hg
  rw [← HS3.out, ← HY4.out]
  go_wp2_with fail
  refine (szInts_no (left := y4) G.out.dr (by omega) (by omega) (by rw [← HS4.out]; exact hno)).mono ?_
  rintro e w5 ⟨rfl, hq⟩
  have hx := keep_fwd hq X.out
  have hb := HB.out.trans (hq.mono hz)
  have hg := G.out.below hq hB2
  have hB2 := Nat.le_trans hB2 hq.size
  have hz : w.heap.size ≤ w5.heap.size := hb.size
  clear hq X HB G
  have X := Lib.hid hx
  have HB := Lib.hid hb
  have G := Lib.hid hg
  clear hx hb hg
  go_wp2_with fail
  go_ret
  exact ⟨rfl, HB.out⟩
set_option maxHeartbeats 3200000 in
theorem szMac_yes0 {f b c l d : Value} {m : Mac} {B : Nat} {left : Int} {w : World} (h : SlM w B f b c l d m) (hB : B ≤ w.heap.size) (h1 : left ≤ 1048576) (h0 : 0 ≤ left) (hc : ((m.fr.length + lenSS m.fr : Nat) : Int) + ((m.bk.length + lenSS m.bk : Nat) : Int) + (m.cr.length : Int) + ((m.lp.length + lenSS (prs m.lp) : Nat) : Int) + (m.dr.length : Int) ≤ left) :
    Calls Try.prog 17 #[.agg #[.int .i64 m.wd, .int .i64 m.rk, f, b, c, l, d], .int .i64 left] w fun e w' => e = .returned (.int .i64 (left - m.size)) ∧ Below w.heap.size w w' := by
  obtain ⟨Af, kf, rfl, -⟩ := id (h.fr)
  obtain ⟨Ab, kb, rfl, -⟩ := id (h.bk)
  obtain ⟨Ac, kc, rfl, -⟩ := id (h.cr.cells)
  obtain ⟨Al, kl, rfl, -⟩ := id (h.lp.cells)
  obtain ⟨Ad, kd, rfl, -⟩ := id (h.dr)
  obtain ⟨s0, hs0⟩ : ∃ s : Int, s = ((m.fr.length + lenSS m.fr : Nat) : Int) := ⟨_, rfl⟩
  obtain ⟨y1, hy1⟩ : ∃ y : Int, y = left - s0 := ⟨_, rfl⟩
  have hp0 : 0 ≤ s0 := by omega
  obtain ⟨s1, hs1⟩ : ∃ s : Int, s = ((m.bk.length + lenSS m.bk : Nat) : Int) := ⟨_, rfl⟩
  obtain ⟨y2, hy2⟩ : ∃ y : Int, y = y1 - s1 := ⟨_, rfl⟩
  have hp1 : 0 ≤ s1 := by omega
  obtain ⟨s2, hs2⟩ : ∃ s : Int, s = (m.cr.length : Int) := ⟨_, rfl⟩
  obtain ⟨y3, hy3⟩ : ∃ y : Int, y = y2 - s2 := ⟨_, rfl⟩
  have hp2 : 0 ≤ s2 := by omega
  obtain ⟨s3, hs3⟩ : ∃ s : Int, s = ((m.lp.length + lenSS (prs m.lp) : Nat) : Int) := ⟨_, rfl⟩
  obtain ⟨y4, hy4⟩ : ∃ y : Int, y = y3 - s3 := ⟨_, rfl⟩
  have hp3 : 0 ≤ s3 := by omega
  obtain ⟨s4, hs4⟩ : ∃ s : Int, s = (m.dr.length : Int) := ⟨_, rfl⟩
  obtain ⟨y5, hy5⟩ : ∃ y : Int, y = y4 - s4 := ⟨_, rfl⟩
  have hp4 : 0 ≤ s4 := by omega
  have hn1 : 0 ≤ y1 ∧ y1 ≤ 1048576 := by omega
  obtain ⟨hn1a, hn1b⟩ := hn1
  have hf0 : ¬ left < s0 := by omega
  have hn2 : 0 ≤ y2 ∧ y2 ≤ 1048576 := by omega
  obtain ⟨hn2a, hn2b⟩ := hn2
  have hf1 : ¬ y1 < s1 := by omega
  have hn3 : 0 ≤ y3 ∧ y3 ≤ 1048576 := by omega
  obtain ⟨hn3a, hn3b⟩ := hn3
  have hf2 : ¬ y2 < s2 := by omega
  have hn4 : 0 ≤ y4 ∧ y4 ≤ 1048576 := by omega
  obtain ⟨hn4a, hn4b⟩ := hn4
  have hf3 : ¬ y3 < s3 := by omega
  have hn5 : 0 ≤ y5 ∧ y5 ≤ 1048576 := by omega
  obtain ⟨hn5a, hn5b⟩ := hn5
  have hf4 : ¬ y4 < s4 := by omega
  have HR := Lib.hid (show y5 = left - m.size by unfold Mac.size; push_cast; omega)
  have HS0 := Lib.hid hs0
  have HY1 := Lib.hid hy1
  have HS1 := Lib.hid hs1
  have HY2 := Lib.hid hy2
  have HS2 := Lib.hid hs2
  have HY3 := Lib.hid hy3
  have HS3 := Lib.hid hs3
  have HY4 := Lib.hid hy4
  have HS4 := Lib.hid hs4
  have HY5 := Lib.hid hy5
  clear hs0 hy1 hs1 hy2 hs2 hy3 hs3 hy4 hs4 hy5 hc
  have hg := h.below (al1 w (.cells #[.int .i64 m.wd, .int .i64 m.rk, .slice Af m.fr.length kf, .slice Ab m.bk.length kb, .slice Ac m.cr.length kc, .slice Al m.lp.length kl, .slice Ad m.dr.length kd] 36)) hB
  have G := Lib.hid hg
  have hB1 : B ≤ (w.alloc (.cells #[.int .i64 m.wd, .int .i64 m.rk, .slice Af m.fr.length kf, .slice Ab m.bk.length kb, .slice Ac m.cr.length kc, .slice Al m.lp.length kl, .slice Ad m.dr.length kd] 36)).heap.size := by simp; omega
  clear hg h
  go_enter Try.func17, Try.ntmps17
  go_wp2_with fail
  refine (szSS_yes (left := left) G.out.fr (by omega) (by omega) (by rw [← HS0.out]; first | exact hf0 | exact Int.not_lt.2 hf0)).mono ?_
  rintro e w1 ⟨rfl, hq⟩
  have hx := alloc_fwd hq
  have hb := (al1 w (.cells #[.int .i64 m.wd, .int .i64 m.rk, .slice Af m.fr.length kf, .slice Ab m.bk.length kb, .slice Ac m.cr.length kc, .slice Al m.lp.length kl, .slice Ad m.dr.length kd] 36)).trans (hq.mono (by simp))
  have hg := G.out.below hq hB1
  have hB2 := Nat.le_trans hB1 hq.size
  have hz : w.heap.size ≤ w1.heap.size := hb.size
  clear hq G
  obtain ⟨⟨-, -, -, p3, -, -, -⟩, -, -⟩ := box7 hx
  have X := Lib.hid hx
  have HB := Lib.hid hb
  have G := Lib.hid hg
  clear hx hb hg
  rw [← HS0.out, ← HY1.out]
  go_wp2_with fail
  refine (szSS_yes (left := y1) G.out.bk (by omega) (by omega) (by rw [← HS1.out]; first | exact hf1 | exact Int.not_lt.2 hf1)).mono ?_
  rintro e w2 ⟨rfl, hq⟩
  have hx := keep_fwd hq X.out
  have hb := HB.out.trans (hq.mono hz)
  have hg := G.out.below hq hB2
  have hB2 := Nat.le_trans hB2 hq.size
  have hz : w.heap.size ≤ w2.heap.size := hb.size
  clear hq X HB G
  obtain ⟨⟨-, -, -, -, p4, -, -⟩, -, -⟩ := box7 hx
  have X := Lib.hid hx
  have HB := Lib.hid hb
  have G := Lib.hid hg
  clear hx hb hg
  rw [← HS1.out, ← HY2.out]
  go_wp2_with fail
  refine (szCars_yes (left := y2) G.out.cr (by omega) (by omega) (by rw [← HS2.out]; first | exact hf2 | exact Int.not_lt.2 hf2)).mono ?_
  rintro e w3 ⟨rfl, hq⟩
  have hx := keep_fwd hq X.out
  have hb := HB.out.trans (hq.mono hz)
  have hg := G.out.below hq hB2
  have hB2 := Nat.le_trans hB2 hq.size
  have hz : w.heap.size ≤ w3.heap.size := hb.size
  clear hq X HB G
  obtain ⟨⟨-, -, -, -, -, p5, -⟩, -, -⟩ := box7 hx
  have X := Lib.hid hx
  have HB := Lib.hid hb
  have G := Lib.hid hg
  clear hx hb hg
  rw [← HS2.out, ← HY3.out]
  go_wp2_with fail
  refine (szInfs_yes (left := y3) G.out.lp (by first | exact hB2 | exact hB1) (by omega) (by omega) (by rw [← HS3.out]; first | exact hf3 | exact Int.not_lt.2 hf3)).mono ?_
  rintro e w4 ⟨rfl, hq⟩
  have hx := keep_fwd hq X.out
  have hb := HB.out.trans (hq.mono hz)
  have hg := G.out.below hq hB2
  have hB2 := Nat.le_trans hB2 hq.size
  have hz : w.heap.size ≤ w4.heap.size := hb.size
  clear hq X HB G
  obtain ⟨⟨-, -, -, -, -, -, p6⟩, -, -⟩ := box7 hx
  have X := Lib.hid hx
  have HB := Lib.hid hb
  have G := Lib.hid hg
  clear hx hb hg
  rw [← HS3.out, ← HY4.out]
  go_wp2_with fail
  refine (szInts_yes (left := y4) G.out.dr (by omega) (by omega) (by rw [← HS4.out]; first | exact hf4 | exact Int.not_lt.2 hf4)).mono ?_
  rintro e w5 ⟨rfl, hq⟩
  have hx := keep_fwd hq X.out
  have hb := HB.out.trans (hq.mono hz)
  have hg := G.out.below hq hB2
  have hB2 := Nat.le_trans hB2 hq.size
  have hz : w.heap.size ≤ w5.heap.size := hb.size
  clear hq X HB G
  have X := Lib.hid hx
  have HB := Lib.hid hb
  have G := Lib.hid hg
  clear hx hb hg
  rw [← HS4.out, ← HY5.out]
  go_wp2_with fail
  go_ret
  exact ⟨ret_int HR.out, HB.out⟩
theorem szMac_yes {f b c l d : Value} {m : Mac} {B : Nat} {left : Int} {w : World} (h : SlM w B f b c l d m) (hB : B ≤ w.heap.size) (h1 : left ≤ 1048576) (h0 : 0 ≤ left) (hc : ¬ left < (m.size : Int)) :
    Calls Try.prog 17 #[.agg #[.int .i64 m.wd, .int .i64 m.rk, f, b, c, l, d], .int .i64 left] w fun e w' => e = .returned (.int .i64 (left - m.size)) ∧ Below w.heap.size w w' :=
  szMac_yes0 h hB h1 h0 (by unfold Mac.size at hc; push_cast at hc ⊢; omega)
theorem szMac_no {f b c l d : Value} {m : Mac} {B : Nat} {left : Int} {w : World} (h : SlM w B f b c l d m) (hB : B ≤ w.heap.size) (h1 : left ≤ 1048576) (h0 : 0 ≤ left) (hc : left < (m.size : Int)) :
    Calls Try.prog 17 #[.agg #[.int .i64 m.wd, .int .i64 m.rk, f, b, c, l, d], .int .i64 left] w fun e w' => e = .returned (.int .i64 (-1)) ∧ Below w.heap.size w w' := by
  unfold Mac.size at hc
  by_cases c0 : left < ((m.fr.length + lenSS m.fr : Nat) : Int)
  · exact szMac_no0 h hB h1 h0 ⟨by omega, c0⟩
  by_cases c1 : left < ((m.fr.length + lenSS m.fr : Nat) : Int) + ((m.bk.length + lenSS m.bk : Nat) : Int)
  · exact szMac_no1 h hB h1 h0 ⟨by omega, c1⟩
  by_cases c2 : left < ((m.fr.length + lenSS m.fr : Nat) : Int) + ((m.bk.length + lenSS m.bk : Nat) : Int) + (m.cr.length : Int)
  · exact szMac_no2 h hB h1 h0 ⟨by omega, c2⟩
  by_cases c3 : left < ((m.fr.length + lenSS m.fr : Nat) : Int) + ((m.bk.length + lenSS m.bk : Nat) : Int) + (m.cr.length : Int) + ((m.lp.length + lenSS (prs m.lp) : Nat) : Int)
  · exact szMac_no3 h hB h1 h0 ⟨by omega, c3⟩
  · exact szMac_no4 h hB h1 h0 ⟨by omega, by push_cast at hc ⊢; omega⟩
end Go.Proofs.Ytbefioljddhhpaa
