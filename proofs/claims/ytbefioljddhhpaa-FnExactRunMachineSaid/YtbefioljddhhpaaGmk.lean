/-
  Contracts: the laws' eqMachine, heldMachine, szMachine, markMachine. Printed by gen_mac.py.
-/
import Derived.Test.YtbefioljddhhpaaMac
namespace Go.Proofs.Ytbefioljddhhpaa
set_option maxRecDepth 10000
open Go.RowKit

set_option maxHeartbeats 3200000 in
theorem eqMac_yes {f b c l d f2 b2 c2 l2 d2 : Value} {m : Mac} {B1 B2 : Nat} {w : World} (h1 : SlM w B1 f b c l d m) (h2 : SlM w B2 f2 b2 c2 l2 d2 m) (hB1 : B1 ≤ w.heap.size) (hB2 : B2 ≤ w.heap.size) :
    Calls Try.prog 14 #[.agg #[.int .i64 m.wd, .int .i64 m.rk, f, b, c, l, d], .agg #[.int .i64 m.wd, .int .i64 m.rk, f2, b2, c2, l2, d2]] w fun e w' => e = .returned (.bool true) ∧ Below w.heap.size w w' := by
  obtain ⟨Af, kf, rfl, -⟩ := id (h1.fr)
  obtain ⟨Ab, kb, rfl, -⟩ := id (h1.bk)
  obtain ⟨Ac, kc, rfl, -⟩ := id (h1.cr.cells)
  obtain ⟨Al, kl, rfl, -⟩ := id (h1.lp.cells)
  obtain ⟨Ad, kd, rfl, -⟩ := id (h1.dr)
  obtain ⟨Af2, kf2, rfl, -⟩ := id (h2.fr)
  obtain ⟨Ab2, kb2, rfl, -⟩ := id (h2.bk)
  obtain ⟨Ac2, kc2, rfl, -⟩ := id (h2.cr.cells)
  obtain ⟨Al2, kl2, rfl, -⟩ := id (h2.lp.cells)
  obtain ⟨Ad2, kd2, rfl, -⟩ := id (h2.dr)
  have hx1 : ((w.alloc (.cells #[.int .i64 m.wd, .int .i64 m.rk, .slice Af m.fr.length kf, .slice Ab m.bk.length kb, .slice Ac m.cr.length kc, .slice Al m.lp.length kl, .slice Ad m.dr.length kd] 27)).alloc (.cells #[.int .i64 m.wd, .int .i64 m.rk, .slice Af2 m.fr.length kf2, .slice Ab2 m.bk.length kb2, .slice Ac2 m.cr.length kc2, .slice Al2 m.lp.length kl2, .slice Ad2 m.dr.length kd2] 27)).heap[w.heap.size]? = some (.cells #[.int .i64 m.wd, .int .i64 m.rk, .slice Af m.fr.length kf, .slice Ab m.bk.length kb, .slice Ac m.cr.length kc, .slice Al m.lp.length kl, .slice Ad m.dr.length kd] 27) := keep_fwd (al1 _ _) (alloc_at_ _ _)
  have hx2 : ((w.alloc (.cells #[.int .i64 m.wd, .int .i64 m.rk, .slice Af m.fr.length kf, .slice Ab m.bk.length kb, .slice Ac m.cr.length kc, .slice Al m.lp.length kl, .slice Ad m.dr.length kd] 27)).alloc (.cells #[.int .i64 m.wd, .int .i64 m.rk, .slice Af2 m.fr.length kf2, .slice Ab2 m.bk.length kb2, .slice Ac2 m.cr.length kc2, .slice Al2 m.lp.length kl2, .slice Ad2 m.dr.length kd2] 27)).heap[w.heap.size + 1]? = some (.cells #[.int .i64 m.wd, .int .i64 m.rk, .slice Af2 m.fr.length kf2, .slice Ab2 m.bk.length kb2, .slice Ac2 m.cr.length kc2, .slice Al2 m.lp.length kl2, .slice Ad2 m.dr.length kd2] 27) := by have := alloc_at_ (w.alloc (.cells #[.int .i64 m.wd, .int .i64 m.rk, .slice Af m.fr.length kf, .slice Ab m.bk.length kb, .slice Ac m.cr.length kc, .slice Al m.lp.length kl, .slice Ad m.dr.length kd] 27)) (.cells #[.int .i64 m.wd, .int .i64 m.rk, .slice Af2 m.fr.length kf2, .slice Ab2 m.bk.length kb2, .slice Ac2 m.cr.length kc2, .slice Al2 m.lp.length kl2, .slice Ad2 m.dr.length kd2] 27); rw [World.size_alloc] at this; exact this
  have hb0 : Below w.heap.size w ((w.alloc (.cells #[.int .i64 m.wd, .int .i64 m.rk, .slice Af m.fr.length kf, .slice Ab m.bk.length kb, .slice Ac m.cr.length kc, .slice Al m.lp.length kl, .slice Ad m.dr.length kd] 27)).alloc (.cells #[.int .i64 m.wd, .int .i64 m.rk, .slice Af2 m.fr.length kf2, .slice Ab2 m.bk.length kb2, .slice Ac2 m.cr.length kc2, .slice Al2 m.lp.length kl2, .slice Ad2 m.dr.length kd2] 27)) := al2 _ _ _
  have hw0 : w.heap.size ≤ ((w.alloc (.cells #[.int .i64 m.wd, .int .i64 m.rk, .slice Af m.fr.length kf, .slice Ab m.bk.length kb, .slice Ac m.cr.length kc, .slice Al m.lp.length kl, .slice Ad m.dr.length kd] 27)).alloc (.cells #[.int .i64 m.wd, .int .i64 m.rk, .slice Af2 m.fr.length kf2, .slice Ab2 m.bk.length kb2, .slice Ac2 m.cr.length kc2, .slice Al2 m.lp.length kl2, .slice Ad2 m.dr.length kd2] 27)).heap.size := hb0.size
  have g1 := h1.below hb0 hB1
  have g2 := h2.below hb0 hB2
  have X1 := Lib.hid hx1
  have X2 := Lib.hid hx2
  have HB := Lib.hid hb0
  have G1 := Lib.hid g1
  have G2 := Lib.hid g2
  have HW := Lib.hid hw0
  clear hx1 hx2 hb0 g1 g2 hw0 h1 h2
  go_enter Try.func14, Try.ntmps14
  go_wp2_with fail
  refine (eqSS_yes G1.out.fr G2.out.fr).mono ?_
  rintro e w1 ⟨rfl, hq⟩
  have x1 := keep_fwd hq X1.out
  have x2 := keep_fwd hq X2.out
  have hb := HB.out.trans (hq.mono HW.out)
  have g1 := G1.out.below hq (Nat.le_trans hB1 HW.out)
  have g2 := G2.out.below hq (Nat.le_trans hB2 HW.out)
  have hz := Nat.le_trans HW.out hq.size
  clear hq X1 X2 HB G1 G2 HW
  obtain ⟨⟨-, -, -, p3, -, -, -⟩, -, -⟩ := box7 x1
  obtain ⟨⟨-, -, -, q3, -, -, -⟩, -, -⟩ := box7 x2
  have X1 := Lib.hid x1
  have X2 := Lib.hid x2
  have HB := Lib.hid hb
  have G1 := Lib.hid g1
  have G2 := Lib.hid g2
  clear x1 x2 hb g1 g2
  go_wp2_with fail
  refine (eqSS_yes G1.out.bk G2.out.bk).mono ?_
  rintro e w2 ⟨rfl, hq⟩
  have x1 := keep_fwd hq X1.out
  have x2 := keep_fwd hq X2.out
  have hb := HB.out.trans (hq.mono hz)
  have g1 := G1.out.below hq (Nat.le_trans hB1 hz)
  have g2 := G2.out.below hq (Nat.le_trans hB2 hz)
  have hz := Nat.le_trans hz hq.size
  clear hq X1 X2 HB G1 G2
  obtain ⟨⟨-, -, -, -, p4, -, -⟩, -, -⟩ := box7 x1
  obtain ⟨⟨-, -, -, -, q4, -, -⟩, -, -⟩ := box7 x2
  have X1 := Lib.hid x1
  have X2 := Lib.hid x2
  have HB := Lib.hid hb
  have G1 := Lib.hid g1
  have G2 := Lib.hid g2
  clear x1 x2 hb g1 g2
  go_wp2_with fail
  refine (eqCars_yes G1.out.cr G2.out.cr (Nat.le_trans hB1 hz) (Nat.le_trans hB2 hz)).mono ?_
  rintro e w3 ⟨rfl, hq⟩
  have x1 := keep_fwd hq X1.out
  have x2 := keep_fwd hq X2.out
  have hb := HB.out.trans (hq.mono hz)
  have g1 := G1.out.below hq (Nat.le_trans hB1 hz)
  have g2 := G2.out.below hq (Nat.le_trans hB2 hz)
  have hz := Nat.le_trans hz hq.size
  clear hq X1 X2 HB G1 G2
  obtain ⟨⟨-, -, -, -, -, p5, -⟩, -, -⟩ := box7 x1
  obtain ⟨⟨-, -, -, -, -, q5, -⟩, -, -⟩ := box7 x2
  have X1 := Lib.hid x1
  have X2 := Lib.hid x2
  have HB := Lib.hid hb
  have G1 := Lib.hid g1
  have G2 := Lib.hid g2
  clear x1 x2 hb g1 g2
  go_wp2_with fail
  refine (eqInfs_yes G1.out.lp G2.out.lp (Nat.le_trans hB1 hz) (Nat.le_trans hB2 hz)).mono ?_
  rintro e w4 ⟨rfl, hq⟩
  have x1 := keep_fwd hq X1.out
  have x2 := keep_fwd hq X2.out
  have hb := HB.out.trans (hq.mono hz)
  have g1 := G1.out.below hq (Nat.le_trans hB1 hz)
  have g2 := G2.out.below hq (Nat.le_trans hB2 hz)
  have hz := Nat.le_trans hz hq.size
  clear hq X1 X2 HB G1 G2
  obtain ⟨⟨-, -, -, -, -, -, p6⟩, -, -⟩ := box7 x1
  obtain ⟨⟨-, -, -, -, -, -, q6⟩, -, -⟩ := box7 x2
  have X1 := Lib.hid x1
  have X2 := Lib.hid x2
  have HB := Lib.hid hb
  have G1 := Lib.hid g1
  have G2 := Lib.hid g2
  clear x1 x2 hb g1 g2
  go_wp2_with fail
  refine (eqInts_yes G1.out.dr G2.out.dr rfl).mono ?_
  rintro e w5 ⟨rfl, hq⟩
  have HB2 := Lib.hid (HB.out.trans (hq.mono hz))
  clear hq
  go_wp2_with fail
  go_ret
  exact ⟨rfl, HB2.out⟩
theorem Mac.mark_sl {w : World} {B : Nat} {f b c l d : Value} {m : Mac} {k : Int} (h : SlM w B f b c l d (m.mark k)) : SlS w B f (markSS k m.fr) ∧ SlS w B b (markSS (k + lenSS m.fr) m.bk) ∧ SlK w B c (markK (k + lenSS m.fr + lenSS m.bk) m.cr.length) ∧ SlF w B l (markSS (k + lenSS m.fr + lenSS m.bk + 2 * m.cr.length) m.lp) ∧ Sl w B d (countFrom (k + lenSS m.fr + lenSS m.bk + 2 * m.cr.length + lenSS m.lp) m.dr.length) :=
  ⟨h.fr, h.bk, h.cr, h.lp, h.dr⟩
theorem Mac.mark_lens (k : Int) (m : Mac) : (m.mark k).fr.length = m.fr.length ∧ (m.mark k).bk.length = m.bk.length ∧ (m.mark k).cr.length = m.cr.length ∧ (m.mark k).lp.length = m.lp.length ∧ (m.mark k).dr.length = m.dr.length :=
  ⟨markSS_len _ _, markSS_len _ _, markK_len _ _, markSS_len _ _, countFrom_len _ _⟩
/-- The readings of a marked machine, kept together. -/
structure MkM (w : World) (B : Nat) (f b c l d : Value) (m : Mac) (k x1 x2 x3 x4 : Int) : Prop where
  fr : SlS w B f (markSS k m.fr)
  bk : SlS w B b (markSS x1 m.bk)
  cr : SlK w B c (markK x2 m.cr.length)
  lp : SlF w B l (markSS x3 m.lp)
  dr : Sl w B d (countFrom x4 m.dr.length)
theorem MkM.below {w w' : World} {B B' : Nat} {f b c l d : Value} {m : Mac} {k x1 x2 x3 x4 : Int} (h : MkM w B f b c l d m k x1 x2 x3 x4) (hb : Below B' w w') (hB : B ≤ B') : MkM w' B f b c l d m k x1 x2 x3 x4 :=
  ⟨h.fr.below hb hB, h.bk.below hb hB, SlC.below h.cr hb hB, SlC.below h.lp hb hB, h.dr.below hb hB⟩
set_option maxHeartbeats 3200000 in
theorem heldMac_any {f b c l d : Value} {m : Mac} {B : Nat} {k : Int} {w : World} (h : SlM w B f b c l d (m.mark k)) (hB : B ≤ w.heap.size) (h5 : Five m.lp) (hsz : m.marks ≤ 8000000) (hcr : m.cr.length ≤ 1048576) (hc0 : 0 ≤ k) (hc1 : k ≤ 100000000) :
    Calls Try.prog 16 #[.agg #[.int .i64 m.wd, .int .i64 m.rk, f, b, c, l, d], .int .i64 k] w fun e w' => e = .returned (.int .i64 (k + m.marks)) ∧ Below w.heap.size w w' := by
  obtain ⟨n1, n2, n3, n4, n5⟩ := m.mark_lens k
  obtain ⟨Af, kf, ef, -⟩ := id (h.fr)
  obtain ⟨Ab, kb, eb, -⟩ := id (h.bk)
  obtain ⟨Ac, kc, ec, -⟩ := id (h.cr.cells)
  obtain ⟨Al, kl, el, -⟩ := id (h.lp.cells)
  obtain ⟨Ad, kd, ed, -⟩ := id (h.dr)
  rw [n1] at ef
  rw [n2] at eb
  rw [n3] at ec
  rw [n4] at el
  rw [n5] at ed
  subst ef eb ec el ed
  unfold Mac.marks at hsz ⊢
  clear n1 n2 n3 n4 n5
  obtain ⟨x1, hx1⟩ : ∃ x : Int, x = k + lenSS m.fr := ⟨_, rfl⟩
  obtain ⟨x2, hx2⟩ : ∃ x : Int, x = x1 + lenSS m.bk := ⟨_, rfl⟩
  obtain ⟨x3, hx3⟩ : ∃ x : Int, x = x2 + 2 * m.cr.length := ⟨_, rfl⟩
  obtain ⟨x4, hx4⟩ : ∃ x : Int, x = x3 + lenSS m.lp := ⟨_, rfl⟩
  have y1 : 0 ≤ x1 ∧ x1 ≤ 200000000 := by omega
  have y2 : 0 ≤ x2 ∧ x2 ≤ 200000000 := by omega
  have y3 : 0 ≤ x3 ∧ x3 ≤ 200000000 := by omega
  have y4 : 0 ≤ x4 ∧ x4 ≤ 200000000 := by omega
  have y5 : 0 ≤ x4 + (m.dr.length : Int) := by omega
  have z1 : lenSS m.fr ≤ 8000000 ∧ lenSS m.bk ≤ 8000000 ∧ m.cr.length ≤ 1048576 ∧ lenSS m.lp ≤ 8000000 ∧ m.dr.length ≤ 8000000 := by omega
  have HR := Lib.hid (show x4 + (m.dr.length : Int) = k + ((lenSS m.fr + lenSS m.bk + 2 * m.cr.length + lenSS m.lp + m.dr.length : Nat) : Int) by push_cast; omega)
  obtain ⟨y1a, y1b⟩ := y1
  obtain ⟨y2a, y2b⟩ := y2
  obtain ⟨y3a, y3b⟩ := y3
  obtain ⟨y4a, y4b⟩ := y4
  obtain ⟨za, zb, zc, zd, ze⟩ := z1
  have HX1 := Lib.hid hx1
  have HX2 := Lib.hid hx2
  have HX3 := Lib.hid hx3
  have HX4 := Lib.hid hx4
  have h : MkM w B (.slice Af m.fr.length kf) (.slice Ab m.bk.length kb) (.slice Ac m.cr.length kc) (.slice Al m.lp.length kl) (.slice Ad m.dr.length kd) m k x1 x2 x3 x4 := by
    subst hx4 hx3 hx2 hx1
    obtain ⟨a1, a2, a3, a4, a5⟩ := Mac.mark_sl h
    exact ⟨a1, a2, a3, a4, a5⟩
  clear hx1 hx2 hx3 hx4
  have hg := h.below (al1 w (.cells #[.int .i64 m.wd, .int .i64 m.rk, .slice Af m.fr.length kf, .slice Ab m.bk.length kb, .slice Ac m.cr.length kc, .slice Al m.lp.length kl, .slice Ad m.dr.length kd] 27)) hB
  have G := Lib.hid hg
  have hB1 : B ≤ (w.alloc (.cells #[.int .i64 m.wd, .int .i64 m.rk, .slice Af m.fr.length kf, .slice Ab m.bk.length kb, .slice Ac m.cr.length kc, .slice Al m.lp.length kl, .slice Ad m.dr.length kd] 27)).heap.size := by simp; omega
  clear hg h
  go_enter Try.func16, Try.ntmps16
  go_wp2_with fail
  refine (heldSS_any (c := k) G.out.fr (by omega) (by omega) (by omega)).mono ?_
  rintro e w1 ⟨rfl, hq⟩
  have hx := alloc_fwd hq
  have hb := (al1 w (.cells #[.int .i64 m.wd, .int .i64 m.rk, .slice Af m.fr.length kf, .slice Ab m.bk.length kb, .slice Ac m.cr.length kc, .slice Al m.lp.length kl, .slice Ad m.dr.length kd] 27)).trans (hq.mono (by simp))
  have hg := G.out.below hq hB1
  have hB2 := Nat.le_trans hB1 hq.size
  have hz : w.heap.size ≤ w1.heap.size := hb.size
  clear hq G
  obtain ⟨⟨-, -, -, p3, -, -, -⟩, -, -⟩ := box7 hx
  have X := Lib.hid hx
  have HB := Lib.hid hb
  have G := Lib.hid hg
  clear hx hb hg
  rw [← HX1.out]
  go_wp2_with fail
  refine (heldSS_any (c := x1) G.out.bk (by omega) (by omega) (by omega)).mono ?_
  rintro e w2 ⟨rfl, hq⟩
  have hx := keep_fwd hq X.out
  have hb := HB.out.trans (hq.mono hz)
  have hg := G.out.below hq hB2
  have hB2 := Nat.le_trans hB2 hq.size
  have hz : w.heap.size ≤ w2.heap.size := hb.size
  clear hq X HB G
  obtain ⟨⟨-, -, -, -, p4, -, -⟩, -, -⟩ := box7 hx
  have X := Lib.hid hx
  have HB := Lib.hid hb
  have G := Lib.hid hg
  clear hx hb hg
  rw [← HX2.out]
  go_wp2_with fail
  refine (heldCars_any (c := x2) G.out.cr (by omega) (by omega) (by omega)).mono ?_
  rintro e w3 ⟨rfl, hq⟩
  have hx := keep_fwd hq X.out
  have hb := HB.out.trans (hq.mono hz)
  have hg := G.out.below hq hB2
  have hB2 := Nat.le_trans hB2 hq.size
  have hz : w.heap.size ≤ w3.heap.size := hb.size
  clear hq X HB G
  obtain ⟨⟨-, -, -, -, -, p5, -⟩, -, -⟩ := box7 hx
  have X := Lib.hid hx
  have HB := Lib.hid hb
  have G := Lib.hid hg
  clear hx hb hg
  rw [← HX3.out]
  go_wp2_with fail
  refine (heldInfs_any (c := x3) G.out.lp h5 (by omega) (by omega) (by omega)).mono ?_
  rintro e w4 ⟨rfl, hq⟩
  have hx := keep_fwd hq X.out
  have hb := HB.out.trans (hq.mono hz)
  have hg := G.out.below hq hB2
  have hB2 := Nat.le_trans hB2 hq.size
  have hz : w.heap.size ≤ w4.heap.size := hb.size
  clear hq X HB G
  obtain ⟨⟨-, -, -, -, -, -, p6⟩, -, -⟩ := box7 hx
  have X := Lib.hid hx
  have HB := Lib.hid hb
  have G := Lib.hid hg
  clear hx hb hg
  rw [← HX4.out]
  go_wp2_with fail
  refine (heldInts_quiet (c := x4) G.out.dr (by omega) (by omega) (by omega)).mono ?_
  rintro e w5 ⟨rfl, hq⟩
  have hx := keep_fwd hq X.out
  have hb := HB.out.trans (hq.mono hz)
  have hg := G.out.below hq hB2
  have hB2 := Nat.le_trans hB2 hq.size
  have hz : w.heap.size ≤ w5.heap.size := hb.size
  clear hq X HB G
  have X := Lib.hid hx
  have HB := Lib.hid hb
  have G := Lib.hid hg
  clear hx hb hg
  go_wp2_with fail
  go_ret
  exact ⟨ret_int HR.out, HB.out⟩
end Go.Proofs.Ytbefioljddhhpaa
/-
  Contracts: the laws' markMachine, toMachine. Printed by gen_mac3.py.
-/
namespace Go.Proofs.Ytbefioljddhhpaa
set_option maxRecDepth 10000
open Go.RowKit

theorem owc_len {e : TypeId} {z : Nat} {w : World} {S : Nat → Prop} {v : Value} {n n2 : Nat} {cs : List Cl} (h : OwC e z w S v n cs) (hn : n2 = n) : OwC e z w S v n2 cs := by rw [hn]; exact h
set_option maxHeartbeats 3200000 in
theorem markMac_any {f b c l d : Value} {m : Mac} {S : Nat → Prop} {k : Int} {w : World} (h : OwM w S f b c l d m) (hS : ∀ j, S j → j < w.heap.size) (h5 : Five m.lp) (hsz : m.marks ≤ 8000000) (hcr : m.cr.length ≤ 1048576) (hc0 : 0 ≤ k) (hc1 : k ≤ 100000000) :
    Calls Try.prog 15 #[.agg #[.int .i64 m.wd, .int .i64 m.rk, f, b, c, l, d], .int .i64 k] w fun e w' => e = .returned (.int .i64 (k + m.marks)) ∧ OwM w' S f b c l d (m.mark k) ∧ ChgS S w w' := by
  obtain ⟨tag, hp⟩ := h
  have hs := OwM.sl ⟨tag, hp⟩ hS
  obtain ⟨a1, a2, a3, a4, a5⟩ := hp
  obtain ⟨Af, kf, rfl, -⟩ := id (hs.fr)
  obtain ⟨Ab, kb, rfl, -⟩ := id (hs.bk)
  obtain ⟨Ac, kc, rfl, -⟩ := id (hs.cr.cells)
  obtain ⟨Al, kl, rfl, -⟩ := id (hs.lp.cells)
  obtain ⟨Ad, kd, rfl, -⟩ := id (hs.dr)
  have kk : ∀ j, S j → (w.alloc (.cells #[.int .i64 m.wd, .int .i64 m.rk, .slice Af m.fr.length kf, .slice Ab m.bk.length kb, .slice Ac m.cr.length kc, .slice Al m.lp.length kl, .slice Ad m.dr.length kd] 27)).heap[j]? = w.heap[j]? := fun j hj => (al1 w (.cells #[.int .i64 m.wd, .int .i64 m.rk, .slice Af m.fr.length kf, .slice Ab m.bk.length kb, .slice Ac m.cr.length kc, .slice Al m.lp.length kl, .slice Ad m.dr.length kd] 27)).block j (hS j hj)
  have b1 := a1.keep fun j q => kk j q.1
  have b2 := a2.keep fun j q => kk j q.1
  have b3 := a3.keep fun j q => kk j q.1
  have b4 := a4.keep fun j q => kk j q.1
  have b5 := (rw_ _ _).keep a5 fun j q => kk j q.1
  have hC : ChgS S w (w.alloc (.cells #[.int .i64 m.wd, .int .i64 m.rk, .slice Af m.fr.length kf, .slice Ab m.bk.length kb, .slice Ac m.cr.length kc, .slice Al m.lp.length kl, .slice Ad m.dr.length kd] 27)) := ChgS.of_below (al1 _ _)
  have hs1 : ∀ j, S j → j < (w.alloc (.cells #[.int .i64 m.wd, .int .i64 m.rk, .slice Af m.fr.length kf, .slice Ab m.bk.length kb, .slice Ac m.cr.length kc, .slice Al m.lp.length kl, .slice Ad m.dr.length kd] 27)).heap.size := fun j hj => Nat.lt_of_lt_of_le (hS j hj) hC.size
  unfold Mac.marks at hsz ⊢
  obtain ⟨x1, hx1⟩ : ∃ x : Int, x = k + lenSS m.fr := ⟨_, rfl⟩
  obtain ⟨x2, hx2⟩ : ∃ x : Int, x = x1 + lenSS m.bk := ⟨_, rfl⟩
  obtain ⟨x3, hx3⟩ : ∃ x : Int, x = x2 + 2 * m.cr.length := ⟨_, rfl⟩
  obtain ⟨x4, hx4⟩ : ∃ x : Int, x = x3 + lenSS m.lp := ⟨_, rfl⟩
  have y1 : 0 ≤ x1 ∧ x1 ≤ 200000000 := by omega
  obtain ⟨y1a, y1b⟩ := y1
  have y2 : 0 ≤ x2 ∧ x2 ≤ 200000000 := by omega
  obtain ⟨y2a, y2b⟩ := y2
  have y3 : 0 ≤ x3 ∧ x3 ≤ 200000000 := by omega
  obtain ⟨y3a, y3b⟩ := y3
  have y4 : 0 ≤ x4 ∧ x4 ≤ 200000000 := by omega
  obtain ⟨y4a, y4b⟩ := y4
  have z1 : lenSS m.fr ≤ 8000000 ∧ lenSS m.bk ≤ 8000000 ∧ lenSS m.lp ≤ 8000000 ∧ m.dr.length ≤ 8000000 := by omega
  obtain ⟨za, zb, zd, ze⟩ := z1
  have HR := Lib.hid (show x4 + (m.dr.length : Int) = k + ((lenSS m.fr + lenSS m.bk + 2 * m.cr.length + lenSS m.lp + m.dr.length : Nat) : Int) by push_cast; omega)
  have HM : Hid (m.mark k = ⟨m.wd, m.rk, markSS k m.fr, markSS x1 m.bk, markK x2 m.cr.length, markSS x3 m.lp, countFrom x4 m.dr.length⟩) := Lib.hid (by subst hx4 hx3 hx2 hx1; rfl)
  have HX1 := Lib.hid hx1
  have HX2 := Lib.hid hx2
  have HX3 := Lib.hid hx3
  have HX4 := Lib.hid hx4
  have H1 := Lib.hid b1
  have H2 := Lib.hid b2
  have H3 := Lib.hid b3
  have H4 := Lib.hid b4
  have H5 := Lib.hid b5
  have HC := Lib.hid hC
  have HS := Lib.hid hs1
  have HS0 := Lib.hid hS
  clear hx1 hx2 hx3 hx4 b1 b2 b3 b4 b5 hC hs1 a1 a2 a3 a4 a5 kk hs hS
  go_enter Try.func15, Try.ntmps15
  go_wp2_with fail
  refine (markSS_any (c := k) H1.out (fun j q => HS.out j q.1) (by omega) (by omega) (by omega)).mono ?_
  rintro e w1 ⟨rfl, hn, hch0⟩
  have hch := hch0
  have kk : ∀ j, S j → tag j ≠ 0 → w1.heap[j]? = (w.alloc (.cells #[.int .i64 m.wd, .int .i64 m.rk, .slice Af m.fr.length kf, .slice Ab m.bk.length kb, .slice Ac m.cr.length kc, .slice Al m.lp.length kl, .slice Ad m.dr.length kd] 27)).heap[j]? := fun j hj ht => hch.block j (HS.out j hj) fun q => ht q.2
  have b1 := hn
  have b2 := H2.out.keep (fun j q => kk j q.1 (by rw [q.2]; decide))
  have b3 := H3.out.keep (fun j q => kk j q.1 (by rw [q.2]; decide))
  have b4 := H4.out.keep (fun j q => kk j q.1 (by rw [q.2]; decide))
  have b5 := (rw_ _ _).keep H5.out (fun j q => kk j q.1 (by rw [q.2]; decide))
  have hx := (hch.block w.heap.size (by simp) fun q => Nat.lt_irrefl _ (HS0.out _ q.1)).trans (alloc_at_ w (.cells #[.int .i64 m.wd, .int .i64 m.rk, .slice Af m.fr.length kf, .slice Ab m.bk.length kb, .slice Ac m.cr.length kc, .slice Al m.lp.length kl, .slice Ad m.dr.length kd] 27))
  have hC := HC.out.trans (hch.mono fun j q => q.1)
  have hs1 : ∀ j, S j → j < w1.heap.size := fun j hj => Nat.lt_of_lt_of_le (HS.out j hj) hch.size
  obtain ⟨⟨-, -, -, p3, -, -, -⟩, -, hlt2⟩ := box7 hx
  clear HC HS
  clear H1 H2 H3 H4 H5 hch hch0 hn kk
  have hlt := hlt2
  clear hlt2
  have X := Lib.hid hx
  have HC := Lib.hid hC
  have HS := Lib.hid hs1
  have H1 := Lib.hid b1
  have H2 := Lib.hid b2
  have H3 := Lib.hid b3
  have H4 := Lib.hid b4
  have H5 := Lib.hid b5
  clear hx hC hs1 b1 b2 b3 b4 b5
  rw [← HX1.out]
  go_wp2_with fail
  refine (markSS_any (c := x1) H2.out (fun j q => HS.out j q.1) (by omega) (by omega) (by omega)).mono ?_
  rintro e w2 ⟨rfl, hn, hch0⟩
  have hch := hch0
  have kk : ∀ j, S j → tag j ≠ 1 → w2.heap[j]? = w1.heap[j]? := fun j hj ht => hch.block j (HS.out j hj) fun q => ht q.2
  have b1 := H1.out.keep (fun j q => kk j q.1 (by rw [q.2]; decide))
  have b2 := hn
  have b3 := H3.out.keep (fun j q => kk j q.1 (by rw [q.2]; decide))
  have b4 := H4.out.keep (fun j q => kk j q.1 (by rw [q.2]; decide))
  have b5 := (rw_ _ _).keep H5.out (fun j q => kk j q.1 (by rw [q.2]; decide))
  have hx := (hch.block w.heap.size hlt fun q => Nat.lt_irrefl _ (HS0.out _ q.1)).trans X.out
  have hC := HC.out.trans (hch.mono fun j q => q.1)
  have hs1 : ∀ j, S j → j < w2.heap.size := fun j hj => Nat.lt_of_lt_of_le (HS.out j hj) hch.size
  obtain ⟨⟨-, -, -, -, p4, -, -⟩, -, hlt2⟩ := box7 hx
  clear HC HS X
  clear H1 H2 H3 H4 H5 hch hch0 hn kk hlt
  have hlt := hlt2
  clear hlt2
  have X := Lib.hid hx
  have HC := Lib.hid hC
  have HS := Lib.hid hs1
  have H1 := Lib.hid b1
  have H2 := Lib.hid b2
  have H3 := Lib.hid b3
  have H4 := Lib.hid b4
  have H5 := Lib.hid b5
  clear hx hC hs1 b1 b2 b3 b4 b5
  rw [← HX2.out]
  go_wp2_with fail
  refine (markCars_any (c := x2) H3.out (fun j q => HS.out j q.1) (by omega) (by omega) (by omega)).mono ?_
  rintro e w3 ⟨rfl, hn, hch0⟩
  have hch := hch0
  have kk : ∀ j, S j → tag j ≠ 2 → w3.heap[j]? = w2.heap[j]? := fun j hj ht => hch.block j (HS.out j hj) fun q => ht q.2
  have b1 := H1.out.keep (fun j q => kk j q.1 (by rw [q.2]; decide))
  have b2 := H2.out.keep (fun j q => kk j q.1 (by rw [q.2]; decide))
  have b3 := hn
  have b4 := H4.out.keep (fun j q => kk j q.1 (by rw [q.2]; decide))
  have b5 := (rw_ _ _).keep H5.out (fun j q => kk j q.1 (by rw [q.2]; decide))
  have hx := (hch.block w.heap.size hlt fun q => Nat.lt_irrefl _ (HS0.out _ q.1)).trans X.out
  have hC := HC.out.trans (hch.mono fun j q => q.1)
  have hs1 : ∀ j, S j → j < w3.heap.size := fun j hj => Nat.lt_of_lt_of_le (HS.out j hj) hch.size
  obtain ⟨⟨-, -, -, -, -, p5, -⟩, -, hlt2⟩ := box7 hx
  clear HC HS X
  clear H1 H2 H3 H4 H5 hch hch0 hn kk hlt
  have hlt := hlt2
  clear hlt2
  have X := Lib.hid hx
  have HC := Lib.hid hC
  have HS := Lib.hid hs1
  have H1 := Lib.hid b1
  have H2 := Lib.hid b2
  have H3 := Lib.hid b3
  have H4 := Lib.hid b4
  have H5 := Lib.hid b5
  clear hx hC hs1 b1 b2 b3 b4 b5
  rw [← HX3.out]
  go_wp2_with fail
  refine (markInfs_any (c := x3) H4.out (fun j q => HS.out j q.1) h5 (by omega) (by omega) (by omega)).mono ?_
  rintro e w4 ⟨rfl, hn, hch0⟩
  have hch := hch0
  have kk : ∀ j, S j → tag j ≠ 3 → w4.heap[j]? = w3.heap[j]? := fun j hj ht => hch.block j (HS.out j hj) fun q => ht q.2
  have b1 := H1.out.keep (fun j q => kk j q.1 (by rw [q.2]; decide))
  have b2 := H2.out.keep (fun j q => kk j q.1 (by rw [q.2]; decide))
  have b3 := H3.out.keep (fun j q => kk j q.1 (by rw [q.2]; decide))
  have b4 := hn
  have b5 := (rw_ _ _).keep H5.out (fun j q => kk j q.1 (by rw [q.2]; decide))
  have hx := (hch.block w.heap.size hlt fun q => Nat.lt_irrefl _ (HS0.out _ q.1)).trans X.out
  have hC := HC.out.trans (hch.mono fun j q => q.1)
  have hs1 : ∀ j, S j → j < w4.heap.size := fun j hj => Nat.lt_of_lt_of_le (HS.out j hj) hch.size
  obtain ⟨⟨-, -, -, -, -, -, p6⟩, -, hlt2⟩ := box7 hx
  clear HC HS X
  clear H1 H2 H3 H4 H5 hch hch0 hn kk hlt
  have hlt := hlt2
  clear hlt2
  have X := Lib.hid hx
  have HC := Lib.hid hC
  have HS := Lib.hid hs1
  have H1 := Lib.hid b1
  have H2 := Lib.hid b2
  have H3 := Lib.hid b3
  have H4 := Lib.hid b4
  have H5 := Lib.hid b5
  clear hx hC hs1 b1 b2 b3 b4 b5
  rw [← HX4.out]
  obtain ⟨a5, b5, ho, hab, hss⟩ := ow_of_rw H5.out
  have HO := Lib.hid ho
  have HSS := Lib.hid hss
  clear ho hab hss
  go_wp2_with fail
  refine (markInts_any _ _ a5 b5 x4 _ HO.out (by omega) (by omega) (by omega)).mono ?_
  rintro e w5 ⟨rfl, hn, hch0⟩
  have hn := rw_mono (rw_of_ow hn) fun j q => HSS.out j q.1 q.2
  have hch : ChgS (fun j => S j ∧ tag j = 4) w4 w5 := (ChgS.of_chg hch0).mono fun j q => HSS.out j q.1 q.2
  have kk : ∀ j, S j → tag j ≠ 4 → w5.heap[j]? = w4.heap[j]? := fun j hj ht => hch.block j (HS.out j hj) fun q => ht q.2
  have b1 := H1.out.keep (fun j q => kk j q.1 (by rw [q.2]; decide))
  have b2 := H2.out.keep (fun j q => kk j q.1 (by rw [q.2]; decide))
  have b3 := H3.out.keep (fun j q => kk j q.1 (by rw [q.2]; decide))
  have b4 := H4.out.keep (fun j q => kk j q.1 (by rw [q.2]; decide))
  have b5 := hn
  have hx := (hch.block w.heap.size hlt fun q => Nat.lt_irrefl _ (HS0.out _ q.1)).trans X.out
  have hC := HC.out.trans (hch.mono fun j q => q.1)
  have hs1 : ∀ j, S j → j < w5.heap.size := fun j hj => Nat.lt_of_lt_of_le (HS.out j hj) hch.size
  clear HC HS X
  clear H1 H2 H3 H4 H5 hch hch0 hn kk hlt
  have X := Lib.hid hx
  have HC := Lib.hid hC
  have HS := Lib.hid hs1
  have H1 := Lib.hid b1
  have H2 := Lib.hid b2
  have H3 := Lib.hid b3
  have H4 := Lib.hid b4
  have H5 := Lib.hid b5
  clear hx hC hs1 b1 b2 b3 b4 b5
  go_wp2_with fail
  go_ret
  refine ⟨ret_int HR.out, ?_, HC.out⟩
  rw [HM.out]
  exact ⟨tag, H1.out, H2.out, owc_len H3.out (markK_len _ _), owc_len H4.out (markSS_len _ _), H5.out⟩
end Go.Proofs.Ytbefioljddhhpaa
