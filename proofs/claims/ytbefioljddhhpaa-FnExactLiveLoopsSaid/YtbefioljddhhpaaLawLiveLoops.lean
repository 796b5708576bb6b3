/-
  Proved here: for every input the law FnExactLiveLoops returns true, and every argument reads behind the call as it read before. No condition.
-/
import Derived.Test.YtbefioljddhhpaaOpen
import Derived.Test.YtbefioljddhhpaaMac3
import Derived.Test.YtbefioljddhhpaaMop
import Derived.Test.YtbefioljddhhpaaVme
import Derived.ProofKit
import Derived.OpenShut
import Derived.ShutString
import Derived.ChangeOld
import Derived.Below
import Derived.Deep.RegionHeld3
import Derived.Deep.DeepCutAuto
namespace Go.Proofs.Ytbefioljddhhpaa.fnExactLiveLoops
set_option maxRecDepth 10000
open Go.ChangeShapes Go.WideShapes Go.ChangeAt Go.RowKit
open Go.ChangeMaps (open_string shut_string)
set_option linter.unusedVariables false

set_option maxRecDepth 100000 in
set_option maxHeartbeats 4000000 in
theorem walk (vf0 vb0 vc0 vl0 vd0 : Value) (m : Mac) (w : World) (h0 : SlM w w.heap.size vf0 vb0 vc0 vl0 vd0 m) (b0 : MacR m) :
    Calls Try.prog 9 #[.agg #[.int .i64 (m).wd, .int .i64 (m).rk, vf0, vb0, vc0, vl0, vd0]] w fun e w' => e = .returned (.bool true) ∧ Below w.heap.size w w' := by
  obtain ⟨Af0, cf0, rfl, -⟩ := id h0.fr
  obtain ⟨Ab0, cb0, rfl, -⟩ := id h0.bk
  obtain ⟨Ac0, cc0, rfl, -⟩ := id h0.cr.cells
  obtain ⟨Al0, cl0, rfl, -⟩ := id h0.lp.cells
  obtain ⟨Ad0, cd0, rfl, -⟩ := id h0.dr
  have hA0 : Below w.heap.size w (w.alloc (.cells #[.int .i64 ((m).wd), .int .i64 ((m).rk), (.slice Af0 (m).fr.length cf0), (.slice Ab0 (m).bk.length cb0), (.slice Ac0 (m).cr.length cc0), (.slice Al0 (m).lp.length cl0), (.slice Ad0 (m).dr.length cd0)] 36)) := (al1 w (.cells #[.int .i64 ((m).wd), .int .i64 ((m).rk), (.slice Af0 (m).fr.length cf0), (.slice Ab0 (m).bk.length cb0), (.slice Ac0 (m).cr.length cc0), (.slice Al0 (m).lp.length cl0), (.slice Ad0 (m).dr.length cd0)] 36))
  have hB0 : w.heap.size ≤ (w.alloc (.cells #[.int .i64 ((m).wd), .int .i64 ((m).rk), (.slice Af0 (m).fr.length cf0), (.slice Ab0 (m).bk.length cb0), (.slice Ac0 (m).cr.length cc0), (.slice Al0 (m).lp.length cl0), (.slice Ad0 (m).dr.length cd0)] 36)).heap.size := hA0.size
  have g0 := h0.below hA0 (Nat.le_refl _)
  clear h0
  have hb0 := Below.refl (w.alloc (.cells #[.int .i64 ((m).wd), .int .i64 ((m).rk), (.slice Af0 (m).fr.length cf0), (.slice Ab0 (m).bk.length cb0), (.slice Ac0 (m).cr.length cc0), (.slice Al0 (m).lp.length cl0), (.slice Ad0 (m).dr.length cd0)] 36)).heap.size (w.alloc (.cells #[.int .i64 ((m).wd), .int .i64 ((m).rk), (.slice Af0 (m).fr.length cf0), (.slice Ab0 (m).bk.length cb0), (.slice Ac0 (m).cr.length cc0), (.slice Al0 (m).lp.length cl0), (.slice Ad0 (m).dr.length cd0)] 36))
  have hS0 : Hs (w.alloc (.cells #[.int .i64 ((m).wd), .int .i64 ((m).rk), (.slice Af0 (m).fr.length cf0), (.slice Ab0 (m).bk.length cb0), (.slice Ac0 (m).cr.length cc0), (.slice Al0 (m).lp.length cl0), (.slice Ad0 (m).dr.length cd0)] 36)) (w.alloc (.cells #[.int .i64 ((m).wd), .int .i64 ((m).rk), (.slice Af0 (m).fr.length cf0), (.slice Ab0 (m).bk.length cb0), (.slice Ac0 (m).cr.length cc0), (.slice Al0 (m).lp.length cl0), (.slice Ad0 (m).dr.length cd0)] 36)).heap.size [] := Hs.nil _
  by_cases z0 : (1048576 : Int) < (m.size : Int)
  · go_enter Try.func9, Try.ntmps9
    go_wp2_with fail
    refine (szMac_no (g0.below hb0 hB0) (Nat.le_trans hB0 hb0.size) (by omega) (by omega) z0).mono ?_
    rintro e w1 ⟨rfl, hq⟩
    have hb1 := hb0.trans (hq.mono hb0.size)
    have hS1 := hS0.below hq
    clear hb0 hS0 hq
    obtain ⟨hc, hf⟩ := bcell hb1
    have lz0 : w.heap.size < w1.heap.size := by have := hb1.size; simp at this; omega
    go_wp2_with fail
    clear hc hf lz0
    go_ret
    exact ⟨rfl, hA0.trans (hb1.mono hB0)⟩
  have zl0 : ((m.size : Int) : Int) ≤ 1048576 := by omega
  have hfl := llL_len m
  go_enter Try.func9, Try.ntmps9
  go_wp2_with fail
  refine (szMac_yes (g0.below hb0 hB0) (Nat.le_trans hB0 hb0.size) (by omega) (by omega) (by omega)).mono ?_
  rintro e w1 ⟨rfl, hq⟩
  have hb1 := hb0.trans (hq.mono hb0.size)
  have hS1 := hS0.below hq
  clear hb0 hS0 hq
  obtain ⟨hc, hf⟩ := bcell hb1
  have lz0 : w.heap.size < w1.heap.size := by have := hb1.size; simp at this; omega
  go_wp2_with fail
  clear hc hf lz0
  refine (toMac_any (g0.below hb1 hB0) (Nat.le_trans hB0 hb1.size) b0.five (by omega)).mono ?_
  rintro e w2 ⟨q2_0f, q2_0b, q2_0c, q2_0l, q2_0d, rfl, ho2, hq⟩
  have hb2 := hb1.trans (hq.mono hb1.size)
  have hS2 := hS1.join hq ho2
  clear hb1 hS1 hq ho2
  obtain ⟨A2_0f, c2_0f, rfl, -⟩ := id (Hs.rdM [] [] hS2).fr
  obtain ⟨A2_0b, c2_0b, rfl, -⟩ := id (Hs.rdM [] [] hS2).bk
  obtain ⟨A2_0c, c2_0c, rfl, -⟩ := id (Hs.rdM [] [] hS2).cr.cells
  obtain ⟨A2_0l, c2_0l, rfl, -⟩ := id (Hs.rdM [] [] hS2).lp.cells
  obtain ⟨A2_0d, c2_0d, rfl, -⟩ := id (Hs.rdM [] [] hS2).dr
  obtain ⟨hc, hf⟩ := bcell hb2
  have lz0 : w.heap.size < w2.heap.size := by have := hb2.size; simp at this; omega
  go_wp2_with fail
  clear hc hf lz0
  refine (spec_LiveLoops_any (Hs.rdM [] [] hS2) (Nat.le_refl _) (small_of (by omega))).mono ?_
  rintro e w3 ⟨q3_0, rfl, ho3, hq⟩
  have hb3 := hb2.trans (hq.mono hb2.size)
  have hS3 := hS2.join hq (hs_ow ho3 hq)
  clear hb2 hS2 hq ho3
  obtain ⟨A3_0, c3_0, rfl, -⟩ := id (Hs.rd [mac_ ((.slice A2_0f (m).fr.length c2_0f)) ((.slice A2_0b (m).bk.length c2_0b)) ((.slice A2_0c (m).cr.length c2_0c)) ((.slice A2_0l (m).lp.length c2_0l)) ((.slice A2_0d (m).dr.length c2_0d)) (m)] [] hS3)
  obtain ⟨hc, hf⟩ := bcell hb3
  have lz0 : w.heap.size < w3.heap.size := by have := hb3.size; simp at this; omega
  go_wp2_with fail
  clear hc hf lz0
  refine (toMac_any (g0.below hb3 hB0) (Nat.le_trans hB0 hb3.size) b0.five (by omega)).mono ?_
  rintro e w4 ⟨q4_0f, q4_0b, q4_0c, q4_0l, q4_0d, rfl, ho4, hq⟩
  have hb4 := hb3.trans (hq.mono hb3.size)
  have hS4 := hS3.join hq ho4
  clear hb3 hS3 hq ho4
  obtain ⟨A4_0f, c4_0f, rfl, -⟩ := id (Hs.rdM [mac_ ((.slice A2_0f (m).fr.length c2_0f)) ((.slice A2_0b (m).bk.length c2_0b)) ((.slice A2_0c (m).cr.length c2_0c)) ((.slice A2_0l (m).lp.length c2_0l)) ((.slice A2_0d (m).dr.length c2_0d)) (m), rw_ (.slice A3_0 (llL m).length c3_0) (llL m)] [] hS4).fr
  obtain ⟨A4_0b, c4_0b, rfl, -⟩ := id (Hs.rdM [mac_ ((.slice A2_0f (m).fr.length c2_0f)) ((.slice A2_0b (m).bk.length c2_0b)) ((.slice A2_0c (m).cr.length c2_0c)) ((.slice A2_0l (m).lp.length c2_0l)) ((.slice A2_0d (m).dr.length c2_0d)) (m), rw_ (.slice A3_0 (llL m).length c3_0) (llL m)] [] hS4).bk
  obtain ⟨A4_0c, c4_0c, rfl, -⟩ := id (Hs.rdM [mac_ ((.slice A2_0f (m).fr.length c2_0f)) ((.slice A2_0b (m).bk.length c2_0b)) ((.slice A2_0c (m).cr.length c2_0c)) ((.slice A2_0l (m).lp.length c2_0l)) ((.slice A2_0d (m).dr.length c2_0d)) (m), rw_ (.slice A3_0 (llL m).length c3_0) (llL m)] [] hS4).cr.cells
  obtain ⟨A4_0l, c4_0l, rfl, -⟩ := id (Hs.rdM [mac_ ((.slice A2_0f (m).fr.length c2_0f)) ((.slice A2_0b (m).bk.length c2_0b)) ((.slice A2_0c (m).cr.length c2_0c)) ((.slice A2_0l (m).lp.length c2_0l)) ((.slice A2_0d (m).dr.length c2_0d)) (m), rw_ (.slice A3_0 (llL m).length c3_0) (llL m)] [] hS4).lp.cells
  obtain ⟨A4_0d, c4_0d, rfl, -⟩ := id (Hs.rdM [mac_ ((.slice A2_0f (m).fr.length c2_0f)) ((.slice A2_0b (m).bk.length c2_0b)) ((.slice A2_0c (m).cr.length c2_0c)) ((.slice A2_0l (m).lp.length c2_0l)) ((.slice A2_0d (m).dr.length c2_0d)) (m), rw_ (.slice A3_0 (llL m).length c3_0) (llL m)] [] hS4).dr
  obtain ⟨hc, hf⟩ := bcell hb4
  have lz0 : w.heap.size < w4.heap.size := by have := hb4.size; simp at this; omega
  go_wp2_with fail
  clear hc hf lz0
  have hS4b1 := hS4.join (al1 _ _) (hs_bx w4 #[.int .i64 ((m).wd), .int .i64 ((m).rk), (.slice A4_0f (m).fr.length c4_0f), (.slice A4_0b (m).bk.length c4_0b), (.slice A4_0c (m).cr.length c4_0c), (.slice A4_0l (m).lp.length c4_0l), (.slice A4_0d (m).dr.length c4_0d)] 27)
  have hb4b1 := hb4.trans ((al1 w4 (.cells #[.int .i64 ((m).wd), .int .i64 ((m).rk), (.slice A4_0f (m).fr.length c4_0f), (.slice A4_0b (m).bk.length c4_0b), (.slice A4_0c (m).cr.length c4_0c), (.slice A4_0l (m).lp.length c4_0l), (.slice A4_0d (m).dr.length c4_0d)] 27)).mono hb4.size)
  clear hb4 hS4
  generalize hg4b1 : w4.heap.size = g4b1 at *
  generalize hw4b1 : w4.alloc (.cells #[.int .i64 ((m).wd), .int .i64 ((m).rk), (.slice A4_0f (m).fr.length c4_0f), (.slice A4_0b (m).bk.length c4_0b), (.slice A4_0c (m).cr.length c4_0c), (.slice A4_0l (m).lp.length c4_0l), (.slice A4_0d (m).dr.length c4_0d)] 27) = w5 at *
  clear hg4b1 hw4b1
  have hS5 := hS4b1
  have hb5 := hb4b1
  clear hS4b1 hb4b1
  refine (impl_LiveLoops_any (Hs.rdM [mac_ ((.slice A2_0f (m).fr.length c2_0f)) ((.slice A2_0b (m).bk.length c2_0b)) ((.slice A2_0c (m).cr.length c2_0c)) ((.slice A2_0l (m).lp.length c2_0l)) ((.slice A2_0d (m).dr.length c2_0d)) (m), rw_ (.slice A3_0 (llL m).length c3_0) (llL m)] [bx_ g4b1 #[.int .i64 ((m).wd), .int .i64 ((m).rk), (.slice A4_0f (m).fr.length c4_0f), (.slice A4_0b (m).bk.length c4_0b), (.slice A4_0c (m).cr.length c4_0c), (.slice A4_0l (m).lp.length c4_0l), (.slice A4_0d (m).dr.length c4_0d)] 27] hS5) (Nat.le_refl _)).mono ?_
  rintro e w6 ⟨q6_0, rfl, ho6, hq⟩
  have hb6 := hb5.trans (hq.mono hb5.size)
  have hS6 := hS5.join hq (hs_ow ho6 hq)
  clear hb5 hS5 hq ho6
  obtain ⟨A6_0, c6_0, rfl, -⟩ := id (Hs.rd [mac_ ((.slice A2_0f (m).fr.length c2_0f)) ((.slice A2_0b (m).bk.length c2_0b)) ((.slice A2_0c (m).cr.length c2_0c)) ((.slice A2_0l (m).lp.length c2_0l)) ((.slice A2_0d (m).dr.length c2_0d)) (m), rw_ (.slice A3_0 (llL m).length c3_0) (llL m), mac_ ((.slice A4_0f (m).fr.length c4_0f)) ((.slice A4_0b (m).bk.length c4_0b)) ((.slice A4_0c (m).cr.length c4_0c)) ((.slice A4_0l (m).lp.length c4_0l)) ((.slice A4_0d (m).dr.length c4_0d)) (m), bx_ g4b1 #[.int .i64 ((m).wd), .int .i64 ((m).rk), (.slice A4_0f (m).fr.length c4_0f), (.slice A4_0b (m).bk.length c4_0b), (.slice A4_0c (m).cr.length c4_0c), (.slice A4_0l (m).lp.length c4_0l), (.slice A4_0d (m).dr.length c4_0d)] 27] [] hS6)
  obtain ⟨hc, hf⟩ := bcell hb6
  have lz0 : w.heap.size < w6.heap.size := by have := hb6.size; simp at this; omega
  obtain ⟨kx4b1, -, lx4b1, -⟩ := Hs.bx [mac_ ((.slice A2_0f (m).fr.length c2_0f)) ((.slice A2_0b (m).bk.length c2_0b)) ((.slice A2_0c (m).cr.length c2_0c)) ((.slice A2_0l (m).lp.length c2_0l)) ((.slice A2_0d (m).dr.length c2_0d)) (m), rw_ (.slice A3_0 (llL m).length c3_0) (llL m), mac_ ((.slice A4_0f (m).fr.length c4_0f)) ((.slice A4_0b (m).bk.length c4_0b)) ((.slice A4_0c (m).cr.length c4_0c)) ((.slice A4_0l (m).lp.length c4_0l)) ((.slice A4_0d (m).dr.length c4_0d)) (m)] [rw_ (.slice A6_0 (llL m).length c6_0) (llL m)] hS6
  have kx4b1_0 : w6.cell? ⟨g4b1, 0, none⟩ = some (.int .i64 ((m).wd)) := kx4b1 0
  have kx4b1_1 : w6.cell? ⟨g4b1, 1, none⟩ = some (.int .i64 ((m).rk)) := kx4b1 1
  have kx4b1_2 : w6.cell? ⟨g4b1, 2, none⟩ = some ((.slice A4_0f (m).fr.length c4_0f)) := kx4b1 2
  have kx4b1_3 : w6.cell? ⟨g4b1, 3, none⟩ = some ((.slice A4_0b (m).bk.length c4_0b)) := kx4b1 3
  have kx4b1_4 : w6.cell? ⟨g4b1, 4, none⟩ = some ((.slice A4_0c (m).cr.length c4_0c)) := kx4b1 4
  have kx4b1_5 : w6.cell? ⟨g4b1, 5, none⟩ = some ((.slice A4_0l (m).lp.length c4_0l)) := kx4b1 5
  have kx4b1_6 : w6.cell? ⟨g4b1, 6, none⟩ = some ((.slice A4_0d (m).dr.length c4_0d)) := kx4b1 6
  clear kx4b1
  go_wp2_with fail
  clear hc hf lz0 kx4b1_0 kx4b1_1 kx4b1_2 kx4b1_3 kx4b1_4 kx4b1_5 kx4b1_6 lx4b1
  refine (eqInts_yes (Hs.rd [mac_ ((.slice A2_0f (m).fr.length c2_0f)) ((.slice A2_0b (m).bk.length c2_0b)) ((.slice A2_0c (m).cr.length c2_0c)) ((.slice A2_0l (m).lp.length c2_0l)) ((.slice A2_0d (m).dr.length c2_0d)) (m), rw_ (.slice A3_0 (llL m).length c3_0) (llL m), mac_ ((.slice A4_0f (m).fr.length c4_0f)) ((.slice A4_0b (m).bk.length c4_0b)) ((.slice A4_0c (m).cr.length c4_0c)) ((.slice A4_0l (m).lp.length c4_0l)) ((.slice A4_0d (m).dr.length c4_0d)) (m), bx_ g4b1 #[.int .i64 ((m).wd), .int .i64 ((m).rk), (.slice A4_0f (m).fr.length c4_0f), (.slice A4_0b (m).bk.length c4_0b), (.slice A4_0c (m).cr.length c4_0c), (.slice A4_0l (m).lp.length c4_0l), (.slice A4_0d (m).dr.length c4_0d)] 27] [] hS6) (Hs.rd [mac_ ((.slice A2_0f (m).fr.length c2_0f)) ((.slice A2_0b (m).bk.length c2_0b)) ((.slice A2_0c (m).cr.length c2_0c)) ((.slice A2_0l (m).lp.length c2_0l)) ((.slice A2_0d (m).dr.length c2_0d)) (m)] [mac_ ((.slice A4_0f (m).fr.length c4_0f)) ((.slice A4_0b (m).bk.length c4_0b)) ((.slice A4_0c (m).cr.length c4_0c)) ((.slice A4_0l (m).lp.length c4_0l)) ((.slice A4_0d (m).dr.length c4_0d)) (m), bx_ g4b1 #[.int .i64 ((m).wd), .int .i64 ((m).rk), (.slice A4_0f (m).fr.length c4_0f), (.slice A4_0b (m).bk.length c4_0b), (.slice A4_0c (m).cr.length c4_0c), (.slice A4_0l (m).lp.length c4_0l), (.slice A4_0d (m).dr.length c4_0d)] 27, rw_ (.slice A6_0 (llL m).length c6_0) (llL m)] hS6) rfl).mono ?_
  rintro e w7 ⟨rfl, hq⟩
  have hb7 := hb6.trans (hq.mono hb6.size)
  have hS7 := hS6.below hq
  clear hb6 hS6 hq
  obtain ⟨hc, hf⟩ := bcell hb7
  have lz0 : w.heap.size < w7.heap.size := by have := hb7.size; simp at this; omega
  obtain ⟨kx4b1, -, lx4b1, -⟩ := Hs.bx [mac_ ((.slice A2_0f (m).fr.length c2_0f)) ((.slice A2_0b (m).bk.length c2_0b)) ((.slice A2_0c (m).cr.length c2_0c)) ((.slice A2_0l (m).lp.length c2_0l)) ((.slice A2_0d (m).dr.length c2_0d)) (m), rw_ (.slice A3_0 (llL m).length c3_0) (llL m), mac_ ((.slice A4_0f (m).fr.length c4_0f)) ((.slice A4_0b (m).bk.length c4_0b)) ((.slice A4_0c (m).cr.length c4_0c)) ((.slice A4_0l (m).lp.length c4_0l)) ((.slice A4_0d (m).dr.length c4_0d)) (m)] [rw_ (.slice A6_0 (llL m).length c6_0) (llL m)] hS7
  have kx4b1_0 : w7.cell? ⟨g4b1, 0, none⟩ = some (.int .i64 ((m).wd)) := kx4b1 0
  have kx4b1_1 : w7.cell? ⟨g4b1, 1, none⟩ = some (.int .i64 ((m).rk)) := kx4b1 1
  have kx4b1_2 : w7.cell? ⟨g4b1, 2, none⟩ = some ((.slice A4_0f (m).fr.length c4_0f)) := kx4b1 2
  have kx4b1_3 : w7.cell? ⟨g4b1, 3, none⟩ = some ((.slice A4_0b (m).bk.length c4_0b)) := kx4b1 3
  have kx4b1_4 : w7.cell? ⟨g4b1, 4, none⟩ = some ((.slice A4_0c (m).cr.length c4_0c)) := kx4b1 4
  have kx4b1_5 : w7.cell? ⟨g4b1, 5, none⟩ = some ((.slice A4_0l (m).lp.length c4_0l)) := kx4b1 5
  have kx4b1_6 : w7.cell? ⟨g4b1, 6, none⟩ = some ((.slice A4_0d (m).dr.length c4_0d)) := kx4b1 6
  clear kx4b1
  go_wp2_with fail
  clear hc hf lz0 kx4b1_0 kx4b1_1 kx4b1_2 kx4b1_3 kx4b1_4 kx4b1_5 kx4b1_6 lx4b1
  have j0 : w7.cell? ⟨g4b1, 0, none⟩ = some (.int .i64 ((m).wd)) := (Hs.bx [mac_ ((.slice A2_0f (m).fr.length c2_0f)) ((.slice A2_0b (m).bk.length c2_0b)) ((.slice A2_0c (m).cr.length c2_0c)) ((.slice A2_0l (m).lp.length c2_0l)) ((.slice A2_0d (m).dr.length c2_0d)) (m), rw_ (.slice A3_0 (llL m).length c3_0) (llL m), mac_ ((.slice A4_0f (m).fr.length c4_0f)) ((.slice A4_0b (m).bk.length c4_0b)) ((.slice A4_0c (m).cr.length c4_0c)) ((.slice A4_0l (m).lp.length c4_0l)) ((.slice A4_0d (m).dr.length c4_0d)) (m)] [rw_ (.slice A6_0 (llL m).length c6_0) (llL m)] hS7).1 0
  have jl0 : g4b1 < w7.heap.size := block_lt_of_cell j0
  have j1 : w7.cell? ⟨g4b1, 1, none⟩ = some (.int .i64 ((m).rk)) := (Hs.bx [mac_ ((.slice A2_0f (m).fr.length c2_0f)) ((.slice A2_0b (m).bk.length c2_0b)) ((.slice A2_0c (m).cr.length c2_0c)) ((.slice A2_0l (m).lp.length c2_0l)) ((.slice A2_0d (m).dr.length c2_0d)) (m), rw_ (.slice A3_0 (llL m).length c3_0) (llL m), mac_ ((.slice A4_0f (m).fr.length c4_0f)) ((.slice A4_0b (m).bk.length c4_0b)) ((.slice A4_0c (m).cr.length c4_0c)) ((.slice A4_0l (m).lp.length c4_0l)) ((.slice A4_0d (m).dr.length c4_0d)) (m)] [rw_ (.slice A6_0 (llL m).length c6_0) (llL m)] hS7).1 1
  have jl1 : g4b1 < w7.heap.size := block_lt_of_cell j1
  have j2 : w7.cell? ⟨g4b1, 2, none⟩ = some ((.slice A4_0f (m).fr.length c4_0f)) := (Hs.bx [mac_ ((.slice A2_0f (m).fr.length c2_0f)) ((.slice A2_0b (m).bk.length c2_0b)) ((.slice A2_0c (m).cr.length c2_0c)) ((.slice A2_0l (m).lp.length c2_0l)) ((.slice A2_0d (m).dr.length c2_0d)) (m), rw_ (.slice A3_0 (llL m).length c3_0) (llL m), mac_ ((.slice A4_0f (m).fr.length c4_0f)) ((.slice A4_0b (m).bk.length c4_0b)) ((.slice A4_0c (m).cr.length c4_0c)) ((.slice A4_0l (m).lp.length c4_0l)) ((.slice A4_0d (m).dr.length c4_0d)) (m)] [rw_ (.slice A6_0 (llL m).length c6_0) (llL m)] hS7).1 2
  have jl2 : g4b1 < w7.heap.size := block_lt_of_cell j2
  have j3 : w7.cell? ⟨g4b1, 3, none⟩ = some ((.slice A4_0b (m).bk.length c4_0b)) := (Hs.bx [mac_ ((.slice A2_0f (m).fr.length c2_0f)) ((.slice A2_0b (m).bk.length c2_0b)) ((.slice A2_0c (m).cr.length c2_0c)) ((.slice A2_0l (m).lp.length c2_0l)) ((.slice A2_0d (m).dr.length c2_0d)) (m), rw_ (.slice A3_0 (llL m).length c3_0) (llL m), mac_ ((.slice A4_0f (m).fr.length c4_0f)) ((.slice A4_0b (m).bk.length c4_0b)) ((.slice A4_0c (m).cr.length c4_0c)) ((.slice A4_0l (m).lp.length c4_0l)) ((.slice A4_0d (m).dr.length c4_0d)) (m)] [rw_ (.slice A6_0 (llL m).length c6_0) (llL m)] hS7).1 3
  have jl3 : g4b1 < w7.heap.size := block_lt_of_cell j3
  have j4 : w7.cell? ⟨g4b1, 4, none⟩ = some ((.slice A4_0c (m).cr.length c4_0c)) := (Hs.bx [mac_ ((.slice A2_0f (m).fr.length c2_0f)) ((.slice A2_0b (m).bk.length c2_0b)) ((.slice A2_0c (m).cr.length c2_0c)) ((.slice A2_0l (m).lp.length c2_0l)) ((.slice A2_0d (m).dr.length c2_0d)) (m), rw_ (.slice A3_0 (llL m).length c3_0) (llL m), mac_ ((.slice A4_0f (m).fr.length c4_0f)) ((.slice A4_0b (m).bk.length c4_0b)) ((.slice A4_0c (m).cr.length c4_0c)) ((.slice A4_0l (m).lp.length c4_0l)) ((.slice A4_0d (m).dr.length c4_0d)) (m)] [rw_ (.slice A6_0 (llL m).length c6_0) (llL m)] hS7).1 4
  have jl4 : g4b1 < w7.heap.size := block_lt_of_cell j4
  have j5 : w7.cell? ⟨g4b1, 5, none⟩ = some ((.slice A4_0l (m).lp.length c4_0l)) := (Hs.bx [mac_ ((.slice A2_0f (m).fr.length c2_0f)) ((.slice A2_0b (m).bk.length c2_0b)) ((.slice A2_0c (m).cr.length c2_0c)) ((.slice A2_0l (m).lp.length c2_0l)) ((.slice A2_0d (m).dr.length c2_0d)) (m), rw_ (.slice A3_0 (llL m).length c3_0) (llL m), mac_ ((.slice A4_0f (m).fr.length c4_0f)) ((.slice A4_0b (m).bk.length c4_0b)) ((.slice A4_0c (m).cr.length c4_0c)) ((.slice A4_0l (m).lp.length c4_0l)) ((.slice A4_0d (m).dr.length c4_0d)) (m)] [rw_ (.slice A6_0 (llL m).length c6_0) (llL m)] hS7).1 5
  have jl5 : g4b1 < w7.heap.size := block_lt_of_cell j5
  have j6 : w7.cell? ⟨g4b1, 6, none⟩ = some ((.slice A4_0d (m).dr.length c4_0d)) := (Hs.bx [mac_ ((.slice A2_0f (m).fr.length c2_0f)) ((.slice A2_0b (m).bk.length c2_0b)) ((.slice A2_0c (m).cr.length c2_0c)) ((.slice A2_0l (m).lp.length c2_0l)) ((.slice A2_0d (m).dr.length c2_0d)) (m), rw_ (.slice A3_0 (llL m).length c3_0) (llL m), mac_ ((.slice A4_0f (m).fr.length c4_0f)) ((.slice A4_0b (m).bk.length c4_0b)) ((.slice A4_0c (m).cr.length c4_0c)) ((.slice A4_0l (m).lp.length c4_0l)) ((.slice A4_0d (m).dr.length c4_0d)) (m)] [rw_ (.slice A6_0 (llL m).length c6_0) (llL m)] hS7).1 6
  have jl6 : g4b1 < w7.heap.size := block_lt_of_cell j6
  have j7 : w7.cell? ⟨w.heap.size, 0, none⟩ = some (.int .i64 ((m).wd)) := by rw [(bcell hb7).1 _ _ (by simp; try omega)]; first | (simp; done) | simp [World.cell?_alloc_lt]
  have jl7 : w.heap.size < w7.heap.size := block_lt_of_cell j7
  have j8 : w7.cell? ⟨w.heap.size, 1, none⟩ = some (.int .i64 ((m).rk)) := by rw [(bcell hb7).1 _ _ (by simp; try omega)]; first | (simp; done) | simp [World.cell?_alloc_lt]
  have jl8 : w.heap.size < w7.heap.size := block_lt_of_cell j8
  have j9 : w7.cell? ⟨w.heap.size, 2, none⟩ = some ((.slice Af0 (m).fr.length cf0)) := by rw [(bcell hb7).1 _ _ (by simp; try omega)]; first | (simp; done) | simp [World.cell?_alloc_lt]
  have jl9 : w.heap.size < w7.heap.size := block_lt_of_cell j9
  have j10 : w7.cell? ⟨w.heap.size, 3, none⟩ = some ((.slice Ab0 (m).bk.length cb0)) := by rw [(bcell hb7).1 _ _ (by simp; try omega)]; first | (simp; done) | simp [World.cell?_alloc_lt]
  have jl10 : w.heap.size < w7.heap.size := block_lt_of_cell j10
  have j11 : w7.cell? ⟨w.heap.size, 4, none⟩ = some ((.slice Ac0 (m).cr.length cc0)) := by rw [(bcell hb7).1 _ _ (by simp; try omega)]; first | (simp; done) | simp [World.cell?_alloc_lt]
  have jl11 : w.heap.size < w7.heap.size := block_lt_of_cell j11
  have j12 : w7.cell? ⟨w.heap.size, 5, none⟩ = some ((.slice Al0 (m).lp.length cl0)) := by rw [(bcell hb7).1 _ _ (by simp; try omega)]; first | (simp; done) | simp [World.cell?_alloc_lt]
  have jl12 : w.heap.size < w7.heap.size := block_lt_of_cell j12
  have j13 : w7.cell? ⟨w.heap.size, 6, none⟩ = some ((.slice Ad0 (m).dr.length cd0)) := by rw [(bcell hb7).1 _ _ (by simp; try omega)]; first | (simp; done) | simp [World.cell?_alloc_lt]
  have jl13 : w.heap.size < w7.heap.size := block_lt_of_cell j13
  have hBx := Nat.le_trans hB0 hb7.size
  have gx0 := g0.below hb7 hB0
  have sx2_0 : SlM w7 w7.heap.size ((.slice A2_0f (m).fr.length c2_0f)) ((.slice A2_0b (m).bk.length c2_0b)) ((.slice A2_0c (m).cr.length c2_0c)) ((.slice A2_0l (m).lp.length c2_0l)) ((.slice A2_0d (m).dr.length c2_0d)) (m) := Hs.rdM [] [rw_ (.slice A3_0 (llL m).length c3_0) (llL m), mac_ ((.slice A4_0f (m).fr.length c4_0f)) ((.slice A4_0b (m).bk.length c4_0b)) ((.slice A4_0c (m).cr.length c4_0c)) ((.slice A4_0l (m).lp.length c4_0l)) ((.slice A4_0d (m).dr.length c4_0d)) (m), bx_ g4b1 #[.int .i64 ((m).wd), .int .i64 ((m).rk), (.slice A4_0f (m).fr.length c4_0f), (.slice A4_0b (m).bk.length c4_0b), (.slice A4_0c (m).cr.length c4_0c), (.slice A4_0l (m).lp.length c4_0l), (.slice A4_0d (m).dr.length c4_0d)] 27, rw_ (.slice A6_0 (llL m).length c6_0) (llL m)] hS7
  have sx3_0 : Sl w7 w7.heap.size (.slice A3_0 (llL m).length c3_0) (llL m) := Hs.rd [mac_ ((.slice A2_0f (m).fr.length c2_0f)) ((.slice A2_0b (m).bk.length c2_0b)) ((.slice A2_0c (m).cr.length c2_0c)) ((.slice A2_0l (m).lp.length c2_0l)) ((.slice A2_0d (m).dr.length c2_0d)) (m)] [mac_ ((.slice A4_0f (m).fr.length c4_0f)) ((.slice A4_0b (m).bk.length c4_0b)) ((.slice A4_0c (m).cr.length c4_0c)) ((.slice A4_0l (m).lp.length c4_0l)) ((.slice A4_0d (m).dr.length c4_0d)) (m), bx_ g4b1 #[.int .i64 ((m).wd), .int .i64 ((m).rk), (.slice A4_0f (m).fr.length c4_0f), (.slice A4_0b (m).bk.length c4_0b), (.slice A4_0c (m).cr.length c4_0c), (.slice A4_0l (m).lp.length c4_0l), (.slice A4_0d (m).dr.length c4_0d)] 27, rw_ (.slice A6_0 (llL m).length c6_0) (llL m)] hS7
  have sx4_0 : SlM w7 w7.heap.size ((.slice A4_0f (m).fr.length c4_0f)) ((.slice A4_0b (m).bk.length c4_0b)) ((.slice A4_0c (m).cr.length c4_0c)) ((.slice A4_0l (m).lp.length c4_0l)) ((.slice A4_0d (m).dr.length c4_0d)) (m) := Hs.rdM [mac_ ((.slice A2_0f (m).fr.length c2_0f)) ((.slice A2_0b (m).bk.length c2_0b)) ((.slice A2_0c (m).cr.length c2_0c)) ((.slice A2_0l (m).lp.length c2_0l)) ((.slice A2_0d (m).dr.length c2_0d)) (m), rw_ (.slice A3_0 (llL m).length c3_0) (llL m)] [bx_ g4b1 #[.int .i64 ((m).wd), .int .i64 ((m).rk), (.slice A4_0f (m).fr.length c4_0f), (.slice A4_0b (m).bk.length c4_0b), (.slice A4_0c (m).cr.length c4_0c), (.slice A4_0l (m).lp.length c4_0l), (.slice A4_0d (m).dr.length c4_0d)] 27, rw_ (.slice A6_0 (llL m).length c6_0) (llL m)] hS7
  have sx6_0 : Sl w7 w7.heap.size (.slice A6_0 (llL m).length c6_0) (llL m) := Hs.rd [mac_ ((.slice A2_0f (m).fr.length c2_0f)) ((.slice A2_0b (m).bk.length c2_0b)) ((.slice A2_0c (m).cr.length c2_0c)) ((.slice A2_0l (m).lp.length c2_0l)) ((.slice A2_0d (m).dr.length c2_0d)) (m), rw_ (.slice A3_0 (llL m).length c3_0) (llL m), mac_ ((.slice A4_0f (m).fr.length c4_0f)) ((.slice A4_0b (m).bk.length c4_0b)) ((.slice A4_0c (m).cr.length c4_0c)) ((.slice A4_0l (m).lp.length c4_0l)) ((.slice A4_0d (m).dr.length c4_0d)) (m), bx_ g4b1 #[.int .i64 ((m).wd), .int .i64 ((m).rk), (.slice A4_0f (m).fr.length c4_0f), (.slice A4_0b (m).bk.length c4_0b), (.slice A4_0c (m).cr.length c4_0c), (.slice A4_0l (m).lp.length c4_0l), (.slice A4_0d (m).dr.length c4_0d)] 27] [] hS7
  have HK := Lib.hid (fun w' (hw : Below w7.heap.size w7 w') => show w'.cell? ⟨g4b1, 0, none⟩ = some (.int .i64 ((m).wd)) ∧ w'.cell? ⟨g4b1, 1, none⟩ = some (.int .i64 ((m).rk)) ∧ w'.cell? ⟨g4b1, 2, none⟩ = some ((.slice A4_0f (m).fr.length c4_0f)) ∧ w'.cell? ⟨g4b1, 3, none⟩ = some ((.slice A4_0b (m).bk.length c4_0b)) ∧ w'.cell? ⟨g4b1, 4, none⟩ = some ((.slice A4_0c (m).cr.length c4_0c)) ∧ w'.cell? ⟨g4b1, 5, none⟩ = some ((.slice A4_0l (m).lp.length c4_0l)) ∧ w'.cell? ⟨g4b1, 6, none⟩ = some ((.slice A4_0d (m).dr.length c4_0d)) ∧ w'.cell? ⟨w.heap.size, 0, none⟩ = some (.int .i64 ((m).wd)) ∧ w'.cell? ⟨w.heap.size, 1, none⟩ = some (.int .i64 ((m).rk)) ∧ w'.cell? ⟨w.heap.size, 2, none⟩ = some ((.slice Af0 (m).fr.length cf0)) ∧ w'.cell? ⟨w.heap.size, 3, none⟩ = some ((.slice Ab0 (m).bk.length cb0)) ∧ w'.cell? ⟨w.heap.size, 4, none⟩ = some ((.slice Ac0 (m).cr.length cc0)) ∧ w'.cell? ⟨w.heap.size, 5, none⟩ = some ((.slice Al0 (m).lp.length cl0)) ∧ w'.cell? ⟨w.heap.size, 6, none⟩ = some ((.slice Ad0 (m).dr.length cd0)) ∧ Below w7.heap.size w7 w' from ⟨by rw [hw.cell (by simp only; omega)]; exact j0, by rw [hw.cell (by simp only; omega)]; exact j1, by rw [hw.cell (by simp only; omega)]; exact j2, by rw [hw.cell (by simp only; omega)]; exact j3, by rw [hw.cell (by simp only; omega)]; exact j4, by rw [hw.cell (by simp only; omega)]; exact j5, by rw [hw.cell (by simp only; omega)]; exact j6, by rw [hw.cell (by simp only; omega)]; exact j7, by rw [hw.cell (by simp only; omega)]; exact j8, by rw [hw.cell (by simp only; omega)]; exact j9, by rw [hw.cell (by simp only; omega)]; exact j10, by rw [hw.cell (by simp only; omega)]; exact j11, by rw [hw.cell (by simp only; omega)]; exact j12, by rw [hw.cell (by simp only; omega)]; exact j13, hw⟩)
  clear j0 jl0 j1 jl1 j2 jl2 j3 jl3 j4 jl4 j5 jl5 j6 jl6 j7 jl7 j8 jl8 j9 jl9 j10 jl10 j11 jl11 j12 jl12 j13 jl13
  go_region_held3 (fun w' => w'.cell? ⟨g4b1, 0, none⟩ = some (.int .i64 ((m).wd)) ∧ w'.cell? ⟨g4b1, 1, none⟩ = some (.int .i64 ((m).rk)) ∧ w'.cell? ⟨g4b1, 2, none⟩ = some ((.slice A4_0f (m).fr.length c4_0f)) ∧ w'.cell? ⟨g4b1, 3, none⟩ = some ((.slice A4_0b (m).bk.length c4_0b)) ∧ w'.cell? ⟨g4b1, 4, none⟩ = some ((.slice A4_0c (m).cr.length c4_0c)) ∧ w'.cell? ⟨g4b1, 5, none⟩ = some ((.slice A4_0l (m).lp.length c4_0l)) ∧ w'.cell? ⟨g4b1, 6, none⟩ = some ((.slice A4_0d (m).dr.length c4_0d)) ∧ w'.cell? ⟨w.heap.size, 0, none⟩ = some (.int .i64 ((m).wd)) ∧ w'.cell? ⟨w.heap.size, 1, none⟩ = some (.int .i64 ((m).rk)) ∧ w'.cell? ⟨w.heap.size, 2, none⟩ = some ((.slice Af0 (m).fr.length cf0)) ∧ w'.cell? ⟨w.heap.size, 3, none⟩ = some ((.slice Ab0 (m).bk.length cb0)) ∧ w'.cell? ⟨w.heap.size, 4, none⟩ = some ((.slice Ac0 (m).cr.length cc0)) ∧ w'.cell? ⟨w.heap.size, 5, none⟩ = some ((.slice Al0 (m).lp.length cl0)) ∧ w'.cell? ⟨w.heap.size, 6, none⟩ = some ((.slice Ad0 (m).dr.length cd0)) ∧ Below w7.heap.size w7 w')
    (first | exact HK.out _ (by first | assumption | exact Below.refl _ _ | exact drewN_below _ _ _ | exact (Below.refl _ _).drew))
    (first
      | (go_at_call_of 19 (Go.Value.agg #[.int .i64 ((m).wd), .int .i64 ((m).rk), (.slice Af0 (m).fr.length cf0), (.slice Ab0 (m).bk.length cb0), (.slice Ac0 (m).cr.length cc0), (.slice Al0 (m).lp.length cl0), (.slice Ad0 (m).dr.length cd0)]); (refine (toMac_any (gx0.below (by first | assumption | exact Below.refl _ _ | exact drewN_below _ _ _ | exact (Below.refl _ _).drew) hBx) (Nat.le_trans hBx (Below.size (w := w7) (B := w7.heap.size) (by first | assumption | exact Below.refl _ _ | exact drewN_below _ _ _ | exact (Below.refl _ _).drew))) b0.five (by omega)).mono ?_); rintro e w8 ⟨q8_0f, q8_0b, q8_0c, q8_0l, q8_0d, rfl, ho8, hq⟩; have hr8 : Below w7.heap.size w7 w8 := Below.trans (by first | assumption | exact Below.refl _ _ | exact drewN_below _ _ _ | exact (Below.refl _ _).drew) (hq.mono (Below.size (w := w7) (B := w7.heap.size) (by first | assumption | exact Below.refl _ _ | exact drewN_below _ _ _ | exact (Below.refl _ _).drew))); have so8_0 := Hs.rdM [] [] ho8; obtain ⟨A8_0f, c8_0f, rfl, -⟩ := id so8_0.fr; obtain ⟨A8_0b, c8_0b, rfl, -⟩ := id so8_0.bk; obtain ⟨A8_0c, c8_0c, rfl, -⟩ := id so8_0.cr.cells; obtain ⟨A8_0l, c8_0l, rfl, -⟩ := id so8_0.lp.cells; obtain ⟨A8_0d, c8_0d, rfl, -⟩ := id so8_0.dr; have hS8 := hS7.join hr8 ho8)
      | (go_at_call 14; (refine (eqMac_yes (sx4_0.below (by first | assumption | exact Below.refl _ _ | exact drewN_below _ _ _ | exact (Below.refl _ _).drew) (Nat.le_refl _)) so8_0 (Below.size (w := w7) (B := w7.heap.size) (by first | assumption | exact Below.refl _ _ | exact drewN_below _ _ _ | exact (Below.refl _ _).drew)) (Nat.le_refl _)).mono ?_); rintro e w9 ⟨rfl, hq⟩; have hr9 : Below w7.heap.size w7 w9 := Below.trans (by first | assumption | exact Below.refl _ _ | exact drewN_below _ _ _ | exact (Below.refl _ _).drew) (hq.mono (Below.size (w := w7) (B := w7.heap.size) (by first | assumption | exact Below.refl _ _ | exact drewN_below _ _ _ | exact (Below.refl _ _).drew))); have so8_0 := (so8_0.below hq (Nat.le_refl _)).mono hq.size; have hS9 := hS8.below hq))
  have hb9 := hb7.trans (hr9.mono hb7.size)
  clear HK hBx gx0 sx2_0 sx3_0 sx4_0 sx6_0
  obtain ⟨hc, hf⟩ := bcell hb9
  have lz0 : w.heap.size < w9.heap.size := by have := hb9.size; simp at this; omega
  obtain ⟨kx4b1, -, lx4b1, -⟩ := Hs.bx [mac_ ((.slice A2_0f (m).fr.length c2_0f)) ((.slice A2_0b (m).bk.length c2_0b)) ((.slice A2_0c (m).cr.length c2_0c)) ((.slice A2_0l (m).lp.length c2_0l)) ((.slice A2_0d (m).dr.length c2_0d)) (m), rw_ (.slice A3_0 (llL m).length c3_0) (llL m), mac_ ((.slice A4_0f (m).fr.length c4_0f)) ((.slice A4_0b (m).bk.length c4_0b)) ((.slice A4_0c (m).cr.length c4_0c)) ((.slice A4_0l (m).lp.length c4_0l)) ((.slice A4_0d (m).dr.length c4_0d)) (m)] [rw_ (.slice A6_0 (llL m).length c6_0) (llL m), mac_ ((.slice A8_0f (m).fr.length c8_0f)) ((.slice A8_0b (m).bk.length c8_0b)) ((.slice A8_0c (m).cr.length c8_0c)) ((.slice A8_0l (m).lp.length c8_0l)) ((.slice A8_0d (m).dr.length c8_0d)) (m)] hS9
  have kx4b1_0 : w9.cell? ⟨g4b1, 0, none⟩ = some (.int .i64 ((m).wd)) := kx4b1 0
  have kx4b1_1 : w9.cell? ⟨g4b1, 1, none⟩ = some (.int .i64 ((m).rk)) := kx4b1 1
  have kx4b1_2 : w9.cell? ⟨g4b1, 2, none⟩ = some ((.slice A4_0f (m).fr.length c4_0f)) := kx4b1 2
  have kx4b1_3 : w9.cell? ⟨g4b1, 3, none⟩ = some ((.slice A4_0b (m).bk.length c4_0b)) := kx4b1 3
  have kx4b1_4 : w9.cell? ⟨g4b1, 4, none⟩ = some ((.slice A4_0c (m).cr.length c4_0c)) := kx4b1 4
  have kx4b1_5 : w9.cell? ⟨g4b1, 5, none⟩ = some ((.slice A4_0l (m).lp.length c4_0l)) := kx4b1 5
  have kx4b1_6 : w9.cell? ⟨g4b1, 6, none⟩ = some ((.slice A4_0d (m).dr.length c4_0d)) := kx4b1 6
  clear kx4b1
  go_wp2_with fail
  clear hc hf lz0 kx4b1_0 kx4b1_1 kx4b1_2 kx4b1_3 kx4b1_4 kx4b1_5 kx4b1_6 lx4b1
  obtain ⟨SS, hit, hsb, hput⟩ := Hs.at_ [mac_ ((.slice A2_0f (m).fr.length c2_0f)) ((.slice A2_0b (m).bk.length c2_0b)) ((.slice A2_0c (m).cr.length c2_0c)) ((.slice A2_0l (m).lp.length c2_0l)) ((.slice A2_0d (m).dr.length c2_0d)) (m), rw_ (.slice A3_0 (llL m).length c3_0) (llL m)] (mac_ ((.slice A4_0f (m).fr.length c4_0f)) ((.slice A4_0b (m).bk.length c4_0b)) ((.slice A4_0c (m).cr.length c4_0c)) ((.slice A4_0l (m).lp.length c4_0l)) ((.slice A4_0d (m).dr.length c4_0d)) (m)) [bx_ g4b1 #[.int .i64 ((m).wd), .int .i64 ((m).rk), (.slice A4_0f (m).fr.length c4_0f), (.slice A4_0b (m).bk.length c4_0b), (.slice A4_0c (m).cr.length c4_0c), (.slice A4_0l (m).lp.length c4_0l), (.slice A4_0d (m).dr.length c4_0d)] 27, rw_ (.slice A6_0 (llL m).length c6_0) (llL m), mac_ ((.slice A8_0f (m).fr.length c8_0f)) ((.slice A8_0b (m).bk.length c8_0b)) ((.slice A8_0c (m).cr.length c8_0c)) ((.slice A8_0l (m).lp.length c8_0l)) ((.slice A8_0d (m).dr.length c8_0d)) (m)] hS9
  have HPUT := Lib.hid hput
  clear hput
  refine (markMac_any (k := 1) hit (fun j hj => (hsb j hj).2) b0.five (by have := (Mac.bounds b0.five (by omega)).1; omega) (by have := (Mac.bounds b0.five (by omega)).2; omega) (by omega) (by omega)).mono ?_
  rintro e w10 ⟨rfl, hit2, hch⟩
  have hS10 := HPUT.out (mac_ ((.slice A4_0f (m).fr.length c4_0f)) ((.slice A4_0b (m).bk.length c4_0b)) ((.slice A4_0c (m).cr.length c4_0c)) ((.slice A4_0l (m).lp.length c4_0l)) ((.slice A4_0d (m).dr.length c4_0d)) (Mac.mark (1) (m))) w10 hit2 hch
  have hb10 := hb9.trans (hch.below (fun k hk => (hsb k hk).1) hb9.size)
  clear hb9 hS9 HPUT hit hit2 hch hsb
  obtain ⟨hc, hf⟩ := bcell hb10
  have lz0 : w.heap.size < w10.heap.size := by have := hb10.size; simp at this; omega
  obtain ⟨kx4b1, -, lx4b1, -⟩ := Hs.bx [mac_ ((.slice A2_0f (m).fr.length c2_0f)) ((.slice A2_0b (m).bk.length c2_0b)) ((.slice A2_0c (m).cr.length c2_0c)) ((.slice A2_0l (m).lp.length c2_0l)) ((.slice A2_0d (m).dr.length c2_0d)) (m), rw_ (.slice A3_0 (llL m).length c3_0) (llL m), mac_ ((.slice A4_0f (m).fr.length c4_0f)) ((.slice A4_0b (m).bk.length c4_0b)) ((.slice A4_0c (m).cr.length c4_0c)) ((.slice A4_0l (m).lp.length c4_0l)) ((.slice A4_0d (m).dr.length c4_0d)) (Mac.mark (1) (m))] [rw_ (.slice A6_0 (llL m).length c6_0) (llL m), mac_ ((.slice A8_0f (m).fr.length c8_0f)) ((.slice A8_0b (m).bk.length c8_0b)) ((.slice A8_0c (m).cr.length c8_0c)) ((.slice A8_0l (m).lp.length c8_0l)) ((.slice A8_0d (m).dr.length c8_0d)) (m)] hS10
  have kx4b1_0 : w10.cell? ⟨g4b1, 0, none⟩ = some (.int .i64 ((m).wd)) := kx4b1 0
  have kx4b1_1 : w10.cell? ⟨g4b1, 1, none⟩ = some (.int .i64 ((m).rk)) := kx4b1 1
  have kx4b1_2 : w10.cell? ⟨g4b1, 2, none⟩ = some ((.slice A4_0f (m).fr.length c4_0f)) := kx4b1 2
  have kx4b1_3 : w10.cell? ⟨g4b1, 3, none⟩ = some ((.slice A4_0b (m).bk.length c4_0b)) := kx4b1 3
  have kx4b1_4 : w10.cell? ⟨g4b1, 4, none⟩ = some ((.slice A4_0c (m).cr.length c4_0c)) := kx4b1 4
  have kx4b1_5 : w10.cell? ⟨g4b1, 5, none⟩ = some ((.slice A4_0l (m).lp.length c4_0l)) := kx4b1 5
  have kx4b1_6 : w10.cell? ⟨g4b1, 6, none⟩ = some ((.slice A4_0d (m).dr.length c4_0d)) := kx4b1 6
  clear kx4b1
  go_wp2_with fail
  clear hc hf lz0 kx4b1_0 kx4b1_1 kx4b1_2 kx4b1_3 kx4b1_4 kx4b1_5 kx4b1_6 lx4b1
  refine (eqInts_yes (Hs.rd [mac_ ((.slice A2_0f (m).fr.length c2_0f)) ((.slice A2_0b (m).bk.length c2_0b)) ((.slice A2_0c (m).cr.length c2_0c)) ((.slice A2_0l (m).lp.length c2_0l)) ((.slice A2_0d (m).dr.length c2_0d)) (m), rw_ (.slice A3_0 (llL m).length c3_0) (llL m), mac_ ((.slice A4_0f (m).fr.length c4_0f)) ((.slice A4_0b (m).bk.length c4_0b)) ((.slice A4_0c (m).cr.length c4_0c)) ((.slice A4_0l (m).lp.length c4_0l)) ((.slice A4_0d (m).dr.length c4_0d)) (Mac.mark (1) (m)), bx_ g4b1 #[.int .i64 ((m).wd), .int .i64 ((m).rk), (.slice A4_0f (m).fr.length c4_0f), (.slice A4_0b (m).bk.length c4_0b), (.slice A4_0c (m).cr.length c4_0c), (.slice A4_0l (m).lp.length c4_0l), (.slice A4_0d (m).dr.length c4_0d)] 27] [mac_ ((.slice A8_0f (m).fr.length c8_0f)) ((.slice A8_0b (m).bk.length c8_0b)) ((.slice A8_0c (m).cr.length c8_0c)) ((.slice A8_0l (m).lp.length c8_0l)) ((.slice A8_0d (m).dr.length c8_0d)) (m)] hS10) (Hs.rd [mac_ ((.slice A2_0f (m).fr.length c2_0f)) ((.slice A2_0b (m).bk.length c2_0b)) ((.slice A2_0c (m).cr.length c2_0c)) ((.slice A2_0l (m).lp.length c2_0l)) ((.slice A2_0d (m).dr.length c2_0d)) (m)] [mac_ ((.slice A4_0f (m).fr.length c4_0f)) ((.slice A4_0b (m).bk.length c4_0b)) ((.slice A4_0c (m).cr.length c4_0c)) ((.slice A4_0l (m).lp.length c4_0l)) ((.slice A4_0d (m).dr.length c4_0d)) (Mac.mark (1) (m)), bx_ g4b1 #[.int .i64 ((m).wd), .int .i64 ((m).rk), (.slice A4_0f (m).fr.length c4_0f), (.slice A4_0b (m).bk.length c4_0b), (.slice A4_0c (m).cr.length c4_0c), (.slice A4_0l (m).lp.length c4_0l), (.slice A4_0d (m).dr.length c4_0d)] 27, rw_ (.slice A6_0 (llL m).length c6_0) (llL m), mac_ ((.slice A8_0f (m).fr.length c8_0f)) ((.slice A8_0b (m).bk.length c8_0b)) ((.slice A8_0c (m).cr.length c8_0c)) ((.slice A8_0l (m).lp.length c8_0l)) ((.slice A8_0d (m).dr.length c8_0d)) (m)] hS10) rfl).mono ?_
  rintro e w11 ⟨rfl, hq⟩
  have hb11 := hb10.trans (hq.mono hb10.size)
  have hS11 := hS10.below hq
  clear hb10 hS10 hq
  obtain ⟨hc, hf⟩ := bcell hb11
  have lz0 : w.heap.size < w11.heap.size := by have := hb11.size; simp at this; omega
  obtain ⟨kx4b1, -, lx4b1, -⟩ := Hs.bx [mac_ ((.slice A2_0f (m).fr.length c2_0f)) ((.slice A2_0b (m).bk.length c2_0b)) ((.slice A2_0c (m).cr.length c2_0c)) ((.slice A2_0l (m).lp.length c2_0l)) ((.slice A2_0d (m).dr.length c2_0d)) (m), rw_ (.slice A3_0 (llL m).length c3_0) (llL m), mac_ ((.slice A4_0f (m).fr.length c4_0f)) ((.slice A4_0b (m).bk.length c4_0b)) ((.slice A4_0c (m).cr.length c4_0c)) ((.slice A4_0l (m).lp.length c4_0l)) ((.slice A4_0d (m).dr.length c4_0d)) (Mac.mark (1) (m))] [rw_ (.slice A6_0 (llL m).length c6_0) (llL m), mac_ ((.slice A8_0f (m).fr.length c8_0f)) ((.slice A8_0b (m).bk.length c8_0b)) ((.slice A8_0c (m).cr.length c8_0c)) ((.slice A8_0l (m).lp.length c8_0l)) ((.slice A8_0d (m).dr.length c8_0d)) (m)] hS11
  have kx4b1_0 : w11.cell? ⟨g4b1, 0, none⟩ = some (.int .i64 ((m).wd)) := kx4b1 0
  have kx4b1_1 : w11.cell? ⟨g4b1, 1, none⟩ = some (.int .i64 ((m).rk)) := kx4b1 1
  have kx4b1_2 : w11.cell? ⟨g4b1, 2, none⟩ = some ((.slice A4_0f (m).fr.length c4_0f)) := kx4b1 2
  have kx4b1_3 : w11.cell? ⟨g4b1, 3, none⟩ = some ((.slice A4_0b (m).bk.length c4_0b)) := kx4b1 3
  have kx4b1_4 : w11.cell? ⟨g4b1, 4, none⟩ = some ((.slice A4_0c (m).cr.length c4_0c)) := kx4b1 4
  have kx4b1_5 : w11.cell? ⟨g4b1, 5, none⟩ = some ((.slice A4_0l (m).lp.length c4_0l)) := kx4b1 5
  have kx4b1_6 : w11.cell? ⟨g4b1, 6, none⟩ = some ((.slice A4_0d (m).dr.length c4_0d)) := kx4b1 6
  clear kx4b1
  go_wp2_with fail
  clear hc hf lz0 kx4b1_0 kx4b1_1 kx4b1_2 kx4b1_3 kx4b1_4 kx4b1_5 kx4b1_6 lx4b1
  obtain ⟨lo12, hi12, hit, hle, hput⟩ := Hs.owAt [mac_ ((.slice A2_0f (m).fr.length c2_0f)) ((.slice A2_0b (m).bk.length c2_0b)) ((.slice A2_0c (m).cr.length c2_0c)) ((.slice A2_0l (m).lp.length c2_0l)) ((.slice A2_0d (m).dr.length c2_0d)) (m), rw_ (.slice A3_0 (llL m).length c3_0) (llL m), mac_ ((.slice A4_0f (m).fr.length c4_0f)) ((.slice A4_0b (m).bk.length c4_0b)) ((.slice A4_0c (m).cr.length c4_0c)) ((.slice A4_0l (m).lp.length c4_0l)) ((.slice A4_0d (m).dr.length c4_0d)) (Mac.mark (1) (m)), bx_ g4b1 #[.int .i64 ((m).wd), .int .i64 ((m).rk), (.slice A4_0f (m).fr.length c4_0f), (.slice A4_0b (m).bk.length c4_0b), (.slice A4_0c (m).cr.length c4_0c), (.slice A4_0l (m).lp.length c4_0l), (.slice A4_0d (m).dr.length c4_0d)] 27] (.slice A6_0 (llL m).length c6_0) (llL m) [mac_ ((.slice A8_0f (m).fr.length c8_0f)) ((.slice A8_0b (m).bk.length c8_0b)) ((.slice A8_0c (m).cr.length c8_0c)) ((.slice A8_0l (m).lp.length c8_0l)) ((.slice A8_0d (m).dr.length c8_0d)) (m)] hS11
  have HPUT := Lib.hid hput
  clear hput
  refine (markInts_any _ _ _ _ (1) _ hit (by omega) (by omega) (by omega)).mono ?_
  rintro e w12 ⟨rfl, hit2, hch⟩
  obtain ⟨hS12, hq⟩ := HPUT.out (countFrom (1) (llL m).length) w12 hit2 hch
  have hb12 := hb11.trans hq
  clear hb11 hS11 HPUT hit hit2 hch hle hq
  obtain ⟨hc, hf⟩ := bcell hb12
  have lz0 : w.heap.size < w12.heap.size := by have := hb12.size; simp at this; omega
  obtain ⟨kx4b1, -, lx4b1, -⟩ := Hs.bx [mac_ ((.slice A2_0f (m).fr.length c2_0f)) ((.slice A2_0b (m).bk.length c2_0b)) ((.slice A2_0c (m).cr.length c2_0c)) ((.slice A2_0l (m).lp.length c2_0l)) ((.slice A2_0d (m).dr.length c2_0d)) (m), rw_ (.slice A3_0 (llL m).length c3_0) (llL m), mac_ ((.slice A4_0f (m).fr.length c4_0f)) ((.slice A4_0b (m).bk.length c4_0b)) ((.slice A4_0c (m).cr.length c4_0c)) ((.slice A4_0l (m).lp.length c4_0l)) ((.slice A4_0d (m).dr.length c4_0d)) (Mac.mark (1) (m))] [rw_ (.slice A6_0 (llL m).length c6_0) (countFrom (1) (llL m).length), mac_ ((.slice A8_0f (m).fr.length c8_0f)) ((.slice A8_0b (m).bk.length c8_0b)) ((.slice A8_0c (m).cr.length c8_0c)) ((.slice A8_0l (m).lp.length c8_0l)) ((.slice A8_0d (m).dr.length c8_0d)) (m)] hS12
  have kx4b1_0 : w12.cell? ⟨g4b1, 0, none⟩ = some (.int .i64 ((m).wd)) := kx4b1 0
  have kx4b1_1 : w12.cell? ⟨g4b1, 1, none⟩ = some (.int .i64 ((m).rk)) := kx4b1 1
  have kx4b1_2 : w12.cell? ⟨g4b1, 2, none⟩ = some ((.slice A4_0f (m).fr.length c4_0f)) := kx4b1 2
  have kx4b1_3 : w12.cell? ⟨g4b1, 3, none⟩ = some ((.slice A4_0b (m).bk.length c4_0b)) := kx4b1 3
  have kx4b1_4 : w12.cell? ⟨g4b1, 4, none⟩ = some ((.slice A4_0c (m).cr.length c4_0c)) := kx4b1 4
  have kx4b1_5 : w12.cell? ⟨g4b1, 5, none⟩ = some ((.slice A4_0l (m).lp.length c4_0l)) := kx4b1 5
  have kx4b1_6 : w12.cell? ⟨g4b1, 6, none⟩ = some ((.slice A4_0d (m).dr.length c4_0d)) := kx4b1 6
  clear kx4b1
  go_wp2_with fail
  clear hc hf lz0 kx4b1_0 kx4b1_1 kx4b1_2 kx4b1_3 kx4b1_4 kx4b1_5 kx4b1_6 lx4b1
  refine (heldInts_quiet (Hs.rd [mac_ ((.slice A2_0f (m).fr.length c2_0f)) ((.slice A2_0b (m).bk.length c2_0b)) ((.slice A2_0c (m).cr.length c2_0c)) ((.slice A2_0l (m).lp.length c2_0l)) ((.slice A2_0d (m).dr.length c2_0d)) (m), rw_ (.slice A3_0 (llL m).length c3_0) (llL m), mac_ ((.slice A4_0f (m).fr.length c4_0f)) ((.slice A4_0b (m).bk.length c4_0b)) ((.slice A4_0c (m).cr.length c4_0c)) ((.slice A4_0l (m).lp.length c4_0l)) ((.slice A4_0d (m).dr.length c4_0d)) (Mac.mark (1) (m)), bx_ g4b1 #[.int .i64 ((m).wd), .int .i64 ((m).rk), (.slice A4_0f (m).fr.length c4_0f), (.slice A4_0b (m).bk.length c4_0b), (.slice A4_0c (m).cr.length c4_0c), (.slice A4_0l (m).lp.length c4_0l), (.slice A4_0d (m).dr.length c4_0d)] 27] [mac_ ((.slice A8_0f (m).fr.length c8_0f)) ((.slice A8_0b (m).bk.length c8_0b)) ((.slice A8_0c (m).cr.length c8_0c)) ((.slice A8_0l (m).lp.length c8_0l)) ((.slice A8_0d (m).dr.length c8_0d)) (m)] hS12) (by omega) (by omega) (by omega)).mono ?_
  rintro e w13 ⟨rfl, hq⟩
  have hb13 := hb12.trans (hq.mono hb12.size)
  have hS13 := hS12.below hq
  clear hb12 hS12 hq
  obtain ⟨hc, hf⟩ := bcell hb13
  have lz0 : w.heap.size < w13.heap.size := by have := hb13.size; simp at this; omega
  obtain ⟨kx4b1, -, lx4b1, -⟩ := Hs.bx [mac_ ((.slice A2_0f (m).fr.length c2_0f)) ((.slice A2_0b (m).bk.length c2_0b)) ((.slice A2_0c (m).cr.length c2_0c)) ((.slice A2_0l (m).lp.length c2_0l)) ((.slice A2_0d (m).dr.length c2_0d)) (m), rw_ (.slice A3_0 (llL m).length c3_0) (llL m), mac_ ((.slice A4_0f (m).fr.length c4_0f)) ((.slice A4_0b (m).bk.length c4_0b)) ((.slice A4_0c (m).cr.length c4_0c)) ((.slice A4_0l (m).lp.length c4_0l)) ((.slice A4_0d (m).dr.length c4_0d)) (Mac.mark (1) (m))] [rw_ (.slice A6_0 (llL m).length c6_0) (countFrom (1) (llL m).length), mac_ ((.slice A8_0f (m).fr.length c8_0f)) ((.slice A8_0b (m).bk.length c8_0b)) ((.slice A8_0c (m).cr.length c8_0c)) ((.slice A8_0l (m).lp.length c8_0l)) ((.slice A8_0d (m).dr.length c8_0d)) (m)] hS13
  have kx4b1_0 : w13.cell? ⟨g4b1, 0, none⟩ = some (.int .i64 ((m).wd)) := kx4b1 0
  have kx4b1_1 : w13.cell? ⟨g4b1, 1, none⟩ = some (.int .i64 ((m).rk)) := kx4b1 1
  have kx4b1_2 : w13.cell? ⟨g4b1, 2, none⟩ = some ((.slice A4_0f (m).fr.length c4_0f)) := kx4b1 2
  have kx4b1_3 : w13.cell? ⟨g4b1, 3, none⟩ = some ((.slice A4_0b (m).bk.length c4_0b)) := kx4b1 3
  have kx4b1_4 : w13.cell? ⟨g4b1, 4, none⟩ = some ((.slice A4_0c (m).cr.length c4_0c)) := kx4b1 4
  have kx4b1_5 : w13.cell? ⟨g4b1, 5, none⟩ = some ((.slice A4_0l (m).lp.length c4_0l)) := kx4b1 5
  have kx4b1_6 : w13.cell? ⟨g4b1, 6, none⟩ = some ((.slice A4_0d (m).dr.length c4_0d)) := kx4b1 6
  clear kx4b1
  go_wp2_with fail
  clear hc hf lz0 kx4b1_0 kx4b1_1 kx4b1_2 kx4b1_3 kx4b1_4 kx4b1_5 kx4b1_6 lx4b1
  refine (toMac_any (g0.below hb13 hB0) (Nat.le_trans hB0 hb13.size) b0.five (by omega)).mono ?_
  rintro e w14 ⟨q14_0f, q14_0b, q14_0c, q14_0l, q14_0d, rfl, ho14, hq⟩
  have hb14 := hb13.trans (hq.mono hb13.size)
  have hS14 := hS13.join hq ho14
  clear hb13 hS13 hq ho14
  obtain ⟨A14_0f, c14_0f, rfl, -⟩ := id (Hs.rdM [mac_ ((.slice A2_0f (m).fr.length c2_0f)) ((.slice A2_0b (m).bk.length c2_0b)) ((.slice A2_0c (m).cr.length c2_0c)) ((.slice A2_0l (m).lp.length c2_0l)) ((.slice A2_0d (m).dr.length c2_0d)) (m), rw_ (.slice A3_0 (llL m).length c3_0) (llL m), mac_ ((.slice A4_0f (m).fr.length c4_0f)) ((.slice A4_0b (m).bk.length c4_0b)) ((.slice A4_0c (m).cr.length c4_0c)) ((.slice A4_0l (m).lp.length c4_0l)) ((.slice A4_0d (m).dr.length c4_0d)) (Mac.mark (1) (m)), bx_ g4b1 #[.int .i64 ((m).wd), .int .i64 ((m).rk), (.slice A4_0f (m).fr.length c4_0f), (.slice A4_0b (m).bk.length c4_0b), (.slice A4_0c (m).cr.length c4_0c), (.slice A4_0l (m).lp.length c4_0l), (.slice A4_0d (m).dr.length c4_0d)] 27, rw_ (.slice A6_0 (llL m).length c6_0) (countFrom (1) (llL m).length), mac_ ((.slice A8_0f (m).fr.length c8_0f)) ((.slice A8_0b (m).bk.length c8_0b)) ((.slice A8_0c (m).cr.length c8_0c)) ((.slice A8_0l (m).lp.length c8_0l)) ((.slice A8_0d (m).dr.length c8_0d)) (m)] [] hS14).fr
  obtain ⟨A14_0b, c14_0b, rfl, -⟩ := id (Hs.rdM [mac_ ((.slice A2_0f (m).fr.length c2_0f)) ((.slice A2_0b (m).bk.length c2_0b)) ((.slice A2_0c (m).cr.length c2_0c)) ((.slice A2_0l (m).lp.length c2_0l)) ((.slice A2_0d (m).dr.length c2_0d)) (m), rw_ (.slice A3_0 (llL m).length c3_0) (llL m), mac_ ((.slice A4_0f (m).fr.length c4_0f)) ((.slice A4_0b (m).bk.length c4_0b)) ((.slice A4_0c (m).cr.length c4_0c)) ((.slice A4_0l (m).lp.length c4_0l)) ((.slice A4_0d (m).dr.length c4_0d)) (Mac.mark (1) (m)), bx_ g4b1 #[.int .i64 ((m).wd), .int .i64 ((m).rk), (.slice A4_0f (m).fr.length c4_0f), (.slice A4_0b (m).bk.length c4_0b), (.slice A4_0c (m).cr.length c4_0c), (.slice A4_0l (m).lp.length c4_0l), (.slice A4_0d (m).dr.length c4_0d)] 27, rw_ (.slice A6_0 (llL m).length c6_0) (countFrom (1) (llL m).length), mac_ ((.slice A8_0f (m).fr.length c8_0f)) ((.slice A8_0b (m).bk.length c8_0b)) ((.slice A8_0c (m).cr.length c8_0c)) ((.slice A8_0l (m).lp.length c8_0l)) ((.slice A8_0d (m).dr.length c8_0d)) (m)] [] hS14).bk
  obtain ⟨A14_0c, c14_0c, rfl, -⟩ := id (Hs.rdM [mac_ ((.slice A2_0f (m).fr.length c2_0f)) ((.slice A2_0b (m).bk.length c2_0b)) ((.slice A2_0c (m).cr.length c2_0c)) ((.slice A2_0l (m).lp.length c2_0l)) ((.slice A2_0d (m).dr.length c2_0d)) (m), rw_ (.slice A3_0 (llL m).length c3_0) (llL m), mac_ ((.slice A4_0f (m).fr.length c4_0f)) ((.slice A4_0b (m).bk.length c4_0b)) ((.slice A4_0c (m).cr.length c4_0c)) ((.slice A4_0l (m).lp.length c4_0l)) ((.slice A4_0d (m).dr.length c4_0d)) (Mac.mark (1) (m)), bx_ g4b1 #[.int .i64 ((m).wd), .int .i64 ((m).rk), (.slice A4_0f (m).fr.length c4_0f), (.slice A4_0b (m).bk.length c4_0b), (.slice A4_0c (m).cr.length c4_0c), (.slice A4_0l (m).lp.length c4_0l), (.slice A4_0d (m).dr.length c4_0d)] 27, rw_ (.slice A6_0 (llL m).length c6_0) (countFrom (1) (llL m).length), mac_ ((.slice A8_0f (m).fr.length c8_0f)) ((.slice A8_0b (m).bk.length c8_0b)) ((.slice A8_0c (m).cr.length c8_0c)) ((.slice A8_0l (m).lp.length c8_0l)) ((.slice A8_0d (m).dr.length c8_0d)) (m)] [] hS14).cr.cells
  obtain ⟨A14_0l, c14_0l, rfl, -⟩ := id (Hs.rdM [mac_ ((.slice A2_0f (m).fr.length c2_0f)) ((.slice A2_0b (m).bk.length c2_0b)) ((.slice A2_0c (m).cr.length c2_0c)) ((.slice A2_0l (m).lp.length c2_0l)) ((.slice A2_0d (m).dr.length c2_0d)) (m), rw_ (.slice A3_0 (llL m).length c3_0) (llL m), mac_ ((.slice A4_0f (m).fr.length c4_0f)) ((.slice A4_0b (m).bk.length c4_0b)) ((.slice A4_0c (m).cr.length c4_0c)) ((.slice A4_0l (m).lp.length c4_0l)) ((.slice A4_0d (m).dr.length c4_0d)) (Mac.mark (1) (m)), bx_ g4b1 #[.int .i64 ((m).wd), .int .i64 ((m).rk), (.slice A4_0f (m).fr.length c4_0f), (.slice A4_0b (m).bk.length c4_0b), (.slice A4_0c (m).cr.length c4_0c), (.slice A4_0l (m).lp.length c4_0l), (.slice A4_0d (m).dr.length c4_0d)] 27, rw_ (.slice A6_0 (llL m).length c6_0) (countFrom (1) (llL m).length), mac_ ((.slice A8_0f (m).fr.length c8_0f)) ((.slice A8_0b (m).bk.length c8_0b)) ((.slice A8_0c (m).cr.length c8_0c)) ((.slice A8_0l (m).lp.length c8_0l)) ((.slice A8_0d (m).dr.length c8_0d)) (m)] [] hS14).lp.cells
  obtain ⟨A14_0d, c14_0d, rfl, -⟩ := id (Hs.rdM [mac_ ((.slice A2_0f (m).fr.length c2_0f)) ((.slice A2_0b (m).bk.length c2_0b)) ((.slice A2_0c (m).cr.length c2_0c)) ((.slice A2_0l (m).lp.length c2_0l)) ((.slice A2_0d (m).dr.length c2_0d)) (m), rw_ (.slice A3_0 (llL m).length c3_0) (llL m), mac_ ((.slice A4_0f (m).fr.length c4_0f)) ((.slice A4_0b (m).bk.length c4_0b)) ((.slice A4_0c (m).cr.length c4_0c)) ((.slice A4_0l (m).lp.length c4_0l)) ((.slice A4_0d (m).dr.length c4_0d)) (Mac.mark (1) (m)), bx_ g4b1 #[.int .i64 ((m).wd), .int .i64 ((m).rk), (.slice A4_0f (m).fr.length c4_0f), (.slice A4_0b (m).bk.length c4_0b), (.slice A4_0c (m).cr.length c4_0c), (.slice A4_0l (m).lp.length c4_0l), (.slice A4_0d (m).dr.length c4_0d)] 27, rw_ (.slice A6_0 (llL m).length c6_0) (countFrom (1) (llL m).length), mac_ ((.slice A8_0f (m).fr.length c8_0f)) ((.slice A8_0b (m).bk.length c8_0b)) ((.slice A8_0c (m).cr.length c8_0c)) ((.slice A8_0l (m).lp.length c8_0l)) ((.slice A8_0d (m).dr.length c8_0d)) (m)] [] hS14).dr
  obtain ⟨hc, hf⟩ := bcell hb14
  have lz0 : w.heap.size < w14.heap.size := by have := hb14.size; simp at this; omega
  obtain ⟨kx4b1, -, lx4b1, -⟩ := Hs.bx [mac_ ((.slice A2_0f (m).fr.length c2_0f)) ((.slice A2_0b (m).bk.length c2_0b)) ((.slice A2_0c (m).cr.length c2_0c)) ((.slice A2_0l (m).lp.length c2_0l)) ((.slice A2_0d (m).dr.length c2_0d)) (m), rw_ (.slice A3_0 (llL m).length c3_0) (llL m), mac_ ((.slice A4_0f (m).fr.length c4_0f)) ((.slice A4_0b (m).bk.length c4_0b)) ((.slice A4_0c (m).cr.length c4_0c)) ((.slice A4_0l (m).lp.length c4_0l)) ((.slice A4_0d (m).dr.length c4_0d)) (Mac.mark (1) (m))] [rw_ (.slice A6_0 (llL m).length c6_0) (countFrom (1) (llL m).length), mac_ ((.slice A8_0f (m).fr.length c8_0f)) ((.slice A8_0b (m).bk.length c8_0b)) ((.slice A8_0c (m).cr.length c8_0c)) ((.slice A8_0l (m).lp.length c8_0l)) ((.slice A8_0d (m).dr.length c8_0d)) (m), mac_ ((.slice A14_0f (m).fr.length c14_0f)) ((.slice A14_0b (m).bk.length c14_0b)) ((.slice A14_0c (m).cr.length c14_0c)) ((.slice A14_0l (m).lp.length c14_0l)) ((.slice A14_0d (m).dr.length c14_0d)) (m)] hS14
  have kx4b1_0 : w14.cell? ⟨g4b1, 0, none⟩ = some (.int .i64 ((m).wd)) := kx4b1 0
  have kx4b1_1 : w14.cell? ⟨g4b1, 1, none⟩ = some (.int .i64 ((m).rk)) := kx4b1 1
  have kx4b1_2 : w14.cell? ⟨g4b1, 2, none⟩ = some ((.slice A4_0f (m).fr.length c4_0f)) := kx4b1 2
  have kx4b1_3 : w14.cell? ⟨g4b1, 3, none⟩ = some ((.slice A4_0b (m).bk.length c4_0b)) := kx4b1 3
  have kx4b1_4 : w14.cell? ⟨g4b1, 4, none⟩ = some ((.slice A4_0c (m).cr.length c4_0c)) := kx4b1 4
  have kx4b1_5 : w14.cell? ⟨g4b1, 5, none⟩ = some ((.slice A4_0l (m).lp.length c4_0l)) := kx4b1 5
  have kx4b1_6 : w14.cell? ⟨g4b1, 6, none⟩ = some ((.slice A4_0d (m).dr.length c4_0d)) := kx4b1 6
  clear kx4b1
  go_wp2_with fail
  clear hc hf lz0 kx4b1_0 kx4b1_1 kx4b1_2 kx4b1_3 kx4b1_4 kx4b1_5 kx4b1_6 lx4b1
  refine (impl_LiveLoops_any (Hs.rdM [mac_ ((.slice A2_0f (m).fr.length c2_0f)) ((.slice A2_0b (m).bk.length c2_0b)) ((.slice A2_0c (m).cr.length c2_0c)) ((.slice A2_0l (m).lp.length c2_0l)) ((.slice A2_0d (m).dr.length c2_0d)) (m), rw_ (.slice A3_0 (llL m).length c3_0) (llL m), mac_ ((.slice A4_0f (m).fr.length c4_0f)) ((.slice A4_0b (m).bk.length c4_0b)) ((.slice A4_0c (m).cr.length c4_0c)) ((.slice A4_0l (m).lp.length c4_0l)) ((.slice A4_0d (m).dr.length c4_0d)) (Mac.mark (1) (m)), bx_ g4b1 #[.int .i64 ((m).wd), .int .i64 ((m).rk), (.slice A4_0f (m).fr.length c4_0f), (.slice A4_0b (m).bk.length c4_0b), (.slice A4_0c (m).cr.length c4_0c), (.slice A4_0l (m).lp.length c4_0l), (.slice A4_0d (m).dr.length c4_0d)] 27, rw_ (.slice A6_0 (llL m).length c6_0) (countFrom (1) (llL m).length), mac_ ((.slice A8_0f (m).fr.length c8_0f)) ((.slice A8_0b (m).bk.length c8_0b)) ((.slice A8_0c (m).cr.length c8_0c)) ((.slice A8_0l (m).lp.length c8_0l)) ((.slice A8_0d (m).dr.length c8_0d)) (m)] [] hS14) (Nat.le_refl _)).mono ?_
  rintro e w15 ⟨q15_0, rfl, ho15, hq⟩
  have hb15 := hb14.trans (hq.mono hb14.size)
  have hS15 := hS14.join hq (hs_ow ho15 hq)
  clear hb14 hS14 hq ho15
  obtain ⟨A15_0, c15_0, rfl, -⟩ := id (Hs.rd [mac_ ((.slice A2_0f (m).fr.length c2_0f)) ((.slice A2_0b (m).bk.length c2_0b)) ((.slice A2_0c (m).cr.length c2_0c)) ((.slice A2_0l (m).lp.length c2_0l)) ((.slice A2_0d (m).dr.length c2_0d)) (m), rw_ (.slice A3_0 (llL m).length c3_0) (llL m), mac_ ((.slice A4_0f (m).fr.length c4_0f)) ((.slice A4_0b (m).bk.length c4_0b)) ((.slice A4_0c (m).cr.length c4_0c)) ((.slice A4_0l (m).lp.length c4_0l)) ((.slice A4_0d (m).dr.length c4_0d)) (Mac.mark (1) (m)), bx_ g4b1 #[.int .i64 ((m).wd), .int .i64 ((m).rk), (.slice A4_0f (m).fr.length c4_0f), (.slice A4_0b (m).bk.length c4_0b), (.slice A4_0c (m).cr.length c4_0c), (.slice A4_0l (m).lp.length c4_0l), (.slice A4_0d (m).dr.length c4_0d)] 27, rw_ (.slice A6_0 (llL m).length c6_0) (countFrom (1) (llL m).length), mac_ ((.slice A8_0f (m).fr.length c8_0f)) ((.slice A8_0b (m).bk.length c8_0b)) ((.slice A8_0c (m).cr.length c8_0c)) ((.slice A8_0l (m).lp.length c8_0l)) ((.slice A8_0d (m).dr.length c8_0d)) (m), mac_ ((.slice A14_0f (m).fr.length c14_0f)) ((.slice A14_0b (m).bk.length c14_0b)) ((.slice A14_0c (m).cr.length c14_0c)) ((.slice A14_0l (m).lp.length c14_0l)) ((.slice A14_0d (m).dr.length c14_0d)) (m)] [] hS15)
  obtain ⟨hc, hf⟩ := bcell hb15
  have lz0 : w.heap.size < w15.heap.size := by have := hb15.size; simp at this; omega
  obtain ⟨kx4b1, -, lx4b1, -⟩ := Hs.bx [mac_ ((.slice A2_0f (m).fr.length c2_0f)) ((.slice A2_0b (m).bk.length c2_0b)) ((.slice A2_0c (m).cr.length c2_0c)) ((.slice A2_0l (m).lp.length c2_0l)) ((.slice A2_0d (m).dr.length c2_0d)) (m), rw_ (.slice A3_0 (llL m).length c3_0) (llL m), mac_ ((.slice A4_0f (m).fr.length c4_0f)) ((.slice A4_0b (m).bk.length c4_0b)) ((.slice A4_0c (m).cr.length c4_0c)) ((.slice A4_0l (m).lp.length c4_0l)) ((.slice A4_0d (m).dr.length c4_0d)) (Mac.mark (1) (m))] [rw_ (.slice A6_0 (llL m).length c6_0) (countFrom (1) (llL m).length), mac_ ((.slice A8_0f (m).fr.length c8_0f)) ((.slice A8_0b (m).bk.length c8_0b)) ((.slice A8_0c (m).cr.length c8_0c)) ((.slice A8_0l (m).lp.length c8_0l)) ((.slice A8_0d (m).dr.length c8_0d)) (m), mac_ ((.slice A14_0f (m).fr.length c14_0f)) ((.slice A14_0b (m).bk.length c14_0b)) ((.slice A14_0c (m).cr.length c14_0c)) ((.slice A14_0l (m).lp.length c14_0l)) ((.slice A14_0d (m).dr.length c14_0d)) (m), rw_ (.slice A15_0 (llL m).length c15_0) (llL m)] hS15
  have kx4b1_0 : w15.cell? ⟨g4b1, 0, none⟩ = some (.int .i64 ((m).wd)) := kx4b1 0
  have kx4b1_1 : w15.cell? ⟨g4b1, 1, none⟩ = some (.int .i64 ((m).rk)) := kx4b1 1
  have kx4b1_2 : w15.cell? ⟨g4b1, 2, none⟩ = some ((.slice A4_0f (m).fr.length c4_0f)) := kx4b1 2
  have kx4b1_3 : w15.cell? ⟨g4b1, 3, none⟩ = some ((.slice A4_0b (m).bk.length c4_0b)) := kx4b1 3
  have kx4b1_4 : w15.cell? ⟨g4b1, 4, none⟩ = some ((.slice A4_0c (m).cr.length c4_0c)) := kx4b1 4
  have kx4b1_5 : w15.cell? ⟨g4b1, 5, none⟩ = some ((.slice A4_0l (m).lp.length c4_0l)) := kx4b1 5
  have kx4b1_6 : w15.cell? ⟨g4b1, 6, none⟩ = some ((.slice A4_0d (m).dr.length c4_0d)) := kx4b1 6
  clear kx4b1
  go_wp2_with fail
  clear hc hf lz0 kx4b1_0 kx4b1_1 kx4b1_2 kx4b1_3 kx4b1_4 kx4b1_5 kx4b1_6 lx4b1
  refine (eqInts_yes (Hs.rd [mac_ ((.slice A2_0f (m).fr.length c2_0f)) ((.slice A2_0b (m).bk.length c2_0b)) ((.slice A2_0c (m).cr.length c2_0c)) ((.slice A2_0l (m).lp.length c2_0l)) ((.slice A2_0d (m).dr.length c2_0d)) (m), rw_ (.slice A3_0 (llL m).length c3_0) (llL m), mac_ ((.slice A4_0f (m).fr.length c4_0f)) ((.slice A4_0b (m).bk.length c4_0b)) ((.slice A4_0c (m).cr.length c4_0c)) ((.slice A4_0l (m).lp.length c4_0l)) ((.slice A4_0d (m).dr.length c4_0d)) (Mac.mark (1) (m)), bx_ g4b1 #[.int .i64 ((m).wd), .int .i64 ((m).rk), (.slice A4_0f (m).fr.length c4_0f), (.slice A4_0b (m).bk.length c4_0b), (.slice A4_0c (m).cr.length c4_0c), (.slice A4_0l (m).lp.length c4_0l), (.slice A4_0d (m).dr.length c4_0d)] 27, rw_ (.slice A6_0 (llL m).length c6_0) (countFrom (1) (llL m).length), mac_ ((.slice A8_0f (m).fr.length c8_0f)) ((.slice A8_0b (m).bk.length c8_0b)) ((.slice A8_0c (m).cr.length c8_0c)) ((.slice A8_0l (m).lp.length c8_0l)) ((.slice A8_0d (m).dr.length c8_0d)) (m), mac_ ((.slice A14_0f (m).fr.length c14_0f)) ((.slice A14_0b (m).bk.length c14_0b)) ((.slice A14_0c (m).cr.length c14_0c)) ((.slice A14_0l (m).lp.length c14_0l)) ((.slice A14_0d (m).dr.length c14_0d)) (m)] [] hS15) (Hs.rd [mac_ ((.slice A2_0f (m).fr.length c2_0f)) ((.slice A2_0b (m).bk.length c2_0b)) ((.slice A2_0c (m).cr.length c2_0c)) ((.slice A2_0l (m).lp.length c2_0l)) ((.slice A2_0d (m).dr.length c2_0d)) (m)] [mac_ ((.slice A4_0f (m).fr.length c4_0f)) ((.slice A4_0b (m).bk.length c4_0b)) ((.slice A4_0c (m).cr.length c4_0c)) ((.slice A4_0l (m).lp.length c4_0l)) ((.slice A4_0d (m).dr.length c4_0d)) (Mac.mark (1) (m)), bx_ g4b1 #[.int .i64 ((m).wd), .int .i64 ((m).rk), (.slice A4_0f (m).fr.length c4_0f), (.slice A4_0b (m).bk.length c4_0b), (.slice A4_0c (m).cr.length c4_0c), (.slice A4_0l (m).lp.length c4_0l), (.slice A4_0d (m).dr.length c4_0d)] 27, rw_ (.slice A6_0 (llL m).length c6_0) (countFrom (1) (llL m).length), mac_ ((.slice A8_0f (m).fr.length c8_0f)) ((.slice A8_0b (m).bk.length c8_0b)) ((.slice A8_0c (m).cr.length c8_0c)) ((.slice A8_0l (m).lp.length c8_0l)) ((.slice A8_0d (m).dr.length c8_0d)) (m), mac_ ((.slice A14_0f (m).fr.length c14_0f)) ((.slice A14_0b (m).bk.length c14_0b)) ((.slice A14_0c (m).cr.length c14_0c)) ((.slice A14_0l (m).lp.length c14_0l)) ((.slice A14_0d (m).dr.length c14_0d)) (m), rw_ (.slice A15_0 (llL m).length c15_0) (llL m)] hS15) rfl).mono ?_
  rintro e w16 ⟨rfl, hq⟩
  have hb16 := hb15.trans (hq.mono hb15.size)
  have hS16 := hS15.below hq
  clear hb15 hS15 hq
  obtain ⟨hc, hf⟩ := bcell hb16
  have lz0 : w.heap.size < w16.heap.size := by have := hb16.size; simp at this; omega
  obtain ⟨kx4b1, -, lx4b1, -⟩ := Hs.bx [mac_ ((.slice A2_0f (m).fr.length c2_0f)) ((.slice A2_0b (m).bk.length c2_0b)) ((.slice A2_0c (m).cr.length c2_0c)) ((.slice A2_0l (m).lp.length c2_0l)) ((.slice A2_0d (m).dr.length c2_0d)) (m), rw_ (.slice A3_0 (llL m).length c3_0) (llL m), mac_ ((.slice A4_0f (m).fr.length c4_0f)) ((.slice A4_0b (m).bk.length c4_0b)) ((.slice A4_0c (m).cr.length c4_0c)) ((.slice A4_0l (m).lp.length c4_0l)) ((.slice A4_0d (m).dr.length c4_0d)) (Mac.mark (1) (m))] [rw_ (.slice A6_0 (llL m).length c6_0) (countFrom (1) (llL m).length), mac_ ((.slice A8_0f (m).fr.length c8_0f)) ((.slice A8_0b (m).bk.length c8_0b)) ((.slice A8_0c (m).cr.length c8_0c)) ((.slice A8_0l (m).lp.length c8_0l)) ((.slice A8_0d (m).dr.length c8_0d)) (m), mac_ ((.slice A14_0f (m).fr.length c14_0f)) ((.slice A14_0b (m).bk.length c14_0b)) ((.slice A14_0c (m).cr.length c14_0c)) ((.slice A14_0l (m).lp.length c14_0l)) ((.slice A14_0d (m).dr.length c14_0d)) (m), rw_ (.slice A15_0 (llL m).length c15_0) (llL m)] hS16
  have kx4b1_0 : w16.cell? ⟨g4b1, 0, none⟩ = some (.int .i64 ((m).wd)) := kx4b1 0
  have kx4b1_1 : w16.cell? ⟨g4b1, 1, none⟩ = some (.int .i64 ((m).rk)) := kx4b1 1
  have kx4b1_2 : w16.cell? ⟨g4b1, 2, none⟩ = some ((.slice A4_0f (m).fr.length c4_0f)) := kx4b1 2
  have kx4b1_3 : w16.cell? ⟨g4b1, 3, none⟩ = some ((.slice A4_0b (m).bk.length c4_0b)) := kx4b1 3
  have kx4b1_4 : w16.cell? ⟨g4b1, 4, none⟩ = some ((.slice A4_0c (m).cr.length c4_0c)) := kx4b1 4
  have kx4b1_5 : w16.cell? ⟨g4b1, 5, none⟩ = some ((.slice A4_0l (m).lp.length c4_0l)) := kx4b1 5
  have kx4b1_6 : w16.cell? ⟨g4b1, 6, none⟩ = some ((.slice A4_0d (m).dr.length c4_0d)) := kx4b1 6
  clear kx4b1
  go_wp2_with fail
  clear hc hf lz0 kx4b1_0 kx4b1_1 kx4b1_2 kx4b1_3 kx4b1_4 kx4b1_5 kx4b1_6 lx4b1
  refine (heldInts_quiet (Hs.rd [mac_ ((.slice A2_0f (m).fr.length c2_0f)) ((.slice A2_0b (m).bk.length c2_0b)) ((.slice A2_0c (m).cr.length c2_0c)) ((.slice A2_0l (m).lp.length c2_0l)) ((.slice A2_0d (m).dr.length c2_0d)) (m), rw_ (.slice A3_0 (llL m).length c3_0) (llL m), mac_ ((.slice A4_0f (m).fr.length c4_0f)) ((.slice A4_0b (m).bk.length c4_0b)) ((.slice A4_0c (m).cr.length c4_0c)) ((.slice A4_0l (m).lp.length c4_0l)) ((.slice A4_0d (m).dr.length c4_0d)) (Mac.mark (1) (m)), bx_ g4b1 #[.int .i64 ((m).wd), .int .i64 ((m).rk), (.slice A4_0f (m).fr.length c4_0f), (.slice A4_0b (m).bk.length c4_0b), (.slice A4_0c (m).cr.length c4_0c), (.slice A4_0l (m).lp.length c4_0l), (.slice A4_0d (m).dr.length c4_0d)] 27] [mac_ ((.slice A8_0f (m).fr.length c8_0f)) ((.slice A8_0b (m).bk.length c8_0b)) ((.slice A8_0c (m).cr.length c8_0c)) ((.slice A8_0l (m).lp.length c8_0l)) ((.slice A8_0d (m).dr.length c8_0d)) (m), mac_ ((.slice A14_0f (m).fr.length c14_0f)) ((.slice A14_0b (m).bk.length c14_0b)) ((.slice A14_0c (m).cr.length c14_0c)) ((.slice A14_0l (m).lp.length c14_0l)) ((.slice A14_0d (m).dr.length c14_0d)) (m), rw_ (.slice A15_0 (llL m).length c15_0) (llL m)] hS16) (by omega) (by omega) (by omega)).mono ?_
  rintro e w17 ⟨rfl, hq⟩
  have hb17 := hb16.trans (hq.mono hb16.size)
  have hS17 := hS16.below hq
  clear hb16 hS16 hq
  obtain ⟨hc, hf⟩ := bcell hb17
  have lz0 : w.heap.size < w17.heap.size := by have := hb17.size; simp at this; omega
  obtain ⟨kx4b1, -, lx4b1, -⟩ := Hs.bx [mac_ ((.slice A2_0f (m).fr.length c2_0f)) ((.slice A2_0b (m).bk.length c2_0b)) ((.slice A2_0c (m).cr.length c2_0c)) ((.slice A2_0l (m).lp.length c2_0l)) ((.slice A2_0d (m).dr.length c2_0d)) (m), rw_ (.slice A3_0 (llL m).length c3_0) (llL m), mac_ ((.slice A4_0f (m).fr.length c4_0f)) ((.slice A4_0b (m).bk.length c4_0b)) ((.slice A4_0c (m).cr.length c4_0c)) ((.slice A4_0l (m).lp.length c4_0l)) ((.slice A4_0d (m).dr.length c4_0d)) (Mac.mark (1) (m))] [rw_ (.slice A6_0 (llL m).length c6_0) (countFrom (1) (llL m).length), mac_ ((.slice A8_0f (m).fr.length c8_0f)) ((.slice A8_0b (m).bk.length c8_0b)) ((.slice A8_0c (m).cr.length c8_0c)) ((.slice A8_0l (m).lp.length c8_0l)) ((.slice A8_0d (m).dr.length c8_0d)) (m), mac_ ((.slice A14_0f (m).fr.length c14_0f)) ((.slice A14_0b (m).bk.length c14_0b)) ((.slice A14_0c (m).cr.length c14_0c)) ((.slice A14_0l (m).lp.length c14_0l)) ((.slice A14_0d (m).dr.length c14_0d)) (m), rw_ (.slice A15_0 (llL m).length c15_0) (llL m)] hS17
  have kx4b1_0 : w17.cell? ⟨g4b1, 0, none⟩ = some (.int .i64 ((m).wd)) := kx4b1 0
  have kx4b1_1 : w17.cell? ⟨g4b1, 1, none⟩ = some (.int .i64 ((m).rk)) := kx4b1 1
  have kx4b1_2 : w17.cell? ⟨g4b1, 2, none⟩ = some ((.slice A4_0f (m).fr.length c4_0f)) := kx4b1 2
  have kx4b1_3 : w17.cell? ⟨g4b1, 3, none⟩ = some ((.slice A4_0b (m).bk.length c4_0b)) := kx4b1 3
  have kx4b1_4 : w17.cell? ⟨g4b1, 4, none⟩ = some ((.slice A4_0c (m).cr.length c4_0c)) := kx4b1 4
  have kx4b1_5 : w17.cell? ⟨g4b1, 5, none⟩ = some ((.slice A4_0l (m).lp.length c4_0l)) := kx4b1 5
  have kx4b1_6 : w17.cell? ⟨g4b1, 6, none⟩ = some ((.slice A4_0d (m).dr.length c4_0d)) := kx4b1 6
  clear kx4b1
  go_wp2_with fail
  clear hc hf lz0 kx4b1_0 kx4b1_1 kx4b1_2 kx4b1_3 kx4b1_4 kx4b1_5 kx4b1_6 lx4b1
  go_ret
  exact ⟨rfl, hA0.trans (hb17.mono hB0)⟩

set_option maxRecDepth 100000 in
theorem lifted (os : Os) (started : os.Started) (H : Type) (enc : TypeId × Value → H) :
    ReturnsInHanded {} Try.checked os 9 .any (Rows.fnExactLiveLoopsSpec.pre6 enc Try.prog Try.f9 Rows.fnExactLiveLoopsRow.domain false) (Rows.fnExactLiveLoopsSpec.post enc Try.prog Try.f9 false true false false) := by
  refine returnsInHanded_of_change (C := Try.checked) own_knob started (by kernel_rfl) Try.func9
    (ChangeSpec.witness6 (enc := enc) (C := Try.checked) false ⟨#[], #[.agg #[.int .i64 0, .int .i64 0, .slice none 0 0, .slice none 0 0, .slice none 0 0, .slice none 0 0, .slice none 0 0]], []⟩ 8 (by kernel_rfl) (by kernel_rfl) (by kernel_rfl) (by kernel_rfl)) ?_
  intro W base args ds gs before hval0 hW hcnd _
  have hval : ∀ (j : Nat) t v, Try.f9.params[j]? = some t → args[j]? = some v → Value.okWide Try.prog W .any base t v := hval0
  have hW' := hW
  obtain ⟨p, q, hA0, hV, rfl, hfz, hnd⟩ := hW
  have hA : DataW.TrodAll enc Try.prog W 0 (fun _ => true) true Try.f9.params.toList args.toList ds p := hA0
  rw [Try.params9] at hA hval
  obtain ⟨v0, vs0, d0, ds0, p0, q0, hargs, rfl, rfl, h0, r0⟩ := trodAll_cons hA
  obtain ⟨rfl, rfl, rfl⟩ := trodAll_nil r0
  obtain rfl : args = #[v0] := by cases args; simp_all
  obtain ⟨rfl, rfl⟩ := trodVars_none hV
  have k0 := h0
  have lt0 : ∀ x ∈ p0, x.block < W.heap.size := by obtain ⟨m, hm⟩ := k0; exact DataW.trod_lt m _ _ _ hm
  obtain ⟨yf0, yb0, yc0, yl0, yd0, m, rfl, s0, b0⟩ := open_Mac (hval 0 36 v0 rfl rfl) h0
  clear hA0 hval0
  refine (walk yf0 yb0 yc0 yl0 yd0 m W s0 b0).mono fun e W' ⟨he, bel⟩ => ?_
  subst he
  exact ⟨_, rfl, _, _, _, [], _, [], hW', trodAll_mk1 (shut_bool Try.underlying4 _), (trodAll_cons_mk (Below.trod laid_out (by kernel_rfl) (of_decide_eq_true (by kernel_rfl)) k0 bel lt0) trodAll_mk0), rfl, bel.frame _, fun h => by cases h⟩

/-- The statement. -/
theorem proved : Rows.FnExactLiveLoopsSaid :=
  OpenClaim.holds_of_wide 9 Try.f9 rfl rfl rfl rfl rfl rfl rfl ⟨rfl, rfl, rfl, rfl, rfl⟩ rfl rfl rfl rfl rfl (by kernel_rfl) Try.func9 (by kernel_rfl)
    (of_decide_eq_true (by kernel_rfl)) (by unfold Func.isWrapper; first | (rw [if_pos (by decide +kernel)]; kernel_rfl) | (rw [if_neg (by decide +kernel)]; exact ⟨rfl, rfl⟩))
    (fun os started H enc _ => lifted os started H enc)
#print axioms proved
end Go.Proofs.Ytbefioljddhhpaa.fnExactLiveLoops
