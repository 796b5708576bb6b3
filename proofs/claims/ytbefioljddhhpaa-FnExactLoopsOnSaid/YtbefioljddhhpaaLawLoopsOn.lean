/-
  Proved here: for every input the law FnExactLoopsOn returns true, and every argument reads behind the call as it read before. No condition.
-/
import Derived.Test.YtbefioljddhhpaaOpen
import Derived.Test.YtbefioljddhhpaaMac3
import Derived.Test.YtbefioljddhhpaaMop
import Derived.Test.YtbefioljddhhpaaVmc
import Derived.ProofKit
import Derived.OpenShut
import Derived.ShutString
import Derived.ChangeOld
import Derived.Below
import Derived.Deep.RegionHeld3
import Derived.Deep.DeepCutAuto
namespace Go.Proofs.Ytbefioljddhhpaa.fnExactLoopsOn
set_option maxRecDepth 10000
open Go.ChangeShapes Go.WideShapes Go.ChangeAt Go.RowKit
open Go.ChangeMaps (open_string shut_string)
set_option linter.unusedVariables false

set_option maxRecDepth 100000 in
set_option maxHeartbeats 4000000 in
theorem walk (vf0 vb0 vc0 vl0 vd0 : Value) (m : Mac) (nf nt : Int) (w : World) (h0 : SlM w w.heap.size vf0 vb0 vc0 vl0 vd0 m) (b0 : MacR m) (bf1 : R64 nf) (bt1 : R64 nt) :
    Calls Try.prog 8 #[.agg #[.int .i64 (m).wd, .int .i64 (m).rk, vf0, vb0, vc0, vl0, vd0], .agg #[.int .i64 nf, .int .i64 nt]] w fun e w' => e = .returned (.bool true) ∧ Below w.heap.size w w' := by
  obtain ⟨Af0, cf0, rfl, -⟩ := id h0.fr
  obtain ⟨Ab0, cb0, rfl, -⟩ := id h0.bk
  obtain ⟨Ac0, cc0, rfl, -⟩ := id h0.cr.cells
  obtain ⟨Al0, cl0, rfl, -⟩ := id h0.lp.cells
  obtain ⟨Ad0, cd0, rfl, -⟩ := id h0.dr
  have hA0 : Below w.heap.size w ((w.alloc (.cells #[.int .i64 ((m).wd), .int .i64 ((m).rk), (.slice Af0 (m).fr.length cf0), (.slice Ab0 (m).bk.length cb0), (.slice Ac0 (m).cr.length cc0), (.slice Al0 (m).lp.length cl0), (.slice Ad0 (m).dr.length cd0)] 36)).alloc (.cells #[.int .i64 (nf), .int .i64 (nt)] 43)) := ((al1 w (.cells #[.int .i64 ((m).wd), .int .i64 ((m).rk), (.slice Af0 (m).fr.length cf0), (.slice Ab0 (m).bk.length cb0), (.slice Ac0 (m).cr.length cc0), (.slice Al0 (m).lp.length cl0), (.slice Ad0 (m).dr.length cd0)] 36)).alloc (by simp) (.cells #[.int .i64 (nf), .int .i64 (nt)] 43))
  have hB0 : w.heap.size ≤ ((w.alloc (.cells #[.int .i64 ((m).wd), .int .i64 ((m).rk), (.slice Af0 (m).fr.length cf0), (.slice Ab0 (m).bk.length cb0), (.slice Ac0 (m).cr.length cc0), (.slice Al0 (m).lp.length cl0), (.slice Ad0 (m).dr.length cd0)] 36)).alloc (.cells #[.int .i64 (nf), .int .i64 (nt)] 43)).heap.size := hA0.size
  have g0 := h0.below hA0 (Nat.le_refl _)
  clear h0
  have hb0 := Below.refl ((w.alloc (.cells #[.int .i64 ((m).wd), .int .i64 ((m).rk), (.slice Af0 (m).fr.length cf0), (.slice Ab0 (m).bk.length cb0), (.slice Ac0 (m).cr.length cc0), (.slice Al0 (m).lp.length cl0), (.slice Ad0 (m).dr.length cd0)] 36)).alloc (.cells #[.int .i64 (nf), .int .i64 (nt)] 43)).heap.size ((w.alloc (.cells #[.int .i64 ((m).wd), .int .i64 ((m).rk), (.slice Af0 (m).fr.length cf0), (.slice Ab0 (m).bk.length cb0), (.slice Ac0 (m).cr.length cc0), (.slice Al0 (m).lp.length cl0), (.slice Ad0 (m).dr.length cd0)] 36)).alloc (.cells #[.int .i64 (nf), .int .i64 (nt)] 43))
  have hS0 : Hs ((w.alloc (.cells #[.int .i64 ((m).wd), .int .i64 ((m).rk), (.slice Af0 (m).fr.length cf0), (.slice Ab0 (m).bk.length cb0), (.slice Ac0 (m).cr.length cc0), (.slice Al0 (m).lp.length cl0), (.slice Ad0 (m).dr.length cd0)] 36)).alloc (.cells #[.int .i64 (nf), .int .i64 (nt)] 43)) ((w.alloc (.cells #[.int .i64 ((m).wd), .int .i64 ((m).rk), (.slice Af0 (m).fr.length cf0), (.slice Ab0 (m).bk.length cb0), (.slice Ac0 (m).cr.length cc0), (.slice Al0 (m).lp.length cl0), (.slice Ad0 (m).dr.length cd0)] 36)).alloc (.cells #[.int .i64 (nf), .int .i64 (nt)] 43)).heap.size [] := Hs.nil _
  by_cases z0 : (1048576 : Int) < (m.size : Int)
  · go_enter Try.func8, Try.ntmps8
    go_wp2_with fail
    refine (szMac_no (g0.below hb0 hB0) (Nat.le_trans hB0 hb0.size) (by omega) (by omega) z0).mono ?_
    rintro e w1 ⟨rfl, hq⟩
    have hb1 := hb0.trans (hq.mono hb0.size)
    have hS1 := hS0.below hq
    clear hb0 hS0 hq
    obtain ⟨hc, hf⟩ := bcell hb1
    have lz0 : w.heap.size < w1.heap.size := by have := hb1.size; simp at this; omega
    have lz1 : w.heap.size + 1 < w1.heap.size := by have := hb1.size; simp at this; omega
    go_wp2_with fail
    clear hc hf lz0 lz1
    go_ret
    exact ⟨rfl, hA0.trans (hb1.mono hB0)⟩
  have zl0 : ((m.size : Int) : Int) ≤ 1048576 := by omega
  have hfl := onL_len m nf nt
  go_enter Try.func8, Try.ntmps8
  go_wp2_with fail
  refine (szMac_yes (g0.below hb0 hB0) (Nat.le_trans hB0 hb0.size) (by omega) (by omega) (by omega)).mono ?_
  rintro e w1 ⟨rfl, hq⟩
  have hb1 := hb0.trans (hq.mono hb0.size)
  have hS1 := hS0.below hq
  clear hb0 hS0 hq
  obtain ⟨hc, hf⟩ := bcell hb1
  have lz0 : w.heap.size < w1.heap.size := by have := hb1.size; simp at this; omega
  have lz1 : w.heap.size + 1 < w1.heap.size := by have := hb1.size; simp at this; omega
  go_wp2_with fail
  clear hc hf lz0 lz1
  have j0 : w1.cell? ⟨w.heap.size, 0, none⟩ = some (.int .i64 ((m).wd)) := by rw [(bcell hb1).1 _ _ (by simp; try omega)]; first | (simp; done) | simp [World.cell?_alloc_lt]
  have jl0 : w.heap.size < w1.heap.size := block_lt_of_cell j0
  have j1 : w1.cell? ⟨w.heap.size, 1, none⟩ = some (.int .i64 ((m).rk)) := by rw [(bcell hb1).1 _ _ (by simp; try omega)]; first | (simp; done) | simp [World.cell?_alloc_lt]
  have jl1 : w.heap.size < w1.heap.size := block_lt_of_cell j1
  have j2 : w1.cell? ⟨w.heap.size, 2, none⟩ = some ((.slice Af0 (m).fr.length cf0)) := by rw [(bcell hb1).1 _ _ (by simp; try omega)]; first | (simp; done) | simp [World.cell?_alloc_lt]
  have jl2 : w.heap.size < w1.heap.size := block_lt_of_cell j2
  have j3 : w1.cell? ⟨w.heap.size, 3, none⟩ = some ((.slice Ab0 (m).bk.length cb0)) := by rw [(bcell hb1).1 _ _ (by simp; try omega)]; first | (simp; done) | simp [World.cell?_alloc_lt]
  have jl3 : w.heap.size < w1.heap.size := block_lt_of_cell j3
  have j4 : w1.cell? ⟨w.heap.size, 4, none⟩ = some ((.slice Ac0 (m).cr.length cc0)) := by rw [(bcell hb1).1 _ _ (by simp; try omega)]; first | (simp; done) | simp [World.cell?_alloc_lt]
  have jl4 : w.heap.size < w1.heap.size := block_lt_of_cell j4
  have j5 : w1.cell? ⟨w.heap.size, 5, none⟩ = some ((.slice Al0 (m).lp.length cl0)) := by rw [(bcell hb1).1 _ _ (by simp; try omega)]; first | (simp; done) | simp [World.cell?_alloc_lt]
  have jl5 : w.heap.size < w1.heap.size := block_lt_of_cell j5
  have j6 : w1.cell? ⟨w.heap.size, 6, none⟩ = some ((.slice Ad0 (m).dr.length cd0)) := by rw [(bcell hb1).1 _ _ (by simp; try omega)]; first | (simp; done) | simp [World.cell?_alloc_lt]
  have jl6 : w.heap.size < w1.heap.size := block_lt_of_cell j6
  have j7 : w1.cell? ⟨w.heap.size + 1, 0, none⟩ = some (.int .i64 (nf)) := by rw [(bcell hb1).1 _ _ (by simp; try omega)]; first | (simp; done) | simp [World.cell?_alloc_lt]
  have jl7 : w.heap.size + 1 < w1.heap.size := block_lt_of_cell j7
  have j8 : w1.cell? ⟨w.heap.size + 1, 1, none⟩ = some (.int .i64 (nt)) := by rw [(bcell hb1).1 _ _ (by simp; try omega)]; first | (simp; done) | simp [World.cell?_alloc_lt]
  have jl8 : w.heap.size + 1 < w1.heap.size := block_lt_of_cell j8
  have hBx := Nat.le_trans hB0 hb1.size
  have gx0 := g0.below hb1 hB0
  have HK := Lib.hid (fun w' (hw : Below w1.heap.size w1 w') => show w'.cell? ⟨w.heap.size, 0, none⟩ = some (.int .i64 ((m).wd)) ∧ w'.cell? ⟨w.heap.size, 1, none⟩ = some (.int .i64 ((m).rk)) ∧ w'.cell? ⟨w.heap.size, 2, none⟩ = some ((.slice Af0 (m).fr.length cf0)) ∧ w'.cell? ⟨w.heap.size, 3, none⟩ = some ((.slice Ab0 (m).bk.length cb0)) ∧ w'.cell? ⟨w.heap.size, 4, none⟩ = some ((.slice Ac0 (m).cr.length cc0)) ∧ w'.cell? ⟨w.heap.size, 5, none⟩ = some ((.slice Al0 (m).lp.length cl0)) ∧ w'.cell? ⟨w.heap.size, 6, none⟩ = some ((.slice Ad0 (m).dr.length cd0)) ∧ w'.cell? ⟨w.heap.size + 1, 0, none⟩ = some (.int .i64 (nf)) ∧ w'.cell? ⟨w.heap.size + 1, 1, none⟩ = some (.int .i64 (nt)) ∧ Below w1.heap.size w1 w' from ⟨by rw [hw.cell (by simp only; omega)]; exact j0, by rw [hw.cell (by simp only; omega)]; exact j1, by rw [hw.cell (by simp only; omega)]; exact j2, by rw [hw.cell (by simp only; omega)]; exact j3, by rw [hw.cell (by simp only; omega)]; exact j4, by rw [hw.cell (by simp only; omega)]; exact j5, by rw [hw.cell (by simp only; omega)]; exact j6, by rw [hw.cell (by simp only; omega)]; exact j7, by rw [hw.cell (by simp only; omega)]; exact j8, hw⟩)
  clear j0 jl0 j1 jl1 j2 jl2 j3 jl3 j4 jl4 j5 jl5 j6 jl6 j7 jl7 j8 jl8
  go_region_held3 (fun w' => w'.cell? ⟨w.heap.size, 0, none⟩ = some (.int .i64 ((m).wd)) ∧ w'.cell? ⟨w.heap.size, 1, none⟩ = some (.int .i64 ((m).rk)) ∧ w'.cell? ⟨w.heap.size, 2, none⟩ = some ((.slice Af0 (m).fr.length cf0)) ∧ w'.cell? ⟨w.heap.size, 3, none⟩ = some ((.slice Ab0 (m).bk.length cb0)) ∧ w'.cell? ⟨w.heap.size, 4, none⟩ = some ((.slice Ac0 (m).cr.length cc0)) ∧ w'.cell? ⟨w.heap.size, 5, none⟩ = some ((.slice Al0 (m).lp.length cl0)) ∧ w'.cell? ⟨w.heap.size, 6, none⟩ = some ((.slice Ad0 (m).dr.length cd0)) ∧ w'.cell? ⟨w.heap.size + 1, 0, none⟩ = some (.int .i64 (nf)) ∧ w'.cell? ⟨w.heap.size + 1, 1, none⟩ = some (.int .i64 (nt)) ∧ Below w1.heap.size w1 w')
    (first | exact HK.out _ (by first | assumption | exact Below.refl _ _ | exact drewN_below _ _ _ | exact (Below.refl _ _).drew))
    (first
      | (go_at_call_of 19 (Go.Value.agg #[.int .i64 ((m).wd), .int .i64 ((m).rk), (.slice Af0 (m).fr.length cf0), (.slice Ab0 (m).bk.length cb0), (.slice Ac0 (m).cr.length cc0), (.slice Al0 (m).lp.length cl0), (.slice Ad0 (m).dr.length cd0)]); (refine (toMac_any (gx0.below (by first | assumption | exact Below.refl _ _ | exact drewN_below _ _ _ | exact (Below.refl _ _).drew) hBx) (Nat.le_trans hBx (Below.size (w := w1) (B := w1.heap.size) (by first | assumption | exact Below.refl _ _ | exact drewN_below _ _ _ | exact (Below.refl _ _).drew))) b0.five (by omega)).mono ?_); rintro e w2 ⟨q2_0f, q2_0b, q2_0c, q2_0l, q2_0d, rfl, ho2, hq⟩; have hr2 : Below w1.heap.size w1 w2 := Below.trans (by first | assumption | exact Below.refl _ _ | exact drewN_below _ _ _ | exact (Below.refl _ _).drew) (hq.mono (Below.size (w := w1) (B := w1.heap.size) (by first | assumption | exact Below.refl _ _ | exact drewN_below _ _ _ | exact (Below.refl _ _).drew))); have so2_0 := Hs.rdM [] [] ho2; obtain ⟨A2_0f, c2_0f, rfl, -⟩ := id so2_0.fr; obtain ⟨A2_0b, c2_0b, rfl, -⟩ := id so2_0.bk; obtain ⟨A2_0c, c2_0c, rfl, -⟩ := id so2_0.cr.cells; obtain ⟨A2_0l, c2_0l, rfl, -⟩ := id so2_0.lp.cells; obtain ⟨A2_0d, c2_0d, rfl, -⟩ := id so2_0.dr; have hS2 := hS1.join hr2 ho2)
      | (go_at_call_of 24 (Go.Value.agg #[.int .i64 (nf), .int .i64 (nt)]); (refine (toNeedle_any (nf) (nt) _).mono ?_); rintro e w3 ⟨rfl, hq⟩; have hr3 : Below w1.heap.size w1 w3 := Below.trans (by first | assumption | exact Below.refl _ _ | exact drewN_below _ _ _ | exact (Below.refl _ _).drew) (hq.mono (Below.size (w := w1) (B := w1.heap.size) (by first | assumption | exact Below.refl _ _ | exact drewN_below _ _ _ | exact (Below.refl _ _).drew))); have so2_0 := (so2_0.below hq (Nat.le_refl _)).mono hq.size; have hS3 := hS2.below hq)
      | (go_at_call 29; (refine (spec_LoopsOn_any so2_0 (Nat.le_refl _) (small_of (by omega))).mono ?_); rintro e w4 ⟨q4_0, rfl, ho4, hq⟩; have hr4 : Below w1.heap.size w1 w4 := Below.trans (by first | assumption | exact Below.refl _ _ | exact drewN_below _ _ _ | exact (Below.refl _ _).drew) (hq.mono (Below.size (w := w1) (B := w1.heap.size) (by first | assumption | exact Below.refl _ _ | exact drewN_below _ _ _ | exact (Below.refl _ _).drew))); have so2_0 := (so2_0.below hq (Nat.le_refl _)).mono hq.size; have hS4 := hS3.join hq (hs_ow (w := w3) ho4 hq); obtain ⟨A4_0, c4_0, rfl, -⟩ := id (ho4.sl (Nat.le_refl _)); have so4_0 := ho4.sl (Nat.le_refl _)))
  have hb4 := hb1.trans (hr4.mono hb1.size)
  clear HK hBx gx0 
  obtain ⟨hc, hf⟩ := bcell hb4
  have lz0 : w.heap.size < w4.heap.size := by have := hb4.size; simp at this; omega
  have lz1 : w.heap.size + 1 < w4.heap.size := by have := hb4.size; simp at this; omega
  go_wp2_with fail
  clear hc hf lz0 lz1
  refine (toMac_any (g0.below hb4 hB0) (Nat.le_trans hB0 hb4.size) b0.five (by omega)).mono ?_
  rintro e w5 ⟨q5_0f, q5_0b, q5_0c, q5_0l, q5_0d, rfl, ho5, hq⟩
  have hb5 := hb4.trans (hq.mono hb4.size)
  have hS5 := hS4.join hq ho5
  clear hb4 hS4 hq ho5
  obtain ⟨A5_0f, c5_0f, rfl, -⟩ := id (Hs.rdM [mac_ ((.slice A2_0f (m).fr.length c2_0f)) ((.slice A2_0b (m).bk.length c2_0b)) ((.slice A2_0c (m).cr.length c2_0c)) ((.slice A2_0l (m).lp.length c2_0l)) ((.slice A2_0d (m).dr.length c2_0d)) (m), rw_ (.slice A4_0 (onL m nf nt).length c4_0) (onL m nf nt)] [] hS5).fr
  obtain ⟨A5_0b, c5_0b, rfl, -⟩ := id (Hs.rdM [mac_ ((.slice A2_0f (m).fr.length c2_0f)) ((.slice A2_0b (m).bk.length c2_0b)) ((.slice A2_0c (m).cr.length c2_0c)) ((.slice A2_0l (m).lp.length c2_0l)) ((.slice A2_0d (m).dr.length c2_0d)) (m), rw_ (.slice A4_0 (onL m nf nt).length c4_0) (onL m nf nt)] [] hS5).bk
  obtain ⟨A5_0c, c5_0c, rfl, -⟩ := id (Hs.rdM [mac_ ((.slice A2_0f (m).fr.length c2_0f)) ((.slice A2_0b (m).bk.length c2_0b)) ((.slice A2_0c (m).cr.length c2_0c)) ((.slice A2_0l (m).lp.length c2_0l)) ((.slice A2_0d (m).dr.length c2_0d)) (m), rw_ (.slice A4_0 (onL m nf nt).length c4_0) (onL m nf nt)] [] hS5).cr.cells
  obtain ⟨A5_0l, c5_0l, rfl, -⟩ := id (Hs.rdM [mac_ ((.slice A2_0f (m).fr.length c2_0f)) ((.slice A2_0b (m).bk.length c2_0b)) ((.slice A2_0c (m).cr.length c2_0c)) ((.slice A2_0l (m).lp.length c2_0l)) ((.slice A2_0d (m).dr.length c2_0d)) (m), rw_ (.slice A4_0 (onL m nf nt).length c4_0) (onL m nf nt)] [] hS5).lp.cells
  obtain ⟨A5_0d, c5_0d, rfl, -⟩ := id (Hs.rdM [mac_ ((.slice A2_0f (m).fr.length c2_0f)) ((.slice A2_0b (m).bk.length c2_0b)) ((.slice A2_0c (m).cr.length c2_0c)) ((.slice A2_0l (m).lp.length c2_0l)) ((.slice A2_0d (m).dr.length c2_0d)) (m), rw_ (.slice A4_0 (onL m nf nt).length c4_0) (onL m nf nt)] [] hS5).dr
  obtain ⟨hc, hf⟩ := bcell hb5
  have lz0 : w.heap.size < w5.heap.size := by have := hb5.size; simp at this; omega
  have lz1 : w.heap.size + 1 < w5.heap.size := by have := hb5.size; simp at this; omega
  go_wp2_with fail
  clear hc hf lz0 lz1
  have hS5b1 := hS5.join (al1 _ _) (hs_bx w5 #[.int .i64 ((m).wd), .int .i64 ((m).rk), (.slice A5_0f (m).fr.length c5_0f), (.slice A5_0b (m).bk.length c5_0b), (.slice A5_0c (m).cr.length c5_0c), (.slice A5_0l (m).lp.length c5_0l), (.slice A5_0d (m).dr.length c5_0d)] 27)
  have hb5b1 := hb5.trans ((al1 w5 (.cells #[.int .i64 ((m).wd), .int .i64 ((m).rk), (.slice A5_0f (m).fr.length c5_0f), (.slice A5_0b (m).bk.length c5_0b), (.slice A5_0c (m).cr.length c5_0c), (.slice A5_0l (m).lp.length c5_0l), (.slice A5_0d (m).dr.length c5_0d)] 27)).mono hb5.size)
  clear hb5 hS5
  generalize hg5b1 : w5.heap.size = g5b1 at *
  generalize hw5b1 : w5.alloc (.cells #[.int .i64 ((m).wd), .int .i64 ((m).rk), (.slice A5_0f (m).fr.length c5_0f), (.slice A5_0b (m).bk.length c5_0b), (.slice A5_0c (m).cr.length c5_0c), (.slice A5_0l (m).lp.length c5_0l), (.slice A5_0d (m).dr.length c5_0d)] 27) = w6 at *
  clear hg5b1 hw5b1
  have hS6 := hS5b1
  have hb6 := hb5b1
  clear hS5b1 hb5b1
  have j0 : w6.cell? ⟨g5b1, 0, none⟩ = some (.int .i64 ((m).wd)) := (Hs.bx [mac_ ((.slice A2_0f (m).fr.length c2_0f)) ((.slice A2_0b (m).bk.length c2_0b)) ((.slice A2_0c (m).cr.length c2_0c)) ((.slice A2_0l (m).lp.length c2_0l)) ((.slice A2_0d (m).dr.length c2_0d)) (m), rw_ (.slice A4_0 (onL m nf nt).length c4_0) (onL m nf nt), mac_ ((.slice A5_0f (m).fr.length c5_0f)) ((.slice A5_0b (m).bk.length c5_0b)) ((.slice A5_0c (m).cr.length c5_0c)) ((.slice A5_0l (m).lp.length c5_0l)) ((.slice A5_0d (m).dr.length c5_0d)) (m)] [] hS6).1 0
  have jl0 : g5b1 < w6.heap.size := block_lt_of_cell j0
  have j1 : w6.cell? ⟨g5b1, 1, none⟩ = some (.int .i64 ((m).rk)) := (Hs.bx [mac_ ((.slice A2_0f (m).fr.length c2_0f)) ((.slice A2_0b (m).bk.length c2_0b)) ((.slice A2_0c (m).cr.length c2_0c)) ((.slice A2_0l (m).lp.length c2_0l)) ((.slice A2_0d (m).dr.length c2_0d)) (m), rw_ (.slice A4_0 (onL m nf nt).length c4_0) (onL m nf nt), mac_ ((.slice A5_0f (m).fr.length c5_0f)) ((.slice A5_0b (m).bk.length c5_0b)) ((.slice A5_0c (m).cr.length c5_0c)) ((.slice A5_0l (m).lp.length c5_0l)) ((.slice A5_0d (m).dr.length c5_0d)) (m)] [] hS6).1 1
  have jl1 : g5b1 < w6.heap.size := block_lt_of_cell j1
  have j2 : w6.cell? ⟨g5b1, 2, none⟩ = some ((.slice A5_0f (m).fr.length c5_0f)) := (Hs.bx [mac_ ((.slice A2_0f (m).fr.length c2_0f)) ((.slice A2_0b (m).bk.length c2_0b)) ((.slice A2_0c (m).cr.length c2_0c)) ((.slice A2_0l (m).lp.length c2_0l)) ((.slice A2_0d (m).dr.length c2_0d)) (m), rw_ (.slice A4_0 (onL m nf nt).length c4_0) (onL m nf nt), mac_ ((.slice A5_0f (m).fr.length c5_0f)) ((.slice A5_0b (m).bk.length c5_0b)) ((.slice A5_0c (m).cr.length c5_0c)) ((.slice A5_0l (m).lp.length c5_0l)) ((.slice A5_0d (m).dr.length c5_0d)) (m)] [] hS6).1 2
  have jl2 : g5b1 < w6.heap.size := block_lt_of_cell j2
  have j3 : w6.cell? ⟨g5b1, 3, none⟩ = some ((.slice A5_0b (m).bk.length c5_0b)) := (Hs.bx [mac_ ((.slice A2_0f (m).fr.length c2_0f)) ((.slice A2_0b (m).bk.length c2_0b)) ((.slice A2_0c (m).cr.length c2_0c)) ((.slice A2_0l (m).lp.length c2_0l)) ((.slice A2_0d (m).dr.length c2_0d)) (m), rw_ (.slice A4_0 (onL m nf nt).length c4_0) (onL m nf nt), mac_ ((.slice A5_0f (m).fr.length c5_0f)) ((.slice A5_0b (m).bk.length c5_0b)) ((.slice A5_0c (m).cr.length c5_0c)) ((.slice A5_0l (m).lp.length c5_0l)) ((.slice A5_0d (m).dr.length c5_0d)) (m)] [] hS6).1 3
  have jl3 : g5b1 < w6.heap.size := block_lt_of_cell j3
  have j4 : w6.cell? ⟨g5b1, 4, none⟩ = some ((.slice A5_0c (m).cr.length c5_0c)) := (Hs.bx [mac_ ((.slice A2_0f (m).fr.length c2_0f)) ((.slice A2_0b (m).bk.length c2_0b)) ((.slice A2_0c (m).cr.length c2_0c)) ((.slice A2_0l (m).lp.length c2_0l)) ((.slice A2_0d (m).dr.length c2_0d)) (m), rw_ (.slice A4_0 (onL m nf nt).length c4_0) (onL m nf nt), mac_ ((.slice A5_0f (m).fr.length c5_0f)) ((.slice A5_0b (m).bk.length c5_0b)) ((.slice A5_0c (m).cr.length c5_0c)) ((.slice A5_0l (m).lp.length c5_0l)) ((.slice A5_0d (m).dr.length c5_0d)) (m)] [] hS6).1 4
  have jl4 : g5b1 < w6.heap.size := block_lt_of_cell j4
  have j5 : w6.cell? ⟨g5b1, 5, none⟩ = some ((.slice A5_0l (m).lp.length c5_0l)) := (Hs.bx [mac_ ((.slice A2_0f (m).fr.length c2_0f)) ((.slice A2_0b (m).bk.length c2_0b)) ((.slice A2_0c (m).cr.length c2_0c)) ((.slice A2_0l (m).lp.length c2_0l)) ((.slice A2_0d (m).dr.length c2_0d)) (m), rw_ (.slice A4_0 (onL m nf nt).length c4_0) (onL m nf nt), mac_ ((.slice A5_0f (m).fr.length c5_0f)) ((.slice A5_0b (m).bk.length c5_0b)) ((.slice A5_0c (m).cr.length c5_0c)) ((.slice A5_0l (m).lp.length c5_0l)) ((.slice A5_0d (m).dr.length c5_0d)) (m)] [] hS6).1 5
  have jl5 : g5b1 < w6.heap.size := block_lt_of_cell j5
  have j6 : w6.cell? ⟨g5b1, 6, none⟩ = some ((.slice A5_0d (m).dr.length c5_0d)) := (Hs.bx [mac_ ((.slice A2_0f (m).fr.length c2_0f)) ((.slice A2_0b (m).bk.length c2_0b)) ((.slice A2_0c (m).cr.length c2_0c)) ((.slice A2_0l (m).lp.length c2_0l)) ((.slice A2_0d (m).dr.length c2_0d)) (m), rw_ (.slice A4_0 (onL m nf nt).length c4_0) (onL m nf nt), mac_ ((.slice A5_0f (m).fr.length c5_0f)) ((.slice A5_0b (m).bk.length c5_0b)) ((.slice A5_0c (m).cr.length c5_0c)) ((.slice A5_0l (m).lp.length c5_0l)) ((.slice A5_0d (m).dr.length c5_0d)) (m)] [] hS6).1 6
  have jl6 : g5b1 < w6.heap.size := block_lt_of_cell j6
  have j7 : w6.cell? ⟨w.heap.size + 1, 0, none⟩ = some (.int .i64 (nf)) := by rw [(bcell hb6).1 _ _ (by simp; try omega)]; first | (simp; done) | simp [World.cell?_alloc_lt]
  have jl7 : w.heap.size + 1 < w6.heap.size := block_lt_of_cell j7
  have j8 : w6.cell? ⟨w.heap.size + 1, 1, none⟩ = some (.int .i64 (nt)) := by rw [(bcell hb6).1 _ _ (by simp; try omega)]; first | (simp; done) | simp [World.cell?_alloc_lt]
  have jl8 : w.heap.size + 1 < w6.heap.size := block_lt_of_cell j8
  have hBx := Nat.le_trans hB0 hb6.size
  have gx0 := g0.below hb6 hB0
  have sx2_0 : SlM w6 w6.heap.size ((.slice A2_0f (m).fr.length c2_0f)) ((.slice A2_0b (m).bk.length c2_0b)) ((.slice A2_0c (m).cr.length c2_0c)) ((.slice A2_0l (m).lp.length c2_0l)) ((.slice A2_0d (m).dr.length c2_0d)) (m) := Hs.rdM [] [rw_ (.slice A4_0 (onL m nf nt).length c4_0) (onL m nf nt), mac_ ((.slice A5_0f (m).fr.length c5_0f)) ((.slice A5_0b (m).bk.length c5_0b)) ((.slice A5_0c (m).cr.length c5_0c)) ((.slice A5_0l (m).lp.length c5_0l)) ((.slice A5_0d (m).dr.length c5_0d)) (m), bx_ g5b1 #[.int .i64 ((m).wd), .int .i64 ((m).rk), (.slice A5_0f (m).fr.length c5_0f), (.slice A5_0b (m).bk.length c5_0b), (.slice A5_0c (m).cr.length c5_0c), (.slice A5_0l (m).lp.length c5_0l), (.slice A5_0d (m).dr.length c5_0d)] 27] hS6
  have sx4_0 : Sl w6 w6.heap.size (.slice A4_0 (onL m nf nt).length c4_0) (onL m nf nt) := Hs.rd [mac_ ((.slice A2_0f (m).fr.length c2_0f)) ((.slice A2_0b (m).bk.length c2_0b)) ((.slice A2_0c (m).cr.length c2_0c)) ((.slice A2_0l (m).lp.length c2_0l)) ((.slice A2_0d (m).dr.length c2_0d)) (m)] [mac_ ((.slice A5_0f (m).fr.length c5_0f)) ((.slice A5_0b (m).bk.length c5_0b)) ((.slice A5_0c (m).cr.length c5_0c)) ((.slice A5_0l (m).lp.length c5_0l)) ((.slice A5_0d (m).dr.length c5_0d)) (m), bx_ g5b1 #[.int .i64 ((m).wd), .int .i64 ((m).rk), (.slice A5_0f (m).fr.length c5_0f), (.slice A5_0b (m).bk.length c5_0b), (.slice A5_0c (m).cr.length c5_0c), (.slice A5_0l (m).lp.length c5_0l), (.slice A5_0d (m).dr.length c5_0d)] 27] hS6
  have sx5_0 : SlM w6 w6.heap.size ((.slice A5_0f (m).fr.length c5_0f)) ((.slice A5_0b (m).bk.length c5_0b)) ((.slice A5_0c (m).cr.length c5_0c)) ((.slice A5_0l (m).lp.length c5_0l)) ((.slice A5_0d (m).dr.length c5_0d)) (m) := Hs.rdM [mac_ ((.slice A2_0f (m).fr.length c2_0f)) ((.slice A2_0b (m).bk.length c2_0b)) ((.slice A2_0c (m).cr.length c2_0c)) ((.slice A2_0l (m).lp.length c2_0l)) ((.slice A2_0d (m).dr.length c2_0d)) (m), rw_ (.slice A4_0 (onL m nf nt).length c4_0) (onL m nf nt)] [bx_ g5b1 #[.int .i64 ((m).wd), .int .i64 ((m).rk), (.slice A5_0f (m).fr.length c5_0f), (.slice A5_0b (m).bk.length c5_0b), (.slice A5_0c (m).cr.length c5_0c), (.slice A5_0l (m).lp.length c5_0l), (.slice A5_0d (m).dr.length c5_0d)] 27] hS6
  have HK := Lib.hid (fun w' (hw : Below w6.heap.size w6 w') => show w'.cell? ⟨g5b1, 0, none⟩ = some (.int .i64 ((m).wd)) ∧ w'.cell? ⟨g5b1, 1, none⟩ = some (.int .i64 ((m).rk)) ∧ w'.cell? ⟨g5b1, 2, none⟩ = some ((.slice A5_0f (m).fr.length c5_0f)) ∧ w'.cell? ⟨g5b1, 3, none⟩ = some ((.slice A5_0b (m).bk.length c5_0b)) ∧ w'.cell? ⟨g5b1, 4, none⟩ = some ((.slice A5_0c (m).cr.length c5_0c)) ∧ w'.cell? ⟨g5b1, 5, none⟩ = some ((.slice A5_0l (m).lp.length c5_0l)) ∧ w'.cell? ⟨g5b1, 6, none⟩ = some ((.slice A5_0d (m).dr.length c5_0d)) ∧ w'.cell? ⟨w.heap.size + 1, 0, none⟩ = some (.int .i64 (nf)) ∧ w'.cell? ⟨w.heap.size + 1, 1, none⟩ = some (.int .i64 (nt)) ∧ Below w6.heap.size w6 w' from ⟨by rw [hw.cell (by simp only; omega)]; exact j0, by rw [hw.cell (by simp only; omega)]; exact j1, by rw [hw.cell (by simp only; omega)]; exact j2, by rw [hw.cell (by simp only; omega)]; exact j3, by rw [hw.cell (by simp only; omega)]; exact j4, by rw [hw.cell (by simp only; omega)]; exact j5, by rw [hw.cell (by simp only; omega)]; exact j6, by rw [hw.cell (by simp only; omega)]; exact j7, by rw [hw.cell (by simp only; omega)]; exact j8, hw⟩)
  clear j0 jl0 j1 jl1 j2 jl2 j3 jl3 j4 jl4 j5 jl5 j6 jl6 j7 jl7 j8 jl8
  go_region_held3 (fun w' => w'.cell? ⟨g5b1, 0, none⟩ = some (.int .i64 ((m).wd)) ∧ w'.cell? ⟨g5b1, 1, none⟩ = some (.int .i64 ((m).rk)) ∧ w'.cell? ⟨g5b1, 2, none⟩ = some ((.slice A5_0f (m).fr.length c5_0f)) ∧ w'.cell? ⟨g5b1, 3, none⟩ = some ((.slice A5_0b (m).bk.length c5_0b)) ∧ w'.cell? ⟨g5b1, 4, none⟩ = some ((.slice A5_0c (m).cr.length c5_0c)) ∧ w'.cell? ⟨g5b1, 5, none⟩ = some ((.slice A5_0l (m).lp.length c5_0l)) ∧ w'.cell? ⟨g5b1, 6, none⟩ = some ((.slice A5_0d (m).dr.length c5_0d)) ∧ w'.cell? ⟨w.heap.size + 1, 0, none⟩ = some (.int .i64 (nf)) ∧ w'.cell? ⟨w.heap.size + 1, 1, none⟩ = some (.int .i64 (nt)) ∧ Below w6.heap.size w6 w')
    (first | exact HK.out _ (by first | assumption | exact Below.refl _ _ | exact drewN_below _ _ _ | exact (Below.refl _ _).drew))
    (first
      | (go_at_call_of 24 (Go.Value.agg #[.int .i64 (nf), .int .i64 (nt)]); (refine (toNeedle_any (nf) (nt) _).mono ?_); rintro e w7 ⟨rfl, hq⟩; have hr7 : Below w6.heap.size w6 w7 := Below.trans (by first | assumption | exact Below.refl _ _ | exact drewN_below _ _ _ | exact (Below.refl _ _).drew) (hq.mono (Below.size (w := w6) (B := w6.heap.size) (by first | assumption | exact Below.refl _ _ | exact drewN_below _ _ _ | exact (Below.refl _ _).drew))); have hS7 := hS6.below hr7)
      | (go_at_call 30; (refine (impl_LoopsOn_any (sx5_0.below (by first | assumption | exact Below.refl _ _ | exact drewN_below _ _ _ | exact (Below.refl _ _).drew) (Nat.le_refl _)) (Below.size (w := w6) (B := w6.heap.size) (by first | assumption | exact Below.refl _ _ | exact drewN_below _ _ _ | exact (Below.refl _ _).drew))).mono ?_); rintro e w8 ⟨q8_0, rfl, ho8, hq⟩; have hr8 : Below w6.heap.size w6 w8 := Below.trans (by first | assumption | exact Below.refl _ _ | exact drewN_below _ _ _ | exact (Below.refl _ _).drew) (hq.mono (Below.size (w := w6) (B := w6.heap.size) (by first | assumption | exact Below.refl _ _ | exact drewN_below _ _ _ | exact (Below.refl _ _).drew))); have hS8 := hS7.join hq (hs_ow (w := w7) ho8 hq); obtain ⟨A8_0, c8_0, rfl, -⟩ := id (ho8.sl (Nat.le_refl _)); have so8_0 := ho8.sl (Nat.le_refl _)))
  have hb8 := hb6.trans (hr8.mono hb6.size)
  clear HK hBx gx0 sx2_0 sx4_0 sx5_0
  obtain ⟨hc, hf⟩ := bcell hb8
  have lz0 : w.heap.size < w8.heap.size := by have := hb8.size; simp at this; omega
  have lz1 : w.heap.size + 1 < w8.heap.size := by have := hb8.size; simp at this; omega
  obtain ⟨kx5b1, -, lx5b1, -⟩ := Hs.bx [mac_ ((.slice A2_0f (m).fr.length c2_0f)) ((.slice A2_0b (m).bk.length c2_0b)) ((.slice A2_0c (m).cr.length c2_0c)) ((.slice A2_0l (m).lp.length c2_0l)) ((.slice A2_0d (m).dr.length c2_0d)) (m), rw_ (.slice A4_0 (onL m nf nt).length c4_0) (onL m nf nt), mac_ ((.slice A5_0f (m).fr.length c5_0f)) ((.slice A5_0b (m).bk.length c5_0b)) ((.slice A5_0c (m).cr.length c5_0c)) ((.slice A5_0l (m).lp.length c5_0l)) ((.slice A5_0d (m).dr.length c5_0d)) (m)] [rw_ (.slice A8_0 (onL m nf nt).length c8_0) (onL m nf nt)] hS8
  have kx5b1_0 : w8.cell? ⟨g5b1, 0, none⟩ = some (.int .i64 ((m).wd)) := kx5b1 0
  have kx5b1_1 : w8.cell? ⟨g5b1, 1, none⟩ = some (.int .i64 ((m).rk)) := kx5b1 1
  have kx5b1_2 : w8.cell? ⟨g5b1, 2, none⟩ = some ((.slice A5_0f (m).fr.length c5_0f)) := kx5b1 2
  have kx5b1_3 : w8.cell? ⟨g5b1, 3, none⟩ = some ((.slice A5_0b (m).bk.length c5_0b)) := kx5b1 3
  have kx5b1_4 : w8.cell? ⟨g5b1, 4, none⟩ = some ((.slice A5_0c (m).cr.length c5_0c)) := kx5b1 4
  have kx5b1_5 : w8.cell? ⟨g5b1, 5, none⟩ = some ((.slice A5_0l (m).lp.length c5_0l)) := kx5b1 5
  have kx5b1_6 : w8.cell? ⟨g5b1, 6, none⟩ = some ((.slice A5_0d (m).dr.length c5_0d)) := kx5b1 6
  clear kx5b1
  go_wp2_with fail
  clear hc hf lz0 lz1 kx5b1_0 kx5b1_1 kx5b1_2 kx5b1_3 kx5b1_4 kx5b1_5 kx5b1_6 lx5b1
  refine (eqInts_yes (Hs.rd [mac_ ((.slice A2_0f (m).fr.length c2_0f)) ((.slice A2_0b (m).bk.length c2_0b)) ((.slice A2_0c (m).cr.length c2_0c)) ((.slice A2_0l (m).lp.length c2_0l)) ((.slice A2_0d (m).dr.length c2_0d)) (m), rw_ (.slice A4_0 (onL m nf nt).length c4_0) (onL m nf nt), mac_ ((.slice A5_0f (m).fr.length c5_0f)) ((.slice A5_0b (m).bk.length c5_0b)) ((.slice A5_0c (m).cr.length c5_0c)) ((.slice A5_0l (m).lp.length c5_0l)) ((.slice A5_0d (m).dr.length c5_0d)) (m), bx_ g5b1 #[.int .i64 ((m).wd), .int .i64 ((m).rk), (.slice A5_0f (m).fr.length c5_0f), (.slice A5_0b (m).bk.length c5_0b), (.slice A5_0c (m).cr.length c5_0c), (.slice A5_0l (m).lp.length c5_0l), (.slice A5_0d (m).dr.length c5_0d)] 27] [] hS8) (Hs.rd [mac_ ((.slice A2_0f (m).fr.length c2_0f)) ((.slice A2_0b (m).bk.length c2_0b)) ((.slice A2_0c (m).cr.length c2_0c)) ((.slice A2_0l (m).lp.length c2_0l)) ((.slice A2_0d (m).dr.length c2_0d)) (m)] [mac_ ((.slice A5_0f (m).fr.length c5_0f)) ((.slice A5_0b (m).bk.length c5_0b)) ((.slice A5_0c (m).cr.length c5_0c)) ((.slice A5_0l (m).lp.length c5_0l)) ((.slice A5_0d (m).dr.length c5_0d)) (m), bx_ g5b1 #[.int .i64 ((m).wd), .int .i64 ((m).rk), (.slice A5_0f (m).fr.length c5_0f), (.slice A5_0b (m).bk.length c5_0b), (.slice A5_0c (m).cr.length c5_0c), (.slice A5_0l (m).lp.length c5_0l), (.slice A5_0d (m).dr.length c5_0d)] 27, rw_ (.slice A8_0 (onL m nf nt).length c8_0) (onL m nf nt)] hS8) rfl).mono ?_
  rintro e w9 ⟨rfl, hq⟩
  have hb9 := hb8.trans (hq.mono hb8.size)
  have hS9 := hS8.below hq
  clear hb8 hS8 hq
  obtain ⟨hc, hf⟩ := bcell hb9
  have lz0 : w.heap.size < w9.heap.size := by have := hb9.size; simp at this; omega
  have lz1 : w.heap.size + 1 < w9.heap.size := by have := hb9.size; simp at this; omega
  obtain ⟨kx5b1, -, lx5b1, -⟩ := Hs.bx [mac_ ((.slice A2_0f (m).fr.length c2_0f)) ((.slice A2_0b (m).bk.length c2_0b)) ((.slice A2_0c (m).cr.length c2_0c)) ((.slice A2_0l (m).lp.length c2_0l)) ((.slice A2_0d (m).dr.length c2_0d)) (m), rw_ (.slice A4_0 (onL m nf nt).length c4_0) (onL m nf nt), mac_ ((.slice A5_0f (m).fr.length c5_0f)) ((.slice A5_0b (m).bk.length c5_0b)) ((.slice A5_0c (m).cr.length c5_0c)) ((.slice A5_0l (m).lp.length c5_0l)) ((.slice A5_0d (m).dr.length c5_0d)) (m)] [rw_ (.slice A8_0 (onL m nf nt).length c8_0) (onL m nf nt)] hS9
  have kx5b1_0 : w9.cell? ⟨g5b1, 0, none⟩ = some (.int .i64 ((m).wd)) := kx5b1 0
  have kx5b1_1 : w9.cell? ⟨g5b1, 1, none⟩ = some (.int .i64 ((m).rk)) := kx5b1 1
  have kx5b1_2 : w9.cell? ⟨g5b1, 2, none⟩ = some ((.slice A5_0f (m).fr.length c5_0f)) := kx5b1 2
  have kx5b1_3 : w9.cell? ⟨g5b1, 3, none⟩ = some ((.slice A5_0b (m).bk.length c5_0b)) := kx5b1 3
  have kx5b1_4 : w9.cell? ⟨g5b1, 4, none⟩ = some ((.slice A5_0c (m).cr.length c5_0c)) := kx5b1 4
  have kx5b1_5 : w9.cell? ⟨g5b1, 5, none⟩ = some ((.slice A5_0l (m).lp.length c5_0l)) := kx5b1 5
  have kx5b1_6 : w9.cell? ⟨g5b1, 6, none⟩ = some ((.slice A5_0d (m).dr.length c5_0d)) := kx5b1 6
  clear kx5b1
  go_wp2_with fail
  clear hc hf lz0 lz1 kx5b1_0 kx5b1_1 kx5b1_2 kx5b1_3 kx5b1_4 kx5b1_5 kx5b1_6 lx5b1
  have j0 : w9.cell? ⟨g5b1, 0, none⟩ = some (.int .i64 ((m).wd)) := (Hs.bx [mac_ ((.slice A2_0f (m).fr.length c2_0f)) ((.slice A2_0b (m).bk.length c2_0b)) ((.slice A2_0c (m).cr.length c2_0c)) ((.slice A2_0l (m).lp.length c2_0l)) ((.slice A2_0d (m).dr.length c2_0d)) (m), rw_ (.slice A4_0 (onL m nf nt).length c4_0) (onL m nf nt), mac_ ((.slice A5_0f (m).fr.length c5_0f)) ((.slice A5_0b (m).bk.length c5_0b)) ((.slice A5_0c (m).cr.length c5_0c)) ((.slice A5_0l (m).lp.length c5_0l)) ((.slice A5_0d (m).dr.length c5_0d)) (m)] [rw_ (.slice A8_0 (onL m nf nt).length c8_0) (onL m nf nt)] hS9).1 0
  have jl0 : g5b1 < w9.heap.size := block_lt_of_cell j0
  have j1 : w9.cell? ⟨g5b1, 1, none⟩ = some (.int .i64 ((m).rk)) := (Hs.bx [mac_ ((.slice A2_0f (m).fr.length c2_0f)) ((.slice A2_0b (m).bk.length c2_0b)) ((.slice A2_0c (m).cr.length c2_0c)) ((.slice A2_0l (m).lp.length c2_0l)) ((.slice A2_0d (m).dr.length c2_0d)) (m), rw_ (.slice A4_0 (onL m nf nt).length c4_0) (onL m nf nt), mac_ ((.slice A5_0f (m).fr.length c5_0f)) ((.slice A5_0b (m).bk.length c5_0b)) ((.slice A5_0c (m).cr.length c5_0c)) ((.slice A5_0l (m).lp.length c5_0l)) ((.slice A5_0d (m).dr.length c5_0d)) (m)] [rw_ (.slice A8_0 (onL m nf nt).length c8_0) (onL m nf nt)] hS9).1 1
  have jl1 : g5b1 < w9.heap.size := block_lt_of_cell j1
  have j2 : w9.cell? ⟨g5b1, 2, none⟩ = some ((.slice A5_0f (m).fr.length c5_0f)) := (Hs.bx [mac_ ((.slice A2_0f (m).fr.length c2_0f)) ((.slice A2_0b (m).bk.length c2_0b)) ((.slice A2_0c (m).cr.length c2_0c)) ((.slice A2_0l (m).lp.length c2_0l)) ((.slice A2_0d (m).dr.length c2_0d)) (m), rw_ (.slice A4_0 (onL m nf nt).length c4_0) (onL m nf nt), mac_ ((.slice A5_0f (m).fr.length c5_0f)) ((.slice A5_0b (m).bk.length c5_0b)) ((.slice A5_0c (m).cr.length c5_0c)) ((.slice A5_0l (m).lp.length c5_0l)) ((.slice A5_0d (m).dr.length c5_0d)) (m)] [rw_ (.slice A8_0 (onL m nf nt).length c8_0) (onL m nf nt)] hS9).1 2
  have jl2 : g5b1 < w9.heap.size := block_lt_of_cell j2
  have j3 : w9.cell? ⟨g5b1, 3, none⟩ = some ((.slice A5_0b (m).bk.length c5_0b)) := (Hs.bx [mac_ ((.slice A2_0f (m).fr.length c2_0f)) ((.slice A2_0b (m).bk.length c2_0b)) ((.slice A2_0c (m).cr.length c2_0c)) ((.slice A2_0l (m).lp.length c2_0l)) ((.slice A2_0d (m).dr.length c2_0d)) (m), rw_ (.slice A4_0 (onL m nf nt).length c4_0) (onL m nf nt), mac_ ((.slice A5_0f (m).fr.length c5_0f)) ((.slice A5_0b (m).bk.length c5_0b)) ((.slice A5_0c (m).cr.length c5_0c)) ((.slice A5_0l (m).lp.length c5_0l)) ((.slice A5_0d (m).dr.length c5_0d)) (m)] [rw_ (.slice A8_0 (onL m nf nt).length c8_0) (onL m nf nt)] hS9).1 3
  have jl3 : g5b1 < w9.heap.size := block_lt_of_cell j3
  have j4 : w9.cell? ⟨g5b1, 4, none⟩ = some ((.slice A5_0c (m).cr.length c5_0c)) := (Hs.bx [mac_ ((.slice A2_0f (m).fr.length c2_0f)) ((.slice A2_0b (m).bk.length c2_0b)) ((.slice A2_0c (m).cr.length c2_0c)) ((.slice A2_0l (m).lp.length c2_0l)) ((.slice A2_0d (m).dr.length c2_0d)) (m), rw_ (.slice A4_0 (onL m nf nt).length c4_0) (onL m nf nt), mac_ ((.slice A5_0f (m).fr.length c5_0f)) ((.slice A5_0b (m).bk.length c5_0b)) ((.slice A5_0c (m).cr.length c5_0c)) ((.slice A5_0l (m).lp.length c5_0l)) ((.slice A5_0d (m).dr.length c5_0d)) (m)] [rw_ (.slice A8_0 (onL m nf nt).length c8_0) (onL m nf nt)] hS9).1 4
  have jl4 : g5b1 < w9.heap.size := block_lt_of_cell j4
  have j5 : w9.cell? ⟨g5b1, 5, none⟩ = some ((.slice A5_0l (m).lp.length c5_0l)) := (Hs.bx [mac_ ((.slice A2_0f (m).fr.length c2_0f)) ((.slice A2_0b (m).bk.length c2_0b)) ((.slice A2_0c (m).cr.length c2_0c)) ((.slice A2_0l (m).lp.length c2_0l)) ((.slice A2_0d (m).dr.length c2_0d)) (m), rw_ (.slice A4_0 (onL m nf nt).length c4_0) (onL m nf nt), mac_ ((.slice A5_0f (m).fr.length c5_0f)) ((.slice A5_0b (m).bk.length c5_0b)) ((.slice A5_0c (m).cr.length c5_0c)) ((.slice A5_0l (m).lp.length c5_0l)) ((.slice A5_0d (m).dr.length c5_0d)) (m)] [rw_ (.slice A8_0 (onL m nf nt).length c8_0) (onL m nf nt)] hS9).1 5
  have jl5 : g5b1 < w9.heap.size := block_lt_of_cell j5
  have j6 : w9.cell? ⟨g5b1, 6, none⟩ = some ((.slice A5_0d (m).dr.length c5_0d)) := (Hs.bx [mac_ ((.slice A2_0f (m).fr.length c2_0f)) ((.slice A2_0b (m).bk.length c2_0b)) ((.slice A2_0c (m).cr.length c2_0c)) ((.slice A2_0l (m).lp.length c2_0l)) ((.slice A2_0d (m).dr.length c2_0d)) (m), rw_ (.slice A4_0 (onL m nf nt).length c4_0) (onL m nf nt), mac_ ((.slice A5_0f (m).fr.length c5_0f)) ((.slice A5_0b (m).bk.length c5_0b)) ((.slice A5_0c (m).cr.length c5_0c)) ((.slice A5_0l (m).lp.length c5_0l)) ((.slice A5_0d (m).dr.length c5_0d)) (m)] [rw_ (.slice A8_0 (onL m nf nt).length c8_0) (onL m nf nt)] hS9).1 6
  have jl6 : g5b1 < w9.heap.size := block_lt_of_cell j6
  have j7 : w9.cell? ⟨w.heap.size, 0, none⟩ = some (.int .i64 ((m).wd)) := by rw [(bcell hb9).1 _ _ (by simp; try omega)]; first | (simp; done) | simp [World.cell?_alloc_lt]
  have jl7 : w.heap.size < w9.heap.size := block_lt_of_cell j7
  have j8 : w9.cell? ⟨w.heap.size, 1, none⟩ = some (.int .i64 ((m).rk)) := by rw [(bcell hb9).1 _ _ (by simp; try omega)]; first | (simp; done) | simp [World.cell?_alloc_lt]
  have jl8 : w.heap.size < w9.heap.size := block_lt_of_cell j8
  have j9 : w9.cell? ⟨w.heap.size, 2, none⟩ = some ((.slice Af0 (m).fr.length cf0)) := by rw [(bcell hb9).1 _ _ (by simp; try omega)]; first | (simp; done) | simp [World.cell?_alloc_lt]
  have jl9 : w.heap.size < w9.heap.size := block_lt_of_cell j9
  have j10 : w9.cell? ⟨w.heap.size, 3, none⟩ = some ((.slice Ab0 (m).bk.length cb0)) := by rw [(bcell hb9).1 _ _ (by simp; try omega)]; first | (simp; done) | simp [World.cell?_alloc_lt]
  have jl10 : w.heap.size < w9.heap.size := block_lt_of_cell j10
  have j11 : w9.cell? ⟨w.heap.size, 4, none⟩ = some ((.slice Ac0 (m).cr.length cc0)) := by rw [(bcell hb9).1 _ _ (by simp; try omega)]; first | (simp; done) | simp [World.cell?_alloc_lt]
  have jl11 : w.heap.size < w9.heap.size := block_lt_of_cell j11
  have j12 : w9.cell? ⟨w.heap.size, 5, none⟩ = some ((.slice Al0 (m).lp.length cl0)) := by rw [(bcell hb9).1 _ _ (by simp; try omega)]; first | (simp; done) | simp [World.cell?_alloc_lt]
  have jl12 : w.heap.size < w9.heap.size := block_lt_of_cell j12
  have j13 : w9.cell? ⟨w.heap.size, 6, none⟩ = some ((.slice Ad0 (m).dr.length cd0)) := by rw [(bcell hb9).1 _ _ (by simp; try omega)]; first | (simp; done) | simp [World.cell?_alloc_lt]
  have jl13 : w.heap.size < w9.heap.size := block_lt_of_cell j13
  have hBx := Nat.le_trans hB0 hb9.size
  have gx0 := g0.below hb9 hB0
  have sx2_0 : SlM w9 w9.heap.size ((.slice A2_0f (m).fr.length c2_0f)) ((.slice A2_0b (m).bk.length c2_0b)) ((.slice A2_0c (m).cr.length c2_0c)) ((.slice A2_0l (m).lp.length c2_0l)) ((.slice A2_0d (m).dr.length c2_0d)) (m) := Hs.rdM [] [rw_ (.slice A4_0 (onL m nf nt).length c4_0) (onL m nf nt), mac_ ((.slice A5_0f (m).fr.length c5_0f)) ((.slice A5_0b (m).bk.length c5_0b)) ((.slice A5_0c (m).cr.length c5_0c)) ((.slice A5_0l (m).lp.length c5_0l)) ((.slice A5_0d (m).dr.length c5_0d)) (m), bx_ g5b1 #[.int .i64 ((m).wd), .int .i64 ((m).rk), (.slice A5_0f (m).fr.length c5_0f), (.slice A5_0b (m).bk.length c5_0b), (.slice A5_0c (m).cr.length c5_0c), (.slice A5_0l (m).lp.length c5_0l), (.slice A5_0d (m).dr.length c5_0d)] 27, rw_ (.slice A8_0 (onL m nf nt).length c8_0) (onL m nf nt)] hS9
  have sx4_0 : Sl w9 w9.heap.size (.slice A4_0 (onL m nf nt).length c4_0) (onL m nf nt) := Hs.rd [mac_ ((.slice A2_0f (m).fr.length c2_0f)) ((.slice A2_0b (m).bk.length c2_0b)) ((.slice A2_0c (m).cr.length c2_0c)) ((.slice A2_0l (m).lp.length c2_0l)) ((.slice A2_0d (m).dr.length c2_0d)) (m)] [mac_ ((.slice A5_0f (m).fr.length c5_0f)) ((.slice A5_0b (m).bk.length c5_0b)) ((.slice A5_0c (m).cr.length c5_0c)) ((.slice A5_0l (m).lp.length c5_0l)) ((.slice A5_0d (m).dr.length c5_0d)) (m), bx_ g5b1 #[.int .i64 ((m).wd), .int .i64 ((m).rk), (.slice A5_0f (m).fr.length c5_0f), (.slice A5_0b (m).bk.length c5_0b), (.slice A5_0c (m).cr.length c5_0c), (.slice A5_0l (m).lp.length c5_0l), (.slice A5_0d (m).dr.length c5_0d)] 27, rw_ (.slice A8_0 (onL m nf nt).length c8_0) (onL m nf nt)] hS9
  have sx5_0 : SlM w9 w9.heap.size ((.slice A5_0f (m).fr.length c5_0f)) ((.slice A5_0b (m).bk.length c5_0b)) ((.slice A5_0c (m).cr.length c5_0c)) ((.slice A5_0l (m).lp.length c5_0l)) ((.slice A5_0d (m).dr.length c5_0d)) (m) := Hs.rdM [mac_ ((.slice A2_0f (m).fr.length c2_0f)) ((.slice A2_0b (m).bk.length c2_0b)) ((.slice A2_0c (m).cr.length c2_0c)) ((.slice A2_0l (m).lp.length c2_0l)) ((.slice A2_0d (m).dr.length c2_0d)) (m), rw_ (.slice A4_0 (onL m nf nt).length c4_0) (onL m nf nt)] [bx_ g5b1 #[.int .i64 ((m).wd), .int .i64 ((m).rk), (.slice A5_0f (m).fr.length c5_0f), (.slice A5_0b (m).bk.length c5_0b), (.slice A5_0c (m).cr.length c5_0c), (.slice A5_0l (m).lp.length c5_0l), (.slice A5_0d (m).dr.length c5_0d)] 27, rw_ (.slice A8_0 (onL m nf nt).length c8_0) (onL m nf nt)] hS9
  have sx8_0 : Sl w9 w9.heap.size (.slice A8_0 (onL m nf nt).length c8_0) (onL m nf nt) := Hs.rd [mac_ ((.slice A2_0f (m).fr.length c2_0f)) ((.slice A2_0b (m).bk.length c2_0b)) ((.slice A2_0c (m).cr.length c2_0c)) ((.slice A2_0l (m).lp.length c2_0l)) ((.slice A2_0d (m).dr.length c2_0d)) (m), rw_ (.slice A4_0 (onL m nf nt).length c4_0) (onL m nf nt), mac_ ((.slice A5_0f (m).fr.length c5_0f)) ((.slice A5_0b (m).bk.length c5_0b)) ((.slice A5_0c (m).cr.length c5_0c)) ((.slice A5_0l (m).lp.length c5_0l)) ((.slice A5_0d (m).dr.length c5_0d)) (m), bx_ g5b1 #[.int .i64 ((m).wd), .int .i64 ((m).rk), (.slice A5_0f (m).fr.length c5_0f), (.slice A5_0b (m).bk.length c5_0b), (.slice A5_0c (m).cr.length c5_0c), (.slice A5_0l (m).lp.length c5_0l), (.slice A5_0d (m).dr.length c5_0d)] 27] [] hS9
  have HK := Lib.hid (fun w' (hw : Below w9.heap.size w9 w') => show w'.cell? ⟨g5b1, 0, none⟩ = some (.int .i64 ((m).wd)) ∧ w'.cell? ⟨g5b1, 1, none⟩ = some (.int .i64 ((m).rk)) ∧ w'.cell? ⟨g5b1, 2, none⟩ = some ((.slice A5_0f (m).fr.length c5_0f)) ∧ w'.cell? ⟨g5b1, 3, none⟩ = some ((.slice A5_0b (m).bk.length c5_0b)) ∧ w'.cell? ⟨g5b1, 4, none⟩ = some ((.slice A5_0c (m).cr.length c5_0c)) ∧ w'.cell? ⟨g5b1, 5, none⟩ = some ((.slice A5_0l (m).lp.length c5_0l)) ∧ w'.cell? ⟨g5b1, 6, none⟩ = some ((.slice A5_0d (m).dr.length c5_0d)) ∧ w'.cell? ⟨w.heap.size, 0, none⟩ = some (.int .i64 ((m).wd)) ∧ w'.cell? ⟨w.heap.size, 1, none⟩ = some (.int .i64 ((m).rk)) ∧ w'.cell? ⟨w.heap.size, 2, none⟩ = some ((.slice Af0 (m).fr.length cf0)) ∧ w'.cell? ⟨w.heap.size, 3, none⟩ = some ((.slice Ab0 (m).bk.length cb0)) ∧ w'.cell? ⟨w.heap.size, 4, none⟩ = some ((.slice Ac0 (m).cr.length cc0)) ∧ w'.cell? ⟨w.heap.size, 5, none⟩ = some ((.slice Al0 (m).lp.length cl0)) ∧ w'.cell? ⟨w.heap.size, 6, none⟩ = some ((.slice Ad0 (m).dr.length cd0)) ∧ Below w9.heap.size w9 w' from ⟨by rw [hw.cell (by simp only; omega)]; exact j0, by rw [hw.cell (by simp only; omega)]; exact j1, by rw [hw.cell (by simp only; omega)]; exact j2, by rw [hw.cell (by simp only; omega)]; exact j3, by rw [hw.cell (by simp only; omega)]; exact j4, by rw [hw.cell (by simp only; omega)]; exact j5, by rw [hw.cell (by simp only; omega)]; exact j6, by rw [hw.cell (by simp only; omega)]; exact j7, by rw [hw.cell (by simp only; omega)]; exact j8, by rw [hw.cell (by simp only; omega)]; exact j9, by rw [hw.cell (by simp only; omega)]; exact j10, by rw [hw.cell (by simp only; omega)]; exact j11, by rw [hw.cell (by simp only; omega)]; exact j12, by rw [hw.cell (by simp only; omega)]; exact j13, hw⟩)
  clear j0 jl0 j1 jl1 j2 jl2 j3 jl3 j4 jl4 j5 jl5 j6 jl6 j7 jl7 j8 jl8 j9 jl9 j10 jl10 j11 jl11 j12 jl12 j13 jl13
  go_region_held3 (fun w' => w'.cell? ⟨g5b1, 0, none⟩ = some (.int .i64 ((m).wd)) ∧ w'.cell? ⟨g5b1, 1, none⟩ = some (.int .i64 ((m).rk)) ∧ w'.cell? ⟨g5b1, 2, none⟩ = some ((.slice A5_0f (m).fr.length c5_0f)) ∧ w'.cell? ⟨g5b1, 3, none⟩ = some ((.slice A5_0b (m).bk.length c5_0b)) ∧ w'.cell? ⟨g5b1, 4, none⟩ = some ((.slice A5_0c (m).cr.length c5_0c)) ∧ w'.cell? ⟨g5b1, 5, none⟩ = some ((.slice A5_0l (m).lp.length c5_0l)) ∧ w'.cell? ⟨g5b1, 6, none⟩ = some ((.slice A5_0d (m).dr.length c5_0d)) ∧ w'.cell? ⟨w.heap.size, 0, none⟩ = some (.int .i64 ((m).wd)) ∧ w'.cell? ⟨w.heap.size, 1, none⟩ = some (.int .i64 ((m).rk)) ∧ w'.cell? ⟨w.heap.size, 2, none⟩ = some ((.slice Af0 (m).fr.length cf0)) ∧ w'.cell? ⟨w.heap.size, 3, none⟩ = some ((.slice Ab0 (m).bk.length cb0)) ∧ w'.cell? ⟨w.heap.size, 4, none⟩ = some ((.slice Ac0 (m).cr.length cc0)) ∧ w'.cell? ⟨w.heap.size, 5, none⟩ = some ((.slice Al0 (m).lp.length cl0)) ∧ w'.cell? ⟨w.heap.size, 6, none⟩ = some ((.slice Ad0 (m).dr.length cd0)) ∧ Below w9.heap.size w9 w')
    (first | exact HK.out _ (by first | assumption | exact Below.refl _ _ | exact drewN_below _ _ _ | exact (Below.refl _ _).drew))
    (first
      | (go_at_call_of 19 (Go.Value.agg #[.int .i64 ((m).wd), .int .i64 ((m).rk), (.slice Af0 (m).fr.length cf0), (.slice Ab0 (m).bk.length cb0), (.slice Ac0 (m).cr.length cc0), (.slice Al0 (m).lp.length cl0), (.slice Ad0 (m).dr.length cd0)]); (refine (toMac_any (gx0.below (by first | assumption | exact Below.refl _ _ | exact drewN_below _ _ _ | exact (Below.refl _ _).drew) hBx) (Nat.le_trans hBx (Below.size (w := w9) (B := w9.heap.size) (by first | assumption | exact Below.refl _ _ | exact drewN_below _ _ _ | exact (Below.refl _ _).drew))) b0.five (by omega)).mono ?_); rintro e w10 ⟨q10_0f, q10_0b, q10_0c, q10_0l, q10_0d, rfl, ho10, hq⟩; have hr10 : Below w9.heap.size w9 w10 := Below.trans (by first | assumption | exact Below.refl _ _ | exact drewN_below _ _ _ | exact (Below.refl _ _).drew) (hq.mono (Below.size (w := w9) (B := w9.heap.size) (by first | assumption | exact Below.refl _ _ | exact drewN_below _ _ _ | exact (Below.refl _ _).drew))); have so10_0 := Hs.rdM [] [] ho10; obtain ⟨A10_0f, c10_0f, rfl, -⟩ := id so10_0.fr; obtain ⟨A10_0b, c10_0b, rfl, -⟩ := id so10_0.bk; obtain ⟨A10_0c, c10_0c, rfl, -⟩ := id so10_0.cr.cells; obtain ⟨A10_0l, c10_0l, rfl, -⟩ := id so10_0.lp.cells; obtain ⟨A10_0d, c10_0d, rfl, -⟩ := id so10_0.dr; have hS10 := hS9.join hr10 ho10)
      | (go_at_call 14; (refine (eqMac_yes (sx5_0.below (by first | assumption | exact Below.refl _ _ | exact drewN_below _ _ _ | exact (Below.refl _ _).drew) (Nat.le_refl _)) so10_0 (Below.size (w := w9) (B := w9.heap.size) (by first | assumption | exact Below.refl _ _ | exact drewN_below _ _ _ | exact (Below.refl _ _).drew)) (Nat.le_refl _)).mono ?_); rintro e w11 ⟨rfl, hq⟩; have hr11 : Below w9.heap.size w9 w11 := Below.trans (by first | assumption | exact Below.refl _ _ | exact drewN_below _ _ _ | exact (Below.refl _ _).drew) (hq.mono (Below.size (w := w9) (B := w9.heap.size) (by first | assumption | exact Below.refl _ _ | exact drewN_below _ _ _ | exact (Below.refl _ _).drew))); have so10_0 := (so10_0.below hq (Nat.le_refl _)).mono hq.size; have hS11 := hS10.below hq))
  have hb11 := hb9.trans (hr11.mono hb9.size)
  clear HK hBx gx0 sx2_0 sx4_0 sx5_0 sx8_0
  obtain ⟨hc, hf⟩ := bcell hb11
  have lz0 : w.heap.size < w11.heap.size := by have := hb11.size; simp at this; omega
  have lz1 : w.heap.size + 1 < w11.heap.size := by have := hb11.size; simp at this; omega
  obtain ⟨kx5b1, -, lx5b1, -⟩ := Hs.bx [mac_ ((.slice A2_0f (m).fr.length c2_0f)) ((.slice A2_0b (m).bk.length c2_0b)) ((.slice A2_0c (m).cr.length c2_0c)) ((.slice A2_0l (m).lp.length c2_0l)) ((.slice A2_0d (m).dr.length c2_0d)) (m), rw_ (.slice A4_0 (onL m nf nt).length c4_0) (onL m nf nt), mac_ ((.slice A5_0f (m).fr.length c5_0f)) ((.slice A5_0b (m).bk.length c5_0b)) ((.slice A5_0c (m).cr.length c5_0c)) ((.slice A5_0l (m).lp.length c5_0l)) ((.slice A5_0d (m).dr.length c5_0d)) (m)] [rw_ (.slice A8_0 (onL m nf nt).length c8_0) (onL m nf nt), mac_ ((.slice A10_0f (m).fr.length c10_0f)) ((.slice A10_0b (m).bk.length c10_0b)) ((.slice A10_0c (m).cr.length c10_0c)) ((.slice A10_0l (m).lp.length c10_0l)) ((.slice A10_0d (m).dr.length c10_0d)) (m)] hS11
  have kx5b1_0 : w11.cell? ⟨g5b1, 0, none⟩ = some (.int .i64 ((m).wd)) := kx5b1 0
  have kx5b1_1 : w11.cell? ⟨g5b1, 1, none⟩ = some (.int .i64 ((m).rk)) := kx5b1 1
  have kx5b1_2 : w11.cell? ⟨g5b1, 2, none⟩ = some ((.slice A5_0f (m).fr.length c5_0f)) := kx5b1 2
  have kx5b1_3 : w11.cell? ⟨g5b1, 3, none⟩ = some ((.slice A5_0b (m).bk.length c5_0b)) := kx5b1 3
  have kx5b1_4 : w11.cell? ⟨g5b1, 4, none⟩ = some ((.slice A5_0c (m).cr.length c5_0c)) := kx5b1 4
  have kx5b1_5 : w11.cell? ⟨g5b1, 5, none⟩ = some ((.slice A5_0l (m).lp.length c5_0l)) := kx5b1 5
  have kx5b1_6 : w11.cell? ⟨g5b1, 6, none⟩ = some ((.slice A5_0d (m).dr.length c5_0d)) := kx5b1 6
  clear kx5b1
  go_wp2_with fail
  clear hc hf lz0 lz1 kx5b1_0 kx5b1_1 kx5b1_2 kx5b1_3 kx5b1_4 kx5b1_5 kx5b1_6 lx5b1
  obtain ⟨SS, hit, hsb, hput⟩ := Hs.at_ [mac_ ((.slice A2_0f (m).fr.length c2_0f)) ((.slice A2_0b (m).bk.length c2_0b)) ((.slice A2_0c (m).cr.length c2_0c)) ((.slice A2_0l (m).lp.length c2_0l)) ((.slice A2_0d (m).dr.length c2_0d)) (m), rw_ (.slice A4_0 (onL m nf nt).length c4_0) (onL m nf nt)] (mac_ ((.slice A5_0f (m).fr.length c5_0f)) ((.slice A5_0b (m).bk.length c5_0b)) ((.slice A5_0c (m).cr.length c5_0c)) ((.slice A5_0l (m).lp.length c5_0l)) ((.slice A5_0d (m).dr.length c5_0d)) (m)) [bx_ g5b1 #[.int .i64 ((m).wd), .int .i64 ((m).rk), (.slice A5_0f (m).fr.length c5_0f), (.slice A5_0b (m).bk.length c5_0b), (.slice A5_0c (m).cr.length c5_0c), (.slice A5_0l (m).lp.length c5_0l), (.slice A5_0d (m).dr.length c5_0d)] 27, rw_ (.slice A8_0 (onL m nf nt).length c8_0) (onL m nf nt), mac_ ((.slice A10_0f (m).fr.length c10_0f)) ((.slice A10_0b (m).bk.length c10_0b)) ((.slice A10_0c (m).cr.length c10_0c)) ((.slice A10_0l (m).lp.length c10_0l)) ((.slice A10_0d (m).dr.length c10_0d)) (m)] hS11
  have HPUT := Lib.hid hput
  clear hput
  refine (markMac_any (k := 1) hit (fun j hj => (hsb j hj).2) b0.five (by have := (Mac.bounds b0.five (by omega)).1; omega) (by have := (Mac.bounds b0.five (by omega)).2; omega) (by omega) (by omega)).mono ?_
  rintro e w12 ⟨rfl, hit2, hch⟩
  have hS12 := HPUT.out (mac_ ((.slice A5_0f (m).fr.length c5_0f)) ((.slice A5_0b (m).bk.length c5_0b)) ((.slice A5_0c (m).cr.length c5_0c)) ((.slice A5_0l (m).lp.length c5_0l)) ((.slice A5_0d (m).dr.length c5_0d)) (Mac.mark (1) (m))) w12 hit2 hch
  have hb12 := hb11.trans (hch.below (fun k hk => (hsb k hk).1) hb11.size)
  clear hb11 hS11 HPUT hit hit2 hch hsb
  obtain ⟨hc, hf⟩ := bcell hb12
  have lz0 : w.heap.size < w12.heap.size := by have := hb12.size; simp at this; omega
  have lz1 : w.heap.size + 1 < w12.heap.size := by have := hb12.size; simp at this; omega
  obtain ⟨kx5b1, -, lx5b1, -⟩ := Hs.bx [mac_ ((.slice A2_0f (m).fr.length c2_0f)) ((.slice A2_0b (m).bk.length c2_0b)) ((.slice A2_0c (m).cr.length c2_0c)) ((.slice A2_0l (m).lp.length c2_0l)) ((.slice A2_0d (m).dr.length c2_0d)) (m), rw_ (.slice A4_0 (onL m nf nt).length c4_0) (onL m nf nt), mac_ ((.slice A5_0f (m).fr.length c5_0f)) ((.slice A5_0b (m).bk.length c5_0b)) ((.slice A5_0c (m).cr.length c5_0c)) ((.slice A5_0l (m).lp.length c5_0l)) ((.slice A5_0d (m).dr.length c5_0d)) (Mac.mark (1) (m))] [rw_ (.slice A8_0 (onL m nf nt).length c8_0) (onL m nf nt), mac_ ((.slice A10_0f (m).fr.length c10_0f)) ((.slice A10_0b (m).bk.length c10_0b)) ((.slice A10_0c (m).cr.length c10_0c)) ((.slice A10_0l (m).lp.length c10_0l)) ((.slice A10_0d (m).dr.length c10_0d)) (m)] hS12
  have kx5b1_0 : w12.cell? ⟨g5b1, 0, none⟩ = some (.int .i64 ((m).wd)) := kx5b1 0
  have kx5b1_1 : w12.cell? ⟨g5b1, 1, none⟩ = some (.int .i64 ((m).rk)) := kx5b1 1
  have kx5b1_2 : w12.cell? ⟨g5b1, 2, none⟩ = some ((.slice A5_0f (m).fr.length c5_0f)) := kx5b1 2
  have kx5b1_3 : w12.cell? ⟨g5b1, 3, none⟩ = some ((.slice A5_0b (m).bk.length c5_0b)) := kx5b1 3
  have kx5b1_4 : w12.cell? ⟨g5b1, 4, none⟩ = some ((.slice A5_0c (m).cr.length c5_0c)) := kx5b1 4
  have kx5b1_5 : w12.cell? ⟨g5b1, 5, none⟩ = some ((.slice A5_0l (m).lp.length c5_0l)) := kx5b1 5
  have kx5b1_6 : w12.cell? ⟨g5b1, 6, none⟩ = some ((.slice A5_0d (m).dr.length c5_0d)) := kx5b1 6
  clear kx5b1
  go_wp2_with fail
  clear hc hf lz0 lz1 kx5b1_0 kx5b1_1 kx5b1_2 kx5b1_3 kx5b1_4 kx5b1_5 kx5b1_6 lx5b1
  refine (eqInts_yes (Hs.rd [mac_ ((.slice A2_0f (m).fr.length c2_0f)) ((.slice A2_0b (m).bk.length c2_0b)) ((.slice A2_0c (m).cr.length c2_0c)) ((.slice A2_0l (m).lp.length c2_0l)) ((.slice A2_0d (m).dr.length c2_0d)) (m), rw_ (.slice A4_0 (onL m nf nt).length c4_0) (onL m nf nt), mac_ ((.slice A5_0f (m).fr.length c5_0f)) ((.slice A5_0b (m).bk.length c5_0b)) ((.slice A5_0c (m).cr.length c5_0c)) ((.slice A5_0l (m).lp.length c5_0l)) ((.slice A5_0d (m).dr.length c5_0d)) (Mac.mark (1) (m)), bx_ g5b1 #[.int .i64 ((m).wd), .int .i64 ((m).rk), (.slice A5_0f (m).fr.length c5_0f), (.slice A5_0b (m).bk.length c5_0b), (.slice A5_0c (m).cr.length c5_0c), (.slice A5_0l (m).lp.length c5_0l), (.slice A5_0d (m).dr.length c5_0d)] 27] [mac_ ((.slice A10_0f (m).fr.length c10_0f)) ((.slice A10_0b (m).bk.length c10_0b)) ((.slice A10_0c (m).cr.length c10_0c)) ((.slice A10_0l (m).lp.length c10_0l)) ((.slice A10_0d (m).dr.length c10_0d)) (m)] hS12) (Hs.rd [mac_ ((.slice A2_0f (m).fr.length c2_0f)) ((.slice A2_0b (m).bk.length c2_0b)) ((.slice A2_0c (m).cr.length c2_0c)) ((.slice A2_0l (m).lp.length c2_0l)) ((.slice A2_0d (m).dr.length c2_0d)) (m)] [mac_ ((.slice A5_0f (m).fr.length c5_0f)) ((.slice A5_0b (m).bk.length c5_0b)) ((.slice A5_0c (m).cr.length c5_0c)) ((.slice A5_0l (m).lp.length c5_0l)) ((.slice A5_0d (m).dr.length c5_0d)) (Mac.mark (1) (m)), bx_ g5b1 #[.int .i64 ((m).wd), .int .i64 ((m).rk), (.slice A5_0f (m).fr.length c5_0f), (.slice A5_0b (m).bk.length c5_0b), (.slice A5_0c (m).cr.length c5_0c), (.slice A5_0l (m).lp.length c5_0l), (.slice A5_0d (m).dr.length c5_0d)] 27, rw_ (.slice A8_0 (onL m nf nt).length c8_0) (onL m nf nt), mac_ ((.slice A10_0f (m).fr.length c10_0f)) ((.slice A10_0b (m).bk.length c10_0b)) ((.slice A10_0c (m).cr.length c10_0c)) ((.slice A10_0l (m).lp.length c10_0l)) ((.slice A10_0d (m).dr.length c10_0d)) (m)] hS12) rfl).mono ?_
  rintro e w13 ⟨rfl, hq⟩
  have hb13 := hb12.trans (hq.mono hb12.size)
  have hS13 := hS12.below hq
  clear hb12 hS12 hq
  obtain ⟨hc, hf⟩ := bcell hb13
  have lz0 : w.heap.size < w13.heap.size := by have := hb13.size; simp at this; omega
  have lz1 : w.heap.size + 1 < w13.heap.size := by have := hb13.size; simp at this; omega
  obtain ⟨kx5b1, -, lx5b1, -⟩ := Hs.bx [mac_ ((.slice A2_0f (m).fr.length c2_0f)) ((.slice A2_0b (m).bk.length c2_0b)) ((.slice A2_0c (m).cr.length c2_0c)) ((.slice A2_0l (m).lp.length c2_0l)) ((.slice A2_0d (m).dr.length c2_0d)) (m), rw_ (.slice A4_0 (onL m nf nt).length c4_0) (onL m nf nt), mac_ ((.slice A5_0f (m).fr.length c5_0f)) ((.slice A5_0b (m).bk.length c5_0b)) ((.slice A5_0c (m).cr.length c5_0c)) ((.slice A5_0l (m).lp.length c5_0l)) ((.slice A5_0d (m).dr.length c5_0d)) (Mac.mark (1) (m))] [rw_ (.slice A8_0 (onL m nf nt).length c8_0) (onL m nf nt), mac_ ((.slice A10_0f (m).fr.length c10_0f)) ((.slice A10_0b (m).bk.length c10_0b)) ((.slice A10_0c (m).cr.length c10_0c)) ((.slice A10_0l (m).lp.length c10_0l)) ((.slice A10_0d (m).dr.length c10_0d)) (m)] hS13
  have kx5b1_0 : w13.cell? ⟨g5b1, 0, none⟩ = some (.int .i64 ((m).wd)) := kx5b1 0
  have kx5b1_1 : w13.cell? ⟨g5b1, 1, none⟩ = some (.int .i64 ((m).rk)) := kx5b1 1
  have kx5b1_2 : w13.cell? ⟨g5b1, 2, none⟩ = some ((.slice A5_0f (m).fr.length c5_0f)) := kx5b1 2
  have kx5b1_3 : w13.cell? ⟨g5b1, 3, none⟩ = some ((.slice A5_0b (m).bk.length c5_0b)) := kx5b1 3
  have kx5b1_4 : w13.cell? ⟨g5b1, 4, none⟩ = some ((.slice A5_0c (m).cr.length c5_0c)) := kx5b1 4
  have kx5b1_5 : w13.cell? ⟨g5b1, 5, none⟩ = some ((.slice A5_0l (m).lp.length c5_0l)) := kx5b1 5
  have kx5b1_6 : w13.cell? ⟨g5b1, 6, none⟩ = some ((.slice A5_0d (m).dr.length c5_0d)) := kx5b1 6
  clear kx5b1
  go_wp2_with fail
  clear hc hf lz0 lz1 kx5b1_0 kx5b1_1 kx5b1_2 kx5b1_3 kx5b1_4 kx5b1_5 kx5b1_6 lx5b1
  obtain ⟨lo14, hi14, hit, hle, hput⟩ := Hs.owAt [mac_ ((.slice A2_0f (m).fr.length c2_0f)) ((.slice A2_0b (m).bk.length c2_0b)) ((.slice A2_0c (m).cr.length c2_0c)) ((.slice A2_0l (m).lp.length c2_0l)) ((.slice A2_0d (m).dr.length c2_0d)) (m), rw_ (.slice A4_0 (onL m nf nt).length c4_0) (onL m nf nt), mac_ ((.slice A5_0f (m).fr.length c5_0f)) ((.slice A5_0b (m).bk.length c5_0b)) ((.slice A5_0c (m).cr.length c5_0c)) ((.slice A5_0l (m).lp.length c5_0l)) ((.slice A5_0d (m).dr.length c5_0d)) (Mac.mark (1) (m)), bx_ g5b1 #[.int .i64 ((m).wd), .int .i64 ((m).rk), (.slice A5_0f (m).fr.length c5_0f), (.slice A5_0b (m).bk.length c5_0b), (.slice A5_0c (m).cr.length c5_0c), (.slice A5_0l (m).lp.length c5_0l), (.slice A5_0d (m).dr.length c5_0d)] 27] (.slice A8_0 (onL m nf nt).length c8_0) (onL m nf nt) [mac_ ((.slice A10_0f (m).fr.length c10_0f)) ((.slice A10_0b (m).bk.length c10_0b)) ((.slice A10_0c (m).cr.length c10_0c)) ((.slice A10_0l (m).lp.length c10_0l)) ((.slice A10_0d (m).dr.length c10_0d)) (m)] hS13
  have HPUT := Lib.hid hput
  clear hput
  refine (markInts_any _ _ _ _ (1) _ hit (by omega) (by omega) (by omega)).mono ?_
  rintro e w14 ⟨rfl, hit2, hch⟩
  obtain ⟨hS14, hq⟩ := HPUT.out (countFrom (1) (onL m nf nt).length) w14 hit2 hch
  have hb14 := hb13.trans hq
  clear hb13 hS13 HPUT hit hit2 hch hle hq
  obtain ⟨hc, hf⟩ := bcell hb14
  have lz0 : w.heap.size < w14.heap.size := by have := hb14.size; simp at this; omega
  have lz1 : w.heap.size + 1 < w14.heap.size := by have := hb14.size; simp at this; omega
  obtain ⟨kx5b1, -, lx5b1, -⟩ := Hs.bx [mac_ ((.slice A2_0f (m).fr.length c2_0f)) ((.slice A2_0b (m).bk.length c2_0b)) ((.slice A2_0c (m).cr.length c2_0c)) ((.slice A2_0l (m).lp.length c2_0l)) ((.slice A2_0d (m).dr.length c2_0d)) (m), rw_ (.slice A4_0 (onL m nf nt).length c4_0) (onL m nf nt), mac_ ((.slice A5_0f (m).fr.length c5_0f)) ((.slice A5_0b (m).bk.length c5_0b)) ((.slice A5_0c (m).cr.length c5_0c)) ((.slice A5_0l (m).lp.length c5_0l)) ((.slice A5_0d (m).dr.length c5_0d)) (Mac.mark (1) (m))] [rw_ (.slice A8_0 (onL m nf nt).length c8_0) (countFrom (1) (onL m nf nt).length), mac_ ((.slice A10_0f (m).fr.length c10_0f)) ((.slice A10_0b (m).bk.length c10_0b)) ((.slice A10_0c (m).cr.length c10_0c)) ((.slice A10_0l (m).lp.length c10_0l)) ((.slice A10_0d (m).dr.length c10_0d)) (m)] hS14
  have kx5b1_0 : w14.cell? ⟨g5b1, 0, none⟩ = some (.int .i64 ((m).wd)) := kx5b1 0
  have kx5b1_1 : w14.cell? ⟨g5b1, 1, none⟩ = some (.int .i64 ((m).rk)) := kx5b1 1
  have kx5b1_2 : w14.cell? ⟨g5b1, 2, none⟩ = some ((.slice A5_0f (m).fr.length c5_0f)) := kx5b1 2
  have kx5b1_3 : w14.cell? ⟨g5b1, 3, none⟩ = some ((.slice A5_0b (m).bk.length c5_0b)) := kx5b1 3
  have kx5b1_4 : w14.cell? ⟨g5b1, 4, none⟩ = some ((.slice A5_0c (m).cr.length c5_0c)) := kx5b1 4
  have kx5b1_5 : w14.cell? ⟨g5b1, 5, none⟩ = some ((.slice A5_0l (m).lp.length c5_0l)) := kx5b1 5
  have kx5b1_6 : w14.cell? ⟨g5b1, 6, none⟩ = some ((.slice A5_0d (m).dr.length c5_0d)) := kx5b1 6
  clear kx5b1
  go_wp2_with fail
  clear hc hf lz0 lz1 kx5b1_0 kx5b1_1 kx5b1_2 kx5b1_3 kx5b1_4 kx5b1_5 kx5b1_6 lx5b1
  refine (heldInts_quiet (Hs.rd [mac_ ((.slice A2_0f (m).fr.length c2_0f)) ((.slice A2_0b (m).bk.length c2_0b)) ((.slice A2_0c (m).cr.length c2_0c)) ((.slice A2_0l (m).lp.length c2_0l)) ((.slice A2_0d (m).dr.length c2_0d)) (m), rw_ (.slice A4_0 (onL m nf nt).length c4_0) (onL m nf nt), mac_ ((.slice A5_0f (m).fr.length c5_0f)) ((.slice A5_0b (m).bk.length c5_0b)) ((.slice A5_0c (m).cr.length c5_0c)) ((.slice A5_0l (m).lp.length c5_0l)) ((.slice A5_0d (m).dr.length c5_0d)) (Mac.mark (1) (m)), bx_ g5b1 #[.int .i64 ((m).wd), .int .i64 ((m).rk), (.slice A5_0f (m).fr.length c5_0f), (.slice A5_0b (m).bk.length c5_0b), (.slice A5_0c (m).cr.length c5_0c), (.slice A5_0l (m).lp.length c5_0l), (.slice A5_0d (m).dr.length c5_0d)] 27] [mac_ ((.slice A10_0f (m).fr.length c10_0f)) ((.slice A10_0b (m).bk.length c10_0b)) ((.slice A10_0c (m).cr.length c10_0c)) ((.slice A10_0l (m).lp.length c10_0l)) ((.slice A10_0d (m).dr.length c10_0d)) (m)] hS14) (by omega) (by omega) (by omega)).mono ?_
  rintro e w15 ⟨rfl, hq⟩
  have hb15 := hb14.trans (hq.mono hb14.size)
  have hS15 := hS14.below hq
  clear hb14 hS14 hq
  obtain ⟨hc, hf⟩ := bcell hb15
  have lz0 : w.heap.size < w15.heap.size := by have := hb15.size; simp at this; omega
  have lz1 : w.heap.size + 1 < w15.heap.size := by have := hb15.size; simp at this; omega
  obtain ⟨kx5b1, -, lx5b1, -⟩ := Hs.bx [mac_ ((.slice A2_0f (m).fr.length c2_0f)) ((.slice A2_0b (m).bk.length c2_0b)) ((.slice A2_0c (m).cr.length c2_0c)) ((.slice A2_0l (m).lp.length c2_0l)) ((.slice A2_0d (m).dr.length c2_0d)) (m), rw_ (.slice A4_0 (onL m nf nt).length c4_0) (onL m nf nt), mac_ ((.slice A5_0f (m).fr.length c5_0f)) ((.slice A5_0b (m).bk.length c5_0b)) ((.slice A5_0c (m).cr.length c5_0c)) ((.slice A5_0l (m).lp.length c5_0l)) ((.slice A5_0d (m).dr.length c5_0d)) (Mac.mark (1) (m))] [rw_ (.slice A8_0 (onL m nf nt).length c8_0) (countFrom (1) (onL m nf nt).length), mac_ ((.slice A10_0f (m).fr.length c10_0f)) ((.slice A10_0b (m).bk.length c10_0b)) ((.slice A10_0c (m).cr.length c10_0c)) ((.slice A10_0l (m).lp.length c10_0l)) ((.slice A10_0d (m).dr.length c10_0d)) (m)] hS15
  have kx5b1_0 : w15.cell? ⟨g5b1, 0, none⟩ = some (.int .i64 ((m).wd)) := kx5b1 0
  have kx5b1_1 : w15.cell? ⟨g5b1, 1, none⟩ = some (.int .i64 ((m).rk)) := kx5b1 1
  have kx5b1_2 : w15.cell? ⟨g5b1, 2, none⟩ = some ((.slice A5_0f (m).fr.length c5_0f)) := kx5b1 2
  have kx5b1_3 : w15.cell? ⟨g5b1, 3, none⟩ = some ((.slice A5_0b (m).bk.length c5_0b)) := kx5b1 3
  have kx5b1_4 : w15.cell? ⟨g5b1, 4, none⟩ = some ((.slice A5_0c (m).cr.length c5_0c)) := kx5b1 4
  have kx5b1_5 : w15.cell? ⟨g5b1, 5, none⟩ = some ((.slice A5_0l (m).lp.length c5_0l)) := kx5b1 5
  have kx5b1_6 : w15.cell? ⟨g5b1, 6, none⟩ = some ((.slice A5_0d (m).dr.length c5_0d)) := kx5b1 6
  clear kx5b1
  go_wp2_with fail
  clear hc hf lz0 lz1 kx5b1_0 kx5b1_1 kx5b1_2 kx5b1_3 kx5b1_4 kx5b1_5 kx5b1_6 lx5b1
  have j0 : w15.cell? ⟨w.heap.size, 0, none⟩ = some (.int .i64 ((m).wd)) := by rw [(bcell hb15).1 _ _ (by simp; try omega)]; first | (simp; done) | simp [World.cell?_alloc_lt]
  have jl0 : w.heap.size < w15.heap.size := block_lt_of_cell j0
  have j1 : w15.cell? ⟨w.heap.size, 1, none⟩ = some (.int .i64 ((m).rk)) := by rw [(bcell hb15).1 _ _ (by simp; try omega)]; first | (simp; done) | simp [World.cell?_alloc_lt]
  have jl1 : w.heap.size < w15.heap.size := block_lt_of_cell j1
  have j2 : w15.cell? ⟨w.heap.size, 2, none⟩ = some ((.slice Af0 (m).fr.length cf0)) := by rw [(bcell hb15).1 _ _ (by simp; try omega)]; first | (simp; done) | simp [World.cell?_alloc_lt]
  have jl2 : w.heap.size < w15.heap.size := block_lt_of_cell j2
  have j3 : w15.cell? ⟨w.heap.size, 3, none⟩ = some ((.slice Ab0 (m).bk.length cb0)) := by rw [(bcell hb15).1 _ _ (by simp; try omega)]; first | (simp; done) | simp [World.cell?_alloc_lt]
  have jl3 : w.heap.size < w15.heap.size := block_lt_of_cell j3
  have j4 : w15.cell? ⟨w.heap.size, 4, none⟩ = some ((.slice Ac0 (m).cr.length cc0)) := by rw [(bcell hb15).1 _ _ (by simp; try omega)]; first | (simp; done) | simp [World.cell?_alloc_lt]
  have jl4 : w.heap.size < w15.heap.size := block_lt_of_cell j4
  have j5 : w15.cell? ⟨w.heap.size, 5, none⟩ = some ((.slice Al0 (m).lp.length cl0)) := by rw [(bcell hb15).1 _ _ (by simp; try omega)]; first | (simp; done) | simp [World.cell?_alloc_lt]
  have jl5 : w.heap.size < w15.heap.size := block_lt_of_cell j5
  have j6 : w15.cell? ⟨w.heap.size, 6, none⟩ = some ((.slice Ad0 (m).dr.length cd0)) := by rw [(bcell hb15).1 _ _ (by simp; try omega)]; first | (simp; done) | simp [World.cell?_alloc_lt]
  have jl6 : w.heap.size < w15.heap.size := block_lt_of_cell j6
  have j7 : w15.cell? ⟨w.heap.size + 1, 0, none⟩ = some (.int .i64 (nf)) := by rw [(bcell hb15).1 _ _ (by simp; try omega)]; first | (simp; done) | simp [World.cell?_alloc_lt]
  have jl7 : w.heap.size + 1 < w15.heap.size := block_lt_of_cell j7
  have j8 : w15.cell? ⟨w.heap.size + 1, 1, none⟩ = some (.int .i64 (nt)) := by rw [(bcell hb15).1 _ _ (by simp; try omega)]; first | (simp; done) | simp [World.cell?_alloc_lt]
  have jl8 : w.heap.size + 1 < w15.heap.size := block_lt_of_cell j8
  have hBx := Nat.le_trans hB0 hb15.size
  have gx0 := g0.below hb15 hB0
  have sx2_0 : SlM w15 w15.heap.size ((.slice A2_0f (m).fr.length c2_0f)) ((.slice A2_0b (m).bk.length c2_0b)) ((.slice A2_0c (m).cr.length c2_0c)) ((.slice A2_0l (m).lp.length c2_0l)) ((.slice A2_0d (m).dr.length c2_0d)) (m) := Hs.rdM [] [rw_ (.slice A4_0 (onL m nf nt).length c4_0) (onL m nf nt), mac_ ((.slice A5_0f (m).fr.length c5_0f)) ((.slice A5_0b (m).bk.length c5_0b)) ((.slice A5_0c (m).cr.length c5_0c)) ((.slice A5_0l (m).lp.length c5_0l)) ((.slice A5_0d (m).dr.length c5_0d)) (Mac.mark (1) (m)), bx_ g5b1 #[.int .i64 ((m).wd), .int .i64 ((m).rk), (.slice A5_0f (m).fr.length c5_0f), (.slice A5_0b (m).bk.length c5_0b), (.slice A5_0c (m).cr.length c5_0c), (.slice A5_0l (m).lp.length c5_0l), (.slice A5_0d (m).dr.length c5_0d)] 27, rw_ (.slice A8_0 (onL m nf nt).length c8_0) (countFrom (1) (onL m nf nt).length), mac_ ((.slice A10_0f (m).fr.length c10_0f)) ((.slice A10_0b (m).bk.length c10_0b)) ((.slice A10_0c (m).cr.length c10_0c)) ((.slice A10_0l (m).lp.length c10_0l)) ((.slice A10_0d (m).dr.length c10_0d)) (m)] hS15
  have sx4_0 : Sl w15 w15.heap.size (.slice A4_0 (onL m nf nt).length c4_0) (onL m nf nt) := Hs.rd [mac_ ((.slice A2_0f (m).fr.length c2_0f)) ((.slice A2_0b (m).bk.length c2_0b)) ((.slice A2_0c (m).cr.length c2_0c)) ((.slice A2_0l (m).lp.length c2_0l)) ((.slice A2_0d (m).dr.length c2_0d)) (m)] [mac_ ((.slice A5_0f (m).fr.length c5_0f)) ((.slice A5_0b (m).bk.length c5_0b)) ((.slice A5_0c (m).cr.length c5_0c)) ((.slice A5_0l (m).lp.length c5_0l)) ((.slice A5_0d (m).dr.length c5_0d)) (Mac.mark (1) (m)), bx_ g5b1 #[.int .i64 ((m).wd), .int .i64 ((m).rk), (.slice A5_0f (m).fr.length c5_0f), (.slice A5_0b (m).bk.length c5_0b), (.slice A5_0c (m).cr.length c5_0c), (.slice A5_0l (m).lp.length c5_0l), (.slice A5_0d (m).dr.length c5_0d)] 27, rw_ (.slice A8_0 (onL m nf nt).length c8_0) (countFrom (1) (onL m nf nt).length), mac_ ((.slice A10_0f (m).fr.length c10_0f)) ((.slice A10_0b (m).bk.length c10_0b)) ((.slice A10_0c (m).cr.length c10_0c)) ((.slice A10_0l (m).lp.length c10_0l)) ((.slice A10_0d (m).dr.length c10_0d)) (m)] hS15
  have sx5_0 : SlM w15 w15.heap.size ((.slice A5_0f (m).fr.length c5_0f)) ((.slice A5_0b (m).bk.length c5_0b)) ((.slice A5_0c (m).cr.length c5_0c)) ((.slice A5_0l (m).lp.length c5_0l)) ((.slice A5_0d (m).dr.length c5_0d)) (Mac.mark (1) (m)) := Hs.rdM [mac_ ((.slice A2_0f (m).fr.length c2_0f)) ((.slice A2_0b (m).bk.length c2_0b)) ((.slice A2_0c (m).cr.length c2_0c)) ((.slice A2_0l (m).lp.length c2_0l)) ((.slice A2_0d (m).dr.length c2_0d)) (m), rw_ (.slice A4_0 (onL m nf nt).length c4_0) (onL m nf nt)] [bx_ g5b1 #[.int .i64 ((m).wd), .int .i64 ((m).rk), (.slice A5_0f (m).fr.length c5_0f), (.slice A5_0b (m).bk.length c5_0b), (.slice A5_0c (m).cr.length c5_0c), (.slice A5_0l (m).lp.length c5_0l), (.slice A5_0d (m).dr.length c5_0d)] 27, rw_ (.slice A8_0 (onL m nf nt).length c8_0) (countFrom (1) (onL m nf nt).length), mac_ ((.slice A10_0f (m).fr.length c10_0f)) ((.slice A10_0b (m).bk.length c10_0b)) ((.slice A10_0c (m).cr.length c10_0c)) ((.slice A10_0l (m).lp.length c10_0l)) ((.slice A10_0d (m).dr.length c10_0d)) (m)] hS15
  have sx8_0 : Sl w15 w15.heap.size (.slice A8_0 (onL m nf nt).length c8_0) (countFrom (1) (onL m nf nt).length) := Hs.rd [mac_ ((.slice A2_0f (m).fr.length c2_0f)) ((.slice A2_0b (m).bk.length c2_0b)) ((.slice A2_0c (m).cr.length c2_0c)) ((.slice A2_0l (m).lp.length c2_0l)) ((.slice A2_0d (m).dr.length c2_0d)) (m), rw_ (.slice A4_0 (onL m nf nt).length c4_0) (onL m nf nt), mac_ ((.slice A5_0f (m).fr.length c5_0f)) ((.slice A5_0b (m).bk.length c5_0b)) ((.slice A5_0c (m).cr.length c5_0c)) ((.slice A5_0l (m).lp.length c5_0l)) ((.slice A5_0d (m).dr.length c5_0d)) (Mac.mark (1) (m)), bx_ g5b1 #[.int .i64 ((m).wd), .int .i64 ((m).rk), (.slice A5_0f (m).fr.length c5_0f), (.slice A5_0b (m).bk.length c5_0b), (.slice A5_0c (m).cr.length c5_0c), (.slice A5_0l (m).lp.length c5_0l), (.slice A5_0d (m).dr.length c5_0d)] 27] [mac_ ((.slice A10_0f (m).fr.length c10_0f)) ((.slice A10_0b (m).bk.length c10_0b)) ((.slice A10_0c (m).cr.length c10_0c)) ((.slice A10_0l (m).lp.length c10_0l)) ((.slice A10_0d (m).dr.length c10_0d)) (m)] hS15
  have sx10_0 : SlM w15 w15.heap.size ((.slice A10_0f (m).fr.length c10_0f)) ((.slice A10_0b (m).bk.length c10_0b)) ((.slice A10_0c (m).cr.length c10_0c)) ((.slice A10_0l (m).lp.length c10_0l)) ((.slice A10_0d (m).dr.length c10_0d)) (m) := Hs.rdM [mac_ ((.slice A2_0f (m).fr.length c2_0f)) ((.slice A2_0b (m).bk.length c2_0b)) ((.slice A2_0c (m).cr.length c2_0c)) ((.slice A2_0l (m).lp.length c2_0l)) ((.slice A2_0d (m).dr.length c2_0d)) (m), rw_ (.slice A4_0 (onL m nf nt).length c4_0) (onL m nf nt), mac_ ((.slice A5_0f (m).fr.length c5_0f)) ((.slice A5_0b (m).bk.length c5_0b)) ((.slice A5_0c (m).cr.length c5_0c)) ((.slice A5_0l (m).lp.length c5_0l)) ((.slice A5_0d (m).dr.length c5_0d)) (Mac.mark (1) (m)), bx_ g5b1 #[.int .i64 ((m).wd), .int .i64 ((m).rk), (.slice A5_0f (m).fr.length c5_0f), (.slice A5_0b (m).bk.length c5_0b), (.slice A5_0c (m).cr.length c5_0c), (.slice A5_0l (m).lp.length c5_0l), (.slice A5_0d (m).dr.length c5_0d)] 27, rw_ (.slice A8_0 (onL m nf nt).length c8_0) (countFrom (1) (onL m nf nt).length)] [] hS15
  have HK := Lib.hid (fun w' (hw : Below w15.heap.size w15 w') => show w'.cell? ⟨w.heap.size, 0, none⟩ = some (.int .i64 ((m).wd)) ∧ w'.cell? ⟨w.heap.size, 1, none⟩ = some (.int .i64 ((m).rk)) ∧ w'.cell? ⟨w.heap.size, 2, none⟩ = some ((.slice Af0 (m).fr.length cf0)) ∧ w'.cell? ⟨w.heap.size, 3, none⟩ = some ((.slice Ab0 (m).bk.length cb0)) ∧ w'.cell? ⟨w.heap.size, 4, none⟩ = some ((.slice Ac0 (m).cr.length cc0)) ∧ w'.cell? ⟨w.heap.size, 5, none⟩ = some ((.slice Al0 (m).lp.length cl0)) ∧ w'.cell? ⟨w.heap.size, 6, none⟩ = some ((.slice Ad0 (m).dr.length cd0)) ∧ w'.cell? ⟨w.heap.size + 1, 0, none⟩ = some (.int .i64 (nf)) ∧ w'.cell? ⟨w.heap.size + 1, 1, none⟩ = some (.int .i64 (nt)) ∧ Below w15.heap.size w15 w' from ⟨by rw [hw.cell (by simp only; omega)]; exact j0, by rw [hw.cell (by simp only; omega)]; exact j1, by rw [hw.cell (by simp only; omega)]; exact j2, by rw [hw.cell (by simp only; omega)]; exact j3, by rw [hw.cell (by simp only; omega)]; exact j4, by rw [hw.cell (by simp only; omega)]; exact j5, by rw [hw.cell (by simp only; omega)]; exact j6, by rw [hw.cell (by simp only; omega)]; exact j7, by rw [hw.cell (by simp only; omega)]; exact j8, hw⟩)
  clear j0 jl0 j1 jl1 j2 jl2 j3 jl3 j4 jl4 j5 jl5 j6 jl6 j7 jl7 j8 jl8
  go_region_held3 (fun w' => w'.cell? ⟨w.heap.size, 0, none⟩ = some (.int .i64 ((m).wd)) ∧ w'.cell? ⟨w.heap.size, 1, none⟩ = some (.int .i64 ((m).rk)) ∧ w'.cell? ⟨w.heap.size, 2, none⟩ = some ((.slice Af0 (m).fr.length cf0)) ∧ w'.cell? ⟨w.heap.size, 3, none⟩ = some ((.slice Ab0 (m).bk.length cb0)) ∧ w'.cell? ⟨w.heap.size, 4, none⟩ = some ((.slice Ac0 (m).cr.length cc0)) ∧ w'.cell? ⟨w.heap.size, 5, none⟩ = some ((.slice Al0 (m).lp.length cl0)) ∧ w'.cell? ⟨w.heap.size, 6, none⟩ = some ((.slice Ad0 (m).dr.length cd0)) ∧ w'.cell? ⟨w.heap.size + 1, 0, none⟩ = some (.int .i64 (nf)) ∧ w'.cell? ⟨w.heap.size + 1, 1, none⟩ = some (.int .i64 (nt)) ∧ Below w15.heap.size w15 w')
    (first | exact HK.out _ (by first | assumption | exact Below.refl _ _ | exact drewN_below _ _ _ | exact (Below.refl _ _).drew))
    (first
      | (go_at_call_of 19 (Go.Value.agg #[.int .i64 ((m).wd), .int .i64 ((m).rk), (.slice Af0 (m).fr.length cf0), (.slice Ab0 (m).bk.length cb0), (.slice Ac0 (m).cr.length cc0), (.slice Al0 (m).lp.length cl0), (.slice Ad0 (m).dr.length cd0)]); (refine (toMac_any (gx0.below (by first | assumption | exact Below.refl _ _ | exact drewN_below _ _ _ | exact (Below.refl _ _).drew) hBx) (Nat.le_trans hBx (Below.size (w := w15) (B := w15.heap.size) (by first | assumption | exact Below.refl _ _ | exact drewN_below _ _ _ | exact (Below.refl _ _).drew))) b0.five (by omega)).mono ?_); rintro e w16 ⟨q16_0f, q16_0b, q16_0c, q16_0l, q16_0d, rfl, ho16, hq⟩; have hr16 : Below w15.heap.size w15 w16 := Below.trans (by first | assumption | exact Below.refl _ _ | exact drewN_below _ _ _ | exact (Below.refl _ _).drew) (hq.mono (Below.size (w := w15) (B := w15.heap.size) (by first | assumption | exact Below.refl _ _ | exact drewN_below _ _ _ | exact (Below.refl _ _).drew))); have so16_0 := Hs.rdM [] [] ho16; obtain ⟨A16_0f, c16_0f, rfl, -⟩ := id so16_0.fr; obtain ⟨A16_0b, c16_0b, rfl, -⟩ := id so16_0.bk; obtain ⟨A16_0c, c16_0c, rfl, -⟩ := id so16_0.cr.cells; obtain ⟨A16_0l, c16_0l, rfl, -⟩ := id so16_0.lp.cells; obtain ⟨A16_0d, c16_0d, rfl, -⟩ := id so16_0.dr; have hS16 := hS15.join hr16 ho16)
      | (go_at_call_of 24 (Go.Value.agg #[.int .i64 (nf), .int .i64 (nt)]); (refine (toNeedle_any (nf) (nt) _).mono ?_); rintro e w17 ⟨rfl, hq⟩; have hr17 : Below w15.heap.size w15 w17 := Below.trans (by first | assumption | exact Below.refl _ _ | exact drewN_below _ _ _ | exact (Below.refl _ _).drew) (hq.mono (Below.size (w := w15) (B := w15.heap.size) (by first | assumption | exact Below.refl _ _ | exact drewN_below _ _ _ | exact (Below.refl _ _).drew))); have so16_0 := (so16_0.below hq (Nat.le_refl _)).mono hq.size; have hS17 := hS16.below hq)
      | (go_at_call 30; (refine (impl_LoopsOn_any so16_0 (Nat.le_refl _)).mono ?_); rintro e w18 ⟨q18_0, rfl, ho18, hq⟩; have hr18 : Below w15.heap.size w15 w18 := Below.trans (by first | assumption | exact Below.refl _ _ | exact drewN_below _ _ _ | exact (Below.refl _ _).drew) (hq.mono (Below.size (w := w15) (B := w15.heap.size) (by first | assumption | exact Below.refl _ _ | exact drewN_below _ _ _ | exact (Below.refl _ _).drew))); have so16_0 := (so16_0.below hq (Nat.le_refl _)).mono hq.size; have hS18 := hS17.join hq (hs_ow (w := w17) ho18 hq); obtain ⟨A18_0, c18_0, rfl, -⟩ := id (ho18.sl (Nat.le_refl _)); have so18_0 := ho18.sl (Nat.le_refl _)))
  have hb18 := hb15.trans (hr18.mono hb15.size)
  clear HK hBx gx0 sx2_0 sx4_0 sx5_0 sx8_0 sx10_0
  obtain ⟨hc, hf⟩ := bcell hb18
  have lz0 : w.heap.size < w18.heap.size := by have := hb18.size; simp at this; omega
  have lz1 : w.heap.size + 1 < w18.heap.size := by have := hb18.size; simp at this; omega
  obtain ⟨kx5b1, -, lx5b1, -⟩ := Hs.bx [mac_ ((.slice A2_0f (m).fr.length c2_0f)) ((.slice A2_0b (m).bk.length c2_0b)) ((.slice A2_0c (m).cr.length c2_0c)) ((.slice A2_0l (m).lp.length c2_0l)) ((.slice A2_0d (m).dr.length c2_0d)) (m), rw_ (.slice A4_0 (onL m nf nt).length c4_0) (onL m nf nt), mac_ ((.slice A5_0f (m).fr.length c5_0f)) ((.slice A5_0b (m).bk.length c5_0b)) ((.slice A5_0c (m).cr.length c5_0c)) ((.slice A5_0l (m).lp.length c5_0l)) ((.slice A5_0d (m).dr.length c5_0d)) (Mac.mark (1) (m))] [rw_ (.slice A8_0 (onL m nf nt).length c8_0) (countFrom (1) (onL m nf nt).length), mac_ ((.slice A10_0f (m).fr.length c10_0f)) ((.slice A10_0b (m).bk.length c10_0b)) ((.slice A10_0c (m).cr.length c10_0c)) ((.slice A10_0l (m).lp.length c10_0l)) ((.slice A10_0d (m).dr.length c10_0d)) (m), mac_ ((.slice A16_0f (m).fr.length c16_0f)) ((.slice A16_0b (m).bk.length c16_0b)) ((.slice A16_0c (m).cr.length c16_0c)) ((.slice A16_0l (m).lp.length c16_0l)) ((.slice A16_0d (m).dr.length c16_0d)) (m), rw_ (.slice A18_0 (onL m nf nt).length c18_0) (onL m nf nt)] hS18
  have kx5b1_0 : w18.cell? ⟨g5b1, 0, none⟩ = some (.int .i64 ((m).wd)) := kx5b1 0
  have kx5b1_1 : w18.cell? ⟨g5b1, 1, none⟩ = some (.int .i64 ((m).rk)) := kx5b1 1
  have kx5b1_2 : w18.cell? ⟨g5b1, 2, none⟩ = some ((.slice A5_0f (m).fr.length c5_0f)) := kx5b1 2
  have kx5b1_3 : w18.cell? ⟨g5b1, 3, none⟩ = some ((.slice A5_0b (m).bk.length c5_0b)) := kx5b1 3
  have kx5b1_4 : w18.cell? ⟨g5b1, 4, none⟩ = some ((.slice A5_0c (m).cr.length c5_0c)) := kx5b1 4
  have kx5b1_5 : w18.cell? ⟨g5b1, 5, none⟩ = some ((.slice A5_0l (m).lp.length c5_0l)) := kx5b1 5
  have kx5b1_6 : w18.cell? ⟨g5b1, 6, none⟩ = some ((.slice A5_0d (m).dr.length c5_0d)) := kx5b1 6
  clear kx5b1
  go_wp2_with fail
  clear hc hf lz0 lz1 kx5b1_0 kx5b1_1 kx5b1_2 kx5b1_3 kx5b1_4 kx5b1_5 kx5b1_6 lx5b1
  refine (eqInts_yes (Hs.rd [mac_ ((.slice A2_0f (m).fr.length c2_0f)) ((.slice A2_0b (m).bk.length c2_0b)) ((.slice A2_0c (m).cr.length c2_0c)) ((.slice A2_0l (m).lp.length c2_0l)) ((.slice A2_0d (m).dr.length c2_0d)) (m), rw_ (.slice A4_0 (onL m nf nt).length c4_0) (onL m nf nt), mac_ ((.slice A5_0f (m).fr.length c5_0f)) ((.slice A5_0b (m).bk.length c5_0b)) ((.slice A5_0c (m).cr.length c5_0c)) ((.slice A5_0l (m).lp.length c5_0l)) ((.slice A5_0d (m).dr.length c5_0d)) (Mac.mark (1) (m)), bx_ g5b1 #[.int .i64 ((m).wd), .int .i64 ((m).rk), (.slice A5_0f (m).fr.length c5_0f), (.slice A5_0b (m).bk.length c5_0b), (.slice A5_0c (m).cr.length c5_0c), (.slice A5_0l (m).lp.length c5_0l), (.slice A5_0d (m).dr.length c5_0d)] 27, rw_ (.slice A8_0 (onL m nf nt).length c8_0) (countFrom (1) (onL m nf nt).length), mac_ ((.slice A10_0f (m).fr.length c10_0f)) ((.slice A10_0b (m).bk.length c10_0b)) ((.slice A10_0c (m).cr.length c10_0c)) ((.slice A10_0l (m).lp.length c10_0l)) ((.slice A10_0d (m).dr.length c10_0d)) (m), mac_ ((.slice A16_0f (m).fr.length c16_0f)) ((.slice A16_0b (m).bk.length c16_0b)) ((.slice A16_0c (m).cr.length c16_0c)) ((.slice A16_0l (m).lp.length c16_0l)) ((.slice A16_0d (m).dr.length c16_0d)) (m)] [] hS18) (Hs.rd [mac_ ((.slice A2_0f (m).fr.length c2_0f)) ((.slice A2_0b (m).bk.length c2_0b)) ((.slice A2_0c (m).cr.length c2_0c)) ((.slice A2_0l (m).lp.length c2_0l)) ((.slice A2_0d (m).dr.length c2_0d)) (m)] [mac_ ((.slice A5_0f (m).fr.length c5_0f)) ((.slice A5_0b (m).bk.length c5_0b)) ((.slice A5_0c (m).cr.length c5_0c)) ((.slice A5_0l (m).lp.length c5_0l)) ((.slice A5_0d (m).dr.length c5_0d)) (Mac.mark (1) (m)), bx_ g5b1 #[.int .i64 ((m).wd), .int .i64 ((m).rk), (.slice A5_0f (m).fr.length c5_0f), (.slice A5_0b (m).bk.length c5_0b), (.slice A5_0c (m).cr.length c5_0c), (.slice A5_0l (m).lp.length c5_0l), (.slice A5_0d (m).dr.length c5_0d)] 27, rw_ (.slice A8_0 (onL m nf nt).length c8_0) (countFrom (1) (onL m nf nt).length), mac_ ((.slice A10_0f (m).fr.length c10_0f)) ((.slice A10_0b (m).bk.length c10_0b)) ((.slice A10_0c (m).cr.length c10_0c)) ((.slice A10_0l (m).lp.length c10_0l)) ((.slice A10_0d (m).dr.length c10_0d)) (m), mac_ ((.slice A16_0f (m).fr.length c16_0f)) ((.slice A16_0b (m).bk.length c16_0b)) ((.slice A16_0c (m).cr.length c16_0c)) ((.slice A16_0l (m).lp.length c16_0l)) ((.slice A16_0d (m).dr.length c16_0d)) (m), rw_ (.slice A18_0 (onL m nf nt).length c18_0) (onL m nf nt)] hS18) rfl).mono ?_
  rintro e w19 ⟨rfl, hq⟩
  have hb19 := hb18.trans (hq.mono hb18.size)
  have hS19 := hS18.below hq
  clear hb18 hS18 hq
  obtain ⟨hc, hf⟩ := bcell hb19
  have lz0 : w.heap.size < w19.heap.size := by have := hb19.size; simp at this; omega
  have lz1 : w.heap.size + 1 < w19.heap.size := by have := hb19.size; simp at this; omega
  obtain ⟨kx5b1, -, lx5b1, -⟩ := Hs.bx [mac_ ((.slice A2_0f (m).fr.length c2_0f)) ((.slice A2_0b (m).bk.length c2_0b)) ((.slice A2_0c (m).cr.length c2_0c)) ((.slice A2_0l (m).lp.length c2_0l)) ((.slice A2_0d (m).dr.length c2_0d)) (m), rw_ (.slice A4_0 (onL m nf nt).length c4_0) (onL m nf nt), mac_ ((.slice A5_0f (m).fr.length c5_0f)) ((.slice A5_0b (m).bk.length c5_0b)) ((.slice A5_0c (m).cr.length c5_0c)) ((.slice A5_0l (m).lp.length c5_0l)) ((.slice A5_0d (m).dr.length c5_0d)) (Mac.mark (1) (m))] [rw_ (.slice A8_0 (onL m nf nt).length c8_0) (countFrom (1) (onL m nf nt).length), mac_ ((.slice A10_0f (m).fr.length c10_0f)) ((.slice A10_0b (m).bk.length c10_0b)) ((.slice A10_0c (m).cr.length c10_0c)) ((.slice A10_0l (m).lp.length c10_0l)) ((.slice A10_0d (m).dr.length c10_0d)) (m), mac_ ((.slice A16_0f (m).fr.length c16_0f)) ((.slice A16_0b (m).bk.length c16_0b)) ((.slice A16_0c (m).cr.length c16_0c)) ((.slice A16_0l (m).lp.length c16_0l)) ((.slice A16_0d (m).dr.length c16_0d)) (m), rw_ (.slice A18_0 (onL m nf nt).length c18_0) (onL m nf nt)] hS19
  have kx5b1_0 : w19.cell? ⟨g5b1, 0, none⟩ = some (.int .i64 ((m).wd)) := kx5b1 0
  have kx5b1_1 : w19.cell? ⟨g5b1, 1, none⟩ = some (.int .i64 ((m).rk)) := kx5b1 1
  have kx5b1_2 : w19.cell? ⟨g5b1, 2, none⟩ = some ((.slice A5_0f (m).fr.length c5_0f)) := kx5b1 2
  have kx5b1_3 : w19.cell? ⟨g5b1, 3, none⟩ = some ((.slice A5_0b (m).bk.length c5_0b)) := kx5b1 3
  have kx5b1_4 : w19.cell? ⟨g5b1, 4, none⟩ = some ((.slice A5_0c (m).cr.length c5_0c)) := kx5b1 4
  have kx5b1_5 : w19.cell? ⟨g5b1, 5, none⟩ = some ((.slice A5_0l (m).lp.length c5_0l)) := kx5b1 5
  have kx5b1_6 : w19.cell? ⟨g5b1, 6, none⟩ = some ((.slice A5_0d (m).dr.length c5_0d)) := kx5b1 6
  clear kx5b1
  go_wp2_with fail
  clear hc hf lz0 lz1 kx5b1_0 kx5b1_1 kx5b1_2 kx5b1_3 kx5b1_4 kx5b1_5 kx5b1_6 lx5b1
  refine (heldInts_quiet (Hs.rd [mac_ ((.slice A2_0f (m).fr.length c2_0f)) ((.slice A2_0b (m).bk.length c2_0b)) ((.slice A2_0c (m).cr.length c2_0c)) ((.slice A2_0l (m).lp.length c2_0l)) ((.slice A2_0d (m).dr.length c2_0d)) (m), rw_ (.slice A4_0 (onL m nf nt).length c4_0) (onL m nf nt), mac_ ((.slice A5_0f (m).fr.length c5_0f)) ((.slice A5_0b (m).bk.length c5_0b)) ((.slice A5_0c (m).cr.length c5_0c)) ((.slice A5_0l (m).lp.length c5_0l)) ((.slice A5_0d (m).dr.length c5_0d)) (Mac.mark (1) (m)), bx_ g5b1 #[.int .i64 ((m).wd), .int .i64 ((m).rk), (.slice A5_0f (m).fr.length c5_0f), (.slice A5_0b (m).bk.length c5_0b), (.slice A5_0c (m).cr.length c5_0c), (.slice A5_0l (m).lp.length c5_0l), (.slice A5_0d (m).dr.length c5_0d)] 27] [mac_ ((.slice A10_0f (m).fr.length c10_0f)) ((.slice A10_0b (m).bk.length c10_0b)) ((.slice A10_0c (m).cr.length c10_0c)) ((.slice A10_0l (m).lp.length c10_0l)) ((.slice A10_0d (m).dr.length c10_0d)) (m), mac_ ((.slice A16_0f (m).fr.length c16_0f)) ((.slice A16_0b (m).bk.length c16_0b)) ((.slice A16_0c (m).cr.length c16_0c)) ((.slice A16_0l (m).lp.length c16_0l)) ((.slice A16_0d (m).dr.length c16_0d)) (m), rw_ (.slice A18_0 (onL m nf nt).length c18_0) (onL m nf nt)] hS19) (by omega) (by omega) (by omega)).mono ?_
  rintro e w20 ⟨rfl, hq⟩
  have hb20 := hb19.trans (hq.mono hb19.size)
  have hS20 := hS19.below hq
  clear hb19 hS19 hq
  obtain ⟨hc, hf⟩ := bcell hb20
  have lz0 : w.heap.size < w20.heap.size := by have := hb20.size; simp at this; omega
  have lz1 : w.heap.size + 1 < w20.heap.size := by have := hb20.size; simp at this; omega
  obtain ⟨kx5b1, -, lx5b1, -⟩ := Hs.bx [mac_ ((.slice A2_0f (m).fr.length c2_0f)) ((.slice A2_0b (m).bk.length c2_0b)) ((.slice A2_0c (m).cr.length c2_0c)) ((.slice A2_0l (m).lp.length c2_0l)) ((.slice A2_0d (m).dr.length c2_0d)) (m), rw_ (.slice A4_0 (onL m nf nt).length c4_0) (onL m nf nt), mac_ ((.slice A5_0f (m).fr.length c5_0f)) ((.slice A5_0b (m).bk.length c5_0b)) ((.slice A5_0c (m).cr.length c5_0c)) ((.slice A5_0l (m).lp.length c5_0l)) ((.slice A5_0d (m).dr.length c5_0d)) (Mac.mark (1) (m))] [rw_ (.slice A8_0 (onL m nf nt).length c8_0) (countFrom (1) (onL m nf nt).length), mac_ ((.slice A10_0f (m).fr.length c10_0f)) ((.slice A10_0b (m).bk.length c10_0b)) ((.slice A10_0c (m).cr.length c10_0c)) ((.slice A10_0l (m).lp.length c10_0l)) ((.slice A10_0d (m).dr.length c10_0d)) (m), mac_ ((.slice A16_0f (m).fr.length c16_0f)) ((.slice A16_0b (m).bk.length c16_0b)) ((.slice A16_0c (m).cr.length c16_0c)) ((.slice A16_0l (m).lp.length c16_0l)) ((.slice A16_0d (m).dr.length c16_0d)) (m), rw_ (.slice A18_0 (onL m nf nt).length c18_0) (onL m nf nt)] hS20
  have kx5b1_0 : w20.cell? ⟨g5b1, 0, none⟩ = some (.int .i64 ((m).wd)) := kx5b1 0
  have kx5b1_1 : w20.cell? ⟨g5b1, 1, none⟩ = some (.int .i64 ((m).rk)) := kx5b1 1
  have kx5b1_2 : w20.cell? ⟨g5b1, 2, none⟩ = some ((.slice A5_0f (m).fr.length c5_0f)) := kx5b1 2
  have kx5b1_3 : w20.cell? ⟨g5b1, 3, none⟩ = some ((.slice A5_0b (m).bk.length c5_0b)) := kx5b1 3
  have kx5b1_4 : w20.cell? ⟨g5b1, 4, none⟩ = some ((.slice A5_0c (m).cr.length c5_0c)) := kx5b1 4
  have kx5b1_5 : w20.cell? ⟨g5b1, 5, none⟩ = some ((.slice A5_0l (m).lp.length c5_0l)) := kx5b1 5
  have kx5b1_6 : w20.cell? ⟨g5b1, 6, none⟩ = some ((.slice A5_0d (m).dr.length c5_0d)) := kx5b1 6
  clear kx5b1
  go_wp2_with fail
  clear hc hf lz0 lz1 kx5b1_0 kx5b1_1 kx5b1_2 kx5b1_3 kx5b1_4 kx5b1_5 kx5b1_6 lx5b1
  go_ret
  exact ⟨rfl, hA0.trans (hb20.mono hB0)⟩

set_option maxRecDepth 100000 in
theorem lifted (os : Os) (started : os.Started) (H : Type) (enc : TypeId × Value → H) :
    ReturnsInHanded {} Try.checked os 8 .any (Rows.fnExactLoopsOnSpec.pre6 enc Try.prog Try.f8 Rows.fnExactLoopsOnRow.domain false) (Rows.fnExactLoopsOnSpec.post enc Try.prog Try.f8 false true false false) := by
  refine returnsInHanded_of_change (C := Try.checked) own_knob started (by kernel_rfl) Try.func8
    (ChangeSpec.witness6 (enc := enc) (C := Try.checked) false ⟨#[], #[.agg #[.int .i64 0, .int .i64 0, .slice none 0 0, .slice none 0 0, .slice none 0 0, .slice none 0 0, .slice none 0 0], .agg #[.int .i64 0, .int .i64 0]], []⟩ 8 (by kernel_rfl) (by kernel_rfl) (by kernel_rfl) (by kernel_rfl)) ?_
  intro W base args ds gs before hval0 hW hcnd _
  have hval : ∀ (j : Nat) t v, Try.f8.params[j]? = some t → args[j]? = some v → Value.okWide Try.prog W .any base t v := hval0
  have hW' := hW
  obtain ⟨p, q, hA0, hV, rfl, hfz, hnd⟩ := hW
  have hA : DataW.TrodAll enc Try.prog W 0 (fun _ => true) true Try.f8.params.toList args.toList ds p := hA0
  rw [Try.params8] at hA hval
  obtain ⟨v0, vs0, d0, ds0, p0, q0, hargs, rfl, rfl, h0, r0⟩ := trodAll_cons hA
  obtain ⟨v1, vs1, d1, ds1, p1, q1, rfl, rfl, rfl, h1, r1⟩ := trodAll_cons r0
  obtain ⟨rfl, rfl, rfl⟩ := trodAll_nil r1
  obtain rfl : args = #[v0, v1] := by cases args; simp_all
  obtain ⟨rfl, rfl⟩ := trodVars_none hV
  have k0 := h0
  have lt0 : ∀ x ∈ p0, x.block < W.heap.size := by obtain ⟨m, hm⟩ := k0; exact DataW.trod_lt m _ _ _ hm
  have k1 := h1
  have lt1 : ∀ x ∈ p1, x.block < W.heap.size := by obtain ⟨m, hm⟩ := k1; exact DataW.trod_lt m _ _ _ hm
  obtain ⟨yf0, yb0, yc0, yl0, yd0, m, rfl, s0, b0⟩ := open_Mac (hval 0 36 v0 rfl rfl) h0
  obtain ⟨nf, nt, rfl, bf1, bt1⟩ := open_Needle (hval 1 43 v1 rfl rfl) h1
  clear hA0 hval0
  refine (walk yf0 yb0 yc0 yl0 yd0 m nf nt W s0 b0 bf1 bt1).mono fun e W' ⟨he, bel⟩ => ?_
  subst he
  exact ⟨_, rfl, _, _, _, [], _, [], hW', trodAll_mk1 (shut_bool Try.underlying4 _), (trodAll_cons_mk (Below.trod laid_out (by kernel_rfl) (of_decide_eq_true (by kernel_rfl)) k0 bel lt0) (trodAll_cons_mk (Below.trod laid_out (by kernel_rfl) (of_decide_eq_true (by kernel_rfl)) k1 bel lt1) trodAll_mk0)), rfl, bel.frame _, fun h => by cases h⟩

/-- The statement. -/
theorem proved : Rows.FnExactLoopsOnSaid :=
  OpenClaim.holds_of_wide 8 Try.f8 rfl rfl rfl rfl rfl rfl rfl ⟨rfl, rfl, rfl, rfl, rfl⟩ rfl rfl rfl rfl rfl (by kernel_rfl) Try.func8 (by kernel_rfl)
    (of_decide_eq_true (by kernel_rfl)) (by unfold Func.isWrapper; first | (rw [if_pos (by decide +kernel)]; kernel_rfl) | (rw [if_neg (by decide +kernel)]; exact ⟨rfl, rfl⟩))
    (fun os started H enc _ => lifted os started H enc)
#print axioms proved
end Go.Proofs.Ytbefioljddhhpaa.fnExactLoopsOn
