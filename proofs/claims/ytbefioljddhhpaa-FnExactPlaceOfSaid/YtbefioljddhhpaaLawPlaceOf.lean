/-
  Proved here: for every input the law FnExactPlaceOf returns true, and every argument reads behind the call as it read before. No condition.
-/
import Derived.Test.YtbefioljddhhpaaOpen
import Derived.Test.YtbefioljddhhpaaMac3
import Derived.Test.YtbefioljddhhpaaMop
import Derived.Test.YtbefioljddhhpaaVm9
import Derived.ProofKit
import Derived.OpenShut
import Derived.ShutString
import Derived.ChangeOld
import Derived.Below
import Derived.Deep.RegionHeld3
import Derived.Deep.DeepCutAuto
namespace Go.Proofs.Ytbefioljddhhpaa.fnExactPlaceOf
set_option maxRecDepth 10000
open Go.ChangeShapes Go.WideShapes Go.ChangeAt Go.RowKit
open Go.ChangeMaps (open_string shut_string)
set_option linter.unusedVariables false

set_option maxRecDepth 100000 in
set_option maxHeartbeats 4000000 in
theorem walk (vf0 vb0 vc0 vl0 vd0 : Value) (m : Mac) (nf nt : Int) (w : World) (h0 : SlM w w.heap.size vf0 vb0 vc0 vl0 vd0 m) (b0 : MacR m) (bf1 : R64 nf) (bt1 : R64 nt) :
    Calls Try.prog 6 #[.agg #[.int .i64 (m).wd, .int .i64 (m).rk, vf0, vb0, vc0, vl0, vd0], .agg #[.int .i64 nf, .int .i64 nt]] w fun e w' => e = .returned (.bool true) ∧ Below w.heap.size w w' := by
  obtain ⟨Af0, cf0, rfl, -⟩ := id h0.fr
  obtain ⟨Ab0, cb0, rfl, -⟩ := id h0.bk
  obtain ⟨Ac0, cc0, rfl, -⟩ := id h0.cr.cells
  obtain ⟨Al0, cl0, rfl, -⟩ := id h0.lp.cells
  obtain ⟨Ad0, cd0, rfl, -⟩ := id h0.dr
  have hA0 : Below w.heap.size w ((w.alloc (.cells #[.int .i64 ((m).wd), .int .i64 ((m).rk), (.slice Af0 (m).fr.length cf0), (.slice Ab0 (m).bk.length cb0), (.slice Ac0 (m).cr.length cc0), (.slice Al0 (m).lp.length cl0), (.slice Ad0 (m).dr.length cd0)] 36)).alloc (.cells #[.int .i64 (nf), .int .i64 (nt)] 43)) := ((al1 w (.cells #[.int .i64 ((m).wd), .int .i64 ((m).rk), (.slice Af0 (m).fr.length cf0), (.slice Ab0 (m).bk.length cb0), (.slice Ac0 (m).cr.length cc0), (.slice Al0 (m).lp.length cl0), (.slice Ad0 (m).dr.length cd0)] 36)).alloc (by simp) (.cells #[.int .i64 (nf), .int .i64 (nt)] 43))
  have hB0 : w.heap.size ≤ ((w.alloc (.cells #[.int .i64 ((m).wd), .int .i64 ((m).rk), (.slice Af0 (m).fr.length cf0), (.slice Ab0 (m).bk.length cb0), (.slice Ac0 (m).cr.length cc0), (.slice Al0 (m).lp.length cl0), (.slice Ad0 (m).dr.length cd0)] 36)).alloc (.cells #[.int .i64 (nf), .int .i64 (nt)] 43)).heap.size := hA0.size
  have g0 := h0.below hA0 (Nat.le_refl _)
  clear h0
  have hb0 := Below.refl ((w.alloc (.cells #[.int .i64 ((m).wd), .int .i64 ((m).rk), (.slice Af0 (m).fr.length cf0), (.slice Ab0 (m).bk.length cb0), (.slice Ac0 (m).cr.length cc0), (.slice Al0 (m).lp.length cl0), (.slice Ad0 (m).dr.length cd0)] 36)).alloc (.cells #[.int .i64 (nf), .int .i64 (nt)] 43)).heap.size ((w.alloc (.cells #[.int .i64 ((m).wd), .int .i64 ((m).rk), (.slice Af0 (m).fr.length cf0), (.slice Ab0 (m).bk.length cb0), (.slice Ac0 (m).cr.length cc0), (.slice Al0 (m).lp.length cl0), (.slice Ad0 (m).dr.length cd0)] 36)).alloc (.cells #[.int .i64 (nf), .int .i64 (nt)] 43))
  have hS0 : Hs ((w.alloc (.cells #[.int .i64 ((m).wd), .int .i64 ((m).rk), (.slice Af0 (m).fr.length cf0), (.slice Ab0 (m).bk.length cb0), (.slice Ac0 (m).cr.length cc0), (.slice Al0 (m).lp.length cl0), (.slice Ad0 (m).dr.length cd0)] 36)).alloc (.cells #[.int .i64 (nf), .int .i64 (nt)] 43)) ((w.alloc (.cells #[.int .i64 ((m).wd), .int .i64 ((m).rk), (.slice Af0 (m).fr.length cf0), (.slice Ab0 (m).bk.length cb0), (.slice Ac0 (m).cr.length cc0), (.slice Al0 (m).lp.length cl0), (.slice Ad0 (m).dr.length cd0)] 36)).alloc (.cells #[.int .i64 (nf), .int .i64 (nt)] 43)).heap.size [] := Hs.nil _
  by_cases z0 : (1048576 : Int) < (m.size : Int)
  · go_enter Try.func6, Try.ntmps6
    go_wp2_with fail
    refine (szMac_no (g0.below hb0 hB0) (Nat.le_trans hB0 hb0.size) (by omega) (by omega) z0).mono ?_
    rintro e w1 ⟨rfl, hq⟩
    have hb1 := hb0.trans (hq.mono hb0.size)
    have hS1 := hS0.below hq
    clear hb0 hS0 hq
    obtain ⟨hc, hf⟩ := bcell hb1
    have lz0 : w.heap.size < w1.heap.size := by have := hb1.size; simp at this; omega
    have lz1 : w.heap.size + 1 < w1.heap.size := by have := hb1.size; simp at this; omega
    go_wp2_with fail
    clear hc hf lz0 lz1
    go_ret
    exact ⟨rfl, hA0.trans (hb1.mono hB0)⟩
  have zl0 : ((m.size : Int) : Int) ≤ 1048576 := by omega
  go_enter Try.func6, Try.ntmps6
  go_wp2_with fail
  refine (szMac_yes (g0.below hb0 hB0) (Nat.le_trans hB0 hb0.size) (by omega) (by omega) (by omega)).mono ?_
  rintro e w1 ⟨rfl, hq⟩
  have hb1 := hb0.trans (hq.mono hb0.size)
  have hS1 := hS0.below hq
  clear hb0 hS0 hq
  obtain ⟨hc, hf⟩ := bcell hb1
  have lz0 : w.heap.size < w1.heap.size := by have := hb1.size; simp at this; omega
  have lz1 : w.heap.size + 1 < w1.heap.size := by have := hb1.size; simp at this; omega
  go_wp2_with fail
  clear hc hf lz0 lz1
  have j0 : w1.cell? ⟨w.heap.size, 0, none⟩ = some (.int .i64 ((m).wd)) := by rw [(bcell hb1).1 _ _ (by simp; try omega)]; first | (simp; done) | simp [World.cell?_alloc_lt]
  have jl0 : w.heap.size < w1.heap.size := block_lt_of_cell j0
  have j1 : w1.cell? ⟨w.heap.size, 1, none⟩ = some (.int .i64 ((m).rk)) := by rw [(bcell hb1).1 _ _ (by simp; try omega)]; first | (simp; done) | simp [World.cell?_alloc_lt]
  have jl1 : w.heap.size < w1.heap.size := block_lt_of_cell j1
  have j2 : w1.cell? ⟨w.heap.size, 2, none⟩ = some ((.slice Af0 (m).fr.length cf0)) := by rw [(bcell hb1).1 _ _ (by simp; try omega)]; first | (simp; done) | simp [World.cell?_alloc_lt]
  have jl2 : w.heap.size < w1.heap.size := block_lt_of_cell j2
  have j3 : w1.cell? ⟨w.heap.size, 3, none⟩ = some ((.slice Ab0 (m).bk.length cb0)) := by rw [(bcell hb1).1 _ _ (by simp; try omega)]; first | (simp; done) | simp [World.cell?_alloc_lt]
  have jl3 : w.heap.size < w1.heap.size := block_lt_of_cell j3
  have j4 : w1.cell? ⟨w.heap.size, 4, none⟩ = some ((.slice Ac0 (m).cr.length cc0)) := by rw [(bcell hb1).1 _ _ (by simp; try omega)]; first | (simp; done) | simp [World.cell?_alloc_lt]
  have jl4 : w.heap.size < w1.heap.size := block_lt_of_cell j4
  have j5 : w1.cell? ⟨w.heap.size, 5, none⟩ = some ((.slice Al0 (m).lp.length cl0)) := by rw [(bcell hb1).1 _ _ (by simp; try omega)]; first | (simp; done) | simp [World.cell?_alloc_lt]
  have jl5 : w.heap.size < w1.heap.size := block_lt_of_cell j5
  have j6 : w1.cell? ⟨w.heap.size, 6, none⟩ = some ((.slice Ad0 (m).dr.length cd0)) := by rw [(bcell hb1).1 _ _ (by simp; try omega)]; first | (simp; done) | simp [World.cell?_alloc_lt]
  have jl6 : w.heap.size < w1.heap.size := block_lt_of_cell j6
  have j7 : w1.cell? ⟨w.heap.size + 1, 0, none⟩ = some (.int .i64 (nf)) := by rw [(bcell hb1).1 _ _ (by simp; try omega)]; first | (simp; done) | simp [World.cell?_alloc_lt]
  have jl7 : w.heap.size + 1 < w1.heap.size := block_lt_of_cell j7
  have j8 : w1.cell? ⟨w.heap.size + 1, 1, none⟩ = some (.int .i64 (nt)) := by rw [(bcell hb1).1 _ _ (by simp; try omega)]; first | (simp; done) | simp [World.cell?_alloc_lt]
  have jl8 : w.heap.size + 1 < w1.heap.size := block_lt_of_cell j8
  have hBx := Nat.le_trans hB0 hb1.size
  have gx0 := g0.below hb1 hB0
  have HK := Lib.hid (fun w' (hw : Below w1.heap.size w1 w') => show w'.cell? ⟨w.heap.size, 0, none⟩ = some (.int .i64 ((m).wd)) ∧ w'.cell? ⟨w.heap.size, 1, none⟩ = some (.int .i64 ((m).rk)) ∧ w'.cell? ⟨w.heap.size, 2, none⟩ = some ((.slice Af0 (m).fr.length cf0)) ∧ w'.cell? ⟨w.heap.size, 3, none⟩ = some ((.slice Ab0 (m).bk.length cb0)) ∧ w'.cell? ⟨w.heap.size, 4, none⟩ = some ((.slice Ac0 (m).cr.length cc0)) ∧ w'.cell? ⟨w.heap.size, 5, none⟩ = some ((.slice Al0 (m).lp.length cl0)) ∧ w'.cell? ⟨w.heap.size, 6, none⟩ = some ((.slice Ad0 (m).dr.length cd0)) ∧ w'.cell? ⟨w.heap.size + 1, 0, none⟩ = some (.int .i64 (nf)) ∧ w'.cell? ⟨w.heap.size + 1, 1, none⟩ = some (.int .i64 (nt)) ∧ Below w1.heap.size w1 w' from ⟨by rw [hw.cell (by simp only; omega)]; exact j0, by rw [hw.cell (by simp only; omega)]; exact j1, by rw [hw.cell (by simp only; omega)]; exact j2, by rw [hw.cell (by simp only; omega)]; exact j3, by rw [hw.cell (by simp only; omega)]; exact j4, by rw [hw.cell (by simp only; omega)]; exact j5, by rw [hw.cell (by simp only; omega)]; exact j6, by rw [hw.cell (by simp only; omega)]; exact j7, by rw [hw.cell (by simp only; omega)]; exact j8, hw⟩)
  clear j0 jl0 j1 jl1 j2 jl2 j3 jl3 j4 jl4 j5 jl5 j6 jl6 j7 jl7 j8 jl8
  go_region_held3 (fun w' => w'.cell? ⟨w.heap.size, 0, none⟩ = some (.int .i64 ((m).wd)) ∧ w'.cell? ⟨w.heap.size, 1, none⟩ = some (.int .i64 ((m).rk)) ∧ w'.cell? ⟨w.heap.size, 2, none⟩ = some ((.slice Af0 (m).fr.length cf0)) ∧ w'.cell? ⟨w.heap.size, 3, none⟩ = some ((.slice Ab0 (m).bk.length cb0)) ∧ w'.cell? ⟨w.heap.size, 4, none⟩ = some ((.slice Ac0 (m).cr.length cc0)) ∧ w'.cell? ⟨w.heap.size, 5, none⟩ = some ((.slice Al0 (m).lp.length cl0)) ∧ w'.cell? ⟨w.heap.size, 6, none⟩ = some ((.slice Ad0 (m).dr.length cd0)) ∧ w'.cell? ⟨w.heap.size + 1, 0, none⟩ = some (.int .i64 (nf)) ∧ w'.cell? ⟨w.heap.size + 1, 1, none⟩ = some (.int .i64 (nt)) ∧ Below w1.heap.size w1 w')
    (first | exact HK.out _ (by first | assumption | exact Below.refl _ _ | exact drewN_below _ _ _ | exact (Below.refl _ _).drew))
    (first
      | (go_at_call_of 19 (Go.Value.agg #[.int .i64 ((m).wd), .int .i64 ((m).rk), (.slice Af0 (m).fr.length cf0), (.slice Ab0 (m).bk.length cb0), (.slice Ac0 (m).cr.length cc0), (.slice Al0 (m).lp.length cl0), (.slice Ad0 (m).dr.length cd0)]); (refine (toMac_any (gx0.below (by first | assumption | exact Below.refl _ _ | exact drewN_below _ _ _ | exact (Below.refl _ _).drew) hBx) (Nat.le_trans hBx (Below.size (w := w1) (B := w1.heap.size) (by first | assumption | exact Below.refl _ _ | exact drewN_below _ _ _ | exact (Below.refl _ _).drew))) b0.five (by omega)).mono ?_); rintro e w2 ⟨q2_0f, q2_0b, q2_0c, q2_0l, q2_0d, rfl, ho2, hq⟩; have hr2 : Below w1.heap.size w1 w2 := Below.trans (by first | assumption | exact Below.refl _ _ | exact drewN_below _ _ _ | exact (Below.refl _ _).drew) (hq.mono (Below.size (w := w1) (B := w1.heap.size) (by first | assumption | exact Below.refl _ _ | exact drewN_below _ _ _ | exact (Below.refl _ _).drew))); have so2_0 := Hs.rdM [] [] ho2; obtain ⟨A2_0f, c2_0f, rfl, -⟩ := id so2_0.fr; obtain ⟨A2_0b, c2_0b, rfl, -⟩ := id so2_0.bk; obtain ⟨A2_0c, c2_0c, rfl, -⟩ := id so2_0.cr.cells; obtain ⟨A2_0l, c2_0l, rfl, -⟩ := id so2_0.lp.cells; obtain ⟨A2_0d, c2_0d, rfl, -⟩ := id so2_0.dr; have hS2 := hS1.join hr2 ho2)
      | (go_at_call_of 24 (Go.Value.agg #[.int .i64 (nf), .int .i64 (nt)]); (refine (toNeedle_any (nf) (nt) _).mono ?_); rintro e w3 ⟨rfl, hq⟩; have hr3 : Below w1.heap.size w1 w3 := Below.trans (by first | assumption | exact Below.refl _ _ | exact drewN_below _ _ _ | exact (Below.refl _ _).drew) (hq.mono (Below.size (w := w1) (B := w1.heap.size) (by first | assumption | exact Below.refl _ _ | exact drewN_below _ _ _ | exact (Below.refl _ _).drew))); have so2_0 := (so2_0.below hq (Nat.le_refl _)).mono hq.size; have hS3 := hS2.below hq)
      | (go_at_call 23; (refine (spec_PlaceOf_any so2_0 (Nat.le_refl _) (small_of (by omega))).mono ?_); rintro e w4 ⟨rfl, hq⟩; have hr4 : Below w1.heap.size w1 w4 := Below.trans (by first | assumption | exact Below.refl _ _ | exact drewN_below _ _ _ | exact (Below.refl _ _).drew) (hq.mono (Below.size (w := w1) (B := w1.heap.size) (by first | assumption | exact Below.refl _ _ | exact drewN_below _ _ _ | exact (Below.refl _ _).drew))); have so2_0 := (so2_0.below hq (Nat.le_refl _)).mono hq.size; have hS4 := hS3.below hq))
  have hb4 := hb1.trans (hr4.mono hb1.size)
  clear HK hBx gx0 
  obtain ⟨hc, hf⟩ := bcell hb4
  have lz0 : w.heap.size < w4.heap.size := by have := hb4.size; simp at this; omega
  have lz1 : w.heap.size + 1 < w4.heap.size := by have := hb4.size; simp at this; omega
  go_wp2_with fail
  clear hc hf lz0 lz1
  refine (toMac_any (g0.below hb4 hB0) (Nat.le_trans hB0 hb4.size) b0.five (by omega)).mono ?_
  rintro e w5 ⟨q5_0f, q5_0b, q5_0c, q5_0l, q5_0d, rfl, ho5, hq⟩
  have hb5 := hb4.trans (hq.mono hb4.size)
  have hS5 := hS4.join hq ho5
  clear hb4 hS4 hq ho5
  obtain ⟨A5_0f, c5_0f, rfl, -⟩ := id (Hs.rdM [mac_ ((.slice A2_0f (m).fr.length c2_0f)) ((.slice A2_0b (m).bk.length c2_0b)) ((.slice A2_0c (m).cr.length c2_0c)) ((.slice A2_0l (m).lp.length c2_0l)) ((.slice A2_0d (m).dr.length c2_0d)) (m)] [] hS5).fr
  obtain ⟨A5_0b, c5_0b, rfl, -⟩ := id (Hs.rdM [mac_ ((.slice A2_0f (m).fr.length c2_0f)) ((.slice A2_0b (m).bk.length c2_0b)) ((.slice A2_0c (m).cr.length c2_0c)) ((.slice A2_0l (m).lp.length c2_0l)) ((.slice A2_0d (m).dr.length c2_0d)) (m)] [] hS5).bk
  obtain ⟨A5_0c, c5_0c, rfl, -⟩ := id (Hs.rdM [mac_ ((.slice A2_0f (m).fr.length c2_0f)) ((.slice A2_0b (m).bk.length c2_0b)) ((.slice A2_0c (m).cr.length c2_0c)) ((.slice A2_0l (m).lp.length c2_0l)) ((.slice A2_0d (m).dr.length c2_0d)) (m)] [] hS5).cr.cells
  obtain ⟨A5_0l, c5_0l, rfl, -⟩ := id (Hs.rdM [mac_ ((.slice A2_0f (m).fr.length c2_0f)) ((.slice A2_0b (m).bk.length c2_0b)) ((.slice A2_0c (m).cr.length c2_0c)) ((.slice A2_0l (m).lp.length c2_0l)) ((.slice A2_0d (m).dr.length c2_0d)) (m)] [] hS5).lp.cells
  obtain ⟨A5_0d, c5_0d, rfl, -⟩ := id (Hs.rdM [mac_ ((.slice A2_0f (m).fr.length c2_0f)) ((.slice A2_0b (m).bk.length c2_0b)) ((.slice A2_0c (m).cr.length c2_0c)) ((.slice A2_0l (m).lp.length c2_0l)) ((.slice A2_0d (m).dr.length c2_0d)) (m)] [] hS5).dr
  obtain ⟨hc, hf⟩ := bcell hb5
  have lz0 : w.heap.size < w5.heap.size := by have := hb5.size; simp at this; omega
  have lz1 : w.heap.size + 1 < w5.heap.size := by have := hb5.size; simp at this; omega
  go_wp2_with fail
  clear hc hf lz0 lz1
  have hS5b1 := hS5.join (al1 _ _) (hs_bx w5 #[.int .i64 ((m).wd), .int .i64 ((m).rk), (.slice A5_0f (m).fr.length c5_0f), (.slice A5_0b (m).bk.length c5_0b), (.slice A5_0c (m).cr.length c5_0c), (.slice A5_0l (m).lp.length c5_0l), (.slice A5_0d (m).dr.length c5_0d)] 27)
  have hb5b1 := hb5.trans ((al1 w5 (.cells #[.int .i64 ((m).wd), .int .i64 ((m).rk), (.slice A5_0f (m).fr.length c5_0f), (.slice A5_0b (m).bk.length c5_0b), (.slice A5_0c (m).cr.length c5_0c), (.slice A5_0l (m).lp.length c5_0l), (.slice A5_0d (m).dr.length c5_0d)] 27)).mono hb5.size)
  clear hb5 hS5
  generalize hg5b1 : w5.heap.size = g5b1 at *
  generalize hw5b1 : w5.alloc (.cells #[.int .i64 ((m).wd), .int .i64 ((m).rk), (.slice A5_0f (m).fr.length c5_0f), (.slice A5_0b (m).bk.length c5_0b), (.slice A5_0c (m).cr.length c5_0c), (.slice A5_0l (m).lp.length c5_0l), (.slice A5_0d (m).dr.length c5_0d)] 27) = w6 at *
  clear hg5b1 hw5b1
  have hS6 := hS5b1
  have hb6 := hb5b1
  clear hS5b1 hb5b1
  have j0 : w6.cell? ⟨g5b1, 0, none⟩ = some (.int .i64 ((m).wd)) := (Hs.bx [mac_ ((.slice A2_0f (m).fr.length c2_0f)) ((.slice A2_0b (m).bk.length c2_0b)) ((.slice A2_0c (m).cr.length c2_0c)) ((.slice A2_0l (m).lp.length c2_0l)) ((.slice A2_0d (m).dr.length c2_0d)) (m), mac_ ((.slice A5_0f (m).fr.length c5_0f)) ((.slice A5_0b (m).bk.length c5_0b)) ((.slice A5_0c (m).cr.length c5_0c)) ((.slice A5_0l (m).lp.length c5_0l)) ((.slice A5_0d (m).dr.length c5_0d)) (m)] [] hS6).1 0
  have jl0 : g5b1 < w6.heap.size := block_lt_of_cell j0
  have j1 : w6.cell? ⟨g5b1, 1, none⟩ = some (.int .i64 ((m).rk)) := (Hs.bx [mac_ ((.slice A2_0f (m).fr.length c2_0f)) ((.slice A2_0b (m).bk.length c2_0b)) ((.slice A2_0c (m).cr.length c2_0c)) ((.slice A2_0l (m).lp.length c2_0l)) ((.slice A2_0d (m).dr.length c2_0d)) (m), mac_ ((.slice A5_0f (m).fr.length c5_0f)) ((.slice A5_0b (m).bk.length c5_0b)) ((.slice A5_0c (m).cr.length c5_0c)) ((.slice A5_0l (m).lp.length c5_0l)) ((.slice A5_0d (m).dr.length c5_0d)) (m)] [] hS6).1 1
  have jl1 : g5b1 < w6.heap.size := block_lt_of_cell j1
  have j2 : w6.cell? ⟨g5b1, 2, none⟩ = some ((.slice A5_0f (m).fr.length c5_0f)) := (Hs.bx [mac_ ((.slice A2_0f (m).fr.length c2_0f)) ((.slice A2_0b (m).bk.length c2_0b)) ((.slice A2_0c (m).cr.length c2_0c)) ((.slice A2_0l (m).lp.length c2_0l)) ((.slice A2_0d (m).dr.length c2_0d)) (m), mac_ ((.slice A5_0f (m).fr.length c5_0f)) ((.slice A5_0b (m).bk.length c5_0b)) ((.slice A5_0c (m).cr.length c5_0c)) ((.slice A5_0l (m).lp.length c5_0l)) ((.slice A5_0d (m).dr.length c5_0d)) (m)] [] hS6).1 2
  have jl2 : g5b1 < w6.heap.size := block_lt_of_cell j2
  have j3 : w6.cell? ⟨g5b1, 3, none⟩ = some ((.slice A5_0b (m).bk.length c5_0b)) := (Hs.bx [mac_ ((.slice A2_0f (m).fr.length c2_0f)) ((.slice A2_0b (m).bk.length c2_0b)) ((.slice A2_0c (m).cr.length c2_0c)) ((.slice A2_0l (m).lp.length c2_0l)) ((.slice A2_0d (m).dr.length c2_0d)) (m), mac_ ((.slice A5_0f (m).fr.length c5_0f)) ((.slice A5_0b (m).bk.length c5_0b)) ((.slice A5_0c (m).cr.length c5_0c)) ((.slice A5_0l (m).lp.length c5_0l)) ((.slice A5_0d (m).dr.length c5_0d)) (m)] [] hS6).1 3
  have jl3 : g5b1 < w6.heap.size := block_lt_of_cell j3
  have j4 : w6.cell? ⟨g5b1, 4, none⟩ = some ((.slice A5_0c (m).cr.length c5_0c)) := (Hs.bx [mac_ ((.slice A2_0f (m).fr.length c2_0f)) ((.slice A2_0b (m).bk.length c2_0b)) ((.slice A2_0c (m).cr.length c2_0c)) ((.slice A2_0l (m).lp.length c2_0l)) ((.slice A2_0d (m).dr.length c2_0d)) (m), mac_ ((.slice A5_0f (m).fr.length c5_0f)) ((.slice A5_0b (m).bk.length c5_0b)) ((.slice A5_0c (m).cr.length c5_0c)) ((.slice A5_0l (m).lp.length c5_0l)) ((.slice A5_0d (m).dr.length c5_0d)) (m)] [] hS6).1 4
  have jl4 : g5b1 < w6.heap.size := block_lt_of_cell j4
  have j5 : w6.cell? ⟨g5b1, 5, none⟩ = some ((.slice A5_0l (m).lp.length c5_0l)) := (Hs.bx [mac_ ((.slice A2_0f (m).fr.length c2_0f)) ((.slice A2_0b (m).bk.length c2_0b)) ((.slice A2_0c (m).cr.length c2_0c)) ((.slice A2_0l (m).lp.length c2_0l)) ((.slice A2_0d (m).dr.length c2_0d)) (m), mac_ ((.slice A5_0f (m).fr.length c5_0f)) ((.slice A5_0b (m).bk.length c5_0b)) ((.slice A5_0c (m).cr.length c5_0c)) ((.slice A5_0l (m).lp.length c5_0l)) ((.slice A5_0d (m).dr.length c5_0d)) (m)] [] hS6).1 5
  have jl5 : g5b1 < w6.heap.size := block_lt_of_cell j5
  have j6 : w6.cell? ⟨g5b1, 6, none⟩ = some ((.slice A5_0d (m).dr.length c5_0d)) := (Hs.bx [mac_ ((.slice A2_0f (m).fr.length c2_0f)) ((.slice A2_0b (m).bk.length c2_0b)) ((.slice A2_0c (m).cr.length c2_0c)) ((.slice A2_0l (m).lp.length c2_0l)) ((.slice A2_0d (m).dr.length c2_0d)) (m), mac_ ((.slice A5_0f (m).fr.length c5_0f)) ((.slice A5_0b (m).bk.length c5_0b)) ((.slice A5_0c (m).cr.length c5_0c)) ((.slice A5_0l (m).lp.length c5_0l)) ((.slice A5_0d (m).dr.length c5_0d)) (m)] [] hS6).1 6
  have jl6 : g5b1 < w6.heap.size := block_lt_of_cell j6
  have j7 : w6.cell? ⟨w.heap.size + 1, 0, none⟩ = some (.int .i64 (nf)) := by rw [(bcell hb6).1 _ _ (by simp; try omega)]; first | (simp; done) | simp [World.cell?_alloc_lt]
  have jl7 : w.heap.size + 1 < w6.heap.size := block_lt_of_cell j7
  have j8 : w6.cell? ⟨w.heap.size + 1, 1, none⟩ = some (.int .i64 (nt)) := by rw [(bcell hb6).1 _ _ (by simp; try omega)]; first | (simp; done) | simp [World.cell?_alloc_lt]
  have jl8 : w.heap.size + 1 < w6.heap.size := block_lt_of_cell j8
  have hBx := Nat.le_trans hB0 hb6.size
  have gx0 := g0.below hb6 hB0
  have sx2_0 : SlM w6 w6.heap.size ((.slice A2_0f (m).fr.length c2_0f)) ((.slice A2_0b (m).bk.length c2_0b)) ((.slice A2_0c (m).cr.length c2_0c)) ((.slice A2_0l (m).lp.length c2_0l)) ((.slice A2_0d (m).dr.length c2_0d)) (m) := Hs.rdM [] [mac_ ((.slice A5_0f (m).fr.length c5_0f)) ((.slice A5_0b (m).bk.length c5_0b)) ((.slice A5_0c (m).cr.length c5_0c)) ((.slice A5_0l (m).lp.length c5_0l)) ((.slice A5_0d (m).dr.length c5_0d)) (m), bx_ g5b1 #[.int .i64 ((m).wd), .int .i64 ((m).rk), (.slice A5_0f (m).fr.length c5_0f), (.slice A5_0b (m).bk.length c5_0b), (.slice A5_0c (m).cr.length c5_0c), (.slice A5_0l (m).lp.length c5_0l), (.slice A5_0d (m).dr.length c5_0d)] 27] hS6
  have sx5_0 : SlM w6 w6.heap.size ((.slice A5_0f (m).fr.length c5_0f)) ((.slice A5_0b (m).bk.length c5_0b)) ((.slice A5_0c (m).cr.length c5_0c)) ((.slice A5_0l (m).lp.length c5_0l)) ((.slice A5_0d (m).dr.length c5_0d)) (m) := Hs.rdM [mac_ ((.slice A2_0f (m).fr.length c2_0f)) ((.slice A2_0b (m).bk.length c2_0b)) ((.slice A2_0c (m).cr.length c2_0c)) ((.slice A2_0l (m).lp.length c2_0l)) ((.slice A2_0d (m).dr.length c2_0d)) (m)] [bx_ g5b1 #[.int .i64 ((m).wd), .int .i64 ((m).rk), (.slice A5_0f (m).fr.length c5_0f), (.slice A5_0b (m).bk.length c5_0b), (.slice A5_0c (m).cr.length c5_0c), (.slice A5_0l (m).lp.length c5_0l), (.slice A5_0d (m).dr.length c5_0d)] 27] hS6
  have HK := Lib.hid (fun w' (hw : Below w6.heap.size w6 w') => show w'.cell? ⟨g5b1, 0, none⟩ = some (.int .i64 ((m).wd)) ∧ w'.cell? ⟨g5b1, 1, none⟩ = some (.int .i64 ((m).rk)) ∧ w'.cell? ⟨g5b1, 2, none⟩ = some ((.slice A5_0f (m).fr.length c5_0f)) ∧ w'.cell? ⟨g5b1, 3, none⟩ = some ((.slice A5_0b (m).bk.length c5_0b)) ∧ w'.cell? ⟨g5b1, 4, none⟩ = some ((.slice A5_0c (m).cr.length c5_0c)) ∧ w'.cell? ⟨g5b1, 5, none⟩ = some ((.slice A5_0l (m).lp.length c5_0l)) ∧ w'.cell? ⟨g5b1, 6, none⟩ = some ((.slice A5_0d (m).dr.length c5_0d)) ∧ w'.cell? ⟨w.heap.size + 1, 0, none⟩ = some (.int .i64 (nf)) ∧ w'.cell? ⟨w.heap.size + 1, 1, none⟩ = some (.int .i64 (nt)) ∧ Below w6.heap.size w6 w' from ⟨by rw [hw.cell (by simp only; omega)]; exact j0, by rw [hw.cell (by simp only; omega)]; exact j1, by rw [hw.cell (by simp only; omega)]; exact j2, by rw [hw.cell (by simp only; omega)]; exact j3, by rw [hw.cell (by simp only; omega)]; exact j4, by rw [hw.cell (by simp only; omega)]; exact j5, by rw [hw.cell (by simp only; omega)]; exact j6, by rw [hw.cell (by simp only; omega)]; exact j7, by rw [hw.cell (by simp only; omega)]; exact j8, hw⟩)
  clear j0 jl0 j1 jl1 j2 jl2 j3 jl3 j4 jl4 j5 jl5 j6 jl6 j7 jl7 j8 jl8
  go_region_held3 (fun w' => w'.cell? ⟨g5b1, 0, none⟩ = some (.int .i64 ((m).wd)) ∧ w'.cell? ⟨g5b1, 1, none⟩ = some (.int .i64 ((m).rk)) ∧ w'.cell? ⟨g5b1, 2, none⟩ = some ((.slice A5_0f (m).fr.length c5_0f)) ∧ w'.cell? ⟨g5b1, 3, none⟩ = some ((.slice A5_0b (m).bk.length c5_0b)) ∧ w'.cell? ⟨g5b1, 4, none⟩ = some ((.slice A5_0c (m).cr.length c5_0c)) ∧ w'.cell? ⟨g5b1, 5, none⟩ = some ((.slice A5_0l (m).lp.length c5_0l)) ∧ w'.cell? ⟨g5b1, 6, none⟩ = some ((.slice A5_0d (m).dr.length c5_0d)) ∧ w'.cell? ⟨w.heap.size + 1, 0, none⟩ = some (.int .i64 (nf)) ∧ w'.cell? ⟨w.heap.size + 1, 1, none⟩ = some (.int .i64 (nt)) ∧ Below w6.heap.size w6 w')
    (first | exact HK.out _ (by first | assumption | exact Below.refl _ _ | exact drewN_below _ _ _ | exact (Below.refl _ _).drew))
    (first
      | (go_at_call_of 24 (Go.Value.agg #[.int .i64 (nf), .int .i64 (nt)]); (refine (toNeedle_any (nf) (nt) _).mono ?_); rintro e w7 ⟨rfl, hq⟩; have hr7 : Below w6.heap.size w6 w7 := Below.trans (by first | assumption | exact Below.refl _ _ | exact drewN_below _ _ _ | exact (Below.refl _ _).drew) (hq.mono (Below.size (w := w6) (B := w6.heap.size) (by first | assumption | exact Below.refl _ _ | exact drewN_below _ _ _ | exact (Below.refl _ _).drew))); have hS7 := hS6.below hr7)
      | (go_at_call 25; (refine (impl_PlaceOf_any (sx5_0.below (by first | assumption | exact Below.refl _ _ | exact drewN_below _ _ _ | exact (Below.refl _ _).drew) (Nat.le_refl _)) (Below.size (w := w6) (B := w6.heap.size) (by first | assumption | exact Below.refl _ _ | exact drewN_below _ _ _ | exact (Below.refl _ _).drew))).mono ?_); rintro e w8 ⟨rfl, hq⟩; have hr8 : Below w6.heap.size w6 w8 := Below.trans (by first | assumption | exact Below.refl _ _ | exact drewN_below _ _ _ | exact (Below.refl _ _).drew) (hq.mono (Below.size (w := w6) (B := w6.heap.size) (by first | assumption | exact Below.refl _ _ | exact drewN_below _ _ _ | exact (Below.refl _ _).drew))); have hS8 := hS7.below hq))
  have hb8 := hb6.trans (hr8.mono hb6.size)
  clear HK hBx gx0 sx2_0 sx5_0
  obtain ⟨hc, hf⟩ := bcell hb8
  have lz0 : w.heap.size < w8.heap.size := by have := hb8.size; simp at this; omega
  have lz1 : w.heap.size + 1 < w8.heap.size := by have := hb8.size; simp at this; omega
  obtain ⟨kx5b1, -, lx5b1, -⟩ := Hs.bx [mac_ ((.slice A2_0f (m).fr.length c2_0f)) ((.slice A2_0b (m).bk.length c2_0b)) ((.slice A2_0c (m).cr.length c2_0c)) ((.slice A2_0l (m).lp.length c2_0l)) ((.slice A2_0d (m).dr.length c2_0d)) (m), mac_ ((.slice A5_0f (m).fr.length c5_0f)) ((.slice A5_0b (m).bk.length c5_0b)) ((.slice A5_0c (m).cr.length c5_0c)) ((.slice A5_0l (m).lp.length c5_0l)) ((.slice A5_0d (m).dr.length c5_0d)) (m)] [] hS8
  have kx5b1_0 : w8.cell? ⟨g5b1, 0, none⟩ = some (.int .i64 ((m).wd)) := kx5b1 0
  have kx5b1_1 : w8.cell? ⟨g5b1, 1, none⟩ = some (.int .i64 ((m).rk)) := kx5b1 1
  have kx5b1_2 : w8.cell? ⟨g5b1, 2, none⟩ = some ((.slice A5_0f (m).fr.length c5_0f)) := kx5b1 2
  have kx5b1_3 : w8.cell? ⟨g5b1, 3, none⟩ = some ((.slice A5_0b (m).bk.length c5_0b)) := kx5b1 3
  have kx5b1_4 : w8.cell? ⟨g5b1, 4, none⟩ = some ((.slice A5_0c (m).cr.length c5_0c)) := kx5b1 4
  have kx5b1_5 : w8.cell? ⟨g5b1, 5, none⟩ = some ((.slice A5_0l (m).lp.length c5_0l)) := kx5b1 5
  have kx5b1_6 : w8.cell? ⟨g5b1, 6, none⟩ = some ((.slice A5_0d (m).dr.length c5_0d)) := kx5b1 6
  clear kx5b1
  go_wp2_with fail
  clear hc hf lz0 lz1 kx5b1_0 kx5b1_1 kx5b1_2 kx5b1_3 kx5b1_4 kx5b1_5 kx5b1_6 lx5b1
  have j0 : w8.cell? ⟨g5b1, 0, none⟩ = some (.int .i64 ((m).wd)) := (Hs.bx [mac_ ((.slice A2_0f (m).fr.length c2_0f)) ((.slice A2_0b (m).bk.length c2_0b)) ((.slice A2_0c (m).cr.length c2_0c)) ((.slice A2_0l (m).lp.length c2_0l)) ((.slice A2_0d (m).dr.length c2_0d)) (m), mac_ ((.slice A5_0f (m).fr.length c5_0f)) ((.slice A5_0b (m).bk.length c5_0b)) ((.slice A5_0c (m).cr.length c5_0c)) ((.slice A5_0l (m).lp.length c5_0l)) ((.slice A5_0d (m).dr.length c5_0d)) (m)] [] hS8).1 0
  have jl0 : g5b1 < w8.heap.size := block_lt_of_cell j0
  have j1 : w8.cell? ⟨g5b1, 1, none⟩ = some (.int .i64 ((m).rk)) := (Hs.bx [mac_ ((.slice A2_0f (m).fr.length c2_0f)) ((.slice A2_0b (m).bk.length c2_0b)) ((.slice A2_0c (m).cr.length c2_0c)) ((.slice A2_0l (m).lp.length c2_0l)) ((.slice A2_0d (m).dr.length c2_0d)) (m), mac_ ((.slice A5_0f (m).fr.length c5_0f)) ((.slice A5_0b (m).bk.length c5_0b)) ((.slice A5_0c (m).cr.length c5_0c)) ((.slice A5_0l (m).lp.length c5_0l)) ((.slice A5_0d (m).dr.length c5_0d)) (m)] [] hS8).1 1
  have jl1 : g5b1 < w8.heap.size := block_lt_of_cell j1
  have j2 : w8.cell? ⟨g5b1, 2, none⟩ = some ((.slice A5_0f (m).fr.length c5_0f)) := (Hs.bx [mac_ ((.slice A2_0f (m).fr.length c2_0f)) ((.slice A2_0b (m).bk.length c2_0b)) ((.slice A2_0c (m).cr.length c2_0c)) ((.slice A2_0l (m).lp.length c2_0l)) ((.slice A2_0d (m).dr.length c2_0d)) (m), mac_ ((.slice A5_0f (m).fr.length c5_0f)) ((.slice A5_0b (m).bk.length c5_0b)) ((.slice A5_0c (m).cr.length c5_0c)) ((.slice A5_0l (m).lp.length c5_0l)) ((.slice A5_0d (m).dr.length c5_0d)) (m)] [] hS8).1 2
  have jl2 : g5b1 < w8.heap.size := block_lt_of_cell j2
  have j3 : w8.cell? ⟨g5b1, 3, none⟩ = some ((.slice A5_0b (m).bk.length c5_0b)) := (Hs.bx [mac_ ((.slice A2_0f (m).fr.length c2_0f)) ((.slice A2_0b (m).bk.length c2_0b)) ((.slice A2_0c (m).cr.length c2_0c)) ((.slice A2_0l (m).lp.length c2_0l)) ((.slice A2_0d (m).dr.length c2_0d)) (m), mac_ ((.slice A5_0f (m).fr.length c5_0f)) ((.slice A5_0b (m).bk.length c5_0b)) ((.slice A5_0c (m).cr.length c5_0c)) ((.slice A5_0l (m).lp.length c5_0l)) ((.slice A5_0d (m).dr.length c5_0d)) (m)] [] hS8).1 3
  have jl3 : g5b1 < w8.heap.size := block_lt_of_cell j3
  have j4 : w8.cell? ⟨g5b1, 4, none⟩ = some ((.slice A5_0c (m).cr.length c5_0c)) := (Hs.bx [mac_ ((.slice A2_0f (m).fr.length c2_0f)) ((.slice A2_0b (m).bk.length c2_0b)) ((.slice A2_0c (m).cr.length c2_0c)) ((.slice A2_0l (m).lp.length c2_0l)) ((.slice A2_0d (m).dr.length c2_0d)) (m), mac_ ((.slice A5_0f (m).fr.length c5_0f)) ((.slice A5_0b (m).bk.length c5_0b)) ((.slice A5_0c (m).cr.length c5_0c)) ((.slice A5_0l (m).lp.length c5_0l)) ((.slice A5_0d (m).dr.length c5_0d)) (m)] [] hS8).1 4
  have jl4 : g5b1 < w8.heap.size := block_lt_of_cell j4
  have j5 : w8.cell? ⟨g5b1, 5, none⟩ = some ((.slice A5_0l (m).lp.length c5_0l)) := (Hs.bx [mac_ ((.slice A2_0f (m).fr.length c2_0f)) ((.slice A2_0b (m).bk.length c2_0b)) ((.slice A2_0c (m).cr.length c2_0c)) ((.slice A2_0l (m).lp.length c2_0l)) ((.slice A2_0d (m).dr.length c2_0d)) (m), mac_ ((.slice A5_0f (m).fr.length c5_0f)) ((.slice A5_0b (m).bk.length c5_0b)) ((.slice A5_0c (m).cr.length c5_0c)) ((.slice A5_0l (m).lp.length c5_0l)) ((.slice A5_0d (m).dr.length c5_0d)) (m)] [] hS8).1 5
  have jl5 : g5b1 < w8.heap.size := block_lt_of_cell j5
  have j6 : w8.cell? ⟨g5b1, 6, none⟩ = some ((.slice A5_0d (m).dr.length c5_0d)) := (Hs.bx [mac_ ((.slice A2_0f (m).fr.length c2_0f)) ((.slice A2_0b (m).bk.length c2_0b)) ((.slice A2_0c (m).cr.length c2_0c)) ((.slice A2_0l (m).lp.length c2_0l)) ((.slice A2_0d (m).dr.length c2_0d)) (m), mac_ ((.slice A5_0f (m).fr.length c5_0f)) ((.slice A5_0b (m).bk.length c5_0b)) ((.slice A5_0c (m).cr.length c5_0c)) ((.slice A5_0l (m).lp.length c5_0l)) ((.slice A5_0d (m).dr.length c5_0d)) (m)] [] hS8).1 6
  have jl6 : g5b1 < w8.heap.size := block_lt_of_cell j6
  have j7 : w8.cell? ⟨w.heap.size, 0, none⟩ = some (.int .i64 ((m).wd)) := by rw [(bcell hb8).1 _ _ (by simp; try omega)]; first | (simp; done) | simp [World.cell?_alloc_lt]
  have jl7 : w.heap.size < w8.heap.size := block_lt_of_cell j7
  have j8 : w8.cell? ⟨w.heap.size, 1, none⟩ = some (.int .i64 ((m).rk)) := by rw [(bcell hb8).1 _ _ (by simp; try omega)]; first | (simp; done) | simp [World.cell?_alloc_lt]
  have jl8 : w.heap.size < w8.heap.size := block_lt_of_cell j8
  have j9 : w8.cell? ⟨w.heap.size, 2, none⟩ = some ((.slice Af0 (m).fr.length cf0)) := by rw [(bcell hb8).1 _ _ (by simp; try omega)]; first | (simp; done) | simp [World.cell?_alloc_lt]
  have jl9 : w.heap.size < w8.heap.size := block_lt_of_cell j9
  have j10 : w8.cell? ⟨w.heap.size, 3, none⟩ = some ((.slice Ab0 (m).bk.length cb0)) := by rw [(bcell hb8).1 _ _ (by simp; try omega)]; first | (simp; done) | simp [World.cell?_alloc_lt]
  have jl10 : w.heap.size < w8.heap.size := block_lt_of_cell j10
  have j11 : w8.cell? ⟨w.heap.size, 4, none⟩ = some ((.slice Ac0 (m).cr.length cc0)) := by rw [(bcell hb8).1 _ _ (by simp; try omega)]; first | (simp; done) | simp [World.cell?_alloc_lt]
  have jl11 : w.heap.size < w8.heap.size := block_lt_of_cell j11
  have j12 : w8.cell? ⟨w.heap.size, 5, none⟩ = some ((.slice Al0 (m).lp.length cl0)) := by rw [(bcell hb8).1 _ _ (by simp; try omega)]; first | (simp; done) | simp [World.cell?_alloc_lt]
  have jl12 : w.heap.size < w8.heap.size := block_lt_of_cell j12
  have j13 : w8.cell? ⟨w.heap.size, 6, none⟩ = some ((.slice Ad0 (m).dr.length cd0)) := by rw [(bcell hb8).1 _ _ (by simp; try omega)]; first | (simp; done) | simp [World.cell?_alloc_lt]
  have jl13 : w.heap.size < w8.heap.size := block_lt_of_cell j13
  have hBx := Nat.le_trans hB0 hb8.size
  have gx0 := g0.below hb8 hB0
  have sx2_0 : SlM w8 w8.heap.size ((.slice A2_0f (m).fr.length c2_0f)) ((.slice A2_0b (m).bk.length c2_0b)) ((.slice A2_0c (m).cr.length c2_0c)) ((.slice A2_0l (m).lp.length c2_0l)) ((.slice A2_0d (m).dr.length c2_0d)) (m) := Hs.rdM [] [mac_ ((.slice A5_0f (m).fr.length c5_0f)) ((.slice A5_0b (m).bk.length c5_0b)) ((.slice A5_0c (m).cr.length c5_0c)) ((.slice A5_0l (m).lp.length c5_0l)) ((.slice A5_0d (m).dr.length c5_0d)) (m), bx_ g5b1 #[.int .i64 ((m).wd), .int .i64 ((m).rk), (.slice A5_0f (m).fr.length c5_0f), (.slice A5_0b (m).bk.length c5_0b), (.slice A5_0c (m).cr.length c5_0c), (.slice A5_0l (m).lp.length c5_0l), (.slice A5_0d (m).dr.length c5_0d)] 27] hS8
  have sx5_0 : SlM w8 w8.heap.size ((.slice A5_0f (m).fr.length c5_0f)) ((.slice A5_0b (m).bk.length c5_0b)) ((.slice A5_0c (m).cr.length c5_0c)) ((.slice A5_0l (m).lp.length c5_0l)) ((.slice A5_0d (m).dr.length c5_0d)) (m) := Hs.rdM [mac_ ((.slice A2_0f (m).fr.length c2_0f)) ((.slice A2_0b (m).bk.length c2_0b)) ((.slice A2_0c (m).cr.length c2_0c)) ((.slice A2_0l (m).lp.length c2_0l)) ((.slice A2_0d (m).dr.length c2_0d)) (m)] [bx_ g5b1 #[.int .i64 ((m).wd), .int .i64 ((m).rk), (.slice A5_0f (m).fr.length c5_0f), (.slice A5_0b (m).bk.length c5_0b), (.slice A5_0c (m).cr.length c5_0c), (.slice A5_0l (m).lp.length c5_0l), (.slice A5_0d (m).dr.length c5_0d)] 27] hS8
  have HK := Lib.hid (fun w' (hw : Below w8.heap.size w8 w') => show w'.cell? ⟨g5b1, 0, none⟩ = some (.int .i64 ((m).wd)) ∧ w'.cell? ⟨g5b1, 1, none⟩ = some (.int .i64 ((m).rk)) ∧ w'.cell? ⟨g5b1, 2, none⟩ = some ((.slice A5_0f (m).fr.length c5_0f)) ∧ w'.cell? ⟨g5b1, 3, none⟩ = some ((.slice A5_0b (m).bk.length c5_0b)) ∧ w'.cell? ⟨g5b1, 4, none⟩ = some ((.slice A5_0c (m).cr.length c5_0c)) ∧ w'.cell? ⟨g5b1, 5, none⟩ = some ((.slice A5_0l (m).lp.length c5_0l)) ∧ w'.cell? ⟨g5b1, 6, none⟩ = some ((.slice A5_0d (m).dr.length c5_0d)) ∧ w'.cell? ⟨w.heap.size, 0, none⟩ = some (.int .i64 ((m).wd)) ∧ w'.cell? ⟨w.heap.size, 1, none⟩ = some (.int .i64 ((m).rk)) ∧ w'.cell? ⟨w.heap.size, 2, none⟩ = some ((.slice Af0 (m).fr.length cf0)) ∧ w'.cell? ⟨w.heap.size, 3, none⟩ = some ((.slice Ab0 (m).bk.length cb0)) ∧ w'.cell? ⟨w.heap.size, 4, none⟩ = some ((.slice Ac0 (m).cr.length cc0)) ∧ w'.cell? ⟨w.heap.size, 5, none⟩ = some ((.slice Al0 (m).lp.length cl0)) ∧ w'.cell? ⟨w.heap.size, 6, none⟩ = some ((.slice Ad0 (m).dr.length cd0)) ∧ Below w8.heap.size w8 w' from ⟨by rw [hw.cell (by simp only; omega)]; exact j0, by rw [hw.cell (by simp only; omega)]; exact j1, by rw [hw.cell (by simp only; omega)]; exact j2, by rw [hw.cell (by simp only; omega)]; exact j3, by rw [hw.cell (by simp only; omega)]; exact j4, by rw [hw.cell (by simp only; omega)]; exact j5, by rw [hw.cell (by simp only; omega)]; exact j6, by rw [hw.cell (by simp only; omega)]; exact j7, by rw [hw.cell (by simp only; omega)]; exact j8, by rw [hw.cell (by simp only; omega)]; exact j9, by rw [hw.cell (by simp only; omega)]; exact j10, by rw [hw.cell (by simp only; omega)]; exact j11, by rw [hw.cell (by simp only; omega)]; exact j12, by rw [hw.cell (by simp only; omega)]; exact j13, hw⟩)
  clear j0 jl0 j1 jl1 j2 jl2 j3 jl3 j4 jl4 j5 jl5 j6 jl6 j7 jl7 j8 jl8 j9 jl9 j10 jl10 j11 jl11 j12 jl12 j13 jl13
  go_region_held3 (fun w' => w'.cell? ⟨g5b1, 0, none⟩ = some (.int .i64 ((m).wd)) ∧ w'.cell? ⟨g5b1, 1, none⟩ = some (.int .i64 ((m).rk)) ∧ w'.cell? ⟨g5b1, 2, none⟩ = some ((.slice A5_0f (m).fr.length c5_0f)) ∧ w'.cell? ⟨g5b1, 3, none⟩ = some ((.slice A5_0b (m).bk.length c5_0b)) ∧ w'.cell? ⟨g5b1, 4, none⟩ = some ((.slice A5_0c (m).cr.length c5_0c)) ∧ w'.cell? ⟨g5b1, 5, none⟩ = some ((.slice A5_0l (m).lp.length c5_0l)) ∧ w'.cell? ⟨g5b1, 6, none⟩ = some ((.slice A5_0d (m).dr.length c5_0d)) ∧ w'.cell? ⟨w.heap.size, 0, none⟩ = some (.int .i64 ((m).wd)) ∧ w'.cell? ⟨w.heap.size, 1, none⟩ = some (.int .i64 ((m).rk)) ∧ w'.cell? ⟨w.heap.size, 2, none⟩ = some ((.slice Af0 (m).fr.length cf0)) ∧ w'.cell? ⟨w.heap.size, 3, none⟩ = some ((.slice Ab0 (m).bk.length cb0)) ∧ w'.cell? ⟨w.heap.size, 4, none⟩ = some ((.slice Ac0 (m).cr.length cc0)) ∧ w'.cell? ⟨w.heap.size, 5, none⟩ = some ((.slice Al0 (m).lp.length cl0)) ∧ w'.cell? ⟨w.heap.size, 6, none⟩ = some ((.slice Ad0 (m).dr.length cd0)) ∧ Below w8.heap.size w8 w')
    (first | exact HK.out _ (by first | assumption | exact Below.refl _ _ | exact drewN_below _ _ _ | exact (Below.refl _ _).drew))
    (first
      | (go_at_call_of 19 (Go.Value.agg #[.int .i64 ((m).wd), .int .i64 ((m).rk), (.slice Af0 (m).fr.length cf0), (.slice Ab0 (m).bk.length cb0), (.slice Ac0 (m).cr.length cc0), (.slice Al0 (m).lp.length cl0), (.slice Ad0 (m).dr.length cd0)]); (refine (toMac_any (gx0.below (by first | assumption | exact Below.refl _ _ | exact drewN_below _ _ _ | exact (Below.refl _ _).drew) hBx) (Nat.le_trans hBx (Below.size (w := w8) (B := w8.heap.size) (by first | assumption | exact Below.refl _ _ | exact drewN_below _ _ _ | exact (Below.refl _ _).drew))) b0.five (by omega)).mono ?_); rintro e w9 ⟨q9_0f, q9_0b, q9_0c, q9_0l, q9_0d, rfl, ho9, hq⟩; have hr9 : Below w8.heap.size w8 w9 := Below.trans (by first | assumption | exact Below.refl _ _ | exact drewN_below _ _ _ | exact (Below.refl _ _).drew) (hq.mono (Below.size (w := w8) (B := w8.heap.size) (by first | assumption | exact Below.refl _ _ | exact drewN_below _ _ _ | exact (Below.refl _ _).drew))); have so9_0 := Hs.rdM [] [] ho9; obtain ⟨A9_0f, c9_0f, rfl, -⟩ := id so9_0.fr; obtain ⟨A9_0b, c9_0b, rfl, -⟩ := id so9_0.bk; obtain ⟨A9_0c, c9_0c, rfl, -⟩ := id so9_0.cr.cells; obtain ⟨A9_0l, c9_0l, rfl, -⟩ := id so9_0.lp.cells; obtain ⟨A9_0d, c9_0d, rfl, -⟩ := id so9_0.dr; have hS9 := hS8.join hr9 ho9)
      | (go_at_call 14; (refine (eqMac_yes (sx5_0.below (by first | assumption | exact Below.refl _ _ | exact drewN_below _ _ _ | exact (Below.refl _ _).drew) (Nat.le_refl _)) so9_0 (Below.size (w := w8) (B := w8.heap.size) (by first | assumption | exact Below.refl _ _ | exact drewN_below _ _ _ | exact (Below.refl _ _).drew)) (Nat.le_refl _)).mono ?_); rintro e w10 ⟨rfl, hq⟩; have hr10 : Below w8.heap.size w8 w10 := Below.trans (by first | assumption | exact Below.refl _ _ | exact drewN_below _ _ _ | exact (Below.refl _ _).drew) (hq.mono (Below.size (w := w8) (B := w8.heap.size) (by first | assumption | exact Below.refl _ _ | exact drewN_below _ _ _ | exact (Below.refl _ _).drew))); have so9_0 := (so9_0.below hq (Nat.le_refl _)).mono hq.size; have hS10 := hS9.below hq))
  have hb10 := hb8.trans (hr10.mono hb8.size)
  clear HK hBx gx0 sx2_0 sx5_0
  obtain ⟨hc, hf⟩ := bcell hb10
  have lz0 : w.heap.size < w10.heap.size := by have := hb10.size; simp at this; omega
  have lz1 : w.heap.size + 1 < w10.heap.size := by have := hb10.size; simp at this; omega
  obtain ⟨kx5b1, -, lx5b1, -⟩ := Hs.bx [mac_ ((.slice A2_0f (m).fr.length c2_0f)) ((.slice A2_0b (m).bk.length c2_0b)) ((.slice A2_0c (m).cr.length c2_0c)) ((.slice A2_0l (m).lp.length c2_0l)) ((.slice A2_0d (m).dr.length c2_0d)) (m), mac_ ((.slice A5_0f (m).fr.length c5_0f)) ((.slice A5_0b (m).bk.length c5_0b)) ((.slice A5_0c (m).cr.length c5_0c)) ((.slice A5_0l (m).lp.length c5_0l)) ((.slice A5_0d (m).dr.length c5_0d)) (m)] [mac_ ((.slice A9_0f (m).fr.length c9_0f)) ((.slice A9_0b (m).bk.length c9_0b)) ((.slice A9_0c (m).cr.length c9_0c)) ((.slice A9_0l (m).lp.length c9_0l)) ((.slice A9_0d (m).dr.length c9_0d)) (m)] hS10
  have kx5b1_0 : w10.cell? ⟨g5b1, 0, none⟩ = some (.int .i64 ((m).wd)) := kx5b1 0
  have kx5b1_1 : w10.cell? ⟨g5b1, 1, none⟩ = some (.int .i64 ((m).rk)) := kx5b1 1
  have kx5b1_2 : w10.cell? ⟨g5b1, 2, none⟩ = some ((.slice A5_0f (m).fr.length c5_0f)) := kx5b1 2
  have kx5b1_3 : w10.cell? ⟨g5b1, 3, none⟩ = some ((.slice A5_0b (m).bk.length c5_0b)) := kx5b1 3
  have kx5b1_4 : w10.cell? ⟨g5b1, 4, none⟩ = some ((.slice A5_0c (m).cr.length c5_0c)) := kx5b1 4
  have kx5b1_5 : w10.cell? ⟨g5b1, 5, none⟩ = some ((.slice A5_0l (m).lp.length c5_0l)) := kx5b1 5
  have kx5b1_6 : w10.cell? ⟨g5b1, 6, none⟩ = some ((.slice A5_0d (m).dr.length c5_0d)) := kx5b1 6
  clear kx5b1
  go_wp2_with fail
  clear hc hf lz0 lz1 kx5b1_0 kx5b1_1 kx5b1_2 kx5b1_3 kx5b1_4 kx5b1_5 kx5b1_6 lx5b1
  go_ret
  exact ⟨rfl, hA0.trans (hb10.mono hB0)⟩

set_option maxRecDepth 100000 in
theorem lifted (os : Os) (started : os.Started) (H : Type) (enc : TypeId × Value → H) :
    ReturnsInHanded {} Try.checked os 6 .any (Rows.fnExactPlaceOfSpec.pre6 enc Try.prog Try.f6 Rows.fnExactPlaceOfRow.domain false) (Rows.fnExactPlaceOfSpec.post enc Try.prog Try.f6 false true false false) := by
  refine returnsInHanded_of_change (C := Try.checked) own_knob started (by kernel_rfl) Try.func6
    (ChangeSpec.witness6 (enc := enc) (C := Try.checked) false ⟨#[], #[.agg #[.int .i64 0, .int .i64 0, .slice none 0 0, .slice none 0 0, .slice none 0 0, .slice none 0 0, .slice none 0 0], .agg #[.int .i64 0, .int .i64 0]], []⟩ 8 (by kernel_rfl) (by kernel_rfl) (by kernel_rfl) (by kernel_rfl)) ?_
  intro W base args ds gs before hval0 hW hcnd _
  have hval : ∀ (j : Nat) t v, Try.f6.params[j]? = some t → args[j]? = some v → Value.okWide Try.prog W .any base t v := hval0
  have hW' := hW
  obtain ⟨p, q, hA0, hV, rfl, hfz, hnd⟩ := hW
  have hA : DataW.TrodAll enc Try.prog W 0 (fun _ => true) true Try.f6.params.toList args.toList ds p := hA0
  rw [Try.params6] at hA hval
  obtain ⟨v0, vs0, d0, ds0, p0, q0, hargs, rfl, rfl, h0, r0⟩ := trodAll_cons hA
  obtain ⟨v1, vs1, d1, ds1, p1, q1, rfl, rfl, rfl, h1, r1⟩ := trodAll_cons r0
  obtain ⟨rfl, rfl, rfl⟩ := trodAll_nil r1
  obtain rfl : args = #[v0, v1] := by cases args; simp_all
  obtain ⟨rfl, rfl⟩ := trodVars_none hV
  have k0 := h0
  have lt0 : ∀ x ∈ p0, x.block < W.heap.size := by obtain ⟨m, hm⟩ := k0; exact DataW.trod_lt m _ _ _ hm
  have k1 := h1
  have lt1 : ∀ x ∈ p1, x.block < W.heap.size := by obtain ⟨m, hm⟩ := k1; exact DataW.trod_lt m _ _ _ hm
  obtain ⟨yf0, yb0, yc0, yl0, yd0, m, rfl, s0, b0⟩ := open_Mac (hval 0 36 v0 rfl rfl) h0
  obtain ⟨nf, nt, rfl, bf1, bt1⟩ := open_Needle (hval 1 43 v1 rfl rfl) h1
  clear hA0 hval0
  refine (walk yf0 yb0 yc0 yl0 yd0 m nf nt W s0 b0 bf1 bt1).mono fun e W' ⟨he, bel⟩ => ?_
  subst he
  exact ⟨_, rfl, _, _, _, [], _, [], hW', trodAll_mk1 (shut_bool Try.underlying4 _), (trodAll_cons_mk (Below.trod laid_out (by kernel_rfl) (of_decide_eq_true (by kernel_rfl)) k0 bel lt0) (trodAll_cons_mk (Below.trod laid_out (by kernel_rfl) (of_decide_eq_true (by kernel_rfl)) k1 bel lt1) trodAll_mk0)), rfl, bel.frame _, fun h => by cases h⟩

/-- The statement. -/
theorem proved : Rows.FnExactPlaceOfSaid :=
  OpenClaim.holds_of_wide 6 Try.f6 rfl rfl rfl rfl rfl rfl rfl ⟨rfl, rfl, rfl, rfl, rfl⟩ rfl rfl rfl rfl rfl (by kernel_rfl) Try.func6 (by kernel_rfl)
    (of_decide_eq_true (by kernel_rfl)) (by unfold Func.isWrapper; first | (rw [if_pos (by decide +kernel)]; kernel_rfl) | (rw [if_neg (by decide +kernel)]; exact ⟨rfl, rfl⟩))
    (fun os started H enc _ => lifted os started H enc)
#print axioms proved
end Go.Proofs.Ytbefioljddhhpaa.fnExactPlaceOf
