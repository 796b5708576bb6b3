/-
  Proved here: for every input the law FnExactArtinEqual returns true, and every argument reads behind the call as it read before. No condition.
-/
import Derived.Test.YtcoocjdkppdlmaaOpen
import Derived.Test.YtcoocjdkppdlmaaSt
import Derived.Test.YtcoocjdkppdlmaaArt6
import Derived.ProofKit
import Derived.OpenShut
import Derived.ShutString
import Derived.ChangeOld
import Derived.Below
import Derived.Deep.RegionHeld3
import Derived.Deep.DeepCutAuto
namespace Go.Proofs.Ytcoocjdkppdlmaa.fnExactArtinEqual
set_option maxRecDepth 10000
open Go.ChangeShapes Go.WideShapes Go.ChangeAt Go.RowKit
open Go.ChangeMaps (open_string shut_string)
set_option linter.unusedVariables false

set_option maxRecDepth 100000 in
set_option maxHeartbeats 4000000 in
theorem walk (s0 : Int) (v0 : Value) (xs : List Int) (s1 : Int) (v1 : Value) (ys : List Int) (w : World) (t0 : R64 s0) (h0 : Sl w w.heap.size v0 xs) (b0 : ∀ x ∈ xs, R64 x) (t1 : R64 s1) (h1 : Sl w w.heap.size v1 ys) (b1 : ∀ x ∈ ys, R64 x) :
    Calls Try.prog 7 #[.agg #[.int .i64 s0, v0], .agg #[.int .i64 s1, v1]] w fun e w' => e = .returned (.bool true) ∧ Below w.heap.size w w' := by
  obtain ⟨A0, c0, e0, hl0, hm0⟩ : ∃ A c, v0 = .slice A xs.length c ∧ xs.length ≤ c ∧ c ≤ 9223372036854775807 := by obtain ⟨A, c, h1, h2, h3, _⟩ := h0; simp only [maxLen] at h3; exact ⟨A, c, h1, h2, by omega⟩
  subst e0
  obtain ⟨A1, c1, e1, hl1, hm1⟩ : ∃ A c, v1 = .slice A ys.length c ∧ ys.length ≤ c ∧ c ≤ 9223372036854775807 := by obtain ⟨A, c, h1, h2, h3, _⟩ := h1; simp only [maxLen] at h3; exact ⟨A, c, h1, h2, by omega⟩
  subst e1
  have hA0 : Below w.heap.size w ((w.alloc (.cells #[.int .i64 (s0), (.slice A0 xs.length c0)] 37)).alloc (.cells #[.int .i64 (s1), (.slice A1 ys.length c1)] 37)) := ((al1 w (.cells #[.int .i64 (s0), (.slice A0 xs.length c0)] 37)).alloc (by simp) (.cells #[.int .i64 (s1), (.slice A1 ys.length c1)] 37))
  have hB0 : w.heap.size ≤ ((w.alloc (.cells #[.int .i64 (s0), (.slice A0 xs.length c0)] 37)).alloc (.cells #[.int .i64 (s1), (.slice A1 ys.length c1)] 37)).heap.size := hA0.size
  have g0 := h0.below hA0 (Nat.le_refl _)
  clear h0
  have g1 := h1.below hA0 (Nat.le_refl _)
  clear h1
  have hb0 := Below.refl ((w.alloc (.cells #[.int .i64 (s0), (.slice A0 xs.length c0)] 37)).alloc (.cells #[.int .i64 (s1), (.slice A1 ys.length c1)] 37)).heap.size ((w.alloc (.cells #[.int .i64 (s0), (.slice A0 xs.length c0)] 37)).alloc (.cells #[.int .i64 (s1), (.slice A1 ys.length c1)] 37))
  have hS0 : Hs ((w.alloc (.cells #[.int .i64 (s0), (.slice A0 xs.length c0)] 37)).alloc (.cells #[.int .i64 (s1), (.slice A1 ys.length c1)] 37)) ((w.alloc (.cells #[.int .i64 (s0), (.slice A0 xs.length c0)] 37)).alloc (.cells #[.int .i64 (s1), (.slice A1 ys.length c1)] 37)).heap.size [] := Hs.nil _
  by_cases z0 : (1048576 : Int) < xs.length
  · go_enter Try.func7, Try.ntmps7
    go_wp2_with fail
    refine (szBraid_no (g0.below hb0 hB0) (Nat.le_trans hB0 hb0.size) (by omega) (by omega) z0).mono ?_
    rintro e w1 ⟨rfl, hq⟩
    have hb1 := hb0.trans (hq.mono hb0.size)
    have hS1 := hS0.below hq
    clear hb0 hS0 hq
    obtain ⟨hc, hf⟩ := bcell hb1
    have lz0 : w.heap.size < w1.heap.size := by have := hb1.size; simp at this; omega
    have lz1 : w.heap.size + 1 < w1.heap.size := by have := hb1.size; simp at this; omega
    go_wp2_with fail
    clear hc hf lz0 lz1
    go_ret
    exact ⟨rfl, hA0.trans (hb1.mono hB0)⟩
  have zl0 : (xs.length : Int) ≤ 1048576 := by omega
  by_cases z1 : (1048576 - xs.length : Int) < ys.length
  · go_enter Try.func7, Try.ntmps7
    go_wp2_with fail
    refine (szBraid_yes (g0.below hb0 hB0) (Nat.le_trans hB0 hb0.size) (by omega) (by omega) (by omega)).mono ?_
    rintro e w1 ⟨rfl, hq⟩
    have hb1 := hb0.trans (hq.mono hb0.size)
    have hS1 := hS0.below hq
    clear hb0 hS0 hq
    obtain ⟨hc, hf⟩ := bcell hb1
    have lz0 : w.heap.size < w1.heap.size := by have := hb1.size; simp at this; omega
    have lz1 : w.heap.size + 1 < w1.heap.size := by have := hb1.size; simp at this; omega
    go_wp2_with fail
    clear hc hf lz0 lz1
    refine (szBraid_no (g1.below hb1 hB0) (Nat.le_trans hB0 hb1.size) (by omega) (by omega) z1).mono ?_
    rintro e w2 ⟨rfl, hq⟩
    have hb2 := hb1.trans (hq.mono hb1.size)
    have hS2 := hS1.below hq
    clear hb1 hS1 hq
    obtain ⟨hc, hf⟩ := bcell hb2
    have lz0 : w.heap.size < w2.heap.size := by have := hb2.size; simp at this; omega
    have lz1 : w.heap.size + 1 < w2.heap.size := by have := hb2.size; simp at this; omega
    go_wp2_with fail
    clear hc hf lz0 lz1
    go_ret
    exact ⟨rfl, hA0.trans (hb2.mono hB0)⟩
  have zl1 : (ys.length : Int) ≤ 1048576 - xs.length := by omega
  go_enter Try.func7, Try.ntmps7
  go_wp2_with fail
  refine (szBraid_yes (g0.below hb0 hB0) (Nat.le_trans hB0 hb0.size) (by omega) (by omega) (by omega)).mono ?_
  rintro e w1 ⟨rfl, hq⟩
  have hb1 := hb0.trans (hq.mono hb0.size)
  have hS1 := hS0.below hq
  clear hb0 hS0 hq
  obtain ⟨hc, hf⟩ := bcell hb1
  have lz0 : w.heap.size < w1.heap.size := by have := hb1.size; simp at this; omega
  have lz1 : w.heap.size + 1 < w1.heap.size := by have := hb1.size; simp at this; omega
  go_wp2_with fail
  clear hc hf lz0 lz1
  refine (szBraid_yes (g1.below hb1 hB0) (Nat.le_trans hB0 hb1.size) (by omega) (by omega) (by omega)).mono ?_
  rintro e w2 ⟨rfl, hq⟩
  have hb2 := hb1.trans (hq.mono hb1.size)
  have hS2 := hS1.below hq
  clear hb1 hS1 hq
  obtain ⟨hc, hf⟩ := bcell hb2
  have lz0 : w.heap.size < w2.heap.size := by have := hb2.size; simp at this; omega
  have lz1 : w.heap.size + 1 < w2.heap.size := by have := hb2.size; simp at this; omega
  go_wp2_with fail
  clear hc hf lz0 lz1
  have j0 : w2.cell? ⟨w.heap.size, 0, none⟩ = some (.int .i64 (s0)) := by rw [(bcell hb2).1 _ _ (by simp; try omega)]; first | (simp; done) | simp [World.cell?_alloc_lt]
  have jl0 : w.heap.size < w2.heap.size := block_lt_of_cell j0
  have j1 : w2.cell? ⟨w.heap.size, 1, none⟩ = some ((.slice A0 xs.length c0)) := by rw [(bcell hb2).1 _ _ (by simp; try omega)]; first | (simp; done) | simp [World.cell?_alloc_lt]
  have jl1 : w.heap.size < w2.heap.size := block_lt_of_cell j1
  have j2 : w2.cell? ⟨w.heap.size + 1, 0, none⟩ = some (.int .i64 (s1)) := by rw [(bcell hb2).1 _ _ (by simp; try omega)]; first | (simp; done) | simp [World.cell?_alloc_lt]
  have jl2 : w.heap.size + 1 < w2.heap.size := block_lt_of_cell j2
  have j3 : w2.cell? ⟨w.heap.size + 1, 1, none⟩ = some ((.slice A1 ys.length c1)) := by rw [(bcell hb2).1 _ _ (by simp; try omega)]; first | (simp; done) | simp [World.cell?_alloc_lt]
  have jl3 : w.heap.size + 1 < w2.heap.size := block_lt_of_cell j3
  have hBx := Nat.le_trans hB0 hb2.size
  have gx0 := g0.below hb2 hB0
  have gx1 := g1.below hb2 hB0
  have HK := Lib.hid (fun w' (hw : Below w2.heap.size w2 w') => show w'.cell? ⟨w.heap.size, 0, none⟩ = some (.int .i64 (s0)) ∧ w'.cell? ⟨w.heap.size, 1, none⟩ = some ((.slice A0 xs.length c0)) ∧ w'.cell? ⟨w.heap.size + 1, 0, none⟩ = some (.int .i64 (s1)) ∧ w'.cell? ⟨w.heap.size + 1, 1, none⟩ = some ((.slice A1 ys.length c1)) ∧ Below w2.heap.size w2 w' from ⟨by rw [hw.cell (by simp only; omega)]; exact j0, by rw [hw.cell (by simp only; omega)]; exact j1, by rw [hw.cell (by simp only; omega)]; exact j2, by rw [hw.cell (by simp only; omega)]; exact j3, hw⟩)
  clear j0 jl0 j1 jl1 j2 jl2 j3 jl3
  go_region_held3 (fun w' => w'.cell? ⟨w.heap.size, 0, none⟩ = some (.int .i64 (s0)) ∧ w'.cell? ⟨w.heap.size, 1, none⟩ = some ((.slice A0 xs.length c0)) ∧ w'.cell? ⟨w.heap.size + 1, 0, none⟩ = some (.int .i64 (s1)) ∧ w'.cell? ⟨w.heap.size + 1, 1, none⟩ = some ((.slice A1 ys.length c1)) ∧ Below w2.heap.size w2 w')
    (first | exact HK.out _ (by first | assumption | exact Below.refl _ _ | exact drewN_below _ _ _ | exact (Below.refl _ _).drew))
    (first
      | (go_at_call_of 24 (Go.Value.agg #[.int .i64 (s0), (.slice A0 xs.length c0)]); (refine (toBraid_any (s0) _ (xs) _ _ (gx0.below (by first | assumption | exact Below.refl _ _ | exact drewN_below _ _ _ | exact (Below.refl _ _).drew) hBx) (Nat.le_trans hBx (Below.size (w := w2) (B := w2.heap.size) (by first | assumption | exact Below.refl _ _ | exact drewN_below _ _ _ | exact (Below.refl _ _).drew))) (by omega)).mono ?_); rintro e w3 ⟨q3_0, rfl, ho3, hq⟩; have hr3 : Below w2.heap.size w2 w3 := Below.trans (by first | assumption | exact Below.refl _ _ | exact drewN_below _ _ _ | exact (Below.refl _ _).drew) (hq.mono (Below.size (w := w2) (B := w2.heap.size) (by first | assumption | exact Below.refl _ _ | exact drewN_below _ _ _ | exact (Below.refl _ _).drew))); have hS3 := hS2.join hr3 (hs_ow (w := w2) ho3 hr3); obtain ⟨A3_0, c3_0, rfl, -⟩ := id (ho3.sl (Nat.le_refl _)); have so3_0 := ho3.sl (Nat.le_refl _))
      | (go_at_call_of 24 (Go.Value.agg #[.int .i64 (s1), (.slice A1 ys.length c1)]); (refine (toBraid_any (s1) _ (ys) _ _ (gx1.below (by first | assumption | exact Below.refl _ _ | exact drewN_below _ _ _ | exact (Below.refl _ _).drew) hBx) (Nat.le_trans hBx (Below.size (w := w2) (B := w2.heap.size) (by first | assumption | exact Below.refl _ _ | exact drewN_below _ _ _ | exact (Below.refl _ _).drew))) (by omega)).mono ?_); rintro e w4 ⟨q4_0, rfl, ho4, hq⟩; have hr4 : Below w2.heap.size w2 w4 := Below.trans (by first | assumption | exact Below.refl _ _ | exact drewN_below _ _ _ | exact (Below.refl _ _).drew) (hq.mono (Below.size (w := w2) (B := w2.heap.size) (by first | assumption | exact Below.refl _ _ | exact drewN_below _ _ _ | exact (Below.refl _ _).drew))); have so3_0 := (so3_0.below hq (Nat.le_refl _)).mono hq.size; have hS4 := hS3.join hq (hs_ow (w := w3) ho4 hq); obtain ⟨A4_0, c4_0, rfl, -⟩ := id (ho4.sl (Nat.le_refl _)); have so4_0 := ho4.sl (Nat.le_refl _))
      | (go_at_call 31; (refine (spec_ArtinEqual_any _ _ _ _ xs ys _ _ so3_0 so4_0 (Nat.le_refl _)).mono ?_); rintro e w5 ⟨rfl, hq⟩; have hr5 : Below w2.heap.size w2 w5 := Below.trans (by first | assumption | exact Below.refl _ _ | exact drewN_below _ _ _ | exact (Below.refl _ _).drew) (hq.mono (Below.size (w := w2) (B := w2.heap.size) (by first | assumption | exact Below.refl _ _ | exact drewN_below _ _ _ | exact (Below.refl _ _).drew))); have so3_0 := (so3_0.below hq (Nat.le_refl _)).mono hq.size; have so4_0 := (so4_0.below hq (Nat.le_refl _)).mono hq.size; have hS5 := hS4.below hq))
  have hb5 := hb2.trans (hr5.mono hb2.size)
  clear HK hBx gx0 gx1 
  obtain ⟨hc, hf⟩ := bcell hb5
  have lz0 : w.heap.size < w5.heap.size := by have := hb5.size; simp at this; omega
  have lz1 : w.heap.size + 1 < w5.heap.size := by have := hb5.size; simp at this; omega
  go_wp2_with fail
  clear hc hf lz0 lz1
  refine (toBraid_any (s0) _ (xs) _ _ (g0.below hb5 hB0) (Nat.le_trans hB0 hb5.size) (by omega)).mono ?_
  rintro e w6 ⟨q6_0, rfl, ho6, hq⟩
  have hb6 := hb5.trans (hq.mono hb5.size)
  have hS6 := hS5.join hq (hs_ow ho6 hq)
  clear hb5 hS5 hq ho6
  obtain ⟨A6_0, c6_0, rfl, -⟩ := id (Hs.rd [rw_ (.slice A3_0 (xs).length c3_0) (xs), rw_ (.slice A4_0 (ys).length c4_0) (ys)] [] hS6)
  obtain ⟨hc, hf⟩ := bcell hb6
  have lz0 : w.heap.size < w6.heap.size := by have := hb6.size; simp at this; omega
  have lz1 : w.heap.size + 1 < w6.heap.size := by have := hb6.size; simp at this; omega
  go_wp2_with fail
  clear hc hf lz0 lz1
  have hS6b1 := hS6.join (al1 _ _) (hs_bx w6 #[.int .i64 (s0), (.slice A6_0 (xs).length c6_0)] 41)
  have hb6b1 := hb6.trans ((al1 w6 (.cells #[.int .i64 (s0), (.slice A6_0 (xs).length c6_0)] 41)).mono hb6.size)
  clear hb6 hS6
  generalize hg6b1 : w6.heap.size = g6b1 at *
  generalize hw6b1 : w6.alloc (.cells #[.int .i64 (s0), (.slice A6_0 (xs).length c6_0)] 41) = w7 at *
  clear hg6b1 hw6b1
  have hS7 := hS6b1
  have hb7 := hb6b1
  clear hS6b1 hb6b1
  refine (toBraid_any (s1) _ (ys) _ _ (g1.below hb7 hB0) (Nat.le_trans hB0 hb7.size) (by omega)).mono ?_
  rintro e w8 ⟨q8_0, rfl, ho8, hq⟩
  have hb8 := hb7.trans (hq.mono hb7.size)
  have hS8 := hS7.join hq (hs_ow ho8 hq)
  clear hb7 hS7 hq ho8
  obtain ⟨A8_0, c8_0, rfl, -⟩ := id (Hs.rd [rw_ (.slice A3_0 (xs).length c3_0) (xs), rw_ (.slice A4_0 (ys).length c4_0) (ys), rw_ (.slice A6_0 (xs).length c6_0) (xs), bx_ g6b1 #[.int .i64 (s0), (.slice A6_0 (xs).length c6_0)] 41] [] hS8)
  obtain ⟨hc, hf⟩ := bcell hb8
  have lz0 : w.heap.size < w8.heap.size := by have := hb8.size; simp at this; omega
  have lz1 : w.heap.size + 1 < w8.heap.size := by have := hb8.size; simp at this; omega
  obtain ⟨kx6b1, -, lx6b1, -⟩ := Hs.bx [rw_ (.slice A3_0 (xs).length c3_0) (xs), rw_ (.slice A4_0 (ys).length c4_0) (ys), rw_ (.slice A6_0 (xs).length c6_0) (xs)] [rw_ (.slice A8_0 (ys).length c8_0) (ys)] hS8
  have kx6b1_0 : w8.cell? ⟨g6b1, 0, none⟩ = some (.int .i64 (s0)) := kx6b1 0
  have kx6b1_1 : w8.cell? ⟨g6b1, 1, none⟩ = some ((.slice A6_0 (xs).length c6_0)) := kx6b1 1
  clear kx6b1
  go_wp2_with fail
  clear hc hf lz0 lz1 kx6b1_0 kx6b1_1 lx6b1
  have hS8b2 := hS8.join (al1 _ _) (hs_bx w8 #[.int .i64 (s1), (.slice A8_0 (ys).length c8_0)] 41)
  have hb8b2 := hb8.trans ((al1 w8 (.cells #[.int .i64 (s1), (.slice A8_0 (ys).length c8_0)] 41)).mono hb8.size)
  clear hb8 hS8
  generalize hg8b2 : w8.heap.size = g8b2 at *
  generalize hw8b2 : w8.alloc (.cells #[.int .i64 (s1), (.slice A8_0 (ys).length c8_0)] 41) = w9 at *
  clear hg8b2 hw8b2
  have hS9 := hS8b2
  have hb9 := hb8b2
  clear hS8b2 hb8b2
  refine (impl_ArtinEqual_any _ _ _ _ xs ys _ _ (Hs.rd [rw_ (.slice A3_0 (xs).length c3_0) (xs), rw_ (.slice A4_0 (ys).length c4_0) (ys)] [bx_ g6b1 #[.int .i64 (s0), (.slice A6_0 (xs).length c6_0)] 41, rw_ (.slice A8_0 (ys).length c8_0) (ys), bx_ g8b2 #[.int .i64 (s1), (.slice A8_0 (ys).length c8_0)] 41] hS9) (Hs.rd [rw_ (.slice A3_0 (xs).length c3_0) (xs), rw_ (.slice A4_0 (ys).length c4_0) (ys), rw_ (.slice A6_0 (xs).length c6_0) (xs), bx_ g6b1 #[.int .i64 (s0), (.slice A6_0 (xs).length c6_0)] 41] [bx_ g8b2 #[.int .i64 (s1), (.slice A8_0 (ys).length c8_0)] 41] hS9) (Nat.le_refl _)).mono ?_
  rintro e w10 ⟨rfl, hq⟩
  have hb10 := hb9.trans (hq.mono hb9.size)
  have hS10 := hS9.below hq
  clear hb9 hS9 hq
  obtain ⟨hc, hf⟩ := bcell hb10
  have lz0 : w.heap.size < w10.heap.size := by have := hb10.size; simp at this; omega
  have lz1 : w.heap.size + 1 < w10.heap.size := by have := hb10.size; simp at this; omega
  obtain ⟨kx6b1, -, lx6b1, -⟩ := Hs.bx [rw_ (.slice A3_0 (xs).length c3_0) (xs), rw_ (.slice A4_0 (ys).length c4_0) (ys), rw_ (.slice A6_0 (xs).length c6_0) (xs)] [rw_ (.slice A8_0 (ys).length c8_0) (ys), bx_ g8b2 #[.int .i64 (s1), (.slice A8_0 (ys).length c8_0)] 41] hS10
  have kx6b1_0 : w10.cell? ⟨g6b1, 0, none⟩ = some (.int .i64 (s0)) := kx6b1 0
  have kx6b1_1 : w10.cell? ⟨g6b1, 1, none⟩ = some ((.slice A6_0 (xs).length c6_0)) := kx6b1 1
  clear kx6b1
  obtain ⟨kx8b2, -, lx8b2, -⟩ := Hs.bx [rw_ (.slice A3_0 (xs).length c3_0) (xs), rw_ (.slice A4_0 (ys).length c4_0) (ys), rw_ (.slice A6_0 (xs).length c6_0) (xs), bx_ g6b1 #[.int .i64 (s0), (.slice A6_0 (xs).length c6_0)] 41, rw_ (.slice A8_0 (ys).length c8_0) (ys)] [] hS10
  have kx8b2_0 : w10.cell? ⟨g8b2, 0, none⟩ = some (.int .i64 (s1)) := kx8b2 0
  have kx8b2_1 : w10.cell? ⟨g8b2, 1, none⟩ = some ((.slice A8_0 (ys).length c8_0)) := kx8b2 1
  clear kx8b2
  go_wp2_with fail
  clear hc hf lz0 lz1 kx6b1_0 kx6b1_1 lx6b1 kx8b2_0 kx8b2_1 lx8b2
  have j0 : w10.cell? ⟨g6b1, 0, none⟩ = some (.int .i64 (s0)) := (Hs.bx [rw_ (.slice A3_0 (xs).length c3_0) (xs), rw_ (.slice A4_0 (ys).length c4_0) (ys), rw_ (.slice A6_0 (xs).length c6_0) (xs)] [rw_ (.slice A8_0 (ys).length c8_0) (ys), bx_ g8b2 #[.int .i64 (s1), (.slice A8_0 (ys).length c8_0)] 41] hS10).1 0
  have jl0 : g6b1 < w10.heap.size := block_lt_of_cell j0
  have j1 : w10.cell? ⟨g6b1, 1, none⟩ = some ((.slice A6_0 (xs).length c6_0)) := (Hs.bx [rw_ (.slice A3_0 (xs).length c3_0) (xs), rw_ (.slice A4_0 (ys).length c4_0) (ys), rw_ (.slice A6_0 (xs).length c6_0) (xs)] [rw_ (.slice A8_0 (ys).length c8_0) (ys), bx_ g8b2 #[.int .i64 (s1), (.slice A8_0 (ys).length c8_0)] 41] hS10).1 1
  have jl1 : g6b1 < w10.heap.size := block_lt_of_cell j1
  have j2 : w10.cell? ⟨w.heap.size, 0, none⟩ = some (.int .i64 (s0)) := by rw [(bcell hb10).1 _ _ (by simp; try omega)]; first | (simp; done) | simp [World.cell?_alloc_lt]
  have jl2 : w.heap.size < w10.heap.size := block_lt_of_cell j2
  have j3 : w10.cell? ⟨w.heap.size, 1, none⟩ = some ((.slice A0 xs.length c0)) := by rw [(bcell hb10).1 _ _ (by simp; try omega)]; first | (simp; done) | simp [World.cell?_alloc_lt]
  have jl3 : w.heap.size < w10.heap.size := block_lt_of_cell j3
  have hBx := Nat.le_trans hB0 hb10.size
  have gx0 := g0.below hb10 hB0
  have gx1 := g1.below hb10 hB0
  have sx3_0 : Sl w10 w10.heap.size (.slice A3_0 (xs).length c3_0) (xs) := Hs.rd [] [rw_ (.slice A4_0 (ys).length c4_0) (ys), rw_ (.slice A6_0 (xs).length c6_0) (xs), bx_ g6b1 #[.int .i64 (s0), (.slice A6_0 (xs).length c6_0)] 41, rw_ (.slice A8_0 (ys).length c8_0) (ys), bx_ g8b2 #[.int .i64 (s1), (.slice A8_0 (ys).length c8_0)] 41] hS10
  have sx4_0 : Sl w10 w10.heap.size (.slice A4_0 (ys).length c4_0) (ys) := Hs.rd [rw_ (.slice A3_0 (xs).length c3_0) (xs)] [rw_ (.slice A6_0 (xs).length c6_0) (xs), bx_ g6b1 #[.int .i64 (s0), (.slice A6_0 (xs).length c6_0)] 41, rw_ (.slice A8_0 (ys).length c8_0) (ys), bx_ g8b2 #[.int .i64 (s1), (.slice A8_0 (ys).length c8_0)] 41] hS10
  have sx6_0 : Sl w10 w10.heap.size (.slice A6_0 (xs).length c6_0) (xs) := Hs.rd [rw_ (.slice A3_0 (xs).length c3_0) (xs), rw_ (.slice A4_0 (ys).length c4_0) (ys)] [bx_ g6b1 #[.int .i64 (s0), (.slice A6_0 (xs).length c6_0)] 41, rw_ (.slice A8_0 (ys).length c8_0) (ys), bx_ g8b2 #[.int .i64 (s1), (.slice A8_0 (ys).length c8_0)] 41] hS10
  have sx8_0 : Sl w10 w10.heap.size (.slice A8_0 (ys).length c8_0) (ys) := Hs.rd [rw_ (.slice A3_0 (xs).length c3_0) (xs), rw_ (.slice A4_0 (ys).length c4_0) (ys), rw_ (.slice A6_0 (xs).length c6_0) (xs), bx_ g6b1 #[.int .i64 (s0), (.slice A6_0 (xs).length c6_0)] 41] [bx_ g8b2 #[.int .i64 (s1), (.slice A8_0 (ys).length c8_0)] 41] hS10
  have HK := Lib.hid (fun w' (hw : Below w10.heap.size w10 w') => show w'.cell? ⟨g6b1, 0, none⟩ = some (.int .i64 (s0)) ∧ w'.cell? ⟨g6b1, 1, none⟩ = some ((.slice A6_0 (xs).length c6_0)) ∧ w'.cell? ⟨w.heap.size, 0, none⟩ = some (.int .i64 (s0)) ∧ w'.cell? ⟨w.heap.size, 1, none⟩ = some ((.slice A0 xs.length c0)) ∧ Below w10.heap.size w10 w' from ⟨by rw [hw.cell (by simp only; omega)]; exact j0, by rw [hw.cell (by simp only; omega)]; exact j1, by rw [hw.cell (by simp only; omega)]; exact j2, by rw [hw.cell (by simp only; omega)]; exact j3, hw⟩)
  clear j0 jl0 j1 jl1 j2 jl2 j3 jl3
  go_region_held3 (fun w' => w'.cell? ⟨g6b1, 0, none⟩ = some (.int .i64 (s0)) ∧ w'.cell? ⟨g6b1, 1, none⟩ = some ((.slice A6_0 (xs).length c6_0)) ∧ w'.cell? ⟨w.heap.size, 0, none⟩ = some (.int .i64 (s0)) ∧ w'.cell? ⟨w.heap.size, 1, none⟩ = some ((.slice A0 xs.length c0)) ∧ Below w10.heap.size w10 w')
    (first | exact HK.out _ (by first | assumption | exact Below.refl _ _ | exact drewN_below _ _ _ | exact (Below.refl _ _).drew))
    (first
      | (go_at_call_of 24 (Go.Value.agg #[.int .i64 (s0), (.slice A0 xs.length c0)]); (refine (toBraid_any (s0) _ (xs) _ _ (gx0.below (by first | assumption | exact Below.refl _ _ | exact drewN_below _ _ _ | exact (Below.refl _ _).drew) hBx) (Nat.le_trans hBx (Below.size (w := w10) (B := w10.heap.size) (by first | assumption | exact Below.refl _ _ | exact drewN_below _ _ _ | exact (Below.refl _ _).drew))) (by omega)).mono ?_); rintro e w11 ⟨q11_0, rfl, ho11, hq⟩; have hr11 : Below w10.heap.size w10 w11 := Below.trans (by first | assumption | exact Below.refl _ _ | exact drewN_below _ _ _ | exact (Below.refl _ _).drew) (hq.mono (Below.size (w := w10) (B := w10.heap.size) (by first | assumption | exact Below.refl _ _ | exact drewN_below _ _ _ | exact (Below.refl _ _).drew))); have hS11 := hS10.join hr11 (hs_ow (w := w10) ho11 hr11); obtain ⟨A11_0, c11_0, rfl, -⟩ := id (ho11.sl (Nat.le_refl _)); have so11_0 := ho11.sl (Nat.le_refl _))
      | (go_at_call 26; (refine (eqBraid_yes (sx6_0.below (by first | assumption | exact Below.refl _ _ | exact drewN_below _ _ _ | exact (Below.refl _ _).drew) (Nat.le_refl _)) so11_0 (Below.size (w := w10) (B := w10.heap.size) (by first | assumption | exact Below.refl _ _ | exact drewN_below _ _ _ | exact (Below.refl _ _).drew)) (Nat.le_refl _)).mono ?_); rintro e w12 ⟨rfl, hq⟩; have hr12 : Below w10.heap.size w10 w12 := Below.trans (by first | assumption | exact Below.refl _ _ | exact drewN_below _ _ _ | exact (Below.refl _ _).drew) (hq.mono (Below.size (w := w10) (B := w10.heap.size) (by first | assumption | exact Below.refl _ _ | exact drewN_below _ _ _ | exact (Below.refl _ _).drew))); have so11_0 := (so11_0.below hq (Nat.le_refl _)).mono hq.size; have hS12 := hS11.below hq))
  have hb12 := hb10.trans (hr12.mono hb10.size)
  clear HK hBx gx0 gx1 sx3_0 sx4_0 sx6_0 sx8_0
  obtain ⟨hc, hf⟩ := bcell hb12
  have lz0 : w.heap.size < w12.heap.size := by have := hb12.size; simp at this; omega
  have lz1 : w.heap.size + 1 < w12.heap.size := by have := hb12.size; simp at this; omega
  obtain ⟨kx6b1, -, lx6b1, -⟩ := Hs.bx [rw_ (.slice A3_0 (xs).length c3_0) (xs), rw_ (.slice A4_0 (ys).length c4_0) (ys), rw_ (.slice A6_0 (xs).length c6_0) (xs)] [rw_ (.slice A8_0 (ys).length c8_0) (ys), bx_ g8b2 #[.int .i64 (s1), (.slice A8_0 (ys).length c8_0)] 41, rw_ (.slice A11_0 (xs).length c11_0) (xs)] hS12
  have kx6b1_0 : w12.cell? ⟨g6b1, 0, none⟩ = some (.int .i64 (s0)) := kx6b1 0
  have kx6b1_1 : w12.cell? ⟨g6b1, 1, none⟩ = some ((.slice A6_0 (xs).length c6_0)) := kx6b1 1
  clear kx6b1
  obtain ⟨kx8b2, -, lx8b2, -⟩ := Hs.bx [rw_ (.slice A3_0 (xs).length c3_0) (xs), rw_ (.slice A4_0 (ys).length c4_0) (ys), rw_ (.slice A6_0 (xs).length c6_0) (xs), bx_ g6b1 #[.int .i64 (s0), (.slice A6_0 (xs).length c6_0)] 41, rw_ (.slice A8_0 (ys).length c8_0) (ys)] [rw_ (.slice A11_0 (xs).length c11_0) (xs)] hS12
  have kx8b2_0 : w12.cell? ⟨g8b2, 0, none⟩ = some (.int .i64 (s1)) := kx8b2 0
  have kx8b2_1 : w12.cell? ⟨g8b2, 1, none⟩ = some ((.slice A8_0 (ys).length c8_0)) := kx8b2 1
  clear kx8b2
  go_wp2_with fail
  clear hc hf lz0 lz1 kx6b1_0 kx6b1_1 lx6b1 kx8b2_0 kx8b2_1 lx8b2
  have j0 : w12.cell? ⟨g8b2, 0, none⟩ = some (.int .i64 (s1)) := (Hs.bx [rw_ (.slice A3_0 (xs).length c3_0) (xs), rw_ (.slice A4_0 (ys).length c4_0) (ys), rw_ (.slice A6_0 (xs).length c6_0) (xs), bx_ g6b1 #[.int .i64 (s0), (.slice A6_0 (xs).length c6_0)] 41, rw_ (.slice A8_0 (ys).length c8_0) (ys)] [rw_ (.slice A11_0 (xs).length c11_0) (xs)] hS12).1 0
  have jl0 : g8b2 < w12.heap.size := block_lt_of_cell j0
  have j1 : w12.cell? ⟨g8b2, 1, none⟩ = some ((.slice A8_0 (ys).length c8_0)) := (Hs.bx [rw_ (.slice A3_0 (xs).length c3_0) (xs), rw_ (.slice A4_0 (ys).length c4_0) (ys), rw_ (.slice A6_0 (xs).length c6_0) (xs), bx_ g6b1 #[.int .i64 (s0), (.slice A6_0 (xs).length c6_0)] 41, rw_ (.slice A8_0 (ys).length c8_0) (ys)] [rw_ (.slice A11_0 (xs).length c11_0) (xs)] hS12).1 1
  have jl1 : g8b2 < w12.heap.size := block_lt_of_cell j1
  have j2 : w12.cell? ⟨w.heap.size + 1, 0, none⟩ = some (.int .i64 (s1)) := by rw [(bcell hb12).1 _ _ (by simp; try omega)]; first | (simp; done) | simp [World.cell?_alloc_lt]
  have jl2 : w.heap.size + 1 < w12.heap.size := block_lt_of_cell j2
  have j3 : w12.cell? ⟨w.heap.size + 1, 1, none⟩ = some ((.slice A1 ys.length c1)) := by rw [(bcell hb12).1 _ _ (by simp; try omega)]; first | (simp; done) | simp [World.cell?_alloc_lt]
  have jl3 : w.heap.size + 1 < w12.heap.size := block_lt_of_cell j3
  have hBx := Nat.le_trans hB0 hb12.size
  have gx0 := g0.below hb12 hB0
  have gx1 := g1.below hb12 hB0
  have sx3_0 : Sl w12 w12.heap.size (.slice A3_0 (xs).length c3_0) (xs) := Hs.rd [] [rw_ (.slice A4_0 (ys).length c4_0) (ys), rw_ (.slice A6_0 (xs).length c6_0) (xs), bx_ g6b1 #[.int .i64 (s0), (.slice A6_0 (xs).length c6_0)] 41, rw_ (.slice A8_0 (ys).length c8_0) (ys), bx_ g8b2 #[.int .i64 (s1), (.slice A8_0 (ys).length c8_0)] 41, rw_ (.slice A11_0 (xs).length c11_0) (xs)] hS12
  have sx4_0 : Sl w12 w12.heap.size (.slice A4_0 (ys).length c4_0) (ys) := Hs.rd [rw_ (.slice A3_0 (xs).length c3_0) (xs)] [rw_ (.slice A6_0 (xs).length c6_0) (xs), bx_ g6b1 #[.int .i64 (s0), (.slice A6_0 (xs).length c6_0)] 41, rw_ (.slice A8_0 (ys).length c8_0) (ys), bx_ g8b2 #[.int .i64 (s1), (.slice A8_0 (ys).length c8_0)] 41, rw_ (.slice A11_0 (xs).length c11_0) (xs)] hS12
  have sx6_0 : Sl w12 w12.heap.size (.slice A6_0 (xs).length c6_0) (xs) := Hs.rd [rw_ (.slice A3_0 (xs).length c3_0) (xs), rw_ (.slice A4_0 (ys).length c4_0) (ys)] [bx_ g6b1 #[.int .i64 (s0), (.slice A6_0 (xs).length c6_0)] 41, rw_ (.slice A8_0 (ys).length c8_0) (ys), bx_ g8b2 #[.int .i64 (s1), (.slice A8_0 (ys).length c8_0)] 41, rw_ (.slice A11_0 (xs).length c11_0) (xs)] hS12
  have sx8_0 : Sl w12 w12.heap.size (.slice A8_0 (ys).length c8_0) (ys) := Hs.rd [rw_ (.slice A3_0 (xs).length c3_0) (xs), rw_ (.slice A4_0 (ys).length c4_0) (ys), rw_ (.slice A6_0 (xs).length c6_0) (xs), bx_ g6b1 #[.int .i64 (s0), (.slice A6_0 (xs).length c6_0)] 41] [bx_ g8b2 #[.int .i64 (s1), (.slice A8_0 (ys).length c8_0)] 41, rw_ (.slice A11_0 (xs).length c11_0) (xs)] hS12
  have sx11_0 : Sl w12 w12.heap.size (.slice A11_0 (xs).length c11_0) (xs) := Hs.rd [rw_ (.slice A3_0 (xs).length c3_0) (xs), rw_ (.slice A4_0 (ys).length c4_0) (ys), rw_ (.slice A6_0 (xs).length c6_0) (xs), bx_ g6b1 #[.int .i64 (s0), (.slice A6_0 (xs).length c6_0)] 41, rw_ (.slice A8_0 (ys).length c8_0) (ys), bx_ g8b2 #[.int .i64 (s1), (.slice A8_0 (ys).length c8_0)] 41] [] hS12
  have HK := Lib.hid (fun w' (hw : Below w12.heap.size w12 w') => show w'.cell? ⟨g8b2, 0, none⟩ = some (.int .i64 (s1)) ∧ w'.cell? ⟨g8b2, 1, none⟩ = some ((.slice A8_0 (ys).length c8_0)) ∧ w'.cell? ⟨w.heap.size + 1, 0, none⟩ = some (.int .i64 (s1)) ∧ w'.cell? ⟨w.heap.size + 1, 1, none⟩ = some ((.slice A1 ys.length c1)) ∧ Below w12.heap.size w12 w' from ⟨by rw [hw.cell (by simp only; omega)]; exact j0, by rw [hw.cell (by simp only; omega)]; exact j1, by rw [hw.cell (by simp only; omega)]; exact j2, by rw [hw.cell (by simp only; omega)]; exact j3, hw⟩)
  clear j0 jl0 j1 jl1 j2 jl2 j3 jl3
  go_region_held3 (fun w' => w'.cell? ⟨g8b2, 0, none⟩ = some (.int .i64 (s1)) ∧ w'.cell? ⟨g8b2, 1, none⟩ = some ((.slice A8_0 (ys).length c8_0)) ∧ w'.cell? ⟨w.heap.size + 1, 0, none⟩ = some (.int .i64 (s1)) ∧ w'.cell? ⟨w.heap.size + 1, 1, none⟩ = some ((.slice A1 ys.length c1)) ∧ Below w12.heap.size w12 w')
    (first | exact HK.out _ (by first | assumption | exact Below.refl _ _ | exact drewN_below _ _ _ | exact (Below.refl _ _).drew))
    (first
      | (go_at_call_of 24 (Go.Value.agg #[.int .i64 (s1), (.slice A1 ys.length c1)]); (refine (toBraid_any (s1) _ (ys) _ _ (gx1.below (by first | assumption | exact Below.refl _ _ | exact drewN_below _ _ _ | exact (Below.refl _ _).drew) hBx) (Nat.le_trans hBx (Below.size (w := w12) (B := w12.heap.size) (by first | assumption | exact Below.refl _ _ | exact drewN_below _ _ _ | exact (Below.refl _ _).drew))) (by omega)).mono ?_); rintro e w13 ⟨q13_0, rfl, ho13, hq⟩; have hr13 : Below w12.heap.size w12 w13 := Below.trans (by first | assumption | exact Below.refl _ _ | exact drewN_below _ _ _ | exact (Below.refl _ _).drew) (hq.mono (Below.size (w := w12) (B := w12.heap.size) (by first | assumption | exact Below.refl _ _ | exact drewN_below _ _ _ | exact (Below.refl _ _).drew))); have hS13 := hS12.join hr13 (hs_ow (w := w12) ho13 hr13); obtain ⟨A13_0, c13_0, rfl, -⟩ := id (ho13.sl (Nat.le_refl _)); have so13_0 := ho13.sl (Nat.le_refl _))
      | (go_at_call 26; (refine (eqBraid_yes (sx8_0.below (by first | assumption | exact Below.refl _ _ | exact drewN_below _ _ _ | exact (Below.refl _ _).drew) (Nat.le_refl _)) so13_0 (Below.size (w := w12) (B := w12.heap.size) (by first | assumption | exact Below.refl _ _ | exact drewN_below _ _ _ | exact (Below.refl _ _).drew)) (Nat.le_refl _)).mono ?_); rintro e w14 ⟨rfl, hq⟩; have hr14 : Below w12.heap.size w12 w14 := Below.trans (by first | assumption | exact Below.refl _ _ | exact drewN_below _ _ _ | exact (Below.refl _ _).drew) (hq.mono (Below.size (w := w12) (B := w12.heap.size) (by first | assumption | exact Below.refl _ _ | exact drewN_below _ _ _ | exact (Below.refl _ _).drew))); have so13_0 := (so13_0.below hq (Nat.le_refl _)).mono hq.size; have hS14 := hS13.below hq))
  have hb14 := hb12.trans (hr14.mono hb12.size)
  clear HK hBx gx0 gx1 sx3_0 sx4_0 sx6_0 sx8_0 sx11_0
  obtain ⟨hc, hf⟩ := bcell hb14
  have lz0 : w.heap.size < w14.heap.size := by have := hb14.size; simp at this; omega
  have lz1 : w.heap.size + 1 < w14.heap.size := by have := hb14.size; simp at this; omega
  obtain ⟨kx6b1, -, lx6b1, -⟩ := Hs.bx [rw_ (.slice A3_0 (xs).length c3_0) (xs), rw_ (.slice A4_0 (ys).length c4_0) (ys), rw_ (.slice A6_0 (xs).length c6_0) (xs)] [rw_ (.slice A8_0 (ys).length c8_0) (ys), bx_ g8b2 #[.int .i64 (s1), (.slice A8_0 (ys).length c8_0)] 41, rw_ (.slice A11_0 (xs).length c11_0) (xs), rw_ (.slice A13_0 (ys).length c13_0) (ys)] hS14
  have kx6b1_0 : w14.cell? ⟨g6b1, 0, none⟩ = some (.int .i64 (s0)) := kx6b1 0
  have kx6b1_1 : w14.cell? ⟨g6b1, 1, none⟩ = some ((.slice A6_0 (xs).length c6_0)) := kx6b1 1
  clear kx6b1
  obtain ⟨kx8b2, -, lx8b2, -⟩ := Hs.bx [rw_ (.slice A3_0 (xs).length c3_0) (xs), rw_ (.slice A4_0 (ys).length c4_0) (ys), rw_ (.slice A6_0 (xs).length c6_0) (xs), bx_ g6b1 #[.int .i64 (s0), (.slice A6_0 (xs).length c6_0)] 41, rw_ (.slice A8_0 (ys).length c8_0) (ys)] [rw_ (.slice A11_0 (xs).length c11_0) (xs), rw_ (.slice A13_0 (ys).length c13_0) (ys)] hS14
  have kx8b2_0 : w14.cell? ⟨g8b2, 0, none⟩ = some (.int .i64 (s1)) := kx8b2 0
  have kx8b2_1 : w14.cell? ⟨g8b2, 1, none⟩ = some ((.slice A8_0 (ys).length c8_0)) := kx8b2 1
  clear kx8b2
  go_wp2_with fail
  clear hc hf lz0 lz1 kx6b1_0 kx6b1_1 lx6b1 kx8b2_0 kx8b2_1 lx8b2
  go_ret
  exact ⟨rfl, hA0.trans (hb14.mono hB0)⟩

set_option maxRecDepth 100000 in
theorem lifted (os : Os) (started : os.Started) (H : Type) (enc : TypeId × Value → H) :
    ReturnsInHanded {} Try.checked os 7 .any (Rows.fnExactArtinEqualSpec.pre6 enc Try.prog Try.f7 Rows.fnExactArtinEqualRow.domain false) (Rows.fnExactArtinEqualSpec.post enc Try.prog Try.f7 false true false false) := by
  refine returnsInHanded_of_change (C := Try.checked) own_knob started (by kernel_rfl) Try.func7
    (ChangeSpec.witness6 (enc := enc) (C := Try.checked) false ⟨#[], #[.agg #[.int .i64 0, .slice none 0 0], .agg #[.int .i64 0, .slice none 0 0]], []⟩ 8 (by kernel_rfl) (by kernel_rfl) (by kernel_rfl) (by kernel_rfl)) ?_
  intro W base args ds gs before hval0 hW hcnd _
  have hval : ∀ (j : Nat) t v, Try.f7.params[j]? = some t → args[j]? = some v → Value.okWide Try.prog W .any base t v := hval0
  have hW' := hW
  obtain ⟨p, q, hA0, hV, rfl, hfz, hnd⟩ := hW
  have hA : DataW.TrodAll enc Try.prog W 0 (fun _ => true) true Try.f7.params.toList args.toList ds p := hA0
  rw [Try.params7] at hA hval
  obtain ⟨v0, vs0, d0, ds0, p0, q0, hargs, rfl, rfl, h0, r0⟩ := trodAll_cons hA
  obtain ⟨v1, vs1, d1, ds1, p1, q1, rfl, rfl, rfl, h1, r1⟩ := trodAll_cons r0
  obtain ⟨rfl, rfl, rfl⟩ := trodAll_nil r1
  obtain rfl : args = #[v0, v1] := by cases args; simp_all
  obtain ⟨rfl, rfl⟩ := trodVars_none hV
  have k0 := h0
  have lt0 : ∀ x ∈ p0, x.block < W.heap.size := by obtain ⟨m, hm⟩ := k0; exact DataW.trod_lt m _ _ _ hm
  have k1 := h1
  have lt1 : ∀ x ∈ p1, x.block < W.heap.size := by obtain ⟨m, hm⟩ := k1; exact DataW.trod_lt m _ _ _ hm
  obtain ⟨y0, u0, xs, rfl, t0, z0, b0⟩ := open_Braid (hval 0 37 v0 rfl rfl) h0
  obtain ⟨y1, u1, ys, rfl, t1, z1, b1⟩ := open_Braid (hval 1 37 v1 rfl rfl) h1
  clear hA0 hval0
  refine (walk y0 u0 xs y1 u1 ys W t0 z0 b0 t1 z1 b1).mono fun e W' ⟨he, bel⟩ => ?_
  subst he
  exact ⟨_, rfl, _, _, _, [], _, [], hW', trodAll_mk1 (shut_bool Try.underlying4 _), (trodAll_cons_mk (Below.trod laid_out (by kernel_rfl) (of_decide_eq_true (by kernel_rfl)) k0 bel lt0) (trodAll_cons_mk (Below.trod laid_out (by kernel_rfl) (of_decide_eq_true (by kernel_rfl)) k1 bel lt1) trodAll_mk0)), rfl, bel.frame _, fun h => by cases h⟩

/-- The statement. -/
theorem proved : Rows.FnExactArtinEqualSaid :=
  OpenClaim.holds_of_wide 7 Try.f7 rfl rfl rfl rfl rfl rfl rfl ⟨rfl, rfl, rfl, rfl, rfl⟩ rfl rfl rfl rfl rfl (by kernel_rfl) Try.func7 (by kernel_rfl)
    (of_decide_eq_true (by kernel_rfl)) (by unfold Func.isWrapper; first | (rw [if_pos (by decide +kernel)]; kernel_rfl) | (rw [if_neg (by decide +kernel)]; exact ⟨rfl, rfl⟩))
    (fun os started H enc _ => lifted os started H enc)
#print axioms proved
end Go.Proofs.Ytcoocjdkppdlmaa.fnExactArtinEqual
