/-
  Proved here: for every input the law FnExactIsHandle returns true, and every argument reads behind the call as it read before. No condition.
-/
import Derived.Test.YtphbmdoeaebhnaaOpen
import Derived.Test.YtphbmdoeaebhnaaSt
import Derived.Test.YtphbmdoeaebhnaaMain2
import Derived.ProofKit
import Derived.OpenShut
import Derived.ShutString
import Derived.ChangeOld
import Derived.Below
import Derived.Deep.RegionHeld3
namespace Go.Proofs.Ytphbmdoeaebhnaa.fnExactIsHandle
open Go.ChangeShapes Go.WideShapes Go.ChangeAt Go.RowKit
open Go.ChangeMaps (open_string shut_string)
set_option linter.unusedVariables false

set_option maxRecDepth 100000 in
set_option maxHeartbeats 4000000 in
theorem walk (s0 : Int) (v0 : Value) (xs : List Int) (hf ht : Int) (w : World) (t0 : R64 s0) (h0 : Sl w w.heap.size v0 xs) (b0 : ∀ x ∈ xs, R64 x) (bf1 : R64 hf) (bt1 : R64 ht) :
    Calls Try.prog 6 #[.agg #[.int .i64 s0, v0], .agg #[.int .i64 hf, .int .i64 ht]] w fun e w' => e = .returned (.bool true) ∧ Below w.heap.size w w' := by
  obtain ⟨A0, c0, e0, hl0, hm0⟩ : ∃ A c, v0 = .slice A xs.length c ∧ xs.length ≤ c ∧ c ≤ 9223372036854775807 := by obtain ⟨A, c, h1, h2, h3, _⟩ := h0; simp only [maxLen] at h3; exact ⟨A, c, h1, h2, by omega⟩
  subst e0
  have hA0 : Below w.heap.size w ((w.alloc (.cells #[.int .i64 (s0), (.slice A0 xs.length c0)] 35)).alloc (.cells #[.int .i64 (hf), .int .i64 (ht)] 37)) := ((al1 w (.cells #[.int .i64 (s0), (.slice A0 xs.length c0)] 35)).alloc (by simp) (.cells #[.int .i64 (hf), .int .i64 (ht)] 37))
  have hB0 : w.heap.size ≤ ((w.alloc (.cells #[.int .i64 (s0), (.slice A0 xs.length c0)] 35)).alloc (.cells #[.int .i64 (hf), .int .i64 (ht)] 37)).heap.size := hA0.size
  have g0 := h0.below hA0 (Nat.le_refl _)
  clear h0
  have hb0 := Below.refl ((w.alloc (.cells #[.int .i64 (s0), (.slice A0 xs.length c0)] 35)).alloc (.cells #[.int .i64 (hf), .int .i64 (ht)] 37)).heap.size ((w.alloc (.cells #[.int .i64 (s0), (.slice A0 xs.length c0)] 35)).alloc (.cells #[.int .i64 (hf), .int .i64 (ht)] 37))
  have hS0 : Hs ((w.alloc (.cells #[.int .i64 (s0), (.slice A0 xs.length c0)] 35)).alloc (.cells #[.int .i64 (hf), .int .i64 (ht)] 37)) ((w.alloc (.cells #[.int .i64 (s0), (.slice A0 xs.length c0)] 35)).alloc (.cells #[.int .i64 (hf), .int .i64 (ht)] 37)).heap.size [] := Hs.nil _
  by_cases z0 : (1048576 : Int) < xs.length
  · go_enter Try.func6, Try.ntmps6
    go_wp2_with fail
    refine (szBraid_no (g0.below hb0 hB0) (Nat.le_trans hB0 hb0.size) (by omega) (by omega) z0).mono ?_
    rintro e w1 ⟨rfl, hq⟩
    have hb1 := hb0.trans (hq.mono hb0.size)
    have hS1 := hS0.below hq
    clear hb0 hS0 hq
    obtain ⟨hc, hf⟩ := bcell hb1
    have lz0 : w.heap.size < w1.heap.size := by have := hb1.size; simp at this; omega
    have lz1 : w.heap.size + 1 < w1.heap.size := by have := hb1.size; simp at this; omega
    go_wp2_with fail
    clear hc hf lz0 lz1
    go_ret
    exact ⟨rfl, hA0.trans (hb1.mono hB0)⟩
  have zl0 : (xs.length : Int) ≤ 1048576 := by omega
  go_enter Try.func6, Try.ntmps6
  go_wp2_with fail
  refine (szBraid_yes (g0.below hb0 hB0) (Nat.le_trans hB0 hb0.size) (by omega) (by omega) (by omega)).mono ?_
  rintro e w1 ⟨rfl, hq⟩
  have hb1 := hb0.trans (hq.mono hb0.size)
  have hS1 := hS0.below hq
  clear hb0 hS0 hq
  obtain ⟨hc, hf⟩ := bcell hb1
  have lz0 : w.heap.size < w1.heap.size := by have := hb1.size; simp at this; omega
  have lz1 : w.heap.size + 1 < w1.heap.size := by have := hb1.size; simp at this; omega
  go_wp2_with fail
  clear hc hf lz0 lz1
  have j0 : w1.cell? ⟨w.heap.size, 0, none⟩ = some (.int .i64 (s0)) := by rw [(bcell hb1).1 _ _ (by simp; try omega)]; first | (simp; done) | simp [World.cell?_alloc_lt]
  have jl0 : w.heap.size < w1.heap.size := block_lt_of_cell j0
  have j1 : w1.cell? ⟨w.heap.size, 1, none⟩ = some ((.slice A0 xs.length c0)) := by rw [(bcell hb1).1 _ _ (by simp; try omega)]; first | (simp; done) | simp [World.cell?_alloc_lt]
  have jl1 : w.heap.size < w1.heap.size := block_lt_of_cell j1
  have j2 : w1.cell? ⟨w.heap.size + 1, 0, none⟩ = some (.int .i64 (hf)) := by rw [(bcell hb1).1 _ _ (by simp; try omega)]; first | (simp; done) | simp [World.cell?_alloc_lt]
  have jl2 : w.heap.size + 1 < w1.heap.size := block_lt_of_cell j2
  have j3 : w1.cell? ⟨w.heap.size + 1, 1, none⟩ = some (.int .i64 (ht)) := by rw [(bcell hb1).1 _ _ (by simp; try omega)]; first | (simp; done) | simp [World.cell?_alloc_lt]
  have jl3 : w.heap.size + 1 < w1.heap.size := block_lt_of_cell j3
  have hBx := Nat.le_trans hB0 hb1.size
  have gx0 := g0.below hb1 hB0
  have HK := Lib.hid (fun w' (hw : Below w1.heap.size w1 w') => show w'.cell? ⟨w.heap.size, 0, none⟩ = some (.int .i64 (s0)) ∧ w'.cell? ⟨w.heap.size, 1, none⟩ = some ((.slice A0 xs.length c0)) ∧ w'.cell? ⟨w.heap.size + 1, 0, none⟩ = some (.int .i64 (hf)) ∧ w'.cell? ⟨w.heap.size + 1, 1, none⟩ = some (.int .i64 (ht)) ∧ Below w1.heap.size w1 w' from ⟨by rw [hw.cell (by simp only; omega)]; exact j0, by rw [hw.cell (by simp only; omega)]; exact j1, by rw [hw.cell (by simp only; omega)]; exact j2, by rw [hw.cell (by simp only; omega)]; exact j3, hw⟩)
  clear j0 jl0 j1 jl1 j2 jl2 j3 jl3
  go_region_held3 (fun w' => w'.cell? ⟨w.heap.size, 0, none⟩ = some (.int .i64 (s0)) ∧ w'.cell? ⟨w.heap.size, 1, none⟩ = some ((.slice A0 xs.length c0)) ∧ w'.cell? ⟨w.heap.size + 1, 0, none⟩ = some (.int .i64 (hf)) ∧ w'.cell? ⟨w.heap.size + 1, 1, none⟩ = some (.int .i64 (ht)) ∧ Below w1.heap.size w1 w')
    (first | exact HK.out _ (by first | assumption | exact Below.refl _ _ | exact drewN_below _ _ _ | exact (Below.refl _ _).drew))
    (first
      | (go_at_call 27; (refine (toBraid_any (s0) _ (xs) _ _ (gx0.below (by first | assumption | exact Below.refl _ _ | exact drewN_below _ _ _ | exact (Below.refl _ _).drew) hBx) (Nat.le_trans hBx (Below.size (w := w1) (B := w1.heap.size) (by first | assumption | exact Below.refl _ _ | exact drewN_below _ _ _ | exact (Below.refl _ _).drew))) (by omega)).mono ?_); rintro e w2 ⟨q2_0, rfl, ho2, hq⟩; have hr2 : Below w1.heap.size w1 w2 := Below.trans (by first | assumption | exact Below.refl _ _ | exact drewN_below _ _ _ | exact (Below.refl _ _).drew) (hq.mono (Below.size (w := w1) (B := w1.heap.size) (by first | assumption | exact Below.refl _ _ | exact drewN_below _ _ _ | exact (Below.refl _ _).drew))); have hS2 := hS1.join hr2 (hs_ow (w := w1) ho2 hr2); obtain ⟨A2_0, c2_0, rfl, -⟩ := id (ho2.sl (Nat.le_refl _)); have so2_0 := ho2.sl (Nat.le_refl _))
      | (go_at_call 28; (refine (toHandle_any (hf) (ht) _).mono ?_); rintro e w3 ⟨rfl, hq⟩; have hr3 : Below w1.heap.size w1 w3 := Below.trans (by first | assumption | exact Below.refl _ _ | exact drewN_below _ _ _ | exact (Below.refl _ _).drew) (hq.mono (Below.size (w := w1) (B := w1.heap.size) (by first | assumption | exact Below.refl _ _ | exact drewN_below _ _ _ | exact (Below.refl _ _).drew))); have so2_0 := (so2_0.below hq (Nat.le_refl _)).mono hq.size; have hS3 := hS2.below hq)
      | (go_at_call 26; (refine (spec_IsHandle_any _ _ xs _ _ _ _ so2_0 (Nat.le_refl _)).mono ?_); rintro e w4 ⟨rfl, hq⟩; have hr4 : Below w1.heap.size w1 w4 := Below.trans (by first | assumption | exact Below.refl _ _ | exact drewN_below _ _ _ | exact (Below.refl _ _).drew) (hq.mono (Below.size (w := w1) (B := w1.heap.size) (by first | assumption | exact Below.refl _ _ | exact drewN_below _ _ _ | exact (Below.refl _ _).drew))); have so2_0 := (so2_0.below hq (Nat.le_refl _)).mono hq.size; have hS4 := hS3.below hq))
  have hb4 := hb1.trans (hr4.mono hb1.size)
  clear HK hBx gx0 
  obtain ⟨hc, hf⟩ := bcell hb4
  have lz0 : w.heap.size < w4.heap.size := by have := hb4.size; simp at this; omega
  have lz1 : w.heap.size + 1 < w4.heap.size := by have := hb4.size; simp at this; omega
  go_wp2_with fail
  clear hc hf lz0 lz1
  refine (toBraid_any (s0) _ (xs) _ _ (g0.below hb4 hB0) (Nat.le_trans hB0 hb4.size) (by omega)).mono ?_
  rintro e w5 ⟨q5_0, rfl, ho5, hq⟩
  have hb5 := hb4.trans (hq.mono hb4.size)
  have hS5 := hS4.join hq (hs_ow ho5 hq)
  clear hb4 hS4 hq ho5
  obtain ⟨A5_0, c5_0, rfl, -⟩ := id (Hs.rd [rw_ (.slice A2_0 (xs).length c2_0) (xs)] [] hS5)
  obtain ⟨hc, hf⟩ := bcell hb5
  have lz0 : w.heap.size < w5.heap.size := by have := hb5.size; simp at this; omega
  have lz1 : w.heap.size + 1 < w5.heap.size := by have := hb5.size; simp at this; omega
  go_wp2_with fail
  clear hc hf lz0 lz1
  have hS5b1 := hS5.join (al1 _ _) (hs_bx w5 #[.int .i64 (s0), (.slice A5_0 (xs).length c5_0)] 40)
  have hb5b1 := hb5.trans ((al1 w5 (.cells #[.int .i64 (s0), (.slice A5_0 (xs).length c5_0)] 40)).mono hb5.size)
  clear hb5 hS5
  generalize hg5b1 : w5.heap.size = g5b1 at *
  generalize hw5b1 : w5.alloc (.cells #[.int .i64 (s0), (.slice A5_0 (xs).length c5_0)] 40) = w6 at *
  clear hg5b1 hw5b1
  have hS6 := hS5b1
  have hb6 := hb5b1
  clear hS5b1 hb5b1
  have j0 : w6.cell? ⟨g5b1, 0, none⟩ = some (.int .i64 (s0)) := (Hs.bx [rw_ (.slice A2_0 (xs).length c2_0) (xs), rw_ (.slice A5_0 (xs).length c5_0) (xs)] [] hS6).1 0
  have jl0 : g5b1 < w6.heap.size := block_lt_of_cell j0
  have j1 : w6.cell? ⟨g5b1, 1, none⟩ = some ((.slice A5_0 (xs).length c5_0)) := (Hs.bx [rw_ (.slice A2_0 (xs).length c2_0) (xs), rw_ (.slice A5_0 (xs).length c5_0) (xs)] [] hS6).1 1
  have jl1 : g5b1 < w6.heap.size := block_lt_of_cell j1
  have j2 : w6.cell? ⟨w.heap.size + 1, 0, none⟩ = some (.int .i64 (hf)) := by rw [(bcell hb6).1 _ _ (by simp; try omega)]; first | (simp; done) | simp [World.cell?_alloc_lt]
  have jl2 : w.heap.size + 1 < w6.heap.size := block_lt_of_cell j2
  have j3 : w6.cell? ⟨w.heap.size + 1, 1, none⟩ = some (.int .i64 (ht)) := by rw [(bcell hb6).1 _ _ (by simp; try omega)]; first | (simp; done) | simp [World.cell?_alloc_lt]
  have jl3 : w.heap.size + 1 < w6.heap.size := block_lt_of_cell j3
  have hBx := Nat.le_trans hB0 hb6.size
  have gx0 := g0.below hb6 hB0
  have sx2_0 : Sl w6 w6.heap.size (.slice A2_0 (xs).length c2_0) (xs) := Hs.rd [] [rw_ (.slice A5_0 (xs).length c5_0) (xs), bx_ g5b1 #[.int .i64 (s0), (.slice A5_0 (xs).length c5_0)] 40] hS6
  have sx5_0 : Sl w6 w6.heap.size (.slice A5_0 (xs).length c5_0) (xs) := Hs.rd [rw_ (.slice A2_0 (xs).length c2_0) (xs)] [bx_ g5b1 #[.int .i64 (s0), (.slice A5_0 (xs).length c5_0)] 40] hS6
  have HK := Lib.hid (fun w' (hw : Below w6.heap.size w6 w') => show w'.cell? ⟨g5b1, 0, none⟩ = some (.int .i64 (s0)) ∧ w'.cell? ⟨g5b1, 1, none⟩ = some ((.slice A5_0 (xs).length c5_0)) ∧ w'.cell? ⟨w.heap.size + 1, 0, none⟩ = some (.int .i64 (hf)) ∧ w'.cell? ⟨w.heap.size + 1, 1, none⟩ = some (.int .i64 (ht)) ∧ Below w6.heap.size w6 w' from ⟨by rw [hw.cell (by simp only; omega)]; exact j0, by rw [hw.cell (by simp only; omega)]; exact j1, by rw [hw.cell (by simp only; omega)]; exact j2, by rw [hw.cell (by simp only; omega)]; exact j3, hw⟩)
  clear j0 jl0 j1 jl1 j2 jl2 j3 jl3
  go_region_held3 (fun w' => w'.cell? ⟨g5b1, 0, none⟩ = some (.int .i64 (s0)) ∧ w'.cell? ⟨g5b1, 1, none⟩ = some ((.slice A5_0 (xs).length c5_0)) ∧ w'.cell? ⟨w.heap.size + 1, 0, none⟩ = some (.int .i64 (hf)) ∧ w'.cell? ⟨w.heap.size + 1, 1, none⟩ = some (.int .i64 (ht)) ∧ Below w6.heap.size w6 w')
    (first | exact HK.out _ (by first | assumption | exact Below.refl _ _ | exact drewN_below _ _ _ | exact (Below.refl _ _).drew))
    (first
      | (go_at_call 28; (refine (toHandle_any (hf) (ht) _).mono ?_); rintro e w7 ⟨rfl, hq⟩; have hr7 : Below w6.heap.size w6 w7 := Below.trans (by first | assumption | exact Below.refl _ _ | exact drewN_below _ _ _ | exact (Below.refl _ _).drew) (hq.mono (Below.size (w := w6) (B := w6.heap.size) (by first | assumption | exact Below.refl _ _ | exact drewN_below _ _ _ | exact (Below.refl _ _).drew))); have hS7 := hS6.below hr7)
      | (go_at_call 29; (refine (impl_IsHandle_any _ _ xs _ _ _ _ (sx5_0.below (by first | assumption | exact Below.refl _ _ | exact drewN_below _ _ _ | exact (Below.refl _ _).drew) (Nat.le_refl _)) (Below.size (w := w6) (B := w6.heap.size) (by first | assumption | exact Below.refl _ _ | exact drewN_below _ _ _ | exact (Below.refl _ _).drew)) bf1).mono ?_); rintro e w8 ⟨rfl, hq⟩; have hr8 : Below w6.heap.size w6 w8 := Below.trans (by first | assumption | exact Below.refl _ _ | exact drewN_below _ _ _ | exact (Below.refl _ _).drew) (hq.mono (Below.size (w := w6) (B := w6.heap.size) (by first | assumption | exact Below.refl _ _ | exact drewN_below _ _ _ | exact (Below.refl _ _).drew))); have hS8 := hS7.below hq))
  have hb8 := hb6.trans (hr8.mono hb6.size)
  clear HK hBx gx0 sx2_0 sx5_0
  obtain ⟨hc, hf⟩ := bcell hb8
  have lz0 : w.heap.size < w8.heap.size := by have := hb8.size; simp at this; omega
  have lz1 : w.heap.size + 1 < w8.heap.size := by have := hb8.size; simp at this; omega
  obtain ⟨kx5b1, -, lx5b1, -⟩ := Hs.bx [rw_ (.slice A2_0 (xs).length c2_0) (xs), rw_ (.slice A5_0 (xs).length c5_0) (xs)] [] hS8
  have kx5b1_0 : w8.cell? ⟨g5b1, 0, none⟩ = some (.int .i64 (s0)) := kx5b1 0
  have kx5b1_1 : w8.cell? ⟨g5b1, 1, none⟩ = some ((.slice A5_0 (xs).length c5_0)) := kx5b1 1
  clear kx5b1
  go_wp2_with fail
  clear hc hf lz0 lz1 kx5b1_0 kx5b1_1 lx5b1
  have j0 : w8.cell? ⟨g5b1, 0, none⟩ = some (.int .i64 (s0)) := (Hs.bx [rw_ (.slice A2_0 (xs).length c2_0) (xs), rw_ (.slice A5_0 (xs).length c5_0) (xs)] [] hS8).1 0
  have jl0 : g5b1 < w8.heap.size := block_lt_of_cell j0
  have j1 : w8.cell? ⟨g5b1, 1, none⟩ = some ((.slice A5_0 (xs).length c5_0)) := (Hs.bx [rw_ (.slice A2_0 (xs).length c2_0) (xs), rw_ (.slice A5_0 (xs).length c5_0) (xs)] [] hS8).1 1
  have jl1 : g5b1 < w8.heap.size := block_lt_of_cell j1
  have j2 : w8.cell? ⟨w.heap.size, 0, none⟩ = some (.int .i64 (s0)) := by rw [(bcell hb8).1 _ _ (by simp; try omega)]; first | (simp; done) | simp [World.cell?_alloc_lt]
  have jl2 : w.heap.size < w8.heap.size := block_lt_of_cell j2
  have j3 : w8.cell? ⟨w.heap.size, 1, none⟩ = some ((.slice A0 xs.length c0)) := by rw [(bcell hb8).1 _ _ (by simp; try omega)]; first | (simp; done) | simp [World.cell?_alloc_lt]
  have jl3 : w.heap.size < w8.heap.size := block_lt_of_cell j3
  have hBx := Nat.le_trans hB0 hb8.size
  have gx0 := g0.below hb8 hB0
  have sx2_0 : Sl w8 w8.heap.size (.slice A2_0 (xs).length c2_0) (xs) := Hs.rd [] [rw_ (.slice A5_0 (xs).length c5_0) (xs), bx_ g5b1 #[.int .i64 (s0), (.slice A5_0 (xs).length c5_0)] 40] hS8
  have sx5_0 : Sl w8 w8.heap.size (.slice A5_0 (xs).length c5_0) (xs) := Hs.rd [rw_ (.slice A2_0 (xs).length c2_0) (xs)] [bx_ g5b1 #[.int .i64 (s0), (.slice A5_0 (xs).length c5_0)] 40] hS8
  have HK := Lib.hid (fun w' (hw : Below w8.heap.size w8 w') => show w'.cell? ⟨g5b1, 0, none⟩ = some (.int .i64 (s0)) ∧ w'.cell? ⟨g5b1, 1, none⟩ = some ((.slice A5_0 (xs).length c5_0)) ∧ w'.cell? ⟨w.heap.size, 0, none⟩ = some (.int .i64 (s0)) ∧ w'.cell? ⟨w.heap.size, 1, none⟩ = some ((.slice A0 xs.length c0)) ∧ Below w8.heap.size w8 w' from ⟨by rw [hw.cell (by simp only; omega)]; exact j0, by rw [hw.cell (by simp only; omega)]; exact j1, by rw [hw.cell (by simp only; omega)]; exact j2, by rw [hw.cell (by simp only; omega)]; exact j3, hw⟩)
  clear j0 jl0 j1 jl1 j2 jl2 j3 jl3
  go_region_held3 (fun w' => w'.cell? ⟨g5b1, 0, none⟩ = some (.int .i64 (s0)) ∧ w'.cell? ⟨g5b1, 1, none⟩ = some ((.slice A5_0 (xs).length c5_0)) ∧ w'.cell? ⟨w.heap.size, 0, none⟩ = some (.int .i64 (s0)) ∧ w'.cell? ⟨w.heap.size, 1, none⟩ = some ((.slice A0 xs.length c0)) ∧ Below w8.heap.size w8 w')
    (first | exact HK.out _ (by first | assumption | exact Below.refl _ _ | exact drewN_below _ _ _ | exact (Below.refl _ _).drew))
    (first
      | (go_at_call 27; (refine (toBraid_any (s0) _ (xs) _ _ (gx0.below (by first | assumption | exact Below.refl _ _ | exact drewN_below _ _ _ | exact (Below.refl _ _).drew) hBx) (Nat.le_trans hBx (Below.size (w := w8) (B := w8.heap.size) (by first | assumption | exact Below.refl _ _ | exact drewN_below _ _ _ | exact (Below.refl _ _).drew))) (by omega)).mono ?_); rintro e w9 ⟨q9_0, rfl, ho9, hq⟩; have hr9 : Below w8.heap.size w8 w9 := Below.trans (by first | assumption | exact Below.refl _ _ | exact drewN_below _ _ _ | exact (Below.refl _ _).drew) (hq.mono (Below.size (w := w8) (B := w8.heap.size) (by first | assumption | exact Below.refl _ _ | exact drewN_below _ _ _ | exact (Below.refl _ _).drew))); have hS9 := hS8.join hr9 (hs_ow (w := w8) ho9 hr9); obtain ⟨A9_0, c9_0, rfl, -⟩ := id (ho9.sl (Nat.le_refl _)); have so9_0 := ho9.sl (Nat.le_refl _))
      | (go_at_call 30; (refine (eqBraid_yes (sx5_0.below (by first | assumption | exact Below.refl _ _ | exact drewN_below _ _ _ | exact (Below.refl _ _).drew) (Nat.le_refl _)) so9_0 (Below.size (w := w8) (B := w8.heap.size) (by first | assumption | exact Below.refl _ _ | exact drewN_below _ _ _ | exact (Below.refl _ _).drew)) (Nat.le_refl _)).mono ?_); rintro e w10 ⟨rfl, hq⟩; have hr10 : Below w8.heap.size w8 w10 := Below.trans (by first | assumption | exact Below.refl _ _ | exact drewN_below _ _ _ | exact (Below.refl _ _).drew) (hq.mono (Below.size (w := w8) (B := w8.heap.size) (by first | assumption | exact Below.refl _ _ | exact drewN_below _ _ _ | exact (Below.refl _ _).drew))); have so9_0 := (so9_0.below hq (Nat.le_refl _)).mono hq.size; have hS10 := hS9.below hq))
  have hb10 := hb8.trans (hr10.mono hb8.size)
  clear HK hBx gx0 sx2_0 sx5_0
  obtain ⟨hc, hf⟩ := bcell hb10
  have lz0 : w.heap.size < w10.heap.size := by have := hb10.size; simp at this; omega
  have lz1 : w.heap.size + 1 < w10.heap.size := by have := hb10.size; simp at this; omega
  obtain ⟨kx5b1, -, lx5b1, -⟩ := Hs.bx [rw_ (.slice A2_0 (xs).length c2_0) (xs), rw_ (.slice A5_0 (xs).length c5_0) (xs)] [rw_ (.slice A9_0 (xs).length c9_0) (xs)] hS10
  have kx5b1_0 : w10.cell? ⟨g5b1, 0, none⟩ = some (.int .i64 (s0)) := kx5b1 0
  have kx5b1_1 : w10.cell? ⟨g5b1, 1, none⟩ = some ((.slice A5_0 (xs).length c5_0)) := kx5b1 1
  clear kx5b1
  go_wp2_with fail
  clear hc hf lz0 lz1 kx5b1_0 kx5b1_1 lx5b1
  go_ret
  exact ⟨rfl, hA0.trans (hb10.mono hB0)⟩

set_option maxRecDepth 100000 in
theorem lifted (os : Os) (started : os.Started) (H : Type) (enc : TypeId × Value → H) :
    ReturnsInHanded {} Try.checked os 6 .any (Rows.fnExactIsHandleSpec.pre6 enc Try.prog Try.f6 Rows.fnExactIsHandleRow.domain false) (Rows.fnExactIsHandleSpec.post enc Try.prog Try.f6 false true false false) := by
  refine returnsInHanded_of_change (C := Try.checked) own_knob started (by kernel_rfl) Try.func6
    (ChangeSpec.witness6 (enc := enc) (C := Try.checked) false ⟨#[], #[.agg #[.int .i64 0, .slice none 0 0], .agg #[.int .i64 0, .int .i64 0]], []⟩ 8 (by kernel_rfl) (by kernel_rfl) (by kernel_rfl) (by kernel_rfl)) ?_
  intro W base args ds gs before hval0 hW hcnd _
  have hval : ∀ (j : Nat) t v, Try.f6.params[j]? = some t → args[j]? = some v → Value.okWide Try.prog W .any base t v := hval0
  have hW' := hW
  obtain ⟨p, q, hA0, hV, rfl, hfz, hnd⟩ := hW
  have hA : DataW.TrodAll enc Try.prog W 0 (fun _ => true) true Try.f6.params.toList args.toList ds p := hA0
  rw [Try.params6] at hA hval
  obtain ⟨v0, vs0, d0, ds0, p0, q0, hargs, rfl, rfl, h0, r0⟩ := trodAll_cons hA
  obtain ⟨v1, vs1, d1, ds1, p1, q1, rfl, rfl, rfl, h1, r1⟩ := trodAll_cons r0
  obtain ⟨rfl, rfl, rfl⟩ := trodAll_nil r1
  obtain rfl : args = #[v0, v1] := by cases args; simp_all
  obtain ⟨rfl, rfl⟩ := trodVars_none hV
  have k0 := h0
  have lt0 : ∀ x ∈ p0, x.block < W.heap.size := by obtain ⟨m, hm⟩ := k0; exact DataW.trod_lt m _ _ _ hm
  have k1 := h1
  have lt1 : ∀ x ∈ p1, x.block < W.heap.size := by obtain ⟨m, hm⟩ := k1; exact DataW.trod_lt m _ _ _ hm
  obtain ⟨y0, u0, xs, rfl, t0, z0, b0⟩ := open_Braid (hval 0 35 v0 rfl rfl) h0
  obtain ⟨hf, ht, rfl, bf1, bt1⟩ := open_Handle (hval 1 37 v1 rfl rfl) h1
  clear hA0 hval0
  refine (walk y0 u0 xs hf ht W t0 z0 b0 bf1 bt1).mono fun e W' ⟨he, bel⟩ => ?_
  subst he
  exact ⟨_, rfl, _, _, _, [], _, [], hW', trodAll_mk1 (shut_bool Try.underlying4 _), (trodAll_cons_mk (Below.trod laid_out (by kernel_rfl) (of_decide_eq_true (by kernel_rfl)) k0 bel lt0) (trodAll_cons_mk (Below.trod laid_out (by kernel_rfl) (of_decide_eq_true (by kernel_rfl)) k1 bel lt1) trodAll_mk0)), rfl, bel.frame _, fun h => by cases h⟩

/-- The statement. -/
theorem proved : Rows.FnExactIsHandleSaid :=
  OpenClaim.holds_of_wide 6 Try.f6 rfl rfl rfl rfl rfl rfl rfl ⟨rfl, rfl, rfl, rfl, rfl⟩ rfl rfl rfl rfl rfl (by kernel_rfl) Try.func6 (by kernel_rfl)
    (of_decide_eq_true (by kernel_rfl)) (by unfold Func.isWrapper; first | (rw [if_pos (by decide +kernel)]; kernel_rfl) | (rw [if_neg (by decide +kernel)]; exact ⟨rfl, rfl⟩))
    (fun os started H enc _ => lifted os started H enc)
#print axioms proved
end Go.Proofs.Ytphbmdoeaebhnaa.fnExactIsHandle
