/-
  Proved here: for every input the law FnExactFirstHandle returns true, and every argument reads behind the call as it read before. No condition.
-/
import Derived.Test.YtphbmdoeaebhnaaOpen
import Derived.Test.YtphbmdoeaebhnaaSt
import Derived.Test.YtphbmdoeaebhnaaMain2
import Derived.ProofKit
import Derived.OpenShut
import Derived.ShutString
import Derived.ChangeOld
import Derived.Below
import Derived.Deep.RegionHeld3
namespace Go.Proofs.Ytphbmdoeaebhnaa.fnExactFirstHandle
open Go.ChangeShapes Go.WideShapes Go.ChangeAt Go.RowKit
open Go.ChangeMaps (open_string shut_string)
set_option linter.unusedVariables false

set_option maxRecDepth 100000 in
set_option maxHeartbeats 4000000 in
theorem walk (s0 : Int) (v0 : Value) (xs : List Int) (w : World) (t0 : R64 s0) (h0 : Sl w w.heap.size v0 xs) (b0 : ∀ x ∈ xs, R64 x) :
    Calls Try.prog 8 #[.agg #[.int .i64 s0, v0]] w fun e w' => e = .returned (.bool true) ∧ Below w.heap.size w w' := by
  obtain ⟨A0, c0, e0, hl0, hm0⟩ : ∃ A c, v0 = .slice A xs.length c ∧ xs.length ≤ c ∧ c ≤ 9223372036854775807 := by obtain ⟨A, c, h1, h2, h3, _⟩ := h0; simp only [maxLen] at h3; exact ⟨A, c, h1, h2, by omega⟩
  subst e0
  have hA0 : Below w.heap.size w (w.alloc (.cells #[.int .i64 (s0), (.slice A0 xs.length c0)] 35)) := (al1 w (.cells #[.int .i64 (s0), (.slice A0 xs.length c0)] 35))
  have hB0 : w.heap.size ≤ (w.alloc (.cells #[.int .i64 (s0), (.slice A0 xs.length c0)] 35)).heap.size := hA0.size
  have g0 := h0.below hA0 (Nat.le_refl _)
  clear h0
  have hb0 := Below.refl (w.alloc (.cells #[.int .i64 (s0), (.slice A0 xs.length c0)] 35)).heap.size (w.alloc (.cells #[.int .i64 (s0), (.slice A0 xs.length c0)] 35))
  have hS0 : Hs (w.alloc (.cells #[.int .i64 (s0), (.slice A0 xs.length c0)] 35)) (w.alloc (.cells #[.int .i64 (s0), (.slice A0 xs.length c0)] 35)).heap.size [] := Hs.nil _
  by_cases z0 : (1048576 : Int) < xs.length
  · go_enter Try.func8, Try.ntmps8
    go_wp2_with fail
    refine (szBraid_no (g0.below hb0 hB0) (Nat.le_trans hB0 hb0.size) (by omega) (by omega) z0).mono ?_
    rintro e w1 ⟨rfl, hq⟩
    have hb1 := hb0.trans (hq.mono hb0.size)
    have hS1 := hS0.below hq
    clear hb0 hS0 hq
    obtain ⟨hc, hf⟩ := bcell hb1
    have lz0 : w.heap.size < w1.heap.size := by have := hb1.size; simp at this; omega
    go_wp2_with fail
    clear hc hf lz0
    go_ret
    exact ⟨rfl, hA0.trans (hb1.mono hB0)⟩
  have zl0 : (xs.length : Int) ≤ 1048576 := by omega
  go_enter Try.func8, Try.ntmps8
  go_wp2_with fail
  refine (szBraid_yes (g0.below hb0 hB0) (Nat.le_trans hB0 hb0.size) (by omega) (by omega) (by omega)).mono ?_
  rintro e w1 ⟨rfl, hq⟩
  have hb1 := hb0.trans (hq.mono hb0.size)
  have hS1 := hS0.below hq
  clear hb0 hS0 hq
  obtain ⟨hc, hf⟩ := bcell hb1
  have lz0 : w.heap.size < w1.heap.size := by have := hb1.size; simp at this; omega
  go_wp2_with fail
  clear hc hf lz0
  refine (toBraid_any (s0) _ (xs) _ _ (g0.below hb1 hB0) (Nat.le_trans hB0 hb1.size) (by omega)).mono ?_
  rintro e w2 ⟨q2_0, rfl, ho2, hq⟩
  have hb2 := hb1.trans (hq.mono hb1.size)
  have hS2 := hS1.join hq (hs_ow ho2 hq)
  clear hb1 hS1 hq ho2
  obtain ⟨A2_0, c2_0, rfl, -⟩ := id (Hs.rd [] [] hS2)
  obtain ⟨hc, hf⟩ := bcell hb2
  have lz0 : w.heap.size < w2.heap.size := by have := hb2.size; simp at this; omega
  go_wp2_with fail
  clear hc hf lz0
  refine (spec_FirstHandle_any _ _ xs _ _ (Hs.rd [] [] hS2) (Nat.le_refl _)).mono ?_
  rintro e w3 ⟨rfl, hq⟩
  have hb3 := hb2.trans (hq.mono hb2.size)
  have hS3 := hS2.below hq
  clear hb2 hS2 hq
  obtain ⟨hc, hf⟩ := bcell hb3
  have lz0 : w.heap.size < w3.heap.size := by have := hb3.size; simp at this; omega
  go_wp2_with fail
  clear hc hf lz0
  have hS3b1 := hS3.join (al1 _ _) (hs_bx w3 #[.int .i64 (fhF s0 xs), .int .i64 (fhT s0 xs)] 42)
  have hb3b1 := hb3.trans ((al1 w3 (.cells #[.int .i64 (fhF s0 xs), .int .i64 (fhT s0 xs)] 42)).mono hb3.size)
  clear hb3 hS3
  generalize hg3b1 : w3.heap.size = g3b1 at *
  generalize hw3b1 : w3.alloc (.cells #[.int .i64 (fhF s0 xs), .int .i64 (fhT s0 xs)] 42) = w4 at *
  clear hg3b1 hw3b1
  have hS4 := hS3b1
  have hb4 := hb3b1
  clear hS3b1 hb3b1
  refine (toBraid_any (s0) _ (xs) _ _ (g0.below hb4 hB0) (Nat.le_trans hB0 hb4.size) (by omega)).mono ?_
  rintro e w5 ⟨q5_0, rfl, ho5, hq⟩
  have hb5 := hb4.trans (hq.mono hb4.size)
  have hS5 := hS4.join hq (hs_ow ho5 hq)
  clear hb4 hS4 hq ho5
  obtain ⟨A5_0, c5_0, rfl, -⟩ := id (Hs.rd [rw_ (.slice A2_0 (xs).length c2_0) (xs), bx_ g3b1 #[.int .i64 (fhF s0 xs), .int .i64 (fhT s0 xs)] 42] [] hS5)
  obtain ⟨hc, hf⟩ := bcell hb5
  have lz0 : w.heap.size < w5.heap.size := by have := hb5.size; simp at this; omega
  obtain ⟨kx3b1, -, lx3b1, -⟩ := Hs.bx [rw_ (.slice A2_0 (xs).length c2_0) (xs)] [rw_ (.slice A5_0 (xs).length c5_0) (xs)] hS5
  have kx3b1_0 : w5.cell? ⟨g3b1, 0, none⟩ = some (.int .i64 (fhF s0 xs)) := kx3b1 0
  have kx3b1_1 : w5.cell? ⟨g3b1, 1, none⟩ = some (.int .i64 (fhT s0 xs)) := kx3b1 1
  clear kx3b1
  go_wp2_with fail
  clear hc hf lz0 kx3b1_0 kx3b1_1 lx3b1
  have hS5b2 := hS5.join (al1 _ _) (hs_bx w5 #[.int .i64 (s0), (.slice A5_0 (xs).length c5_0)] 40)
  have hb5b2 := hb5.trans ((al1 w5 (.cells #[.int .i64 (s0), (.slice A5_0 (xs).length c5_0)] 40)).mono hb5.size)
  clear hb5 hS5
  generalize hg5b2 : w5.heap.size = g5b2 at *
  generalize hw5b2 : w5.alloc (.cells #[.int .i64 (s0), (.slice A5_0 (xs).length c5_0)] 40) = w6 at *
  clear hg5b2 hw5b2
  have hS6 := hS5b2
  have hb6 := hb5b2
  clear hS5b2 hb5b2
  refine (impl_FirstHandle_any _ _ xs _ _ (Hs.rd [rw_ (.slice A2_0 (xs).length c2_0) (xs), bx_ g3b1 #[.int .i64 (fhF s0 xs), .int .i64 (fhT s0 xs)] 42] [bx_ g5b2 #[.int .i64 (s0), (.slice A5_0 (xs).length c5_0)] 40] hS6) (Nat.le_refl _)).mono ?_
  rintro e w7 ⟨rfl, hq⟩
  have hb7 := hb6.trans (hq.mono hb6.size)
  have hS7 := hS6.below hq
  clear hb6 hS6 hq
  obtain ⟨hc, hf⟩ := bcell hb7
  have lz0 : w.heap.size < w7.heap.size := by have := hb7.size; simp at this; omega
  obtain ⟨kx3b1, -, lx3b1, -⟩ := Hs.bx [rw_ (.slice A2_0 (xs).length c2_0) (xs)] [rw_ (.slice A5_0 (xs).length c5_0) (xs), bx_ g5b2 #[.int .i64 (s0), (.slice A5_0 (xs).length c5_0)] 40] hS7
  have kx3b1_0 : w7.cell? ⟨g3b1, 0, none⟩ = some (.int .i64 (fhF s0 xs)) := kx3b1 0
  have kx3b1_1 : w7.cell? ⟨g3b1, 1, none⟩ = some (.int .i64 (fhT s0 xs)) := kx3b1 1
  clear kx3b1
  obtain ⟨kx5b2, -, lx5b2, -⟩ := Hs.bx [rw_ (.slice A2_0 (xs).length c2_0) (xs), bx_ g3b1 #[.int .i64 (fhF s0 xs), .int .i64 (fhT s0 xs)] 42, rw_ (.slice A5_0 (xs).length c5_0) (xs)] [] hS7
  have kx5b2_0 : w7.cell? ⟨g5b2, 0, none⟩ = some (.int .i64 (s0)) := kx5b2 0
  have kx5b2_1 : w7.cell? ⟨g5b2, 1, none⟩ = some ((.slice A5_0 (xs).length c5_0)) := kx5b2 1
  clear kx5b2
  go_wp2_with fail
  clear hc hf lz0 kx3b1_0 kx3b1_1 lx3b1 kx5b2_0 kx5b2_1 lx5b2
  have hS7b3 := hS7.join (al1 _ _) (hs_bx w7 #[.int .i64 (fhF s0 xs), .int .i64 (fhT s0 xs)] 42)
  have hb7b3 := hb7.trans ((al1 w7 (.cells #[.int .i64 (fhF s0 xs), .int .i64 (fhT s0 xs)] 42)).mono hb7.size)
  clear hb7 hS7
  generalize hg7b3 : w7.heap.size = g7b3 at *
  generalize hw7b3 : w7.alloc (.cells #[.int .i64 (fhF s0 xs), .int .i64 (fhT s0 xs)] 42) = w8 at *
  clear hg7b3 hw7b3
  have hS8 := hS7b3
  have hb8 := hb7b3
  clear hS7b3 hb7b3
  refine (eqHandle_yes _ _ _).mono ?_
  rintro e w9 ⟨rfl, hq⟩
  have hb9 := hb8.trans (hq.mono hb8.size)
  have hS9 := hS8.below hq
  clear hb8 hS8 hq
  obtain ⟨hc, hf⟩ := bcell hb9
  have lz0 : w.heap.size < w9.heap.size := by have := hb9.size; simp at this; omega
  obtain ⟨kx3b1, -, lx3b1, -⟩ := Hs.bx [rw_ (.slice A2_0 (xs).length c2_0) (xs)] [rw_ (.slice A5_0 (xs).length c5_0) (xs), bx_ g5b2 #[.int .i64 (s0), (.slice A5_0 (xs).length c5_0)] 40, bx_ g7b3 #[.int .i64 (fhF s0 xs), .int .i64 (fhT s0 xs)] 42] hS9
  have kx3b1_0 : w9.cell? ⟨g3b1, 0, none⟩ = some (.int .i64 (fhF s0 xs)) := kx3b1 0
  have kx3b1_1 : w9.cell? ⟨g3b1, 1, none⟩ = some (.int .i64 (fhT s0 xs)) := kx3b1 1
  clear kx3b1
  obtain ⟨kx5b2, -, lx5b2, -⟩ := Hs.bx [rw_ (.slice A2_0 (xs).length c2_0) (xs), bx_ g3b1 #[.int .i64 (fhF s0 xs), .int .i64 (fhT s0 xs)] 42, rw_ (.slice A5_0 (xs).length c5_0) (xs)] [bx_ g7b3 #[.int .i64 (fhF s0 xs), .int .i64 (fhT s0 xs)] 42] hS9
  have kx5b2_0 : w9.cell? ⟨g5b2, 0, none⟩ = some (.int .i64 (s0)) := kx5b2 0
  have kx5b2_1 : w9.cell? ⟨g5b2, 1, none⟩ = some ((.slice A5_0 (xs).length c5_0)) := kx5b2 1
  clear kx5b2
  obtain ⟨kx7b3, -, lx7b3, -⟩ := Hs.bx [rw_ (.slice A2_0 (xs).length c2_0) (xs), bx_ g3b1 #[.int .i64 (fhF s0 xs), .int .i64 (fhT s0 xs)] 42, rw_ (.slice A5_0 (xs).length c5_0) (xs), bx_ g5b2 #[.int .i64 (s0), (.slice A5_0 (xs).length c5_0)] 40] [] hS9
  have kx7b3_0 : w9.cell? ⟨g7b3, 0, none⟩ = some (.int .i64 (fhF s0 xs)) := kx7b3 0
  have kx7b3_1 : w9.cell? ⟨g7b3, 1, none⟩ = some (.int .i64 (fhT s0 xs)) := kx7b3 1
  clear kx7b3
  go_wp2_with fail
  clear hc hf lz0 kx3b1_0 kx3b1_1 lx3b1 kx5b2_0 kx5b2_1 lx5b2 kx7b3_0 kx7b3_1 lx7b3
  have j0 : w9.cell? ⟨g5b2, 0, none⟩ = some (.int .i64 (s0)) := (Hs.bx [rw_ (.slice A2_0 (xs).length c2_0) (xs), bx_ g3b1 #[.int .i64 (fhF s0 xs), .int .i64 (fhT s0 xs)] 42, rw_ (.slice A5_0 (xs).length c5_0) (xs)] [bx_ g7b3 #[.int .i64 (fhF s0 xs), .int .i64 (fhT s0 xs)] 42] hS9).1 0
  have jl0 : g5b2 < w9.heap.size := block_lt_of_cell j0
  have j1 : w9.cell? ⟨g5b2, 1, none⟩ = some ((.slice A5_0 (xs).length c5_0)) := (Hs.bx [rw_ (.slice A2_0 (xs).length c2_0) (xs), bx_ g3b1 #[.int .i64 (fhF s0 xs), .int .i64 (fhT s0 xs)] 42, rw_ (.slice A5_0 (xs).length c5_0) (xs)] [bx_ g7b3 #[.int .i64 (fhF s0 xs), .int .i64 (fhT s0 xs)] 42] hS9).1 1
  have jl1 : g5b2 < w9.heap.size := block_lt_of_cell j1
  have j2 : w9.cell? ⟨w.heap.size, 0, none⟩ = some (.int .i64 (s0)) := by rw [(bcell hb9).1 _ _ (by simp; try omega)]; first | (simp; done) | simp [World.cell?_alloc_lt]
  have jl2 : w.heap.size < w9.heap.size := block_lt_of_cell j2
  have j3 : w9.cell? ⟨w.heap.size, 1, none⟩ = some ((.slice A0 xs.length c0)) := by rw [(bcell hb9).1 _ _ (by simp; try omega)]; first | (simp; done) | simp [World.cell?_alloc_lt]
  have jl3 : w.heap.size < w9.heap.size := block_lt_of_cell j3
  have hBx := Nat.le_trans hB0 hb9.size
  have gx0 := g0.below hb9 hB0
  have sx2_0 : Sl w9 w9.heap.size (.slice A2_0 (xs).length c2_0) (xs) := Hs.rd [] [bx_ g3b1 #[.int .i64 (fhF s0 xs), .int .i64 (fhT s0 xs)] 42, rw_ (.slice A5_0 (xs).length c5_0) (xs), bx_ g5b2 #[.int .i64 (s0), (.slice A5_0 (xs).length c5_0)] 40, bx_ g7b3 #[.int .i64 (fhF s0 xs), .int .i64 (fhT s0 xs)] 42] hS9
  have sx5_0 : Sl w9 w9.heap.size (.slice A5_0 (xs).length c5_0) (xs) := Hs.rd [rw_ (.slice A2_0 (xs).length c2_0) (xs), bx_ g3b1 #[.int .i64 (fhF s0 xs), .int .i64 (fhT s0 xs)] 42] [bx_ g5b2 #[.int .i64 (s0), (.slice A5_0 (xs).length c5_0)] 40, bx_ g7b3 #[.int .i64 (fhF s0 xs), .int .i64 (fhT s0 xs)] 42] hS9
  have HK := Lib.hid (fun w' (hw : Below w9.heap.size w9 w') => show w'.cell? ⟨g5b2, 0, none⟩ = some (.int .i64 (s0)) ∧ w'.cell? ⟨g5b2, 1, none⟩ = some ((.slice A5_0 (xs).length c5_0)) ∧ w'.cell? ⟨w.heap.size, 0, none⟩ = some (.int .i64 (s0)) ∧ w'.cell? ⟨w.heap.size, 1, none⟩ = some ((.slice A0 xs.length c0)) ∧ Below w9.heap.size w9 w' from ⟨by rw [hw.cell (by simp only; omega)]; exact j0, by rw [hw.cell (by simp only; omega)]; exact j1, by rw [hw.cell (by simp only; omega)]; exact j2, by rw [hw.cell (by simp only; omega)]; exact j3, hw⟩)
  clear j0 jl0 j1 jl1 j2 jl2 j3 jl3
  go_region_held3 (fun w' => w'.cell? ⟨g5b2, 0, none⟩ = some (.int .i64 (s0)) ∧ w'.cell? ⟨g5b2, 1, none⟩ = some ((.slice A5_0 (xs).length c5_0)) ∧ w'.cell? ⟨w.heap.size, 0, none⟩ = some (.int .i64 (s0)) ∧ w'.cell? ⟨w.heap.size, 1, none⟩ = some ((.slice A0 xs.length c0)) ∧ Below w9.heap.size w9 w')
    (first | exact HK.out _ (by first | assumption | exact Below.refl _ _ | exact drewN_below _ _ _ | exact (Below.refl _ _).drew))
    (first
      | (go_at_call 27; (refine (toBraid_any (s0) _ (xs) _ _ (gx0.below (by first | assumption | exact Below.refl _ _ | exact drewN_below _ _ _ | exact (Below.refl _ _).drew) hBx) (Nat.le_trans hBx (Below.size (w := w9) (B := w9.heap.size) (by first | assumption | exact Below.refl _ _ | exact drewN_below _ _ _ | exact (Below.refl _ _).drew))) (by omega)).mono ?_); rintro e w10 ⟨q10_0, rfl, ho10, hq⟩; have hr10 : Below w9.heap.size w9 w10 := Below.trans (by first | assumption | exact Below.refl _ _ | exact drewN_below _ _ _ | exact (Below.refl _ _).drew) (hq.mono (Below.size (w := w9) (B := w9.heap.size) (by first | assumption | exact Below.refl _ _ | exact drewN_below _ _ _ | exact (Below.refl _ _).drew))); have hS10 := hS9.join hr10 (hs_ow (w := w9) ho10 hr10); obtain ⟨A10_0, c10_0, rfl, -⟩ := id (ho10.sl (Nat.le_refl _)); have so10_0 := ho10.sl (Nat.le_refl _))
      | (go_at_call 30; (refine (eqBraid_yes (sx5_0.below (by first | assumption | exact Below.refl _ _ | exact drewN_below _ _ _ | exact (Below.refl _ _).drew) (Nat.le_refl _)) so10_0 (Below.size (w := w9) (B := w9.heap.size) (by first | assumption | exact Below.refl _ _ | exact drewN_below _ _ _ | exact (Below.refl _ _).drew)) (Nat.le_refl _)).mono ?_); rintro e w11 ⟨rfl, hq⟩; have hr11 : Below w9.heap.size w9 w11 := Below.trans (by first | assumption | exact Below.refl _ _ | exact drewN_below _ _ _ | exact (Below.refl _ _).drew) (hq.mono (Below.size (w := w9) (B := w9.heap.size) (by first | assumption | exact Below.refl _ _ | exact drewN_below _ _ _ | exact (Below.refl _ _).drew))); have so10_0 := (so10_0.below hq (Nat.le_refl _)).mono hq.size; have hS11 := hS10.below hq))
  have hb11 := hb9.trans (hr11.mono hb9.size)
  clear HK hBx gx0 sx2_0 sx5_0
  obtain ⟨hc, hf⟩ := bcell hb11
  have lz0 : w.heap.size < w11.heap.size := by have := hb11.size; simp at this; omega
  obtain ⟨kx3b1, -, lx3b1, -⟩ := Hs.bx [rw_ (.slice A2_0 (xs).length c2_0) (xs)] [rw_ (.slice A5_0 (xs).length c5_0) (xs), bx_ g5b2 #[.int .i64 (s0), (.slice A5_0 (xs).length c5_0)] 40, bx_ g7b3 #[.int .i64 (fhF s0 xs), .int .i64 (fhT s0 xs)] 42, rw_ (.slice A10_0 (xs).length c10_0) (xs)] hS11
  have kx3b1_0 : w11.cell? ⟨g3b1, 0, none⟩ = some (.int .i64 (fhF s0 xs)) := kx3b1 0
  have kx3b1_1 : w11.cell? ⟨g3b1, 1, none⟩ = some (.int .i64 (fhT s0 xs)) := kx3b1 1
  clear kx3b1
  obtain ⟨kx5b2, -, lx5b2, -⟩ := Hs.bx [rw_ (.slice A2_0 (xs).length c2_0) (xs), bx_ g3b1 #[.int .i64 (fhF s0 xs), .int .i64 (fhT s0 xs)] 42, rw_ (.slice A5_0 (xs).length c5_0) (xs)] [bx_ g7b3 #[.int .i64 (fhF s0 xs), .int .i64 (fhT s0 xs)] 42, rw_ (.slice A10_0 (xs).length c10_0) (xs)] hS11
  have kx5b2_0 : w11.cell? ⟨g5b2, 0, none⟩ = some (.int .i64 (s0)) := kx5b2 0
  have kx5b2_1 : w11.cell? ⟨g5b2, 1, none⟩ = some ((.slice A5_0 (xs).length c5_0)) := kx5b2 1
  clear kx5b2
  obtain ⟨kx7b3, -, lx7b3, -⟩ := Hs.bx [rw_ (.slice A2_0 (xs).length c2_0) (xs), bx_ g3b1 #[.int .i64 (fhF s0 xs), .int .i64 (fhT s0 xs)] 42, rw_ (.slice A5_0 (xs).length c5_0) (xs), bx_ g5b2 #[.int .i64 (s0), (.slice A5_0 (xs).length c5_0)] 40] [rw_ (.slice A10_0 (xs).length c10_0) (xs)] hS11
  have kx7b3_0 : w11.cell? ⟨g7b3, 0, none⟩ = some (.int .i64 (fhF s0 xs)) := kx7b3 0
  have kx7b3_1 : w11.cell? ⟨g7b3, 1, none⟩ = some (.int .i64 (fhT s0 xs)) := kx7b3 1
  clear kx7b3
  go_wp2_with fail
  clear hc hf lz0 kx3b1_0 kx3b1_1 lx3b1 kx5b2_0 kx5b2_1 lx5b2 kx7b3_0 kx7b3_1 lx7b3
  go_ret
  exact ⟨rfl, hA0.trans (hb11.mono hB0)⟩

set_option maxRecDepth 100000 in
theorem lifted (os : Os) (started : os.Started) (H : Type) (enc : TypeId × Value → H) :
    ReturnsInHanded {} Try.checked os 8 .any (Rows.fnExactFirstHandleSpec.pre6 enc Try.prog Try.f8 Rows.fnExactFirstHandleRow.domain false) (Rows.fnExactFirstHandleSpec.post enc Try.prog Try.f8 false true false false) := by
  refine returnsInHanded_of_change (C := Try.checked) own_knob started (by kernel_rfl) Try.func8
    (ChangeSpec.witness6 (enc := enc) (C := Try.checked) false ⟨#[], #[.agg #[.int .i64 0, .slice none 0 0]], []⟩ 8 (by kernel_rfl) (by kernel_rfl) (by kernel_rfl) (by kernel_rfl)) ?_
  intro W base args ds gs before hval0 hW hcnd _
  have hval : ∀ (j : Nat) t v, Try.f8.params[j]? = some t → args[j]? = some v → Value.okWide Try.prog W .any base t v := hval0
  have hW' := hW
  obtain ⟨p, q, hA0, hV, rfl, hfz, hnd⟩ := hW
  have hA : DataW.TrodAll enc Try.prog W 0 (fun _ => true) true Try.f8.params.toList args.toList ds p := hA0
  rw [Try.params8] at hA hval
  obtain ⟨v0, vs0, d0, ds0, p0, q0, hargs, rfl, rfl, h0, r0⟩ := trodAll_cons hA
  obtain ⟨rfl, rfl, rfl⟩ := trodAll_nil r0
  obtain rfl : args = #[v0] := by cases args; simp_all
  obtain ⟨rfl, rfl⟩ := trodVars_none hV
  have k0 := h0
  have lt0 : ∀ x ∈ p0, x.block < W.heap.size := by obtain ⟨m, hm⟩ := k0; exact DataW.trod_lt m _ _ _ hm
  obtain ⟨y0, u0, xs, rfl, t0, z0, b0⟩ := open_Braid (hval 0 35 v0 rfl rfl) h0
  clear hA0 hval0
  refine (walk y0 u0 xs W t0 z0 b0).mono fun e W' ⟨he, bel⟩ => ?_
  subst he
  exact ⟨_, rfl, _, _, _, [], _, [], hW', trodAll_mk1 (shut_bool Try.underlying4 _), (trodAll_cons_mk (Below.trod laid_out (by kernel_rfl) (of_decide_eq_true (by kernel_rfl)) k0 bel lt0) trodAll_mk0), rfl, bel.frame _, fun h => by cases h⟩

/-- The statement. -/
theorem proved : Rows.FnExactFirstHandleSaid :=
  OpenClaim.holds_of_wide 8 Try.f8 rfl rfl rfl rfl rfl rfl rfl ⟨rfl, rfl, rfl, rfl, rfl⟩ rfl rfl rfl rfl rfl (by kernel_rfl) Try.func8 (by kernel_rfl)
    (of_decide_eq_true (by kernel_rfl)) (by unfold Func.isWrapper; first | (rw [if_pos (by decide +kernel)]; kernel_rfl) | (rw [if_neg (by decide +kernel)]; exact ⟨rfl, rfl⟩))
    (fun os started H enc _ => lifted os started H enc)
#print axioms proved
end Go.Proofs.Ytphbmdoeaebhnaa.fnExactFirstHandle
