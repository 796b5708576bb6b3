/-
  Proved here: for every input the law FnExactArtinAction returns true, and every argument reads behind the call as it read before. No condition.
-/
import Derived.Test.YtcoocjdkppdlmaaOpen
import Derived.Test.YtcoocjdkppdlmaaSt
import Derived.Test.YtcoocjdkppdlmaaSs3
import Derived.Test.YtcoocjdkppdlmaaSs2
import Derived.Test.YtcoocjdkppdlmaaArt5
import Derived.ProofKit
import Derived.OpenShut
import Derived.ShutString
import Derived.ChangeOld
import Derived.Below
import Derived.Deep.RegionHeld3
import Derived.Deep.DeepCutAuto
namespace Go.Proofs.Ytcoocjdkppdlmaa.fnExactArtinAction
set_option maxRecDepth 10000
open Go.ChangeShapes Go.WideShapes Go.ChangeAt Go.RowKit
open Go.ChangeMaps (open_string shut_string)
set_option linter.unusedVariables false

set_option maxRecDepth 100000 in
set_option maxHeartbeats 4000000 in
theorem walk (s0 : Int) (v0 : Value) (xs : List Int) (w : World) (t0 : R64 s0) (h0 : Sl w w.heap.size v0 xs) (b0 : ∀ x ∈ xs, R64 x) :
    Calls Try.prog 5 #[.agg #[.int .i64 s0, v0]] w fun e w' => e = .returned (.bool true) ∧ Below w.heap.size w w' := by
  obtain ⟨A0, c0, e0, hl0, hm0⟩ : ∃ A c, v0 = .slice A xs.length c ∧ xs.length ≤ c ∧ c ≤ 9223372036854775807 := by obtain ⟨A, c, h1, h2, h3, _⟩ := h0; simp only [maxLen] at h3; exact ⟨A, c, h1, h2, by omega⟩
  subst e0
  have hA0 : Below w.heap.size w (w.alloc (.cells #[.int .i64 (s0), (.slice A0 xs.length c0)] 37)) := (al1 w (.cells #[.int .i64 (s0), (.slice A0 xs.length c0)] 37))
  have hB0 : w.heap.size ≤ (w.alloc (.cells #[.int .i64 (s0), (.slice A0 xs.length c0)] 37)).heap.size := hA0.size
  have g0 := h0.below hA0 (Nat.le_refl _)
  clear h0
  have hb0 := Below.refl (w.alloc (.cells #[.int .i64 (s0), (.slice A0 xs.length c0)] 37)).heap.size (w.alloc (.cells #[.int .i64 (s0), (.slice A0 xs.length c0)] 37))
  have hS0 : Hs (w.alloc (.cells #[.int .i64 (s0), (.slice A0 xs.length c0)] 37)) (w.alloc (.cells #[.int .i64 (s0), (.slice A0 xs.length c0)] 37)).heap.size [] := Hs.nil _
  by_cases z0 : (1048576 : Int) < xs.length
  · go_enter Try.func5, Try.ntmps5
    go_wp2_with fail
    refine (szBraid_no (g0.below hb0 hB0) (Nat.le_trans hB0 hb0.size) (by omega) (by omega) z0).mono ?_
    rintro e w1 ⟨rfl, hq⟩
    have hb1 := hb0.trans (hq.mono hb0.size)
    have hS1 := hS0.below hq
    clear hb0 hS0 hq
    obtain ⟨hc, hf⟩ := bcell hb1
    have lz0 : w.heap.size < w1.heap.size := by have := hb1.size; simp at this; omega
    go_wp2_with fail
    clear hc hf lz0
    go_ret
    exact ⟨rfl, hA0.trans (hb1.mono hB0)⟩
  have zl0 : (xs.length : Int) ≤ 1048576 := by omega
  have hfl := artA_len s0 xs
  go_enter Try.func5, Try.ntmps5
  go_wp2_with fail
  refine (szBraid_yes (g0.below hb0 hB0) (Nat.le_trans hB0 hb0.size) (by omega) (by omega) (by omega)).mono ?_
  rintro e w1 ⟨rfl, hq⟩
  have hb1 := hb0.trans (hq.mono hb0.size)
  have hS1 := hS0.below hq
  clear hb0 hS0 hq
  obtain ⟨hc, hf⟩ := bcell hb1
  have lz0 : w.heap.size < w1.heap.size := by have := hb1.size; simp at this; omega
  go_wp2_with fail
  clear hc hf lz0
  refine (toBraid_any (s0) _ (xs) _ _ (g0.below hb1 hB0) (Nat.le_trans hB0 hb1.size) (by omega)).mono ?_
  rintro e w2 ⟨q2_0, rfl, ho2, hq⟩
  have hb2 := hb1.trans (hq.mono hb1.size)
  have hS2 := hS1.join hq (hs_ow ho2 hq)
  clear hb1 hS1 hq ho2
  obtain ⟨A2_0, c2_0, rfl, -⟩ := id (Hs.rd [] [] hS2)
  obtain ⟨hc, hf⟩ := bcell hb2
  have lz0 : w.heap.size < w2.heap.size := by have := hb2.size; simp at this; omega
  go_wp2_with fail
  clear hc hf lz0
  refine (spec_ArtinAction_any _ _ xs _ _ (Hs.rd [] [] hS2) (Nat.le_refl _)).mono ?_
  rintro e w3 ⟨q3_0, rfl, ho3, hq⟩
  have hb3 := hb2.trans (hq.mono hb2.size)
  have hS3 := hS2.join hq (hs_ows ho3 hq)
  clear hb2 hS2 hq ho3
  obtain ⟨A3_0, c3_0, rfl, -⟩ := id (Hs.rdS [rw_ (.slice A2_0 (xs).length c2_0) (xs)] [] hS3)
  obtain ⟨hc, hf⟩ := bcell hb3
  have lz0 : w.heap.size < w3.heap.size := by have := hb3.size; simp at this; omega
  go_wp2_with fail
  clear hc hf lz0
  refine (toBraid_any (s0) _ (xs) _ _ (g0.below hb3 hB0) (Nat.le_trans hB0 hb3.size) (by omega)).mono ?_
  rintro e w4 ⟨q4_0, rfl, ho4, hq⟩
  have hb4 := hb3.trans (hq.mono hb3.size)
  have hS4 := hS3.join hq (hs_ow ho4 hq)
  clear hb3 hS3 hq ho4
  obtain ⟨A4_0, c4_0, rfl, -⟩ := id (Hs.rd [rw_ (.slice A2_0 (xs).length c2_0) (xs), rws_ (.slice A3_0 ((artA s0 xs).1).length c3_0) ((artA s0 xs).1)] [] hS4)
  obtain ⟨hc, hf⟩ := bcell hb4
  have lz0 : w.heap.size < w4.heap.size := by have := hb4.size; simp at this; omega
  go_wp2_with fail
  clear hc hf lz0
  have hS4b1 := hS4.join (al1 _ _) (hs_bx w4 #[.int .i64 (s0), (.slice A4_0 (xs).length c4_0)] 41)
  have hb4b1 := hb4.trans ((al1 w4 (.cells #[.int .i64 (s0), (.slice A4_0 (xs).length c4_0)] 41)).mono hb4.size)
  clear hb4 hS4
  generalize hg4b1 : w4.heap.size = g4b1 at *
  generalize hw4b1 : w4.alloc (.cells #[.int .i64 (s0), (.slice A4_0 (xs).length c4_0)] 41) = w5 at *
  clear hg4b1 hw4b1
  have hS5 := hS4b1
  have hb5 := hb4b1
  clear hS4b1 hb4b1
  refine (impl_ArtinAction_any _ _ xs _ _ (Hs.rd [rw_ (.slice A2_0 (xs).length c2_0) (xs), rws_ (.slice A3_0 ((artA s0 xs).1).length c3_0) ((artA s0 xs).1)] [bx_ g4b1 #[.int .i64 (s0), (.slice A4_0 (xs).length c4_0)] 41] hS5) (Nat.le_refl _)).mono ?_
  rintro e w6 ⟨q6_0, rfl, ho6, hq⟩
  have hb6 := hb5.trans (hq.mono hb5.size)
  have hS6 := hS5.join hq (hs_ows ho6 hq)
  clear hb5 hS5 hq ho6
  obtain ⟨A6_0, c6_0, rfl, -⟩ := id (Hs.rdS [rw_ (.slice A2_0 (xs).length c2_0) (xs), rws_ (.slice A3_0 ((artA s0 xs).1).length c3_0) ((artA s0 xs).1), rw_ (.slice A4_0 (xs).length c4_0) (xs), bx_ g4b1 #[.int .i64 (s0), (.slice A4_0 (xs).length c4_0)] 41] [] hS6)
  obtain ⟨hc, hf⟩ := bcell hb6
  have lz0 : w.heap.size < w6.heap.size := by have := hb6.size; simp at this; omega
  obtain ⟨kx4b1, -, lx4b1, -⟩ := Hs.bx [rw_ (.slice A2_0 (xs).length c2_0) (xs), rws_ (.slice A3_0 ((artA s0 xs).1).length c3_0) ((artA s0 xs).1), rw_ (.slice A4_0 (xs).length c4_0) (xs)] [rws_ (.slice A6_0 ((artA s0 xs).1).length c6_0) ((artA s0 xs).1)] hS6
  have kx4b1_0 : w6.cell? ⟨g4b1, 0, none⟩ = some (.int .i64 (s0)) := kx4b1 0
  have kx4b1_1 : w6.cell? ⟨g4b1, 1, none⟩ = some ((.slice A4_0 (xs).length c4_0)) := kx4b1 1
  clear kx4b1
  go_wp2_with fail
  clear hc hf lz0 kx4b1_0 kx4b1_1 lx4b1
  refine (eqSS_yes (Hs.rdS [rw_ (.slice A2_0 (xs).length c2_0) (xs), rws_ (.slice A3_0 ((artA s0 xs).1).length c3_0) ((artA s0 xs).1), rw_ (.slice A4_0 (xs).length c4_0) (xs), bx_ g4b1 #[.int .i64 (s0), (.slice A4_0 (xs).length c4_0)] 41] [] hS6) (Hs.rdS [rw_ (.slice A2_0 (xs).length c2_0) (xs)] [rw_ (.slice A4_0 (xs).length c4_0) (xs), bx_ g4b1 #[.int .i64 (s0), (.slice A4_0 (xs).length c4_0)] 41, rws_ (.slice A6_0 ((artA s0 xs).1).length c6_0) ((artA s0 xs).1)] hS6)).mono ?_
  rintro e w7 ⟨rfl, hq⟩
  have hb7 := hb6.trans (hq.mono hb6.size)
  have hS7 := hS6.below hq
  clear hb6 hS6 hq
  obtain ⟨hc, hf⟩ := bcell hb7
  have lz0 : w.heap.size < w7.heap.size := by have := hb7.size; simp at this; omega
  obtain ⟨kx4b1, -, lx4b1, -⟩ := Hs.bx [rw_ (.slice A2_0 (xs).length c2_0) (xs), rws_ (.slice A3_0 ((artA s0 xs).1).length c3_0) ((artA s0 xs).1), rw_ (.slice A4_0 (xs).length c4_0) (xs)] [rws_ (.slice A6_0 ((artA s0 xs).1).length c6_0) ((artA s0 xs).1)] hS7
  have kx4b1_0 : w7.cell? ⟨g4b1, 0, none⟩ = some (.int .i64 (s0)) := kx4b1 0
  have kx4b1_1 : w7.cell? ⟨g4b1, 1, none⟩ = some ((.slice A4_0 (xs).length c4_0)) := kx4b1 1
  clear kx4b1
  go_wp2_with fail
  clear hc hf lz0 kx4b1_0 kx4b1_1 lx4b1
  have j0 : w7.cell? ⟨g4b1, 0, none⟩ = some (.int .i64 (s0)) := (Hs.bx [rw_ (.slice A2_0 (xs).length c2_0) (xs), rws_ (.slice A3_0 ((artA s0 xs).1).length c3_0) ((artA s0 xs).1), rw_ (.slice A4_0 (xs).length c4_0) (xs)] [rws_ (.slice A6_0 ((artA s0 xs).1).length c6_0) ((artA s0 xs).1)] hS7).1 0
  have jl0 : g4b1 < w7.heap.size := block_lt_of_cell j0
  have j1 : w7.cell? ⟨g4b1, 1, none⟩ = some ((.slice A4_0 (xs).length c4_0)) := (Hs.bx [rw_ (.slice A2_0 (xs).length c2_0) (xs), rws_ (.slice A3_0 ((artA s0 xs).1).length c3_0) ((artA s0 xs).1), rw_ (.slice A4_0 (xs).length c4_0) (xs)] [rws_ (.slice A6_0 ((artA s0 xs).1).length c6_0) ((artA s0 xs).1)] hS7).1 1
  have jl1 : g4b1 < w7.heap.size := block_lt_of_cell j1
  have j2 : w7.cell? ⟨w.heap.size, 0, none⟩ = some (.int .i64 (s0)) := by rw [(bcell hb7).1 _ _ (by simp; try omega)]; first | (simp; done) | simp [World.cell?_alloc_lt]
  have jl2 : w.heap.size < w7.heap.size := block_lt_of_cell j2
  have j3 : w7.cell? ⟨w.heap.size, 1, none⟩ = some ((.slice A0 xs.length c0)) := by rw [(bcell hb7).1 _ _ (by simp; try omega)]; first | (simp; done) | simp [World.cell?_alloc_lt]
  have jl3 : w.heap.size < w7.heap.size := block_lt_of_cell j3
  have hBx := Nat.le_trans hB0 hb7.size
  have gx0 := g0.below hb7 hB0
  have sx2_0 : Sl w7 w7.heap.size (.slice A2_0 (xs).length c2_0) (xs) := Hs.rd [] [rws_ (.slice A3_0 ((artA s0 xs).1).length c3_0) ((artA s0 xs).1), rw_ (.slice A4_0 (xs).length c4_0) (xs), bx_ g4b1 #[.int .i64 (s0), (.slice A4_0 (xs).length c4_0)] 41, rws_ (.slice A6_0 ((artA s0 xs).1).length c6_0) ((artA s0 xs).1)] hS7
  have sx3_0 : SlS w7 w7.heap.size (.slice A3_0 ((artA s0 xs).1).length c3_0) ((artA s0 xs).1) := Hs.rdS [rw_ (.slice A2_0 (xs).length c2_0) (xs)] [rw_ (.slice A4_0 (xs).length c4_0) (xs), bx_ g4b1 #[.int .i64 (s0), (.slice A4_0 (xs).length c4_0)] 41, rws_ (.slice A6_0 ((artA s0 xs).1).length c6_0) ((artA s0 xs).1)] hS7
  have sx4_0 : Sl w7 w7.heap.size (.slice A4_0 (xs).length c4_0) (xs) := Hs.rd [rw_ (.slice A2_0 (xs).length c2_0) (xs), rws_ (.slice A3_0 ((artA s0 xs).1).length c3_0) ((artA s0 xs).1)] [bx_ g4b1 #[.int .i64 (s0), (.slice A4_0 (xs).length c4_0)] 41, rws_ (.slice A6_0 ((artA s0 xs).1).length c6_0) ((artA s0 xs).1)] hS7
  have sx6_0 : SlS w7 w7.heap.size (.slice A6_0 ((artA s0 xs).1).length c6_0) ((artA s0 xs).1) := Hs.rdS [rw_ (.slice A2_0 (xs).length c2_0) (xs), rws_ (.slice A3_0 ((artA s0 xs).1).length c3_0) ((artA s0 xs).1), rw_ (.slice A4_0 (xs).length c4_0) (xs), bx_ g4b1 #[.int .i64 (s0), (.slice A4_0 (xs).length c4_0)] 41] [] hS7
  have HK := Lib.hid (fun w' (hw : Below w7.heap.size w7 w') => show w'.cell? ⟨g4b1, 0, none⟩ = some (.int .i64 (s0)) ∧ w'.cell? ⟨g4b1, 1, none⟩ = some ((.slice A4_0 (xs).length c4_0)) ∧ w'.cell? ⟨w.heap.size, 0, none⟩ = some (.int .i64 (s0)) ∧ w'.cell? ⟨w.heap.size, 1, none⟩ = some ((.slice A0 xs.length c0)) ∧ Below w7.heap.size w7 w' from ⟨by rw [hw.cell (by simp only; omega)]; exact j0, by rw [hw.cell (by simp only; omega)]; exact j1, by rw [hw.cell (by simp only; omega)]; exact j2, by rw [hw.cell (by simp only; omega)]; exact j3, hw⟩)
  clear j0 jl0 j1 jl1 j2 jl2 j3 jl3
  go_region_held3 (fun w' => w'.cell? ⟨g4b1, 0, none⟩ = some (.int .i64 (s0)) ∧ w'.cell? ⟨g4b1, 1, none⟩ = some ((.slice A4_0 (xs).length c4_0)) ∧ w'.cell? ⟨w.heap.size, 0, none⟩ = some (.int .i64 (s0)) ∧ w'.cell? ⟨w.heap.size, 1, none⟩ = some ((.slice A0 xs.length c0)) ∧ Below w7.heap.size w7 w')
    (first | exact HK.out _ (by first | assumption | exact Below.refl _ _ | exact drewN_below _ _ _ | exact (Below.refl _ _).drew))
    (first
      | (go_at_call_of 24 (Go.Value.agg #[.int .i64 (s0), (.slice A0 xs.length c0)]); (refine (toBraid_any (s0) _ (xs) _ _ (gx0.below (by first | assumption | exact Below.refl _ _ | exact drewN_below _ _ _ | exact (Below.refl _ _).drew) hBx) (Nat.le_trans hBx (Below.size (w := w7) (B := w7.heap.size) (by first | assumption | exact Below.refl _ _ | exact drewN_below _ _ _ | exact (Below.refl _ _).drew))) (by omega)).mono ?_); rintro e w8 ⟨q8_0, rfl, ho8, hq⟩; have hr8 : Below w7.heap.size w7 w8 := Below.trans (by first | assumption | exact Below.refl _ _ | exact drewN_below _ _ _ | exact (Below.refl _ _).drew) (hq.mono (Below.size (w := w7) (B := w7.heap.size) (by first | assumption | exact Below.refl _ _ | exact drewN_below _ _ _ | exact (Below.refl _ _).drew))); have hS8 := hS7.join hr8 (hs_ow (w := w7) ho8 hr8); obtain ⟨A8_0, c8_0, rfl, -⟩ := id (ho8.sl (Nat.le_refl _)); have so8_0 := ho8.sl (Nat.le_refl _))
      | (go_at_call 26; (refine (eqBraid_yes (sx4_0.below (by first | assumption | exact Below.refl _ _ | exact drewN_below _ _ _ | exact (Below.refl _ _).drew) (Nat.le_refl _)) so8_0 (Below.size (w := w7) (B := w7.heap.size) (by first | assumption | exact Below.refl _ _ | exact drewN_below _ _ _ | exact (Below.refl _ _).drew)) (Nat.le_refl _)).mono ?_); rintro e w9 ⟨rfl, hq⟩; have hr9 : Below w7.heap.size w7 w9 := Below.trans (by first | assumption | exact Below.refl _ _ | exact drewN_below _ _ _ | exact (Below.refl _ _).drew) (hq.mono (Below.size (w := w7) (B := w7.heap.size) (by first | assumption | exact Below.refl _ _ | exact drewN_below _ _ _ | exact (Below.refl _ _).drew))); have so8_0 := (so8_0.below hq (Nat.le_refl _)).mono hq.size; have hS9 := hS8.below hq))
  have hb9 := hb7.trans (hr9.mono hb7.size)
  clear HK hBx gx0 sx2_0 sx3_0 sx4_0 sx6_0
  obtain ⟨hc, hf⟩ := bcell hb9
  have lz0 : w.heap.size < w9.heap.size := by have := hb9.size; simp at this; omega
  obtain ⟨kx4b1, -, lx4b1, -⟩ := Hs.bx [rw_ (.slice A2_0 (xs).length c2_0) (xs), rws_ (.slice A3_0 ((artA s0 xs).1).length c3_0) ((artA s0 xs).1), rw_ (.slice A4_0 (xs).length c4_0) (xs)] [rws_ (.slice A6_0 ((artA s0 xs).1).length c6_0) ((artA s0 xs).1), rw_ (.slice A8_0 (xs).length c8_0) (xs)] hS9
  have kx4b1_0 : w9.cell? ⟨g4b1, 0, none⟩ = some (.int .i64 (s0)) := kx4b1 0
  have kx4b1_1 : w9.cell? ⟨g4b1, 1, none⟩ = some ((.slice A4_0 (xs).length c4_0)) := kx4b1 1
  clear kx4b1
  go_wp2_with fail
  clear hc hf lz0 kx4b1_0 kx4b1_1 lx4b1
  obtain ⟨lo10, hi10, hit, hle, hput⟩ := Hs.owAt [rw_ (.slice A2_0 (xs).length c2_0) (xs), rws_ (.slice A3_0 ((artA s0 xs).1).length c3_0) ((artA s0 xs).1)] (.slice A4_0 (xs).length c4_0) (xs) [bx_ g4b1 #[.int .i64 (s0), (.slice A4_0 (xs).length c4_0)] 41, rws_ (.slice A6_0 ((artA s0 xs).1).length c6_0) ((artA s0 xs).1), rw_ (.slice A8_0 (xs).length c8_0) (xs)] hS9
  have HPUT := Lib.hid hput
  clear hput
  refine (markBraid_any _ _ _ _ _ (1) _ hit hle (by omega) (by omega) (by omega)).mono ?_
  rintro e w10 ⟨rfl, hit2, hch⟩
  obtain ⟨hS10, hq⟩ := HPUT.out (countFrom (1) (xs).length) w10 hit2 hch
  have hb10 := hb9.trans hq
  clear hb9 hS9 HPUT hit hit2 hch hle hq
  obtain ⟨hc, hf⟩ := bcell hb10
  have lz0 : w.heap.size < w10.heap.size := by have := hb10.size; simp at this; omega
  obtain ⟨kx4b1, -, lx4b1, -⟩ := Hs.bx [rw_ (.slice A2_0 (xs).length c2_0) (xs), rws_ (.slice A3_0 ((artA s0 xs).1).length c3_0) ((artA s0 xs).1), rw_ (.slice A4_0 (xs).length c4_0) (countFrom (1) (xs).length)] [rws_ (.slice A6_0 ((artA s0 xs).1).length c6_0) ((artA s0 xs).1), rw_ (.slice A8_0 (xs).length c8_0) (xs)] hS10
  have kx4b1_0 : w10.cell? ⟨g4b1, 0, none⟩ = some (.int .i64 (s0)) := kx4b1 0
  have kx4b1_1 : w10.cell? ⟨g4b1, 1, none⟩ = some ((.slice A4_0 (xs).length c4_0)) := kx4b1 1
  clear kx4b1
  go_wp2_with fail
  clear hc hf lz0 kx4b1_0 kx4b1_1 lx4b1
  refine (eqSS_yes (Hs.rdS [rw_ (.slice A2_0 (xs).length c2_0) (xs), rws_ (.slice A3_0 ((artA s0 xs).1).length c3_0) ((artA s0 xs).1), rw_ (.slice A4_0 (xs).length c4_0) (countFrom (1) (xs).length), bx_ g4b1 #[.int .i64 (s0), (.slice A4_0 (xs).length c4_0)] 41] [rw_ (.slice A8_0 (xs).length c8_0) (xs)] hS10) (Hs.rdS [rw_ (.slice A2_0 (xs).length c2_0) (xs)] [rw_ (.slice A4_0 (xs).length c4_0) (countFrom (1) (xs).length), bx_ g4b1 #[.int .i64 (s0), (.slice A4_0 (xs).length c4_0)] 41, rws_ (.slice A6_0 ((artA s0 xs).1).length c6_0) ((artA s0 xs).1), rw_ (.slice A8_0 (xs).length c8_0) (xs)] hS10)).mono ?_
  rintro e w11 ⟨rfl, hq⟩
  have hb11 := hb10.trans (hq.mono hb10.size)
  have hS11 := hS10.below hq
  clear hb10 hS10 hq
  obtain ⟨hc, hf⟩ := bcell hb11
  have lz0 : w.heap.size < w11.heap.size := by have := hb11.size; simp at this; omega
  obtain ⟨kx4b1, -, lx4b1, -⟩ := Hs.bx [rw_ (.slice A2_0 (xs).length c2_0) (xs), rws_ (.slice A3_0 ((artA s0 xs).1).length c3_0) ((artA s0 xs).1), rw_ (.slice A4_0 (xs).length c4_0) (countFrom (1) (xs).length)] [rws_ (.slice A6_0 ((artA s0 xs).1).length c6_0) ((artA s0 xs).1), rw_ (.slice A8_0 (xs).length c8_0) (xs)] hS11
  have kx4b1_0 : w11.cell? ⟨g4b1, 0, none⟩ = some (.int .i64 (s0)) := kx4b1 0
  have kx4b1_1 : w11.cell? ⟨g4b1, 1, none⟩ = some ((.slice A4_0 (xs).length c4_0)) := kx4b1 1
  clear kx4b1
  go_wp2_with fail
  clear hc hf lz0 kx4b1_0 kx4b1_1 lx4b1
  obtain ⟨SS, hit, hsb, hput⟩ := Hs.at_ [rw_ (.slice A2_0 (xs).length c2_0) (xs), rws_ (.slice A3_0 ((artA s0 xs).1).length c3_0) ((artA s0 xs).1), rw_ (.slice A4_0 (xs).length c4_0) (countFrom (1) (xs).length), bx_ g4b1 #[.int .i64 (s0), (.slice A4_0 (xs).length c4_0)] 41] (rws_ (.slice A6_0 ((artA s0 xs).1).length c6_0) ((artA s0 xs).1)) [rw_ (.slice A8_0 (xs).length c8_0) (xs)] hS11
  have HPUT := Lib.hid hput
  clear hput
  refine (markSS_any (c := 1) hit (fun b hb => (hsb b hb).2) (by omega) (by omega) (by omega)).mono ?_
  rintro e w12 ⟨rfl, hit2, hch⟩
  have hS12 := HPUT.out (rws_ (.slice A6_0 ((artA s0 xs).1).length c6_0) (markSS (1) ((artA s0 xs).1))) w12 hit2 hch
  have hb12 := hb11.trans (hch.below (fun k hk => (hsb k hk).1) hb11.size)
  clear hb11 hS11 HPUT hit hit2 hch hsb
  obtain ⟨hc, hf⟩ := bcell hb12
  have lz0 : w.heap.size < w12.heap.size := by have := hb12.size; simp at this; omega
  obtain ⟨kx4b1, -, lx4b1, -⟩ := Hs.bx [rw_ (.slice A2_0 (xs).length c2_0) (xs), rws_ (.slice A3_0 ((artA s0 xs).1).length c3_0) ((artA s0 xs).1), rw_ (.slice A4_0 (xs).length c4_0) (countFrom (1) (xs).length)] [rws_ (.slice A6_0 ((artA s0 xs).1).length c6_0) (markSS (1) ((artA s0 xs).1)), rw_ (.slice A8_0 (xs).length c8_0) (xs)] hS12
  have kx4b1_0 : w12.cell? ⟨g4b1, 0, none⟩ = some (.int .i64 (s0)) := kx4b1 0
  have kx4b1_1 : w12.cell? ⟨g4b1, 1, none⟩ = some ((.slice A4_0 (xs).length c4_0)) := kx4b1 1
  clear kx4b1
  go_wp2_with fail
  clear hc hf lz0 kx4b1_0 kx4b1_1 lx4b1
  refine (heldSS_any (Hs.rdS [rw_ (.slice A2_0 (xs).length c2_0) (xs), rws_ (.slice A3_0 ((artA s0 xs).1).length c3_0) ((artA s0 xs).1), rw_ (.slice A4_0 (xs).length c4_0) (countFrom (1) (xs).length), bx_ g4b1 #[.int .i64 (s0), (.slice A4_0 (xs).length c4_0)] 41] [rw_ (.slice A8_0 (xs).length c8_0) (xs)] hS12) (by omega) (by omega) (by omega)).mono ?_
  rintro e w13 ⟨rfl, hq⟩
  have hb13 := hb12.trans (hq.mono hb12.size)
  have hS13 := hS12.below hq
  clear hb12 hS12 hq
  obtain ⟨hc, hf⟩ := bcell hb13
  have lz0 : w.heap.size < w13.heap.size := by have := hb13.size; simp at this; omega
  obtain ⟨kx4b1, -, lx4b1, -⟩ := Hs.bx [rw_ (.slice A2_0 (xs).length c2_0) (xs), rws_ (.slice A3_0 ((artA s0 xs).1).length c3_0) ((artA s0 xs).1), rw_ (.slice A4_0 (xs).length c4_0) (countFrom (1) (xs).length)] [rws_ (.slice A6_0 ((artA s0 xs).1).length c6_0) (markSS (1) ((artA s0 xs).1)), rw_ (.slice A8_0 (xs).length c8_0) (xs)] hS13
  have kx4b1_0 : w13.cell? ⟨g4b1, 0, none⟩ = some (.int .i64 (s0)) := kx4b1 0
  have kx4b1_1 : w13.cell? ⟨g4b1, 1, none⟩ = some ((.slice A4_0 (xs).length c4_0)) := kx4b1 1
  clear kx4b1
  go_wp2_with fail
  clear hc hf lz0 kx4b1_0 kx4b1_1 lx4b1
  refine (toBraid_any (s0) _ (xs) _ _ (g0.below hb13 hB0) (Nat.le_trans hB0 hb13.size) (by omega)).mono ?_
  rintro e w14 ⟨q14_0, rfl, ho14, hq⟩
  have hb14 := hb13.trans (hq.mono hb13.size)
  have hS14 := hS13.join hq (hs_ow ho14 hq)
  clear hb13 hS13 hq ho14
  obtain ⟨A14_0, c14_0, rfl, -⟩ := id (Hs.rd [rw_ (.slice A2_0 (xs).length c2_0) (xs), rws_ (.slice A3_0 ((artA s0 xs).1).length c3_0) ((artA s0 xs).1), rw_ (.slice A4_0 (xs).length c4_0) (countFrom (1) (xs).length), bx_ g4b1 #[.int .i64 (s0), (.slice A4_0 (xs).length c4_0)] 41, rws_ (.slice A6_0 ((artA s0 xs).1).length c6_0) (markSS (1) ((artA s0 xs).1)), rw_ (.slice A8_0 (xs).length c8_0) (xs)] [] hS14)
  obtain ⟨hc, hf⟩ := bcell hb14
  have lz0 : w.heap.size < w14.heap.size := by have := hb14.size; simp at this; omega
  obtain ⟨kx4b1, -, lx4b1, -⟩ := Hs.bx [rw_ (.slice A2_0 (xs).length c2_0) (xs), rws_ (.slice A3_0 ((artA s0 xs).1).length c3_0) ((artA s0 xs).1), rw_ (.slice A4_0 (xs).length c4_0) (countFrom (1) (xs).length)] [rws_ (.slice A6_0 ((artA s0 xs).1).length c6_0) (markSS (1) ((artA s0 xs).1)), rw_ (.slice A8_0 (xs).length c8_0) (xs), rw_ (.slice A14_0 (xs).length c14_0) (xs)] hS14
  have kx4b1_0 : w14.cell? ⟨g4b1, 0, none⟩ = some (.int .i64 (s0)) := kx4b1 0
  have kx4b1_1 : w14.cell? ⟨g4b1, 1, none⟩ = some ((.slice A4_0 (xs).length c4_0)) := kx4b1 1
  clear kx4b1
  go_wp2_with fail
  clear hc hf lz0 kx4b1_0 kx4b1_1 lx4b1
  refine (impl_ArtinAction_any _ _ xs _ _ (Hs.rd [rw_ (.slice A2_0 (xs).length c2_0) (xs), rws_ (.slice A3_0 ((artA s0 xs).1).length c3_0) ((artA s0 xs).1), rw_ (.slice A4_0 (xs).length c4_0) (countFrom (1) (xs).length), bx_ g4b1 #[.int .i64 (s0), (.slice A4_0 (xs).length c4_0)] 41, rws_ (.slice A6_0 ((artA s0 xs).1).length c6_0) (markSS (1) ((artA s0 xs).1)), rw_ (.slice A8_0 (xs).length c8_0) (xs)] [] hS14) (Nat.le_refl _)).mono ?_
  rintro e w15 ⟨q15_0, rfl, ho15, hq⟩
  have hb15 := hb14.trans (hq.mono hb14.size)
  have hS15 := hS14.join hq (hs_ows ho15 hq)
  clear hb14 hS14 hq ho15
  obtain ⟨A15_0, c15_0, rfl, -⟩ := id (Hs.rdS [rw_ (.slice A2_0 (xs).length c2_0) (xs), rws_ (.slice A3_0 ((artA s0 xs).1).length c3_0) ((artA s0 xs).1), rw_ (.slice A4_0 (xs).length c4_0) (countFrom (1) (xs).length), bx_ g4b1 #[.int .i64 (s0), (.slice A4_0 (xs).length c4_0)] 41, rws_ (.slice A6_0 ((artA s0 xs).1).length c6_0) (markSS (1) ((artA s0 xs).1)), rw_ (.slice A8_0 (xs).length c8_0) (xs), rw_ (.slice A14_0 (xs).length c14_0) (xs)] [] hS15)
  obtain ⟨hc, hf⟩ := bcell hb15
  have lz0 : w.heap.size < w15.heap.size := by have := hb15.size; simp at this; omega
  obtain ⟨kx4b1, -, lx4b1, -⟩ := Hs.bx [rw_ (.slice A2_0 (xs).length c2_0) (xs), rws_ (.slice A3_0 ((artA s0 xs).1).length c3_0) ((artA s0 xs).1), rw_ (.slice A4_0 (xs).length c4_0) (countFrom (1) (xs).length)] [rws_ (.slice A6_0 ((artA s0 xs).1).length c6_0) (markSS (1) ((artA s0 xs).1)), rw_ (.slice A8_0 (xs).length c8_0) (xs), rw_ (.slice A14_0 (xs).length c14_0) (xs), rws_ (.slice A15_0 ((artA s0 xs).1).length c15_0) ((artA s0 xs).1)] hS15
  have kx4b1_0 : w15.cell? ⟨g4b1, 0, none⟩ = some (.int .i64 (s0)) := kx4b1 0
  have kx4b1_1 : w15.cell? ⟨g4b1, 1, none⟩ = some ((.slice A4_0 (xs).length c4_0)) := kx4b1 1
  clear kx4b1
  go_wp2_with fail
  clear hc hf lz0 kx4b1_0 kx4b1_1 lx4b1
  refine (eqSS_yes (Hs.rdS [rw_ (.slice A2_0 (xs).length c2_0) (xs), rws_ (.slice A3_0 ((artA s0 xs).1).length c3_0) ((artA s0 xs).1), rw_ (.slice A4_0 (xs).length c4_0) (countFrom (1) (xs).length), bx_ g4b1 #[.int .i64 (s0), (.slice A4_0 (xs).length c4_0)] 41, rws_ (.slice A6_0 ((artA s0 xs).1).length c6_0) (markSS (1) ((artA s0 xs).1)), rw_ (.slice A8_0 (xs).length c8_0) (xs), rw_ (.slice A14_0 (xs).length c14_0) (xs)] [] hS15) (Hs.rdS [rw_ (.slice A2_0 (xs).length c2_0) (xs)] [rw_ (.slice A4_0 (xs).length c4_0) (countFrom (1) (xs).length), bx_ g4b1 #[.int .i64 (s0), (.slice A4_0 (xs).length c4_0)] 41, rws_ (.slice A6_0 ((artA s0 xs).1).length c6_0) (markSS (1) ((artA s0 xs).1)), rw_ (.slice A8_0 (xs).length c8_0) (xs), rw_ (.slice A14_0 (xs).length c14_0) (xs), rws_ (.slice A15_0 ((artA s0 xs).1).length c15_0) ((artA s0 xs).1)] hS15)).mono ?_
  rintro e w16 ⟨rfl, hq⟩
  have hb16 := hb15.trans (hq.mono hb15.size)
  have hS16 := hS15.below hq
  clear hb15 hS15 hq
  obtain ⟨hc, hf⟩ := bcell hb16
  have lz0 : w.heap.size < w16.heap.size := by have := hb16.size; simp at this; omega
  obtain ⟨kx4b1, -, lx4b1, -⟩ := Hs.bx [rw_ (.slice A2_0 (xs).length c2_0) (xs), rws_ (.slice A3_0 ((artA s0 xs).1).length c3_0) ((artA s0 xs).1), rw_ (.slice A4_0 (xs).length c4_0) (countFrom (1) (xs).length)] [rws_ (.slice A6_0 ((artA s0 xs).1).length c6_0) (markSS (1) ((artA s0 xs).1)), rw_ (.slice A8_0 (xs).length c8_0) (xs), rw_ (.slice A14_0 (xs).length c14_0) (xs), rws_ (.slice A15_0 ((artA s0 xs).1).length c15_0) ((artA s0 xs).1)] hS16
  have kx4b1_0 : w16.cell? ⟨g4b1, 0, none⟩ = some (.int .i64 (s0)) := kx4b1 0
  have kx4b1_1 : w16.cell? ⟨g4b1, 1, none⟩ = some ((.slice A4_0 (xs).length c4_0)) := kx4b1 1
  clear kx4b1
  go_wp2_with fail
  clear hc hf lz0 kx4b1_0 kx4b1_1 lx4b1
  refine (heldSS_any (Hs.rdS [rw_ (.slice A2_0 (xs).length c2_0) (xs), rws_ (.slice A3_0 ((artA s0 xs).1).length c3_0) ((artA s0 xs).1), rw_ (.slice A4_0 (xs).length c4_0) (countFrom (1) (xs).length), bx_ g4b1 #[.int .i64 (s0), (.slice A4_0 (xs).length c4_0)] 41] [rw_ (.slice A8_0 (xs).length c8_0) (xs), rw_ (.slice A14_0 (xs).length c14_0) (xs), rws_ (.slice A15_0 ((artA s0 xs).1).length c15_0) ((artA s0 xs).1)] hS16) (by omega) (by omega) (by omega)).mono ?_
  rintro e w17 ⟨rfl, hq⟩
  have hb17 := hb16.trans (hq.mono hb16.size)
  have hS17 := hS16.below hq
  clear hb16 hS16 hq
  obtain ⟨hc, hf⟩ := bcell hb17
  have lz0 : w.heap.size < w17.heap.size := by have := hb17.size; simp at this; omega
  obtain ⟨kx4b1, -, lx4b1, -⟩ := Hs.bx [rw_ (.slice A2_0 (xs).length c2_0) (xs), rws_ (.slice A3_0 ((artA s0 xs).1).length c3_0) ((artA s0 xs).1), rw_ (.slice A4_0 (xs).length c4_0) (countFrom (1) (xs).length)] [rws_ (.slice A6_0 ((artA s0 xs).1).length c6_0) (markSS (1) ((artA s0 xs).1)), rw_ (.slice A8_0 (xs).length c8_0) (xs), rw_ (.slice A14_0 (xs).length c14_0) (xs), rws_ (.slice A15_0 ((artA s0 xs).1).length c15_0) ((artA s0 xs).1)] hS17
  have kx4b1_0 : w17.cell? ⟨g4b1, 0, none⟩ = some (.int .i64 (s0)) := kx4b1 0
  have kx4b1_1 : w17.cell? ⟨g4b1, 1, none⟩ = some ((.slice A4_0 (xs).length c4_0)) := kx4b1 1
  clear kx4b1
  go_wp2_with fail
  clear hc hf lz0 kx4b1_0 kx4b1_1 lx4b1
  go_ret
  exact ⟨rfl, hA0.trans (hb17.mono hB0)⟩

set_option maxRecDepth 100000 in
theorem lifted (os : Os) (started : os.Started) (H : Type) (enc : TypeId × Value → H) :
    ReturnsInHanded {} Try.checked os 5 .any (Rows.fnExactArtinActionSpec.pre6 enc Try.prog Try.f5 Rows.fnExactArtinActionRow.domain false) (Rows.fnExactArtinActionSpec.post enc Try.prog Try.f5 false true false false) := by
  refine returnsInHanded_of_change (C := Try.checked) own_knob started (by kernel_rfl) Try.func5
    (ChangeSpec.witness6 (enc := enc) (C := Try.checked) false ⟨#[], #[.agg #[.int .i64 0, .slice none 0 0]], []⟩ 8 (by kernel_rfl) (by kernel_rfl) (by kernel_rfl) (by kernel_rfl)) ?_
  intro W base args ds gs before hval0 hW hcnd _
  have hval : ∀ (j : Nat) t v, Try.f5.params[j]? = some t → args[j]? = some v → Value.okWide Try.prog W .any base t v := hval0
  have hW' := hW
  obtain ⟨p, q, hA0, hV, rfl, hfz, hnd⟩ := hW
  have hA : DataW.TrodAll enc Try.prog W 0 (fun _ => true) true Try.f5.params.toList args.toList ds p := hA0
  rw [Try.params5] at hA hval
  obtain ⟨v0, vs0, d0, ds0, p0, q0, hargs, rfl, rfl, h0, r0⟩ := trodAll_cons hA
  obtain ⟨rfl, rfl, rfl⟩ := trodAll_nil r0
  obtain rfl : args = #[v0] := by cases args; simp_all
  obtain ⟨rfl, rfl⟩ := trodVars_none hV
  have k0 := h0
  have lt0 : ∀ x ∈ p0, x.block < W.heap.size := by obtain ⟨m, hm⟩ := k0; exact DataW.trod_lt m _ _ _ hm
  obtain ⟨y0, u0, xs, rfl, t0, z0, b0⟩ := open_Braid (hval 0 37 v0 rfl rfl) h0
  clear hA0 hval0
  refine (walk y0 u0 xs W t0 z0 b0).mono fun e W' ⟨he, bel⟩ => ?_
  subst he
  exact ⟨_, rfl, _, _, _, [], _, [], hW', trodAll_mk1 (shut_bool Try.underlying4 _), (trodAll_cons_mk (Below.trod laid_out (by kernel_rfl) (of_decide_eq_true (by kernel_rfl)) k0 bel lt0) trodAll_mk0), rfl, bel.frame _, fun h => by cases h⟩

/-- The statement. -/
theorem proved : Rows.FnExactArtinActionSaid :=
  OpenClaim.holds_of_wide 5 Try.f5 rfl rfl rfl rfl rfl rfl rfl ⟨rfl, rfl, rfl, rfl, rfl⟩ rfl rfl rfl rfl rfl (by kernel_rfl) Try.func5 (by kernel_rfl)
    (of_decide_eq_true (by kernel_rfl)) (by unfold Func.isWrapper; first | (rw [if_pos (by decide +kernel)]; kernel_rfl) | (rw [if_neg (by decide +kernel)]; exact ⟨rfl, rfl⟩))
    (fun os started H enc _ => lifted os started H enc)
#print axioms proved
end Go.Proofs.Ytcoocjdkppdlmaa.fnExactArtinAction
