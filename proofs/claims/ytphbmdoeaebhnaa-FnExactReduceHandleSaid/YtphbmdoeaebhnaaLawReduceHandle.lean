/-
  Proved here: for every input the law FnExactReduceHandle returns true, and every argument reads behind the call as it read before. No condition.
-/
import Derived.Test.YtphbmdoeaebhnaaOpen
import Derived.Test.YtphbmdoeaebhnaaSt
import Derived.Test.YtphbmdoeaebhnaaHand4
import Derived.ProofKit
import Derived.OpenShut
import Derived.ShutString
import Derived.ChangeOld
import Derived.Below
import Derived.Deep.RegionHeld3
import Derived.Deep.DeepCutAuto
namespace Go.Proofs.Ytphbmdoeaebhnaa.fnExactReduceHandle
open Go.ChangeShapes Go.WideShapes Go.ChangeAt Go.RowKit
open Go.ChangeMaps (open_string shut_string)
set_option linter.unusedVariables false

set_option maxRecDepth 100000 in
set_option maxHeartbeats 4000000 in
theorem walk (s0 : Int) (v0 : Value) (xs : List Int) (pf pt : Int) (w : World) (t0 : R64 s0) (h0 : Sl w w.heap.size v0 xs) (b0 : ∀ x ∈ xs, R64 x) (bf1 : R64 pf) (bt1 : R64 pt) :
    Calls Try.prog 9 #[.agg #[.int .i64 s0, v0], .agg #[.int .i64 pf, .int .i64 pt]] w fun e w' => e = .returned (.bool true) ∧ Below w.heap.size w w' := by
  obtain ⟨A0, c0, e0, hl0, hm0⟩ : ∃ A c, v0 = .slice A xs.length c ∧ xs.length ≤ c ∧ c ≤ 9223372036854775807 := by obtain ⟨A, c, h1, h2, h3, _⟩ := h0; simp only [maxLen] at h3; exact ⟨A, c, h1, h2, by omega⟩
  subst e0
  have hA0 : Below w.heap.size w ((w.alloc (.cells #[.int .i64 (s0), (.slice A0 xs.length c0)] 35)).alloc (.cells #[.int .i64 (pf), .int .i64 (pt)] 37)) := ((al1 w (.cells #[.int .i64 (s0), (.slice A0 xs.length c0)] 35)).alloc (by simp) (.cells #[.int .i64 (pf), .int .i64 (pt)] 37))
  have hB0 : w.heap.size ≤ ((w.alloc (.cells #[.int .i64 (s0), (.slice A0 xs.length c0)] 35)).alloc (.cells #[.int .i64 (pf), .int .i64 (pt)] 37)).heap.size := hA0.size
  have g0 := h0.below hA0 (Nat.le_refl _)
  clear h0
  have hb0 := Below.refl ((w.alloc (.cells #[.int .i64 (s0), (.slice A0 xs.length c0)] 35)).alloc (.cells #[.int .i64 (pf), .int .i64 (pt)] 37)).heap.size ((w.alloc (.cells #[.int .i64 (s0), (.slice A0 xs.length c0)] 35)).alloc (.cells #[.int .i64 (pf), .int .i64 (pt)] 37))
  have hS0 : Hs ((w.alloc (.cells #[.int .i64 (s0), (.slice A0 xs.length c0)] 35)).alloc (.cells #[.int .i64 (pf), .int .i64 (pt)] 37)) ((w.alloc (.cells #[.int .i64 (s0), (.slice A0 xs.length c0)] 35)).alloc (.cells #[.int .i64 (pf), .int .i64 (pt)] 37)).heap.size [] := Hs.nil _
  by_cases z0 : (1048576 : Int) < xs.length
  · go_enter Try.func9, Try.ntmps9
    go_wp2_with fail
    refine (szBraid_no (g0.below hb0 hB0) (Nat.le_trans hB0 hb0.size) (by omega) (by omega) z0).mono ?_
    rintro e w1 ⟨rfl, hq⟩
    have hb1 := hb0.trans (hq.mono hb0.size)
    have hS1 := hS0.below hq
    clear hb0 hS0 hq
    obtain ⟨hc, hf⟩ := bcell hb1
    have lz0 : w.heap.size < w1.heap.size := by have := hb1.size; simp at this; omega
    have lz1 : w.heap.size + 1 < w1.heap.size := by have := hb1.size; simp at this; omega
    go_wp2_with fail
    clear hc hf lz0 lz1
    go_ret
    exact ⟨rfl, hA0.trans (hb1.mono hB0)⟩
  have zl0 : (xs.length : Int) ≤ 1048576 := by omega
  have hfl := rhA_len s0 xs pf pt
  go_enter Try.func9, Try.ntmps9
  go_wp2_with fail
  refine (szBraid_yes (g0.below hb0 hB0) (Nat.le_trans hB0 hb0.size) (by omega) (by omega) (by omega)).mono ?_
  rintro e w1 ⟨rfl, hq⟩
  have hb1 := hb0.trans (hq.mono hb0.size)
  have hS1 := hS0.below hq
  clear hb0 hS0 hq
  obtain ⟨hc, hf⟩ := bcell hb1
  have lz0 : w.heap.size < w1.heap.size := by have := hb1.size; simp at this; omega
  have lz1 : w.heap.size + 1 < w1.heap.size := by have := hb1.size; simp at this; omega
  go_upto_region 5 with fail
  clear hc hf lz0 lz1
  go_cut [6, 7] (fun s6 s7 wx => ∃ (g4_0 : Nat) (A4_0 : Option Addr) (c4_0 : Nat), s6 = .pointer (some ⟨g4_0, 0, none⟩) ∧ s7 = .int .i64 ((rhA s0 xs pf pt).2.2) ∧ Below ((w.alloc (.cells #[.int .i64 (s0), (.slice A0 xs.length c0)] 35)).alloc (.cells #[.int .i64 (pf), .int .i64 (pt)] 37)).heap.size ((w.alloc (.cells #[.int .i64 (s0), (.slice A0 xs.length c0)] 35)).alloc (.cells #[.int .i64 (pf), .int .i64 (pt)] 37)) wx ∧ Hs wx ((w.alloc (.cells #[.int .i64 (s0), (.slice A0 xs.length c0)] 35)).alloc (.cells #[.int .i64 (pf), .int .i64 (pt)] 37)).heap.size [rw_ (.slice A4_0 ((rhA s0 xs pf pt).2.1).length c4_0) ((rhA s0 xs pf pt).2.1), bx_ g4_0 #[.int .i64 ((rhA s0 xs pf pt).1), (.slice A4_0 ((rhA s0 xs pf pt).2.1).length c4_0)] 40])
  case first =>
    have j0 : w1.cell? ⟨w.heap.size, 0, none⟩ = some (.int .i64 (s0)) := by rw [(bcell hb1).1 _ _ (by simp; try omega)]; first | (simp; done) | simp [World.cell?_alloc_lt]
    have jl0 : w.heap.size < w1.heap.size := block_lt_of_cell j0
    have j1 : w1.cell? ⟨w.heap.size, 1, none⟩ = some ((.slice A0 xs.length c0)) := by rw [(bcell hb1).1 _ _ (by simp; try omega)]; first | (simp; done) | simp [World.cell?_alloc_lt]
    have jl1 : w.heap.size < w1.heap.size := block_lt_of_cell j1
    have j2 : w1.cell? ⟨w.heap.size + 1, 0, none⟩ = some (.int .i64 (pf)) := by rw [(bcell hb1).1 _ _ (by simp; try omega)]; first | (simp; done) | simp [World.cell?_alloc_lt]
    have jl2 : w.heap.size + 1 < w1.heap.size := block_lt_of_cell j2
    have j3 : w1.cell? ⟨w.heap.size + 1, 1, none⟩ = some (.int .i64 (pt)) := by rw [(bcell hb1).1 _ _ (by simp; try omega)]; first | (simp; done) | simp [World.cell?_alloc_lt]
    have jl3 : w.heap.size + 1 < w1.heap.size := block_lt_of_cell j3
    have hBx := Nat.le_trans hB0 hb1.size
    have gx0 := g0.below hb1 hB0
    have HK := Lib.hid (fun w' (hw : Below w1.heap.size w1 w') => show w'.cell? ⟨w.heap.size, 0, none⟩ = some (.int .i64 (s0)) ∧ w'.cell? ⟨w.heap.size, 1, none⟩ = some ((.slice A0 xs.length c0)) ∧ w'.cell? ⟨w.heap.size + 1, 0, none⟩ = some (.int .i64 (pf)) ∧ w'.cell? ⟨w.heap.size + 1, 1, none⟩ = some (.int .i64 (pt)) ∧ Below w1.heap.size w1 w' from ⟨by rw [hw.cell (by simp only; omega)]; exact j0, by rw [hw.cell (by simp only; omega)]; exact j1, by rw [hw.cell (by simp only; omega)]; exact j2, by rw [hw.cell (by simp only; omega)]; exact j3, hw⟩)
    clear j0 jl0 j1 jl1 j2 jl2 j3 jl3
    go_region_held3 (fun w' => w'.cell? ⟨w.heap.size, 0, none⟩ = some (.int .i64 (s0)) ∧ w'.cell? ⟨w.heap.size, 1, none⟩ = some ((.slice A0 xs.length c0)) ∧ w'.cell? ⟨w.heap.size + 1, 0, none⟩ = some (.int .i64 (pf)) ∧ w'.cell? ⟨w.heap.size + 1, 1, none⟩ = some (.int .i64 (pt)) ∧ Below w1.heap.size w1 w')
      (exact HK.out _ (by go_grown))
      (first
        | (go_at_call_of 27 (Go.Value.agg #[.int .i64 (s0), (.slice A0 xs.length c0)]); (refine (toBraid_any (s0) _ (xs) _ _ (gx0.below (show Below w1.heap.size w1 _ by go_grown) hBx) (Nat.le_trans hBx (Below.size (w := w1) (B := w1.heap.size) (by go_grown))) (by omega)).mono ?_); rintro e w2 ⟨q2_0, rfl, ho2, hq⟩; have hr2 : Below w1.heap.size w1 w2 := Below.trans (show Below w1.heap.size w1 _ by go_grown) (hq.mono (Below.size (w := w1) (B := w1.heap.size) (by go_grown))); have hz2 := hr2.size; have hq2 := hq; clear hq; (first | (have dz2 := alloc_fwd hq2) | (have dz2 := alloc_fwd_drew hq2) | (have dz2 := alloc_fwd_in hq2) | (have dz2 := alloc_fwd_drewN hq2) | (have dz2 := keep_fwd hq2 dz0) | skip); (first | (have hbx := box2 dz2; obtain ⟨d2a, d2b, d2c, d2d, d2e⟩ := hbx) | skip); obtain ⟨A2_0, c2_0, rfl, -⟩ := id (ho2.sl (Nat.le_refl _)); have so2_0 := ho2.sl (Nat.le_refl _))
        | (go_at_call_of 28 (Go.Value.agg #[.int .i64 (pf), .int .i64 (pt)]); (refine (toHandle_any (pf) (pt) _).mono ?_); rintro e w3 ⟨rfl, hq⟩; have hr3 : Below w1.heap.size w1 w3 := Below.trans (show Below w1.heap.size w1 _ by go_grown) (hq.mono (Below.size (w := w1) (B := w1.heap.size) (by go_grown))); have hz3 := hr3.size; have hq3 := hq; clear hq; have so2_0 := (so2_0.below (Below.trans (show Below w2.heap.size w2 _ by go_grown) (hq3.mono (Below.size (w := w2) (B := w2.heap.size) (by go_grown)))) (Nat.le_refl _)).mono (Below.size (w := w2) (B := w2.heap.size) (Below.trans (show Below w2.heap.size w2 _ by go_grown) (hq3.mono (Below.size (w := w2) (B := w2.heap.size) (by go_grown))))); (first | (have dz3 := alloc_fwd hq3) | (have dz3 := alloc_fwd_drew hq3) | (have dz3 := alloc_fwd_in hq3) | (have dz3 := alloc_fwd_drewN hq3) | (have dz3 := keep_fwd hq3 dz2) | skip); (first | (have hbx := box2 dz3; obtain ⟨d3a, d3b, d3c, d3d, d3e⟩ := hbx) | skip))
        | (go_at_call 36; (refine (spec_ReduceHandle_any _ _ _ _ xs _ _ (so2_0.below (show Below w3.heap.size w3 _ by go_grown) (Nat.le_refl _)) (Below.size (w := w3) (B := w3.heap.size) (by go_grown))).mono ?_); rintro e w4 ⟨q4_0, rfl, ho4, hq⟩; have hr4 : Below w1.heap.size w1 w4 := Below.trans (show Below w1.heap.size w1 _ by go_grown) (hq.mono (Below.size (w := w1) (B := w1.heap.size) (by go_grown))); have hz4 := hr4.size; have hq4 := hq; clear hq; have so2_0 := (so2_0.below (Below.trans (show Below w3.heap.size w3 _ by go_grown) (hq4.mono (Below.size (w := w3) (B := w3.heap.size) (by go_grown)))) (Nat.le_refl _)).mono (Below.size (w := w3) (B := w3.heap.size) (Below.trans (show Below w3.heap.size w3 _ by go_grown) (hq4.mono (Below.size (w := w3) (B := w3.heap.size) (by go_grown))))); (first | (have dz4 := alloc_fwd hq4) | (have dz4 := alloc_fwd_drew hq4) | (have dz4 := alloc_fwd_in hq4) | (have dz4 := alloc_fwd_drewN hq4) | (have dz4 := keep_fwd hq4 dz3) | skip); (first | (have hbx := box2 dz4; obtain ⟨d4a, d4b, d4c, d4d, d4e⟩ := hbx) | skip); obtain ⟨A4_0, c4_0, rfl, -⟩ := id (ho4.sl (Nat.le_refl _))))
    · skip
      have hSa := (hS1.join hr4 (hs_ow (w := w1) (ho4.mono (by first | exact hz3 | (simp; omega) | simp | exact Nat.le_refl _) (Nat.le_refl _)) hr4)).join (al1 _ _) (hs_bx w4 #[.int .i64 ((rhA s0 xs pf pt).1), (.slice A4_0 ((rhA s0 xs pf pt).2.1).length c4_0)] 40)
      have hba := hb1.trans ((hr4.trans ((al1 w4 (.cells #[.int .i64 ((rhA s0 xs pf pt).1), (.slice A4_0 ((rhA s0 xs pf pt).2.1).length c4_0)] 40)).mono hz4)).mono hb1.size)
      go_wp2_with fail
      go_meet
      exact ⟨_, _, _, rfl, rfl, hba, hSa⟩
    · skip
      have hSa := ((hS1.join hr4 (hs_row_box hr4 (ho4.mono (by first | (simp; done) | exact Nat.le_refl _) (Nat.le_refl _)) (hz3) (heap_lt dz4) dz4)).setBx [rw_ (.slice A4_0 ((rhA s0 xs pf pt).2.1).length c4_0) ((rhA s0 xs pf pt).2.1)] [] 0 (.int .i64 ((rhA s0 xs pf pt).1)))
      have hSa := Hs.setBx [rw_ (.slice A4_0 ((rhA s0 xs pf pt).2.1).length c4_0) ((rhA s0 xs pf pt).2.1)] [] hSa 1 ((.slice A4_0 ((rhA s0 xs pf pt).2.1).length c4_0))
      have hba := hb1.trans ((show Below w1.heap.size w1 _ from (set_below (p := ⟨w3.heap.size, 1, none⟩) (x := (.slice A4_0 ((rhA s0 xs pf pt).2.1).length c4_0)) (hz3) (set_below (p := ⟨w3.heap.size, 0, none⟩) (x := .int .i64 ((rhA s0 xs pf pt).1)) (hz3) hr4))).mono hb1.size)
      go_wp2_with fail
      go_meet
      exact ⟨_, _, _, rfl, rfl, hba, hSa⟩
    · skip
      have hSa := ((hS1.join hr4 (hs_row_box hr4 (ho4.mono (heap_lt dz3) (Nat.le_refl _)) (hz2) (heap_lt dz4) dz4)).setBx [rw_ (.slice A4_0 ((rhA s0 xs pf pt).2.1).length c4_0) ((rhA s0 xs pf pt).2.1)] [] 0 (.int .i64 ((rhA s0 xs pf pt).1)))
      have hSa := Hs.setBx [rw_ (.slice A4_0 ((rhA s0 xs pf pt).2.1).length c4_0) ((rhA s0 xs pf pt).2.1)] [] hSa 1 ((.slice A4_0 ((rhA s0 xs pf pt).2.1).length c4_0))
      have hba := hb1.trans ((show Below w1.heap.size w1 _ from (set_below (p := ⟨w2.heap.size, 1, none⟩) (x := (.slice A4_0 ((rhA s0 xs pf pt).2.1).length c4_0)) (hz2) (set_below (p := ⟨w2.heap.size, 0, none⟩) (x := .int .i64 ((rhA s0 xs pf pt).1)) (hz2) hr4))).mono hb1.size)
      go_wp2_with fail
      go_meet
      exact ⟨_, _, _, rfl, rfl, hba, hSa⟩
    · skip
      have hSa := ((hS1.join hr4 (hs_row_box hr4 (ho4.mono (heap_lt dz3) (Nat.le_refl _)) (Nat.le_refl _) (heap_lt dz4) dz4)).setBx [rw_ (.slice A4_0 ((rhA s0 xs pf pt).2.1).length c4_0) ((rhA s0 xs pf pt).2.1)] [] 0 (.int .i64 ((rhA s0 xs pf pt).1)))
      have hSa := Hs.setBx [rw_ (.slice A4_0 ((rhA s0 xs pf pt).2.1).length c4_0) ((rhA s0 xs pf pt).2.1)] [] hSa 1 ((.slice A4_0 ((rhA s0 xs pf pt).2.1).length c4_0))
      have hba := hb1.trans ((show Below w1.heap.size w1 _ from (set_below (p := ⟨w1.heap.size, 1, none⟩) (x := (.slice A4_0 ((rhA s0 xs pf pt).2.1).length c4_0)) (Nat.le_refl _) (set_below (p := ⟨w1.heap.size, 0, none⟩) (x := .int .i64 ((rhA s0 xs pf pt).1)) (Nat.le_refl _) hr4))).mono hb1.size)
      go_wp2_with fail
      go_meet
      exact ⟨_, _, _, rfl, rfl, hba, hSa⟩
  case rest =>
  clear hb1 hS1
  obtain ⟨g4_0, A4_0, c4_0, rfl, rfl, hb5, hS5⟩ := hcut
  obtain ⟨w5, hwc⟩ : ∃ x, x = wc := ⟨_, rfl⟩
  subst hwc
  obtain ⟨hc, hf⟩ := bcell hb5
  have lz0 : w.heap.size < w5.heap.size := by have := hb5.size; simp at this; omega
  have lz1 : w.heap.size + 1 < w5.heap.size := by have := hb5.size; simp at this; omega
  obtain ⟨kx4_0b, -, lx4_0b, -⟩ := Hs.bx [rw_ (.slice A4_0 ((rhA s0 xs pf pt).2.1).length c4_0) ((rhA s0 xs pf pt).2.1)] [] hS5
  have kx4_0b_0 : w5.cell? ⟨g4_0, 0, none⟩ = some (.int .i64 ((rhA s0 xs pf pt).1)) := kx4_0b 0
  have kx4_0b_1 : w5.cell? ⟨g4_0, 1, none⟩ = some ((.slice A4_0 ((rhA s0 xs pf pt).2.1).length c4_0)) := kx4_0b 1
  clear kx4_0b
  go_wp2_with fail
  clear hc hf lz0 lz1 kx4_0b_0 kx4_0b_1 lx4_0b
  refine (toBraid_any (s0) _ (xs) _ _ (g0.below hb5 hB0) (Nat.le_trans hB0 hb5.size) (by omega)).mono ?_
  rintro e w6 ⟨q6_0, rfl, ho6, hq⟩
  have hb6 := hb5.trans (hq.mono hb5.size)
  have hS6 := hS5.join hq (hs_ow ho6 hq)
  clear hb5 hS5 hq ho6
  obtain ⟨A6_0, c6_0, rfl, -⟩ := id (Hs.rd [rw_ (.slice A4_0 ((rhA s0 xs pf pt).2.1).length c4_0) ((rhA s0 xs pf pt).2.1), bx_ g4_0 #[.int .i64 ((rhA s0 xs pf pt).1), (.slice A4_0 ((rhA s0 xs pf pt).2.1).length c4_0)] 40] [] hS6)
  obtain ⟨hc, hf⟩ := bcell hb6
  have lz0 : w.heap.size < w6.heap.size := by have := hb6.size; simp at this; omega
  have lz1 : w.heap.size + 1 < w6.heap.size := by have := hb6.size; simp at this; omega
  obtain ⟨kx4_0b, -, lx4_0b, -⟩ := Hs.bx [rw_ (.slice A4_0 ((rhA s0 xs pf pt).2.1).length c4_0) ((rhA s0 xs pf pt).2.1)] [rw_ (.slice A6_0 (xs).length c6_0) (xs)] hS6
  have kx4_0b_0 : w6.cell? ⟨g4_0, 0, none⟩ = some (.int .i64 ((rhA s0 xs pf pt).1)) := kx4_0b 0
  have kx4_0b_1 : w6.cell? ⟨g4_0, 1, none⟩ = some ((.slice A4_0 ((rhA s0 xs pf pt).2.1).length c4_0)) := kx4_0b 1
  clear kx4_0b
  go_upto_region 7 with fail
  clear hc hf lz0 lz1 kx4_0b_0 kx4_0b_1 lx4_0b
  have hS6b1 := hS6.join (al1 _ _) (hs_bx w6 #[.int .i64 (s0), (.slice A6_0 (xs).length c6_0)] 40)
  have hb6b1 := hb6.trans ((al1 w6 (.cells #[.int .i64 (s0), (.slice A6_0 (xs).length c6_0)] 40)).mono hb6.size)
  clear hb6 hS6
  generalize hg6b1 : w6.heap.size = g6b1 at *
  generalize hw6b1 : w6.alloc (.cells #[.int .i64 (s0), (.slice A6_0 (xs).length c6_0)] 40) = w7 at *
  clear hg6b1 hw6b1
  have hS7 := hS6b1
  have hb7 := hb6b1
  clear hS6b1 hb6b1
  go_cut [9, 10] (fun s9 s10 wx => ∃ (g9_0 : Nat) (A9_0 : Option Addr) (c9_0 : Nat), s9 = .pointer (some ⟨g9_0, 0, none⟩) ∧ s10 = .int .i64 ((rhA s0 xs pf pt).2.2) ∧ Below ((w.alloc (.cells #[.int .i64 (s0), (.slice A0 xs.length c0)] 35)).alloc (.cells #[.int .i64 (pf), .int .i64 (pt)] 37)).heap.size ((w.alloc (.cells #[.int .i64 (s0), (.slice A0 xs.length c0)] 35)).alloc (.cells #[.int .i64 (pf), .int .i64 (pt)] 37)) wx ∧ Hs wx ((w.alloc (.cells #[.int .i64 (s0), (.slice A0 xs.length c0)] 35)).alloc (.cells #[.int .i64 (pf), .int .i64 (pt)] 37)).heap.size [rw_ (.slice A4_0 ((rhA s0 xs pf pt).2.1).length c4_0) ((rhA s0 xs pf pt).2.1), bx_ g4_0 #[.int .i64 ((rhA s0 xs pf pt).1), (.slice A4_0 ((rhA s0 xs pf pt).2.1).length c4_0)] 40, rw_ (.slice A6_0 (xs).length c6_0) (xs), bx_ g6b1 #[.int .i64 (s0), (.slice A6_0 (xs).length c6_0)] 40, rw_ (.slice A9_0 ((rhA s0 xs pf pt).2.1).length c9_0) ((rhA s0 xs pf pt).2.1), bx_ g9_0 #[.int .i64 ((rhA s0 xs pf pt).1), (.slice A9_0 ((rhA s0 xs pf pt).2.1).length c9_0)] 40])
  case first =>
    have j0 : w7.cell? ⟨g6b1, 0, none⟩ = some (.int .i64 (s0)) := (Hs.bx [rw_ (.slice A4_0 ((rhA s0 xs pf pt).2.1).length c4_0) ((rhA s0 xs pf pt).2.1), bx_ g4_0 #[.int .i64 ((rhA s0 xs pf pt).1), (.slice A4_0 ((rhA s0 xs pf pt).2.1).length c4_0)] 40, rw_ (.slice A6_0 (xs).length c6_0) (xs)] [] hS7).1 0
    have jl0 : g6b1 < w7.heap.size := block_lt_of_cell j0
    have j1 : w7.cell? ⟨g6b1, 1, none⟩ = some ((.slice A6_0 (xs).length c6_0)) := (Hs.bx [rw_ (.slice A4_0 ((rhA s0 xs pf pt).2.1).length c4_0) ((rhA s0 xs pf pt).2.1), bx_ g4_0 #[.int .i64 ((rhA s0 xs pf pt).1), (.slice A4_0 ((rhA s0 xs pf pt).2.1).length c4_0)] 40, rw_ (.slice A6_0 (xs).length c6_0) (xs)] [] hS7).1 1
    have jl1 : g6b1 < w7.heap.size := block_lt_of_cell j1
    have j2 : w7.cell? ⟨w.heap.size + 1, 0, none⟩ = some (.int .i64 (pf)) := by rw [(bcell hb7).1 _ _ (by simp; try omega)]; first | (simp; done) | simp [World.cell?_alloc_lt]
    have jl2 : w.heap.size + 1 < w7.heap.size := block_lt_of_cell j2
    have j3 : w7.cell? ⟨w.heap.size + 1, 1, none⟩ = some (.int .i64 (pt)) := by rw [(bcell hb7).1 _ _ (by simp; try omega)]; first | (simp; done) | simp [World.cell?_alloc_lt]
    have jl3 : w.heap.size + 1 < w7.heap.size := block_lt_of_cell j3
    have hBx := Nat.le_trans hB0 hb7.size
    have gx0 := g0.below hb7 hB0
    have sx4_0 : Sl w7 w7.heap.size (.slice A4_0 ((rhA s0 xs pf pt).2.1).length c4_0) ((rhA s0 xs pf pt).2.1) := Hs.rd [] [bx_ g4_0 #[.int .i64 ((rhA s0 xs pf pt).1), (.slice A4_0 ((rhA s0 xs pf pt).2.1).length c4_0)] 40, rw_ (.slice A6_0 (xs).length c6_0) (xs), bx_ g6b1 #[.int .i64 (s0), (.slice A6_0 (xs).length c6_0)] 40] hS7
    have sx6_0 : Sl w7 w7.heap.size (.slice A6_0 (xs).length c6_0) (xs) := Hs.rd [rw_ (.slice A4_0 ((rhA s0 xs pf pt).2.1).length c4_0) ((rhA s0 xs pf pt).2.1), bx_ g4_0 #[.int .i64 ((rhA s0 xs pf pt).1), (.slice A4_0 ((rhA s0 xs pf pt).2.1).length c4_0)] 40] [bx_ g6b1 #[.int .i64 (s0), (.slice A6_0 (xs).length c6_0)] 40] hS7
    have HK := Lib.hid (fun w' (hw : Below w7.heap.size w7 w') => show w'.cell? ⟨g6b1, 0, none⟩ = some (.int .i64 (s0)) ∧ w'.cell? ⟨g6b1, 1, none⟩ = some ((.slice A6_0 (xs).length c6_0)) ∧ w'.cell? ⟨w.heap.size + 1, 0, none⟩ = some (.int .i64 (pf)) ∧ w'.cell? ⟨w.heap.size + 1, 1, none⟩ = some (.int .i64 (pt)) ∧ Below w7.heap.size w7 w' from ⟨by rw [hw.cell (by simp only; omega)]; exact j0, by rw [hw.cell (by simp only; omega)]; exact j1, by rw [hw.cell (by simp only; omega)]; exact j2, by rw [hw.cell (by simp only; omega)]; exact j3, hw⟩)
    clear j0 jl0 j1 jl1 j2 jl2 j3 jl3
    go_region_held3 (fun w' => w'.cell? ⟨g6b1, 0, none⟩ = some (.int .i64 (s0)) ∧ w'.cell? ⟨g6b1, 1, none⟩ = some ((.slice A6_0 (xs).length c6_0)) ∧ w'.cell? ⟨w.heap.size + 1, 0, none⟩ = some (.int .i64 (pf)) ∧ w'.cell? ⟨w.heap.size + 1, 1, none⟩ = some (.int .i64 (pt)) ∧ Below w7.heap.size w7 w')
      (exact HK.out _ (by go_grown))
      (first
        | (go_at_call_of 28 (Go.Value.agg #[.int .i64 (pf), .int .i64 (pt)]); (refine (toHandle_any (pf) (pt) _).mono ?_); rintro e w8 ⟨rfl, hq⟩; have hr8 : Below w7.heap.size w7 w8 := Below.trans (show Below w7.heap.size w7 _ by go_grown) (hq.mono (Below.size (w := w7) (B := w7.heap.size) (by go_grown))); have hz8 := hr8.size; have hq8 := hq; clear hq; (first | (have dz8 := alloc_fwd hq8) | (have dz8 := alloc_fwd_drew hq8) | (have dz8 := alloc_fwd_in hq8) | (have dz8 := alloc_fwd_drewN hq8) | (have dz8 := keep_fwd hq8 dz0) | skip); (first | (have hbx := box2 dz8; obtain ⟨d8a, d8b, d8c, d8d, d8e⟩ := hbx) | skip))
        | (go_at_call 37; (refine (impl_ReduceHandle_any _ _ _ _ xs _ _ (sx6_0.below (show Below w7.heap.size w7 _ by go_grown) (Nat.le_refl _)) (Below.size (w := w7) (B := w7.heap.size) (by go_grown)) bf1).mono ?_); rintro e w9 ⟨q9_0, rfl, ho9, hq⟩; have hr9 : Below w7.heap.size w7 w9 := Below.trans (show Below w7.heap.size w7 _ by go_grown) (hq.mono (Below.size (w := w7) (B := w7.heap.size) (by go_grown))); have hz9 := hr9.size; have hq9 := hq; clear hq; (first | (have dz9 := alloc_fwd hq9) | (have dz9 := alloc_fwd_drew hq9) | (have dz9 := alloc_fwd_in hq9) | (have dz9 := alloc_fwd_drewN hq9) | (have dz9 := keep_fwd hq9 dz8) | skip); (first | (have hbx := box2 dz9; obtain ⟨d9a, d9b, d9c, d9d, d9e⟩ := hbx) | skip); obtain ⟨A9_0, c9_0, rfl, -⟩ := id (ho9.sl (Nat.le_refl _))))
    · skip
      have hSa := (hS7.join hr9 (hs_ow (w := w7) (ho9.mono (by first | exact hz8 | (simp; omega) | simp | exact Nat.le_refl _) (Nat.le_refl _)) hr9)).join (al1 _ _) (hs_bx w9 #[.int .i64 ((rhA s0 xs pf pt).1), (.slice A9_0 ((rhA s0 xs pf pt).2.1).length c9_0)] 40)
      have hba := hb7.trans ((hr9.trans ((al1 w9 (.cells #[.int .i64 ((rhA s0 xs pf pt).1), (.slice A9_0 ((rhA s0 xs pf pt).2.1).length c9_0)] 40)).mono hz9)).mono hb7.size)
      go_wp2_with fail
      go_meet
      exact ⟨_, _, _, rfl, rfl, hba, hSa⟩
    · skip
      have hSa := ((hS7.join hr9 (hs_row_box hr9 (ho9.mono (by first | (simp; done) | exact Nat.le_refl _) (Nat.le_refl _)) (hz8) (heap_lt dz9) dz9)).setBx [rw_ (.slice A4_0 ((rhA s0 xs pf pt).2.1).length c4_0) ((rhA s0 xs pf pt).2.1), bx_ g4_0 #[.int .i64 ((rhA s0 xs pf pt).1), (.slice A4_0 ((rhA s0 xs pf pt).2.1).length c4_0)] 40, rw_ (.slice A6_0 (xs).length c6_0) (xs), bx_ g6b1 #[.int .i64 (s0), (.slice A6_0 (xs).length c6_0)] 40, rw_ (.slice A9_0 ((rhA s0 xs pf pt).2.1).length c9_0) ((rhA s0 xs pf pt).2.1)] [] 0 (.int .i64 ((rhA s0 xs pf pt).1)))
      have hSa := Hs.setBx [rw_ (.slice A4_0 ((rhA s0 xs pf pt).2.1).length c4_0) ((rhA s0 xs pf pt).2.1), bx_ g4_0 #[.int .i64 ((rhA s0 xs pf pt).1), (.slice A4_0 ((rhA s0 xs pf pt).2.1).length c4_0)] 40, rw_ (.slice A6_0 (xs).length c6_0) (xs), bx_ g6b1 #[.int .i64 (s0), (.slice A6_0 (xs).length c6_0)] 40, rw_ (.slice A9_0 ((rhA s0 xs pf pt).2.1).length c9_0) ((rhA s0 xs pf pt).2.1)] [] hSa 1 ((.slice A9_0 ((rhA s0 xs pf pt).2.1).length c9_0))
      have hba := hb7.trans ((show Below w7.heap.size w7 _ from (set_below (p := ⟨w8.heap.size, 1, none⟩) (x := (.slice A9_0 ((rhA s0 xs pf pt).2.1).length c9_0)) (hz8) (set_below (p := ⟨w8.heap.size, 0, none⟩) (x := .int .i64 ((rhA s0 xs pf pt).1)) (hz8) hr9))).mono hb7.size)
      go_wp2_with fail
      go_meet
      exact ⟨_, _, _, rfl, rfl, hba, hSa⟩
    · skip
      have hSa := ((hS7.join hr9 (hs_row_box hr9 (ho9.mono (heap_lt dz8) (Nat.le_refl _)) (Nat.le_refl _) (heap_lt dz9) dz9)).setBx [rw_ (.slice A4_0 ((rhA s0 xs pf pt).2.1).length c4_0) ((rhA s0 xs pf pt).2.1), bx_ g4_0 #[.int .i64 ((rhA s0 xs pf pt).1), (.slice A4_0 ((rhA s0 xs pf pt).2.1).length c4_0)] 40, rw_ (.slice A6_0 (xs).length c6_0) (xs), bx_ g6b1 #[.int .i64 (s0), (.slice A6_0 (xs).length c6_0)] 40, rw_ (.slice A9_0 ((rhA s0 xs pf pt).2.1).length c9_0) ((rhA s0 xs pf pt).2.1)] [] 0 (.int .i64 ((rhA s0 xs pf pt).1)))
      have hSa := Hs.setBx [rw_ (.slice A4_0 ((rhA s0 xs pf pt).2.1).length c4_0) ((rhA s0 xs pf pt).2.1), bx_ g4_0 #[.int .i64 ((rhA s0 xs pf pt).1), (.slice A4_0 ((rhA s0 xs pf pt).2.1).length c4_0)] 40, rw_ (.slice A6_0 (xs).length c6_0) (xs), bx_ g6b1 #[.int .i64 (s0), (.slice A6_0 (xs).length c6_0)] 40, rw_ (.slice A9_0 ((rhA s0 xs pf pt).2.1).length c9_0) ((rhA s0 xs pf pt).2.1)] [] hSa 1 ((.slice A9_0 ((rhA s0 xs pf pt).2.1).length c9_0))
      have hba := hb7.trans ((show Below w7.heap.size w7 _ from (set_below (p := ⟨w7.heap.size, 1, none⟩) (x := (.slice A9_0 ((rhA s0 xs pf pt).2.1).length c9_0)) (Nat.le_refl _) (set_below (p := ⟨w7.heap.size, 0, none⟩) (x := .int .i64 ((rhA s0 xs pf pt).1)) (Nat.le_refl _) hr9))).mono hb7.size)
      go_wp2_with fail
      go_meet
      exact ⟨_, _, _, rfl, rfl, hba, hSa⟩
  case rest =>
  clear hb7 hS7
  obtain ⟨g9_0, A9_0, c9_0, rfl, rfl, hb10, hS10⟩ := hcut
  obtain ⟨w10, hwc⟩ : ∃ x, x = wc := ⟨_, rfl⟩
  subst hwc
  obtain ⟨hc, hf⟩ := bcell hb10
  have lz0 : w.heap.size < w10.heap.size := by have := hb10.size; simp at this; omega
  have lz1 : w.heap.size + 1 < w10.heap.size := by have := hb10.size; simp at this; omega
  obtain ⟨kx4_0b, -, lx4_0b, -⟩ := Hs.bx [rw_ (.slice A4_0 ((rhA s0 xs pf pt).2.1).length c4_0) ((rhA s0 xs pf pt).2.1)] [rw_ (.slice A6_0 (xs).length c6_0) (xs), bx_ g6b1 #[.int .i64 (s0), (.slice A6_0 (xs).length c6_0)] 40, rw_ (.slice A9_0 ((rhA s0 xs pf pt).2.1).length c9_0) ((rhA s0 xs pf pt).2.1), bx_ g9_0 #[.int .i64 ((rhA s0 xs pf pt).1), (.slice A9_0 ((rhA s0 xs pf pt).2.1).length c9_0)] 40] hS10
  have kx4_0b_0 : w10.cell? ⟨g4_0, 0, none⟩ = some (.int .i64 ((rhA s0 xs pf pt).1)) := kx4_0b 0
  have kx4_0b_1 : w10.cell? ⟨g4_0, 1, none⟩ = some ((.slice A4_0 ((rhA s0 xs pf pt).2.1).length c4_0)) := kx4_0b 1
  clear kx4_0b
  obtain ⟨kx6b1, -, lx6b1, -⟩ := Hs.bx [rw_ (.slice A4_0 ((rhA s0 xs pf pt).2.1).length c4_0) ((rhA s0 xs pf pt).2.1), bx_ g4_0 #[.int .i64 ((rhA s0 xs pf pt).1), (.slice A4_0 ((rhA s0 xs pf pt).2.1).length c4_0)] 40, rw_ (.slice A6_0 (xs).length c6_0) (xs)] [rw_ (.slice A9_0 ((rhA s0 xs pf pt).2.1).length c9_0) ((rhA s0 xs pf pt).2.1), bx_ g9_0 #[.int .i64 ((rhA s0 xs pf pt).1), (.slice A9_0 ((rhA s0 xs pf pt).2.1).length c9_0)] 40] hS10
  have kx6b1_0 : w10.cell? ⟨g6b1, 0, none⟩ = some (.int .i64 (s0)) := kx6b1 0
  have kx6b1_1 : w10.cell? ⟨g6b1, 1, none⟩ = some ((.slice A6_0 (xs).length c6_0)) := kx6b1 1
  clear kx6b1
  obtain ⟨kx9_0b, -, lx9_0b, -⟩ := Hs.bx [rw_ (.slice A4_0 ((rhA s0 xs pf pt).2.1).length c4_0) ((rhA s0 xs pf pt).2.1), bx_ g4_0 #[.int .i64 ((rhA s0 xs pf pt).1), (.slice A4_0 ((rhA s0 xs pf pt).2.1).length c4_0)] 40, rw_ (.slice A6_0 (xs).length c6_0) (xs), bx_ g6b1 #[.int .i64 (s0), (.slice A6_0 (xs).length c6_0)] 40, rw_ (.slice A9_0 ((rhA s0 xs pf pt).2.1).length c9_0) ((rhA s0 xs pf pt).2.1)] [] hS10
  have kx9_0b_0 : w10.cell? ⟨g9_0, 0, none⟩ = some (.int .i64 ((rhA s0 xs pf pt).1)) := kx9_0b 0
  have kx9_0b_1 : w10.cell? ⟨g9_0, 1, none⟩ = some ((.slice A9_0 ((rhA s0 xs pf pt).2.1).length c9_0)) := kx9_0b 1
  clear kx9_0b
  go_wp2_with fail
  clear hc hf lz0 lz1 kx4_0b_0 kx4_0b_1 lx4_0b kx6b1_0 kx6b1_1 lx6b1 kx9_0b_0 kx9_0b_1 lx9_0b
  refine (eqBraid_yes (Hs.rd [rw_ (.slice A4_0 ((rhA s0 xs pf pt).2.1).length c4_0) ((rhA s0 xs pf pt).2.1), bx_ g4_0 #[.int .i64 ((rhA s0 xs pf pt).1), (.slice A4_0 ((rhA s0 xs pf pt).2.1).length c4_0)] 40, rw_ (.slice A6_0 (xs).length c6_0) (xs), bx_ g6b1 #[.int .i64 (s0), (.slice A6_0 (xs).length c6_0)] 40] [bx_ g9_0 #[.int .i64 ((rhA s0 xs pf pt).1), (.slice A9_0 ((rhA s0 xs pf pt).2.1).length c9_0)] 40] hS10) (Hs.rd [] [bx_ g4_0 #[.int .i64 ((rhA s0 xs pf pt).1), (.slice A4_0 ((rhA s0 xs pf pt).2.1).length c4_0)] 40, rw_ (.slice A6_0 (xs).length c6_0) (xs), bx_ g6b1 #[.int .i64 (s0), (.slice A6_0 (xs).length c6_0)] 40, rw_ (.slice A9_0 ((rhA s0 xs pf pt).2.1).length c9_0) ((rhA s0 xs pf pt).2.1), bx_ g9_0 #[.int .i64 ((rhA s0 xs pf pt).1), (.slice A9_0 ((rhA s0 xs pf pt).2.1).length c9_0)] 40] hS10) (Nat.le_refl _) (Nat.le_refl _)).mono ?_
  rintro e w11 ⟨rfl, hq⟩
  have hb11 := hb10.trans (hq.mono hb10.size)
  have hS11 := hS10.below hq
  clear hb10 hS10 hq
  obtain ⟨hc, hf⟩ := bcell hb11
  have lz0 : w.heap.size < w11.heap.size := by have := hb11.size; simp at this; omega
  have lz1 : w.heap.size + 1 < w11.heap.size := by have := hb11.size; simp at this; omega
  obtain ⟨kx4_0b, -, lx4_0b, -⟩ := Hs.bx [rw_ (.slice A4_0 ((rhA s0 xs pf pt).2.1).length c4_0) ((rhA s0 xs pf pt).2.1)] [rw_ (.slice A6_0 (xs).length c6_0) (xs), bx_ g6b1 #[.int .i64 (s0), (.slice A6_0 (xs).length c6_0)] 40, rw_ (.slice A9_0 ((rhA s0 xs pf pt).2.1).length c9_0) ((rhA s0 xs pf pt).2.1), bx_ g9_0 #[.int .i64 ((rhA s0 xs pf pt).1), (.slice A9_0 ((rhA s0 xs pf pt).2.1).length c9_0)] 40] hS11
  have kx4_0b_0 : w11.cell? ⟨g4_0, 0, none⟩ = some (.int .i64 ((rhA s0 xs pf pt).1)) := kx4_0b 0
  have kx4_0b_1 : w11.cell? ⟨g4_0, 1, none⟩ = some ((.slice A4_0 ((rhA s0 xs pf pt).2.1).length c4_0)) := kx4_0b 1
  clear kx4_0b
  obtain ⟨kx6b1, -, lx6b1, -⟩ := Hs.bx [rw_ (.slice A4_0 ((rhA s0 xs pf pt).2.1).length c4_0) ((rhA s0 xs pf pt).2.1), bx_ g4_0 #[.int .i64 ((rhA s0 xs pf pt).1), (.slice A4_0 ((rhA s0 xs pf pt).2.1).length c4_0)] 40, rw_ (.slice A6_0 (xs).length c6_0) (xs)] [rw_ (.slice A9_0 ((rhA s0 xs pf pt).2.1).length c9_0) ((rhA s0 xs pf pt).2.1), bx_ g9_0 #[.int .i64 ((rhA s0 xs pf pt).1), (.slice A9_0 ((rhA s0 xs pf pt).2.1).length c9_0)] 40] hS11
  have kx6b1_0 : w11.cell? ⟨g6b1, 0, none⟩ = some (.int .i64 (s0)) := kx6b1 0
  have kx6b1_1 : w11.cell? ⟨g6b1, 1, none⟩ = some ((.slice A6_0 (xs).length c6_0)) := kx6b1 1
  clear kx6b1
  obtain ⟨kx9_0b, -, lx9_0b, -⟩ := Hs.bx [rw_ (.slice A4_0 ((rhA s0 xs pf pt).2.1).length c4_0) ((rhA s0 xs pf pt).2.1), bx_ g4_0 #[.int .i64 ((rhA s0 xs pf pt).1), (.slice A4_0 ((rhA s0 xs pf pt).2.1).length c4_0)] 40, rw_ (.slice A6_0 (xs).length c6_0) (xs), bx_ g6b1 #[.int .i64 (s0), (.slice A6_0 (xs).length c6_0)] 40, rw_ (.slice A9_0 ((rhA s0 xs pf pt).2.1).length c9_0) ((rhA s0 xs pf pt).2.1)] [] hS11
  have kx9_0b_0 : w11.cell? ⟨g9_0, 0, none⟩ = some (.int .i64 ((rhA s0 xs pf pt).1)) := kx9_0b 0
  have kx9_0b_1 : w11.cell? ⟨g9_0, 1, none⟩ = some ((.slice A9_0 ((rhA s0 xs pf pt).2.1).length c9_0)) := kx9_0b 1
  clear kx9_0b
  go_wp2_with fail
  clear hc hf lz0 lz1 kx4_0b_0 kx4_0b_1 lx4_0b kx6b1_0 kx6b1_1 lx6b1 kx9_0b_0 kx9_0b_1 lx9_0b
  have j0 : w11.cell? ⟨g6b1, 0, none⟩ = some (.int .i64 (s0)) := (Hs.bx [rw_ (.slice A4_0 ((rhA s0 xs pf pt).2.1).length c4_0) ((rhA s0 xs pf pt).2.1), bx_ g4_0 #[.int .i64 ((rhA s0 xs pf pt).1), (.slice A4_0 ((rhA s0 xs pf pt).2.1).length c4_0)] 40, rw_ (.slice A6_0 (xs).length c6_0) (xs)] [rw_ (.slice A9_0 ((rhA s0 xs pf pt).2.1).length c9_0) ((rhA s0 xs pf pt).2.1), bx_ g9_0 #[.int .i64 ((rhA s0 xs pf pt).1), (.slice A9_0 ((rhA s0 xs pf pt).2.1).length c9_0)] 40] hS11).1 0
  have jl0 : g6b1 < w11.heap.size := block_lt_of_cell j0
  have j1 : w11.cell? ⟨g6b1, 1, none⟩ = some ((.slice A6_0 (xs).length c6_0)) := (Hs.bx [rw_ (.slice A4_0 ((rhA s0 xs pf pt).2.1).length c4_0) ((rhA s0 xs pf pt).2.1), bx_ g4_0 #[.int .i64 ((rhA s0 xs pf pt).1), (.slice A4_0 ((rhA s0 xs pf pt).2.1).length c4_0)] 40, rw_ (.slice A6_0 (xs).length c6_0) (xs)] [rw_ (.slice A9_0 ((rhA s0 xs pf pt).2.1).length c9_0) ((rhA s0 xs pf pt).2.1), bx_ g9_0 #[.int .i64 ((rhA s0 xs pf pt).1), (.slice A9_0 ((rhA s0 xs pf pt).2.1).length c9_0)] 40] hS11).1 1
  have jl1 : g6b1 < w11.heap.size := block_lt_of_cell j1
  have j2 : w11.cell? ⟨w.heap.size, 0, none⟩ = some (.int .i64 (s0)) := by rw [(bcell hb11).1 _ _ (by simp; try omega)]; first | (simp; done) | simp [World.cell?_alloc_lt]
  have jl2 : w.heap.size < w11.heap.size := block_lt_of_cell j2
  have j3 : w11.cell? ⟨w.heap.size, 1, none⟩ = some ((.slice A0 xs.length c0)) := by rw [(bcell hb11).1 _ _ (by simp; try omega)]; first | (simp; done) | simp [World.cell?_alloc_lt]
  have jl3 : w.heap.size < w11.heap.size := block_lt_of_cell j3
  have hBx := Nat.le_trans hB0 hb11.size
  have gx0 := g0.below hb11 hB0
  have sx4_0 : Sl w11 w11.heap.size (.slice A4_0 ((rhA s0 xs pf pt).2.1).length c4_0) ((rhA s0 xs pf pt).2.1) := Hs.rd [] [bx_ g4_0 #[.int .i64 ((rhA s0 xs pf pt).1), (.slice A4_0 ((rhA s0 xs pf pt).2.1).length c4_0)] 40, rw_ (.slice A6_0 (xs).length c6_0) (xs), bx_ g6b1 #[.int .i64 (s0), (.slice A6_0 (xs).length c6_0)] 40, rw_ (.slice A9_0 ((rhA s0 xs pf pt).2.1).length c9_0) ((rhA s0 xs pf pt).2.1), bx_ g9_0 #[.int .i64 ((rhA s0 xs pf pt).1), (.slice A9_0 ((rhA s0 xs pf pt).2.1).length c9_0)] 40] hS11
  have sx6_0 : Sl w11 w11.heap.size (.slice A6_0 (xs).length c6_0) (xs) := Hs.rd [rw_ (.slice A4_0 ((rhA s0 xs pf pt).2.1).length c4_0) ((rhA s0 xs pf pt).2.1), bx_ g4_0 #[.int .i64 ((rhA s0 xs pf pt).1), (.slice A4_0 ((rhA s0 xs pf pt).2.1).length c4_0)] 40] [bx_ g6b1 #[.int .i64 (s0), (.slice A6_0 (xs).length c6_0)] 40, rw_ (.slice A9_0 ((rhA s0 xs pf pt).2.1).length c9_0) ((rhA s0 xs pf pt).2.1), bx_ g9_0 #[.int .i64 ((rhA s0 xs pf pt).1), (.slice A9_0 ((rhA s0 xs pf pt).2.1).length c9_0)] 40] hS11
  have sx9_0 : Sl w11 w11.heap.size (.slice A9_0 ((rhA s0 xs pf pt).2.1).length c9_0) ((rhA s0 xs pf pt).2.1) := Hs.rd [rw_ (.slice A4_0 ((rhA s0 xs pf pt).2.1).length c4_0) ((rhA s0 xs pf pt).2.1), bx_ g4_0 #[.int .i64 ((rhA s0 xs pf pt).1), (.slice A4_0 ((rhA s0 xs pf pt).2.1).length c4_0)] 40, rw_ (.slice A6_0 (xs).length c6_0) (xs), bx_ g6b1 #[.int .i64 (s0), (.slice A6_0 (xs).length c6_0)] 40] [bx_ g9_0 #[.int .i64 ((rhA s0 xs pf pt).1), (.slice A9_0 ((rhA s0 xs pf pt).2.1).length c9_0)] 40] hS11
  have HK := Lib.hid (fun w' (hw : Below w11.heap.size w11 w') => show w'.cell? ⟨g6b1, 0, none⟩ = some (.int .i64 (s0)) ∧ w'.cell? ⟨g6b1, 1, none⟩ = some ((.slice A6_0 (xs).length c6_0)) ∧ w'.cell? ⟨w.heap.size, 0, none⟩ = some (.int .i64 (s0)) ∧ w'.cell? ⟨w.heap.size, 1, none⟩ = some ((.slice A0 xs.length c0)) ∧ Below w11.heap.size w11 w' from ⟨by rw [hw.cell (by simp only; omega)]; exact j0, by rw [hw.cell (by simp only; omega)]; exact j1, by rw [hw.cell (by simp only; omega)]; exact j2, by rw [hw.cell (by simp only; omega)]; exact j3, hw⟩)
  clear j0 jl0 j1 jl1 j2 jl2 j3 jl3
  go_region_held3 (fun w' => w'.cell? ⟨g6b1, 0, none⟩ = some (.int .i64 (s0)) ∧ w'.cell? ⟨g6b1, 1, none⟩ = some ((.slice A6_0 (xs).length c6_0)) ∧ w'.cell? ⟨w.heap.size, 0, none⟩ = some (.int .i64 (s0)) ∧ w'.cell? ⟨w.heap.size, 1, none⟩ = some ((.slice A0 xs.length c0)) ∧ Below w11.heap.size w11 w')
    (first | exact HK.out _ (by first | assumption | exact Below.refl _ _ | exact drewN_below _ _ _ | exact (Below.refl _ _).drew))
    (first
      | (go_at_call_of 27 (Go.Value.agg #[.int .i64 (s0), (.slice A0 xs.length c0)]); (refine (toBraid_any (s0) _ (xs) _ _ (gx0.below (by first | assumption | exact Below.refl _ _ | exact drewN_below _ _ _ | exact (Below.refl _ _).drew) hBx) (Nat.le_trans hBx (Below.size (w := w11) (B := w11.heap.size) (by first | assumption | exact Below.refl _ _ | exact drewN_below _ _ _ | exact (Below.refl _ _).drew))) (by omega)).mono ?_); rintro e w12 ⟨q12_0, rfl, ho12, hq⟩; have hr12 : Below w11.heap.size w11 w12 := Below.trans (by first | assumption | exact Below.refl _ _ | exact drewN_below _ _ _ | exact (Below.refl _ _).drew) (hq.mono (Below.size (w := w11) (B := w11.heap.size) (by first | assumption | exact Below.refl _ _ | exact drewN_below _ _ _ | exact (Below.refl _ _).drew))); have hS12 := hS11.join hr12 (hs_ow (w := w11) ho12 hr12); obtain ⟨A12_0, c12_0, rfl, -⟩ := id (ho12.sl (Nat.le_refl _)); have so12_0 := ho12.sl (Nat.le_refl _))
      | (go_at_call 30; (refine (eqBraid_yes (sx6_0.below (by first | assumption | exact Below.refl _ _ | exact drewN_below _ _ _ | exact (Below.refl _ _).drew) (Nat.le_refl _)) so12_0 (Below.size (w := w11) (B := w11.heap.size) (by first | assumption | exact Below.refl _ _ | exact drewN_below _ _ _ | exact (Below.refl _ _).drew)) (Nat.le_refl _)).mono ?_); rintro e w13 ⟨rfl, hq⟩; have hr13 : Below w11.heap.size w11 w13 := Below.trans (by first | assumption | exact Below.refl _ _ | exact drewN_below _ _ _ | exact (Below.refl _ _).drew) (hq.mono (Below.size (w := w11) (B := w11.heap.size) (by first | assumption | exact Below.refl _ _ | exact drewN_below _ _ _ | exact (Below.refl _ _).drew))); have so12_0 := (so12_0.below hq (Nat.le_refl _)).mono hq.size; have hS13 := hS12.below hq))
  have hb13 := hb11.trans (hr13.mono hb11.size)
  clear HK hBx gx0 sx4_0 sx6_0 sx9_0
  obtain ⟨hc, hf⟩ := bcell hb13
  have lz0 : w.heap.size < w13.heap.size := by have := hb13.size; simp at this; omega
  have lz1 : w.heap.size + 1 < w13.heap.size := by have := hb13.size; simp at this; omega
  obtain ⟨kx4_0b, -, lx4_0b, -⟩ := Hs.bx [rw_ (.slice A4_0 ((rhA s0 xs pf pt).2.1).length c4_0) ((rhA s0 xs pf pt).2.1)] [rw_ (.slice A6_0 (xs).length c6_0) (xs), bx_ g6b1 #[.int .i64 (s0), (.slice A6_0 (xs).length c6_0)] 40, rw_ (.slice A9_0 ((rhA s0 xs pf pt).2.1).length c9_0) ((rhA s0 xs pf pt).2.1), bx_ g9_0 #[.int .i64 ((rhA s0 xs pf pt).1), (.slice A9_0 ((rhA s0 xs pf pt).2.1).length c9_0)] 40, rw_ (.slice A12_0 (xs).length c12_0) (xs)] hS13
  have kx4_0b_0 : w13.cell? ⟨g4_0, 0, none⟩ = some (.int .i64 ((rhA s0 xs pf pt).1)) := kx4_0b 0
  have kx4_0b_1 : w13.cell? ⟨g4_0, 1, none⟩ = some ((.slice A4_0 ((rhA s0 xs pf pt).2.1).length c4_0)) := kx4_0b 1
  clear kx4_0b
  obtain ⟨kx6b1, -, lx6b1, -⟩ := Hs.bx [rw_ (.slice A4_0 ((rhA s0 xs pf pt).2.1).length c4_0) ((rhA s0 xs pf pt).2.1), bx_ g4_0 #[.int .i64 ((rhA s0 xs pf pt).1), (.slice A4_0 ((rhA s0 xs pf pt).2.1).length c4_0)] 40, rw_ (.slice A6_0 (xs).length c6_0) (xs)] [rw_ (.slice A9_0 ((rhA s0 xs pf pt).2.1).length c9_0) ((rhA s0 xs pf pt).2.1), bx_ g9_0 #[.int .i64 ((rhA s0 xs pf pt).1), (.slice A9_0 ((rhA s0 xs pf pt).2.1).length c9_0)] 40, rw_ (.slice A12_0 (xs).length c12_0) (xs)] hS13
  have kx6b1_0 : w13.cell? ⟨g6b1, 0, none⟩ = some (.int .i64 (s0)) := kx6b1 0
  have kx6b1_1 : w13.cell? ⟨g6b1, 1, none⟩ = some ((.slice A6_0 (xs).length c6_0)) := kx6b1 1
  clear kx6b1
  obtain ⟨kx9_0b, -, lx9_0b, -⟩ := Hs.bx [rw_ (.slice A4_0 ((rhA s0 xs pf pt).2.1).length c4_0) ((rhA s0 xs pf pt).2.1), bx_ g4_0 #[.int .i64 ((rhA s0 xs pf pt).1), (.slice A4_0 ((rhA s0 xs pf pt).2.1).length c4_0)] 40, rw_ (.slice A6_0 (xs).length c6_0) (xs), bx_ g6b1 #[.int .i64 (s0), (.slice A6_0 (xs).length c6_0)] 40, rw_ (.slice A9_0 ((rhA s0 xs pf pt).2.1).length c9_0) ((rhA s0 xs pf pt).2.1)] [rw_ (.slice A12_0 (xs).length c12_0) (xs)] hS13
  have kx9_0b_0 : w13.cell? ⟨g9_0, 0, none⟩ = some (.int .i64 ((rhA s0 xs pf pt).1)) := kx9_0b 0
  have kx9_0b_1 : w13.cell? ⟨g9_0, 1, none⟩ = some ((.slice A9_0 ((rhA s0 xs pf pt).2.1).length c9_0)) := kx9_0b 1
  clear kx9_0b
  go_wp2_with fail
  clear hc hf lz0 lz1 kx4_0b_0 kx4_0b_1 lx4_0b kx6b1_0 kx6b1_1 lx6b1 kx9_0b_0 kx9_0b_1 lx9_0b
  obtain ⟨lo14, hi14, hit, hle, hput⟩ := Hs.owAt [rw_ (.slice A4_0 ((rhA s0 xs pf pt).2.1).length c4_0) ((rhA s0 xs pf pt).2.1), bx_ g4_0 #[.int .i64 ((rhA s0 xs pf pt).1), (.slice A4_0 ((rhA s0 xs pf pt).2.1).length c4_0)] 40] (.slice A6_0 (xs).length c6_0) (xs) [bx_ g6b1 #[.int .i64 (s0), (.slice A6_0 (xs).length c6_0)] 40, rw_ (.slice A9_0 ((rhA s0 xs pf pt).2.1).length c9_0) ((rhA s0 xs pf pt).2.1), bx_ g9_0 #[.int .i64 ((rhA s0 xs pf pt).1), (.slice A9_0 ((rhA s0 xs pf pt).2.1).length c9_0)] 40, rw_ (.slice A12_0 (xs).length c12_0) (xs)] hS13
  have HPUT := Lib.hid hput
  clear hput
  refine (markBraid_any _ _ _ _ _ (1) _ hit hle (by omega) (by omega) (by omega)).mono ?_
  rintro e w14 ⟨rfl, hit2, hch⟩
  obtain ⟨hS14, hq⟩ := HPUT.out (countFrom (1) (xs).length) w14 hit2 hch
  have hb14 := hb13.trans hq
  clear hb13 hS13 HPUT hit hit2 hch hle hq
  obtain ⟨hc, hf⟩ := bcell hb14
  have lz0 : w.heap.size < w14.heap.size := by have := hb14.size; simp at this; omega
  have lz1 : w.heap.size + 1 < w14.heap.size := by have := hb14.size; simp at this; omega
  obtain ⟨kx4_0b, -, lx4_0b, -⟩ := Hs.bx [rw_ (.slice A4_0 ((rhA s0 xs pf pt).2.1).length c4_0) ((rhA s0 xs pf pt).2.1)] [rw_ (.slice A6_0 (xs).length c6_0) (countFrom (1) (xs).length), bx_ g6b1 #[.int .i64 (s0), (.slice A6_0 (xs).length c6_0)] 40, rw_ (.slice A9_0 ((rhA s0 xs pf pt).2.1).length c9_0) ((rhA s0 xs pf pt).2.1), bx_ g9_0 #[.int .i64 ((rhA s0 xs pf pt).1), (.slice A9_0 ((rhA s0 xs pf pt).2.1).length c9_0)] 40, rw_ (.slice A12_0 (xs).length c12_0) (xs)] hS14
  have kx4_0b_0 : w14.cell? ⟨g4_0, 0, none⟩ = some (.int .i64 ((rhA s0 xs pf pt).1)) := kx4_0b 0
  have kx4_0b_1 : w14.cell? ⟨g4_0, 1, none⟩ = some ((.slice A4_0 ((rhA s0 xs pf pt).2.1).length c4_0)) := kx4_0b 1
  clear kx4_0b
  obtain ⟨kx6b1, -, lx6b1, -⟩ := Hs.bx [rw_ (.slice A4_0 ((rhA s0 xs pf pt).2.1).length c4_0) ((rhA s0 xs pf pt).2.1), bx_ g4_0 #[.int .i64 ((rhA s0 xs pf pt).1), (.slice A4_0 ((rhA s0 xs pf pt).2.1).length c4_0)] 40, rw_ (.slice A6_0 (xs).length c6_0) (countFrom (1) (xs).length)] [rw_ (.slice A9_0 ((rhA s0 xs pf pt).2.1).length c9_0) ((rhA s0 xs pf pt).2.1), bx_ g9_0 #[.int .i64 ((rhA s0 xs pf pt).1), (.slice A9_0 ((rhA s0 xs pf pt).2.1).length c9_0)] 40, rw_ (.slice A12_0 (xs).length c12_0) (xs)] hS14
  have kx6b1_0 : w14.cell? ⟨g6b1, 0, none⟩ = some (.int .i64 (s0)) := kx6b1 0
  have kx6b1_1 : w14.cell? ⟨g6b1, 1, none⟩ = some ((.slice A6_0 (xs).length c6_0)) := kx6b1 1
  clear kx6b1
  obtain ⟨kx9_0b, -, lx9_0b, -⟩ := Hs.bx [rw_ (.slice A4_0 ((rhA s0 xs pf pt).2.1).length c4_0) ((rhA s0 xs pf pt).2.1), bx_ g4_0 #[.int .i64 ((rhA s0 xs pf pt).1), (.slice A4_0 ((rhA s0 xs pf pt).2.1).length c4_0)] 40, rw_ (.slice A6_0 (xs).length c6_0) (countFrom (1) (xs).length), bx_ g6b1 #[.int .i64 (s0), (.slice A6_0 (xs).length c6_0)] 40, rw_ (.slice A9_0 ((rhA s0 xs pf pt).2.1).length c9_0) ((rhA s0 xs pf pt).2.1)] [rw_ (.slice A12_0 (xs).length c12_0) (xs)] hS14
  have kx9_0b_0 : w14.cell? ⟨g9_0, 0, none⟩ = some (.int .i64 ((rhA s0 xs pf pt).1)) := kx9_0b 0
  have kx9_0b_1 : w14.cell? ⟨g9_0, 1, none⟩ = some ((.slice A9_0 ((rhA s0 xs pf pt).2.1).length c9_0)) := kx9_0b 1
  clear kx9_0b
  go_wp2_with fail
  clear hc hf lz0 lz1 kx4_0b_0 kx4_0b_1 lx4_0b kx6b1_0 kx6b1_1 lx6b1 kx9_0b_0 kx9_0b_1 lx9_0b
  refine (eqBraid_yes (Hs.rd [rw_ (.slice A4_0 ((rhA s0 xs pf pt).2.1).length c4_0) ((rhA s0 xs pf pt).2.1), bx_ g4_0 #[.int .i64 ((rhA s0 xs pf pt).1), (.slice A4_0 ((rhA s0 xs pf pt).2.1).length c4_0)] 40, rw_ (.slice A6_0 (xs).length c6_0) (countFrom (1) (xs).length), bx_ g6b1 #[.int .i64 (s0), (.slice A6_0 (xs).length c6_0)] 40] [bx_ g9_0 #[.int .i64 ((rhA s0 xs pf pt).1), (.slice A9_0 ((rhA s0 xs pf pt).2.1).length c9_0)] 40, rw_ (.slice A12_0 (xs).length c12_0) (xs)] hS14) (Hs.rd [] [bx_ g4_0 #[.int .i64 ((rhA s0 xs pf pt).1), (.slice A4_0 ((rhA s0 xs pf pt).2.1).length c4_0)] 40, rw_ (.slice A6_0 (xs).length c6_0) (countFrom (1) (xs).length), bx_ g6b1 #[.int .i64 (s0), (.slice A6_0 (xs).length c6_0)] 40, rw_ (.slice A9_0 ((rhA s0 xs pf pt).2.1).length c9_0) ((rhA s0 xs pf pt).2.1), bx_ g9_0 #[.int .i64 ((rhA s0 xs pf pt).1), (.slice A9_0 ((rhA s0 xs pf pt).2.1).length c9_0)] 40, rw_ (.slice A12_0 (xs).length c12_0) (xs)] hS14) (Nat.le_refl _) (Nat.le_refl _)).mono ?_
  rintro e w15 ⟨rfl, hq⟩
  have hb15 := hb14.trans (hq.mono hb14.size)
  have hS15 := hS14.below hq
  clear hb14 hS14 hq
  obtain ⟨hc, hf⟩ := bcell hb15
  have lz0 : w.heap.size < w15.heap.size := by have := hb15.size; simp at this; omega
  have lz1 : w.heap.size + 1 < w15.heap.size := by have := hb15.size; simp at this; omega
  obtain ⟨kx4_0b, -, lx4_0b, -⟩ := Hs.bx [rw_ (.slice A4_0 ((rhA s0 xs pf pt).2.1).length c4_0) ((rhA s0 xs pf pt).2.1)] [rw_ (.slice A6_0 (xs).length c6_0) (countFrom (1) (xs).length), bx_ g6b1 #[.int .i64 (s0), (.slice A6_0 (xs).length c6_0)] 40, rw_ (.slice A9_0 ((rhA s0 xs pf pt).2.1).length c9_0) ((rhA s0 xs pf pt).2.1), bx_ g9_0 #[.int .i64 ((rhA s0 xs pf pt).1), (.slice A9_0 ((rhA s0 xs pf pt).2.1).length c9_0)] 40, rw_ (.slice A12_0 (xs).length c12_0) (xs)] hS15
  have kx4_0b_0 : w15.cell? ⟨g4_0, 0, none⟩ = some (.int .i64 ((rhA s0 xs pf pt).1)) := kx4_0b 0
  have kx4_0b_1 : w15.cell? ⟨g4_0, 1, none⟩ = some ((.slice A4_0 ((rhA s0 xs pf pt).2.1).length c4_0)) := kx4_0b 1
  clear kx4_0b
  obtain ⟨kx6b1, -, lx6b1, -⟩ := Hs.bx [rw_ (.slice A4_0 ((rhA s0 xs pf pt).2.1).length c4_0) ((rhA s0 xs pf pt).2.1), bx_ g4_0 #[.int .i64 ((rhA s0 xs pf pt).1), (.slice A4_0 ((rhA s0 xs pf pt).2.1).length c4_0)] 40, rw_ (.slice A6_0 (xs).length c6_0) (countFrom (1) (xs).length)] [rw_ (.slice A9_0 ((rhA s0 xs pf pt).2.1).length c9_0) ((rhA s0 xs pf pt).2.1), bx_ g9_0 #[.int .i64 ((rhA s0 xs pf pt).1), (.slice A9_0 ((rhA s0 xs pf pt).2.1).length c9_0)] 40, rw_ (.slice A12_0 (xs).length c12_0) (xs)] hS15
  have kx6b1_0 : w15.cell? ⟨g6b1, 0, none⟩ = some (.int .i64 (s0)) := kx6b1 0
  have kx6b1_1 : w15.cell? ⟨g6b1, 1, none⟩ = some ((.slice A6_0 (xs).length c6_0)) := kx6b1 1
  clear kx6b1
  obtain ⟨kx9_0b, -, lx9_0b, -⟩ := Hs.bx [rw_ (.slice A4_0 ((rhA s0 xs pf pt).2.1).length c4_0) ((rhA s0 xs pf pt).2.1), bx_ g4_0 #[.int .i64 ((rhA s0 xs pf pt).1), (.slice A4_0 ((rhA s0 xs pf pt).2.1).length c4_0)] 40, rw_ (.slice A6_0 (xs).length c6_0) (countFrom (1) (xs).length), bx_ g6b1 #[.int .i64 (s0), (.slice A6_0 (xs).length c6_0)] 40, rw_ (.slice A9_0 ((rhA s0 xs pf pt).2.1).length c9_0) ((rhA s0 xs pf pt).2.1)] [rw_ (.slice A12_0 (xs).length c12_0) (xs)] hS15
  have kx9_0b_0 : w15.cell? ⟨g9_0, 0, none⟩ = some (.int .i64 ((rhA s0 xs pf pt).1)) := kx9_0b 0
  have kx9_0b_1 : w15.cell? ⟨g9_0, 1, none⟩ = some ((.slice A9_0 ((rhA s0 xs pf pt).2.1).length c9_0)) := kx9_0b 1
  clear kx9_0b
  go_wp2_with fail
  clear hc hf lz0 lz1 kx4_0b_0 kx4_0b_1 lx4_0b kx6b1_0 kx6b1_1 lx6b1 kx9_0b_0 kx9_0b_1 lx9_0b
  obtain ⟨lo16, hi16, hit, hle, hput⟩ := Hs.owAt [rw_ (.slice A4_0 ((rhA s0 xs pf pt).2.1).length c4_0) ((rhA s0 xs pf pt).2.1), bx_ g4_0 #[.int .i64 ((rhA s0 xs pf pt).1), (.slice A4_0 ((rhA s0 xs pf pt).2.1).length c4_0)] 40, rw_ (.slice A6_0 (xs).length c6_0) (countFrom (1) (xs).length), bx_ g6b1 #[.int .i64 (s0), (.slice A6_0 (xs).length c6_0)] 40] (.slice A9_0 ((rhA s0 xs pf pt).2.1).length c9_0) ((rhA s0 xs pf pt).2.1) [bx_ g9_0 #[.int .i64 ((rhA s0 xs pf pt).1), (.slice A9_0 ((rhA s0 xs pf pt).2.1).length c9_0)] 40, rw_ (.slice A12_0 (xs).length c12_0) (xs)] hS15
  have HPUT := Lib.hid hput
  clear hput
  refine (markBraid_any _ _ _ _ _ (1) _ hit hle (by omega) (by omega) (by omega)).mono ?_
  rintro e w16 ⟨rfl, hit2, hch⟩
  obtain ⟨hS16, hq⟩ := HPUT.out (countFrom (1) ((rhA s0 xs pf pt).2.1).length) w16 hit2 hch
  have hb16 := hb15.trans hq
  clear hb15 hS15 HPUT hit hit2 hch hle hq
  obtain ⟨hc, hf⟩ := bcell hb16
  have lz0 : w.heap.size < w16.heap.size := by have := hb16.size; simp at this; omega
  have lz1 : w.heap.size + 1 < w16.heap.size := by have := hb16.size; simp at this; omega
  obtain ⟨kx4_0b, -, lx4_0b, -⟩ := Hs.bx [rw_ (.slice A4_0 ((rhA s0 xs pf pt).2.1).length c4_0) ((rhA s0 xs pf pt).2.1)] [rw_ (.slice A6_0 (xs).length c6_0) (countFrom (1) (xs).length), bx_ g6b1 #[.int .i64 (s0), (.slice A6_0 (xs).length c6_0)] 40, rw_ (.slice A9_0 ((rhA s0 xs pf pt).2.1).length c9_0) (countFrom (1) ((rhA s0 xs pf pt).2.1).length), bx_ g9_0 #[.int .i64 ((rhA s0 xs pf pt).1), (.slice A9_0 ((rhA s0 xs pf pt).2.1).length c9_0)] 40, rw_ (.slice A12_0 (xs).length c12_0) (xs)] hS16
  have kx4_0b_0 : w16.cell? ⟨g4_0, 0, none⟩ = some (.int .i64 ((rhA s0 xs pf pt).1)) := kx4_0b 0
  have kx4_0b_1 : w16.cell? ⟨g4_0, 1, none⟩ = some ((.slice A4_0 ((rhA s0 xs pf pt).2.1).length c4_0)) := kx4_0b 1
  clear kx4_0b
  obtain ⟨kx6b1, -, lx6b1, -⟩ := Hs.bx [rw_ (.slice A4_0 ((rhA s0 xs pf pt).2.1).length c4_0) ((rhA s0 xs pf pt).2.1), bx_ g4_0 #[.int .i64 ((rhA s0 xs pf pt).1), (.slice A4_0 ((rhA s0 xs pf pt).2.1).length c4_0)] 40, rw_ (.slice A6_0 (xs).length c6_0) (countFrom (1) (xs).length)] [rw_ (.slice A9_0 ((rhA s0 xs pf pt).2.1).length c9_0) (countFrom (1) ((rhA s0 xs pf pt).2.1).length), bx_ g9_0 #[.int .i64 ((rhA s0 xs pf pt).1), (.slice A9_0 ((rhA s0 xs pf pt).2.1).length c9_0)] 40, rw_ (.slice A12_0 (xs).length c12_0) (xs)] hS16
  have kx6b1_0 : w16.cell? ⟨g6b1, 0, none⟩ = some (.int .i64 (s0)) := kx6b1 0
  have kx6b1_1 : w16.cell? ⟨g6b1, 1, none⟩ = some ((.slice A6_0 (xs).length c6_0)) := kx6b1 1
  clear kx6b1
  obtain ⟨kx9_0b, -, lx9_0b, -⟩ := Hs.bx [rw_ (.slice A4_0 ((rhA s0 xs pf pt).2.1).length c4_0) ((rhA s0 xs pf pt).2.1), bx_ g4_0 #[.int .i64 ((rhA s0 xs pf pt).1), (.slice A4_0 ((rhA s0 xs pf pt).2.1).length c4_0)] 40, rw_ (.slice A6_0 (xs).length c6_0) (countFrom (1) (xs).length), bx_ g6b1 #[.int .i64 (s0), (.slice A6_0 (xs).length c6_0)] 40, rw_ (.slice A9_0 ((rhA s0 xs pf pt).2.1).length c9_0) (countFrom (1) ((rhA s0 xs pf pt).2.1).length)] [rw_ (.slice A12_0 (xs).length c12_0) (xs)] hS16
  have kx9_0b_0 : w16.cell? ⟨g9_0, 0, none⟩ = some (.int .i64 ((rhA s0 xs pf pt).1)) := kx9_0b 0
  have kx9_0b_1 : w16.cell? ⟨g9_0, 1, none⟩ = some ((.slice A9_0 ((rhA s0 xs pf pt).2.1).length c9_0)) := kx9_0b 1
  clear kx9_0b
  go_wp2_with fail
  clear hc hf lz0 lz1 kx4_0b_0 kx4_0b_1 lx4_0b kx6b1_0 kx6b1_1 lx6b1 kx9_0b_0 kx9_0b_1 lx9_0b
  refine (heldBraid_any (Hs.rd [rw_ (.slice A4_0 ((rhA s0 xs pf pt).2.1).length c4_0) ((rhA s0 xs pf pt).2.1), bx_ g4_0 #[.int .i64 ((rhA s0 xs pf pt).1), (.slice A4_0 ((rhA s0 xs pf pt).2.1).length c4_0)] 40, rw_ (.slice A6_0 (xs).length c6_0) (countFrom (1) (xs).length), bx_ g6b1 #[.int .i64 (s0), (.slice A6_0 (xs).length c6_0)] 40] [bx_ g9_0 #[.int .i64 ((rhA s0 xs pf pt).1), (.slice A9_0 ((rhA s0 xs pf pt).2.1).length c9_0)] 40, rw_ (.slice A12_0 (xs).length c12_0) (xs)] hS16) (Nat.le_refl _) (by omega) (by omega) (by omega)).mono ?_
  rintro e w17 ⟨rfl, hq⟩
  have hb17 := hb16.trans (hq.mono hb16.size)
  have hS17 := hS16.below hq
  clear hb16 hS16 hq
  obtain ⟨hc, hf⟩ := bcell hb17
  have lz0 : w.heap.size < w17.heap.size := by have := hb17.size; simp at this; omega
  have lz1 : w.heap.size + 1 < w17.heap.size := by have := hb17.size; simp at this; omega
  obtain ⟨kx4_0b, -, lx4_0b, -⟩ := Hs.bx [rw_ (.slice A4_0 ((rhA s0 xs pf pt).2.1).length c4_0) ((rhA s0 xs pf pt).2.1)] [rw_ (.slice A6_0 (xs).length c6_0) (countFrom (1) (xs).length), bx_ g6b1 #[.int .i64 (s0), (.slice A6_0 (xs).length c6_0)] 40, rw_ (.slice A9_0 ((rhA s0 xs pf pt).2.1).length c9_0) (countFrom (1) ((rhA s0 xs pf pt).2.1).length), bx_ g9_0 #[.int .i64 ((rhA s0 xs pf pt).1), (.slice A9_0 ((rhA s0 xs pf pt).2.1).length c9_0)] 40, rw_ (.slice A12_0 (xs).length c12_0) (xs)] hS17
  have kx4_0b_0 : w17.cell? ⟨g4_0, 0, none⟩ = some (.int .i64 ((rhA s0 xs pf pt).1)) := kx4_0b 0
  have kx4_0b_1 : w17.cell? ⟨g4_0, 1, none⟩ = some ((.slice A4_0 ((rhA s0 xs pf pt).2.1).length c4_0)) := kx4_0b 1
  clear kx4_0b
  obtain ⟨kx6b1, -, lx6b1, -⟩ := Hs.bx [rw_ (.slice A4_0 ((rhA s0 xs pf pt).2.1).length c4_0) ((rhA s0 xs pf pt).2.1), bx_ g4_0 #[.int .i64 ((rhA s0 xs pf pt).1), (.slice A4_0 ((rhA s0 xs pf pt).2.1).length c4_0)] 40, rw_ (.slice A6_0 (xs).length c6_0) (countFrom (1) (xs).length)] [rw_ (.slice A9_0 ((rhA s0 xs pf pt).2.1).length c9_0) (countFrom (1) ((rhA s0 xs pf pt).2.1).length), bx_ g9_0 #[.int .i64 ((rhA s0 xs pf pt).1), (.slice A9_0 ((rhA s0 xs pf pt).2.1).length c9_0)] 40, rw_ (.slice A12_0 (xs).length c12_0) (xs)] hS17
  have kx6b1_0 : w17.cell? ⟨g6b1, 0, none⟩ = some (.int .i64 (s0)) := kx6b1 0
  have kx6b1_1 : w17.cell? ⟨g6b1, 1, none⟩ = some ((.slice A6_0 (xs).length c6_0)) := kx6b1 1
  clear kx6b1
  obtain ⟨kx9_0b, -, lx9_0b, -⟩ := Hs.bx [rw_ (.slice A4_0 ((rhA s0 xs pf pt).2.1).length c4_0) ((rhA s0 xs pf pt).2.1), bx_ g4_0 #[.int .i64 ((rhA s0 xs pf pt).1), (.slice A4_0 ((rhA s0 xs pf pt).2.1).length c4_0)] 40, rw_ (.slice A6_0 (xs).length c6_0) (countFrom (1) (xs).length), bx_ g6b1 #[.int .i64 (s0), (.slice A6_0 (xs).length c6_0)] 40, rw_ (.slice A9_0 ((rhA s0 xs pf pt).2.1).length c9_0) (countFrom (1) ((rhA s0 xs pf pt).2.1).length)] [rw_ (.slice A12_0 (xs).length c12_0) (xs)] hS17
  have kx9_0b_0 : w17.cell? ⟨g9_0, 0, none⟩ = some (.int .i64 ((rhA s0 xs pf pt).1)) := kx9_0b 0
  have kx9_0b_1 : w17.cell? ⟨g9_0, 1, none⟩ = some ((.slice A9_0 ((rhA s0 xs pf pt).2.1).length c9_0)) := kx9_0b 1
  clear kx9_0b
  go_upto_region 24 with fail
  clear hc hf lz0 lz1 kx4_0b_0 kx4_0b_1 lx4_0b kx6b1_0 kx6b1_1 lx6b1 kx9_0b_0 kx9_0b_1 lx9_0b
  go_cut [14, 15] (fun s14 s15 wx => ∃ (g20_0 : Nat) (A20_0 : Option Addr) (c20_0 : Nat), s14 = .pointer (some ⟨g20_0, 0, none⟩) ∧ s15 = .int .i64 ((rhA s0 xs pf pt).2.2) ∧ Below ((w.alloc (.cells #[.int .i64 (s0), (.slice A0 xs.length c0)] 35)).alloc (.cells #[.int .i64 (pf), .int .i64 (pt)] 37)).heap.size ((w.alloc (.cells #[.int .i64 (s0), (.slice A0 xs.length c0)] 35)).alloc (.cells #[.int .i64 (pf), .int .i64 (pt)] 37)) wx ∧ Hs wx ((w.alloc (.cells #[.int .i64 (s0), (.slice A0 xs.length c0)] 35)).alloc (.cells #[.int .i64 (pf), .int .i64 (pt)] 37)).heap.size [rw_ (.slice A4_0 ((rhA s0 xs pf pt).2.1).length c4_0) ((rhA s0 xs pf pt).2.1), bx_ g4_0 #[.int .i64 ((rhA s0 xs pf pt).1), (.slice A4_0 ((rhA s0 xs pf pt).2.1).length c4_0)] 40, rw_ (.slice A6_0 (xs).length c6_0) (countFrom (1) (xs).length), bx_ g6b1 #[.int .i64 (s0), (.slice A6_0 (xs).length c6_0)] 40, rw_ (.slice A9_0 ((rhA s0 xs pf pt).2.1).length c9_0) (countFrom (1) ((rhA s0 xs pf pt).2.1).length), bx_ g9_0 #[.int .i64 ((rhA s0 xs pf pt).1), (.slice A9_0 ((rhA s0 xs pf pt).2.1).length c9_0)] 40, rw_ (.slice A12_0 (xs).length c12_0) (xs), rw_ (.slice A20_0 ((rhA s0 xs pf pt).2.1).length c20_0) ((rhA s0 xs pf pt).2.1), bx_ g20_0 #[.int .i64 ((rhA s0 xs pf pt).1), (.slice A20_0 ((rhA s0 xs pf pt).2.1).length c20_0)] 40])
  case first =>
    have j0 : w17.cell? ⟨w.heap.size, 0, none⟩ = some (.int .i64 (s0)) := by rw [(bcell hb17).1 _ _ (by simp; try omega)]; first | (simp; done) | simp [World.cell?_alloc_lt]
    have jl0 : w.heap.size < w17.heap.size := block_lt_of_cell j0
    have j1 : w17.cell? ⟨w.heap.size, 1, none⟩ = some ((.slice A0 xs.length c0)) := by rw [(bcell hb17).1 _ _ (by simp; try omega)]; first | (simp; done) | simp [World.cell?_alloc_lt]
    have jl1 : w.heap.size < w17.heap.size := block_lt_of_cell j1
    have j2 : w17.cell? ⟨w.heap.size + 1, 0, none⟩ = some (.int .i64 (pf)) := by rw [(bcell hb17).1 _ _ (by simp; try omega)]; first | (simp; done) | simp [World.cell?_alloc_lt]
    have jl2 : w.heap.size + 1 < w17.heap.size := block_lt_of_cell j2
    have j3 : w17.cell? ⟨w.heap.size + 1, 1, none⟩ = some (.int .i64 (pt)) := by rw [(bcell hb17).1 _ _ (by simp; try omega)]; first | (simp; done) | simp [World.cell?_alloc_lt]
    have jl3 : w.heap.size + 1 < w17.heap.size := block_lt_of_cell j3
    have hBx := Nat.le_trans hB0 hb17.size
    have gx0 := g0.below hb17 hB0
    have sx4_0 : Sl w17 w17.heap.size (.slice A4_0 ((rhA s0 xs pf pt).2.1).length c4_0) ((rhA s0 xs pf pt).2.1) := Hs.rd [] [bx_ g4_0 #[.int .i64 ((rhA s0 xs pf pt).1), (.slice A4_0 ((rhA s0 xs pf pt).2.1).length c4_0)] 40, rw_ (.slice A6_0 (xs).length c6_0) (countFrom (1) (xs).length), bx_ g6b1 #[.int .i64 (s0), (.slice A6_0 (xs).length c6_0)] 40, rw_ (.slice A9_0 ((rhA s0 xs pf pt).2.1).length c9_0) (countFrom (1) ((rhA s0 xs pf pt).2.1).length), bx_ g9_0 #[.int .i64 ((rhA s0 xs pf pt).1), (.slice A9_0 ((rhA s0 xs pf pt).2.1).length c9_0)] 40, rw_ (.slice A12_0 (xs).length c12_0) (xs)] hS17
    have sx6_0 : Sl w17 w17.heap.size (.slice A6_0 (xs).length c6_0) (countFrom (1) (xs).length) := Hs.rd [rw_ (.slice A4_0 ((rhA s0 xs pf pt).2.1).length c4_0) ((rhA s0 xs pf pt).2.1), bx_ g4_0 #[.int .i64 ((rhA s0 xs pf pt).1), (.slice A4_0 ((rhA s0 xs pf pt).2.1).length c4_0)] 40] [bx_ g6b1 #[.int .i64 (s0), (.slice A6_0 (xs).length c6_0)] 40, rw_ (.slice A9_0 ((rhA s0 xs pf pt).2.1).length c9_0) (countFrom (1) ((rhA s0 xs pf pt).2.1).length), bx_ g9_0 #[.int .i64 ((rhA s0 xs pf pt).1), (.slice A9_0 ((rhA s0 xs pf pt).2.1).length c9_0)] 40, rw_ (.slice A12_0 (xs).length c12_0) (xs)] hS17
    have sx9_0 : Sl w17 w17.heap.size (.slice A9_0 ((rhA s0 xs pf pt).2.1).length c9_0) (countFrom (1) ((rhA s0 xs pf pt).2.1).length) := Hs.rd [rw_ (.slice A4_0 ((rhA s0 xs pf pt).2.1).length c4_0) ((rhA s0 xs pf pt).2.1), bx_ g4_0 #[.int .i64 ((rhA s0 xs pf pt).1), (.slice A4_0 ((rhA s0 xs pf pt).2.1).length c4_0)] 40, rw_ (.slice A6_0 (xs).length c6_0) (countFrom (1) (xs).length), bx_ g6b1 #[.int .i64 (s0), (.slice A6_0 (xs).length c6_0)] 40] [bx_ g9_0 #[.int .i64 ((rhA s0 xs pf pt).1), (.slice A9_0 ((rhA s0 xs pf pt).2.1).length c9_0)] 40, rw_ (.slice A12_0 (xs).length c12_0) (xs)] hS17
    have sx12_0 : Sl w17 w17.heap.size (.slice A12_0 (xs).length c12_0) (xs) := Hs.rd [rw_ (.slice A4_0 ((rhA s0 xs pf pt).2.1).length c4_0) ((rhA s0 xs pf pt).2.1), bx_ g4_0 #[.int .i64 ((rhA s0 xs pf pt).1), (.slice A4_0 ((rhA s0 xs pf pt).2.1).length c4_0)] 40, rw_ (.slice A6_0 (xs).length c6_0) (countFrom (1) (xs).length), bx_ g6b1 #[.int .i64 (s0), (.slice A6_0 (xs).length c6_0)] 40, rw_ (.slice A9_0 ((rhA s0 xs pf pt).2.1).length c9_0) (countFrom (1) ((rhA s0 xs pf pt).2.1).length), bx_ g9_0 #[.int .i64 ((rhA s0 xs pf pt).1), (.slice A9_0 ((rhA s0 xs pf pt).2.1).length c9_0)] 40] [] hS17
    have HK := Lib.hid (fun w' (hw : Below w17.heap.size w17 w') => show w'.cell? ⟨w.heap.size, 0, none⟩ = some (.int .i64 (s0)) ∧ w'.cell? ⟨w.heap.size, 1, none⟩ = some ((.slice A0 xs.length c0)) ∧ w'.cell? ⟨w.heap.size + 1, 0, none⟩ = some (.int .i64 (pf)) ∧ w'.cell? ⟨w.heap.size + 1, 1, none⟩ = some (.int .i64 (pt)) ∧ Below w17.heap.size w17 w' from ⟨by rw [hw.cell (by simp only; omega)]; exact j0, by rw [hw.cell (by simp only; omega)]; exact j1, by rw [hw.cell (by simp only; omega)]; exact j2, by rw [hw.cell (by simp only; omega)]; exact j3, hw⟩)
    clear j0 jl0 j1 jl1 j2 jl2 j3 jl3
    go_region_held3 (fun w' => w'.cell? ⟨w.heap.size, 0, none⟩ = some (.int .i64 (s0)) ∧ w'.cell? ⟨w.heap.size, 1, none⟩ = some ((.slice A0 xs.length c0)) ∧ w'.cell? ⟨w.heap.size + 1, 0, none⟩ = some (.int .i64 (pf)) ∧ w'.cell? ⟨w.heap.size + 1, 1, none⟩ = some (.int .i64 (pt)) ∧ Below w17.heap.size w17 w')
      (exact HK.out _ (by go_grown))
      (first
        | (go_at_call_of 27 (Go.Value.agg #[.int .i64 (s0), (.slice A0 xs.length c0)]); (refine (toBraid_any (s0) _ (xs) _ _ (gx0.below (show Below w17.heap.size w17 _ by go_grown) hBx) (Nat.le_trans hBx (Below.size (w := w17) (B := w17.heap.size) (by go_grown))) (by omega)).mono ?_); rintro e w18 ⟨q18_0, rfl, ho18, hq⟩; have hr18 : Below w17.heap.size w17 w18 := Below.trans (show Below w17.heap.size w17 _ by go_grown) (hq.mono (Below.size (w := w17) (B := w17.heap.size) (by go_grown))); have hz18 := hr18.size; have hq18 := hq; clear hq; (first | (have dz18 := alloc_fwd hq18) | (have dz18 := alloc_fwd_drew hq18) | (have dz18 := alloc_fwd_in hq18) | (have dz18 := alloc_fwd_drewN hq18) | (have dz18 := keep_fwd hq18 dz0) | skip); (first | (have hbx := box2 dz18; obtain ⟨d18a, d18b, d18c, d18d, d18e⟩ := hbx) | skip); obtain ⟨A18_0, c18_0, rfl, -⟩ := id (ho18.sl (Nat.le_refl _)); have so18_0 := ho18.sl (Nat.le_refl _))
        | (go_at_call_of 28 (Go.Value.agg #[.int .i64 (pf), .int .i64 (pt)]); (refine (toHandle_any (pf) (pt) _).mono ?_); rintro e w19 ⟨rfl, hq⟩; have hr19 : Below w17.heap.size w17 w19 := Below.trans (show Below w17.heap.size w17 _ by go_grown) (hq.mono (Below.size (w := w17) (B := w17.heap.size) (by go_grown))); have hz19 := hr19.size; have hq19 := hq; clear hq; have so18_0 := (so18_0.below (Below.trans (show Below w18.heap.size w18 _ by go_grown) (hq19.mono (Below.size (w := w18) (B := w18.heap.size) (by go_grown)))) (Nat.le_refl _)).mono (Below.size (w := w18) (B := w18.heap.size) (Below.trans (show Below w18.heap.size w18 _ by go_grown) (hq19.mono (Below.size (w := w18) (B := w18.heap.size) (by go_grown))))); (first | (have dz19 := alloc_fwd hq19) | (have dz19 := alloc_fwd_drew hq19) | (have dz19 := alloc_fwd_in hq19) | (have dz19 := alloc_fwd_drewN hq19) | (have dz19 := keep_fwd hq19 dz18) | skip); (first | (have hbx := box2 dz19; obtain ⟨d19a, d19b, d19c, d19d, d19e⟩ := hbx) | skip))
        | (go_at_call 37; (refine (impl_ReduceHandle_any _ _ _ _ xs _ _ (so18_0.below (show Below w19.heap.size w19 _ by go_grown) (Nat.le_refl _)) (Below.size (w := w19) (B := w19.heap.size) (by go_grown)) bf1).mono ?_); rintro e w20 ⟨q20_0, rfl, ho20, hq⟩; have hr20 : Below w17.heap.size w17 w20 := Below.trans (show Below w17.heap.size w17 _ by go_grown) (hq.mono (Below.size (w := w17) (B := w17.heap.size) (by go_grown))); have hz20 := hr20.size; have hq20 := hq; clear hq; have so18_0 := (so18_0.below (Below.trans (show Below w19.heap.size w19 _ by go_grown) (hq20.mono (Below.size (w := w19) (B := w19.heap.size) (by go_grown)))) (Nat.le_refl _)).mono (Below.size (w := w19) (B := w19.heap.size) (Below.trans (show Below w19.heap.size w19 _ by go_grown) (hq20.mono (Below.size (w := w19) (B := w19.heap.size) (by go_grown))))); (first | (have dz20 := alloc_fwd hq20) | (have dz20 := alloc_fwd_drew hq20) | (have dz20 := alloc_fwd_in hq20) | (have dz20 := alloc_fwd_drewN hq20) | (have dz20 := keep_fwd hq20 dz19) | skip); (first | (have hbx := box2 dz20; obtain ⟨d20a, d20b, d20c, d20d, d20e⟩ := hbx) | skip); obtain ⟨A20_0, c20_0, rfl, -⟩ := id (ho20.sl (Nat.le_refl _))))
    · skip
      have hSa := (hS17.join hr20 (hs_ow (w := w17) (ho20.mono (by first | exact hz19 | (simp; omega) | simp | exact Nat.le_refl _) (Nat.le_refl _)) hr20)).join (al1 _ _) (hs_bx w20 #[.int .i64 ((rhA s0 xs pf pt).1), (.slice A20_0 ((rhA s0 xs pf pt).2.1).length c20_0)] 40)
      have hba := hb17.trans ((hr20.trans ((al1 w20 (.cells #[.int .i64 ((rhA s0 xs pf pt).1), (.slice A20_0 ((rhA s0 xs pf pt).2.1).length c20_0)] 40)).mono hz20)).mono hb17.size)
      go_wp2_with fail
      go_meet
      exact ⟨_, _, _, rfl, rfl, hba, hSa⟩
    · skip
      have hSa := ((hS17.join hr20 (hs_row_box hr20 (ho20.mono (by first | (simp; done) | exact Nat.le_refl _) (Nat.le_refl _)) (hz19) (heap_lt dz20) dz20)).setBx [rw_ (.slice A4_0 ((rhA s0 xs pf pt).2.1).length c4_0) ((rhA s0 xs pf pt).2.1), bx_ g4_0 #[.int .i64 ((rhA s0 xs pf pt).1), (.slice A4_0 ((rhA s0 xs pf pt).2.1).length c4_0)] 40, rw_ (.slice A6_0 (xs).length c6_0) (countFrom (1) (xs).length), bx_ g6b1 #[.int .i64 (s0), (.slice A6_0 (xs).length c6_0)] 40, rw_ (.slice A9_0 ((rhA s0 xs pf pt).2.1).length c9_0) (countFrom (1) ((rhA s0 xs pf pt).2.1).length), bx_ g9_0 #[.int .i64 ((rhA s0 xs pf pt).1), (.slice A9_0 ((rhA s0 xs pf pt).2.1).length c9_0)] 40, rw_ (.slice A12_0 (xs).length c12_0) (xs), rw_ (.slice A20_0 ((rhA s0 xs pf pt).2.1).length c20_0) ((rhA s0 xs pf pt).2.1)] [] 0 (.int .i64 ((rhA s0 xs pf pt).1)))
      have hSa := Hs.setBx [rw_ (.slice A4_0 ((rhA s0 xs pf pt).2.1).length c4_0) ((rhA s0 xs pf pt).2.1), bx_ g4_0 #[.int .i64 ((rhA s0 xs pf pt).1), (.slice A4_0 ((rhA s0 xs pf pt).2.1).length c4_0)] 40, rw_ (.slice A6_0 (xs).length c6_0) (countFrom (1) (xs).length), bx_ g6b1 #[.int .i64 (s0), (.slice A6_0 (xs).length c6_0)] 40, rw_ (.slice A9_0 ((rhA s0 xs pf pt).2.1).length c9_0) (countFrom (1) ((rhA s0 xs pf pt).2.1).length), bx_ g9_0 #[.int .i64 ((rhA s0 xs pf pt).1), (.slice A9_0 ((rhA s0 xs pf pt).2.1).length c9_0)] 40, rw_ (.slice A12_0 (xs).length c12_0) (xs), rw_ (.slice A20_0 ((rhA s0 xs pf pt).2.1).length c20_0) ((rhA s0 xs pf pt).2.1)] [] hSa 1 ((.slice A20_0 ((rhA s0 xs pf pt).2.1).length c20_0))
      have hba := hb17.trans ((show Below w17.heap.size w17 _ from (set_below (p := ⟨w19.heap.size, 1, none⟩) (x := (.slice A20_0 ((rhA s0 xs pf pt).2.1).length c20_0)) (hz19) (set_below (p := ⟨w19.heap.size, 0, none⟩) (x := .int .i64 ((rhA s0 xs pf pt).1)) (hz19) hr20))).mono hb17.size)
      go_wp2_with fail
      go_meet
      exact ⟨_, _, _, rfl, rfl, hba, hSa⟩
    · skip
      have hSa := ((hS17.join hr20 (hs_row_box hr20 (ho20.mono (heap_lt dz19) (Nat.le_refl _)) (hz18) (heap_lt dz20) dz20)).setBx [rw_ (.slice A4_0 ((rhA s0 xs pf pt).2.1).length c4_0) ((rhA s0 xs pf pt).2.1), bx_ g4_0 #[.int .i64 ((rhA s0 xs pf pt).1), (.slice A4_0 ((rhA s0 xs pf pt).2.1).length c4_0)] 40, rw_ (.slice A6_0 (xs).length c6_0) (countFrom (1) (xs).length), bx_ g6b1 #[.int .i64 (s0), (.slice A6_0 (xs).length c6_0)] 40, rw_ (.slice A9_0 ((rhA s0 xs pf pt).2.1).length c9_0) (countFrom (1) ((rhA s0 xs pf pt).2.1).length), bx_ g9_0 #[.int .i64 ((rhA s0 xs pf pt).1), (.slice A9_0 ((rhA s0 xs pf pt).2.1).length c9_0)] 40, rw_ (.slice A12_0 (xs).length c12_0) (xs), rw_ (.slice A20_0 ((rhA s0 xs pf pt).2.1).length c20_0) ((rhA s0 xs pf pt).2.1)] [] 0 (.int .i64 ((rhA s0 xs pf pt).1)))
      have hSa := Hs.setBx [rw_ (.slice A4_0 ((rhA s0 xs pf pt).2.1).length c4_0) ((rhA s0 xs pf pt).2.1), bx_ g4_0 #[.int .i64 ((rhA s0 xs pf pt).1), (.slice A4_0 ((rhA s0 xs pf pt).2.1).length c4_0)] 40, rw_ (.slice A6_0 (xs).length c6_0) (countFrom (1) (xs).length), bx_ g6b1 #[.int .i64 (s0), (.slice A6_0 (xs).length c6_0)] 40, rw_ (.slice A9_0 ((rhA s0 xs pf pt).2.1).length c9_0) (countFrom (1) ((rhA s0 xs pf pt).2.1).length), bx_ g9_0 #[.int .i64 ((rhA s0 xs pf pt).1), (.slice A9_0 ((rhA s0 xs pf pt).2.1).length c9_0)] 40, rw_ (.slice A12_0 (xs).length c12_0) (xs), rw_ (.slice A20_0 ((rhA s0 xs pf pt).2.1).length c20_0) ((rhA s0 xs pf pt).2.1)] [] hSa 1 ((.slice A20_0 ((rhA s0 xs pf pt).2.1).length c20_0))
      have hba := hb17.trans ((show Below w17.heap.size w17 _ from (set_below (p := ⟨w18.heap.size, 1, none⟩) (x := (.slice A20_0 ((rhA s0 xs pf pt).2.1).length c20_0)) (hz18) (set_below (p := ⟨w18.heap.size, 0, none⟩) (x := .int .i64 ((rhA s0 xs pf pt).1)) (hz18) hr20))).mono hb17.size)
      go_wp2_with fail
      go_meet
      exact ⟨_, _, _, rfl, rfl, hba, hSa⟩
    · skip
      have hSa := ((hS17.join hr20 (hs_row_box hr20 (ho20.mono (heap_lt dz19) (Nat.le_refl _)) (Nat.le_refl _) (heap_lt dz20) dz20)).setBx [rw_ (.slice A4_0 ((rhA s0 xs pf pt).2.1).length c4_0) ((rhA s0 xs pf pt).2.1), bx_ g4_0 #[.int .i64 ((rhA s0 xs pf pt).1), (.slice A4_0 ((rhA s0 xs pf pt).2.1).length c4_0)] 40, rw_ (.slice A6_0 (xs).length c6_0) (countFrom (1) (xs).length), bx_ g6b1 #[.int .i64 (s0), (.slice A6_0 (xs).length c6_0)] 40, rw_ (.slice A9_0 ((rhA s0 xs pf pt).2.1).length c9_0) (countFrom (1) ((rhA s0 xs pf pt).2.1).length), bx_ g9_0 #[.int .i64 ((rhA s0 xs pf pt).1), (.slice A9_0 ((rhA s0 xs pf pt).2.1).length c9_0)] 40, rw_ (.slice A12_0 (xs).length c12_0) (xs), rw_ (.slice A20_0 ((rhA s0 xs pf pt).2.1).length c20_0) ((rhA s0 xs pf pt).2.1)] [] 0 (.int .i64 ((rhA s0 xs pf pt).1)))
      have hSa := Hs.setBx [rw_ (.slice A4_0 ((rhA s0 xs pf pt).2.1).length c4_0) ((rhA s0 xs pf pt).2.1), bx_ g4_0 #[.int .i64 ((rhA s0 xs pf pt).1), (.slice A4_0 ((rhA s0 xs pf pt).2.1).length c4_0)] 40, rw_ (.slice A6_0 (xs).length c6_0) (countFrom (1) (xs).length), bx_ g6b1 #[.int .i64 (s0), (.slice A6_0 (xs).length c6_0)] 40, rw_ (.slice A9_0 ((rhA s0 xs pf pt).2.1).length c9_0) (countFrom (1) ((rhA s0 xs pf pt).2.1).length), bx_ g9_0 #[.int .i64 ((rhA s0 xs pf pt).1), (.slice A9_0 ((rhA s0 xs pf pt).2.1).length c9_0)] 40, rw_ (.slice A12_0 (xs).length c12_0) (xs), rw_ (.slice A20_0 ((rhA s0 xs pf pt).2.1).length c20_0) ((rhA s0 xs pf pt).2.1)] [] hSa 1 ((.slice A20_0 ((rhA s0 xs pf pt).2.1).length c20_0))
      have hba := hb17.trans ((show Below w17.heap.size w17 _ from (set_below (p := ⟨w17.heap.size, 1, none⟩) (x := (.slice A20_0 ((rhA s0 xs pf pt).2.1).length c20_0)) (Nat.le_refl _) (set_below (p := ⟨w17.heap.size, 0, none⟩) (x := .int .i64 ((rhA s0 xs pf pt).1)) (Nat.le_refl _) hr20))).mono hb17.size)
      go_wp2_with fail
      go_meet
      exact ⟨_, _, _, rfl, rfl, hba, hSa⟩
  case rest =>
  clear hb17 hS17
  obtain ⟨g20_0, A20_0, c20_0, rfl, rfl, hb21, hS21⟩ := hcut
  obtain ⟨w21, hwc⟩ : ∃ x, x = wc := ⟨_, rfl⟩
  subst hwc
  obtain ⟨hc, hf⟩ := bcell hb21
  have lz0 : w.heap.size < w21.heap.size := by have := hb21.size; simp at this; omega
  have lz1 : w.heap.size + 1 < w21.heap.size := by have := hb21.size; simp at this; omega
  obtain ⟨kx4_0b, -, lx4_0b, -⟩ := Hs.bx [rw_ (.slice A4_0 ((rhA s0 xs pf pt).2.1).length c4_0) ((rhA s0 xs pf pt).2.1)] [rw_ (.slice A6_0 (xs).length c6_0) (countFrom (1) (xs).length), bx_ g6b1 #[.int .i64 (s0), (.slice A6_0 (xs).length c6_0)] 40, rw_ (.slice A9_0 ((rhA s0 xs pf pt).2.1).length c9_0) (countFrom (1) ((rhA s0 xs pf pt).2.1).length), bx_ g9_0 #[.int .i64 ((rhA s0 xs pf pt).1), (.slice A9_0 ((rhA s0 xs pf pt).2.1).length c9_0)] 40, rw_ (.slice A12_0 (xs).length c12_0) (xs), rw_ (.slice A20_0 ((rhA s0 xs pf pt).2.1).length c20_0) ((rhA s0 xs pf pt).2.1), bx_ g20_0 #[.int .i64 ((rhA s0 xs pf pt).1), (.slice A20_0 ((rhA s0 xs pf pt).2.1).length c20_0)] 40] hS21
  have kx4_0b_0 : w21.cell? ⟨g4_0, 0, none⟩ = some (.int .i64 ((rhA s0 xs pf pt).1)) := kx4_0b 0
  have kx4_0b_1 : w21.cell? ⟨g4_0, 1, none⟩ = some ((.slice A4_0 ((rhA s0 xs pf pt).2.1).length c4_0)) := kx4_0b 1
  clear kx4_0b
  obtain ⟨kx6b1, -, lx6b1, -⟩ := Hs.bx [rw_ (.slice A4_0 ((rhA s0 xs pf pt).2.1).length c4_0) ((rhA s0 xs pf pt).2.1), bx_ g4_0 #[.int .i64 ((rhA s0 xs pf pt).1), (.slice A4_0 ((rhA s0 xs pf pt).2.1).length c4_0)] 40, rw_ (.slice A6_0 (xs).length c6_0) (countFrom (1) (xs).length)] [rw_ (.slice A9_0 ((rhA s0 xs pf pt).2.1).length c9_0) (countFrom (1) ((rhA s0 xs pf pt).2.1).length), bx_ g9_0 #[.int .i64 ((rhA s0 xs pf pt).1), (.slice A9_0 ((rhA s0 xs pf pt).2.1).length c9_0)] 40, rw_ (.slice A12_0 (xs).length c12_0) (xs), rw_ (.slice A20_0 ((rhA s0 xs pf pt).2.1).length c20_0) ((rhA s0 xs pf pt).2.1), bx_ g20_0 #[.int .i64 ((rhA s0 xs pf pt).1), (.slice A20_0 ((rhA s0 xs pf pt).2.1).length c20_0)] 40] hS21
  have kx6b1_0 : w21.cell? ⟨g6b1, 0, none⟩ = some (.int .i64 (s0)) := kx6b1 0
  have kx6b1_1 : w21.cell? ⟨g6b1, 1, none⟩ = some ((.slice A6_0 (xs).length c6_0)) := kx6b1 1
  clear kx6b1
  obtain ⟨kx9_0b, -, lx9_0b, -⟩ := Hs.bx [rw_ (.slice A4_0 ((rhA s0 xs pf pt).2.1).length c4_0) ((rhA s0 xs pf pt).2.1), bx_ g4_0 #[.int .i64 ((rhA s0 xs pf pt).1), (.slice A4_0 ((rhA s0 xs pf pt).2.1).length c4_0)] 40, rw_ (.slice A6_0 (xs).length c6_0) (countFrom (1) (xs).length), bx_ g6b1 #[.int .i64 (s0), (.slice A6_0 (xs).length c6_0)] 40, rw_ (.slice A9_0 ((rhA s0 xs pf pt).2.1).length c9_0) (countFrom (1) ((rhA s0 xs pf pt).2.1).length)] [rw_ (.slice A12_0 (xs).length c12_0) (xs), rw_ (.slice A20_0 ((rhA s0 xs pf pt).2.1).length c20_0) ((rhA s0 xs pf pt).2.1), bx_ g20_0 #[.int .i64 ((rhA s0 xs pf pt).1), (.slice A20_0 ((rhA s0 xs pf pt).2.1).length c20_0)] 40] hS21
  have kx9_0b_0 : w21.cell? ⟨g9_0, 0, none⟩ = some (.int .i64 ((rhA s0 xs pf pt).1)) := kx9_0b 0
  have kx9_0b_1 : w21.cell? ⟨g9_0, 1, none⟩ = some ((.slice A9_0 ((rhA s0 xs pf pt).2.1).length c9_0)) := kx9_0b 1
  clear kx9_0b
  obtain ⟨kx20_0b, -, lx20_0b, -⟩ := Hs.bx [rw_ (.slice A4_0 ((rhA s0 xs pf pt).2.1).length c4_0) ((rhA s0 xs pf pt).2.1), bx_ g4_0 #[.int .i64 ((rhA s0 xs pf pt).1), (.slice A4_0 ((rhA s0 xs pf pt).2.1).length c4_0)] 40, rw_ (.slice A6_0 (xs).length c6_0) (countFrom (1) (xs).length), bx_ g6b1 #[.int .i64 (s0), (.slice A6_0 (xs).length c6_0)] 40, rw_ (.slice A9_0 ((rhA s0 xs pf pt).2.1).length c9_0) (countFrom (1) ((rhA s0 xs pf pt).2.1).length), bx_ g9_0 #[.int .i64 ((rhA s0 xs pf pt).1), (.slice A9_0 ((rhA s0 xs pf pt).2.1).length c9_0)] 40, rw_ (.slice A12_0 (xs).length c12_0) (xs), rw_ (.slice A20_0 ((rhA s0 xs pf pt).2.1).length c20_0) ((rhA s0 xs pf pt).2.1)] [] hS21
  have kx20_0b_0 : w21.cell? ⟨g20_0, 0, none⟩ = some (.int .i64 ((rhA s0 xs pf pt).1)) := kx20_0b 0
  have kx20_0b_1 : w21.cell? ⟨g20_0, 1, none⟩ = some ((.slice A20_0 ((rhA s0 xs pf pt).2.1).length c20_0)) := kx20_0b 1
  clear kx20_0b
  go_wp2_with fail
  clear hc hf lz0 lz1 kx4_0b_0 kx4_0b_1 lx4_0b kx6b1_0 kx6b1_1 lx6b1 kx9_0b_0 kx9_0b_1 lx9_0b kx20_0b_0 kx20_0b_1 lx20_0b
  refine (eqBraid_yes (Hs.rd [rw_ (.slice A4_0 ((rhA s0 xs pf pt).2.1).length c4_0) ((rhA s0 xs pf pt).2.1), bx_ g4_0 #[.int .i64 ((rhA s0 xs pf pt).1), (.slice A4_0 ((rhA s0 xs pf pt).2.1).length c4_0)] 40, rw_ (.slice A6_0 (xs).length c6_0) (countFrom (1) (xs).length), bx_ g6b1 #[.int .i64 (s0), (.slice A6_0 (xs).length c6_0)] 40, rw_ (.slice A9_0 ((rhA s0 xs pf pt).2.1).length c9_0) (countFrom (1) ((rhA s0 xs pf pt).2.1).length), bx_ g9_0 #[.int .i64 ((rhA s0 xs pf pt).1), (.slice A9_0 ((rhA s0 xs pf pt).2.1).length c9_0)] 40, rw_ (.slice A12_0 (xs).length c12_0) (xs)] [bx_ g20_0 #[.int .i64 ((rhA s0 xs pf pt).1), (.slice A20_0 ((rhA s0 xs pf pt).2.1).length c20_0)] 40] hS21) (Hs.rd [] [bx_ g4_0 #[.int .i64 ((rhA s0 xs pf pt).1), (.slice A4_0 ((rhA s0 xs pf pt).2.1).length c4_0)] 40, rw_ (.slice A6_0 (xs).length c6_0) (countFrom (1) (xs).length), bx_ g6b1 #[.int .i64 (s0), (.slice A6_0 (xs).length c6_0)] 40, rw_ (.slice A9_0 ((rhA s0 xs pf pt).2.1).length c9_0) (countFrom (1) ((rhA s0 xs pf pt).2.1).length), bx_ g9_0 #[.int .i64 ((rhA s0 xs pf pt).1), (.slice A9_0 ((rhA s0 xs pf pt).2.1).length c9_0)] 40, rw_ (.slice A12_0 (xs).length c12_0) (xs), rw_ (.slice A20_0 ((rhA s0 xs pf pt).2.1).length c20_0) ((rhA s0 xs pf pt).2.1), bx_ g20_0 #[.int .i64 ((rhA s0 xs pf pt).1), (.slice A20_0 ((rhA s0 xs pf pt).2.1).length c20_0)] 40] hS21) (Nat.le_refl _) (Nat.le_refl _)).mono ?_
  rintro e w22 ⟨rfl, hq⟩
  have hb22 := hb21.trans (hq.mono hb21.size)
  have hS22 := hS21.below hq
  clear hb21 hS21 hq
  obtain ⟨hc, hf⟩ := bcell hb22
  have lz0 : w.heap.size < w22.heap.size := by have := hb22.size; simp at this; omega
  have lz1 : w.heap.size + 1 < w22.heap.size := by have := hb22.size; simp at this; omega
  obtain ⟨kx4_0b, -, lx4_0b, -⟩ := Hs.bx [rw_ (.slice A4_0 ((rhA s0 xs pf pt).2.1).length c4_0) ((rhA s0 xs pf pt).2.1)] [rw_ (.slice A6_0 (xs).length c6_0) (countFrom (1) (xs).length), bx_ g6b1 #[.int .i64 (s0), (.slice A6_0 (xs).length c6_0)] 40, rw_ (.slice A9_0 ((rhA s0 xs pf pt).2.1).length c9_0) (countFrom (1) ((rhA s0 xs pf pt).2.1).length), bx_ g9_0 #[.int .i64 ((rhA s0 xs pf pt).1), (.slice A9_0 ((rhA s0 xs pf pt).2.1).length c9_0)] 40, rw_ (.slice A12_0 (xs).length c12_0) (xs), rw_ (.slice A20_0 ((rhA s0 xs pf pt).2.1).length c20_0) ((rhA s0 xs pf pt).2.1), bx_ g20_0 #[.int .i64 ((rhA s0 xs pf pt).1), (.slice A20_0 ((rhA s0 xs pf pt).2.1).length c20_0)] 40] hS22
  have kx4_0b_0 : w22.cell? ⟨g4_0, 0, none⟩ = some (.int .i64 ((rhA s0 xs pf pt).1)) := kx4_0b 0
  have kx4_0b_1 : w22.cell? ⟨g4_0, 1, none⟩ = some ((.slice A4_0 ((rhA s0 xs pf pt).2.1).length c4_0)) := kx4_0b 1
  clear kx4_0b
  obtain ⟨kx6b1, -, lx6b1, -⟩ := Hs.bx [rw_ (.slice A4_0 ((rhA s0 xs pf pt).2.1).length c4_0) ((rhA s0 xs pf pt).2.1), bx_ g4_0 #[.int .i64 ((rhA s0 xs pf pt).1), (.slice A4_0 ((rhA s0 xs pf pt).2.1).length c4_0)] 40, rw_ (.slice A6_0 (xs).length c6_0) (countFrom (1) (xs).length)] [rw_ (.slice A9_0 ((rhA s0 xs pf pt).2.1).length c9_0) (countFrom (1) ((rhA s0 xs pf pt).2.1).length), bx_ g9_0 #[.int .i64 ((rhA s0 xs pf pt).1), (.slice A9_0 ((rhA s0 xs pf pt).2.1).length c9_0)] 40, rw_ (.slice A12_0 (xs).length c12_0) (xs), rw_ (.slice A20_0 ((rhA s0 xs pf pt).2.1).length c20_0) ((rhA s0 xs pf pt).2.1), bx_ g20_0 #[.int .i64 ((rhA s0 xs pf pt).1), (.slice A20_0 ((rhA s0 xs pf pt).2.1).length c20_0)] 40] hS22
  have kx6b1_0 : w22.cell? ⟨g6b1, 0, none⟩ = some (.int .i64 (s0)) := kx6b1 0
  have kx6b1_1 : w22.cell? ⟨g6b1, 1, none⟩ = some ((.slice A6_0 (xs).length c6_0)) := kx6b1 1
  clear kx6b1
  obtain ⟨kx9_0b, -, lx9_0b, -⟩ := Hs.bx [rw_ (.slice A4_0 ((rhA s0 xs pf pt).2.1).length c4_0) ((rhA s0 xs pf pt).2.1), bx_ g4_0 #[.int .i64 ((rhA s0 xs pf pt).1), (.slice A4_0 ((rhA s0 xs pf pt).2.1).length c4_0)] 40, rw_ (.slice A6_0 (xs).length c6_0) (countFrom (1) (xs).length), bx_ g6b1 #[.int .i64 (s0), (.slice A6_0 (xs).length c6_0)] 40, rw_ (.slice A9_0 ((rhA s0 xs pf pt).2.1).length c9_0) (countFrom (1) ((rhA s0 xs pf pt).2.1).length)] [rw_ (.slice A12_0 (xs).length c12_0) (xs), rw_ (.slice A20_0 ((rhA s0 xs pf pt).2.1).length c20_0) ((rhA s0 xs pf pt).2.1), bx_ g20_0 #[.int .i64 ((rhA s0 xs pf pt).1), (.slice A20_0 ((rhA s0 xs pf pt).2.1).length c20_0)] 40] hS22
  have kx9_0b_0 : w22.cell? ⟨g9_0, 0, none⟩ = some (.int .i64 ((rhA s0 xs pf pt).1)) := kx9_0b 0
  have kx9_0b_1 : w22.cell? ⟨g9_0, 1, none⟩ = some ((.slice A9_0 ((rhA s0 xs pf pt).2.1).length c9_0)) := kx9_0b 1
  clear kx9_0b
  obtain ⟨kx20_0b, -, lx20_0b, -⟩ := Hs.bx [rw_ (.slice A4_0 ((rhA s0 xs pf pt).2.1).length c4_0) ((rhA s0 xs pf pt).2.1), bx_ g4_0 #[.int .i64 ((rhA s0 xs pf pt).1), (.slice A4_0 ((rhA s0 xs pf pt).2.1).length c4_0)] 40, rw_ (.slice A6_0 (xs).length c6_0) (countFrom (1) (xs).length), bx_ g6b1 #[.int .i64 (s0), (.slice A6_0 (xs).length c6_0)] 40, rw_ (.slice A9_0 ((rhA s0 xs pf pt).2.1).length c9_0) (countFrom (1) ((rhA s0 xs pf pt).2.1).length), bx_ g9_0 #[.int .i64 ((rhA s0 xs pf pt).1), (.slice A9_0 ((rhA s0 xs pf pt).2.1).length c9_0)] 40, rw_ (.slice A12_0 (xs).length c12_0) (xs), rw_ (.slice A20_0 ((rhA s0 xs pf pt).2.1).length c20_0) ((rhA s0 xs pf pt).2.1)] [] hS22
  have kx20_0b_0 : w22.cell? ⟨g20_0, 0, none⟩ = some (.int .i64 ((rhA s0 xs pf pt).1)) := kx20_0b 0
  have kx20_0b_1 : w22.cell? ⟨g20_0, 1, none⟩ = some ((.slice A20_0 ((rhA s0 xs pf pt).2.1).length c20_0)) := kx20_0b 1
  clear kx20_0b
  go_wp2_with fail
  clear hc hf lz0 lz1 kx4_0b_0 kx4_0b_1 lx4_0b kx6b1_0 kx6b1_1 lx6b1 kx9_0b_0 kx9_0b_1 lx9_0b kx20_0b_0 kx20_0b_1 lx20_0b
  refine (heldBraid_any (Hs.rd [rw_ (.slice A4_0 ((rhA s0 xs pf pt).2.1).length c4_0) ((rhA s0 xs pf pt).2.1), bx_ g4_0 #[.int .i64 ((rhA s0 xs pf pt).1), (.slice A4_0 ((rhA s0 xs pf pt).2.1).length c4_0)] 40, rw_ (.slice A6_0 (xs).length c6_0) (countFrom (1) (xs).length), bx_ g6b1 #[.int .i64 (s0), (.slice A6_0 (xs).length c6_0)] 40] [bx_ g9_0 #[.int .i64 ((rhA s0 xs pf pt).1), (.slice A9_0 ((rhA s0 xs pf pt).2.1).length c9_0)] 40, rw_ (.slice A12_0 (xs).length c12_0) (xs), rw_ (.slice A20_0 ((rhA s0 xs pf pt).2.1).length c20_0) ((rhA s0 xs pf pt).2.1), bx_ g20_0 #[.int .i64 ((rhA s0 xs pf pt).1), (.slice A20_0 ((rhA s0 xs pf pt).2.1).length c20_0)] 40] hS22) (Nat.le_refl _) (by omega) (by omega) (by omega)).mono ?_
  rintro e w23 ⟨rfl, hq⟩
  have hb23 := hb22.trans (hq.mono hb22.size)
  have hS23 := hS22.below hq
  clear hb22 hS22 hq
  obtain ⟨hc, hf⟩ := bcell hb23
  have lz0 : w.heap.size < w23.heap.size := by have := hb23.size; simp at this; omega
  have lz1 : w.heap.size + 1 < w23.heap.size := by have := hb23.size; simp at this; omega
  obtain ⟨kx4_0b, -, lx4_0b, -⟩ := Hs.bx [rw_ (.slice A4_0 ((rhA s0 xs pf pt).2.1).length c4_0) ((rhA s0 xs pf pt).2.1)] [rw_ (.slice A6_0 (xs).length c6_0) (countFrom (1) (xs).length), bx_ g6b1 #[.int .i64 (s0), (.slice A6_0 (xs).length c6_0)] 40, rw_ (.slice A9_0 ((rhA s0 xs pf pt).2.1).length c9_0) (countFrom (1) ((rhA s0 xs pf pt).2.1).length), bx_ g9_0 #[.int .i64 ((rhA s0 xs pf pt).1), (.slice A9_0 ((rhA s0 xs pf pt).2.1).length c9_0)] 40, rw_ (.slice A12_0 (xs).length c12_0) (xs), rw_ (.slice A20_0 ((rhA s0 xs pf pt).2.1).length c20_0) ((rhA s0 xs pf pt).2.1), bx_ g20_0 #[.int .i64 ((rhA s0 xs pf pt).1), (.slice A20_0 ((rhA s0 xs pf pt).2.1).length c20_0)] 40] hS23
  have kx4_0b_0 : w23.cell? ⟨g4_0, 0, none⟩ = some (.int .i64 ((rhA s0 xs pf pt).1)) := kx4_0b 0
  have kx4_0b_1 : w23.cell? ⟨g4_0, 1, none⟩ = some ((.slice A4_0 ((rhA s0 xs pf pt).2.1).length c4_0)) := kx4_0b 1
  clear kx4_0b
  obtain ⟨kx6b1, -, lx6b1, -⟩ := Hs.bx [rw_ (.slice A4_0 ((rhA s0 xs pf pt).2.1).length c4_0) ((rhA s0 xs pf pt).2.1), bx_ g4_0 #[.int .i64 ((rhA s0 xs pf pt).1), (.slice A4_0 ((rhA s0 xs pf pt).2.1).length c4_0)] 40, rw_ (.slice A6_0 (xs).length c6_0) (countFrom (1) (xs).length)] [rw_ (.slice A9_0 ((rhA s0 xs pf pt).2.1).length c9_0) (countFrom (1) ((rhA s0 xs pf pt).2.1).length), bx_ g9_0 #[.int .i64 ((rhA s0 xs pf pt).1), (.slice A9_0 ((rhA s0 xs pf pt).2.1).length c9_0)] 40, rw_ (.slice A12_0 (xs).length c12_0) (xs), rw_ (.slice A20_0 ((rhA s0 xs pf pt).2.1).length c20_0) ((rhA s0 xs pf pt).2.1), bx_ g20_0 #[.int .i64 ((rhA s0 xs pf pt).1), (.slice A20_0 ((rhA s0 xs pf pt).2.1).length c20_0)] 40] hS23
  have kx6b1_0 : w23.cell? ⟨g6b1, 0, none⟩ = some (.int .i64 (s0)) := kx6b1 0
  have kx6b1_1 : w23.cell? ⟨g6b1, 1, none⟩ = some ((.slice A6_0 (xs).length c6_0)) := kx6b1 1
  clear kx6b1
  obtain ⟨kx9_0b, -, lx9_0b, -⟩ := Hs.bx [rw_ (.slice A4_0 ((rhA s0 xs pf pt).2.1).length c4_0) ((rhA s0 xs pf pt).2.1), bx_ g4_0 #[.int .i64 ((rhA s0 xs pf pt).1), (.slice A4_0 ((rhA s0 xs pf pt).2.1).length c4_0)] 40, rw_ (.slice A6_0 (xs).length c6_0) (countFrom (1) (xs).length), bx_ g6b1 #[.int .i64 (s0), (.slice A6_0 (xs).length c6_0)] 40, rw_ (.slice A9_0 ((rhA s0 xs pf pt).2.1).length c9_0) (countFrom (1) ((rhA s0 xs pf pt).2.1).length)] [rw_ (.slice A12_0 (xs).length c12_0) (xs), rw_ (.slice A20_0 ((rhA s0 xs pf pt).2.1).length c20_0) ((rhA s0 xs pf pt).2.1), bx_ g20_0 #[.int .i64 ((rhA s0 xs pf pt).1), (.slice A20_0 ((rhA s0 xs pf pt).2.1).length c20_0)] 40] hS23
  have kx9_0b_0 : w23.cell? ⟨g9_0, 0, none⟩ = some (.int .i64 ((rhA s0 xs pf pt).1)) := kx9_0b 0
  have kx9_0b_1 : w23.cell? ⟨g9_0, 1, none⟩ = some ((.slice A9_0 ((rhA s0 xs pf pt).2.1).length c9_0)) := kx9_0b 1
  clear kx9_0b
  obtain ⟨kx20_0b, -, lx20_0b, -⟩ := Hs.bx [rw_ (.slice A4_0 ((rhA s0 xs pf pt).2.1).length c4_0) ((rhA s0 xs pf pt).2.1), bx_ g4_0 #[.int .i64 ((rhA s0 xs pf pt).1), (.slice A4_0 ((rhA s0 xs pf pt).2.1).length c4_0)] 40, rw_ (.slice A6_0 (xs).length c6_0) (countFrom (1) (xs).length), bx_ g6b1 #[.int .i64 (s0), (.slice A6_0 (xs).length c6_0)] 40, rw_ (.slice A9_0 ((rhA s0 xs pf pt).2.1).length c9_0) (countFrom (1) ((rhA s0 xs pf pt).2.1).length), bx_ g9_0 #[.int .i64 ((rhA s0 xs pf pt).1), (.slice A9_0 ((rhA s0 xs pf pt).2.1).length c9_0)] 40, rw_ (.slice A12_0 (xs).length c12_0) (xs), rw_ (.slice A20_0 ((rhA s0 xs pf pt).2.1).length c20_0) ((rhA s0 xs pf pt).2.1)] [] hS23
  have kx20_0b_0 : w23.cell? ⟨g20_0, 0, none⟩ = some (.int .i64 ((rhA s0 xs pf pt).1)) := kx20_0b 0
  have kx20_0b_1 : w23.cell? ⟨g20_0, 1, none⟩ = some ((.slice A20_0 ((rhA s0 xs pf pt).2.1).length c20_0)) := kx20_0b 1
  clear kx20_0b
  go_wp2_with fail
  clear hc hf lz0 lz1 kx4_0b_0 kx4_0b_1 lx4_0b kx6b1_0 kx6b1_1 lx6b1 kx9_0b_0 kx9_0b_1 lx9_0b kx20_0b_0 kx20_0b_1 lx20_0b
  go_ret
  exact ⟨rfl, hA0.trans (hb23.mono hB0)⟩

set_option maxRecDepth 100000 in
theorem lifted (os : Os) (started : os.Started) (H : Type) (enc : TypeId × Value → H) :
    ReturnsInHanded {} Try.checked os 9 .any (Rows.fnExactReduceHandleSpec.pre6 enc Try.prog Try.f9 Rows.fnExactReduceHandleRow.domain false) (Rows.fnExactReduceHandleSpec.post enc Try.prog Try.f9 false true false false) := by
  refine returnsInHanded_of_change (C := Try.checked) own_knob started (by kernel_rfl) Try.func9
    (ChangeSpec.witness6 (enc := enc) (C := Try.checked) false ⟨#[], #[.agg #[.int .i64 0, .slice none 0 0], .agg #[.int .i64 0, .int .i64 0]], []⟩ 8 (by kernel_rfl) (by kernel_rfl) (by kernel_rfl) (by kernel_rfl)) ?_
  intro W base args ds gs before hval0 hW hcnd _
  have hval : ∀ (j : Nat) t v, Try.f9.params[j]? = some t → args[j]? = some v → Value.okWide Try.prog W .any base t v := hval0
  have hW' := hW
  obtain ⟨p, q, hA0, hV, rfl, hfz, hnd⟩ := hW
  have hA : DataW.TrodAll enc Try.prog W 0 (fun _ => true) true Try.f9.params.toList args.toList ds p := hA0
  rw [Try.params9] at hA hval
  obtain ⟨v0, vs0, d0, ds0, p0, q0, hargs, rfl, rfl, h0, r0⟩ := trodAll_cons hA
  obtain ⟨v1, vs1, d1, ds1, p1, q1, rfl, rfl, rfl, h1, r1⟩ := trodAll_cons r0
  obtain ⟨rfl, rfl, rfl⟩ := trodAll_nil r1
  obtain rfl : args = #[v0, v1] := by cases args; simp_all
  obtain ⟨rfl, rfl⟩ := trodVars_none hV
  have k0 := h0
  have lt0 : ∀ x ∈ p0, x.block < W.heap.size := by obtain ⟨m, hm⟩ := k0; exact DataW.trod_lt m _ _ _ hm
  have k1 := h1
  have lt1 : ∀ x ∈ p1, x.block < W.heap.size := by obtain ⟨m, hm⟩ := k1; exact DataW.trod_lt m _ _ _ hm
  obtain ⟨y0, u0, xs, rfl, t0, z0, b0⟩ := open_Braid (hval 0 35 v0 rfl rfl) h0
  obtain ⟨pf, pt, rfl, bf1, bt1⟩ := open_Handle (hval 1 37 v1 rfl rfl) h1
  clear hA0 hval0
  refine (walk y0 u0 xs pf pt W t0 z0 b0 bf1 bt1).mono fun e W' ⟨he, bel⟩ => ?_
  subst he
  exact ⟨_, rfl, _, _, _, [], _, [], hW', trodAll_mk1 (shut_bool Try.underlying4 _), (trodAll_cons_mk (Below.trod laid_out (by kernel_rfl) (of_decide_eq_true (by kernel_rfl)) k0 bel lt0) (trodAll_cons_mk (Below.trod laid_out (by kernel_rfl) (of_decide_eq_true (by kernel_rfl)) k1 bel lt1) trodAll_mk0)), rfl, bel.frame _, fun h => by cases h⟩

/-- The statement. -/
theorem proved : Rows.FnExactReduceHandleSaid :=
  OpenClaim.holds_of_wide 9 Try.f9 rfl rfl rfl rfl rfl rfl rfl ⟨rfl, rfl, rfl, rfl, rfl⟩ rfl rfl rfl rfl rfl (by kernel_rfl) Try.func9 (by kernel_rfl)
    (of_decide_eq_true (by kernel_rfl)) (by unfold Func.isWrapper; first | (rw [if_pos (by decide +kernel)]; kernel_rfl) | (rw [if_neg (by decide +kernel)]; exact ⟨rfl, rfl⟩))
    (fun os started H enc _ => lifted os started H enc)
#print axioms proved
end Go.Proofs.Ytphbmdoeaebhnaa.fnExactReduceHandle
