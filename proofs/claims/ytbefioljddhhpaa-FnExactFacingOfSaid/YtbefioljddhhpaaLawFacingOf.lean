/-
  Proved here: for every input the law FnExactFacingOf returns true, and every argument reads behind the call as it read before. No condition.
-/
import Derived.Test.YtbefioljddhhpaaOpen
import Derived.Test.YtbefioljddhhpaaMac3
import Derived.Test.YtbefioljddhhpaaMop
import Derived.Test.YtbefioljddhhpaaVmf
import Derived.ProofKit
import Derived.OpenShut
import Derived.ShutString
import Derived.ChangeOld
import Derived.Below
import Derived.Deep.RegionHeld3
import Derived.Deep.DeepCutAuto
namespace Go.Proofs.Ytbefioljddhhpaa.fnExactFacingOf
set_option maxRecDepth 10000
open Go.ChangeShapes Go.WideShapes Go.ChangeAt Go.RowKit
open Go.ChangeMaps (open_string shut_string)
set_option linter.unusedVariables false

set_option maxRecDepth 100000 in
set_option maxHeartbeats 4000000 in
theorem walk (vf0 vb0 vc0 vl0 vd0 : Value) (m : Mac) (nf nt : Int) (w : World) (h0 : SlM w w.heap.size vf0 vb0 vc0 vl0 vd0 m) (b0 : MacR m) (bf1 : R64 nf) (bt1 : R64 nt) :
    Calls Try.prog 7 #[.agg #[.int .i64 (m).wd, .int .i64 (m).rk, vf0, vb0, vc0, vl0, vd0], .agg #[.int .i64 nf, .int .i64 nt]] w fun e w' => e = .returned (.bool true) ∧ Below w.heap.size w w' := by
  obtain ⟨Af0, cf0, rfl, -⟩ := id h0.fr
  obtain ⟨Ab0, cb0, rfl, -⟩ := id h0.bk
  obtain ⟨Ac0, cc0, rfl, -⟩ := id h0.cr.cells
  obtain ⟨Al0, cl0, rfl, -⟩ := id h0.lp.cells
  obtain ⟨Ad0, cd0, rfl, -⟩ := id h0.dr
  have hA0 : Below w.heap.size w ((w.alloc (.cells #[.int .i64 ((m).wd), .int .i64 ((m).rk), (.slice Af0 (m).fr.length cf0), (.slice Ab0 (m).bk.length cb0), (.slice Ac0 (m).cr.length cc0), (.slice Al0 (m).lp.length cl0), (.slice Ad0 (m).dr.length cd0)] 36)).alloc (.cells #[.int .i64 (nf), .int .i64 (nt)] 43)) := ((al1 w (.cells #[.int .i64 ((m).wd), .int .i64 ((m).rk), (.slice Af0 (m).fr.length cf0), (.slice Ab0 (m).bk.length cb0), (.slice Ac0 (m).cr.length cc0), (.slice Al0 (m).lp.length cl0), (.slice Ad0 (m).dr.length cd0)] 36)).alloc (by simp) (.cells #[.int .i64 (nf), .int .i64 (nt)] 43))
  have hB0 : w.heap.size ≤ ((w.alloc (.cells #[.int .i64 ((m).wd), .int .i64 ((m).rk), (.slice Af0 (m).fr.length cf0), (.slice Ab0 (m).bk.length cb0), (.slice Ac0 (m).cr.length cc0), (.slice Al0 (m).lp.length cl0), (.slice Ad0 (m).dr.length cd0)] 36)).alloc (.cells #[.int .i64 (nf), .int .i64 (nt)] 43)).heap.size := hA0.size
  have g0 := h0.below hA0 (Nat.le_refl _)
  clear h0
  have hb0 := Below.refl ((w.alloc (.cells #[.int .i64 ((m).wd), .int .i64 ((m).rk), (.slice Af0 (m).fr.length cf0), (.slice Ab0 (m).bk.length cb0), (.slice Ac0 (m).cr.length cc0), (.slice Al0 (m).lp.length cl0), (.slice Ad0 (m).dr.length cd0)] 36)).alloc (.cells #[.int .i64 (nf), .int .i64 (nt)] 43)).heap.size ((w.alloc (.cells #[.int .i64 ((m).wd), .int .i64 ((m).rk), (.slice Af0 (m).fr.length cf0), (.slice Ab0 (m).bk.length cb0), (.slice Ac0 (m).cr.length cc0), (.slice Al0 (m).lp.length cl0), (.slice Ad0 (m).dr.length cd0)] 36)).alloc (.cells #[.int .i64 (nf), .int .i64 (nt)] 43))
  have hS0 : Hs ((w.alloc (.cells #[.int .i64 ((m).wd), .int .i64 ((m).rk), (.slice Af0 (m).fr.length cf0), (.slice Ab0 (m).bk.length cb0), (.slice Ac0 (m).cr.length cc0), (.slice Al0 (m).lp.length cl0), (.slice Ad0 (m).dr.length cd0)] 36)).alloc (.cells #[.int .i64 (nf), .int .i64 (nt)] 43)) ((w.alloc (.cells #[.int .i64 ((m).wd), .int .i64 ((m).rk), (.slice Af0 (m).fr.length cf0), (.slice Ab0 (m).bk.length cb0), (.slice Ac0 (m).cr.length cc0), (.slice Al0 (m).lp.length cl0), (.slice Ad0 (m).dr.length cd0)] 36)).alloc (.cells #[.int .i64 (nf), .int .i64 (nt)] 43)).heap.size [] := Hs.nil _
  by_cases z0 : (1048576 : Int) < (m.size : Int)
  · go_enter Try.func7, Try.ntmps7
    go_wp2_with fail
    refine (szMac_no (g0.below hb0 hB0) (Nat.le_trans hB0 hb0.size) (by omega) (by omega) z0).mono ?_
    rintro e w1 ⟨rfl, hq⟩
    have hb1 := hb0.trans (hq.mono hb0.size)
    have hS1 := hS0.below hq
    clear hb0 hS0 hq
    obtain ⟨hc, hf⟩ := bcell hb1
    have lz0 : w.heap.size < w1.heap.size := by have := hb1.size; simp at this; omega
    have lz1 : w.heap.size + 1 < w1.heap.size := by have := hb1.size; simp at this; omega
    go_wp2_with fail
    clear hc hf lz0 lz1
    go_ret
    exact ⟨rfl, hA0.trans (hb1.mono hB0)⟩
  have zl0 : ((m.size : Int) : Int) ≤ 1048576 := by omega
  go_enter Try.func7, Try.ntmps7
  go_wp2_with fail
  refine (szMac_yes (g0.below hb0 hB0) (Nat.le_trans hB0 hb0.size) (by omega) (by omega) (by omega)).mono ?_
  rintro e w1 ⟨rfl, hq⟩
  have hb1 := hb0.trans (hq.mono hb0.size)
  have hS1 := hS0.below hq
  clear hb0 hS0 hq
  obtain ⟨hc, hf⟩ := bcell hb1
  have lz0 : w.heap.size < w1.heap.size := by have := hb1.size; simp at this; omega
  have lz1 : w.heap.size + 1 < w1.heap.size := by have := hb1.size; simp at this; omega
  go_upto_region 5 with fail
  clear hc hf lz0 lz1
  go_cut [6, 7] (fun s6 s7 wx => ∃ (gc5 : Nat), s6 = .pointer (some ⟨gc5, 0, none⟩) ∧ s7 = .bool (faceOk m nf nt) ∧ Below ((w.alloc (.cells #[.int .i64 ((m).wd), .int .i64 ((m).rk), (.slice Af0 (m).fr.length cf0), (.slice Ab0 (m).bk.length cb0), (.slice Ac0 (m).cr.length cc0), (.slice Al0 (m).lp.length cl0), (.slice Ad0 (m).dr.length cd0)] 36)).alloc (.cells #[.int .i64 (nf), .int .i64 (nt)] 43)).heap.size ((w.alloc (.cells #[.int .i64 ((m).wd), .int .i64 ((m).rk), (.slice Af0 (m).fr.length cf0), (.slice Ab0 (m).bk.length cb0), (.slice Ac0 (m).cr.length cc0), (.slice Al0 (m).lp.length cl0), (.slice Ad0 (m).dr.length cd0)] 36)).alloc (.cells #[.int .i64 (nf), .int .i64 (nt)] 43)) wx ∧ Hs wx ((w.alloc (.cells #[.int .i64 ((m).wd), .int .i64 ((m).rk), (.slice Af0 (m).fr.length cf0), (.slice Ab0 (m).bk.length cb0), (.slice Ac0 (m).cr.length cc0), (.slice Al0 (m).lp.length cl0), (.slice Ad0 (m).dr.length cd0)] 36)).alloc (.cells #[.int .i64 (nf), .int .i64 (nt)] 43)).heap.size [bx_ gc5 #[.int .i64 (faceB m nf nt), .int .i64 (faceA m nf nt)] 45])
  case first =>
    have j0 : w1.cell? ⟨w.heap.size, 0, none⟩ = some (.int .i64 ((m).wd)) := by rw [(bcell hb1).1 _ _ (by simp; try omega)]; first | (simp; done) | simp [World.cell?_alloc_lt]
    have jl0 : w.heap.size < w1.heap.size := block_lt_of_cell j0
    have j1 : w1.cell? ⟨w.heap.size, 1, none⟩ = some (.int .i64 ((m).rk)) := by rw [(bcell hb1).1 _ _ (by simp; try omega)]; first | (simp; done) | simp [World.cell?_alloc_lt]
    have jl1 : w.heap.size < w1.heap.size := block_lt_of_cell j1
    have j2 : w1.cell? ⟨w.heap.size, 2, none⟩ = some ((.slice Af0 (m).fr.length cf0)) := by rw [(bcell hb1).1 _ _ (by simp; try omega)]; first | (simp; done) | simp [World.cell?_alloc_lt]
    have jl2 : w.heap.size < w1.heap.size := block_lt_of_cell j2
    have j3 : w1.cell? ⟨w.heap.size, 3, none⟩ = some ((.slice Ab0 (m).bk.length cb0)) := by rw [(bcell hb1).1 _ _ (by simp; try omega)]; first | (simp; done) | simp [World.cell?_alloc_lt]
    have jl3 : w.heap.size < w1.heap.size := block_lt_of_cell j3
    have j4 : w1.cell? ⟨w.heap.size, 4, none⟩ = some ((.slice Ac0 (m).cr.length cc0)) := by rw [(bcell hb1).1 _ _ (by simp; try omega)]; first | (simp; done) | simp [World.cell?_alloc_lt]
    have jl4 : w.heap.size < w1.heap.size := block_lt_of_cell j4
    have j5 : w1.cell? ⟨w.heap.size, 5, none⟩ = some ((.slice Al0 (m).lp.length cl0)) := by rw [(bcell hb1).1 _ _ (by simp; try omega)]; first | (simp; done) | simp [World.cell?_alloc_lt]
    have jl5 : w.heap.size < w1.heap.size := block_lt_of_cell j5
    have j6 : w1.cell? ⟨w.heap.size, 6, none⟩ = some ((.slice Ad0 (m).dr.length cd0)) := by rw [(bcell hb1).1 _ _ (by simp; try omega)]; first | (simp; done) | simp [World.cell?_alloc_lt]
    have jl6 : w.heap.size < w1.heap.size := block_lt_of_cell j6
    have j7 : w1.cell? ⟨w.heap.size + 1, 0, none⟩ = some (.int .i64 (nf)) := by rw [(bcell hb1).1 _ _ (by simp; try omega)]; first | (simp; done) | simp [World.cell?_alloc_lt]
    have jl7 : w.heap.size + 1 < w1.heap.size := block_lt_of_cell j7
    have j8 : w1.cell? ⟨w.heap.size + 1, 1, none⟩ = some (.int .i64 (nt)) := by rw [(bcell hb1).1 _ _ (by simp; try omega)]; first | (simp; done) | simp [World.cell?_alloc_lt]
    have jl8 : w.heap.size + 1 < w1.heap.size := block_lt_of_cell j8
    have hBx := Nat.le_trans hB0 hb1.size
    have gx0 := g0.below hb1 hB0
    have HK := Lib.hid (fun w' (hw : Below w1.heap.size w1 w') => show w'.cell? ⟨w.heap.size, 0, none⟩ = some (.int .i64 ((m).wd)) ∧ w'.cell? ⟨w.heap.size, 1, none⟩ = some (.int .i64 ((m).rk)) ∧ w'.cell? ⟨w.heap.size, 2, none⟩ = some ((.slice Af0 (m).fr.length cf0)) ∧ w'.cell? ⟨w.heap.size, 3, none⟩ = some ((.slice Ab0 (m).bk.length cb0)) ∧ w'.cell? ⟨w.heap.size, 4, none⟩ = some ((.slice Ac0 (m).cr.length cc0)) ∧ w'.cell? ⟨w.heap.size, 5, none⟩ = some ((.slice Al0 (m).lp.length cl0)) ∧ w'.cell? ⟨w.heap.size, 6, none⟩ = some ((.slice Ad0 (m).dr.length cd0)) ∧ w'.cell? ⟨w.heap.size + 1, 0, none⟩ = some (.int .i64 (nf)) ∧ w'.cell? ⟨w.heap.size + 1, 1, none⟩ = some (.int .i64 (nt)) ∧ Below w1.heap.size w1 w' from ⟨by rw [hw.cell (by simp only; omega)]; exact j0, by rw [hw.cell (by simp only; omega)]; exact j1, by rw [hw.cell (by simp only; omega)]; exact j2, by rw [hw.cell (by simp only; omega)]; exact j3, by rw [hw.cell (by simp only; omega)]; exact j4, by rw [hw.cell (by simp only; omega)]; exact j5, by rw [hw.cell (by simp only; omega)]; exact j6, by rw [hw.cell (by simp only; omega)]; exact j7, by rw [hw.cell (by simp only; omega)]; exact j8, hw⟩)
    clear j0 jl0 j1 jl1 j2 jl2 j3 jl3 j4 jl4 j5 jl5 j6 jl6 j7 jl7 j8 jl8
    go_region_held3 (fun w' => w'.cell? ⟨w.heap.size, 0, none⟩ = some (.int .i64 ((m).wd)) ∧ w'.cell? ⟨w.heap.size, 1, none⟩ = some (.int .i64 ((m).rk)) ∧ w'.cell? ⟨w.heap.size, 2, none⟩ = some ((.slice Af0 (m).fr.length cf0)) ∧ w'.cell? ⟨w.heap.size, 3, none⟩ = some ((.slice Ab0 (m).bk.length cb0)) ∧ w'.cell? ⟨w.heap.size, 4, none⟩ = some ((.slice Ac0 (m).cr.length cc0)) ∧ w'.cell? ⟨w.heap.size, 5, none⟩ = some ((.slice Al0 (m).lp.length cl0)) ∧ w'.cell? ⟨w.heap.size, 6, none⟩ = some ((.slice Ad0 (m).dr.length cd0)) ∧ w'.cell? ⟨w.heap.size + 1, 0, none⟩ = some (.int .i64 (nf)) ∧ w'.cell? ⟨w.heap.size + 1, 1, none⟩ = some (.int .i64 (nt)) ∧ Below w1.heap.size w1 w')
      (exact HK.out _ (by go_grown))
      (first
        | (go_at_call_of 19 (Go.Value.agg #[.int .i64 ((m).wd), .int .i64 ((m).rk), (.slice Af0 (m).fr.length cf0), (.slice Ab0 (m).bk.length cb0), (.slice Ac0 (m).cr.length cc0), (.slice Al0 (m).lp.length cl0), (.slice Ad0 (m).dr.length cd0)]); (refine (toMac_any (gx0.below (show Below w1.heap.size w1 _ by go_grown) hBx) (Nat.le_trans hBx (Below.size (w := w1) (B := w1.heap.size) (by go_grown))) b0.five (by omega)).mono ?_); rintro e w2 ⟨q2_0f, q2_0b, q2_0c, q2_0l, q2_0d, rfl, ho2, hq⟩; have hr2 : Below w1.heap.size w1 w2 := Below.trans (show Below w1.heap.size w1 _ by go_grown) (hq.mono (Below.size (w := w1) (B := w1.heap.size) (by go_grown))); have hz2 := hr2.size; have hq2 := hq; clear hq; (first | (have dz2 := alloc_fwd hq2) | (have dz2 := alloc_fwd_drew hq2) | (have dz2 := alloc_fwd_in hq2) | (have dz2 := alloc_fwd_drewN hq2) | (have dz2 := keep_fwd hq2 dz0) | skip); (first | (have hbx := box2 dz2; obtain ⟨d2a, d2b, d2c, d2d, d2e⟩ := hbx) | skip); have so2_0 := Hs.rdM [] [] ho2; obtain ⟨A2_0f, c2_0f, rfl, -⟩ := id so2_0.fr; obtain ⟨A2_0b, c2_0b, rfl, -⟩ := id so2_0.bk; obtain ⟨A2_0c, c2_0c, rfl, -⟩ := id so2_0.cr.cells; obtain ⟨A2_0l, c2_0l, rfl, -⟩ := id so2_0.lp.cells; obtain ⟨A2_0d, c2_0d, rfl, -⟩ := id so2_0.dr)
        | (go_at_call_of 24 (Go.Value.agg #[.int .i64 (nf), .int .i64 (nt)]); (refine (toNeedle_any (nf) (nt) _).mono ?_); rintro e w3 ⟨rfl, hq⟩; have hr3 : Below w1.heap.size w1 w3 := Below.trans (show Below w1.heap.size w1 _ by go_grown) (hq.mono (Below.size (w := w1) (B := w1.heap.size) (by go_grown))); have hz3 := hr3.size; have hq3 := hq; clear hq; have so2_0 := (so2_0.below (Below.trans (show Below w2.heap.size w2 _ by go_grown) (hq3.mono (Below.size (w := w2) (B := w2.heap.size) (by go_grown)))) (Nat.le_refl _)).mono (Below.size (w := w2) (B := w2.heap.size) (Below.trans (show Below w2.heap.size w2 _ by go_grown) (hq3.mono (Below.size (w := w2) (B := w2.heap.size) (by go_grown))))); (first | (have dz3 := alloc_fwd hq3) | (have dz3 := alloc_fwd_drew hq3) | (have dz3 := alloc_fwd_in hq3) | (have dz3 := alloc_fwd_drewN hq3) | (have dz3 := keep_fwd hq3 dz2) | skip); (first | (have hbx := box2 dz3; obtain ⟨d3a, d3b, d3c, d3d, d3e⟩ := hbx) | skip))
        | (go_at_call 26; (refine (spec_FacingOf_v (so2_0.below (show Below w3.heap.size w3 _ by go_grown) (Nat.le_refl _)) (Below.size (w := w3) (B := w3.heap.size) (by go_grown)) (small_of (by omega))).mono ?_); rintro e w4 ⟨rfl, hq⟩; have hr4 : Below w1.heap.size w1 w4 := Below.trans (show Below w1.heap.size w1 _ by go_grown) (hq.mono (Below.size (w := w1) (B := w1.heap.size) (by go_grown))); have hz4 := hr4.size; have hq4 := hq; clear hq; have so2_0 := (so2_0.below (Below.trans (show Below w3.heap.size w3 _ by go_grown) (hq4.mono (Below.size (w := w3) (B := w3.heap.size) (by go_grown)))) (Nat.le_refl _)).mono (Below.size (w := w3) (B := w3.heap.size) (Below.trans (show Below w3.heap.size w3 _ by go_grown) (hq4.mono (Below.size (w := w3) (B := w3.heap.size) (by go_grown))))); (first | (have dz4 := alloc_fwd hq4) | (have dz4 := alloc_fwd_drew hq4) | (have dz4 := alloc_fwd_in hq4) | (have dz4 := alloc_fwd_drewN hq4) | (have dz4 := keep_fwd hq4 dz3) | skip); (first | (have hbx := box2 dz4; obtain ⟨d4a, d4b, d4c, d4d, d4e⟩ := hbx) | skip)))
    · skip
      have hSa := (hS1.below hr4).join (al1 _ _) (hs_bx w4 #[.int .i64 (faceB m nf nt), .int .i64 (faceA m nf nt)] 45)
      have hba := hb1.trans ((hr4.trans ((al1 w4 (.cells #[.int .i64 (faceB m nf nt), .int .i64 (faceA m nf nt)] 45)).mono hz4)).mono hb1.size)
      go_wp2_with fail
      go_meet
      exact ⟨_, rfl, rfl, hba, hSa⟩
    · skip
      have hSa := ((hS1.join hr4 (hs_box_at hr4 (hz3) dz4)).setBx [] [] 0 (.int .i64 (faceB m nf nt)))
      have hSa := Hs.setBx [] [] hSa 1 (.int .i64 (faceA m nf nt))
      have hba := hb1.trans ((show Below w1.heap.size w1 _ from (setB (p := ⟨w3.heap.size, 1, none⟩) (x := .int .i64 (faceA m nf nt)) (hz3) (setB (p := ⟨w3.heap.size, 0, none⟩) (x := .int .i64 (faceB m nf nt)) (hz3) hr4))).mono hb1.size)
      go_wp2_with fail
      go_meet
      exact ⟨_, rfl, rfl, hba, hSa⟩
    · skip
      have hSa := ((hS1.join hr4 (hs_box_at hr4 (hz2) dz4)).setBx [] [] 0 (.int .i64 (faceB m nf nt)))
      have hSa := Hs.setBx [] [] hSa 1 (.int .i64 (faceA m nf nt))
      have hba := hb1.trans ((show Below w1.heap.size w1 _ from (setB (p := ⟨w2.heap.size, 1, none⟩) (x := .int .i64 (faceA m nf nt)) (hz2) (setB (p := ⟨w2.heap.size, 0, none⟩) (x := .int .i64 (faceB m nf nt)) (hz2) hr4))).mono hb1.size)
      go_wp2_with fail
      go_meet
      exact ⟨_, rfl, rfl, hba, hSa⟩
    · skip
      have hSa := ((hS1.join hr4 (hs_box_at hr4 (Nat.le_refl _) dz4)).setBx [] [] 0 (.int .i64 (faceB m nf nt)))
      have hSa := Hs.setBx [] [] hSa 1 (.int .i64 (faceA m nf nt))
      have hba := hb1.trans ((show Below w1.heap.size w1 _ from (setB (p := ⟨w1.heap.size, 1, none⟩) (x := .int .i64 (faceA m nf nt)) (Nat.le_refl _) (setB (p := ⟨w1.heap.size, 0, none⟩) (x := .int .i64 (faceB m nf nt)) (Nat.le_refl _) hr4))).mono hb1.size)
      go_wp2_with fail
      go_meet
      exact ⟨_, rfl, rfl, hba, hSa⟩
  case rest =>
  clear hb1 hS1
  obtain ⟨gc5, rfl, rfl, hb5, hS5⟩ := hcut
  obtain ⟨w5, hwc⟩ : ∃ x, x = wc := ⟨_, rfl⟩
  subst hwc
  obtain ⟨hc, hf⟩ := bcell hb5
  have lz0 : w.heap.size < w5.heap.size := by have := hb5.size; simp at this; omega
  have lz1 : w.heap.size + 1 < w5.heap.size := by have := hb5.size; simp at this; omega
  obtain ⟨kxc5b, -, lxc5b, -⟩ := Hs.bx [] [] hS5
  have kxc5b_0 : w5.cell? ⟨gc5, 0, none⟩ = some (.int .i64 (faceB m nf nt)) := kxc5b 0
  have kxc5b_1 : w5.cell? ⟨gc5, 1, none⟩ = some (.int .i64 (faceA m nf nt)) := kxc5b 1
  clear kxc5b
  go_wp2_with fail
  clear hc hf lz0 lz1 kxc5b_0 kxc5b_1 lxc5b
  refine (toMac_any (g0.below hb5 hB0) (Nat.le_trans hB0 hb5.size) b0.five (by omega)).mono ?_
  rintro e w6 ⟨q6_0f, q6_0b, q6_0c, q6_0l, q6_0d, rfl, ho6, hq⟩
  have hb6 := hb5.trans (hq.mono hb5.size)
  have hS6 := hS5.join hq ho6
  clear hb5 hS5 hq ho6
  obtain ⟨A6_0f, c6_0f, rfl, -⟩ := id (Hs.rdM [bx_ gc5 #[.int .i64 (faceB m nf nt), .int .i64 (faceA m nf nt)] 45] [] hS6).fr
  obtain ⟨A6_0b, c6_0b, rfl, -⟩ := id (Hs.rdM [bx_ gc5 #[.int .i64 (faceB m nf nt), .int .i64 (faceA m nf nt)] 45] [] hS6).bk
  obtain ⟨A6_0c, c6_0c, rfl, -⟩ := id (Hs.rdM [bx_ gc5 #[.int .i64 (faceB m nf nt), .int .i64 (faceA m nf nt)] 45] [] hS6).cr.cells
  obtain ⟨A6_0l, c6_0l, rfl, -⟩ := id (Hs.rdM [bx_ gc5 #[.int .i64 (faceB m nf nt), .int .i64 (faceA m nf nt)] 45] [] hS6).lp.cells
  obtain ⟨A6_0d, c6_0d, rfl, -⟩ := id (Hs.rdM [bx_ gc5 #[.int .i64 (faceB m nf nt), .int .i64 (faceA m nf nt)] 45] [] hS6).dr
  obtain ⟨hc, hf⟩ := bcell hb6
  have lz0 : w.heap.size < w6.heap.size := by have := hb6.size; simp at this; omega
  have lz1 : w.heap.size + 1 < w6.heap.size := by have := hb6.size; simp at this; omega
  obtain ⟨kxc5b, -, lxc5b, -⟩ := Hs.bx [] [mac_ ((.slice A6_0f (m).fr.length c6_0f)) ((.slice A6_0b (m).bk.length c6_0b)) ((.slice A6_0c (m).cr.length c6_0c)) ((.slice A6_0l (m).lp.length c6_0l)) ((.slice A6_0d (m).dr.length c6_0d)) (m)] hS6
  have kxc5b_0 : w6.cell? ⟨gc5, 0, none⟩ = some (.int .i64 (faceB m nf nt)) := kxc5b 0
  have kxc5b_1 : w6.cell? ⟨gc5, 1, none⟩ = some (.int .i64 (faceA m nf nt)) := kxc5b 1
  clear kxc5b
  go_upto_region 7 with fail
  clear hc hf lz0 lz1 kxc5b_0 kxc5b_1 lxc5b
  have hS6b1 := hS6.join (al1 _ _) (hs_bx w6 #[.int .i64 ((m).wd), .int .i64 ((m).rk), (.slice A6_0f (m).fr.length c6_0f), (.slice A6_0b (m).bk.length c6_0b), (.slice A6_0c (m).cr.length c6_0c), (.slice A6_0l (m).lp.length c6_0l), (.slice A6_0d (m).dr.length c6_0d)] 27)
  have hb6b1 := hb6.trans ((al1 w6 (.cells #[.int .i64 ((m).wd), .int .i64 ((m).rk), (.slice A6_0f (m).fr.length c6_0f), (.slice A6_0b (m).bk.length c6_0b), (.slice A6_0c (m).cr.length c6_0c), (.slice A6_0l (m).lp.length c6_0l), (.slice A6_0d (m).dr.length c6_0d)] 27)).mono hb6.size)
  clear hb6 hS6
  generalize hg6b1 : w6.heap.size = g6b1 at *
  generalize hw6b1 : w6.alloc (.cells #[.int .i64 ((m).wd), .int .i64 ((m).rk), (.slice A6_0f (m).fr.length c6_0f), (.slice A6_0b (m).bk.length c6_0b), (.slice A6_0c (m).cr.length c6_0c), (.slice A6_0l (m).lp.length c6_0l), (.slice A6_0d (m).dr.length c6_0d)] 27) = w7 at *
  clear hg6b1 hw6b1
  have hS7 := hS6b1
  have hb7 := hb6b1
  clear hS6b1 hb6b1
  go_cut [9, 10] (fun s9 s10 wx => ∃ (gc10 : Nat), s9 = .pointer (some ⟨gc10, 0, none⟩) ∧ s10 = .bool (faceOk m nf nt) ∧ Below ((w.alloc (.cells #[.int .i64 ((m).wd), .int .i64 ((m).rk), (.slice Af0 (m).fr.length cf0), (.slice Ab0 (m).bk.length cb0), (.slice Ac0 (m).cr.length cc0), (.slice Al0 (m).lp.length cl0), (.slice Ad0 (m).dr.length cd0)] 36)).alloc (.cells #[.int .i64 (nf), .int .i64 (nt)] 43)).heap.size ((w.alloc (.cells #[.int .i64 ((m).wd), .int .i64 ((m).rk), (.slice Af0 (m).fr.length cf0), (.slice Ab0 (m).bk.length cb0), (.slice Ac0 (m).cr.length cc0), (.slice Al0 (m).lp.length cl0), (.slice Ad0 (m).dr.length cd0)] 36)).alloc (.cells #[.int .i64 (nf), .int .i64 (nt)] 43)) wx ∧ Hs wx ((w.alloc (.cells #[.int .i64 ((m).wd), .int .i64 ((m).rk), (.slice Af0 (m).fr.length cf0), (.slice Ab0 (m).bk.length cb0), (.slice Ac0 (m).cr.length cc0), (.slice Al0 (m).lp.length cl0), (.slice Ad0 (m).dr.length cd0)] 36)).alloc (.cells #[.int .i64 (nf), .int .i64 (nt)] 43)).heap.size [bx_ gc5 #[.int .i64 (faceB m nf nt), .int .i64 (faceA m nf nt)] 45, mac_ ((.slice A6_0f (m).fr.length c6_0f)) ((.slice A6_0b (m).bk.length c6_0b)) ((.slice A6_0c (m).cr.length c6_0c)) ((.slice A6_0l (m).lp.length c6_0l)) ((.slice A6_0d (m).dr.length c6_0d)) (m), bx_ g6b1 #[.int .i64 ((m).wd), .int .i64 ((m).rk), (.slice A6_0f (m).fr.length c6_0f), (.slice A6_0b (m).bk.length c6_0b), (.slice A6_0c (m).cr.length c6_0c), (.slice A6_0l (m).lp.length c6_0l), (.slice A6_0d (m).dr.length c6_0d)] 27, bx_ gc10 #[.int .i64 (faceB m nf nt), .int .i64 (faceA m nf nt)] 45])
  case first =>
    have j0 : w7.cell? ⟨g6b1, 0, none⟩ = some (.int .i64 ((m).wd)) := (Hs.bx [bx_ gc5 #[.int .i64 (faceB m nf nt), .int .i64 (faceA m nf nt)] 45, mac_ ((.slice A6_0f (m).fr.length c6_0f)) ((.slice A6_0b (m).bk.length c6_0b)) ((.slice A6_0c (m).cr.length c6_0c)) ((.slice A6_0l (m).lp.length c6_0l)) ((.slice A6_0d (m).dr.length c6_0d)) (m)] [] hS7).1 0
    have jl0 : g6b1 < w7.heap.size := block_lt_of_cell j0
    have j1 : w7.cell? ⟨g6b1, 1, none⟩ = some (.int .i64 ((m).rk)) := (Hs.bx [bx_ gc5 #[.int .i64 (faceB m nf nt), .int .i64 (faceA m nf nt)] 45, mac_ ((.slice A6_0f (m).fr.length c6_0f)) ((.slice A6_0b (m).bk.length c6_0b)) ((.slice A6_0c (m).cr.length c6_0c)) ((.slice A6_0l (m).lp.length c6_0l)) ((.slice A6_0d (m).dr.length c6_0d)) (m)] [] hS7).1 1
    have jl1 : g6b1 < w7.heap.size := block_lt_of_cell j1
    have j2 : w7.cell? ⟨g6b1, 2, none⟩ = some ((.slice A6_0f (m).fr.length c6_0f)) := (Hs.bx [bx_ gc5 #[.int .i64 (faceB m nf nt), .int .i64 (faceA m nf nt)] 45, mac_ ((.slice A6_0f (m).fr.length c6_0f)) ((.slice A6_0b (m).bk.length c6_0b)) ((.slice A6_0c (m).cr.length c6_0c)) ((.slice A6_0l (m).lp.length c6_0l)) ((.slice A6_0d (m).dr.length c6_0d)) (m)] [] hS7).1 2
    have jl2 : g6b1 < w7.heap.size := block_lt_of_cell j2
    have j3 : w7.cell? ⟨g6b1, 3, none⟩ = some ((.slice A6_0b (m).bk.length c6_0b)) := (Hs.bx [bx_ gc5 #[.int .i64 (faceB m nf nt), .int .i64 (faceA m nf nt)] 45, mac_ ((.slice A6_0f (m).fr.length c6_0f)) ((.slice A6_0b (m).bk.length c6_0b)) ((.slice A6_0c (m).cr.length c6_0c)) ((.slice A6_0l (m).lp.length c6_0l)) ((.slice A6_0d (m).dr.length c6_0d)) (m)] [] hS7).1 3
    have jl3 : g6b1 < w7.heap.size := block_lt_of_cell j3
    have j4 : w7.cell? ⟨g6b1, 4, none⟩ = some ((.slice A6_0c (m).cr.length c6_0c)) := (Hs.bx [bx_ gc5 #[.int .i64 (faceB m nf nt), .int .i64 (faceA m nf nt)] 45, mac_ ((.slice A6_0f (m).fr.length c6_0f)) ((.slice A6_0b (m).bk.length c6_0b)) ((.slice A6_0c (m).cr.length c6_0c)) ((.slice A6_0l (m).lp.length c6_0l)) ((.slice A6_0d (m).dr.length c6_0d)) (m)] [] hS7).1 4
    have jl4 : g6b1 < w7.heap.size := block_lt_of_cell j4
    have j5 : w7.cell? ⟨g6b1, 5, none⟩ = some ((.slice A6_0l (m).lp.length c6_0l)) := (Hs.bx [bx_ gc5 #[.int .i64 (faceB m nf nt), .int .i64 (faceA m nf nt)] 45, mac_ ((.slice A6_0f (m).fr.length c6_0f)) ((.slice A6_0b (m).bk.length c6_0b)) ((.slice A6_0c (m).cr.length c6_0c)) ((.slice A6_0l (m).lp.length c6_0l)) ((.slice A6_0d (m).dr.length c6_0d)) (m)] [] hS7).1 5
    have jl5 : g6b1 < w7.heap.size := block_lt_of_cell j5
    have j6 : w7.cell? ⟨g6b1, 6, none⟩ = some ((.slice A6_0d (m).dr.length c6_0d)) := (Hs.bx [bx_ gc5 #[.int .i64 (faceB m nf nt), .int .i64 (faceA m nf nt)] 45, mac_ ((.slice A6_0f (m).fr.length c6_0f)) ((.slice A6_0b (m).bk.length c6_0b)) ((.slice A6_0c (m).cr.length c6_0c)) ((.slice A6_0l (m).lp.length c6_0l)) ((.slice A6_0d (m).dr.length c6_0d)) (m)] [] hS7).1 6
    have jl6 : g6b1 < w7.heap.size := block_lt_of_cell j6
    have j7 : w7.cell? ⟨w.heap.size + 1, 0, none⟩ = some (.int .i64 (nf)) := by rw [(bcell hb7).1 _ _ (by simp; try omega)]; first | (simp; done) | simp [World.cell?_alloc_lt]
    have jl7 : w.heap.size + 1 < w7.heap.size := block_lt_of_cell j7
    have j8 : w7.cell? ⟨w.heap.size + 1, 1, none⟩ = some (.int .i64 (nt)) := by rw [(bcell hb7).1 _ _ (by simp; try omega)]; first | (simp; done) | simp [World.cell?_alloc_lt]
    have jl8 : w.heap.size + 1 < w7.heap.size := block_lt_of_cell j8
    have hBx := Nat.le_trans hB0 hb7.size
    have gx0 := g0.below hb7 hB0
    have sx6_0 : SlM w7 w7.heap.size ((.slice A6_0f (m).fr.length c6_0f)) ((.slice A6_0b (m).bk.length c6_0b)) ((.slice A6_0c (m).cr.length c6_0c)) ((.slice A6_0l (m).lp.length c6_0l)) ((.slice A6_0d (m).dr.length c6_0d)) (m) := Hs.rdM [bx_ gc5 #[.int .i64 (faceB m nf nt), .int .i64 (faceA m nf nt)] 45] [bx_ g6b1 #[.int .i64 ((m).wd), .int .i64 ((m).rk), (.slice A6_0f (m).fr.length c6_0f), (.slice A6_0b (m).bk.length c6_0b), (.slice A6_0c (m).cr.length c6_0c), (.slice A6_0l (m).lp.length c6_0l), (.slice A6_0d (m).dr.length c6_0d)] 27] hS7
    have HK := Lib.hid (fun w' (hw : Below w7.heap.size w7 w') => show w'.cell? ⟨g6b1, 0, none⟩ = some (.int .i64 ((m).wd)) ∧ w'.cell? ⟨g6b1, 1, none⟩ = some (.int .i64 ((m).rk)) ∧ w'.cell? ⟨g6b1, 2, none⟩ = some ((.slice A6_0f (m).fr.length c6_0f)) ∧ w'.cell? ⟨g6b1, 3, none⟩ = some ((.slice A6_0b (m).bk.length c6_0b)) ∧ w'.cell? ⟨g6b1, 4, none⟩ = some ((.slice A6_0c (m).cr.length c6_0c)) ∧ w'.cell? ⟨g6b1, 5, none⟩ = some ((.slice A6_0l (m).lp.length c6_0l)) ∧ w'.cell? ⟨g6b1, 6, none⟩ = some ((.slice A6_0d (m).dr.length c6_0d)) ∧ w'.cell? ⟨w.heap.size + 1, 0, none⟩ = some (.int .i64 (nf)) ∧ w'.cell? ⟨w.heap.size + 1, 1, none⟩ = some (.int .i64 (nt)) ∧ Below w7.heap.size w7 w' from ⟨by rw [hw.cell (by simp only; omega)]; exact j0, by rw [hw.cell (by simp only; omega)]; exact j1, by rw [hw.cell (by simp only; omega)]; exact j2, by rw [hw.cell (by simp only; omega)]; exact j3, by rw [hw.cell (by simp only; omega)]; exact j4, by rw [hw.cell (by simp only; omega)]; exact j5, by rw [hw.cell (by simp only; omega)]; exact j6, by rw [hw.cell (by simp only; omega)]; exact j7, by rw [hw.cell (by simp only; omega)]; exact j8, hw⟩)
    clear j0 jl0 j1 jl1 j2 jl2 j3 jl3 j4 jl4 j5 jl5 j6 jl6 j7 jl7 j8 jl8
    go_region_held3 (fun w' => w'.cell? ⟨g6b1, 0, none⟩ = some (.int .i64 ((m).wd)) ∧ w'.cell? ⟨g6b1, 1, none⟩ = some (.int .i64 ((m).rk)) ∧ w'.cell? ⟨g6b1, 2, none⟩ = some ((.slice A6_0f (m).fr.length c6_0f)) ∧ w'.cell? ⟨g6b1, 3, none⟩ = some ((.slice A6_0b (m).bk.length c6_0b)) ∧ w'.cell? ⟨g6b1, 4, none⟩ = some ((.slice A6_0c (m).cr.length c6_0c)) ∧ w'.cell? ⟨g6b1, 5, none⟩ = some ((.slice A6_0l (m).lp.length c6_0l)) ∧ w'.cell? ⟨g6b1, 6, none⟩ = some ((.slice A6_0d (m).dr.length c6_0d)) ∧ w'.cell? ⟨w.heap.size + 1, 0, none⟩ = some (.int .i64 (nf)) ∧ w'.cell? ⟨w.heap.size + 1, 1, none⟩ = some (.int .i64 (nt)) ∧ Below w7.heap.size w7 w')
      (exact HK.out _ (by go_grown))
      (first
        | (go_at_call_of 24 (Go.Value.agg #[.int .i64 (nf), .int .i64 (nt)]); (refine (toNeedle_any (nf) (nt) _).mono ?_); rintro e w8 ⟨rfl, hq⟩; have hr8 : Below w7.heap.size w7 w8 := Below.trans (show Below w7.heap.size w7 _ by go_grown) (hq.mono (Below.size (w := w7) (B := w7.heap.size) (by go_grown))); have hz8 := hr8.size; have hq8 := hq; clear hq; (first | (have dz8 := alloc_fwd hq8) | (have dz8 := alloc_fwd_drew hq8) | (have dz8 := alloc_fwd_in hq8) | (have dz8 := alloc_fwd_drewN hq8) | (have dz8 := keep_fwd hq8 dz0) | skip); (first | (have hbx := box2 dz8; obtain ⟨d8a, d8b, d8c, d8d, d8e⟩ := hbx) | skip))
        | (go_at_call 27; (refine (impl_FacingOf_v (sx6_0.below (show Below w7.heap.size w7 _ by go_grown) (Nat.le_refl _)) (Below.size (w := w7) (B := w7.heap.size) (by go_grown))).mono ?_); rintro e w9 ⟨rfl, hq⟩; have hr9 : Below w7.heap.size w7 w9 := Below.trans (show Below w7.heap.size w7 _ by go_grown) (hq.mono (Below.size (w := w7) (B := w7.heap.size) (by go_grown))); have hz9 := hr9.size; have hq9 := hq; clear hq; (first | (have dz9 := alloc_fwd hq9) | (have dz9 := alloc_fwd_drew hq9) | (have dz9 := alloc_fwd_in hq9) | (have dz9 := alloc_fwd_drewN hq9) | (have dz9 := keep_fwd hq9 dz8) | skip); (first | (have hbx := box2 dz9; obtain ⟨d9a, d9b, d9c, d9d, d9e⟩ := hbx) | skip)))
    · skip
      have hSa := (hS7.below hr9).join (al1 _ _) (hs_bx w9 #[.int .i64 (faceB m nf nt), .int .i64 (faceA m nf nt)] 45)
      have hba := hb7.trans ((hr9.trans ((al1 w9 (.cells #[.int .i64 (faceB m nf nt), .int .i64 (faceA m nf nt)] 45)).mono hz9)).mono hb7.size)
      go_wp2_with fail
      go_meet
      exact ⟨_, rfl, rfl, hba, hSa⟩
    · skip
      have hSa := ((hS7.join hr9 (hs_box_at hr9 (hz8) dz9)).setBx [bx_ gc5 #[.int .i64 (faceB m nf nt), .int .i64 (faceA m nf nt)] 45, mac_ ((.slice A6_0f (m).fr.length c6_0f)) ((.slice A6_0b (m).bk.length c6_0b)) ((.slice A6_0c (m).cr.length c6_0c)) ((.slice A6_0l (m).lp.length c6_0l)) ((.slice A6_0d (m).dr.length c6_0d)) (m), bx_ g6b1 #[.int .i64 ((m).wd), .int .i64 ((m).rk), (.slice A6_0f (m).fr.length c6_0f), (.slice A6_0b (m).bk.length c6_0b), (.slice A6_0c (m).cr.length c6_0c), (.slice A6_0l (m).lp.length c6_0l), (.slice A6_0d (m).dr.length c6_0d)] 27] [] 0 (.int .i64 (faceB m nf nt)))
      have hSa := Hs.setBx [bx_ gc5 #[.int .i64 (faceB m nf nt), .int .i64 (faceA m nf nt)] 45, mac_ ((.slice A6_0f (m).fr.length c6_0f)) ((.slice A6_0b (m).bk.length c6_0b)) ((.slice A6_0c (m).cr.length c6_0c)) ((.slice A6_0l (m).lp.length c6_0l)) ((.slice A6_0d (m).dr.length c6_0d)) (m), bx_ g6b1 #[.int .i64 ((m).wd), .int .i64 ((m).rk), (.slice A6_0f (m).fr.length c6_0f), (.slice A6_0b (m).bk.length c6_0b), (.slice A6_0c (m).cr.length c6_0c), (.slice A6_0l (m).lp.length c6_0l), (.slice A6_0d (m).dr.length c6_0d)] 27] [] hSa 1 (.int .i64 (faceA m nf nt))
      have hba := hb7.trans ((show Below w7.heap.size w7 _ from (setB (p := ⟨w8.heap.size, 1, none⟩) (x := .int .i64 (faceA m nf nt)) (hz8) (setB (p := ⟨w8.heap.size, 0, none⟩) (x := .int .i64 (faceB m nf nt)) (hz8) hr9))).mono hb7.size)
      go_wp2_with fail
      go_meet
      exact ⟨_, rfl, rfl, hba, hSa⟩
    · skip
      have hSa := ((hS7.join hr9 (hs_box_at hr9 (Nat.le_refl _) dz9)).setBx [bx_ gc5 #[.int .i64 (faceB m nf nt), .int .i64 (faceA m nf nt)] 45, mac_ ((.slice A6_0f (m).fr.length c6_0f)) ((.slice A6_0b (m).bk.length c6_0b)) ((.slice A6_0c (m).cr.length c6_0c)) ((.slice A6_0l (m).lp.length c6_0l)) ((.slice A6_0d (m).dr.length c6_0d)) (m), bx_ g6b1 #[.int .i64 ((m).wd), .int .i64 ((m).rk), (.slice A6_0f (m).fr.length c6_0f), (.slice A6_0b (m).bk.length c6_0b), (.slice A6_0c (m).cr.length c6_0c), (.slice A6_0l (m).lp.length c6_0l), (.slice A6_0d (m).dr.length c6_0d)] 27] [] 0 (.int .i64 (faceB m nf nt)))
      have hSa := Hs.setBx [bx_ gc5 #[.int .i64 (faceB m nf nt), .int .i64 (faceA m nf nt)] 45, mac_ ((.slice A6_0f (m).fr.length c6_0f)) ((.slice A6_0b (m).bk.length c6_0b)) ((.slice A6_0c (m).cr.length c6_0c)) ((.slice A6_0l (m).lp.length c6_0l)) ((.slice A6_0d (m).dr.length c6_0d)) (m), bx_ g6b1 #[.int .i64 ((m).wd), .int .i64 ((m).rk), (.slice A6_0f (m).fr.length c6_0f), (.slice A6_0b (m).bk.length c6_0b), (.slice A6_0c (m).cr.length c6_0c), (.slice A6_0l (m).lp.length c6_0l), (.slice A6_0d (m).dr.length c6_0d)] 27] [] hSa 1 (.int .i64 (faceA m nf nt))
      have hba := hb7.trans ((show Below w7.heap.size w7 _ from (setB (p := ⟨w7.heap.size, 1, none⟩) (x := .int .i64 (faceA m nf nt)) (Nat.le_refl _) (setB (p := ⟨w7.heap.size, 0, none⟩) (x := .int .i64 (faceB m nf nt)) (Nat.le_refl _) hr9))).mono hb7.size)
      go_wp2_with fail
      go_meet
      exact ⟨_, rfl, rfl, hba, hSa⟩
  case rest =>
  clear hb7 hS7
  obtain ⟨gc10, rfl, rfl, hb10, hS10⟩ := hcut
  obtain ⟨w10, hwc⟩ : ∃ x, x = wc := ⟨_, rfl⟩
  subst hwc
  obtain ⟨hc, hf⟩ := bcell hb10
  have lz0 : w.heap.size < w10.heap.size := by have := hb10.size; simp at this; omega
  have lz1 : w.heap.size + 1 < w10.heap.size := by have := hb10.size; simp at this; omega
  obtain ⟨kxc5b, -, lxc5b, -⟩ := Hs.bx [] [mac_ ((.slice A6_0f (m).fr.length c6_0f)) ((.slice A6_0b (m).bk.length c6_0b)) ((.slice A6_0c (m).cr.length c6_0c)) ((.slice A6_0l (m).lp.length c6_0l)) ((.slice A6_0d (m).dr.length c6_0d)) (m), bx_ g6b1 #[.int .i64 ((m).wd), .int .i64 ((m).rk), (.slice A6_0f (m).fr.length c6_0f), (.slice A6_0b (m).bk.length c6_0b), (.slice A6_0c (m).cr.length c6_0c), (.slice A6_0l (m).lp.length c6_0l), (.slice A6_0d (m).dr.length c6_0d)] 27, bx_ gc10 #[.int .i64 (faceB m nf nt), .int .i64 (faceA m nf nt)] 45] hS10
  have kxc5b_0 : w10.cell? ⟨gc5, 0, none⟩ = some (.int .i64 (faceB m nf nt)) := kxc5b 0
  have kxc5b_1 : w10.cell? ⟨gc5, 1, none⟩ = some (.int .i64 (faceA m nf nt)) := kxc5b 1
  clear kxc5b
  obtain ⟨kx6b1, -, lx6b1, -⟩ := Hs.bx [bx_ gc5 #[.int .i64 (faceB m nf nt), .int .i64 (faceA m nf nt)] 45, mac_ ((.slice A6_0f (m).fr.length c6_0f)) ((.slice A6_0b (m).bk.length c6_0b)) ((.slice A6_0c (m).cr.length c6_0c)) ((.slice A6_0l (m).lp.length c6_0l)) ((.slice A6_0d (m).dr.length c6_0d)) (m)] [bx_ gc10 #[.int .i64 (faceB m nf nt), .int .i64 (faceA m nf nt)] 45] hS10
  have kx6b1_0 : w10.cell? ⟨g6b1, 0, none⟩ = some (.int .i64 ((m).wd)) := kx6b1 0
  have kx6b1_1 : w10.cell? ⟨g6b1, 1, none⟩ = some (.int .i64 ((m).rk)) := kx6b1 1
  have kx6b1_2 : w10.cell? ⟨g6b1, 2, none⟩ = some ((.slice A6_0f (m).fr.length c6_0f)) := kx6b1 2
  have kx6b1_3 : w10.cell? ⟨g6b1, 3, none⟩ = some ((.slice A6_0b (m).bk.length c6_0b)) := kx6b1 3
  have kx6b1_4 : w10.cell? ⟨g6b1, 4, none⟩ = some ((.slice A6_0c (m).cr.length c6_0c)) := kx6b1 4
  have kx6b1_5 : w10.cell? ⟨g6b1, 5, none⟩ = some ((.slice A6_0l (m).lp.length c6_0l)) := kx6b1 5
  have kx6b1_6 : w10.cell? ⟨g6b1, 6, none⟩ = some ((.slice A6_0d (m).dr.length c6_0d)) := kx6b1 6
  clear kx6b1
  obtain ⟨kxc10b, -, lxc10b, -⟩ := Hs.bx [bx_ gc5 #[.int .i64 (faceB m nf nt), .int .i64 (faceA m nf nt)] 45, mac_ ((.slice A6_0f (m).fr.length c6_0f)) ((.slice A6_0b (m).bk.length c6_0b)) ((.slice A6_0c (m).cr.length c6_0c)) ((.slice A6_0l (m).lp.length c6_0l)) ((.slice A6_0d (m).dr.length c6_0d)) (m), bx_ g6b1 #[.int .i64 ((m).wd), .int .i64 ((m).rk), (.slice A6_0f (m).fr.length c6_0f), (.slice A6_0b (m).bk.length c6_0b), (.slice A6_0c (m).cr.length c6_0c), (.slice A6_0l (m).lp.length c6_0l), (.slice A6_0d (m).dr.length c6_0d)] 27] [] hS10
  have kxc10b_0 : w10.cell? ⟨gc10, 0, none⟩ = some (.int .i64 (faceB m nf nt)) := kxc10b 0
  have kxc10b_1 : w10.cell? ⟨gc10, 1, none⟩ = some (.int .i64 (faceA m nf nt)) := kxc10b 1
  clear kxc10b
  go_wp2_with fail
  clear hc hf lz0 lz1 kxc5b_0 kxc5b_1 lxc5b kx6b1_0 kx6b1_1 kx6b1_2 kx6b1_3 kx6b1_4 kx6b1_5 kx6b1_6 lx6b1 kxc10b_0 kxc10b_1 lxc10b
  refine (eqNeedle_yes _ _ _).mono ?_
  rintro e w11 ⟨rfl, hq⟩
  have hb11 := hb10.trans (hq.mono hb10.size)
  have hS11 := hS10.below hq
  clear hb10 hS10 hq
  obtain ⟨hc, hf⟩ := bcell hb11
  have lz0 : w.heap.size < w11.heap.size := by have := hb11.size; simp at this; omega
  have lz1 : w.heap.size + 1 < w11.heap.size := by have := hb11.size; simp at this; omega
  obtain ⟨kxc5b, -, lxc5b, -⟩ := Hs.bx [] [mac_ ((.slice A6_0f (m).fr.length c6_0f)) ((.slice A6_0b (m).bk.length c6_0b)) ((.slice A6_0c (m).cr.length c6_0c)) ((.slice A6_0l (m).lp.length c6_0l)) ((.slice A6_0d (m).dr.length c6_0d)) (m), bx_ g6b1 #[.int .i64 ((m).wd), .int .i64 ((m).rk), (.slice A6_0f (m).fr.length c6_0f), (.slice A6_0b (m).bk.length c6_0b), (.slice A6_0c (m).cr.length c6_0c), (.slice A6_0l (m).lp.length c6_0l), (.slice A6_0d (m).dr.length c6_0d)] 27, bx_ gc10 #[.int .i64 (faceB m nf nt), .int .i64 (faceA m nf nt)] 45] hS11
  have kxc5b_0 : w11.cell? ⟨gc5, 0, none⟩ = some (.int .i64 (faceB m nf nt)) := kxc5b 0
  have kxc5b_1 : w11.cell? ⟨gc5, 1, none⟩ = some (.int .i64 (faceA m nf nt)) := kxc5b 1
  clear kxc5b
  obtain ⟨kx6b1, -, lx6b1, -⟩ := Hs.bx [bx_ gc5 #[.int .i64 (faceB m nf nt), .int .i64 (faceA m nf nt)] 45, mac_ ((.slice A6_0f (m).fr.length c6_0f)) ((.slice A6_0b (m).bk.length c6_0b)) ((.slice A6_0c (m).cr.length c6_0c)) ((.slice A6_0l (m).lp.length c6_0l)) ((.slice A6_0d (m).dr.length c6_0d)) (m)] [bx_ gc10 #[.int .i64 (faceB m nf nt), .int .i64 (faceA m nf nt)] 45] hS11
  have kx6b1_0 : w11.cell? ⟨g6b1, 0, none⟩ = some (.int .i64 ((m).wd)) := kx6b1 0
  have kx6b1_1 : w11.cell? ⟨g6b1, 1, none⟩ = some (.int .i64 ((m).rk)) := kx6b1 1
  have kx6b1_2 : w11.cell? ⟨g6b1, 2, none⟩ = some ((.slice A6_0f (m).fr.length c6_0f)) := kx6b1 2
  have kx6b1_3 : w11.cell? ⟨g6b1, 3, none⟩ = some ((.slice A6_0b (m).bk.length c6_0b)) := kx6b1 3
  have kx6b1_4 : w11.cell? ⟨g6b1, 4, none⟩ = some ((.slice A6_0c (m).cr.length c6_0c)) := kx6b1 4
  have kx6b1_5 : w11.cell? ⟨g6b1, 5, none⟩ = some ((.slice A6_0l (m).lp.length c6_0l)) := kx6b1 5
  have kx6b1_6 : w11.cell? ⟨g6b1, 6, none⟩ = some ((.slice A6_0d (m).dr.length c6_0d)) := kx6b1 6
  clear kx6b1
  obtain ⟨kxc10b, -, lxc10b, -⟩ := Hs.bx [bx_ gc5 #[.int .i64 (faceB m nf nt), .int .i64 (faceA m nf nt)] 45, mac_ ((.slice A6_0f (m).fr.length c6_0f)) ((.slice A6_0b (m).bk.length c6_0b)) ((.slice A6_0c (m).cr.length c6_0c)) ((.slice A6_0l (m).lp.length c6_0l)) ((.slice A6_0d (m).dr.length c6_0d)) (m), bx_ g6b1 #[.int .i64 ((m).wd), .int .i64 ((m).rk), (.slice A6_0f (m).fr.length c6_0f), (.slice A6_0b (m).bk.length c6_0b), (.slice A6_0c (m).cr.length c6_0c), (.slice A6_0l (m).lp.length c6_0l), (.slice A6_0d (m).dr.length c6_0d)] 27] [] hS11
  have kxc10b_0 : w11.cell? ⟨gc10, 0, none⟩ = some (.int .i64 (faceB m nf nt)) := kxc10b 0
  have kxc10b_1 : w11.cell? ⟨gc10, 1, none⟩ = some (.int .i64 (faceA m nf nt)) := kxc10b 1
  clear kxc10b
  go_wp2_with fail
  clear hc hf lz0 lz1 kxc5b_0 kxc5b_1 lxc5b kx6b1_0 kx6b1_1 kx6b1_2 kx6b1_3 kx6b1_4 kx6b1_5 kx6b1_6 lx6b1 kxc10b_0 kxc10b_1 lxc10b
  have j0 : w11.cell? ⟨g6b1, 0, none⟩ = some (.int .i64 ((m).wd)) := (Hs.bx [bx_ gc5 #[.int .i64 (faceB m nf nt), .int .i64 (faceA m nf nt)] 45, mac_ ((.slice A6_0f (m).fr.length c6_0f)) ((.slice A6_0b (m).bk.length c6_0b)) ((.slice A6_0c (m).cr.length c6_0c)) ((.slice A6_0l (m).lp.length c6_0l)) ((.slice A6_0d (m).dr.length c6_0d)) (m)] [bx_ gc10 #[.int .i64 (faceB m nf nt), .int .i64 (faceA m nf nt)] 45] hS11).1 0
  have jl0 : g6b1 < w11.heap.size := block_lt_of_cell j0
  have j1 : w11.cell? ⟨g6b1, 1, none⟩ = some (.int .i64 ((m).rk)) := (Hs.bx [bx_ gc5 #[.int .i64 (faceB m nf nt), .int .i64 (faceA m nf nt)] 45, mac_ ((.slice A6_0f (m).fr.length c6_0f)) ((.slice A6_0b (m).bk.length c6_0b)) ((.slice A6_0c (m).cr.length c6_0c)) ((.slice A6_0l (m).lp.length c6_0l)) ((.slice A6_0d (m).dr.length c6_0d)) (m)] [bx_ gc10 #[.int .i64 (faceB m nf nt), .int .i64 (faceA m nf nt)] 45] hS11).1 1
  have jl1 : g6b1 < w11.heap.size := block_lt_of_cell j1
  have j2 : w11.cell? ⟨g6b1, 2, none⟩ = some ((.slice A6_0f (m).fr.length c6_0f)) := (Hs.bx [bx_ gc5 #[.int .i64 (faceB m nf nt), .int .i64 (faceA m nf nt)] 45, mac_ ((.slice A6_0f (m).fr.length c6_0f)) ((.slice A6_0b (m).bk.length c6_0b)) ((.slice A6_0c (m).cr.length c6_0c)) ((.slice A6_0l (m).lp.length c6_0l)) ((.slice A6_0d (m).dr.length c6_0d)) (m)] [bx_ gc10 #[.int .i64 (faceB m nf nt), .int .i64 (faceA m nf nt)] 45] hS11).1 2
  have jl2 : g6b1 < w11.heap.size := block_lt_of_cell j2
  have j3 : w11.cell? ⟨g6b1, 3, none⟩ = some ((.slice A6_0b (m).bk.length c6_0b)) := (Hs.bx [bx_ gc5 #[.int .i64 (faceB m nf nt), .int .i64 (faceA m nf nt)] 45, mac_ ((.slice A6_0f (m).fr.length c6_0f)) ((.slice A6_0b (m).bk.length c6_0b)) ((.slice A6_0c (m).cr.length c6_0c)) ((.slice A6_0l (m).lp.length c6_0l)) ((.slice A6_0d (m).dr.length c6_0d)) (m)] [bx_ gc10 #[.int .i64 (faceB m nf nt), .int .i64 (faceA m nf nt)] 45] hS11).1 3
  have jl3 : g6b1 < w11.heap.size := block_lt_of_cell j3
  have j4 : w11.cell? ⟨g6b1, 4, none⟩ = some ((.slice A6_0c (m).cr.length c6_0c)) := (Hs.bx [bx_ gc5 #[.int .i64 (faceB m nf nt), .int .i64 (faceA m nf nt)] 45, mac_ ((.slice A6_0f (m).fr.length c6_0f)) ((.slice A6_0b (m).bk.length c6_0b)) ((.slice A6_0c (m).cr.length c6_0c)) ((.slice A6_0l (m).lp.length c6_0l)) ((.slice A6_0d (m).dr.length c6_0d)) (m)] [bx_ gc10 #[.int .i64 (faceB m nf nt), .int .i64 (faceA m nf nt)] 45] hS11).1 4
  have jl4 : g6b1 < w11.heap.size := block_lt_of_cell j4
  have j5 : w11.cell? ⟨g6b1, 5, none⟩ = some ((.slice A6_0l (m).lp.length c6_0l)) := (Hs.bx [bx_ gc5 #[.int .i64 (faceB m nf nt), .int .i64 (faceA m nf nt)] 45, mac_ ((.slice A6_0f (m).fr.length c6_0f)) ((.slice A6_0b (m).bk.length c6_0b)) ((.slice A6_0c (m).cr.length c6_0c)) ((.slice A6_0l (m).lp.length c6_0l)) ((.slice A6_0d (m).dr.length c6_0d)) (m)] [bx_ gc10 #[.int .i64 (faceB m nf nt), .int .i64 (faceA m nf nt)] 45] hS11).1 5
  have jl5 : g6b1 < w11.heap.size := block_lt_of_cell j5
  have j6 : w11.cell? ⟨g6b1, 6, none⟩ = some ((.slice A6_0d (m).dr.length c6_0d)) := (Hs.bx [bx_ gc5 #[.int .i64 (faceB m nf nt), .int .i64 (faceA m nf nt)] 45, mac_ ((.slice A6_0f (m).fr.length c6_0f)) ((.slice A6_0b (m).bk.length c6_0b)) ((.slice A6_0c (m).cr.length c6_0c)) ((.slice A6_0l (m).lp.length c6_0l)) ((.slice A6_0d (m).dr.length c6_0d)) (m)] [bx_ gc10 #[.int .i64 (faceB m nf nt), .int .i64 (faceA m nf nt)] 45] hS11).1 6
  have jl6 : g6b1 < w11.heap.size := block_lt_of_cell j6
  have j7 : w11.cell? ⟨w.heap.size, 0, none⟩ = some (.int .i64 ((m).wd)) := by rw [(bcell hb11).1 _ _ (by simp; try omega)]; first | (simp; done) | simp [World.cell?_alloc_lt]
  have jl7 : w.heap.size < w11.heap.size := block_lt_of_cell j7
  have j8 : w11.cell? ⟨w.heap.size, 1, none⟩ = some (.int .i64 ((m).rk)) := by rw [(bcell hb11).1 _ _ (by simp; try omega)]; first | (simp; done) | simp [World.cell?_alloc_lt]
  have jl8 : w.heap.size < w11.heap.size := block_lt_of_cell j8
  have j9 : w11.cell? ⟨w.heap.size, 2, none⟩ = some ((.slice Af0 (m).fr.length cf0)) := by rw [(bcell hb11).1 _ _ (by simp; try omega)]; first | (simp; done) | simp [World.cell?_alloc_lt]
  have jl9 : w.heap.size < w11.heap.size := block_lt_of_cell j9
  have j10 : w11.cell? ⟨w.heap.size, 3, none⟩ = some ((.slice Ab0 (m).bk.length cb0)) := by rw [(bcell hb11).1 _ _ (by simp; try omega)]; first | (simp; done) | simp [World.cell?_alloc_lt]
  have jl10 : w.heap.size < w11.heap.size := block_lt_of_cell j10
  have j11 : w11.cell? ⟨w.heap.size, 4, none⟩ = some ((.slice Ac0 (m).cr.length cc0)) := by rw [(bcell hb11).1 _ _ (by simp; try omega)]; first | (simp; done) | simp [World.cell?_alloc_lt]
  have jl11 : w.heap.size < w11.heap.size := block_lt_of_cell j11
  have j12 : w11.cell? ⟨w.heap.size, 5, none⟩ = some ((.slice Al0 (m).lp.length cl0)) := by rw [(bcell hb11).1 _ _ (by simp; try omega)]; first | (simp; done) | simp [World.cell?_alloc_lt]
  have jl12 : w.heap.size < w11.heap.size := block_lt_of_cell j12
  have j13 : w11.cell? ⟨w.heap.size, 6, none⟩ = some ((.slice Ad0 (m).dr.length cd0)) := by rw [(bcell hb11).1 _ _ (by simp; try omega)]; first | (simp; done) | simp [World.cell?_alloc_lt]
  have jl13 : w.heap.size < w11.heap.size := block_lt_of_cell j13
  have hBx := Nat.le_trans hB0 hb11.size
  have gx0 := g0.below hb11 hB0
  have sx6_0 : SlM w11 w11.heap.size ((.slice A6_0f (m).fr.length c6_0f)) ((.slice A6_0b (m).bk.length c6_0b)) ((.slice A6_0c (m).cr.length c6_0c)) ((.slice A6_0l (m).lp.length c6_0l)) ((.slice A6_0d (m).dr.length c6_0d)) (m) := Hs.rdM [bx_ gc5 #[.int .i64 (faceB m nf nt), .int .i64 (faceA m nf nt)] 45] [bx_ g6b1 #[.int .i64 ((m).wd), .int .i64 ((m).rk), (.slice A6_0f (m).fr.length c6_0f), (.slice A6_0b (m).bk.length c6_0b), (.slice A6_0c (m).cr.length c6_0c), (.slice A6_0l (m).lp.length c6_0l), (.slice A6_0d (m).dr.length c6_0d)] 27, bx_ gc10 #[.int .i64 (faceB m nf nt), .int .i64 (faceA m nf nt)] 45] hS11
  have HK := Lib.hid (fun w' (hw : Below w11.heap.size w11 w') => show w'.cell? ⟨g6b1, 0, none⟩ = some (.int .i64 ((m).wd)) ∧ w'.cell? ⟨g6b1, 1, none⟩ = some (.int .i64 ((m).rk)) ∧ w'.cell? ⟨g6b1, 2, none⟩ = some ((.slice A6_0f (m).fr.length c6_0f)) ∧ w'.cell? ⟨g6b1, 3, none⟩ = some ((.slice A6_0b (m).bk.length c6_0b)) ∧ w'.cell? ⟨g6b1, 4, none⟩ = some ((.slice A6_0c (m).cr.length c6_0c)) ∧ w'.cell? ⟨g6b1, 5, none⟩ = some ((.slice A6_0l (m).lp.length c6_0l)) ∧ w'.cell? ⟨g6b1, 6, none⟩ = some ((.slice A6_0d (m).dr.length c6_0d)) ∧ w'.cell? ⟨w.heap.size, 0, none⟩ = some (.int .i64 ((m).wd)) ∧ w'.cell? ⟨w.heap.size, 1, none⟩ = some (.int .i64 ((m).rk)) ∧ w'.cell? ⟨w.heap.size, 2, none⟩ = some ((.slice Af0 (m).fr.length cf0)) ∧ w'.cell? ⟨w.heap.size, 3, none⟩ = some ((.slice Ab0 (m).bk.length cb0)) ∧ w'.cell? ⟨w.heap.size, 4, none⟩ = some ((.slice Ac0 (m).cr.length cc0)) ∧ w'.cell? ⟨w.heap.size, 5, none⟩ = some ((.slice Al0 (m).lp.length cl0)) ∧ w'.cell? ⟨w.heap.size, 6, none⟩ = some ((.slice Ad0 (m).dr.length cd0)) ∧ Below w11.heap.size w11 w' from ⟨by rw [hw.cell (by simp only; omega)]; exact j0, by rw [hw.cell (by simp only; omega)]; exact j1, by rw [hw.cell (by simp only; omega)]; exact j2, by rw [hw.cell (by simp only; omega)]; exact j3, by rw [hw.cell (by simp only; omega)]; exact j4, by rw [hw.cell (by simp only; omega)]; exact j5, by rw [hw.cell (by simp only; omega)]; exact j6, by rw [hw.cell (by simp only; omega)]; exact j7, by rw [hw.cell (by simp only; omega)]; exact j8, by rw [hw.cell (by simp only; omega)]; exact j9, by rw [hw.cell (by simp only; omega)]; exact j10, by rw [hw.cell (by simp only; omega)]; exact j11, by rw [hw.cell (by simp only; omega)]; exact j12, by rw [hw.cell (by simp only; omega)]; exact j13, hw⟩)
  clear j0 jl0 j1 jl1 j2 jl2 j3 jl3 j4 jl4 j5 jl5 j6 jl6 j7 jl7 j8 jl8 j9 jl9 j10 jl10 j11 jl11 j12 jl12 j13 jl13
  go_region_held3 (fun w' => w'.cell? ⟨g6b1, 0, none⟩ = some (.int .i64 ((m).wd)) ∧ w'.cell? ⟨g6b1, 1, none⟩ = some (.int .i64 ((m).rk)) ∧ w'.cell? ⟨g6b1, 2, none⟩ = some ((.slice A6_0f (m).fr.length c6_0f)) ∧ w'.cell? ⟨g6b1, 3, none⟩ = some ((.slice A6_0b (m).bk.length c6_0b)) ∧ w'.cell? ⟨g6b1, 4, none⟩ = some ((.slice A6_0c (m).cr.length c6_0c)) ∧ w'.cell? ⟨g6b1, 5, none⟩ = some ((.slice A6_0l (m).lp.length c6_0l)) ∧ w'.cell? ⟨g6b1, 6, none⟩ = some ((.slice A6_0d (m).dr.length c6_0d)) ∧ w'.cell? ⟨w.heap.size, 0, none⟩ = some (.int .i64 ((m).wd)) ∧ w'.cell? ⟨w.heap.size, 1, none⟩ = some (.int .i64 ((m).rk)) ∧ w'.cell? ⟨w.heap.size, 2, none⟩ = some ((.slice Af0 (m).fr.length cf0)) ∧ w'.cell? ⟨w.heap.size, 3, none⟩ = some ((.slice Ab0 (m).bk.length cb0)) ∧ w'.cell? ⟨w.heap.size, 4, none⟩ = some ((.slice Ac0 (m).cr.length cc0)) ∧ w'.cell? ⟨w.heap.size, 5, none⟩ = some ((.slice Al0 (m).lp.length cl0)) ∧ w'.cell? ⟨w.heap.size, 6, none⟩ = some ((.slice Ad0 (m).dr.length cd0)) ∧ Below w11.heap.size w11 w')
    (first | exact HK.out _ (by first | assumption | exact Below.refl _ _ | exact drewN_below _ _ _ | exact (Below.refl _ _).drew))
    (first
      | (go_at_call_of 19 (Go.Value.agg #[.int .i64 ((m).wd), .int .i64 ((m).rk), (.slice Af0 (m).fr.length cf0), (.slice Ab0 (m).bk.length cb0), (.slice Ac0 (m).cr.length cc0), (.slice Al0 (m).lp.length cl0), (.slice Ad0 (m).dr.length cd0)]); (refine (toMac_any (gx0.below (by first | assumption | exact Below.refl _ _ | exact drewN_below _ _ _ | exact (Below.refl _ _).drew) hBx) (Nat.le_trans hBx (Below.size (w := w11) (B := w11.heap.size) (by first | assumption | exact Below.refl _ _ | exact drewN_below _ _ _ | exact (Below.refl _ _).drew))) b0.five (by omega)).mono ?_); rintro e w12 ⟨q12_0f, q12_0b, q12_0c, q12_0l, q12_0d, rfl, ho12, hq⟩; have hr12 : Below w11.heap.size w11 w12 := Below.trans (by first | assumption | exact Below.refl _ _ | exact drewN_below _ _ _ | exact (Below.refl _ _).drew) (hq.mono (Below.size (w := w11) (B := w11.heap.size) (by first | assumption | exact Below.refl _ _ | exact drewN_below _ _ _ | exact (Below.refl _ _).drew))); have so12_0 := Hs.rdM [] [] ho12; obtain ⟨A12_0f, c12_0f, rfl, -⟩ := id so12_0.fr; obtain ⟨A12_0b, c12_0b, rfl, -⟩ := id so12_0.bk; obtain ⟨A12_0c, c12_0c, rfl, -⟩ := id so12_0.cr.cells; obtain ⟨A12_0l, c12_0l, rfl, -⟩ := id so12_0.lp.cells; obtain ⟨A12_0d, c12_0d, rfl, -⟩ := id so12_0.dr; have hS12 := hS11.join hr12 ho12)
      | (go_at_call 14; (refine (eqMac_yes (sx6_0.below (by first | assumption | exact Below.refl _ _ | exact drewN_below _ _ _ | exact (Below.refl _ _).drew) (Nat.le_refl _)) so12_0 (Below.size (w := w11) (B := w11.heap.size) (by first | assumption | exact Below.refl _ _ | exact drewN_below _ _ _ | exact (Below.refl _ _).drew)) (Nat.le_refl _)).mono ?_); rintro e w13 ⟨rfl, hq⟩; have hr13 : Below w11.heap.size w11 w13 := Below.trans (by first | assumption | exact Below.refl _ _ | exact drewN_below _ _ _ | exact (Below.refl _ _).drew) (hq.mono (Below.size (w := w11) (B := w11.heap.size) (by first | assumption | exact Below.refl _ _ | exact drewN_below _ _ _ | exact (Below.refl _ _).drew))); have so12_0 := (so12_0.below hq (Nat.le_refl _)).mono hq.size; have hS13 := hS12.below hq))
  have hb13 := hb11.trans (hr13.mono hb11.size)
  clear HK hBx gx0 sx6_0
  obtain ⟨hc, hf⟩ := bcell hb13
  have lz0 : w.heap.size < w13.heap.size := by have := hb13.size; simp at this; omega
  have lz1 : w.heap.size + 1 < w13.heap.size := by have := hb13.size; simp at this; omega
  obtain ⟨kxc5b, -, lxc5b, -⟩ := Hs.bx [] [mac_ ((.slice A6_0f (m).fr.length c6_0f)) ((.slice A6_0b (m).bk.length c6_0b)) ((.slice A6_0c (m).cr.length c6_0c)) ((.slice A6_0l (m).lp.length c6_0l)) ((.slice A6_0d (m).dr.length c6_0d)) (m), bx_ g6b1 #[.int .i64 ((m).wd), .int .i64 ((m).rk), (.slice A6_0f (m).fr.length c6_0f), (.slice A6_0b (m).bk.length c6_0b), (.slice A6_0c (m).cr.length c6_0c), (.slice A6_0l (m).lp.length c6_0l), (.slice A6_0d (m).dr.length c6_0d)] 27, bx_ gc10 #[.int .i64 (faceB m nf nt), .int .i64 (faceA m nf nt)] 45, mac_ ((.slice A12_0f (m).fr.length c12_0f)) ((.slice A12_0b (m).bk.length c12_0b)) ((.slice A12_0c (m).cr.length c12_0c)) ((.slice A12_0l (m).lp.length c12_0l)) ((.slice A12_0d (m).dr.length c12_0d)) (m)] hS13
  have kxc5b_0 : w13.cell? ⟨gc5, 0, none⟩ = some (.int .i64 (faceB m nf nt)) := kxc5b 0
  have kxc5b_1 : w13.cell? ⟨gc5, 1, none⟩ = some (.int .i64 (faceA m nf nt)) := kxc5b 1
  clear kxc5b
  obtain ⟨kx6b1, -, lx6b1, -⟩ := Hs.bx [bx_ gc5 #[.int .i64 (faceB m nf nt), .int .i64 (faceA m nf nt)] 45, mac_ ((.slice A6_0f (m).fr.length c6_0f)) ((.slice A6_0b (m).bk.length c6_0b)) ((.slice A6_0c (m).cr.length c6_0c)) ((.slice A6_0l (m).lp.length c6_0l)) ((.slice A6_0d (m).dr.length c6_0d)) (m)] [bx_ gc10 #[.int .i64 (faceB m nf nt), .int .i64 (faceA m nf nt)] 45, mac_ ((.slice A12_0f (m).fr.length c12_0f)) ((.slice A12_0b (m).bk.length c12_0b)) ((.slice A12_0c (m).cr.length c12_0c)) ((.slice A12_0l (m).lp.length c12_0l)) ((.slice A12_0d (m).dr.length c12_0d)) (m)] hS13
  have kx6b1_0 : w13.cell? ⟨g6b1, 0, none⟩ = some (.int .i64 ((m).wd)) := kx6b1 0
  have kx6b1_1 : w13.cell? ⟨g6b1, 1, none⟩ = some (.int .i64 ((m).rk)) := kx6b1 1
  have kx6b1_2 : w13.cell? ⟨g6b1, 2, none⟩ = some ((.slice A6_0f (m).fr.length c6_0f)) := kx6b1 2
  have kx6b1_3 : w13.cell? ⟨g6b1, 3, none⟩ = some ((.slice A6_0b (m).bk.length c6_0b)) := kx6b1 3
  have kx6b1_4 : w13.cell? ⟨g6b1, 4, none⟩ = some ((.slice A6_0c (m).cr.length c6_0c)) := kx6b1 4
  have kx6b1_5 : w13.cell? ⟨g6b1, 5, none⟩ = some ((.slice A6_0l (m).lp.length c6_0l)) := kx6b1 5
  have kx6b1_6 : w13.cell? ⟨g6b1, 6, none⟩ = some ((.slice A6_0d (m).dr.length c6_0d)) := kx6b1 6
  clear kx6b1
  obtain ⟨kxc10b, -, lxc10b, -⟩ := Hs.bx [bx_ gc5 #[.int .i64 (faceB m nf nt), .int .i64 (faceA m nf nt)] 45, mac_ ((.slice A6_0f (m).fr.length c6_0f)) ((.slice A6_0b (m).bk.length c6_0b)) ((.slice A6_0c (m).cr.length c6_0c)) ((.slice A6_0l (m).lp.length c6_0l)) ((.slice A6_0d (m).dr.length c6_0d)) (m), bx_ g6b1 #[.int .i64 ((m).wd), .int .i64 ((m).rk), (.slice A6_0f (m).fr.length c6_0f), (.slice A6_0b (m).bk.length c6_0b), (.slice A6_0c (m).cr.length c6_0c), (.slice A6_0l (m).lp.length c6_0l), (.slice A6_0d (m).dr.length c6_0d)] 27] [mac_ ((.slice A12_0f (m).fr.length c12_0f)) ((.slice A12_0b (m).bk.length c12_0b)) ((.slice A12_0c (m).cr.length c12_0c)) ((.slice A12_0l (m).lp.length c12_0l)) ((.slice A12_0d (m).dr.length c12_0d)) (m)] hS13
  have kxc10b_0 : w13.cell? ⟨gc10, 0, none⟩ = some (.int .i64 (faceB m nf nt)) := kxc10b 0
  have kxc10b_1 : w13.cell? ⟨gc10, 1, none⟩ = some (.int .i64 (faceA m nf nt)) := kxc10b 1
  clear kxc10b
  go_wp2_with fail
  clear hc hf lz0 lz1 kxc5b_0 kxc5b_1 lxc5b kx6b1_0 kx6b1_1 kx6b1_2 kx6b1_3 kx6b1_4 kx6b1_5 kx6b1_6 lx6b1 kxc10b_0 kxc10b_1 lxc10b
  go_ret
  exact ⟨rfl, hA0.trans (hb13.mono hB0)⟩

set_option maxRecDepth 100000 in
theorem lifted (os : Os) (started : os.Started) (H : Type) (enc : TypeId × Value → H) :
    ReturnsInHanded {} Try.checked os 7 .any (Rows.fnExactFacingOfSpec.pre6 enc Try.prog Try.f7 Rows.fnExactFacingOfRow.domain false) (Rows.fnExactFacingOfSpec.post enc Try.prog Try.f7 false true false false) := by
  refine returnsInHanded_of_change (C := Try.checked) own_knob started (by kernel_rfl) Try.func7
    (ChangeSpec.witness6 (enc := enc) (C := Try.checked) false ⟨#[], #[.agg #[.int .i64 0, .int .i64 0, .slice none 0 0, .slice none 0 0, .slice none 0 0, .slice none 0 0, .slice none 0 0], .agg #[.int .i64 0, .int .i64 0]], []⟩ 8 (by kernel_rfl) (by kernel_rfl) (by kernel_rfl) (by kernel_rfl)) ?_
  intro W base args ds gs before hval0 hW hcnd _
  have hval : ∀ (j : Nat) t v, Try.f7.params[j]? = some t → args[j]? = some v → Value.okWide Try.prog W .any base t v := hval0
  have hW' := hW
  obtain ⟨p, q, hA0, hV, rfl, hfz, hnd⟩ := hW
  have hA : DataW.TrodAll enc Try.prog W 0 (fun _ => true) true Try.f7.params.toList args.toList ds p := hA0
  rw [Try.params7] at hA hval
  obtain ⟨v0, vs0, d0, ds0, p0, q0, hargs, rfl, rfl, h0, r0⟩ := trodAll_cons hA
  obtain ⟨v1, vs1, d1, ds1, p1, q1, rfl, rfl, rfl, h1, r1⟩ := trodAll_cons r0
  obtain ⟨rfl, rfl, rfl⟩ := trodAll_nil r1
  obtain rfl : args = #[v0, v1] := by cases args; simp_all
  obtain ⟨rfl, rfl⟩ := trodVars_none hV
  have k0 := h0
  have lt0 : ∀ x ∈ p0, x.block < W.heap.size := by obtain ⟨m, hm⟩ := k0; exact DataW.trod_lt m _ _ _ hm
  have k1 := h1
  have lt1 : ∀ x ∈ p1, x.block < W.heap.size := by obtain ⟨m, hm⟩ := k1; exact DataW.trod_lt m _ _ _ hm
  obtain ⟨yf0, yb0, yc0, yl0, yd0, m, rfl, s0, b0⟩ := open_Mac (hval 0 36 v0 rfl rfl) h0
  obtain ⟨nf, nt, rfl, bf1, bt1⟩ := open_Needle (hval 1 43 v1 rfl rfl) h1
  clear hA0 hval0
  refine (walk yf0 yb0 yc0 yl0 yd0 m nf nt W s0 b0 bf1 bt1).mono fun e W' ⟨he, bel⟩ => ?_
  subst he
  exact ⟨_, rfl, _, _, _, [], _, [], hW', trodAll_mk1 (shut_bool Try.underlying4 _), (trodAll_cons_mk (Below.trod laid_out (by kernel_rfl) (of_decide_eq_true (by kernel_rfl)) k0 bel lt0) (trodAll_cons_mk (Below.trod laid_out (by kernel_rfl) (of_decide_eq_true (by kernel_rfl)) k1 bel lt1) trodAll_mk0)), rfl, bel.frame _, fun h => by cases h⟩

/-- The statement. -/
theorem proved : Rows.FnExactFacingOfSaid :=
  OpenClaim.holds_of_wide 7 Try.f7 rfl rfl rfl rfl rfl rfl rfl ⟨rfl, rfl, rfl, rfl, rfl⟩ rfl rfl rfl rfl rfl (by kernel_rfl) Try.func7 (by kernel_rfl)
    (of_decide_eq_true (by kernel_rfl)) (by unfold Func.isWrapper; first | (rw [if_pos (by decide +kernel)]; kernel_rfl) | (rw [if_neg (by decide +kernel)]; exact ⟨rfl, rfl⟩))
    (fun os started H enc _ => lifted os started H enc)
#print axioms proved
end Go.Proofs.Ytbefioljddhhpaa.fnExactFacingOf
