/-
  Proved here: for every input the law FnExactSignOfBraid returns true, and every argument reads behind the call as it read before. No condition.
-/
import Derived.Test.YtphbmdoeaebhnaaOpen
import Derived.Test.YtphbmdoeaebhnaaSt
import Derived.Test.YtphbmdoeaebhnaaHand1
import Derived.ProofKit
import Derived.OpenShut
import Derived.ShutString
import Derived.ChangeOld
import Derived.Below
import Derived.Deep.RegionHeld3
namespace Go.Proofs.Ytphbmdoeaebhnaa.fnExactSignOfBraid
open Go.ChangeShapes Go.WideShapes Go.ChangeAt Go.RowKit
open Go.ChangeMaps (open_string shut_string)
set_option linter.unusedVariables false

set_option maxRecDepth 100000 in
set_option maxHeartbeats 4000000 in
theorem walk (s0 : Int) (v0 : Value) (xs : List Int) (b : Int) (w : World) (t0 : R64 s0) (h0 : Sl w w.heap.size v0 xs) (b0 : ∀ x ∈ xs, R64 x) (b1 : R64 b) :
    Calls Try.prog 13 #[.agg #[.int .i64 s0, v0], .int .i64 b] w fun e w' => e = .returned (.bool true) ∧ Below w.heap.size w w' := by
  obtain ⟨A0, c0, e0, hl0, hm0⟩ : ∃ A c, v0 = .slice A xs.length c ∧ xs.length ≤ c ∧ c ≤ 9223372036854775807 := by obtain ⟨A, c, h1, h2, h3, _⟩ := h0; simp only [maxLen] at h3; exact ⟨A, c, h1, h2, by omega⟩
  subst e0
  have hA0 : Below w.heap.size w (w.alloc (.cells #[.int .i64 (s0), (.slice A0 xs.length c0)] 35)) := (al1 w (.cells #[.int .i64 (s0), (.slice A0 xs.length c0)] 35))
  have hB0 : w.heap.size ≤ (w.alloc (.cells #[.int .i64 (s0), (.slice A0 xs.length c0)] 35)).heap.size := hA0.size
  have g0 := h0.below hA0 (Nat.le_refl _)
  clear h0
  have hb0 := Below.refl (w.alloc (.cells #[.int .i64 (s0), (.slice A0 xs.length c0)] 35)).heap.size (w.alloc (.cells #[.int .i64 (s0), (.slice A0 xs.length c0)] 35))
  have hS0 : Hs (w.alloc (.cells #[.int .i64 (s0), (.slice A0 xs.length c0)] 35)) (w.alloc (.cells #[.int .i64 (s0), (.slice A0 xs.length c0)] 35)).heap.size [] := Hs.nil _
  by_cases z0 : (1048576 : Int) < xs.length
  · go_enter Try.func13, Try.ntmps13
    go_wp2_with fail
    refine (szBraid_no (g0.below hb0 hB0) (Nat.le_trans hB0 hb0.size) (by omega) (by omega) z0).mono ?_
    rintro e w1 ⟨rfl, hq⟩
    have hb1 := hb0.trans (hq.mono hb0.size)
    have hS1 := hS0.below hq
    clear hb0 hS0 hq
    obtain ⟨hc, hf⟩ := bcell hb1
    have lz0 : w.heap.size < w1.heap.size := by have := hb1.size; simp at this; omega
    go_wp2_with fail
    clear hc hf lz0
    go_ret
    exact ⟨rfl, hA0.trans (hb1.mono hB0)⟩
  have zl0 : (xs.length : Int) ≤ 1048576 := by omega
  go_enter Try.func13, Try.ntmps13
  go_wp2_with fail
  refine (szBraid_yes (g0.below hb0 hB0) (Nat.le_trans hB0 hb0.size) (by omega) (by omega) (by omega)).mono ?_
  rintro e w1 ⟨rfl, hq⟩
  have hb1 := hb0.trans (hq.mono hb0.size)
  have hS1 := hS0.below hq
  clear hb0 hS0 hq
  obtain ⟨hc, hf⟩ := bcell hb1
  have lz0 : w.heap.size < w1.heap.size := by have := hb1.size; simp at this; omega
  go_wp2_with fail
  clear hc hf lz0
  refine (toBraid_any (s0) _ (xs) _ _ (g0.below hb1 hB0) (Nat.le_trans hB0 hb1.size) (by omega)).mono ?_
  rintro e w2 ⟨q2_0, rfl, ho2, hq⟩
  have hb2 := hb1.trans (hq.mono hb1.size)
  have hS2 := hS1.join hq (hs_ow ho2 hq)
  clear hb1 hS1 hq ho2
  obtain ⟨A2_0, c2_0, rfl, -⟩ := id (Hs.rd [] [] hS2)
  obtain ⟨hc, hf⟩ := bcell hb2
  have lz0 : w.heap.size < w2.heap.size := by have := hb2.size; simp at this; omega
  go_wp2_with fail
  clear hc hf lz0
  refine (spec_SignOfBraid_any _ _ xs b _ _ (Hs.rd [] [] hS2) (Nat.le_refl _)).mono ?_
  rintro e w3 ⟨rfl, hq⟩
  have hb3 := hb2.trans (hq.mono hb2.size)
  have hS3 := hS2.below hq
  clear hb2 hS2 hq
  obtain ⟨hc, hf⟩ := bcell hb3
  have lz0 : w.heap.size < w3.heap.size := by have := hb3.size; simp at this; omega
  go_wp2_with fail
  clear hc hf lz0
  refine (toBraid_any (s0) _ (xs) _ _ (g0.below hb3 hB0) (Nat.le_trans hB0 hb3.size) (by omega)).mono ?_
  rintro e w4 ⟨q4_0, rfl, ho4, hq⟩
  have hb4 := hb3.trans (hq.mono hb3.size)
  have hS4 := hS3.join hq (hs_ow ho4 hq)
  clear hb3 hS3 hq ho4
  obtain ⟨A4_0, c4_0, rfl, -⟩ := id (Hs.rd [rw_ (.slice A2_0 (xs).length c2_0) (xs)] [] hS4)
  obtain ⟨hc, hf⟩ := bcell hb4
  have lz0 : w.heap.size < w4.heap.size := by have := hb4.size; simp at this; omega
  go_wp2_with fail
  clear hc hf lz0
  have hS4b1 := hS4.join (al1 _ _) (hs_bx w4 #[.int .i64 (s0), (.slice A4_0 (xs).length c4_0)] 40)
  have hb4b1 := hb4.trans ((al1 w4 (.cells #[.int .i64 (s0), (.slice A4_0 (xs).length c4_0)] 40)).mono hb4.size)
  clear hb4 hS4
  generalize hg4b1 : w4.heap.size = g4b1 at *
  generalize hw4b1 : w4.alloc (.cells #[.int .i64 (s0), (.slice A4_0 (xs).length c4_0)] 40) = w5 at *
  clear hg4b1 hw4b1
  have hS5 := hS4b1
  have hb5 := hb4b1
  clear hS4b1 hb4b1
  refine (impl_SignOfBraid_any _ _ xs b _ _ (Hs.rd [rw_ (.slice A2_0 (xs).length c2_0) (xs)] [bx_ g4b1 #[.int .i64 (s0), (.slice A4_0 (xs).length c4_0)] 40] hS5) (Nat.le_refl _)).mono ?_
  rintro e w6 ⟨rfl, hq⟩
  have hb6 := hb5.trans (hq.mono hb5.size)
  have hS6 := hS5.below hq
  clear hb5 hS5 hq
  obtain ⟨hc, hf⟩ := bcell hb6
  have lz0 : w.heap.size < w6.heap.size := by have := hb6.size; simp at this; omega
  obtain ⟨kx4b1, -, lx4b1, -⟩ := Hs.bx [rw_ (.slice A2_0 (xs).length c2_0) (xs), rw_ (.slice A4_0 (xs).length c4_0) (xs)] [] hS6
  have kx4b1_0 : w6.cell? ⟨g4b1, 0, none⟩ = some (.int .i64 (s0)) := kx4b1 0
  have kx4b1_1 : w6.cell? ⟨g4b1, 1, none⟩ = some ((.slice A4_0 (xs).length c4_0)) := kx4b1 1
  clear kx4b1
  go_wp2_with fail
  clear hc hf lz0 kx4b1_0 kx4b1_1 lx4b1
  have j0 : w6.cell? ⟨g4b1, 0, none⟩ = some (.int .i64 (s0)) := (Hs.bx [rw_ (.slice A2_0 (xs).length c2_0) (xs), rw_ (.slice A4_0 (xs).length c4_0) (xs)] [] hS6).1 0
  have jl0 : g4b1 < w6.heap.size := block_lt_of_cell j0
  have j1 : w6.cell? ⟨g4b1, 1, none⟩ = some ((.slice A4_0 (xs).length c4_0)) := (Hs.bx [rw_ (.slice A2_0 (xs).length c2_0) (xs), rw_ (.slice A4_0 (xs).length c4_0) (xs)] [] hS6).1 1
  have jl1 : g4b1 < w6.heap.size := block_lt_of_cell j1
  have j2 : w6.cell? ⟨w.heap.size, 0, none⟩ = some (.int .i64 (s0)) := by rw [(bcell hb6).1 _ _ (by simp; try omega)]; first | (simp; done) | simp [World.cell?_alloc_lt]
  have jl2 : w.heap.size < w6.heap.size := block_lt_of_cell j2
  have j3 : w6.cell? ⟨w.heap.size, 1, none⟩ = some ((.slice A0 xs.length c0)) := by rw [(bcell hb6).1 _ _ (by simp; try omega)]; first | (simp; done) | simp [World.cell?_alloc_lt]
  have jl3 : w.heap.size < w6.heap.size := block_lt_of_cell j3
  have hBx := Nat.le_trans hB0 hb6.size
  have gx0 := g0.below hb6 hB0
  have sx2_0 : Sl w6 w6.heap.size (.slice A2_0 (xs).length c2_0) (xs) := Hs.rd [] [rw_ (.slice A4_0 (xs).length c4_0) (xs), bx_ g4b1 #[.int .i64 (s0), (.slice A4_0 (xs).length c4_0)] 40] hS6
  have sx4_0 : Sl w6 w6.heap.size (.slice A4_0 (xs).length c4_0) (xs) := Hs.rd [rw_ (.slice A2_0 (xs).length c2_0) (xs)] [bx_ g4b1 #[.int .i64 (s0), (.slice A4_0 (xs).length c4_0)] 40] hS6
  have HK := Lib.hid (fun w' (hw : Below w6.heap.size w6 w') => show w'.cell? ⟨g4b1, 0, none⟩ = some (.int .i64 (s0)) ∧ w'.cell? ⟨g4b1, 1, none⟩ = some ((.slice A4_0 (xs).length c4_0)) ∧ w'.cell? ⟨w.heap.size, 0, none⟩ = some (.int .i64 (s0)) ∧ w'.cell? ⟨w.heap.size, 1, none⟩ = some ((.slice A0 xs.length c0)) ∧ Below w6.heap.size w6 w' from ⟨by rw [hw.cell (by simp only; omega)]; exact j0, by rw [hw.cell (by simp only; omega)]; exact j1, by rw [hw.cell (by simp only; omega)]; exact j2, by rw [hw.cell (by simp only; omega)]; exact j3, hw⟩)
  clear j0 jl0 j1 jl1 j2 jl2 j3 jl3
  go_region_held3 (fun w' => w'.cell? ⟨g4b1, 0, none⟩ = some (.int .i64 (s0)) ∧ w'.cell? ⟨g4b1, 1, none⟩ = some ((.slice A4_0 (xs).length c4_0)) ∧ w'.cell? ⟨w.heap.size, 0, none⟩ = some (.int .i64 (s0)) ∧ w'.cell? ⟨w.heap.size, 1, none⟩ = some ((.slice A0 xs.length c0)) ∧ Below w6.heap.size w6 w')
    (first | exact HK.out _ (by first | assumption | exact Below.refl _ _ | exact drewN_below _ _ _ | exact (Below.refl _ _).drew))
    (first
      | (go_at_call 27; (refine (toBraid_any (s0) _ (xs) _ _ (gx0.below (by first | assumption | exact Below.refl _ _ | exact drewN_below _ _ _ | exact (Below.refl _ _).drew) hBx) (Nat.le_trans hBx (Below.size (w := w6) (B := w6.heap.size) (by first | assumption | exact Below.refl _ _ | exact drewN_below _ _ _ | exact (Below.refl _ _).drew))) (by omega)).mono ?_); rintro e w7 ⟨q7_0, rfl, ho7, hq⟩; have hr7 : Below w6.heap.size w6 w7 := Below.trans (by first | assumption | exact Below.refl _ _ | exact drewN_below _ _ _ | exact (Below.refl _ _).drew) (hq.mono (Below.size (w := w6) (B := w6.heap.size) (by first | assumption | exact Below.refl _ _ | exact drewN_below _ _ _ | exact (Below.refl _ _).drew))); have hS7 := hS6.join hr7 (hs_ow (w := w6) ho7 hr7); obtain ⟨A7_0, c7_0, rfl, -⟩ := id (ho7.sl (Nat.le_refl _)); have so7_0 := ho7.sl (Nat.le_refl _))
      | (go_at_call 30; (refine (eqBraid_yes (sx4_0.below (by first | assumption | exact Below.refl _ _ | exact drewN_below _ _ _ | exact (Below.refl _ _).drew) (Nat.le_refl _)) so7_0 (Below.size (w := w6) (B := w6.heap.size) (by first | assumption | exact Below.refl _ _ | exact drewN_below _ _ _ | exact (Below.refl _ _).drew)) (Nat.le_refl _)).mono ?_); rintro e w8 ⟨rfl, hq⟩; have hr8 : Below w6.heap.size w6 w8 := Below.trans (by first | assumption | exact Below.refl _ _ | exact drewN_below _ _ _ | exact (Below.refl _ _).drew) (hq.mono (Below.size (w := w6) (B := w6.heap.size) (by first | assumption | exact Below.refl _ _ | exact drewN_below _ _ _ | exact (Below.refl _ _).drew))); have so7_0 := (so7_0.below hq (Nat.le_refl _)).mono hq.size; have hS8 := hS7.below hq))
  have hb8 := hb6.trans (hr8.mono hb6.size)
  clear HK hBx gx0 sx2_0 sx4_0
  obtain ⟨hc, hf⟩ := bcell hb8
  have lz0 : w.heap.size < w8.heap.size := by have := hb8.size; simp at this; omega
  obtain ⟨kx4b1, -, lx4b1, -⟩ := Hs.bx [rw_ (.slice A2_0 (xs).length c2_0) (xs), rw_ (.slice A4_0 (xs).length c4_0) (xs)] [rw_ (.slice A7_0 (xs).length c7_0) (xs)] hS8
  have kx4b1_0 : w8.cell? ⟨g4b1, 0, none⟩ = some (.int .i64 (s0)) := kx4b1 0
  have kx4b1_1 : w8.cell? ⟨g4b1, 1, none⟩ = some ((.slice A4_0 (xs).length c4_0)) := kx4b1 1
  clear kx4b1
  go_wp2_with fail
  clear hc hf lz0 kx4b1_0 kx4b1_1 lx4b1
  go_ret
  exact ⟨rfl, hA0.trans (hb8.mono hB0)⟩

set_option maxRecDepth 100000 in
theorem lifted (os : Os) (started : os.Started) (H : Type) (enc : TypeId × Value → H) :
    ReturnsInHanded {} Try.checked os 13 .any (Rows.fnExactSignOfBraidSpec.pre6 enc Try.prog Try.f13 Rows.fnExactSignOfBraidRow.domain false) (Rows.fnExactSignOfBraidSpec.post enc Try.prog Try.f13 false true false false) := by
  refine returnsInHanded_of_change (C := Try.checked) own_knob started (by kernel_rfl) Try.func13
    (ChangeSpec.witness6 (enc := enc) (C := Try.checked) false ⟨#[], #[.agg #[.int .i64 0, .slice none 0 0], .int .i64 0], []⟩ 8 (by kernel_rfl) (by kernel_rfl) (by kernel_rfl) (by kernel_rfl)) ?_
  intro W base args ds gs before hval0 hW hcnd _
  have hval : ∀ (j : Nat) t v, Try.f13.params[j]? = some t → args[j]? = some v → Value.okWide Try.prog W .any base t v := hval0
  have hW' := hW
  obtain ⟨p, q, hA0, hV, rfl, hfz, hnd⟩ := hW
  have hA : DataW.TrodAll enc Try.prog W 0 (fun _ => true) true Try.f13.params.toList args.toList ds p := hA0
  rw [Try.params13] at hA hval
  obtain ⟨v0, vs0, d0, ds0, p0, q0, hargs, rfl, rfl, h0, r0⟩ := trodAll_cons hA
  obtain ⟨v1, vs1, d1, ds1, p1, q1, rfl, rfl, rfl, h1, r1⟩ := trodAll_cons r0
  obtain ⟨rfl, rfl, rfl⟩ := trodAll_nil r1
  obtain rfl : args = #[v0, v1] := by cases args; simp_all
  obtain ⟨rfl, rfl⟩ := trodVars_none hV
  have k0 := h0
  have lt0 : ∀ x ∈ p0, x.block < W.heap.size := by obtain ⟨m, hm⟩ := k0; exact DataW.trod_lt m _ _ _ hm
  have k1 := h1
  have lt1 : ∀ x ∈ p1, x.block < W.heap.size := by obtain ⟨m, hm⟩ := k1; exact DataW.trod_lt m _ _ _ hm
  obtain ⟨y0, u0, xs, rfl, t0, z0, b0⟩ := open_Braid (hval 0 35 v0 rfl rfl) h0
  obtain ⟨b, rfl, b1⟩ := open_I (hval 1 2 v1 rfl rfl) h1
  clear hA0 hval0
  refine (walk y0 u0 xs b W t0 z0 b0 b1).mono fun e W' ⟨he, bel⟩ => ?_
  subst he
  exact ⟨_, rfl, _, _, _, [], _, [], hW', trodAll_mk1 (shut_bool Try.underlying4 _), (trodAll_cons_mk (Below.trod laid_out (by kernel_rfl) (of_decide_eq_true (by kernel_rfl)) k0 bel lt0) (trodAll_cons_mk (Below.trod laid_out (by kernel_rfl) (of_decide_eq_true (by kernel_rfl)) k1 bel lt1) trodAll_mk0)), rfl, bel.frame _, fun h => by cases h⟩

/-- The statement. -/
theorem proved : Rows.FnExactSignOfBraidSaid :=
  OpenClaim.holds_of_wide 13 Try.f13 rfl rfl rfl rfl rfl rfl rfl ⟨rfl, rfl, rfl, rfl, rfl⟩ rfl rfl rfl rfl rfl (by kernel_rfl) Try.func13 (by kernel_rfl)
    (of_decide_eq_true (by kernel_rfl)) (by unfold Func.isWrapper; first | (rw [if_pos (by decide +kernel)]; kernel_rfl) | (rw [if_neg (by decide +kernel)]; exact ⟨rfl, rfl⟩))
    (fun os started H enc _ => lifted os started H enc)
#print axioms proved
end Go.Proofs.Ytphbmdoeaebhnaa.fnExactSignOfBraid
