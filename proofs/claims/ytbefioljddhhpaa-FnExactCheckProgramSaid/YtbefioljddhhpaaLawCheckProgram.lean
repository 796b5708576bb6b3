/-
  Proved here: for every input the law FnExactCheckProgram returns true, and every argument reads behind the call as it read before. No condition.
-/
import Derived.Test.YtbefioljddhhpaaOpen
import Derived.Test.YtbefioljddhhpaaGmp
import Derived.Test.YtbefioljddhhpaaGmh
import Derived.ProofKit
import Derived.OpenShut
import Derived.ShutString
import Derived.ChangeOld
import Derived.Below
import Derived.Deep.RegionHeld3
import Derived.Deep.DeepCutAuto
namespace Go.Proofs.Ytbefioljddhhpaa.fnExactCheckProgram
set_option maxRecDepth 10000
open Go.ChangeShapes Go.WideShapes Go.ChangeAt Go.RowKit
open Go.ChangeMaps (open_string shut_string)
set_option linter.unusedVariables false

set_option maxRecDepth 100000 in
set_option maxHeartbeats 4000000 in
theorem walk (n : Int) (v1 : Value) (os : List (List Int)) (w : World) (b0 : R64 n) (h1 : SlR 8 w w.heap.size v1 os) (b1 : ∀ o ∈ os, ∀ n ∈ o, R64 n) :
    Calls Try.prog 10 #[.int .i64 n, v1] w fun e w' => e = .returned (.bool true) ∧ Below w.heap.size w w' := by
  obtain ⟨A1, c1, e1, hl1, hm1⟩ : ∃ A c, v1 = .slice A os.length c ∧ os.length ≤ c ∧ c ≤ 9223372036854775807 := by obtain ⟨A, c, h1, h2, h3, _⟩ := h1; simp only [maxLen] at h3; exact ⟨A, c, h1, h2, by omega⟩
  subst e1
  have hA0 : Below w.heap.size w w := (Below.refl w.heap.size w)
  have hB0 : w.heap.size ≤ w.heap.size := hA0.size
  have g1 := h1.below hA0 (Nat.le_refl _)
  clear h1
  have hb0 := Below.refl w.heap.size w
  have hS0 : Hs w w.heap.size [] := Hs.nil _
  by_cases z0 : (1048576 : Int) < os.length
  · go_enter Try.func10, Try.ntmps10
    go_wp2_with fail
    refine (szOps_no (g1.below hb0 hB0) (by omega) (by omega) z0).mono ?_
    rintro e w1 ⟨rfl, hq⟩
    have hb1 := hb0.trans (hq.mono hb0.size)
    have hS1 := hS0.below hq
    clear hb0 hS0 hq
    go_wp2_with fail
    go_ret
    exact ⟨rfl, hA0.trans (hb1.mono hB0)⟩
  have zl0 : (os.length : Int) ≤ 1048576 := by omega
  go_enter Try.func10, Try.ntmps10
  go_wp2_with fail
  refine (szOps_yes (g1.below hb0 hB0) (by omega) (by omega) (by omega)).mono ?_
  rintro e w1 ⟨rfl, hq⟩
  have hb1 := hb0.trans (hq.mono hb0.size)
  have hS1 := hS0.below hq
  clear hb0 hS0 hq
  go_wp2_with fail
  refine (toOps_any (g1.below hb1 hB0) (Nat.le_trans hB0 hb1.size) (by omega)).mono ?_
  rintro e w2 ⟨q2_0, rfl, ho2, hq⟩
  have hb2 := hb1.trans (hq.mono hb1.size)
  have hS2 := hS1.join hq (hs_owt ho2 hq)
  clear hb1 hS1 hq ho2
  obtain ⟨A2_0, c2_0, rfl, -⟩ := id (Hs.rdT [] [] hS2)
  go_wp2_with fail
  refine (spec_CheckProgram_any (n := n) (Hs.rdT [] [] hS2) (Nat.le_refl _)).mono ?_
  rintro e w3 ⟨rfl, hq⟩
  have hb3 := hb2.trans (hq.mono hb2.size)
  have hS3 := hS2.below hq
  clear hb2 hS2 hq
  go_wp2_with fail
  refine (toOps_any (g1.below hb3 hB0) (Nat.le_trans hB0 hb3.size) (by omega)).mono ?_
  rintro e w4 ⟨q4_0, rfl, ho4, hq⟩
  have hb4 := hb3.trans (hq.mono hb3.size)
  have hS4 := hS3.join hq (hs_owt ho4 hq)
  clear hb3 hS3 hq ho4
  obtain ⟨A4_0, c4_0, rfl, -⟩ := id (Hs.rdT [rt_ 8 101 (.slice A2_0 (os).length c2_0) (os)] [] hS4)
  go_wp2_with fail
  refine (impl_CheckProgram_any (n := n) (Hs.rdT [rt_ 8 101 (.slice A2_0 (os).length c2_0) (os)] [] hS4) (Nat.le_refl _)).mono ?_
  rintro e w5 ⟨rfl, hq⟩
  have hb5 := hb4.trans (hq.mono hb4.size)
  have hS5 := hS4.below hq
  clear hb4 hS4 hq
  go_wp2_with fail
  refine (toOps_any (g1.below hb5 hB0) (Nat.le_trans hB0 hb5.size) (by omega)).mono ?_
  rintro e w6 ⟨q6_0, rfl, ho6, hq⟩
  have hb6 := hb5.trans (hq.mono hb5.size)
  have hS6 := hS5.join hq (hs_owt ho6 hq)
  clear hb5 hS5 hq ho6
  obtain ⟨A6_0, c6_0, rfl, -⟩ := id (Hs.rdT [rt_ 8 101 (.slice A2_0 (os).length c2_0) (os), rt_ 8 101 (.slice A4_0 (os).length c4_0) (os)] [] hS6)
  go_wp2_with fail
  refine (eqOps_yes (Hs.rdT [rt_ 8 101 (.slice A2_0 (os).length c2_0) (os)] [rt_ 8 101 (.slice A6_0 (os).length c6_0) (os)] hS6) (Hs.rdT [rt_ 8 101 (.slice A2_0 (os).length c2_0) (os), rt_ 8 101 (.slice A4_0 (os).length c4_0) (os)] [] hS6) (Nat.le_refl _) (Nat.le_refl _)).mono ?_
  rintro e w7 ⟨rfl, hq⟩
  have hb7 := hb6.trans (hq.mono hb6.size)
  have hS7 := hS6.below hq
  clear hb6 hS6 hq
  go_wp2_with fail
  go_ret
  exact ⟨rfl, hA0.trans (hb7.mono hB0)⟩

set_option maxRecDepth 100000 in
theorem lifted (os : Os) (started : os.Started) (H : Type) (enc : TypeId × Value → H) :
    ReturnsInHanded {} Try.checked os 10 .any (Rows.fnExactCheckProgramSpec.pre6 enc Try.prog Try.f10 Rows.fnExactCheckProgramRow.domain false) (Rows.fnExactCheckProgramSpec.post enc Try.prog Try.f10 false true false false) := by
  refine returnsInHanded_of_change (C := Try.checked) own_knob started (by kernel_rfl) Try.func10
    (ChangeSpec.witness6 (enc := enc) (C := Try.checked) false ⟨#[], #[.int .i64 0, .slice none 0 0], []⟩ 8 (by kernel_rfl) (by kernel_rfl) (by kernel_rfl) (by kernel_rfl)) ?_
  intro W base args ds gs before hval0 hW hcnd _
  have hval : ∀ (j : Nat) t v, Try.f10.params[j]? = some t → args[j]? = some v → Value.okWide Try.prog W .any base t v := hval0
  have hW' := hW
  obtain ⟨p, q, hA0, hV, rfl, hfz, hnd⟩ := hW
  have hA : DataW.TrodAll enc Try.prog W 0 (fun _ => true) true Try.f10.params.toList args.toList ds p := hA0
  rw [Try.params10] at hA hval
  obtain ⟨v0, vs0, d0, ds0, p0, q0, hargs, rfl, rfl, h0, r0⟩ := trodAll_cons hA
  obtain ⟨v1, vs1, d1, ds1, p1, q1, rfl, rfl, rfl, h1, r1⟩ := trodAll_cons r0
  obtain ⟨rfl, rfl, rfl⟩ := trodAll_nil r1
  obtain rfl : args = #[v0, v1] := by cases args; simp_all
  obtain ⟨rfl, rfl⟩ := trodVars_none hV
  have k0 := h0
  have lt0 : ∀ x ∈ p0, x.block < W.heap.size := by obtain ⟨m, hm⟩ := k0; exact DataW.trod_lt m _ _ _ hm
  have k1 := h1
  have lt1 : ∀ x ∈ p1, x.block < W.heap.size := by obtain ⟨m, hm⟩ := k1; exact DataW.trod_lt m _ _ _ hm
  obtain ⟨n, rfl, b0⟩ := open_I (hval 0 2 v0 rfl rfl) h0
  obtain ⟨os, s1, b1⟩ := open_SlO (hval 1 56 v1 rfl rfl) h1
  clear hA0 hval0
  refine (walk n v1 os W b0 s1 b1).mono fun e W' ⟨he, bel⟩ => ?_
  subst he
  exact ⟨_, rfl, _, _, _, [], _, [], hW', trodAll_mk1 (shut_bool Try.underlying4 _), (trodAll_cons_mk (Below.trod laid_out (by kernel_rfl) (of_decide_eq_true (by kernel_rfl)) k0 bel lt0) (trodAll_cons_mk (Below.trod laid_out (by kernel_rfl) (of_decide_eq_true (by kernel_rfl)) k1 bel lt1) trodAll_mk0)), rfl, bel.frame _, fun h => by cases h⟩

/-- The statement. -/
theorem proved : Rows.FnExactCheckProgramSaid :=
  OpenClaim.holds_of_wide 10 Try.f10 rfl rfl rfl rfl rfl rfl rfl ⟨rfl, rfl, rfl, rfl, rfl⟩ rfl rfl rfl rfl rfl (by kernel_rfl) Try.func10 (by kernel_rfl)
    (of_decide_eq_true (by kernel_rfl)) (by unfold Func.isWrapper; first | (rw [if_pos (by decide +kernel)]; kernel_rfl) | (rw [if_neg (by decide +kernel)]; exact ⟨rfl, rfl⟩))
    (fun os started H enc _ => lifted os started H enc)
#print axioms proved
end Go.Proofs.Ytbefioljddhhpaa.fnExactCheckProgram
