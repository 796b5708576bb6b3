/-
  Proved here: for every input the law FnExactCarriersUsed returns true, and every argument reads behind the call as it read before. No condition.
-/
import Derived.Test.YtpiodiliifnckaaOpen
import Derived.Test.YtpiodiliifnckaaPo4
import Derived.Test.YtpiodiliifnckaaCu
import Derived.ProofKit
import Derived.OpenShut
import Derived.ShutString
import Derived.ChangeOld
import Derived.Below
import Derived.Deep.RegionHeld3
import Derived.Deep.DeepCutAuto
namespace Go.Proofs.Ytpiodiliifnckaa.fnExactCarriersUsed
set_option maxRecDepth 10000
open Go.ChangeShapes Go.WideShapes Go.ChangeAt Go.RowKit
open Go.ChangeMaps (open_string shut_string)
set_option linter.unusedVariables false

set_option maxRecDepth 100000 in
set_option maxHeartbeats 4000000 in
theorem walk (v0 : Value) (os : List (List Int)) (w : World) (h0 : SlR 8 w w.heap.size v0 os) (b0 : ∀ o ∈ os, ∀ n ∈ o, R64 n) :
    Calls Try.prog 10 #[v0] w fun e w' => e = .returned (.bool true) ∧ Below w.heap.size w w' := by
  obtain ⟨A0, c0, e0, hl0, hm0⟩ : ∃ A c, v0 = .slice A os.length c ∧ os.length ≤ c ∧ c ≤ 9223372036854775807 := by obtain ⟨A, c, h1, h2, h3, _⟩ := h0; simp only [maxLen] at h3; exact ⟨A, c, h1, h2, by omega⟩
  subst e0
  have hA0 : Below w.heap.size w w := (Below.refl w.heap.size w)
  have hB0 : w.heap.size ≤ w.heap.size := hA0.size
  have g0 := h0.below hA0 (Nat.le_refl _)
  clear h0
  have hb0 := Below.refl w.heap.size w
  have hS0 : Hs w w.heap.size [] := Hs.nil _
  by_cases z0 : (1048576 : Int) < os.length
  · go_enter Try.func10, Try.ntmps10
    go_wp2_with fail
    refine (szOps_no (g0.below hb0 hB0) (by omega) (by omega) z0).mono ?_
    rintro e w1 ⟨rfl, hq⟩
    have hb1 := hb0.trans (hq.mono hb0.size)
    have hS1 := hS0.below hq
    clear hb0 hS0 hq
    go_wp2_with fail
    go_ret
    exact ⟨rfl, hA0.trans (hb1.mono hB0)⟩
  have zl0 : (os.length : Int) ≤ 1048576 := by omega
  have hfl := cuA_len os
  go_enter Try.func10, Try.ntmps10
  go_wp2_with fail
  refine (szOps_yes (g0.below hb0 hB0) (by omega) (by omega) (by omega)).mono ?_
  rintro e w1 ⟨rfl, hq⟩
  have hb1 := hb0.trans (hq.mono hb0.size)
  have hS1 := hS0.below hq
  clear hb0 hS0 hq
  go_wp2_with fail
  refine (toOps_any (g0.below hb1 hB0) (Nat.le_trans hB0 hb1.size) (by omega)).mono ?_
  rintro e w2 ⟨q2_0, rfl, ho2, hq⟩
  have hb2 := hb1.trans (hq.mono hb1.size)
  have hS2 := hS1.join hq (hs_owt ho2 hq)
  clear hb1 hS1 hq ho2
  obtain ⟨A2_0, c2_0, rfl, -⟩ := id (Hs.rdT [] [] hS2)
  go_wp2_with fail
  refine (spec_CarriersUsed_any _ os _ _ (Hs.rdT [] [] hS2) (Nat.le_refl _)).mono ?_
  rintro e w3 ⟨q3_0, rfl, ho3, hq⟩
  have hb3 := hb2.trans (hq.mono hb2.size)
  have hS3 := hS2.join hq (hs_ow ho3 hq)
  clear hb2 hS2 hq ho3
  obtain ⟨A3_0, c3_0, rfl, -⟩ := id (Hs.rd [rt_ 8 52 (.slice A2_0 (os).length c2_0) (os)] [] hS3)
  go_wp2_with fail
  refine (toOps_any (g0.below hb3 hB0) (Nat.le_trans hB0 hb3.size) (by omega)).mono ?_
  rintro e w4 ⟨q4_0, rfl, ho4, hq⟩
  have hb4 := hb3.trans (hq.mono hb3.size)
  have hS4 := hS3.join hq (hs_owt ho4 hq)
  clear hb3 hS3 hq ho4
  obtain ⟨A4_0, c4_0, rfl, -⟩ := id (Hs.rdT [rt_ 8 52 (.slice A2_0 (os).length c2_0) (os), rw_ (.slice A3_0 (cuA os).length c3_0) (cuA os)] [] hS4)
  go_wp2_with fail
  refine (impl_CarriersUsed_any _ os _ _ (Hs.rdT [rt_ 8 52 (.slice A2_0 (os).length c2_0) (os), rw_ (.slice A3_0 (cuA os).length c3_0) (cuA os)] [] hS4) (Nat.le_refl _)).mono ?_
  rintro e w5 ⟨q5_0, rfl, ho5, hq⟩
  have hb5 := hb4.trans (hq.mono hb4.size)
  have hS5 := hS4.join hq (hs_ow ho5 hq)
  clear hb4 hS4 hq ho5
  obtain ⟨A5_0, c5_0, rfl, -⟩ := id (Hs.rd [rt_ 8 52 (.slice A2_0 (os).length c2_0) (os), rw_ (.slice A3_0 (cuA os).length c3_0) (cuA os), rt_ 8 52 (.slice A4_0 (os).length c4_0) (os)] [] hS5)
  go_wp2_with fail
  refine (eqInts_yes (Hs.rd [rt_ 8 52 (.slice A2_0 (os).length c2_0) (os), rw_ (.slice A3_0 (cuA os).length c3_0) (cuA os), rt_ 8 52 (.slice A4_0 (os).length c4_0) (os)] [] hS5) (Hs.rd [rt_ 8 52 (.slice A2_0 (os).length c2_0) (os)] [rt_ 8 52 (.slice A4_0 (os).length c4_0) (os), rw_ (.slice A5_0 (cuA os).length c5_0) (cuA os)] hS5) rfl).mono ?_
  rintro e w6 ⟨rfl, hq⟩
  have hb6 := hb5.trans (hq.mono hb5.size)
  have hS6 := hS5.below hq
  clear hb5 hS5 hq
  go_wp2_with fail
  refine (toOps_any (g0.below hb6 hB0) (Nat.le_trans hB0 hb6.size) (by omega)).mono ?_
  rintro e w7 ⟨q7_0, rfl, ho7, hq⟩
  have hb7 := hb6.trans (hq.mono hb6.size)
  have hS7 := hS6.join hq (hs_owt ho7 hq)
  clear hb6 hS6 hq ho7
  obtain ⟨A7_0, c7_0, rfl, -⟩ := id (Hs.rdT [rt_ 8 52 (.slice A2_0 (os).length c2_0) (os), rw_ (.slice A3_0 (cuA os).length c3_0) (cuA os), rt_ 8 52 (.slice A4_0 (os).length c4_0) (os), rw_ (.slice A5_0 (cuA os).length c5_0) (cuA os)] [] hS7)
  go_wp2_with fail
  refine (eqOps_yes (Hs.rdT [rt_ 8 52 (.slice A2_0 (os).length c2_0) (os), rw_ (.slice A3_0 (cuA os).length c3_0) (cuA os)] [rw_ (.slice A5_0 (cuA os).length c5_0) (cuA os), rt_ 8 52 (.slice A7_0 (os).length c7_0) (os)] hS7) (Hs.rdT [rt_ 8 52 (.slice A2_0 (os).length c2_0) (os), rw_ (.slice A3_0 (cuA os).length c3_0) (cuA os), rt_ 8 52 (.slice A4_0 (os).length c4_0) (os), rw_ (.slice A5_0 (cuA os).length c5_0) (cuA os)] [] hS7) (Nat.le_refl _) (Nat.le_refl _)).mono ?_
  rintro e w8 ⟨rfl, hq⟩
  have hb8 := hb7.trans (hq.mono hb7.size)
  have hS8 := hS7.below hq
  clear hb7 hS7 hq
  go_wp2_with fail
  obtain ⟨lo9, hi9, hit, hle, hput⟩ := Hs.owtAt [rt_ 8 52 (.slice A2_0 (os).length c2_0) (os), rw_ (.slice A3_0 (cuA os).length c3_0) (cuA os)] (.slice A4_0 (os).length c4_0) (os) [rw_ (.slice A5_0 (cuA os).length c5_0) (cuA os), rt_ 8 52 (.slice A7_0 (os).length c7_0) (os)] hS8
  have HPUT := Lib.hid hput
  clear hput
  refine (markOps_any (c := 1) hit (by omega) (by omega) (by omega)).mono ?_
  rintro e w9 ⟨rfl, hit2, hch⟩
  obtain ⟨hS9, hq⟩ := HPUT.out (markO (1) (os).length) w9 hit2 hch
  have hb9 := hb8.trans hq
  clear hb8 hS8 HPUT hit hit2 hch hle hq
  go_wp2_with fail
  refine (eqInts_yes (Hs.rd [rt_ 8 52 (.slice A2_0 (os).length c2_0) (os), rw_ (.slice A3_0 (cuA os).length c3_0) (cuA os), rt_ 8 52 (.slice A4_0 (os).length c4_0) (markO (1) (os).length)] [rt_ 8 52 (.slice A7_0 (os).length c7_0) (os)] hS9) (Hs.rd [rt_ 8 52 (.slice A2_0 (os).length c2_0) (os)] [rt_ 8 52 (.slice A4_0 (os).length c4_0) (markO (1) (os).length), rw_ (.slice A5_0 (cuA os).length c5_0) (cuA os), rt_ 8 52 (.slice A7_0 (os).length c7_0) (os)] hS9) rfl).mono ?_
  rintro e w10 ⟨rfl, hq⟩
  have hb10 := hb9.trans (hq.mono hb9.size)
  have hS10 := hS9.below hq
  clear hb9 hS9 hq
  go_wp2_with fail
  obtain ⟨lo11, hi11, hit, hle, hput⟩ := Hs.owAt [rt_ 8 52 (.slice A2_0 (os).length c2_0) (os), rw_ (.slice A3_0 (cuA os).length c3_0) (cuA os), rt_ 8 52 (.slice A4_0 (os).length c4_0) (markO (1) (os).length)] (.slice A5_0 (cuA os).length c5_0) (cuA os) [rt_ 8 52 (.slice A7_0 (os).length c7_0) (os)] hS10
  have HPUT := Lib.hid hput
  clear hput
  refine (markInts_any _ _ _ _ (1) _ hit (by omega) (by omega) (by omega)).mono ?_
  rintro e w11 ⟨rfl, hit2, hch⟩
  obtain ⟨hS11, hq⟩ := HPUT.out (countFrom (1) (cuA os).length) w11 hit2 hch
  have hb11 := hb10.trans hq
  clear hb10 hS10 HPUT hit hit2 hch hle hq
  go_wp2_with fail
  refine (heldInts_quiet (Hs.rd [rt_ 8 52 (.slice A2_0 (os).length c2_0) (os), rw_ (.slice A3_0 (cuA os).length c3_0) (cuA os), rt_ 8 52 (.slice A4_0 (os).length c4_0) (markO (1) (os).length)] [rt_ 8 52 (.slice A7_0 (os).length c7_0) (os)] hS11) (by omega) (by omega) (by omega)).mono ?_
  rintro e w12 ⟨rfl, hq⟩
  have hb12 := hb11.trans (hq.mono hb11.size)
  have hS12 := hS11.below hq
  clear hb11 hS11 hq
  go_wp2_with fail
  refine (toOps_any (g0.below hb12 hB0) (Nat.le_trans hB0 hb12.size) (by omega)).mono ?_
  rintro e w13 ⟨q13_0, rfl, ho13, hq⟩
  have hb13 := hb12.trans (hq.mono hb12.size)
  have hS13 := hS12.join hq (hs_owt ho13 hq)
  clear hb12 hS12 hq ho13
  obtain ⟨A13_0, c13_0, rfl, -⟩ := id (Hs.rdT [rt_ 8 52 (.slice A2_0 (os).length c2_0) (os), rw_ (.slice A3_0 (cuA os).length c3_0) (cuA os), rt_ 8 52 (.slice A4_0 (os).length c4_0) (markO (1) (os).length), rw_ (.slice A5_0 (cuA os).length c5_0) (countFrom (1) (cuA os).length), rt_ 8 52 (.slice A7_0 (os).length c7_0) (os)] [] hS13)
  go_wp2_with fail
  refine (impl_CarriersUsed_any _ os _ _ (Hs.rdT [rt_ 8 52 (.slice A2_0 (os).length c2_0) (os), rw_ (.slice A3_0 (cuA os).length c3_0) (cuA os), rt_ 8 52 (.slice A4_0 (os).length c4_0) (markO (1) (os).length), rw_ (.slice A5_0 (cuA os).length c5_0) (countFrom (1) (cuA os).length), rt_ 8 52 (.slice A7_0 (os).length c7_0) (os)] [] hS13) (Nat.le_refl _)).mono ?_
  rintro e w14 ⟨q14_0, rfl, ho14, hq⟩
  have hb14 := hb13.trans (hq.mono hb13.size)
  have hS14 := hS13.join hq (hs_ow ho14 hq)
  clear hb13 hS13 hq ho14
  obtain ⟨A14_0, c14_0, rfl, -⟩ := id (Hs.rd [rt_ 8 52 (.slice A2_0 (os).length c2_0) (os), rw_ (.slice A3_0 (cuA os).length c3_0) (cuA os), rt_ 8 52 (.slice A4_0 (os).length c4_0) (markO (1) (os).length), rw_ (.slice A5_0 (cuA os).length c5_0) (countFrom (1) (cuA os).length), rt_ 8 52 (.slice A7_0 (os).length c7_0) (os), rt_ 8 52 (.slice A13_0 (os).length c13_0) (os)] [] hS14)
  go_wp2_with fail
  refine (eqInts_yes (Hs.rd [rt_ 8 52 (.slice A2_0 (os).length c2_0) (os), rw_ (.slice A3_0 (cuA os).length c3_0) (cuA os), rt_ 8 52 (.slice A4_0 (os).length c4_0) (markO (1) (os).length), rw_ (.slice A5_0 (cuA os).length c5_0) (countFrom (1) (cuA os).length), rt_ 8 52 (.slice A7_0 (os).length c7_0) (os), rt_ 8 52 (.slice A13_0 (os).length c13_0) (os)] [] hS14) (Hs.rd [rt_ 8 52 (.slice A2_0 (os).length c2_0) (os)] [rt_ 8 52 (.slice A4_0 (os).length c4_0) (markO (1) (os).length), rw_ (.slice A5_0 (cuA os).length c5_0) (countFrom (1) (cuA os).length), rt_ 8 52 (.slice A7_0 (os).length c7_0) (os), rt_ 8 52 (.slice A13_0 (os).length c13_0) (os), rw_ (.slice A14_0 (cuA os).length c14_0) (cuA os)] hS14) rfl).mono ?_
  rintro e w15 ⟨rfl, hq⟩
  have hb15 := hb14.trans (hq.mono hb14.size)
  have hS15 := hS14.below hq
  clear hb14 hS14 hq
  go_wp2_with fail
  refine (heldInts_quiet (Hs.rd [rt_ 8 52 (.slice A2_0 (os).length c2_0) (os), rw_ (.slice A3_0 (cuA os).length c3_0) (cuA os), rt_ 8 52 (.slice A4_0 (os).length c4_0) (markO (1) (os).length)] [rt_ 8 52 (.slice A7_0 (os).length c7_0) (os), rt_ 8 52 (.slice A13_0 (os).length c13_0) (os), rw_ (.slice A14_0 (cuA os).length c14_0) (cuA os)] hS15) (by omega) (by omega) (by omega)).mono ?_
  rintro e w16 ⟨rfl, hq⟩
  have hb16 := hb15.trans (hq.mono hb15.size)
  have hS16 := hS15.below hq
  clear hb15 hS15 hq
  go_wp2_with fail
  go_ret
  exact ⟨rfl, hA0.trans (hb16.mono hB0)⟩

set_option maxRecDepth 100000 in
theorem lifted (os : Os) (started : os.Started) (H : Type) (enc : TypeId × Value → H) :
    ReturnsInHanded {} Try.checked os 10 .any (Rows.fnExactCarriersUsedSpec.pre6 enc Try.prog Try.f10 Rows.fnExactCarriersUsedRow.domain false) (Rows.fnExactCarriersUsedSpec.post enc Try.prog Try.f10 false true false false) := by
  refine returnsInHanded_of_change (C := Try.checked) own_knob started (by kernel_rfl) Try.func10
    (ChangeSpec.witness6 (enc := enc) (C := Try.checked) false ⟨#[], #[.slice none 0 0], []⟩ 8 (by kernel_rfl) (by kernel_rfl) (by kernel_rfl) (by kernel_rfl)) ?_
  intro W base args ds gs before hval0 hW hcnd _
  have hval : ∀ (j : Nat) t v, Try.f10.params[j]? = some t → args[j]? = some v → Value.okWide Try.prog W .any base t v := hval0
  have hW' := hW
  obtain ⟨p, q, hA0, hV, rfl, hfz, hnd⟩ := hW
  have hA : DataW.TrodAll enc Try.prog W 0 (fun _ => true) true Try.f10.params.toList args.toList ds p := hA0
  rw [Try.params10] at hA hval
  obtain ⟨v0, vs0, d0, ds0, p0, q0, hargs, rfl, rfl, h0, r0⟩ := trodAll_cons hA
  obtain ⟨rfl, rfl, rfl⟩ := trodAll_nil r0
  obtain rfl : args = #[v0] := by cases args; simp_all
  obtain ⟨rfl, rfl⟩ := trodVars_none hV
  have k0 := h0
  have lt0 : ∀ x ∈ p0, x.block < W.heap.size := by obtain ⟨m, hm⟩ := k0; exact DataW.trod_lt m _ _ _ hm
  obtain ⟨os, s0, b0⟩ := open_SlO (hval 0 22 v0 rfl rfl) h0
  clear hA0 hval0
  refine (walk v0 os W s0 b0).mono fun e W' ⟨he, bel⟩ => ?_
  subst he
  exact ⟨_, rfl, _, _, _, [], _, [], hW', trodAll_mk1 (shut_bool Try.underlying4 _), (trodAll_cons_mk (Below.trod laid_out (by kernel_rfl) (of_decide_eq_true (by kernel_rfl)) k0 bel lt0) trodAll_mk0), rfl, bel.frame _, fun h => by cases h⟩

/-- The statement. -/
theorem proved : Rows.FnExactCarriersUsedSaid :=
  OpenClaim.holds_of_wide 10 Try.f10 rfl rfl rfl rfl rfl rfl rfl ⟨rfl, rfl, rfl, rfl, rfl⟩ rfl rfl rfl rfl rfl (by kernel_rfl) Try.func10 (by kernel_rfl)
    (of_decide_eq_true (by kernel_rfl)) (by unfold Func.isWrapper; first | (rw [if_pos (by decide +kernel)]; kernel_rfl) | (rw [if_neg (by decide +kernel)]; exact ⟨rfl, rfl⟩))
    (fun os started H enc _ => lifted os started H enc)
#print axioms proved
end Go.Proofs.Ytpiodiliifnckaa.fnExactCarriersUsed
