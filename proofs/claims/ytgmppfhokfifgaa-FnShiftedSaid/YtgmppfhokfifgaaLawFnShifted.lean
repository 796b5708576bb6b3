/-
  Proved here: for every input the law FnShifted returns true, and every argument reads behind the call as it read before. No condition.
-/
import Derived.Test.YtgmppfhokfifgaaShp
import Derived.Test.YtgmppfhokfifgaaA2c
import Derived.Test.YtgmppfhokfifgaaGmx
import Derived.ProofKit
import Derived.OpenShut
import Derived.ShutString
import Derived.ChangeOld
import Derived.Below
import Derived.Deep.RegionHeld3
import Derived.Deep.DeepCutAuto
namespace Go.Proofs.Ytgmppfhokfifgaa.fnShifted
set_option maxRecDepth 10000
open Go.ChangeShapes Go.WideShapes Go.ChangeAt Go.RowKit
set_option linter.unusedVariables false

set_option maxRecDepth 100000 in
set_option maxHeartbeats 6400000 in
theorem walk (v0 v1 : Value) (bs0 bs1 : List Int) (w : World) (h0 : SlB w w.heap.size v0 bs0) (h1 : SlB w w.heap.size v1 bs1) :
    Calls Try.prog 3 #[v0, v1] w fun e w' => e = .returned (.bool true) ∧ Below w.heap.size w w' := by
  obtain ⟨A1, c1, rfl, hl1, hm1, -⟩ := id h1
  have HLG := Lib.hid (a2Long_any v0 _ bs0 bs1 _ w h0 h1)
  cases hlong : (decide (3000 < (bs0.length : Int)) || decide (3000 < (bs1.length : Int)))
  · rw [hlong] at HLG
    clear hlong
    go_enter Try.func3, Try.ntmps3
    go_wp2_with fail
    refine HLG.out.mono ?_
    rintro e w' ⟨rfl, rfl⟩
    clear HLG
    go_wp2_with fail
    refine (A2Program_any v0 bs0 w h0).mono ?_
    rintro e w1 ⟨n, r, M, os, rfl, hn, hO, hD, hl, hb1⟩
    obtain ⟨A, c, rfl, -⟩ := id (hO.sl (Nat.le_refl _))
    have H1 := Lib.hid (h1.keep fun p hp => hb1.cell hp)
    have HO := Lib.hid hO
    have HD := Lib.hid hD
    have HB1 := Lib.hid hb1
    have hz1 := hb1.size
    clear hO hD hb1 h0 h1
    go_wp2_with fail
    refine (a2At_any _ bs1 _ w1 H1.out).mono ?_
    rintro e w' ⟨x, rfl, x0, x1, rfl⟩
    have hwb : IntKind.i64.wrap (x - 2) = x - 2 := IntWalk.i64_in _ (by omega)
    have hb2 : -2 ≤ x - 2 ∧ x - 2 ≤ 2 := by omega
    have hwn : IntKind.i64.wrap (-(x - 2)) = -(x - 2) := IntWalk.i64_in _ (by omega)
    clear H1 x0 x1
    have HP := Lib.hid (sh_plain HD.out hn hl hb2)
    have HS := Lib.hid (impl_ShiftProgram_any n _ os (x - 2) _ w1 (HO.out.sl (Nat.le_refl _)) (Nat.le_refl _))
    rcases HP.out with ⟨e1, hne⟩ | ⟨os2, e1, e2, e3, e4⟩
    · rw [e1] at HS
      have hbb : (x - 2 != 0) = true := by simpa using hne
      clear HP e1 hne
      go_wp2_with fail
      refine HS.out.mono ?_
      rintro e w2 ⟨r2, rfl, hO2, hb3⟩
      obtain ⟨A2, c2, rfl, -⟩ := id (hO2.sl (Nat.le_refl _))
      have HB3 := Lib.hid (HB1.out.trans (hb3.mono hz1))
      clear hO2 hb3 HS
      go_wp2_with fail
      go_ret
      exact ⟨ret_bool (by simp), HB3.out⟩
    · rw [e1] at HS
      have HE3 := Lib.hid e3
      have HE4 := Lib.hid e4
      have HE2 := Lib.hid e2
      clear HP e1 e2 e3 e4
      go_wp2_with fail
      refine HS.out.mono ?_
      rintro e w2 ⟨r2, rfl, hO2, hb3⟩
      obtain ⟨A2, c2, rfl, -⟩ := id (hO2.sl (Nat.le_refl _))
      have hz2 := hb3.size
      have HO2 := Lib.hid hO2
      have HB3 := Lib.hid (HB1.out.trans (hb3.mono hz1))
      have HOa := Lib.hid (HO.out.below hb3 (Nat.le_refl _))
      clear hO2 hb3 HS
      have HS2 := Lib.hid (impl_ShiftProgram_any n _ os2 (-(x - 2)) _ w2 (HO2.out.sl (Nat.le_refl _)) (Nat.le_refl _))
      rw [HE2.out] at HS2
      go_wp2_with fail
      refine HS2.out.mono ?_
      rintro e w3 ⟨r3, rfl, hO3, hb4⟩
      obtain ⟨A3, c3, rfl, -⟩ := id (hO3.sl (Nat.le_refl _))
      have hz3 := hb4.size
      have HB4 := Lib.hid (HB3.out.trans (hb4.mono HB3.out.size))
      have S3 := Lib.hid (hO3.sl (Nat.le_refl _))
      have S2 := Lib.hid ((HO2.out.below hb4 (Nat.le_refl _)).sl hz3)
      have S1 := Lib.hid ((HOa.out.below hb4 (by omega)).sl (Nat.le_trans hz2 hz3))
      clear hO3 hb4 HS2 HO2 HOa
      go_wp2_with fail
      refine (a2Ops_yes S3.out S1.out).mono ?_
      rintro e w4 ⟨rfl, hq4⟩
      have hz4 := hq4.size
      have HB5 := Lib.hid (HB4.out.trans (hq4.mono HB4.out.size))
      have T2 := Lib.hid (S2.out.below hq4 (Nat.le_refl _))
      have T1 := Lib.hid (S1.out.below hq4 (Nat.le_refl _))
      clear hq4 S3 S2 S1
      go_wp2_with fail
      refine (impl_KindCounts_any _ os2 _ w4 T2.out hz4).mono ?_
      rintro e w5 ⟨r5, rfl, hK5, hb5⟩
      obtain ⟨A5, c5, rfl, -⟩ := id (hK5.sl (Nat.le_refl _))
      have HK5 := Lib.hid hK5
      have hz5 := hb5.size
      have HB6 := Lib.hid (HB5.out.trans (hb5.mono HB5.out.size))
      have U2 := Lib.hid (T2.out.below hb5 hz4)
      have U1 := Lib.hid (T1.out.below hb5 hz4)
      clear hK5 hb5 T2 T1
      go_wp2_with fail
      refine (impl_KindCounts_any _ os _ w5 U1.out (Nat.le_trans hz4 hz5)).mono ?_
      rintro e w6 ⟨r6, rfl, hK6, hb6⟩
      obtain ⟨A6, c6, rfl, -⟩ := id (hK6.sl (Nat.le_refl _))
      have HK6 := Lib.hid hK6
      have hz6 := hb6.size
      have HB7 := Lib.hid (HB6.out.trans (hb6.mono HB6.out.size))
      have HK5b := Lib.hid (HK5.out.below hb6 (Nat.le_refl _))
      have V2 := Lib.hid (U2.out.below hb6 (Nat.le_trans hz4 hz5))
      have V1 := Lib.hid (U1.out.below hb6 (Nat.le_trans hz4 hz5))
      clear hK6 hb6 U2 U1 HK5
      go_wp2_with fail
      refine (a2Same_yes (HK5b.out.sl (Nat.le_refl _)) (HK6.out.sl (Nat.le_refl _)) HE3.out).mono ?_
      rintro e w7 ⟨rfl, hq7⟩
      have hz7 := hq7.size
      have HB8 := Lib.hid (HB7.out.trans (hq7.mono HB7.out.size))
      have X2 := Lib.hid (V2.out.below hq7 (by omega))
      have X1 := Lib.hid (V1.out.below hq7 (by omega))
      clear hq7 V2 V1 HK5b HK6
      go_wp2_with fail
      refine (impl_CarriersUsed_any _ os2 _ w7 X2.out (by omega)).mono ?_
      rintro e w8 ⟨r8, rfl, hK8, hb8⟩
      obtain ⟨A8, c8, rfl, -⟩ := id (hK8.sl (Nat.le_refl _))
      have HK8 := Lib.hid hK8
      have hz8 := hb8.size
      have HB9 := Lib.hid (HB8.out.trans (hb8.mono HB8.out.size))
      have Y1 := Lib.hid (X1.out.below hb8 (by omega))
      clear hK8 hb8 X2 X1
      go_wp2_with fail
      refine (impl_CarriersUsed_any _ os _ w8 Y1.out (by omega)).mono ?_
      rintro e w9 ⟨r9, rfl, hK9, hb9⟩
      obtain ⟨A9, c9, rfl, -⟩ := id (hK9.sl (Nat.le_refl _))
      have HK9 := Lib.hid hK9
      have HB10 := Lib.hid (HB9.out.trans (hb9.mono HB9.out.size))
      have HK8b := Lib.hid (HK8.out.below hb9 (Nat.le_refl _))
      have hz9 := hb9.size
      clear hK9 hb9 Y1 HK8
      go_wp2_with fail
      refine (a2Same_yes (HK8b.out.sl (Nat.le_refl _)) (HK9.out.sl (Nat.le_refl _)) HE4.out).mono ?_
      rintro e w10 ⟨rfl, hq10⟩
      have HB11 := Lib.hid (HB10.out.trans (hq10.mono HB10.out.size))
      clear hq10 HK8b HK9
      go_wp2_with fail
      go_ret
      exact ⟨rfl, HB11.out⟩
  · rw [hlong] at HLG
    clear hlong
    go_enter Try.func3, Try.ntmps3
    go_wp2_with fail
    refine HLG.out.mono ?_
    rintro e w' ⟨rfl, rfl⟩
    go_wp2_with fail
    go_ret
    exact ⟨rfl, Below.refl _ _⟩

set_option maxRecDepth 100000 in
theorem lifted (os : Os) (started : os.Started) (H : Type) (enc : TypeId × Value → H) :
    ReturnsInHanded {} Try.checked os 3 .any (Rows.fnShiftedSpec.pre6 enc Try.prog Try.f3 Rows.fnShiftedRow.domain false) (Rows.fnShiftedSpec.post enc Try.prog Try.f3 false true false false) := by
  refine returnsInHanded_of_change (C := Try.checked) own_knob started (by kernel_rfl) Try.func3
    (ChangeSpec.witness6 (enc := enc) (C := Try.checked) false ⟨#[], #[.slice none 0 0, .slice none 0 0], []⟩ 8 (by kernel_rfl) (by kernel_rfl) (by kernel_rfl) (by kernel_rfl)) ?_
  intro W base args ds gs before hval0 hW hcnd _
  have hval : ∀ (j : Nat) t v, Try.f3.params[j]? = some t → args[j]? = some v → Value.okWide Try.prog W .any base t v := hval0
  have hW' := hW
  obtain ⟨p, q, hA0, hV, rfl, hfz, hnd⟩ := hW
  have hA : DataW.TrodAll enc Try.prog W 0 (fun _ => true) true Try.f3.params.toList args.toList ds p := hA0
  rw [Try.params3] at hA hval
  obtain ⟨v0, vs0, d0, ds0, p0, q0, hargs, rfl, rfl, h0, r0⟩ := trodAll_cons hA
  obtain ⟨v1, vs1, d1, ds1, p1, q1, rfl, rfl, rfl, h1, r1⟩ := trodAll_cons r0
  obtain ⟨rfl, rfl, rfl⟩ := trodAll_nil r1
  obtain rfl : args = #[v0, v1] := by cases args; simp_all
  obtain ⟨rfl, rfl⟩ := trodVars_none hV
  have k0 := h0
  have lt0 : ∀ x ∈ p0, x.block < W.heap.size := by obtain ⟨m, hm⟩ := k0; exact DataW.trod_lt m _ _ _ hm
  have k1 := h1
  have lt1 : ∀ x ∈ p1, x.block < W.heap.size := by obtain ⟨m, hm⟩ := k1; exact DataW.trod_lt m _ _ _ hm
  obtain ⟨bs0, s0⟩ := open_SlB (hval 0 22 v0 rfl rfl) h0
  obtain ⟨bs1, s1⟩ := open_SlB (hval 1 22 v1 rfl rfl) h1
  clear hA0 hval0
  refine (walk v0 v1 bs0 bs1 W s0 s1).mono fun e W' ⟨he, bel⟩ => ?_
  subst he
  exact ⟨_, rfl, _, _, _, [], _, [], hW', trodAll_mk1 (shut_bool Try.underlying4 _), (trodAll_cons_mk (Below.trod laid_out (by kernel_rfl) (of_decide_eq_true (by kernel_rfl)) k0 bel lt0) (trodAll_cons_mk (Below.trod laid_out (by kernel_rfl) (of_decide_eq_true (by kernel_rfl)) k1 bel lt1) trodAll_mk0)), rfl, bel.frame _, fun h => by cases h⟩

/-- The statement. -/
theorem proved : Rows.FnShiftedSaid :=
  OpenClaim.holds_of_wide 3 Try.f3 rfl rfl rfl rfl rfl rfl rfl ⟨rfl, rfl, rfl, rfl, rfl⟩ rfl rfl rfl rfl rfl (by kernel_rfl) Try.func3 (by kernel_rfl)
    (of_decide_eq_true (by kernel_rfl)) (by unfold Func.isWrapper; first | (rw [if_pos (by decide +kernel)]; kernel_rfl) | (rw [if_neg (by decide +kernel)]; exact ⟨rfl, rfl⟩))
    (fun os started H enc _ => lifted os started H enc)
#print axioms proved
end Go.Proofs.Ytgmppfhokfifgaa.fnShifted
