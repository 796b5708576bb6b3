/-
  Proved here: for every input the law FnExactApplyAction returns true, and every argument reads behind the call as it read before. No condition.
-/
import Derived.Test.YtcoocjdkppdlmaaOpen
import Derived.Test.YtcoocjdkppdlmaaSs3
import Derived.Test.YtcoocjdkppdlmaaSs2
import Derived.Test.YtcoocjdkppdlmaaAct3
import Derived.ProofKit
import Derived.OpenShut
import Derived.ShutString
import Derived.ChangeOld
import Derived.Below
import Derived.Deep.RegionHeld3
import Derived.Deep.DeepCutAuto
namespace Go.Proofs.Ytcoocjdkppdlmaa.fnExactApplyAction
set_option maxRecDepth 10000
open Go.ChangeShapes Go.WideShapes Go.ChangeAt Go.RowKit
open Go.ChangeMaps (open_string shut_string)
set_option linter.unusedVariables false

set_option maxRecDepth 100000 in
set_option maxHeartbeats 4000000 in
theorem walk (v0 : Value) (xss : List (List Int)) (v1 : Value) (ys : List Int) (w : World) (h0 : SlS w w.heap.size v0 xss) (b0 : ∀ xs ∈ xss, ∀ n ∈ xs, R64 n) (h1 : Sl w w.heap.size v1 ys) (b1 : ∀ x ∈ ys, R64 x) :
    Calls Try.prog 3 #[v0, v1] w fun e w' => e = .returned (.bool true) ∧ Below w.heap.size w w' := by
  obtain ⟨A0, c0, e0, hl0, hm0⟩ : ∃ A c, v0 = .slice A xss.length c ∧ xss.length ≤ c ∧ c ≤ 9223372036854775807 := by obtain ⟨A, c, h1, h2, h3, _⟩ := h0; simp only [maxLen] at h3; exact ⟨A, c, h1, h2, by omega⟩
  subst e0
  obtain ⟨A1, c1, e1, hl1, hm1⟩ : ∃ A c, v1 = .slice A ys.length c ∧ ys.length ≤ c ∧ c ≤ 9223372036854775807 := by obtain ⟨A, c, h1, h2, h3, _⟩ := h1; simp only [maxLen] at h3; exact ⟨A, c, h1, h2, by omega⟩
  subst e1
  have hA0 : Below w.heap.size w w := (Below.refl w.heap.size w)
  have hB0 : w.heap.size ≤ w.heap.size := hA0.size
  have g0 := h0.below hA0 (Nat.le_refl _)
  clear h0
  have g1 := h1.below hA0 (Nat.le_refl _)
  clear h1
  have hb0 := Below.refl w.heap.size w
  have hS0 : Hs w w.heap.size [] := Hs.nil _
  by_cases y1 : (1048576 : Int) < ys.length
  · go_enter Try.func3, Try.ntmps3
    go_wp2
    go_ret
    exact ⟨rfl, Below.refl _ _⟩
  have yl1 : (ys.length : Int) ≤ 1048576 := by omega
  by_cases z0 : (1048576 : Int) < ((xss.length + lenSS xss : Nat) : Int)
  · go_enter Try.func3, Try.ntmps3
    go_wp2_with fail
    refine (szSS_no (g0.below hb0 hB0) (by omega) (by omega) z0).mono ?_
    rintro e w1 ⟨rfl, hq⟩
    have hb1 := hb0.trans (hq.mono hb0.size)
    have hS1 := hS0.below hq
    clear hb0 hS0 hq
    go_wp2_with fail
    go_ret
    exact ⟨rfl, hA0.trans (hb1.mono hB0)⟩
  have zl0 : (((xss.length + lenSS xss : Nat) : Int) : Int) ≤ 1048576 := by omega
  have hfl := appA_len xss ys
  go_enter Try.func3, Try.ntmps3
  go_wp2_with fail
  refine (szSS_yes (g0.below hb0 hB0) (by omega) (by omega) (by omega)).mono ?_
  rintro e w1 ⟨rfl, hq⟩
  have hb1 := hb0.trans (hq.mono hb0.size)
  have hS1 := hS0.below hq
  clear hb0 hS0 hq
  go_wp2_with fail
  refine (toSS_any (g0.below hb1 hB0) (Nat.le_trans hB0 hb1.size) (by omega)).mono ?_
  rintro e w2 ⟨q2_0, rfl, ho2, hq⟩
  have hb2 := hb1.trans (hq.mono hb1.size)
  have hS2 := hS1.join hq (hs_ows ho2 hq)
  clear hb1 hS1 hq ho2
  obtain ⟨A2_0, c2_0, rfl, -⟩ := id (Hs.rdS [] [] hS2)
  go_wp2_with fail
  refine (toInts_any _ _ _ _ (g1.below hb2 hB0) (Nat.le_trans hB0 hb2.size) (by omega)).mono ?_
  rintro e w3 ⟨q3_0, rfl, ho3, hq⟩
  have hb3 := hb2.trans (hq.mono hb2.size)
  have hS3 := hS2.join hq (hs_ow ho3 hq)
  clear hb2 hS2 hq ho3
  obtain ⟨A3_0, c3_0, rfl, -⟩ := id (Hs.rd [rws_ (.slice A2_0 (xss).length c2_0) (xss)] [] hS3)
  go_wp2_with fail
  refine (spec_ApplyAction_any _ _ xss ys _ _ (Hs.rdS [] [rw_ (.slice A3_0 (ys).length c3_0) (ys)] hS3) (Hs.rd [rws_ (.slice A2_0 (xss).length c2_0) (xss)] [] hS3) (Nat.le_refl _)).mono ?_
  rintro e w4 ⟨q4_0, rfl, ho4, hq⟩
  have hb4 := hb3.trans (hq.mono hb3.size)
  have hS4 := hS3.join hq (hs_ow ho4 hq)
  clear hb3 hS3 hq ho4
  obtain ⟨A4_0, c4_0, rfl, -⟩ := id (Hs.rd [rws_ (.slice A2_0 (xss).length c2_0) (xss), rw_ (.slice A3_0 (ys).length c3_0) (ys)] [] hS4)
  go_wp2_with fail
  refine (toSS_any (g0.below hb4 hB0) (Nat.le_trans hB0 hb4.size) (by omega)).mono ?_
  rintro e w5 ⟨q5_0, rfl, ho5, hq⟩
  have hb5 := hb4.trans (hq.mono hb4.size)
  have hS5 := hS4.join hq (hs_ows ho5 hq)
  clear hb4 hS4 hq ho5
  obtain ⟨A5_0, c5_0, rfl, -⟩ := id (Hs.rdS [rws_ (.slice A2_0 (xss).length c2_0) (xss), rw_ (.slice A3_0 (ys).length c3_0) (ys), rw_ (.slice A4_0 ((appA xss ys).1).length c4_0) ((appA xss ys).1)] [] hS5)
  go_wp2_with fail
  refine (toInts_any _ _ _ _ (g1.below hb5 hB0) (Nat.le_trans hB0 hb5.size) (by omega)).mono ?_
  rintro e w6 ⟨q6_0, rfl, ho6, hq⟩
  have hb6 := hb5.trans (hq.mono hb5.size)
  have hS6 := hS5.join hq (hs_ow ho6 hq)
  clear hb5 hS5 hq ho6
  obtain ⟨A6_0, c6_0, rfl, -⟩ := id (Hs.rd [rws_ (.slice A2_0 (xss).length c2_0) (xss), rw_ (.slice A3_0 (ys).length c3_0) (ys), rw_ (.slice A4_0 ((appA xss ys).1).length c4_0) ((appA xss ys).1), rws_ (.slice A5_0 (xss).length c5_0) (xss)] [] hS6)
  go_wp2_with fail
  refine (impl_ApplyAction_any _ _ xss ys _ _ (Hs.rdS [rws_ (.slice A2_0 (xss).length c2_0) (xss), rw_ (.slice A3_0 (ys).length c3_0) (ys), rw_ (.slice A4_0 ((appA xss ys).1).length c4_0) ((appA xss ys).1)] [rw_ (.slice A6_0 (ys).length c6_0) (ys)] hS6) (Hs.rd [rws_ (.slice A2_0 (xss).length c2_0) (xss), rw_ (.slice A3_0 (ys).length c3_0) (ys), rw_ (.slice A4_0 ((appA xss ys).1).length c4_0) ((appA xss ys).1), rws_ (.slice A5_0 (xss).length c5_0) (xss)] [] hS6) (Nat.le_refl _)).mono ?_
  rintro e w7 ⟨q7_0, rfl, ho7, hq⟩
  have hb7 := hb6.trans (hq.mono hb6.size)
  have hS7 := hS6.join hq (hs_ow ho7 hq)
  clear hb6 hS6 hq ho7
  obtain ⟨A7_0, c7_0, rfl, -⟩ := id (Hs.rd [rws_ (.slice A2_0 (xss).length c2_0) (xss), rw_ (.slice A3_0 (ys).length c3_0) (ys), rw_ (.slice A4_0 ((appA xss ys).1).length c4_0) ((appA xss ys).1), rws_ (.slice A5_0 (xss).length c5_0) (xss), rw_ (.slice A6_0 (ys).length c6_0) (ys)] [] hS7)
  go_wp2_with fail
  refine (eqInts_yes (Hs.rd [rws_ (.slice A2_0 (xss).length c2_0) (xss), rw_ (.slice A3_0 (ys).length c3_0) (ys), rw_ (.slice A4_0 ((appA xss ys).1).length c4_0) ((appA xss ys).1), rws_ (.slice A5_0 (xss).length c5_0) (xss), rw_ (.slice A6_0 (ys).length c6_0) (ys)] [] hS7) (Hs.rd [rws_ (.slice A2_0 (xss).length c2_0) (xss), rw_ (.slice A3_0 (ys).length c3_0) (ys)] [rws_ (.slice A5_0 (xss).length c5_0) (xss), rw_ (.slice A6_0 (ys).length c6_0) (ys), rw_ (.slice A7_0 ((appA xss ys).1).length c7_0) ((appA xss ys).1)] hS7) rfl).mono ?_
  rintro e w8 ⟨rfl, hq⟩
  have hb8 := hb7.trans (hq.mono hb7.size)
  have hS8 := hS7.below hq
  clear hb7 hS7 hq
  go_wp2_with fail
  refine (toSS_any (g0.below hb8 hB0) (Nat.le_trans hB0 hb8.size) (by omega)).mono ?_
  rintro e w9 ⟨q9_0, rfl, ho9, hq⟩
  have hb9 := hb8.trans (hq.mono hb8.size)
  have hS9 := hS8.join hq (hs_ows ho9 hq)
  clear hb8 hS8 hq ho9
  obtain ⟨A9_0, c9_0, rfl, -⟩ := id (Hs.rdS [rws_ (.slice A2_0 (xss).length c2_0) (xss), rw_ (.slice A3_0 (ys).length c3_0) (ys), rw_ (.slice A4_0 ((appA xss ys).1).length c4_0) ((appA xss ys).1), rws_ (.slice A5_0 (xss).length c5_0) (xss), rw_ (.slice A6_0 (ys).length c6_0) (ys), rw_ (.slice A7_0 ((appA xss ys).1).length c7_0) ((appA xss ys).1)] [] hS9)
  go_wp2_with fail
  refine (eqSS_yes (Hs.rdS [rws_ (.slice A2_0 (xss).length c2_0) (xss), rw_ (.slice A3_0 (ys).length c3_0) (ys), rw_ (.slice A4_0 ((appA xss ys).1).length c4_0) ((appA xss ys).1)] [rw_ (.slice A6_0 (ys).length c6_0) (ys), rw_ (.slice A7_0 ((appA xss ys).1).length c7_0) ((appA xss ys).1), rws_ (.slice A9_0 (xss).length c9_0) (xss)] hS9) (Hs.rdS [rws_ (.slice A2_0 (xss).length c2_0) (xss), rw_ (.slice A3_0 (ys).length c3_0) (ys), rw_ (.slice A4_0 ((appA xss ys).1).length c4_0) ((appA xss ys).1), rws_ (.slice A5_0 (xss).length c5_0) (xss), rw_ (.slice A6_0 (ys).length c6_0) (ys), rw_ (.slice A7_0 ((appA xss ys).1).length c7_0) ((appA xss ys).1)] [] hS9)).mono ?_
  rintro e w10 ⟨rfl, hq⟩
  have hb10 := hb9.trans (hq.mono hb9.size)
  have hS10 := hS9.below hq
  clear hb9 hS9 hq
  go_wp2_with fail
  refine (toInts_any _ _ _ _ (g1.below hb10 hB0) (Nat.le_trans hB0 hb10.size) (by omega)).mono ?_
  rintro e w11 ⟨q11_0, rfl, ho11, hq⟩
  have hb11 := hb10.trans (hq.mono hb10.size)
  have hS11 := hS10.join hq (hs_ow ho11 hq)
  clear hb10 hS10 hq ho11
  obtain ⟨A11_0, c11_0, rfl, -⟩ := id (Hs.rd [rws_ (.slice A2_0 (xss).length c2_0) (xss), rw_ (.slice A3_0 (ys).length c3_0) (ys), rw_ (.slice A4_0 ((appA xss ys).1).length c4_0) ((appA xss ys).1), rws_ (.slice A5_0 (xss).length c5_0) (xss), rw_ (.slice A6_0 (ys).length c6_0) (ys), rw_ (.slice A7_0 ((appA xss ys).1).length c7_0) ((appA xss ys).1), rws_ (.slice A9_0 (xss).length c9_0) (xss)] [] hS11)
  go_wp2_with fail
  refine (eqInts_yes (Hs.rd [rws_ (.slice A2_0 (xss).length c2_0) (xss), rw_ (.slice A3_0 (ys).length c3_0) (ys), rw_ (.slice A4_0 ((appA xss ys).1).length c4_0) ((appA xss ys).1), rws_ (.slice A5_0 (xss).length c5_0) (xss)] [rw_ (.slice A7_0 ((appA xss ys).1).length c7_0) ((appA xss ys).1), rws_ (.slice A9_0 (xss).length c9_0) (xss), rw_ (.slice A11_0 (ys).length c11_0) (ys)] hS11) (Hs.rd [rws_ (.slice A2_0 (xss).length c2_0) (xss), rw_ (.slice A3_0 (ys).length c3_0) (ys), rw_ (.slice A4_0 ((appA xss ys).1).length c4_0) ((appA xss ys).1), rws_ (.slice A5_0 (xss).length c5_0) (xss), rw_ (.slice A6_0 (ys).length c6_0) (ys), rw_ (.slice A7_0 ((appA xss ys).1).length c7_0) ((appA xss ys).1), rws_ (.slice A9_0 (xss).length c9_0) (xss)] [] hS11) rfl).mono ?_
  rintro e w12 ⟨rfl, hq⟩
  have hb12 := hb11.trans (hq.mono hb11.size)
  have hS12 := hS11.below hq
  clear hb11 hS11 hq
  go_wp2_with fail
  obtain ⟨SS, hit, hsb, hput⟩ := Hs.at_ [rws_ (.slice A2_0 (xss).length c2_0) (xss), rw_ (.slice A3_0 (ys).length c3_0) (ys), rw_ (.slice A4_0 ((appA xss ys).1).length c4_0) ((appA xss ys).1)] (rws_ (.slice A5_0 (xss).length c5_0) (xss)) [rw_ (.slice A6_0 (ys).length c6_0) (ys), rw_ (.slice A7_0 ((appA xss ys).1).length c7_0) ((appA xss ys).1), rws_ (.slice A9_0 (xss).length c9_0) (xss), rw_ (.slice A11_0 (ys).length c11_0) (ys)] hS12
  have HPUT := Lib.hid hput
  clear hput
  refine (markSS_any (c := 1) hit (fun b hb => (hsb b hb).2) (by omega) (by omega) (by omega)).mono ?_
  rintro e w13 ⟨rfl, hit2, hch⟩
  have hS13 := HPUT.out (rws_ (.slice A5_0 (xss).length c5_0) (markSS (1) (xss))) w13 hit2 hch
  have hb13 := hb12.trans (hch.below (fun k hk => (hsb k hk).1) hb12.size)
  clear hb12 hS12 HPUT hit hit2 hch hsb
  go_wp2_with fail
  obtain ⟨lo14, hi14, hit, hle, hput⟩ := Hs.owAt [rws_ (.slice A2_0 (xss).length c2_0) (xss), rw_ (.slice A3_0 (ys).length c3_0) (ys), rw_ (.slice A4_0 ((appA xss ys).1).length c4_0) ((appA xss ys).1), rws_ (.slice A5_0 (xss).length c5_0) (markSS (1) (xss))] (.slice A6_0 (ys).length c6_0) (ys) [rw_ (.slice A7_0 ((appA xss ys).1).length c7_0) ((appA xss ys).1), rws_ (.slice A9_0 (xss).length c9_0) (xss), rw_ (.slice A11_0 (ys).length c11_0) (ys)] hS13
  have HPUT := Lib.hid hput
  clear hput
  refine (markInts_any _ _ _ _ (1 + lenSS (xss)) _ hit (by omega) (by omega) (by omega)).mono ?_
  rintro e w14 ⟨rfl, hit2, hch⟩
  obtain ⟨hS14, hq⟩ := HPUT.out (countFrom (1 + lenSS (xss)) (ys).length) w14 hit2 hch
  have hb14 := hb13.trans hq
  clear hb13 hS13 HPUT hit hit2 hch hle hq
  go_wp2_with fail
  refine (eqInts_yes (Hs.rd [rws_ (.slice A2_0 (xss).length c2_0) (xss), rw_ (.slice A3_0 (ys).length c3_0) (ys), rw_ (.slice A4_0 ((appA xss ys).1).length c4_0) ((appA xss ys).1), rws_ (.slice A5_0 (xss).length c5_0) (markSS (1) (xss)), rw_ (.slice A6_0 (ys).length c6_0) (countFrom (1 + lenSS (xss)) (ys).length)] [rws_ (.slice A9_0 (xss).length c9_0) (xss), rw_ (.slice A11_0 (ys).length c11_0) (ys)] hS14) (Hs.rd [rws_ (.slice A2_0 (xss).length c2_0) (xss), rw_ (.slice A3_0 (ys).length c3_0) (ys)] [rws_ (.slice A5_0 (xss).length c5_0) (markSS (1) (xss)), rw_ (.slice A6_0 (ys).length c6_0) (countFrom (1 + lenSS (xss)) (ys).length), rw_ (.slice A7_0 ((appA xss ys).1).length c7_0) ((appA xss ys).1), rws_ (.slice A9_0 (xss).length c9_0) (xss), rw_ (.slice A11_0 (ys).length c11_0) (ys)] hS14) rfl).mono ?_
  rintro e w15 ⟨rfl, hq⟩
  have hb15 := hb14.trans (hq.mono hb14.size)
  have hS15 := hS14.below hq
  clear hb14 hS14 hq
  go_wp2_with fail
  obtain ⟨lo16, hi16, hit, hle, hput⟩ := Hs.owAt [rws_ (.slice A2_0 (xss).length c2_0) (xss), rw_ (.slice A3_0 (ys).length c3_0) (ys), rw_ (.slice A4_0 ((appA xss ys).1).length c4_0) ((appA xss ys).1), rws_ (.slice A5_0 (xss).length c5_0) (markSS (1) (xss)), rw_ (.slice A6_0 (ys).length c6_0) (countFrom (1 + lenSS (xss)) (ys).length)] (.slice A7_0 ((appA xss ys).1).length c7_0) ((appA xss ys).1) [rws_ (.slice A9_0 (xss).length c9_0) (xss), rw_ (.slice A11_0 (ys).length c11_0) (ys)] hS15
  have HPUT := Lib.hid hput
  clear hput
  refine (markInts_any _ _ _ _ (1) _ hit (by omega) (by omega) (by omega)).mono ?_
  rintro e w16 ⟨rfl, hit2, hch⟩
  obtain ⟨hS16, hq⟩ := HPUT.out (countFrom (1) ((appA xss ys).1).length) w16 hit2 hch
  have hb16 := hb15.trans hq
  clear hb15 hS15 HPUT hit hit2 hch hle hq
  go_wp2_with fail
  refine (heldInts_quiet (Hs.rd [rws_ (.slice A2_0 (xss).length c2_0) (xss), rw_ (.slice A3_0 (ys).length c3_0) (ys), rw_ (.slice A4_0 ((appA xss ys).1).length c4_0) ((appA xss ys).1), rws_ (.slice A5_0 (xss).length c5_0) (markSS (1) (xss)), rw_ (.slice A6_0 (ys).length c6_0) (countFrom (1 + lenSS (xss)) (ys).length)] [rws_ (.slice A9_0 (xss).length c9_0) (xss), rw_ (.slice A11_0 (ys).length c11_0) (ys)] hS16) (by omega) (by omega) (by omega)).mono ?_
  rintro e w17 ⟨rfl, hq⟩
  have hb17 := hb16.trans (hq.mono hb16.size)
  have hS17 := hS16.below hq
  clear hb16 hS16 hq
  go_wp2_with fail
  refine (toSS_any (g0.below hb17 hB0) (Nat.le_trans hB0 hb17.size) (by omega)).mono ?_
  rintro e w18 ⟨q18_0, rfl, ho18, hq⟩
  have hb18 := hb17.trans (hq.mono hb17.size)
  have hS18 := hS17.join hq (hs_ows ho18 hq)
  clear hb17 hS17 hq ho18
  obtain ⟨A18_0, c18_0, rfl, -⟩ := id (Hs.rdS [rws_ (.slice A2_0 (xss).length c2_0) (xss), rw_ (.slice A3_0 (ys).length c3_0) (ys), rw_ (.slice A4_0 ((appA xss ys).1).length c4_0) ((appA xss ys).1), rws_ (.slice A5_0 (xss).length c5_0) (markSS (1) (xss)), rw_ (.slice A6_0 (ys).length c6_0) (countFrom (1 + lenSS (xss)) (ys).length), rw_ (.slice A7_0 ((appA xss ys).1).length c7_0) (countFrom (1) ((appA xss ys).1).length), rws_ (.slice A9_0 (xss).length c9_0) (xss), rw_ (.slice A11_0 (ys).length c11_0) (ys)] [] hS18)
  go_wp2_with fail
  refine (toInts_any _ _ _ _ (g1.below hb18 hB0) (Nat.le_trans hB0 hb18.size) (by omega)).mono ?_
  rintro e w19 ⟨q19_0, rfl, ho19, hq⟩
  have hb19 := hb18.trans (hq.mono hb18.size)
  have hS19 := hS18.join hq (hs_ow ho19 hq)
  clear hb18 hS18 hq ho19
  obtain ⟨A19_0, c19_0, rfl, -⟩ := id (Hs.rd [rws_ (.slice A2_0 (xss).length c2_0) (xss), rw_ (.slice A3_0 (ys).length c3_0) (ys), rw_ (.slice A4_0 ((appA xss ys).1).length c4_0) ((appA xss ys).1), rws_ (.slice A5_0 (xss).length c5_0) (markSS (1) (xss)), rw_ (.slice A6_0 (ys).length c6_0) (countFrom (1 + lenSS (xss)) (ys).length), rw_ (.slice A7_0 ((appA xss ys).1).length c7_0) (countFrom (1) ((appA xss ys).1).length), rws_ (.slice A9_0 (xss).length c9_0) (xss), rw_ (.slice A11_0 (ys).length c11_0) (ys), rws_ (.slice A18_0 (xss).length c18_0) (xss)] [] hS19)
  go_wp2_with fail
  refine (impl_ApplyAction_any _ _ xss ys _ _ (Hs.rdS [rws_ (.slice A2_0 (xss).length c2_0) (xss), rw_ (.slice A3_0 (ys).length c3_0) (ys), rw_ (.slice A4_0 ((appA xss ys).1).length c4_0) ((appA xss ys).1), rws_ (.slice A5_0 (xss).length c5_0) (markSS (1) (xss)), rw_ (.slice A6_0 (ys).length c6_0) (countFrom (1 + lenSS (xss)) (ys).length), rw_ (.slice A7_0 ((appA xss ys).1).length c7_0) (countFrom (1) ((appA xss ys).1).length), rws_ (.slice A9_0 (xss).length c9_0) (xss), rw_ (.slice A11_0 (ys).length c11_0) (ys)] [rw_ (.slice A19_0 (ys).length c19_0) (ys)] hS19) (Hs.rd [rws_ (.slice A2_0 (xss).length c2_0) (xss), rw_ (.slice A3_0 (ys).length c3_0) (ys), rw_ (.slice A4_0 ((appA xss ys).1).length c4_0) ((appA xss ys).1), rws_ (.slice A5_0 (xss).length c5_0) (markSS (1) (xss)), rw_ (.slice A6_0 (ys).length c6_0) (countFrom (1 + lenSS (xss)) (ys).length), rw_ (.slice A7_0 ((appA xss ys).1).length c7_0) (countFrom (1) ((appA xss ys).1).length), rws_ (.slice A9_0 (xss).length c9_0) (xss), rw_ (.slice A11_0 (ys).length c11_0) (ys), rws_ (.slice A18_0 (xss).length c18_0) (xss)] [] hS19) (Nat.le_refl _)).mono ?_
  rintro e w20 ⟨q20_0, rfl, ho20, hq⟩
  have hb20 := hb19.trans (hq.mono hb19.size)
  have hS20 := hS19.join hq (hs_ow ho20 hq)
  clear hb19 hS19 hq ho20
  obtain ⟨A20_0, c20_0, rfl, -⟩ := id (Hs.rd [rws_ (.slice A2_0 (xss).length c2_0) (xss), rw_ (.slice A3_0 (ys).length c3_0) (ys), rw_ (.slice A4_0 ((appA xss ys).1).length c4_0) ((appA xss ys).1), rws_ (.slice A5_0 (xss).length c5_0) (markSS (1) (xss)), rw_ (.slice A6_0 (ys).length c6_0) (countFrom (1 + lenSS (xss)) (ys).length), rw_ (.slice A7_0 ((appA xss ys).1).length c7_0) (countFrom (1) ((appA xss ys).1).length), rws_ (.slice A9_0 (xss).length c9_0) (xss), rw_ (.slice A11_0 (ys).length c11_0) (ys), rws_ (.slice A18_0 (xss).length c18_0) (xss), rw_ (.slice A19_0 (ys).length c19_0) (ys)] [] hS20)
  go_wp2_with fail
  refine (eqInts_yes (Hs.rd [rws_ (.slice A2_0 (xss).length c2_0) (xss), rw_ (.slice A3_0 (ys).length c3_0) (ys), rw_ (.slice A4_0 ((appA xss ys).1).length c4_0) ((appA xss ys).1), rws_ (.slice A5_0 (xss).length c5_0) (markSS (1) (xss)), rw_ (.slice A6_0 (ys).length c6_0) (countFrom (1 + lenSS (xss)) (ys).length), rw_ (.slice A7_0 ((appA xss ys).1).length c7_0) (countFrom (1) ((appA xss ys).1).length), rws_ (.slice A9_0 (xss).length c9_0) (xss), rw_ (.slice A11_0 (ys).length c11_0) (ys), rws_ (.slice A18_0 (xss).length c18_0) (xss), rw_ (.slice A19_0 (ys).length c19_0) (ys)] [] hS20) (Hs.rd [rws_ (.slice A2_0 (xss).length c2_0) (xss), rw_ (.slice A3_0 (ys).length c3_0) (ys)] [rws_ (.slice A5_0 (xss).length c5_0) (markSS (1) (xss)), rw_ (.slice A6_0 (ys).length c6_0) (countFrom (1 + lenSS (xss)) (ys).length), rw_ (.slice A7_0 ((appA xss ys).1).length c7_0) (countFrom (1) ((appA xss ys).1).length), rws_ (.slice A9_0 (xss).length c9_0) (xss), rw_ (.slice A11_0 (ys).length c11_0) (ys), rws_ (.slice A18_0 (xss).length c18_0) (xss), rw_ (.slice A19_0 (ys).length c19_0) (ys), rw_ (.slice A20_0 ((appA xss ys).1).length c20_0) ((appA xss ys).1)] hS20) rfl).mono ?_
  rintro e w21 ⟨rfl, hq⟩
  have hb21 := hb20.trans (hq.mono hb20.size)
  have hS21 := hS20.below hq
  clear hb20 hS20 hq
  go_wp2_with fail
  refine (heldInts_quiet (Hs.rd [rws_ (.slice A2_0 (xss).length c2_0) (xss), rw_ (.slice A3_0 (ys).length c3_0) (ys), rw_ (.slice A4_0 ((appA xss ys).1).length c4_0) ((appA xss ys).1), rws_ (.slice A5_0 (xss).length c5_0) (markSS (1) (xss)), rw_ (.slice A6_0 (ys).length c6_0) (countFrom (1 + lenSS (xss)) (ys).length)] [rws_ (.slice A9_0 (xss).length c9_0) (xss), rw_ (.slice A11_0 (ys).length c11_0) (ys), rws_ (.slice A18_0 (xss).length c18_0) (xss), rw_ (.slice A19_0 (ys).length c19_0) (ys), rw_ (.slice A20_0 ((appA xss ys).1).length c20_0) ((appA xss ys).1)] hS21) (by omega) (by omega) (by omega)).mono ?_
  rintro e w22 ⟨rfl, hq⟩
  have hb22 := hb21.trans (hq.mono hb21.size)
  have hS22 := hS21.below hq
  clear hb21 hS21 hq
  go_wp2_with fail
  go_ret
  exact ⟨rfl, hA0.trans (hb22.mono hB0)⟩

set_option maxRecDepth 100000 in
theorem lifted (os : Os) (started : os.Started) (H : Type) (enc : TypeId × Value → H) :
    ReturnsInHanded {} Try.checked os 3 .any (Rows.fnExactApplyActionSpec.pre6 enc Try.prog Try.f3 Rows.fnExactApplyActionRow.domain false) (Rows.fnExactApplyActionSpec.post enc Try.prog Try.f3 false true false false) := by
  refine returnsInHanded_of_change (C := Try.checked) own_knob started (by kernel_rfl) Try.func3
    (ChangeSpec.witness6 (enc := enc) (C := Try.checked) false ⟨#[], #[.slice none 0 0, .slice none 0 0], []⟩ 8 (by kernel_rfl) (by kernel_rfl) (by kernel_rfl) (by kernel_rfl)) ?_
  intro W base args ds gs before hval0 hW hcnd _
  have hval : ∀ (j : Nat) t v, Try.f3.params[j]? = some t → args[j]? = some v → Value.okWide Try.prog W .any base t v := hval0
  have hW' := hW
  obtain ⟨p, q, hA0, hV, rfl, hfz, hnd⟩ := hW
  have hA : DataW.TrodAll enc Try.prog W 0 (fun _ => true) true Try.f3.params.toList args.toList ds p := hA0
  rw [Try.params3] at hA hval
  obtain ⟨v0, vs0, d0, ds0, p0, q0, hargs, rfl, rfl, h0, r0⟩ := trodAll_cons hA
  obtain ⟨v1, vs1, d1, ds1, p1, q1, rfl, rfl, rfl, h1, r1⟩ := trodAll_cons r0
  obtain ⟨rfl, rfl, rfl⟩ := trodAll_nil r1
  obtain rfl : args = #[v0, v1] := by cases args; simp_all
  obtain ⟨rfl, rfl⟩ := trodVars_none hV
  have k0 := h0
  have lt0 : ∀ x ∈ p0, x.block < W.heap.size := by obtain ⟨m, hm⟩ := k0; exact DataW.trod_lt m _ _ _ hm
  have k1 := h1
  have lt1 : ∀ x ∈ p1, x.block < W.heap.size := by obtain ⟨m, hm⟩ := k1; exact DataW.trod_lt m _ _ _ hm
  obtain ⟨xss, s0, b0⟩ := open_SlS (hval 0 22 v0 rfl rfl) h0
  obtain ⟨ys, s1, b1⟩ := open_Sl (hval 1 23 v1 rfl rfl) h1
  clear hA0 hval0
  refine (walk v0 xss v1 ys W s0 b0 s1 b1).mono fun e W' ⟨he, bel⟩ => ?_
  subst he
  exact ⟨_, rfl, _, _, _, [], _, [], hW', trodAll_mk1 (shut_bool Try.underlying4 _), (trodAll_cons_mk (Below.trod laid_out (by kernel_rfl) (of_decide_eq_true (by kernel_rfl)) k0 bel lt0) (trodAll_cons_mk (Below.trod laid_out (by kernel_rfl) (of_decide_eq_true (by kernel_rfl)) k1 bel lt1) trodAll_mk0)), rfl, bel.frame _, fun h => by cases h⟩

/-- The statement. -/
theorem proved : Rows.FnExactApplyActionSaid :=
  OpenClaim.holds_of_wide 3 Try.f3 rfl rfl rfl rfl rfl rfl rfl ⟨rfl, rfl, rfl, rfl, rfl⟩ rfl rfl rfl rfl rfl (by kernel_rfl) Try.func3 (by kernel_rfl)
    (of_decide_eq_true (by kernel_rfl)) (by unfold Func.isWrapper; first | (rw [if_pos (by decide +kernel)]; kernel_rfl) | (rw [if_neg (by decide +kernel)]; exact ⟨rfl, rfl⟩))
    (fun os started H enc _ => lifted os started H enc)
#print axioms proved
end Go.Proofs.Ytcoocjdkppdlmaa.fnExactApplyAction
